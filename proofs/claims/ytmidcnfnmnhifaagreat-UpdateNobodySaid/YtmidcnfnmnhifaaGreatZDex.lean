/-
  Package deque: All, Sum, Clone, Prune; slices.Delete.
-/
import Derived.Test.YtmidcnfnmnhifaaGreatZDew
namespace Go.Proofs.YtmidcnfnmnhifaaGreat
set_option linter.unusedSectionVars false
set_option linter.unusedSimpArgs false
set_option linter.unusedVariables false
open Go Go.Den
set_option linter.unusedVariables false

def sumD : Int → List (Int × Int) → Int
  | n, [] => n
  | n, c :: l => sumD (IntKind.wrap .i64 (n + c.2)) l

theorem zeroCell (w : World) : ∃ z, (zeroValue 292).run Tryz.prog w = .ok z w ∧ z.cells.size = 2 ∧ ∀ v ∈ z.cells.toList, v.oneCell' = true := by
  have h : (Tryz.prog.info? 292).map (·.zero) = some (some (.agg #[.int .i64 0, .int .i64 0])) := by kernel_rfl
  cases hi : Tryz.prog.info? 292 with
  | none => rw [hi] at h; cases h
  | some i =>
    rw [hi] at h
    simp only [Option.map_some, Option.some.injEq] at h
    refine ⟨.agg #[.int .i64 0, .int .i64 0], ?_, rfl, by simp [Value.cells, Value.oneCell']⟩
    simp [zeroValue, typeInfo, hi, h, Result.andThen]

section
variable {a : Base} {R : Asr} {F H : HP} {S : List Nat}

theorem all256 {g off : Nat} {l : List (Int × Int)} (gr : Good R) (h : Wd a R F H S) (hd : DqH H ⟨g, off, none⟩ l) (hlen : l.length < 1000000000) :
    Den.Spec Tryz.prog 256 #[.pointer (some ⟨g, off, none⟩)] H fun e' H' => ∃ p' c' S', e' = .returned (.slice p' l.length c') ∧ Wd a ((sepc (ownS 292 2 p' l.length c' (cellsD l)) R)) F H' S' := by
  obtain ⟨p, c, h1, h2⟩ := hd
  refine spec256 (WIf.f rfl (WNonNil.some (WLoad.sl (by rw [addN]; exact h1) ?_)))
  refine WCall.of (clone279 gr h hlen h2) ?_ ?_
  · rintro v H' ⟨p', c', S', hv, hw⟩
    cases hv
    exact WOpen.sl ⟨p', c', S', rfl, hw⟩
  · rintro e H' ⟨p', c', S', hv, hw⟩ hne
    exact absurd hv (hne _)

theorem sum236 {g off : Nat} {l : List (Int × Int)} (gr : Good R) (h : Wd a R F H S) (hd : DqH H ⟨g, off, none⟩ l) (hlen : l.length < 1000000000) :
    Den.Spec Tryz.prog 236 #[.pointer (some ⟨g, off, none⟩)] H fun e' H' => e' = .returned (.int .i64 (sumD 0 l)) ∧ ∃ S', Wd a R F H' S' := by
  refine spec236 (WCall.of (all256 gr h hd hlen) ?_ ?_)
  · rintro v H1 ⟨p, c, S1, hv, hw⟩
    cases hv
    refine WOpen.sl ?_
    refine WLoop.run l.length (fun x => x.1.2.1.toNat) (fun i x H' => H' = H1 ∧ ∃ n, x = ((n, ((i : Int), ())), ()) ∧ sumD 0 l = sumD n (l.drop i)) 0 ⟨rfl, 0, rfl, by simp⟩ (Nat.zero_le _) ?_ ?_
    · rintro i x H ⟨_, n, rfl, _⟩; simp
    · rintro i x H2 again - hi ⟨rfl, n, rfl, hn⟩ hag
      by_cases hlt : i < l.length
      · refine WIf.t (by simpa using hlt) ?_
        obtain ⟨g', hp, hh⟩ := ownS_at (l := l) (star_fst Good.ownS hw.it) i hlt
        refine WIndex.at' hp hlt (WLoad.ii (n := l[i].1) (m := l[i].2) (by rw [addN, Int.toNat_natCast, Nat.zero_add]; exact hh) ?_)
        rw [List.drop_eq_getElem_cons hlt] at hn
        rw [wrapS (by omega)]
        exact hag _ _ hlt ⟨rfl, _, rfl, hn⟩
      · refine WIf.f (by simpa using hlt) ⟨?_, S1, hw.imp fun hh => star_snd gr hh⟩
        rw [hn, List.drop_eq_nil_iff.2 (by omega)]
        rfl
  · rintro e H' ⟨p', c', S', hv, hw⟩ hne
    exact absurd hv (hne _)

theorem clone219 {g off : Nat} {l : List (Int × Int)} (gr : Good R) (h : Wd a R F H S) (hd : DqH H ⟨g, off, none⟩ l) (hlen : l.length < 1000000000) :
    Den.Spec Tryz.prog 219 #[.pointer (some ⟨g, off, none⟩)] H fun e' H' => ∃ z p' c' S', e' = .returned (.pointer (some ⟨z, 0, none⟩)) ∧ H' z = some (.cells ⟨[.slice p' l.length c']⟩ 254 (0, 0)) ∧ Wd a ((sepc (ownS 292 2 p' l.length c' (cellsD l)) R)) F H' S' := by
  refine spec219 (WIf.f rfl (WCall.of (all256 gr h hd hlen) ?_ ?_))
  · rintro v H1 ⟨p, c, S1, hv, hw⟩
    cases hv
    refine WOpen.sl ?_
    refine WNew.blk (Good.star Good.ownS gr) hw fun z H2 hz hle h2 => ⟨z, p, c, _, rfl, blk_at h2.it, h2.imp fun hh => star_snd (Good.star Good.ownS gr) hh⟩
  · rintro e H' ⟨p', c', S', hv, hw⟩ hne
    exact absurd hv (hne _)

theorem delete266 {p : Option Addr} {c i : Nat} {l : List (Int × Int)} (gr : Good R) (h : Wd a ((sepc (ownS 292 2 p l.length c (cellsD l)) R)) F H S) (hi : 0 < i) (hil : i ≤ l.length) (hlen : l.length < 1000000000) :
    Den.Spec Tryz.prog 266 #[.slice p l.length c, .int .i64 0, .int .i64 (i : Int)] H fun e' H' => ∃ p' c' S', e' = .returned (.slice p' (l.drop i).length c') ∧ Wd a ((sepc (ownS 292 2 p' (l.drop i).length c' (cellsD (l.drop i))) R)) F H' S' := by
  have hcopy := h
  obtain ⟨wd, tr, S1, S2, i1, i2, idj, hA, hR⟩ := h
  obtain ⟨hx, h4⟩ := hA
  rcases h4 with ⟨rfl, h0, rfl⟩ | ⟨g, cur, rfl, hgS, hg, q1, q2, q3, q4⟩
  · omega
  refine spec266 ?_
  refine SliceTy.slice3 sliceCell (by omega) (by omega) (by omega) (by omega) ?_
  refine WOpen.sl (WIf.f (beq_false_of_ne (by omega)) ⟨⟨by omega, by omega, by omega⟩, ⟨by omega, by omega, by omega⟩, ?_⟩)
  have hd0 : (if c = 0 then some (⟨g, 0, none⟩ : Addr) else Option.map (fun x => Addr.add x 0) (some ⟨g, 0, none⟩)) = some ⟨g, 0, none⟩ := by
    split
    · rfl
    · simp [addN]
  simp only [Int.toNat_natCast, Int.toNat_zero, Nat.sub_zero]
  rw [hd0]
  have hlenD : (l.drop i).length = l.length - i := List.length_drop
  have hnews : H.has ⟨g, i * 2, none⟩ (cellsD (l.drop i)) := by
    by_cases hne : cellsD (l.drop i) = []
    · rw [hne]; intro j v hj; simp at hj
    · obtain ⟨g', hp, hh⟩ := ownS_has (i := i * 2) (vs := cellsD (l.drop i)) (star_fst Good.ownS hcopy.it) (by rw [cellsD_drop]; exact List.take_length) hne
      cases hp
      exact hh
  have hown : Wd a ((sepc (ownS 292 2 (some ⟨g, 0, none⟩) 0 c []) R)) F H S := ⟨wd, tr, S1, S2, i1, i2, idj, ⟨rfl, .inr ⟨g, cur, rfl, hgS, hg, Nat.zero_le _, q2, q3, by simp⟩⟩, hR⟩
  obtain ⟨x, hxe, hxh⟩ : ∃ x, (if c = i then some (⟨g, 0, none⟩ : Addr) else Option.map (fun x => Addr.add x (i * 2)) (some ⟨g, 0, none⟩)) = some x ∧ H.has x (cellsD (l.drop i)) := by
    split
    · rename_i hci
      have : l.drop i = [] := List.drop_eq_nil_iff.2 (by omega)
      rw [this]
      exact ⟨_, rfl, fun j v hj => by simp [cellsD] at hj⟩
    · exact ⟨⟨g, i * 2, none⟩, by simp [addN], hnews⟩
  rw [hxe, ← hlenD]
  refine SliceTy.push sliceCell (by omega) gr hown (m := (l.drop i).length) (news := cellsD (l.drop i)) (cellsD_length _) hxh (cellsD_one _) (by rw [hlenD]; simp only [maxLen]; omega) (by omega) ?_
  intro p' cap H2 S2' h3 hfit
  simp only [Nat.zero_add, List.nil_append] at h3 hfit ⊢
  obtain ⟨rfl, rfl⟩ := hfit (by rw [hlenD]; omega)
  refine WOpen.sl ⟨⟨by omega, by rw [hlenD]; omega, by omega⟩, ?_⟩
  rw [if_neg (by rw [hlenD]; omega), Option.map_some, addN, Nat.zero_add]
  refine SliceTy.clear sliceCell zeroCell gr h3 rfl (Nat.le_refl _) (by rw [hlenD]; omega) (by rw [hlenD]; omega) fun H3 h5 => ?_
  exact WOpen.u ⟨_, _, _, rfl, h5⟩

def pruneD (l : List (Int × Int)) (from' : Int) : List (Int × Int) := l.dropWhile fun c => decide (c.1 < from')
def pruneN (l : List (Int × Int)) (from' : Int) : Nat := (l.takeWhile fun c => decide (c.1 < from')).length

theorem prune_drop (l : List (Int × Int)) (f : Int) : pruneD l f = l.drop (pruneN l f) := by
  unfold pruneD pruneN
  induction l with
  | nil => rfl
  | cons c l ih =>
    by_cases h : c.1 < f
    · simp [List.dropWhile, List.takeWhile, h, ih]
    · simp [List.dropWhile, List.takeWhile, h]

theorem pruneN_of {l : List (Int × Int)} {f : Int} {i : Nat} (hi : i ≤ l.length) (h1 : ∀ j (h : j < l.length), j < i → l[j].1 < f) (h2 : ∀ h : i < l.length, ¬ l[i].1 < f) : pruneN l f = i := by
  unfold pruneN
  induction l generalizing i with
  | nil => simp at hi; simp [hi]
  | cons c l ih =>
    cases i with
    | zero =>
      have := h2 (by simp)
      simp only [List.getElem_cons_zero] at this
      simp [List.takeWhile, this]
    | succ i =>
      have := h1 0 (by simp) (by omega)
      simp only [List.getElem_cons_zero] at this
      simp only [List.takeWhile, this, decide_true, List.length_cons]
      rw [ih (i := i) (by simpa using hi) (fun j h hj => h1 (j + 1) (by simpa using h) (by omega)) (fun h => h2 (by simpa using h))]

theorem prune234 {g : Nat} {e : TypeId} {pre post : List Value} {l : List (Int × Int)} (f : Int) (gr : Good R) (h : Wd a ((sepc (dqA g e pre post l) R)) F H S) (hlen : l.length < 1000000000) :
    Den.Spec Tryz.prog 234 #[.pointer (some ⟨g, pre.length, none⟩), .int .i64 f] H fun e' H' => e' = .returned (.int .i64 (pruneN l f)) ∧ ∃ S', Wd a ((sepc (dqA g e pre post (pruneD l f)) R)) F H' S' := by
  have hread := dqA_read h.it
  refine spec234 ?_
  have cut : ∀ i : Nat, i ≤ l.length → pruneN l f = i → 
      WIf (decide ((i : Int) > 0)) (WNonNil (some (⟨g, pre.length, none⟩ : Addr)) fun q7 =>
       WLoad (Addr.add q7 0) (.l .sl) fun (x8 : Option Go.Addr) (x8_1 : Nat) (x8_2 : Nat) =>
       WCall Tryz.prog (fun (e' : Ending) H' => e' = .returned (.int .i64 (pruneN l f)) ∧ ∃ S', Wd a ((sepc (dqA g e pre post (pruneD l f)) R)) F H' S') 266 #[(.slice x8 x8_1 x8_2), (.int .i64 0), (.int .i64 (i : Int))] (WOpen (.one (.l .sl)) fun (x9 : Option Go.Addr) (x9_1 : Nat) (x9_2 : Nat) =>
       WNonNil (some (⟨g, pre.length, none⟩ : Addr)) fun q10 =>
       WStore (Addr.add q10 0) [(.slice x9 x9_1 x9_2)] <|
       (fun (e' : Ending) H' => e' = .returned (.int .i64 (pruneN l f)) ∧ ∃ S', Wd a ((sepc (dqA g e pre post (pruneD l f)) R)) F H' S') (.returned (.int .i64 (i : Int)))))
      ((fun (e' : Ending) H' => e' = .returned (.int .i64 (pruneN l f)) ∧ ∃ S', Wd a ((sepc (dqA g e pre post (pruneD l f)) R)) F H' S') (.returned (.int .i64 (i : Int)))) H := by
    intro i hi hn
    rw [prune_drop, hn]
    refine WIf.intro (fun hpos => ?_) (fun hz => ?_)
    · have hpos : 0 < i := by have := of_decide_eq_true hpos; omega
      refine WNonNil.some ?_
      obtain ⟨wd, tr, S1, S2, i1, i2, idj, ⟨⟨p, c⟩, hA⟩, hR⟩ := h
      have h : Wd a ((sepc ((sepc (blk g e (pre ++ .slice p l.length c :: post)) (ownS 292 2 p l.length c (cellsD l)))) R)) F H S := ⟨wd, tr, S1, S2, i1, i2, idj, hA, hR⟩
      refine WLoad.sl (p := p) (n := l.length) (c := c) (by rw [addN]; exact blk_has (star_assoc h.it) (by simp)) ?_
      refine WCall.of (delete266 (Good.star Good.blk gr) (h.imp fun hh => star_left (star_assoc hh)) hpos hi hlen) ?_ ?_
      · rintro v H1 ⟨p', c', S1', hv, hw⟩
        cases hv
        refine WOpen.sl (WNonNil.some ?_)
        rw [addN]
        refine WStore.blk (Good.star Good.ownS gr) (hw.imp star_left) (by simp) fun H2 h2 => ⟨rfl, _, h2.imp fun hh => ?_⟩
        rw [Nat.add_zero, writeL_mid] at hh
        exact star_mono (fun T hT => ⟨(p', c'), hT⟩) (fun _ h => h) (star_assoc' hh)
      · rintro e H' ⟨p', c', S', hv, hw⟩ hne
        exact absurd hv (hne _)
    · have hz : i = 0 := by have := of_decide_eq_false hz; omega
      subst hz
      exact ⟨rfl, S, by rw [List.drop_zero]; exact h⟩
  refine WLoop.up l.length 0 (fun i => ∀ j (h : j < l.length), j < i → l[j].1 < f) (fun j _ h => by omega) (Nat.zero_le _) ?_
  intro i again _ hi hI hag
  refine WCall.pure (len217 hread) (WOpen.i ?_)
  by_cases hlt : i < l.length
  · refine WIf.t (by simpa using hlt) (WNonNil.some ?_)
    obtain ⟨p, c, h1, h2⟩ := hread
    refine WLoad.sl (by rw [addN]; exact h1) ?_
    obtain ⟨g', hp, hh⟩ := h2 i hlt
    refine WIndex.at' hp hlt (WLoad.i (n := l[i].1) ?_ ?_)
    · rw [addN, addN, Int.toNat_natCast, Nat.zero_add]
      have := hasOne hh (j := 0) rfl
      rwa [addN] at this
    · refine WIf.intro (fun hc => ?_) (fun hc => ?_)
      · rw [wrapS (by omega)]
        refine hag hlt fun j hj hji => ?_
        by_cases e : j = i
        · subst e; exact of_decide_eq_true hc
        · exact hI j hj (by omega)
      · exact cut i hi (pruneN_of hi hI fun _ => of_decide_eq_false hc)
  · refine WIf.f (by simpa using hlt) ?_
    exact cut i hi (pruneN_of hi hI fun h => absurd h hlt)
end
end Go.Proofs.YtmidcnfnmnhifaaGreat
