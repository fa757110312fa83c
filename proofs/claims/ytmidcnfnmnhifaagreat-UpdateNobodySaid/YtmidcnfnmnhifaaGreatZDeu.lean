/-
  Package deque: what writes.
-/
import Derived.Test.YtmidcnfnmnhifaaGreatZDeq
import Derived.Test.YtmidcnfnmnhifaaGreatZWza
import Derived.Test.YtmidcnfnmnhifaaGreatZWzb
import Derived.Test.YtmidcnfnmnhifaaGreatZWzc
namespace Go.Proofs.YtmidcnfnmnhifaaGreat
set_option linter.unusedSectionVars false
set_option linter.unusedSimpArgs false
set_option linter.unusedVariables false
open Go Go.Den
set_option linter.unusedVariables false

def capN (n : Int) : Int := if (32768 : Int) < IntKind.wrap .i64 (n + 1) then 32768 else IntKind.wrap .i64 (n + 1)

/-- what Push leaves, and tells -/
def pushD (l : List (Int × Int)) (at' : Int) : List (Int × Int) × Bool :=
  match l.getLast? with
  | none => (l ++ [(at', 1)], true)
  | some c => if at' < c.1 then (l, false) else if at' = c.1 then (l.dropLast ++ [(c.1, capN c.2)], true) else (l ++ [(at', 1)], true)

theorem writeL_mid {pre post : List Value} {x y : Value} : writeL (pre ++ x :: post) pre.length [y] = pre ++ y :: post := by
  unfold writeL
  simp

theorem cellsD_set (l : List (Int × Int)) (c : Int × Int) (n : Int) (h : l.getLast? = some c) : (cellsD l).set ((l.length - 1) * 2 + 1) (.int .i64 n) = cellsD (l.dropLast ++ [(c.1, n)]) := by
  obtain ⟨l', rfl⟩ : ∃ l', l = l' ++ [c] := by
    rw [List.getLast?_eq_some_iff] at h
    exact h
  rw [cellsD_append, List.dropLast_concat, cellsD_append]
  have : (l' ++ [c]).length - 1 = l'.length := by simp
  rw [this, List.set_append_right _ _ (by rw [cellsD_length]; omega), cellsD_length]
  simp [cellsD, show l'.length * 2 + 1 - l'.length * 2 = 1 by omega]

section
variable {a : Base} {R : Asr} {F H : HP} {S : List Nat}

theorem push235 {g : Nat} {e : TypeId} {pre post : List Value} {l : List (Int × Int)} (at' : Int) (gr : Good R) (h : Wd a ((sepc (dqA g e pre post l) R)) F H S) (hlen : l.length < 1000000000) :
    Den.Spec Tryz.prog 235 #[.pointer (some ⟨g, pre.length, none⟩), .int .i64 at'] H fun e' H' => e' = .returned (.bool (pushD l at').2) ∧ ∃ S', Wd a ((sepc (dqA g e pre post (pushD l at').1) R)) F H' S' := by
  have hread := dqA_read h.it
  refine spec235 (WCall.pure (last267 hread (by omega)) ?_)
  have grow : Wd a ((sepc (dqA g e pre post l) R)) F H S → WNonNil (some (⟨g, pre.length, none⟩ : Addr)) (fun q7 =>
    WLoad (Addr.add q7 0) (.l .sl) fun (x8 : Option Go.Addr) (x8_1 : Nat) (x8_2 : Nat) =>
    WNew [(.int .i64 at'), (.int .i64 1)] 292 fun z9 =>
    WPrim Tryz.prog (Builtin.append_ #[252, 252] 252 #[(.slice x8 x8_1 x8_2), (.slice (some ⟨z9, 0, none⟩) 1 1)]) (WOpen (.one (.l .sl)) fun (x10 : Option Go.Addr) (x10_1 : Nat) (x10_2 : Nat) =>
    WNonNil (some (⟨g, pre.length, none⟩ : Addr)) fun q11 =>
    WStore (Addr.add q11 0) [(.slice x10 x10_1 x10_2)] <|
    (fun (e' : Ending) H' => e' = .returned (.bool true) ∧ ∃ S', Wd a ((sepc (dqA g e pre post (l ++ [(at', 1)])) R)) F H' S') (.returned (.bool true)))) H := by
    intro h
    refine WNonNil.some ?_
    obtain ⟨wd, tr, S1, S2, i1, i2, id, ⟨⟨p, c⟩, hA⟩, hR⟩ := h
    have h : Wd a ((sepc ((sepc (blk g e (pre ++ .slice p l.length c :: post)) (ownS 292 2 p l.length c (cellsD l)))) R)) F H S := ⟨wd, tr, S1, S2, i1, i2, id, hA, hR⟩
    refine WLoad.sl (p := p) (n := l.length) (c := c) (by rw [addN]; exact blk_has (star_assoc h.it) (by simp)) ?_
    refine WNew.blk (Good.star (Good.star Good.blk Good.ownS) gr) h fun z H1 hz hle h1 => ?_
    have h2 : Wd a ((sepc (ownS 292 2 p l.length c (cellsD l)) (sepc (blk z 292 [.int .i64 at', .int .i64 1]) (sepc (blk g e (pre ++ .slice p l.length c :: post)) R)))) F H1 (z :: S) :=
      h1.imp fun hh => star_left (star_mono (fun _ h => h) (fun _ h => star_left (star_assoc h)) hh)
    have hz1 : H1 z = some (.cells ⟨[.int .i64 at', .int .i64 1]⟩ 292 (0, 0)) := by
      obtain ⟨T1, T2, _, _, _, h3, _⟩ := h1.it
      exact h3.2
    refine SliceTy.push sliceCell (by omega) (Good.star Good.blk (Good.star Good.blk gr)) h2 (x := ⟨z, 0, none⟩) (m := 1) (news := [.int .i64 at', .int .i64 1]) rfl (has_cells hz1 rfl) (by simp [Value.oneCell']) (by simp only [maxLen]; omega) (by omega) ?_
    intro p' cap H2 S2' h3 _
    refine WOpen.sl (WNonNil.some ?_)
    rw [addN]
    have h4 : Wd a ((sepc (blk g e (pre ++ .slice p l.length c :: post)) (sepc (ownS 292 2 p' (l.length + 1) cap (cellsD l ++ [.int .i64 at', .int .i64 1])) R))) F H2 S2' :=
      h3.imp fun hh => star_left (star_mono (fun _ h => h) (fun _ h => star_snd (Good.star Good.blk gr) h) hh)
    refine WStore.blk (Good.star Good.ownS gr) h4 (by simp) fun H3 h5 => ⟨rfl, S2', h5.imp fun hh => ?_⟩
    rw [Nat.add_zero, writeL_mid] at hh
    refine star_mono (fun T hT => ⟨(p', cap), ?_⟩) (fun _ h => h) (star_assoc' hh)
    simpa [cellsD_append, cellsD] using hT
  unfold lastV pushD
  cases hl : l.getLast? with
  | none =>
    refine WOpen.cb (WIf.f rfl (WIf.f rfl ?_))
    exact grow h
  | some c =>
    refine WOpen.cb ?_
    simp only
    by_cases h1 : at' < c.1
    · rw [if_pos h1]
      exact WIf.t (by simp [h1]) ⟨rfl, S, h⟩
    rw [if_neg h1]
    refine WIf.f (by simp [h1]) ?_
    by_cases h2 : at' = c.1
    · rw [if_pos h2]
      refine WIf.t (by simp [h2]) (WNonNil.some ?_)
      obtain ⟨wd, tr, S1, S2, i1, i2, id, ⟨⟨p, cp⟩, hA⟩, hR⟩ := h
      have h : Wd a ((sepc ((sepc (blk g e (pre ++ .slice p l.length cp :: post)) (ownS 292 2 p l.length cp (cellsD l)))) R)) F H S := ⟨wd, tr, S1, S2, i1, i2, id, hA, hR⟩
      have hh0 : H.has ⟨g, pre.length + 0, none⟩ [.slice p l.length cp] := blk_has (star_assoc h.it) (by simp)
      refine WLoad.sl (p := p) (n := l.length) (c := cp) (by rw [addN]; exact hh0) (WNonNil.some (WLoad.sl (p := p) (n := l.length) (c := cp) (by rw [addN]; exact hh0) ?_))
      have hpos : 0 < l.length := by
        cases l with
        | nil => cases hl
        | cons => simp
      rw [wrapP (by omega) hpos]
      have h' : Wd a ((sepc (ownS 292 2 p l.length cp (cellsD l)) (sepc (blk g e (pre ++ .slice p l.length cp :: post)) R))) F H S := h.imp fun hh => star_left (star_assoc hh)
      obtain ⟨g', hp, _⟩ := ownS_at (l := l) (star_fst Good.ownS h'.it) (l.length - 1) (by omega)
      refine WIndex.at' hp (Nat.sub_lt hpos (by omega)) ?_
      rw [addN, addN, Int.toNat_natCast, Nat.zero_add]
      refine WStore.own (Good.star Good.blk gr) h' hp (by omega) fun H1 h3 => ⟨rfl, S, h3.imp fun hh => ?_⟩
      have := cellsD_set l c (capN c.2) hl
      unfold capN at this
      rw [this] at hh
      refine star_mono (fun T hT => ⟨(p, cp), ?_⟩) (fun _ h => h) (star_assoc' (star_left hh))
      have hlen' : (l.dropLast ++ [(c.1, capN c.2)]).length = l.length := by simp; omega
      rw [hlen']
      exact hT
    · rw [if_neg h2]
      exact WIf.f (by simp [h2]) (grow h)

theorem clear232 {g : Nat} {e : TypeId} {pre post : List Value} {l : List (Int × Int)} (gr : Good R) (h : Wd a ((sepc (dqA g e pre post l) R)) F H S) :
    Den.Spec Tryz.prog 232 #[.pointer (some ⟨g, pre.length, none⟩)] H fun e' H' => e' = .returned (.tuple #[]) ∧ ∃ S', Wd a ((sepc (dqA g e pre post []) R)) F H' S' := by
  refine spec232 (WIf.t rfl (WNonNil.some ?_))
  obtain ⟨wd, tr, S1, S2, i1, i2, id, ⟨⟨p, c⟩, hA⟩, hR⟩ := h
  have h : Wd a ((sepc ((sepc (blk g e (pre ++ .slice p l.length c :: post)) (ownS 292 2 p l.length c (cellsD l)))) R)) F H S := ⟨wd, tr, S1, S2, i1, i2, id, hA, hR⟩
  rw [addN]
  refine WStore.blk (Good.star Good.ownS gr) (h.imp star_assoc) (by simp) fun H1 h1 => ⟨rfl, S, h1.imp fun hh => ?_⟩
  rw [Nat.add_zero, writeL_mid] at hh
  exact star_mono (fun T hT => ⟨(none, 0), star_mono (fun _ h => h) (fun _ _ => ownS_nil) hT⟩) (fun _ h => h) (star_assoc' hh)

/-- a copy of its own -/
theorem clone279 {p : Option Addr} {l : List (Int × Int)} {c : Nat} (gr : Good R) (h : Wd a R F H S) (hlen : l.length < 1000000000)
    (hp : ∀ i (h : i < l.length), ∃ g, p = some ⟨g, 0, none⟩ ∧ H.has ⟨g, i * 2, none⟩ [.int .i64 l[i].1, .int .i64 l[i].2]) :
    Den.Spec Tryz.prog 279 #[.slice p l.length c] H fun e' H' => ∃ p' c' S', e' = .returned (.slice p' l.length c') ∧ Wd a ((sepc (ownS 292 2 p' l.length c' (cellsD l)) R)) F H' S' := by
  refine spec279 ?_
  cases p with
  | none =>
    have : l = [] := by
      cases l with
      | nil => rfl
      | cons x l => obtain ⟨g, h1, _⟩ := hp 0 (by simp); cases h1
    subst this
    exact WIf.t rfl ⟨none, 0, S, rfl, h.imp fun hh => star_mono (fun _ _ => ownS_nil) (fun _ h => h) (emp_star hh)⟩
  | some x =>
    refine WIf.f rfl ?_
    refine WNew.blk gr h fun z H1 hz hle h1 => ?_
    have h2 : Wd a ((sepc (ownS 292 2 (some ⟨z, 0, none⟩) 0 0 []) R)) F H1 (z :: S) := h1.imp fun hh => star_mono (fun _ h => ⟨rfl, .inr ⟨z, ⟨[]⟩, rfl, h.1, h.2, Nat.le_refl _, by simp [maxLen], rfl, rfl⟩⟩) (fun _ h => h) hh
    refine SliceTy.push sliceCell (by omega) gr h2 (x := x) (m := l.length) (news := cellsD l) (cellsD_length l) ?_ (cellsD_one l) (by simp only [maxLen]; omega) (by omega) ?_
    · intro i v hi
      have hlt : i < l.length * 2 := by
        rcases Nat.lt_or_ge i (cellsD l).length with h | h
        · rw [cellsD_length] at h; exact h
        · rw [List.getElem?_eq_none h] at hi; cases hi
      obtain ⟨g, hx, hh⟩ := hp (i / 2) (by omega)
      cases hx
      have hat := cellsD_at (l := l) (i := i / 2) (by omega)
      have h3 : (cellsD l)[i]? = [Value.int .i64 l[i / 2].1, .int .i64 l[i / 2].2][i % 2]? := by
        rw [← hat, List.getElem?_take_of_lt (by omega), List.getElem?_drop]
        congr 1
        omega
      rw [h3] at hi
      have := hle.has hh (i % 2) v hi
      rw [addN] at this ⊢
      rwa [show 0 + i = i / 2 * 2 + i % 2 by omega]
    · intro p' cap H2 S2 h3 _
      simp only [Nat.zero_add, List.nil_append] at h3 ⊢
      exact WOpen.sl ⟨p', cap, S2, rfl, h3⟩
end
end Go.Proofs.YtmidcnfnmnhifaaGreat
