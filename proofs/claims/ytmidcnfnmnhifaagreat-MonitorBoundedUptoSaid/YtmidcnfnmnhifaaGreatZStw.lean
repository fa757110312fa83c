/-
  Package store: New, Set, Clone, Count.
-/
import Derived.Test.YtmidcnfnmnhifaaGreatZSto
namespace Go.Proofs.YtmidcnfnmnhifaaGreat
set_option linter.unusedSectionVars false
set_option linter.unusedSimpArgs false
set_option linter.unusedVariables false
open Go Go.Den
set_option linter.unusedVariables false

def declC (d : ByteArray × Int) : List Value := [.string d.1, .int .i64 d.2]
def DeclsAt (F : HP) (p : Option Addr) (l : List (ByteArray × Int)) : Prop := ∀ (i : Nat) d, l[i]? = some d → ∃ a, p = some a ∧ F.has (a.add (i * 2)) (declC d)
theorem DeclsAt.mono {F F' : HP} (h : F.le F') {p : Option Addr} {l : List (ByteArray × Int)} (hs : DeclsAt F p l) : DeclsAt F' p l :=
  fun i x hi => let ⟨a, h1, h2⟩ := hs i x hi; ⟨a, h1, h.has h2⟩
theorem DeclsAt.nil {F : HP} {p : Option Addr} : DeclsAt F p [] := fun i x h => by simp at h

def addK (ks : List (ByteArray × Int)) (d : ByteArray × Int) : List (ByteArray × Int) := if lk ks d.1 = none ∧ 1 ≤ d.2 ∧ d.2 ≤ 4 then ks ++ [d] else ks
def newKs (l : List (ByteArray × Int)) : List (ByteArray × Int) := l.foldl addK []
def Sto.new (l : List (ByteArray × Int)) : Sto := ⟨newKs l, []⟩

theorem addK_ok {ks : List (ByteArray × Int)} {d : ByteArray × Int} (hd : d.1.size ≤ maxLen) (h : (⟨ks, []⟩ : Sto).Ok) : (⟨addK ks d, []⟩ : Sto).Ok := by
  unfold addK
  split
  · rename_i hc
    refine ⟨fun x hx => ?_, ?_, fun x hx => by simp at hx, by simp⟩
    · rcases List.mem_append.1 hx with hx | hx
      · exact h.k1 x hx
      · simp at hx; subst hx; exact ⟨hd, hc.2⟩
    · simp only [List.map_append, List.map_cons, List.map_nil]
      rw [List.nodup_append]
      refine ⟨h.k2, by simp, fun x hx y hy => ?_⟩
      simp at hy
      subst hy
      obtain ⟨z, hz, rfl⟩ := List.mem_map.1 hx
      exact lk_none_iff.1 hc.1 z hz
  · exact h

theorem newKs_ok (l : List (ByteArray × Int)) (hl : ∀ d ∈ l, d.1.size ≤ maxLen) : ∀ ks, (⟨ks, []⟩ : Sto).Ok → (⟨l.foldl addK ks, []⟩ : Sto).Ok := by
  induction l with
  | nil => exact fun ks h => h
  | cons d l ih => exact fun ks h => ih (fun x hx => hl x (by simp [hx])) _ (addK_ok (hl d (by simp)) h)
theorem empty_ok : (⟨[], []⟩ : Sto).Ok := ⟨by simp, by simp, by simp, by simp⟩
theorem Sto.new_ok {l : List (ByteArray × Int)} (hl : ∀ d ∈ l, d.1.size ≤ maxLen) : (Sto.new l).Ok := newKs_ok l hl [] empty_ok

section
variable {a : Base} {R : Asr} {F H : HP} {S : List Nat}

theorem WOpen.mb {n : Int} {b : Bool} {body : Int → Bool → W} (h : body n b H) : WOpen (.tup [(.l (.i .i64)), (.l .b)]) body (.tuple #[.int .i64 n, .bool b]) H := ⟨(n, b, ()), rfl, h⟩

theorem new23 {p : Option Addr} {l : List (ByteArray × Int)} (c : Nat) (gr : Good R) (h : Wd a R F H S) (hp : DeclsAt F p l) (hl : ∀ d ∈ l, d.1.size ≤ maxLen) (hlen : l.length < 1000000000) :
    Den.Spec Tryz.prog 23 #[.slice p l.length c] H fun e H' => ∃ g S', e = .returned (.pointer (some ⟨g, 0, none⟩)) ∧ Wd a ((sepc (storeA g (Sto.new l)) R)) F H' S' := by
  refine spec23 (WPrim.makeMap gr h fun rk H1 hrk _ h1 => WOpen.m (WPrim.makeMap (Good.star Good.mapO gr) h1 fun rs H2 hrs _ h2 => WOpen.m ?_))
  refine WNew.blk (Good.star Good.mapO (Good.star Good.mapO gr)) h2 fun z H3 hz _ h3 => ?_
  refine WLoop.run l.length (fun x => x.1.1.toNat) (fun i x H' => x = (((i : Int), ()), ()) ∧ Wd a ((sepc (blk z 113 [.map (some rk), .map (some rs)]) (sepc (mapO rk ((newKs (l.take i)).map kEnt)) (sepc (mapO rs []) R)))) F H' (z :: rs :: rk :: S)) 0
    ⟨rfl, h3.imp fun hh => star_mono (fun _ h => h) (fun _ h => star_left h) hh⟩ (Nat.zero_le _) (by rintro i x H ⟨rfl, _⟩; simp) ?_
  rintro i x H4 again - hi ⟨rfl, h4⟩ hag
  by_cases hlt : i < l.length
  · refine WIf.t (by simpa using hlt) ?_
    obtain ⟨x, hx, hh⟩ := hp i l[i] (by simp [hlt])
    have hok : (⟨newKs (l.take i), []⟩ : Sto).Ok := newKs_ok _ (fun d hd => hl d (List.mem_of_mem_take hd)) [] empty_ok
    have hnext : newKs (l.take (i + 1)) = addK (newKs (l.take i)) l[i] := by
      unfold newKs
      rw [List.take_succ_eq_append_getElem hlt, List.foldl_append]
      rfl
    refine WIndex.at' hx hlt (WLoad.si (s := l[i].1) (m := l[i].2) (by rw [Int.toNat_natCast]; exact h4.wd.le.has hh) ?_)
    refine WLoad.m (n := some rk) (by rw [addN]; exact blk_has h4.it rfl) ?_
    have hd := hl l[i] (List.getElem_mem hlt)
    have fin : ∀ {b : Bool} {H' : HP}, b = (decide (lk (newKs (l.take i)) l[i].1 = none)) →
        Wd a ((sepc (blk z 113 [.map (some rk), .map (some rs)]) (sepc (mapO rk ((newKs (l.take i)).map kEnt)) (sepc (mapO rs []) R)))) F H' (z :: rs :: rk :: S) →
        WIf ((b && (decide (l[i].2 ≥ 1))) && (decide (l[i].2 ≤ 4))) (WLoad (Addr.add ⟨z, 0, none⟩ 0) (.l .m) fun (x9 : Option Nat) =>
          WPrimU Tryz.prog (Instr.mapUpdate 110 (.map x9) (.string l[i].1) (.int .i64 l[i].2)) <|
          again (((IntKind.wrap .i64 ((i : Int) + 1)), ()), ()))
         (again (((IntKind.wrap .i64 ((i : Int) + 1)), ()), ())) H' := by
      intro b H' hb h5
      rw [wrapS (by omega)]
      refine WIf.intro (fun hc => ?_) (fun hc => hag _ _ hlt ⟨rfl, ?_⟩)
      · simp only [Bool.and_eq_true, decide_eq_true_eq] at hc
        rw [hb] at hc
        have hnone : lk (newKs (l.take i)) l[i].1 = none := of_decide_eq_true hc.1.1
        refine WLoad.m (n := some rk) (by rw [addN]; exact blk_has h5.it rfl) ?_
        have hno : ∀ x ∈ (newKs (l.take i)).map kEnt, x.1 ≠ .string l[i].1 := by
          intro x hx
          obtain ⟨y, hy, rfl⟩ := List.mem_map.1 hx
          intro e
          simp only [kEnt, Value.string.injEq] at e
          exact lk_none_iff.1 hnone y hy e
        refine WPrimU.mapUpdate keyS map110 (Good.star Good.blk (Good.star Good.mapO gr)) (h5.imp star_left) (keyOfS hd) (kEnt_keys fun x hx => (hok.k1 x hx).1) (fun _ H6 h6 => hag _ _ hlt ⟨rfl, ?_⟩) (fun j v hj => ?_)
        · rw [hnext]
          unfold addK
          rw [if_pos ⟨hnone, hc.1.2, hc.2⟩, List.map_append]
          exact h6.imp star_left
        · exact absurd rfl (hno _ (List.mem_of_getElem? hj))
      · have : addK (newKs (l.take i)) l[i] = newKs (l.take i) := by
          unfold addK
          rw [if_neg]
          rintro ⟨q1, q2, q3⟩
          rw [hb] at hc
          simp [q1, q2, q3] at hc
        rw [hnext, this]
        exact h5
    refine WPrim.lookup keyS map110 zero3 (mapO_read (h4.imp star_left).it) (keyOfS hd) (kEnt_keys fun x hx => (hok.k1 x hx).1) (fun hno => ?_) (fun j v hj => ?_)
    · have hnone : lk (newKs (l.take i)) l[i].1 = none := lk_none fun x hx e => hno (kEnt x) (List.mem_map.2 ⟨x, hx, rfl⟩) (by rw [← e]; rfl)
      exact WOpen.mb (fin (by rw [hnone]; rfl) h4)
    · rw [List.getElem?_map] at hj
      cases hx : (newKs (l.take i))[j]? with
      | none => rw [hx] at hj; cases hj
      | some x =>
        rw [hx] at hj
        simp only [Option.map_some, Option.some.injEq, kEnt, Prod.mk.injEq, Value.string.injEq] at hj
        obtain ⟨h1', rfl⟩ := hj
        have hsome : lk (newKs (l.take i)) l[i].1 = some x.2 := lk_some hok.k2 (j := j) (by rw [hx, ← h1'])
        exact WOpen.mb (fin (by rw [hsome]; rfl) h4)
  · refine WIf.f (by simpa using hlt) ⟨z, _, rfl, h4.imp fun hh => ?_⟩
    rw [List.take_of_length_le (by omega)] at hh
    exact star_mono (fun S' hs => ⟨(rk, rs, []), ⟨rfl, fun i e x h => by simp at h⟩, hs⟩) (fun _ h => h) (star_assoc' (star_mono (fun _ h => h) (fun _ h => star_assoc' h) hh))

theorem Sto.set_ok {σ : Sto} (ok : σ.Ok) {e n : ByteArray} {v : Va} (he : e.size ≤ maxLen) (hn : n.size ≤ maxLen) : (σ.set e n v).2.Ok := by
  unfold Sto.set
  split
  · exact ok
  split
  · exact ok
  split
  · exact ok
  rename_i hc
  have hv : v.l.length ≤ 8 := by
    simp only [Classical.not_not, ne_eq] at hc
    unfold Va.check at hc
    repeat' split at hc
    all_goals first | omega | (simp at hc)
  refine ⟨ok.k1, ok.k2, fun x hx => ?_, nodup_pt ok.c2⟩
  rcases mem_pt hx with rfl | hx
  · exact ⟨he, hn, hv⟩
  · exact ok.c1 x hx

theorem set50 {g : Nat} {σ : Sto} {e n : ByteArray} {v : Va} {cs : List Value} (gr : Good R) (h : Wd a ((sepc (storeA g σ) R)) F H S) (ok : σ.Ok) (he : e.size ≤ maxLen) (hn : n.size ≤ maxLen) (hv : v.At F cs) (hvl : v.l.length < 1000000000) :
    Den.Spec Tryz.prog 50 #[.pointer (some ⟨g, 0, none⟩), .string e, .string n, .agg ⟨cs⟩] H fun e' H' => ∃ F' S', e' = .returned (.int .i64 (σ.set e n v).1) ∧ F.le F' ∧ Wd a ((sepc (storeA g (σ.set e n v).2) R)) F' H' S' := by
  have hr := store_read h.it
  have hchk : Pure Tryz.prog 114 #[.agg ⟨cs⟩] H (.int .i64 v.check) := check114 (hv.mono h.wd.le) (by omega)
  have hown : v.l.length < 1000000000 → Den.Spec Tryz.prog 115 #[.agg ⟨cs⟩] F fun e H' => ∃ u, e = .returned u ∧ (∃ cs', u = .agg ⟨cs'⟩ ∧ v.At H' cs') ∧ F.le H' := fun hl => own115 hv hl
  obtain ⟨p, c, rfl, hp⟩ := hv
  unfold Sto.set
  refine spec50 (WCall.pure (kind112 hr ok hn) (WOpen.i (WCall.pure (is113 hr) (WOpen.b (WIf.f rfl ?_)))))
  by_cases hk : σ.kind n = 0
  · rw [if_pos hk]
    exact WIf.t (by simp [hk]) ⟨F, S, rfl, HP.le.refl F, h⟩
  rw [if_neg hk]
  refine WIf.f (by simp [hk]) ?_
  by_cases hkv : σ.kind n ≠ v.k
  · rw [if_pos hkv]
    exact WIf.t (by simp [hkv]) ⟨F, S, rfl, HP.le.refl F, h⟩
  rw [if_neg hkv]
  have hkv : σ.kind n = v.k := Classical.not_not.1 hkv
  refine WIf.f (by simp [hkv]) (WCall.pure hchk (WOpen.i ?_))
  by_cases hc : v.check ≠ 0
  · rw [if_pos hc]
    exact WIf.t (by simp [hc]) ⟨F, S, rfl, HP.le.refl F, h⟩
  rw [if_neg hc]
  have hc : v.check = 0 := Classical.not_not.1 hc
  refine WIf.f (by simp [hc]) (WNonNil.some ?_)
  obtain ⟨wd, tr, S1, S2, i1, i2, idj, ⟨⟨rk, rs, l⟩, hents, hA⟩, hR⟩ := h
  have h : Wd a ((sepc (also (fz fun F => VEnts F l σ.cs) ((sepc (blk g 113 [.map (some rk), .map (some rs)]) (sepc (mapO rk (σ.ks.map kEnt)) (mapO rs l))))) R)) F H S := ⟨wd, tr, S1, S2, i1, i2, idj, ⟨hents, hA⟩, hR⟩
  refine WLoad.m (n := some rs) (by rw [addN]; exact blk_has (off := 1) (star_mono (fun _ h => h) (fun _ _ => trivial) hA : ((sepc (blk g 113 [.map (some rk), .map (some rs)]) emp')) F H S1) rfl) ?_
  refine WCall.grow (Good.star (Good.also (Good.fz fun _ _ hl h => h.mono hl) (Good.star Good.blk (Good.star Good.mapO Good.mapO))) gr) h (hown hvl) ?_
  rintro u F' H' ⟨cs', rfl, hu⟩ hle hw
  have hu' := hu
  obtain ⟨p', c', rfl, hp'⟩ := hu'
  refine WOpen.va ⟨fun x hx => ?_, ?_⟩
  · simp only [List.mem_singleton] at hx
    subst hx
    simp only
    rw [addN]
    obtain ⟨T1, T2, _, _, _, ⟨_, hA'⟩, _⟩ := hw.it
    exact blk_has (off := 1) hA' rfl
  obtain ⟨kl, hkl⟩ := keyOfP he hn
  have hents' : VEnts F' l σ.cs := hents.mono hle
  have hw2 : Wd a ((sepc (mapO rs l) (sepc (mapO rk (σ.ks.map kEnt)) (sepc (blk g 113 [.map (some rk), .map (some rs)]) R)))) F' H' S :=
    hw.imp fun hh => by
      have h1 := star_mono (B' := R) (fun _ (h : also (fz fun F => VEnts F l σ.cs) ((sepc (blk g 113 [.map (some rk), .map (some rs)]) (sepc (mapO rk (σ.ks.map kEnt)) (mapO rs l)))) F' H' _) => star_comm (star_assoc' h.2)) (fun _ h => h) hh
      exact star_mono (fun _ h => h) (fun _ h => star_assoc (star_mono (fun _ h => star_comm h) (fun _ h => h) h)) (star_assoc h1)
  have back : ∀ {l' : List (Value × Value)} {H2 : HP}, VEnts F' l' (pt σ.cs (e, n) v) → Wd a ((sepc (mapO rs l') (sepc (mapO rk (σ.ks.map kEnt)) (sepc (blk g 113 [.map (some rk), .map (some rs)]) R)))) F' H2 S →
      Wd a ((sepc (storeA g { σ with cs := pt σ.cs (e, n) v }) R)) F' H2 S := by
    intro l' H2 hv2 h2
    refine h2.imp fun hh => star_mono (A := (sepc (blk g 113 [.map (some rk), .map (some rs)]) (sepc (mapO rk (σ.ks.map kEnt)) (mapO rs l')))) (fun S' hs => ⟨(rk, rs, l'), hv2, hs⟩) (fun _ h => h) ?_
    refine star_assoc' (star_mono (fun _ h => h) (fun _ h => star_assoc' h) ?_)
    exact star_mono (fun _ h => h) (fun _ h => star_left h) (star_left (star_mono (fun _ h => h) (fun _ h => star_left h) hh))
  have hnew : VEnt F' (.agg #[.string e, .string n], .agg ⟨vaCells v.k v.n v.s p' v.l.length c'⟩) ((e, n), v) := ⟨rfl, _, rfl, hu⟩
  refine WPrimU.mapUpdate keyP map111 (Good.star Good.mapO (Good.star Good.blk gr)) hw2 hkl (pEnt_keys hents' ok.c1) (fun hno H2 h2 => ?_) (fun j v0 hj H2 h2 => ?_)
  · have hno' : ∀ x ∈ σ.cs, x.1 ≠ (e, n) := by
      intro x hx hxe
      obtain ⟨i, hi, rfl⟩ := List.getElem_of_mem hx
      have hil : i < l.length := hents.1.symm ▸ hi
      obtain ⟨q1, _⟩ := hents.2 i l[i] σ.cs[i] (by simp [hil]) (by simp [hi])
      exact hno l[i] (List.getElem_mem hil) (by rw [q1, hxe])
    refine ⟨F', S, rfl, hle, back ?_ h2⟩
    rw [pt_none hno']
    refine ⟨by simp [hents.1], fun i y x hy hx => ?_⟩
    rcases Nat.lt_or_ge i l.length with hil | hil
    · rw [List.getElem?_append_left hil] at hy
      rw [List.getElem?_append_left (by rw [← hents.1]; exact hil)] at hx
      exact hents'.2 i y x hy hx
    · rw [List.getElem?_append_right hil] at hy
      rw [List.getElem?_append_right (by rw [← hents.1]; exact hil)] at hx
      rw [← hents.1] at hx
      cases hi0 : i - l.length with
      | zero =>
        rw [hi0] at hy hx
        simp at hy hx
        subst hy; subst hx
        exact hnew
      | succ k => rw [hi0] at hy; simp at hy
  · have hjl : j < σ.cs.length := hents.1 ▸ (List.getElem?_eq_some_iff.1 hj).1
    obtain ⟨q1, cs0, q2, q3⟩ := hents.2 j (.agg #[.string e, .string n], v0) σ.cs[j] hj (by simp [hjl])
    simp only [Value.agg.injEq, Array.mk.injEq, List.cons.injEq, Value.string.injEq, and_true] at q1
    have hjs : σ.cs[j]? = some ((e, n), σ.cs[j].2) := by
      rw [List.getElem?_eq_getElem hjl]
      exact congrArg some (Prod.ext (Prod.ext q1.1.symm q1.2.symm) rfl)
    refine ⟨F', S, rfl, hle, back ?_ h2⟩
    rw [pt_some ok.c2 hjs]
    refine ⟨by simp [hents.1], fun i y x hy hx => ?_⟩
    rw [List.getElem?_set] at hy hx
    by_cases hij : j = i
    · subst hij
      rw [if_pos rfl, if_pos (List.getElem?_eq_some_iff.1 hj).1] at hy
      rw [if_pos rfl, if_pos hjl] at hx
      cases hy; cases hx
      exact hnew
    · rw [if_neg hij] at hy hx
      exact hents'.2 i y x hy hx
end
end Go.Proofs.YtmidcnfnmnhifaaGreat
