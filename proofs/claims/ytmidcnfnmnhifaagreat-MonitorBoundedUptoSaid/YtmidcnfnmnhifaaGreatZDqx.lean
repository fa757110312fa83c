import Derived.Test.YtmidcnfnmnhifaaGreatZOwn
import Derived.Test.YtmidcnfnmnhifaaGreatZWza
import Derived.Test.YtmidcnfnmnhifaaGreatZWzb
import Derived.Test.YtmidcnfnmnhifaaGreatZWzc
import Derived.Laws.Slices
import Derived.Laws.CopyRow
/-
  Package deque.
-/
namespace Go.Den
set_option linter.unusedSectionVars false
set_option linter.unusedSimpArgs false
set_option linter.unusedVariables false
open Go
section
variable {P : Program} {a : Base} {R : Asr} {F H : HP} {S : List Nat}
/-- a cell of an own slice is written -/
theorem WStore.own {e : TypeId} {size : Nat} {p : Option Addr} {n c g j : Nat} {xs : List Value} {v : Value} {k : W} (gr : Good R) (h : Wd a ((sepc (ownS e size p n c xs) R)) F H S) (hp : p = some ⟨g, 0, none⟩) (hj : j < n * size)
    (hk : ∀ H', Wd a ((sepc (ownS e size p n c (xs.set j v)) R)) F H' S → k H') : WStore ⟨g, j, none⟩ [v] k H := by
  obtain ⟨wd, tr, S1, S2, i1, i2, id, ⟨hx, h2⟩, hR⟩ := h
  rcases h2 with ⟨rfl, rfl, rfl⟩ | ⟨g', cur, rfl, hgS, hg, q1, q2, q3, q4⟩
  · cases hp
  · cases hp
    have hcs : j < cur.size := by
      rw [q3]
      exact Nat.lt_of_lt_of_le hj (Nat.mul_le_mul_right _ q1)
    refine WStore.blk (e := e) (l := cur.toList) gr ⟨wd, tr, S1, S2, i1, i2, id, ⟨hgS, hg⟩, hR⟩ (by simp; omega) fun H' hw => hk H' (hw.imp fun hh => star_mono (fun S' h' => ?_) (fun _ h => h) hh)
    refine ⟨by simpa using hx, .inr ⟨g, ⟨writeL cur.toList j [v]⟩, rfl, h'.1, h'.2, q1, q2, ?_, ?_⟩⟩
    · simp [writeL]
      omega
    · have e1 : writeL cur.toList j [v] = cur.toList.set j v := by
        unfold writeL
        simp only [List.length_singleton]
        rw [List.set_eq_take_append_cons_drop, if_pos (by simpa using hcs)]
        simp
      simp only
      rw [e1, ← q4, List.take_set]
end
end Go.Den
namespace Go.Proofs.YtmidcnfnmnhifaaGreat
set_option linter.unusedSectionVars false
set_option linter.unusedSimpArgs false
set_option linter.unusedVariables false
open Go Go.Den
set_option linter.unusedVariables false

theorem sliceCell : SliceTy Tryz.prog 252 292 2 16 := ⟨by kernel_rfl, by kernel_rfl⟩

def cellsD : List (Int × Int) → List Value
  | [] => []
  | c :: l => .int .i64 c.1 :: .int .i64 c.2 :: cellsD l

theorem cellsD_length : ∀ l : List (Int × Int), (cellsD l).length = l.length * 2
  | [] => rfl
  | c :: l => by simp only [cellsD, List.length_cons, cellsD_length l]; omega
theorem cellsD_append : ∀ l m : List (Int × Int), cellsD (l ++ m) = cellsD l ++ cellsD m
  | [], m => rfl
  | c :: l, m => by simp only [List.cons_append, cellsD, cellsD_append l m]
theorem cellsD_drop : ∀ (l : List (Int × Int)) (i : Nat), (cellsD l).drop (i * 2) = cellsD (l.drop i)
  | l, 0 => by simp
  | [], i + 1 => by simp [cellsD]
  | c :: l, i + 1 => by
    rw [show (i + 1) * 2 = i * 2 + 1 + 1 by omega]
    simp only [cellsD, List.drop_succ_cons]
    exact cellsD_drop l i
theorem cellsD_at {l : List (Int × Int)} {i : Nat} (h : i < l.length) : ((cellsD l).drop (i * 2)).take 2 = [.int .i64 l[i].1, .int .i64 l[i].2] := by
  rw [cellsD_drop, List.drop_eq_getElem_cons h]
  rfl
theorem cellsD_one : ∀ (l : List (Int × Int)), ∀ u ∈ cellsD l, u.oneCell' = true
  | [], u, h => by simp [cellsD] at h
  | c :: l, u, h => by
    simp only [cellsD, List.mem_cons] at h
    rcases h with rfl | rfl | h
    · rfl
    · rfl
    · exact cellsD_one l u h

/-- a deque that can be read -/
def DqH (H : HP) (a : Addr) (l : List (Int × Int)) : Prop := ∃ p c, H.has a [.slice p l.length c] ∧ ∀ i (h : i < l.length), ∃ g, p = some ⟨g, 0, none⟩ ∧ H.has ⟨g, i * 2, none⟩ [.int .i64 l[i].1, .int .i64 l[i].2]

/-- a deque in a block -/
def dqA (g : Nat) (e : TypeId) (pre post : List Value) (l : List (Int × Int)) : Asr := ex fun v : Option Addr × Nat => (sepc (blk g e (pre ++ .slice v.1 l.length v.2 :: post)) (ownS 292 2 v.1 l.length v.2 (cellsD l)))

theorem Good.dqA {g : Nat} {e : TypeId} {pre post : List Value} {l : List (Int × Int)} : Good (dqA g e pre post l) := Good.ex fun _ => Good.star Good.blk Good.ownS

theorem ownS_at {H : HP} {F : HP} {S : List Nat} {p : Option Addr} {c : Nat} {l : List (Int × Int)} (h : ownS 292 2 p l.length c (cellsD l) F H S) (i : Nat) (hi : i < l.length) :
    ∃ g, p = some ⟨g, 0, none⟩ ∧ H.has ⟨g, i * 2, none⟩ [.int .i64 l[i].1, .int .i64 l[i].2] := ownS_has h (by exact cellsD_at hi) (by simp)

theorem dqA_read {g : Nat} {e : TypeId} {pre post : List Value} {l : List (Int × Int)} {R : Asr} {F H : HP} {S : List Nat} (h : ((sepc (dqA g e pre post l) R)) F H S) : DqH H ⟨g, pre.length, none⟩ l := by
  obtain ⟨S1, S2, _, _, _, ⟨⟨p, c⟩, h1⟩, _⟩ := h
  refine ⟨p, c, blk_has h1 (by simp), fun i hi => ?_⟩
  obtain ⟨T1, T2, _, _, _, _, h2⟩ := h1
  exact ownS_at h2 i hi

section
variable {H : HP} {a : Addr} {l : List (Int × Int)}

theorem len217 {g off : Nat} (h : DqH H ⟨g, off, none⟩ l) : Pure Tryz.prog 217 #[.pointer (some ⟨g, off, none⟩)] H (.int .i64 l.length) := by
  obtain ⟨p, c, h1, h2⟩ := h
  refine Pure.of (spec217 ?_)
  exact WIf.f rfl (WNonNil.some (WLoad.sl (by rw [addN]; exact h1) ⟨rfl, HP.le.refl H⟩))

theorem len217n : Pure Tryz.prog 217 #[.pointer none] H (.int .i64 0) := Pure.of (spec217 (WIf.t rfl ⟨rfl, HP.le.refl H⟩))

theorem WOpen.cb {n m : Int} {b : Bool} {body : Int → Int → Bool → W} (h : body n m b H) : WOpen (.tup [(.agg [(.i .i64), (.i .i64)]), (.l .b)]) body (.tuple #[.agg #[.int .i64 n, .int .i64 m], .bool b]) H := ⟨((n, m, ()), b, ()), rfl, h⟩

def firstV (l : List (Int × Int)) : Value := match l with
  | [] => .tuple #[.agg #[.int .i64 0, .int .i64 0], .bool false]
  | c :: _ => .tuple #[.agg #[.int .i64 c.1, .int .i64 c.2], .bool true]

theorem first257 {g off : Nat} (h : DqH H ⟨g, off, none⟩ l) : Pure Tryz.prog 257 #[.pointer (some ⟨g, off, none⟩)] H (firstV l) := by
  have hl := len217 h
  obtain ⟨p, c, h1, h2⟩ := h
  refine Pure.of (spec257 (WCall.pure hl (WOpen.i ?_)))
  cases l with
  | nil => exact WIf.t rfl ⟨rfl, HP.le.refl H⟩
  | cons x l =>
    refine WIf.f (beq_false_of_ne (by simp only [List.length_cons]; omega)) (WNonNil.some (WLoad.sl (by rw [addN]; exact h1) ?_))
    obtain ⟨g', rfl, h3⟩ := h2 0 (by simp)
    refine ⟨_, rfl, by omega, by simp only [List.length_cons]; omega, WLoad.ii (n := x.1) (m := x.2) (by rw [addN]; exact h3) ⟨rfl, HP.le.refl H⟩⟩

def lastV (l : List (Int × Int)) : Value := match l.getLast? with
  | none => .tuple #[.agg #[.int .i64 0, .int .i64 0], .bool false]
  | some c => .tuple #[.agg #[.int .i64 c.1, .int .i64 c.2], .bool true]

theorem last267 {g off : Nat} (h : DqH H ⟨g, off, none⟩ l) (hlen : l.length < 1000000000000) : Pure Tryz.prog 267 #[.pointer (some ⟨g, off, none⟩)] H (lastV l) := by
  have hl := len217 h
  obtain ⟨p, c, h1, h2⟩ := h
  refine Pure.of (spec267 (WCall.pure hl (WOpen.i ?_)))
  by_cases h0 : l.length = 0
  · have : l = [] := List.length_eq_zero_iff.1 h0
    subst this
    exact WIf.t rfl ⟨rfl, HP.le.refl H⟩
  · refine WIf.f (beq_false_of_ne (by omega)) (WNonNil.some (WLoad.sl (by rw [addN]; exact h1) (WNonNil.some (WLoad.sl (by rw [addN]; exact h1) ?_))))
    rw [wrapP hlen (by omega)]
    obtain ⟨g', rfl, h3⟩ := h2 (l.length - 1) (by omega)
    refine WIndex.at (Nat.sub_lt (by omega) (by omega)) ?_
    refine WLoad.ii (n := l[l.length - 1].1) (m := l[l.length - 1].2) (by rw [addN, Nat.zero_add, Int.toNat_natCast]; exact h3) ⟨?_, HP.le.refl H⟩
    have : l.getLast? = some l[l.length - 1] := by rw [List.getLast?_eq_getElem?]; simp [show l.length - 1 < l.length by omega]
    unfold lastV
    rw [this]
end
end Go.Proofs.YtmidcnfnmnhifaaGreat

/-
  Package deque: what writes.
-/
namespace Go.Proofs.YtmidcnfnmnhifaaGreat
set_option linter.unusedSectionVars false
set_option linter.unusedSimpArgs false
set_option linter.unusedVariables false
open Go Go.Den
set_option linter.unusedVariables false

def capN (n : Int) : Int := if (32768 : Int) < IntKind.wrap .i64 (n + 1) then 32768 else IntKind.wrap .i64 (n + 1)

/-- what Push leaves, and tells -/
def pushD (l : List (Int × Int)) (at' : Int) : List (Int × Int) × Bool :=
  match l.getLast? with
  | none => (l ++ [(at', 1)], true)
  | some c => if at' < c.1 then (l, false) else if at' = c.1 then (l.dropLast ++ [(c.1, capN c.2)], true) else (l ++ [(at', 1)], true)

theorem writeL_mid {pre post : List Value} {x y : Value} : writeL (pre ++ x :: post) pre.length [y] = pre ++ y :: post := by
  unfold writeL
  simp

theorem cellsD_set (l : List (Int × Int)) (c : Int × Int) (n : Int) (h : l.getLast? = some c) : (cellsD l).set ((l.length - 1) * 2 + 1) (.int .i64 n) = cellsD (l.dropLast ++ [(c.1, n)]) := by
  obtain ⟨l', rfl⟩ : ∃ l', l = l' ++ [c] := by
    rw [List.getLast?_eq_some_iff] at h
    exact h
  rw [cellsD_append, List.dropLast_concat, cellsD_append]
  have : (l' ++ [c]).length - 1 = l'.length := by simp
  rw [this, List.set_append_right _ _ (by rw [cellsD_length]; omega), cellsD_length]
  simp [cellsD, show l'.length * 2 + 1 - l'.length * 2 = 1 by omega]

section
variable {a : Base} {R : Asr} {F H : HP} {S : List Nat}

theorem push235 {g : Nat} {e : TypeId} {pre post : List Value} {l : List (Int × Int)} (at' : Int) (gr : Good R) (h : Wd a ((sepc (dqA g e pre post l) R)) F H S) (hlen : l.length < 1000000000) :
    Den.Spec Tryz.prog 235 #[.pointer (some ⟨g, pre.length, none⟩), .int .i64 at'] H fun e' H' => e' = .returned (.bool (pushD l at').2) ∧ ∃ S', Wd a ((sepc (dqA g e pre post (pushD l at').1) R)) F H' S' := by
  have hread := dqA_read h.it
  refine spec235 (WCall.pure (last267 hread (by omega)) ?_)
  have grow : Wd a ((sepc (dqA g e pre post l) R)) F H S → WNonNil (some (⟨g, pre.length, none⟩ : Addr)) (fun q7 =>
    WLoad (Addr.add q7 0) (.l .sl) fun (x8 : Option Go.Addr) (x8_1 : Nat) (x8_2 : Nat) =>
    WNew [(.int .i64 at'), (.int .i64 1)] 292 fun z9 =>
    WPrim Tryz.prog (Builtin.append_ #[252, 252] 252 #[(.slice x8 x8_1 x8_2), (.slice (some ⟨z9, 0, none⟩) 1 1)]) (WOpen (.one (.l .sl)) fun (x10 : Option Go.Addr) (x10_1 : Nat) (x10_2 : Nat) =>
    WNonNil (some (⟨g, pre.length, none⟩ : Addr)) fun q11 =>
    WStore (Addr.add q11 0) [(.slice x10 x10_1 x10_2)] <|
    (fun (e' : Ending) H' => e' = .returned (.bool true) ∧ ∃ S', Wd a ((sepc (dqA g e pre post (l ++ [(at', 1)])) R)) F H' S') (.returned (.bool true)))) H := by
    intro h
    refine WNonNil.some ?_
    obtain ⟨wd, tr, S1, S2, i1, i2, id, ⟨⟨p, c⟩, hA⟩, hR⟩ := h
    have h : Wd a ((sepc ((sepc (blk g e (pre ++ .slice p l.length c :: post)) (ownS 292 2 p l.length c (cellsD l)))) R)) F H S := ⟨wd, tr, S1, S2, i1, i2, id, hA, hR⟩
    refine WLoad.sl (p := p) (n := l.length) (c := c) (by rw [addN]; exact blk_has (star_assoc h.it) (by simp)) ?_
    refine WNew.blk (Good.star (Good.star Good.blk Good.ownS) gr) h fun z H1 hz hle h1 => ?_
    have h2 : Wd a ((sepc (ownS 292 2 p l.length c (cellsD l)) (sepc (blk z 292 [.int .i64 at', .int .i64 1]) (sepc (blk g e (pre ++ .slice p l.length c :: post)) R)))) F H1 (z :: S) :=
      h1.imp fun hh => star_left (star_mono (fun _ h => h) (fun _ h => star_left (star_assoc h)) hh)
    have hz1 : H1 z = some (.cells ⟨[.int .i64 at', .int .i64 1]⟩ 292 (0, 0)) := by
      obtain ⟨T1, T2, _, _, _, h3, _⟩ := h1.it
      exact h3.2
    refine SliceTy.push sliceCell (by omega) (Good.star Good.blk (Good.star Good.blk gr)) h2 (x := ⟨z, 0, none⟩) (m := 1) (news := [.int .i64 at', .int .i64 1]) rfl (has_cells hz1 rfl) (by simp [Value.oneCell']) (by simp only [maxLen]; omega) (by omega) ?_
    intro p' cap H2 S2' h3 _
    refine WOpen.sl (WNonNil.some ?_)
    rw [addN]
    have h4 : Wd a ((sepc (blk g e (pre ++ .slice p l.length c :: post)) (sepc (ownS 292 2 p' (l.length + 1) cap (cellsD l ++ [.int .i64 at', .int .i64 1])) R))) F H2 S2' :=
      h3.imp fun hh => star_left (star_mono (fun _ h => h) (fun _ h => star_snd (Good.star Good.blk gr) h) hh)
    refine WStore.blk (Good.star Good.ownS gr) h4 (by simp) fun H3 h5 => ⟨rfl, S2', h5.imp fun hh => ?_⟩
    rw [Nat.add_zero, writeL_mid] at hh
    refine star_mono (fun T hT => ⟨(p', cap), ?_⟩) (fun _ h => h) (star_assoc' hh)
    simpa [cellsD_append, cellsD] using hT
  unfold lastV pushD
  cases hl : l.getLast? with
  | none =>
    refine WOpen.cb (WIf.f rfl (WIf.f rfl ?_))
    exact grow h
  | some c =>
    refine WOpen.cb ?_
    simp only
    by_cases h1 : at' < c.1
    · rw [if_pos h1]
      exact WIf.t (by simp [h1]) ⟨rfl, S, h⟩
    rw [if_neg h1]
    refine WIf.f (by simp [h1]) ?_
    by_cases h2 : at' = c.1
    · rw [if_pos h2]
      refine WIf.t (by simp [h2]) (WNonNil.some ?_)
      obtain ⟨wd, tr, S1, S2, i1, i2, id, ⟨⟨p, cp⟩, hA⟩, hR⟩ := h
      have h : Wd a ((sepc ((sepc (blk g e (pre ++ .slice p l.length cp :: post)) (ownS 292 2 p l.length cp (cellsD l)))) R)) F H S := ⟨wd, tr, S1, S2, i1, i2, id, hA, hR⟩
      have hh0 : H.has ⟨g, pre.length + 0, none⟩ [.slice p l.length cp] := blk_has (star_assoc h.it) (by simp)
      refine WLoad.sl (p := p) (n := l.length) (c := cp) (by rw [addN]; exact hh0) (WNonNil.some (WLoad.sl (p := p) (n := l.length) (c := cp) (by rw [addN]; exact hh0) ?_))
      have hpos : 0 < l.length := by
        cases l with
        | nil => cases hl
        | cons => simp
      rw [wrapP (by omega) hpos]
      have h' : Wd a ((sepc (ownS 292 2 p l.length cp (cellsD l)) (sepc (blk g e (pre ++ .slice p l.length cp :: post)) R))) F H S := h.imp fun hh => star_left (star_assoc hh)
      obtain ⟨g', hp, _⟩ := ownS_at (l := l) (star_fst Good.ownS h'.it) (l.length - 1) (by omega)
      refine WIndex.at' hp (Nat.sub_lt hpos (by omega)) ?_
      rw [addN, addN, Int.toNat_natCast, Nat.zero_add]
      refine WStore.own (Good.star Good.blk gr) h' hp (by omega) fun H1 h3 => ⟨rfl, S, h3.imp fun hh => ?_⟩
      have := cellsD_set l c (capN c.2) hl
      unfold capN at this
      rw [this] at hh
      refine star_mono (fun T hT => ⟨(p, cp), ?_⟩) (fun _ h => h) (star_assoc' (star_left hh))
      have hlen' : (l.dropLast ++ [(c.1, capN c.2)]).length = l.length := by simp; omega
      rw [hlen']
      exact hT
    · rw [if_neg h2]
      exact WIf.f (by simp [h2]) (grow h)

theorem clear232 {g : Nat} {e : TypeId} {pre post : List Value} {l : List (Int × Int)} (gr : Good R) (h : Wd a ((sepc (dqA g e pre post l) R)) F H S) :
    Den.Spec Tryz.prog 232 #[.pointer (some ⟨g, pre.length, none⟩)] H fun e' H' => e' = .returned (.tuple #[]) ∧ ∃ S', Wd a ((sepc (dqA g e pre post []) R)) F H' S' := by
  refine spec232 (WIf.t rfl (WNonNil.some ?_))
  obtain ⟨wd, tr, S1, S2, i1, i2, id, ⟨⟨p, c⟩, hA⟩, hR⟩ := h
  have h : Wd a ((sepc ((sepc (blk g e (pre ++ .slice p l.length c :: post)) (ownS 292 2 p l.length c (cellsD l)))) R)) F H S := ⟨wd, tr, S1, S2, i1, i2, id, hA, hR⟩
  rw [addN]
  refine WStore.blk (Good.star Good.ownS gr) (h.imp star_assoc) (by simp) fun H1 h1 => ⟨rfl, S, h1.imp fun hh => ?_⟩
  rw [Nat.add_zero, writeL_mid] at hh
  exact star_mono (fun T hT => ⟨(none, 0), star_mono (fun _ h => h) (fun _ _ => ownS_nil) hT⟩) (fun _ h => h) (star_assoc' hh)

/-- a copy of its own -/
theorem clone279 {p : Option Addr} {l : List (Int × Int)} {c : Nat} (gr : Good R) (h : Wd a R F H S) (hlen : l.length < 1000000000)
    (hp : ∀ i (h : i < l.length), ∃ g, p = some ⟨g, 0, none⟩ ∧ H.has ⟨g, i * 2, none⟩ [.int .i64 l[i].1, .int .i64 l[i].2]) :
    Den.Spec Tryz.prog 279 #[.slice p l.length c] H fun e' H' => ∃ p' c' S', e' = .returned (.slice p' l.length c') ∧ Wd a ((sepc (ownS 292 2 p' l.length c' (cellsD l)) R)) F H' S' := by
  refine spec279 ?_
  cases p with
  | none =>
    have : l = [] := by
      cases l with
      | nil => rfl
      | cons x l => obtain ⟨g, h1, _⟩ := hp 0 (by simp); cases h1
    subst this
    exact WIf.t rfl ⟨none, 0, S, rfl, h.imp fun hh => star_mono (fun _ _ => ownS_nil) (fun _ h => h) (emp_star hh)⟩
  | some x =>
    refine WIf.f rfl ?_
    refine WNew.blk gr h fun z H1 hz hle h1 => ?_
    have h2 : Wd a ((sepc (ownS 292 2 (some ⟨z, 0, none⟩) 0 0 []) R)) F H1 (z :: S) := h1.imp fun hh => star_mono (fun _ h => ⟨rfl, .inr ⟨z, ⟨[]⟩, rfl, h.1, h.2, Nat.le_refl _, by simp [maxLen], rfl, rfl⟩⟩) (fun _ h => h) hh
    refine SliceTy.push sliceCell (by omega) gr h2 (x := x) (m := l.length) (news := cellsD l) (cellsD_length l) ?_ (cellsD_one l) (by simp only [maxLen]; omega) (by omega) ?_
    · intro i v hi
      have hlt : i < l.length * 2 := by
        rcases Nat.lt_or_ge i (cellsD l).length with h | h
        · rw [cellsD_length] at h; exact h
        · rw [List.getElem?_eq_none h] at hi; cases hi
      obtain ⟨g, hx, hh⟩ := hp (i / 2) (by omega)
      cases hx
      have hat := cellsD_at (l := l) (i := i / 2) (by omega)
      have h3 : (cellsD l)[i]? = [Value.int .i64 l[i / 2].1, .int .i64 l[i / 2].2][i % 2]? := by
        rw [← hat, List.getElem?_take_of_lt (by omega), List.getElem?_drop]
        congr 1
        omega
      rw [h3] at hi
      have := hle.has hh (i % 2) v hi
      rw [addN] at this ⊢
      rwa [show 0 + i = i / 2 * 2 + i % 2 by omega]
    · intro p' cap H2 S2 h3 _
      simp only [Nat.zero_add, List.nil_append] at h3 ⊢
      exact WOpen.sl ⟨p', cap, S2, rfl, h3⟩
end
end Go.Proofs.YtmidcnfnmnhifaaGreat

/-
  Package deque: copies, sums, and what is taken away.
-/
namespace Go.Den
set_option linter.unusedSectionVars false
set_option linter.unusedSimpArgs false
set_option linter.unusedVariables false
open Go
section
variable {P : Program} {a : Base} {R : Asr} {F H : HP} {S : List Nat}

theorem SliceTy.slice3 {t e : TypeId} {size bytes : Nat} (T : SliceTy P t e size bytes) {p : Option Addr} {n c : Nat} {l h m : Int} (h0 : 0 ≤ l) (h1 : l ≤ h) (h2 : h ≤ m) (h3 : m ≤ c) {k : Value → W}
    (hk : k (.slice (if m.toNat = l.toNat then p else p.map (·.add (l.toNat * size))) (h.toNat - l.toNat) (m.toNat - l.toNat)) H) :
    WPrim P (Instr.sliceAt t (.slice p n c) (some (.int .i64 l)) (some (.int .i64 h)) (some (.int .i64 m))) k H := by
  obtain ⟨i, z, hi, hz, hs, hzs, hb⟩ := T.info
  intro w on
  refine ⟨_, w, H, ?_, Up.refl on, hk⟩
  have e1 := run_sliceBound (P := P) (w := w) .i64 m c .slice3Acap (by omega) h3
  have e2 := run_sliceBound (P := P) (w := w) .i64 h m.toNat .slice3B (by omega) (by omega)
  have e3 := run_sliceBound (P := P) (w := w) .i64 l h.toNat .slice3C (by omega) (by omega)
  simp [Instr.sliceAt, Instr.slice, run_underlying T.1, Instr.sliceBounds, e1, e2, e3, sizeOf, typeInfo, hi, hs, Result.andThen]

/-- the cells of an own slice, from one on, are cleared: beyond its length -/
theorem SliceTy.clear {t ty e : TypeId} {size bytes : Nat} (T : SliceTy P t e size bytes) (zs : ∀ w : World, ∃ z, (zeroValue e).run P w = .ok z w ∧ z.cells.size = size ∧ ∀ v ∈ z.cells.toList, v.oneCell' = true) (gr : Good R) {p : Option Addr} {n c lo cnt c' g : Nat} {xs : List Value}
    (h : Wd a ((sepc (ownS e size p n c xs) R)) F H S) (hp : p = some ⟨g, 0, none⟩) (h1 : n ≤ lo) (h2 : lo + cnt ≤ c) (h3 : 0 < cnt) {k : Value → W}
    (hk : ∀ H', Wd a ((sepc (ownS e size p n c xs) R)) F H' S → k (.tuple #[]) H') : WPrim P (Builtin.clear_ #[t] ty #[.slice (some ⟨g, lo * size, none⟩) cnt c']) k H := by
  intro w on
  obtain ⟨wd, tr, S1, S2, i1, i2, id, ⟨hx, h4⟩, hR⟩ := h
  rcases h4 with ⟨rfl, rfl, rfl⟩ | ⟨g', cur, rfl, hgS, hg, q1, q2, q3, q4⟩
  · cases hp
  cases hp
  obtain ⟨z, hz, hzs, hz1⟩ := zs w
  have hzc : (Builtin.zeroCells z.cells cnt).size = cnt * size := by rw [size_zeroCells, hzs]
  have hfit : lo * size + (Builtin.zeroCells z.cells cnt).toList.length ≤ cur.size := by
    rw [Array.length_toList, hzc, ← Nat.add_mul, q3]
    exact Nat.mul_le_mul_right _ h2
  have hone : ∀ v ∈ (Builtin.zeroCells z.cells cnt).toList, v.oneCell' = true := by
    intro v hv
    simp only [Builtin.zeroCells, Array.toList_map, List.mem_map, Array.toList_range, List.mem_range] at hv
    obtain ⟨i, hi, rfl⟩ := hv
    have hpos : 0 < z.cells.size := by
      rcases Nat.eq_zero_or_pos z.cells.size with h0 | h0
      · rw [h0] at hi; simp at hi
      · exact h0
    rw [getElem!_pos z.cells _ (Nat.mod_lt _ hpos)]
    exact hz1 _ (by simp)
  have hst := run_storeCells_at P g (lo * size) e (Builtin.zeroCells z.cells cnt).toList 0 cur w (on g _ hg) (by simpa using hfit) hone
  simp only [Nat.add_zero] at hst
  obtain ⟨m, rfl⟩ : ∃ m, cnt = m + 1 := ⟨cnt - 1, by omega⟩
  have hrun : (Builtin.clear_ #[t] ty #[.slice (some ⟨g, lo * size, none⟩) (m + 1) c']).run P w = .ok (.tuple #[]) (w.setRow g (cur.toList.take (lo * size) ++ (Builtin.zeroCells z.cells (m + 1)).toList ++ cur.toList.drop (lo * size + (Builtin.zeroCells z.cells (m + 1)).toList.length)).toArray) := by
    simp [Builtin.clear_, run_underlying T.1, hz, hst, Result.andThen]
  have hset := setRow_heap w g cur (cur.toList.take (lo * size) ++ (Builtin.zeroCells z.cells (m + 1)).toList ++ cur.toList.drop (lo * size + (Builtin.zeroCells z.cells (m + 1)).toList.length)).toArray e (0, 0) (on g _ hg)
  have wst := Wd.set (o := .cells cur e (0, 0)) (o' := .cells (cur.toList.take (lo * size) ++ (Builtin.zeroCells z.cells (m + 1)).toList ++ cur.toList.drop (lo * size + (Builtin.zeroCells z.cells (m + 1)).toList.length)).toArray e (0, 0)) gr ⟨wd, tr, S1, S2, i1, i2, id, ⟨hgS, hg⟩, hR⟩
  refine ⟨_, _, _, hrun, up_set on hset rfl rfl rfl (by simp) (fun b _ hb => setRow_other w g b _ hb) (.inl (by rw [hg]; simp)), hk _ (wst.imp fun hh => star_mono (fun S' h' => ⟨hx, .inr ⟨g, _, rfl, h'.1, h'.2, q1, q2, ?_, ?_⟩⟩) (fun _ h => h) hh)⟩
  · simp only [List.size_toArray, List.length_append, List.length_take, List.length_drop, Array.length_toList]
    rw [Array.length_toList] at hfit
    omega
  · have hn : n * size ≤ lo * size := Nat.mul_le_mul_right _ h1
    rw [List.append_assoc]
    simp only
    rw [List.take_append_of_le_length (by rw [List.length_take, Array.length_toList]; rw [Array.length_toList] at hfit; omega), List.take_take, ← q4]
    congr 1
    omega
end
end Go.Den

/-
  Package deque: All, Sum, Clone, Prune; slices.Delete.
-/
namespace Go.Proofs.YtmidcnfnmnhifaaGreat
set_option linter.unusedSectionVars false
set_option linter.unusedSimpArgs false
set_option linter.unusedVariables false
open Go Go.Den
set_option linter.unusedVariables false

def sumD : Int → List (Int × Int) → Int
  | n, [] => n
  | n, c :: l => sumD (IntKind.wrap .i64 (n + c.2)) l

theorem zeroCell (w : World) : ∃ z, (zeroValue 292).run Tryz.prog w = .ok z w ∧ z.cells.size = 2 ∧ ∀ v ∈ z.cells.toList, v.oneCell' = true := by
  have h : (Tryz.prog.info? 292).map (·.zero) = some (some (.agg #[.int .i64 0, .int .i64 0])) := by kernel_rfl
  cases hi : Tryz.prog.info? 292 with
  | none => rw [hi] at h; cases h
  | some i =>
    rw [hi] at h
    simp only [Option.map_some, Option.some.injEq] at h
    refine ⟨.agg #[.int .i64 0, .int .i64 0], ?_, rfl, by simp [Value.cells, Value.oneCell']⟩
    simp [zeroValue, typeInfo, hi, h, Result.andThen]

section
variable {a : Base} {R : Asr} {F H : HP} {S : List Nat}

theorem all256 {g off : Nat} {l : List (Int × Int)} (gr : Good R) (h : Wd a R F H S) (hd : DqH H ⟨g, off, none⟩ l) (hlen : l.length < 1000000000) :
    Den.Spec Tryz.prog 256 #[.pointer (some ⟨g, off, none⟩)] H fun e' H' => ∃ p' c' S', e' = .returned (.slice p' l.length c') ∧ Wd a ((sepc (ownS 292 2 p' l.length c' (cellsD l)) R)) F H' S' := by
  obtain ⟨p, c, h1, h2⟩ := hd
  refine spec256 (WIf.f rfl (WNonNil.some (WLoad.sl (by rw [addN]; exact h1) ?_)))
  refine WCall.of (clone279 gr h hlen h2) ?_ ?_
  · rintro v H' ⟨p', c', S', hv, hw⟩
    cases hv
    exact WOpen.sl ⟨p', c', S', rfl, hw⟩
  · rintro e H' ⟨p', c', S', hv, hw⟩ hne
    exact absurd hv (hne _)

theorem sum236 {g off : Nat} {l : List (Int × Int)} (gr : Good R) (h : Wd a R F H S) (hd : DqH H ⟨g, off, none⟩ l) (hlen : l.length < 1000000000) :
    Den.Spec Tryz.prog 236 #[.pointer (some ⟨g, off, none⟩)] H fun e' H' => e' = .returned (.int .i64 (sumD 0 l)) ∧ ∃ S', Wd a R F H' S' := by
  refine spec236 (WCall.of (all256 gr h hd hlen) ?_ ?_)
  · rintro v H1 ⟨p, c, S1, hv, hw⟩
    cases hv
    refine WOpen.sl ?_
    refine WLoop.run l.length (fun x => x.1.2.1.toNat) (fun i x H' => H' = H1 ∧ ∃ n, x = ((n, ((i : Int), ())), ()) ∧ sumD 0 l = sumD n (l.drop i)) 0 ⟨rfl, 0, rfl, by simp⟩ (Nat.zero_le _) ?_ ?_
    · rintro i x H ⟨_, n, rfl, _⟩; simp
    · rintro i x H2 again - hi ⟨rfl, n, rfl, hn⟩ hag
      by_cases hlt : i < l.length
      · refine WIf.t (by simpa using hlt) ?_
        obtain ⟨g', hp, hh⟩ := ownS_at (l := l) (star_fst Good.ownS hw.it) i hlt
        refine WIndex.at' hp hlt (WLoad.ii (n := l[i].1) (m := l[i].2) (by rw [addN, Int.toNat_natCast, Nat.zero_add]; exact hh) ?_)
        rw [List.drop_eq_getElem_cons hlt] at hn
        rw [wrapS (by omega)]
        exact hag _ _ hlt ⟨rfl, _, rfl, hn⟩
      · refine WIf.f (by simpa using hlt) ⟨?_, S1, hw.imp fun hh => star_snd gr hh⟩
        rw [hn, List.drop_eq_nil_iff.2 (by omega)]
        rfl
  · rintro e H' ⟨p', c', S', hv, hw⟩ hne
    exact absurd hv (hne _)

theorem clone219 {g off : Nat} {l : List (Int × Int)} (gr : Good R) (h : Wd a R F H S) (hd : DqH H ⟨g, off, none⟩ l) (hlen : l.length < 1000000000) :
    Den.Spec Tryz.prog 219 #[.pointer (some ⟨g, off, none⟩)] H fun e' H' => ∃ z p' c' S', e' = .returned (.pointer (some ⟨z, 0, none⟩)) ∧ H' z = some (.cells ⟨[.slice p' l.length c']⟩ 254 (0, 0)) ∧ Wd a ((sepc (ownS 292 2 p' l.length c' (cellsD l)) R)) F H' S' := by
  refine spec219 (WIf.f rfl (WCall.of (all256 gr h hd hlen) ?_ ?_))
  · rintro v H1 ⟨p, c, S1, hv, hw⟩
    cases hv
    refine WOpen.sl ?_
    refine WNew.blk (Good.star Good.ownS gr) hw fun z H2 hz hle h2 => ⟨z, p, c, _, rfl, blk_at h2.it, h2.imp fun hh => star_snd (Good.star Good.ownS gr) hh⟩
  · rintro e H' ⟨p', c', S', hv, hw⟩ hne
    exact absurd hv (hne _)

theorem delete266 {p : Option Addr} {c i : Nat} {l : List (Int × Int)} (gr : Good R) (h : Wd a ((sepc (ownS 292 2 p l.length c (cellsD l)) R)) F H S) (hi : 0 < i) (hil : i ≤ l.length) (hlen : l.length < 1000000000) :
    Den.Spec Tryz.prog 266 #[.slice p l.length c, .int .i64 0, .int .i64 (i : Int)] H fun e' H' => ∃ p' c' S', e' = .returned (.slice p' (l.drop i).length c') ∧ Wd a ((sepc (ownS 292 2 p' (l.drop i).length c' (cellsD (l.drop i))) R)) F H' S' := by
  have hcopy := h
  obtain ⟨wd, tr, S1, S2, i1, i2, idj, hA, hR⟩ := h
  obtain ⟨hx, h4⟩ := hA
  rcases h4 with ⟨rfl, h0, rfl⟩ | ⟨g, cur, rfl, hgS, hg, q1, q2, q3, q4⟩
  · omega
  refine spec266 ?_
  refine SliceTy.slice3 sliceCell (by omega) (by omega) (by omega) (by omega) ?_
  refine WOpen.sl (WIf.f (beq_false_of_ne (by omega)) ⟨⟨by omega, by omega, by omega⟩, ⟨by omega, by omega, by omega⟩, ?_⟩)
  have hd0 : (if c = 0 then some (⟨g, 0, none⟩ : Addr) else Option.map (fun x => Addr.add x 0) (some ⟨g, 0, none⟩)) = some ⟨g, 0, none⟩ := by
    split
    · rfl
    · simp [addN]
  simp only [Int.toNat_natCast, Int.toNat_zero, Nat.sub_zero]
  rw [hd0]
  have hlenD : (l.drop i).length = l.length - i := List.length_drop
  have hnews : H.has ⟨g, i * 2, none⟩ (cellsD (l.drop i)) := by
    by_cases hne : cellsD (l.drop i) = []
    · rw [hne]; intro j v hj; simp at hj
    · obtain ⟨g', hp, hh⟩ := ownS_has (i := i * 2) (vs := cellsD (l.drop i)) (star_fst Good.ownS hcopy.it) (by rw [cellsD_drop]; exact List.take_length) hne
      cases hp
      exact hh
  have hown : Wd a ((sepc (ownS 292 2 (some ⟨g, 0, none⟩) 0 c []) R)) F H S := ⟨wd, tr, S1, S2, i1, i2, idj, ⟨rfl, .inr ⟨g, cur, rfl, hgS, hg, Nat.zero_le _, q2, q3, by simp⟩⟩, hR⟩
  obtain ⟨x, hxe, hxh⟩ : ∃ x, (if c = i then some (⟨g, 0, none⟩ : Addr) else Option.map (fun x => Addr.add x (i * 2)) (some ⟨g, 0, none⟩)) = some x ∧ H.has x (cellsD (l.drop i)) := by
    split
    · rename_i hci
      have : l.drop i = [] := List.drop_eq_nil_iff.2 (by omega)
      rw [this]
      exact ⟨_, rfl, fun j v hj => by simp [cellsD] at hj⟩
    · exact ⟨⟨g, i * 2, none⟩, by simp [addN], hnews⟩
  rw [hxe, ← hlenD]
  refine SliceTy.push sliceCell (by omega) gr hown (m := (l.drop i).length) (news := cellsD (l.drop i)) (cellsD_length _) hxh (cellsD_one _) (by rw [hlenD]; simp only [maxLen]; omega) (by omega) ?_
  intro p' cap H2 S2' h3 hfit
  simp only [Nat.zero_add, List.nil_append] at h3 hfit ⊢
  obtain ⟨rfl, rfl⟩ := hfit (by rw [hlenD]; omega)
  refine WOpen.sl ⟨⟨by omega, by rw [hlenD]; omega, by omega⟩, ?_⟩
  rw [if_neg (by rw [hlenD]; omega), Option.map_some, addN, Nat.zero_add]
  refine SliceTy.clear sliceCell zeroCell gr h3 rfl (Nat.le_refl _) (by rw [hlenD]; omega) (by rw [hlenD]; omega) fun H3 h5 => ?_
  exact WOpen.u ⟨_, _, _, rfl, h5⟩

def pruneD (l : List (Int × Int)) (from' : Int) : List (Int × Int) := l.dropWhile fun c => decide (c.1 < from')
def pruneN (l : List (Int × Int)) (from' : Int) : Nat := (l.takeWhile fun c => decide (c.1 < from')).length

theorem prune_drop (l : List (Int × Int)) (f : Int) : pruneD l f = l.drop (pruneN l f) := by
  unfold pruneD pruneN
  induction l with
  | nil => rfl
  | cons c l ih =>
    by_cases h : c.1 < f
    · simp [List.dropWhile, List.takeWhile, h, ih]
    · simp [List.dropWhile, List.takeWhile, h]

theorem pruneN_of {l : List (Int × Int)} {f : Int} {i : Nat} (hi : i ≤ l.length) (h1 : ∀ j (h : j < l.length), j < i → l[j].1 < f) (h2 : ∀ h : i < l.length, ¬ l[i].1 < f) : pruneN l f = i := by
  unfold pruneN
  induction l generalizing i with
  | nil => simp at hi; simp [hi]
  | cons c l ih =>
    cases i with
    | zero =>
      have := h2 (by simp)
      simp only [List.getElem_cons_zero] at this
      simp [List.takeWhile, this]
    | succ i =>
      have := h1 0 (by simp) (by omega)
      simp only [List.getElem_cons_zero] at this
      simp only [List.takeWhile, this, decide_true, List.length_cons]
      rw [ih (i := i) (by simpa using hi) (fun j h hj => h1 (j + 1) (by simpa using h) (by omega)) (fun h => h2 (by simpa using h))]

theorem prune234 {g : Nat} {e : TypeId} {pre post : List Value} {l : List (Int × Int)} (f : Int) (gr : Good R) (h : Wd a ((sepc (dqA g e pre post l) R)) F H S) (hlen : l.length < 1000000000) :
    Den.Spec Tryz.prog 234 #[.pointer (some ⟨g, pre.length, none⟩), .int .i64 f] H fun e' H' => e' = .returned (.int .i64 (pruneN l f)) ∧ ∃ S', Wd a ((sepc (dqA g e pre post (pruneD l f)) R)) F H' S' := by
  have hread := dqA_read h.it
  refine spec234 ?_
  have cut : ∀ i : Nat, i ≤ l.length → pruneN l f = i → 
      WIf (decide ((i : Int) > 0)) (WNonNil (some (⟨g, pre.length, none⟩ : Addr)) fun q7 =>
       WLoad (Addr.add q7 0) (.l .sl) fun (x8 : Option Go.Addr) (x8_1 : Nat) (x8_2 : Nat) =>
       WCall Tryz.prog (fun (e' : Ending) H' => e' = .returned (.int .i64 (pruneN l f)) ∧ ∃ S', Wd a ((sepc (dqA g e pre post (pruneD l f)) R)) F H' S') 266 #[(.slice x8 x8_1 x8_2), (.int .i64 0), (.int .i64 (i : Int))] (WOpen (.one (.l .sl)) fun (x9 : Option Go.Addr) (x9_1 : Nat) (x9_2 : Nat) =>
       WNonNil (some (⟨g, pre.length, none⟩ : Addr)) fun q10 =>
       WStore (Addr.add q10 0) [(.slice x9 x9_1 x9_2)] <|
       (fun (e' : Ending) H' => e' = .returned (.int .i64 (pruneN l f)) ∧ ∃ S', Wd a ((sepc (dqA g e pre post (pruneD l f)) R)) F H' S') (.returned (.int .i64 (i : Int)))))
      ((fun (e' : Ending) H' => e' = .returned (.int .i64 (pruneN l f)) ∧ ∃ S', Wd a ((sepc (dqA g e pre post (pruneD l f)) R)) F H' S') (.returned (.int .i64 (i : Int)))) H := by
    intro i hi hn
    rw [prune_drop, hn]
    refine WIf.intro (fun hpos => ?_) (fun hz => ?_)
    · have hpos : 0 < i := by have := of_decide_eq_true hpos; omega
      refine WNonNil.some ?_
      obtain ⟨wd, tr, S1, S2, i1, i2, idj, ⟨⟨p, c⟩, hA⟩, hR⟩ := h
      have h : Wd a ((sepc ((sepc (blk g e (pre ++ .slice p l.length c :: post)) (ownS 292 2 p l.length c (cellsD l)))) R)) F H S := ⟨wd, tr, S1, S2, i1, i2, idj, hA, hR⟩
      refine WLoad.sl (p := p) (n := l.length) (c := c) (by rw [addN]; exact blk_has (star_assoc h.it) (by simp)) ?_
      refine WCall.of (delete266 (Good.star Good.blk gr) (h.imp fun hh => star_left (star_assoc hh)) hpos hi hlen) ?_ ?_
      · rintro v H1 ⟨p', c', S1', hv, hw⟩
        cases hv
        refine WOpen.sl (WNonNil.some ?_)
        rw [addN]
        refine WStore.blk (Good.star Good.ownS gr) (hw.imp star_left) (by simp) fun H2 h2 => ⟨rfl, _, h2.imp fun hh => ?_⟩
        rw [Nat.add_zero, writeL_mid] at hh
        exact star_mono (fun T hT => ⟨(p', c'), hT⟩) (fun _ h => h) (star_assoc' hh)
      · rintro e H' ⟨p', c', S', hv, hw⟩ hne
        exact absurd hv (hne _)
    · have hz : i = 0 := by have := of_decide_eq_false hz; omega
      subst hz
      exact ⟨rfl, S, by rw [List.drop_zero]; exact h⟩
  refine WLoop.up l.length 0 (fun i => ∀ j (h : j < l.length), j < i → l[j].1 < f) (fun j _ h => by omega) (Nat.zero_le _) ?_
  intro i again _ hi hI hag
  refine WCall.pure (len217 hread) (WOpen.i ?_)
  by_cases hlt : i < l.length
  · refine WIf.t (by simpa using hlt) (WNonNil.some ?_)
    obtain ⟨p, c, h1, h2⟩ := hread
    refine WLoad.sl (by rw [addN]; exact h1) ?_
    obtain ⟨g', hp, hh⟩ := h2 i hlt
    refine WIndex.at' hp hlt (WLoad.i (n := l[i].1) ?_ ?_)
    · rw [addN, addN, Int.toNat_natCast, Nat.zero_add]
      have := hasOne hh (j := 0) rfl
      rwa [addN] at this
    · refine WIf.intro (fun hc => ?_) (fun hc => ?_)
      · rw [wrapS (by omega)]
        refine hag hlt fun j hj hji => ?_
        by_cases e : j = i
        · subst e; exact of_decide_eq_true hc
        · exact hI j hj (by omega)
      · exact cut i hi (pruneN_of hi hI fun _ => of_decide_eq_false hc)
  · refine WIf.f (by simpa using hlt) ?_
    exact cut i hi (pruneN_of hi hI fun h => absurd h hlt)
end
end Go.Proofs.YtmidcnfnmnhifaaGreat

