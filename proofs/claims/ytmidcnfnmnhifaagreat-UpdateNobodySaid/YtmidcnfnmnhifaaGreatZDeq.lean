/-
  Package deque.
-/
import Derived.Test.YtmidcnfnmnhifaaGreatZOwn
import Derived.Test.YtmidcnfnmnhifaaGreatZWza
import Derived.Test.YtmidcnfnmnhifaaGreatZWzb
import Derived.Test.YtmidcnfnmnhifaaGreatZWzc
namespace Go.Den
set_option linter.unusedSectionVars false
set_option linter.unusedSimpArgs false
set_option linter.unusedVariables false
open Go
section
variable {P : Program} {a : Base} {R : Asr} {F H : HP} {S : List Nat}
/-- a cell of an own slice is written -/
theorem WStore.own {e : TypeId} {size : Nat} {p : Option Addr} {n c g j : Nat} {xs : List Value} {v : Value} {k : W} (gr : Good R) (h : Wd a ((sepc (ownS e size p n c xs) R)) F H S) (hp : p = some ⟨g, 0, none⟩) (hj : j < n * size)
    (hk : ∀ H', Wd a ((sepc (ownS e size p n c (xs.set j v)) R)) F H' S → k H') : WStore ⟨g, j, none⟩ [v] k H := by
  obtain ⟨wd, tr, S1, S2, i1, i2, id, ⟨hx, h2⟩, hR⟩ := h
  rcases h2 with ⟨rfl, rfl, rfl⟩ | ⟨g', cur, rfl, hgS, hg, q1, q2, q3, q4⟩
  · cases hp
  · cases hp
    have hcs : j < cur.size := by
      rw [q3]
      exact Nat.lt_of_lt_of_le hj (Nat.mul_le_mul_right _ q1)
    refine WStore.blk (e := e) (l := cur.toList) gr ⟨wd, tr, S1, S2, i1, i2, id, ⟨hgS, hg⟩, hR⟩ (by simp; omega) fun H' hw => hk H' (hw.imp fun hh => star_mono (fun S' h' => ?_) (fun _ h => h) hh)
    refine ⟨by simpa using hx, .inr ⟨g, ⟨writeL cur.toList j [v]⟩, rfl, h'.1, h'.2, q1, q2, ?_, ?_⟩⟩
    · simp [writeL]
      omega
    · have e1 : writeL cur.toList j [v] = cur.toList.set j v := by
        unfold writeL
        simp only [List.length_singleton]
        rw [List.set_eq_take_append_cons_drop, if_pos (by simpa using hcs)]
        simp
      simp only
      rw [e1, ← q4, List.take_set]
end
end Go.Den
namespace Go.Proofs.YtmidcnfnmnhifaaGreat
set_option linter.unusedSectionVars false
set_option linter.unusedSimpArgs false
set_option linter.unusedVariables false
open Go Go.Den
set_option linter.unusedVariables false

theorem sliceCell : SliceTy Tryz.prog 252 292 2 16 := ⟨by kernel_rfl, by kernel_rfl⟩

def cellsD : List (Int × Int) → List Value
  | [] => []
  | c :: l => .int .i64 c.1 :: .int .i64 c.2 :: cellsD l

theorem cellsD_length : ∀ l : List (Int × Int), (cellsD l).length = l.length * 2
  | [] => rfl
  | c :: l => by simp only [cellsD, List.length_cons, cellsD_length l]; omega
theorem cellsD_append : ∀ l m : List (Int × Int), cellsD (l ++ m) = cellsD l ++ cellsD m
  | [], m => rfl
  | c :: l, m => by simp only [List.cons_append, cellsD, cellsD_append l m]
theorem cellsD_drop : ∀ (l : List (Int × Int)) (i : Nat), (cellsD l).drop (i * 2) = cellsD (l.drop i)
  | l, 0 => by simp
  | [], i + 1 => by simp [cellsD]
  | c :: l, i + 1 => by
    rw [show (i + 1) * 2 = i * 2 + 1 + 1 by omega]
    simp only [cellsD, List.drop_succ_cons]
    exact cellsD_drop l i
theorem cellsD_at {l : List (Int × Int)} {i : Nat} (h : i < l.length) : ((cellsD l).drop (i * 2)).take 2 = [.int .i64 l[i].1, .int .i64 l[i].2] := by
  rw [cellsD_drop, List.drop_eq_getElem_cons h]
  rfl
theorem cellsD_one : ∀ (l : List (Int × Int)), ∀ u ∈ cellsD l, u.oneCell' = true
  | [], u, h => by simp [cellsD] at h
  | c :: l, u, h => by
    simp only [cellsD, List.mem_cons] at h
    rcases h with rfl | rfl | h
    · rfl
    · rfl
    · exact cellsD_one l u h

/-- a deque that can be read -/
def DqH (H : HP) (a : Addr) (l : List (Int × Int)) : Prop := ∃ p c, H.has a [.slice p l.length c] ∧ ∀ i (h : i < l.length), ∃ g, p = some ⟨g, 0, none⟩ ∧ H.has ⟨g, i * 2, none⟩ [.int .i64 l[i].1, .int .i64 l[i].2]

/-- a deque in a block -/
def dqA (g : Nat) (e : TypeId) (pre post : List Value) (l : List (Int × Int)) : Asr := ex fun v : Option Addr × Nat => (sepc (blk g e (pre ++ .slice v.1 l.length v.2 :: post)) (ownS 292 2 v.1 l.length v.2 (cellsD l)))

theorem Good.dqA {g : Nat} {e : TypeId} {pre post : List Value} {l : List (Int × Int)} : Good (dqA g e pre post l) := Good.ex fun _ => Good.star Good.blk Good.ownS

theorem ownS_at {H : HP} {F : HP} {S : List Nat} {p : Option Addr} {c : Nat} {l : List (Int × Int)} (h : ownS 292 2 p l.length c (cellsD l) F H S) (i : Nat) (hi : i < l.length) :
    ∃ g, p = some ⟨g, 0, none⟩ ∧ H.has ⟨g, i * 2, none⟩ [.int .i64 l[i].1, .int .i64 l[i].2] := ownS_has h (by exact cellsD_at hi) (by simp)

theorem dqA_read {g : Nat} {e : TypeId} {pre post : List Value} {l : List (Int × Int)} {R : Asr} {F H : HP} {S : List Nat} (h : ((sepc (dqA g e pre post l) R)) F H S) : DqH H ⟨g, pre.length, none⟩ l := by
  obtain ⟨S1, S2, _, _, _, ⟨⟨p, c⟩, h1⟩, _⟩ := h
  refine ⟨p, c, blk_has h1 (by simp), fun i hi => ?_⟩
  obtain ⟨T1, T2, _, _, _, _, h2⟩ := h1
  exact ownS_at h2 i hi

section
variable {H : HP} {a : Addr} {l : List (Int × Int)}

theorem len217 {g off : Nat} (h : DqH H ⟨g, off, none⟩ l) : Pure Tryz.prog 217 #[.pointer (some ⟨g, off, none⟩)] H (.int .i64 l.length) := by
  obtain ⟨p, c, h1, h2⟩ := h
  refine Pure.of (spec217 ?_)
  exact WIf.f rfl (WNonNil.some (WLoad.sl (by rw [addN]; exact h1) ⟨rfl, HP.le.refl H⟩))

theorem len217n : Pure Tryz.prog 217 #[.pointer none] H (.int .i64 0) := Pure.of (spec217 (WIf.t rfl ⟨rfl, HP.le.refl H⟩))

theorem WOpen.cb {n m : Int} {b : Bool} {body : Int → Int → Bool → W} (h : body n m b H) : WOpen (.tup [(.agg [(.i .i64), (.i .i64)]), (.l .b)]) body (.tuple #[.agg #[.int .i64 n, .int .i64 m], .bool b]) H := ⟨((n, m, ()), b, ()), rfl, h⟩

def firstV (l : List (Int × Int)) : Value := match l with
  | [] => .tuple #[.agg #[.int .i64 0, .int .i64 0], .bool false]
  | c :: _ => .tuple #[.agg #[.int .i64 c.1, .int .i64 c.2], .bool true]

theorem first257 {g off : Nat} (h : DqH H ⟨g, off, none⟩ l) : Pure Tryz.prog 257 #[.pointer (some ⟨g, off, none⟩)] H (firstV l) := by
  have hl := len217 h
  obtain ⟨p, c, h1, h2⟩ := h
  refine Pure.of (spec257 (WCall.pure hl (WOpen.i ?_)))
  cases l with
  | nil => exact WIf.t rfl ⟨rfl, HP.le.refl H⟩
  | cons x l =>
    refine WIf.f (beq_false_of_ne (by simp only [List.length_cons]; omega)) (WNonNil.some (WLoad.sl (by rw [addN]; exact h1) ?_))
    obtain ⟨g', rfl, h3⟩ := h2 0 (by simp)
    refine ⟨_, rfl, by omega, by simp only [List.length_cons]; omega, WLoad.ii (n := x.1) (m := x.2) (by rw [addN]; exact h3) ⟨rfl, HP.le.refl H⟩⟩

def lastV (l : List (Int × Int)) : Value := match l.getLast? with
  | none => .tuple #[.agg #[.int .i64 0, .int .i64 0], .bool false]
  | some c => .tuple #[.agg #[.int .i64 c.1, .int .i64 c.2], .bool true]

theorem last267 {g off : Nat} (h : DqH H ⟨g, off, none⟩ l) (hlen : l.length < 1000000000000) : Pure Tryz.prog 267 #[.pointer (some ⟨g, off, none⟩)] H (lastV l) := by
  have hl := len217 h
  obtain ⟨p, c, h1, h2⟩ := h
  refine Pure.of (spec267 (WCall.pure hl (WOpen.i ?_)))
  by_cases h0 : l.length = 0
  · have : l = [] := List.length_eq_zero_iff.1 h0
    subst this
    exact WIf.t rfl ⟨rfl, HP.le.refl H⟩
  · refine WIf.f (beq_false_of_ne (by omega)) (WNonNil.some (WLoad.sl (by rw [addN]; exact h1) (WNonNil.some (WLoad.sl (by rw [addN]; exact h1) ?_))))
    rw [wrapP hlen (by omega)]
    obtain ⟨g', rfl, h3⟩ := h2 (l.length - 1) (by omega)
    refine WIndex.at (Nat.sub_lt (by omega) (by omega)) ?_
    refine WLoad.ii (n := l[l.length - 1].1) (m := l[l.length - 1].2) (by rw [addN, Nat.zero_add, Int.toNat_natCast]; exact h3) ⟨?_, HP.le.refl H⟩
    have : l.getLast? = some l[l.length - 1] := by rw [List.getLast?_eq_getElem?]; simp [show l.length - 1 < l.length by omega]
    unfold lastV
    rw [this]
end
end Go.Proofs.YtmidcnfnmnhifaaGreat
