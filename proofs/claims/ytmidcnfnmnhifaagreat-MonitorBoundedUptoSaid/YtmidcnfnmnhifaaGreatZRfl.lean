/-
  beadleref06: contracts.
-/
import Derived.Test.YtmidcnfnmnhifaaGreatZLex
import Derived.Laws.Strings
import Derived.Test.YtmidcnfnmnhifaaGreatZWza
import Derived.Test.YtmidcnfnmnhifaaGreatZWzb
import Derived.Test.YtmidcnfnmnhifaaGreatZWzc
namespace Go.Proofs.YtmidcnfnmnhifaaGreat
set_option linter.unusedSectionVars false
set_option linter.unusedSimpArgs false
set_option linter.unusedVariables false
open Go Go.Den
set_option linter.unusedVariables false

theorem idxN_neg (s : ByteArray) (c : UInt8) : idxN s c < 0 ↔ ∀ i, i < s.size → s[i]! ≠ c := by
  unfold idxN
  cases h : (List.range s.size).find? fun i => s[i]! == c with
  | some i =>
    have h1 := List.mem_of_find?_eq_some h
    have h2 := List.find?_some h
    simp only [beq_iff_eq] at h2
    exact ⟨fun h => by simp at h; omega, fun h => absurd h2 (h i (List.mem_range.1 h1))⟩
  | none =>
    rw [List.find?_eq_none] at h
    exact ⟨fun _ i hi => by have := h i (List.mem_range.2 hi); simpa using this, fun _ => (by decide : (-1 : Int) < 0)⟩

theorem refPlain_spec {H : HP} (s : ByteArray) : Pure Tryz.prog 149 #[.string s] H (.bool (plainB s)) := by
  refine Pure.of (spec149 ?_)
  unfold W149
  refine WIf.intro (fun h => ?_) (fun h => ?_)
  · have h1 : ¬ s.size ≤ 32 := by have : ((s.size : Nat) : Int) > 32 := of_decide_eq_true h; omega
    exact ⟨by simp [plainB, h1], HP.le.refl H⟩
  have h1 : s.size ≤ 32 := by have : ¬ ((s.size : Nat) : Int) > 32 := of_decide_eq_false h; omega
  refine WLoop.intro (fun x H' => H' = H ∧ ∃ i : Nat, i ≤ s.size ∧ (∀ j, j < i → s[j]! ≠ 34 ∧ s[j]! ≠ 10) ∧ x = (((i : Int), ()), ())) (fun x => s.size - x.1.1.toNat) ⟨rfl, 0, by omega, fun j hj => by omega, rfl⟩ ?_
  rintro x H' ⟨hH, i, hi, hall, rfl⟩
  rw [hH]
  refine WIf.intro (fun h => ?_) (fun h => ?_)
  · have hlt : i < s.size := by have : (i : Int) < s.size := of_decide_eq_true h; omega
    have eqb : ∀ (c : UInt8) (n : Int), (c.toNat : Int) = n → ((((s[i]!).toNat : Nat) : Int) == n) = decide (s[i]! = c) := by
      intro c n hc
      subst hc
      by_cases e : s[i]! = c
      · simp [e]
      · have : (s[i]!).toNat ≠ c.toNat := fun h => e (UInt8.toNat_inj.1 h)
        simp [e]
        omega
    refine ⟨s[i]!, by simp, by simpa using byte_get hlt, ?_⟩
    simp only [eqb 34 34 rfl]
    refine WIf.intro (fun h => ?_) (fun h => ?_)
    · have h : s[i]! = 34 := of_decide_eq_true h
      have : ¬ idxN s 34 < 0 := fun hn => (idxN_neg s 34).1 hn i hlt h
      exact ⟨by simp [plainB, this], HP.le.refl H⟩
    · have h34 : s[i]! ≠ 34 := of_decide_eq_false h
      refine ⟨s[i]!, by simp, by simpa using byte_get hlt, ?_⟩
      simp only [eqb 10 10 rfl]
      refine WIf.intro (fun h => ?_) (fun h => ?_)
      · have h : s[i]! = 10 := of_decide_eq_true h
        have : ¬ idxN s 10 < 0 := fun hn => (idxN_neg s 10).1 hn i hlt h
        exact ⟨by simp [plainB, this], HP.le.refl H⟩
      · have h10 : s[i]! ≠ 10 := of_decide_eq_false h
        have hw : IntKind.wrap .i64 ((i : Int) + 1) = (i : Int) + 1 := IntWalk.i64_in _ ⟨by omega, by omega⟩
        refine ⟨⟨rfl, i + 1, by omega, fun j hj => ?_, ?_⟩, ?_⟩
        · by_cases e : j = i
          · rw [e]; exact ⟨h34, h10⟩
          · exact hall j (by omega)
        · simp only [hw]; rfl
        · simp only [hw]; omega
  · have hge : i = s.size := by have : ¬ (i : Int) < s.size := of_decide_eq_false h; omega
    have a1 : idxN s 34 < 0 := (idxN_neg s 34).2 fun j hj => (hall j (by omega)).1
    have a2 : idxN s 10 < 0 := (idxN_neg s 10).2 fun j hj => (hall j (by omega)).2
    exact ⟨by simp [plainB, h1, a1, a2], HP.le.refl H⟩

def headB (a0 : Int) : Bool := (((decide (a0 ≥ 97)) && (decide (a0 ≤ 122))) || ((decide (a0 ≥ 65)) && (decide (a0 ≤ 90)))) || (a0 == 95)

theorem head_spec {H : HP} (c : Int) : Pure Tryz.prog 188 #[.int .u8 c] H (.bool (headB c)) := Pure.of (spec188 ⟨rfl, HP.le.refl H⟩)

theorem tail_spec {H : HP} (c : Int) : Pure Tryz.prog 189 #[.int .u8 c] H (.bool (headB c || digitB c)) := by
  refine Pure.of (spec189 ?_)
  refine WCall.pure (head_spec c) (WOpen.b ?_)
  refine WIf.intro (fun h => ⟨by rw [h]; rfl, HP.le.refl H⟩) (fun h => ?_)
  refine WIf.intro (fun h2 => ⟨by rw [h]; simp only [digitB, h2]; rfl, HP.le.refl H⟩) (fun h2 => ⟨by rw [h]; simp only [digitB, h2]; rfl, HP.le.refl H⟩)

/-- the two letters are one -/
theorem letter_head : ∀ c : UInt8, letterB c.toNat = headB c.toNat := by
  intro c
  have : ∀ n : Fin 256, letterB (n.val : Int) = headB (n.val : Int) := by decide +kernel
  have h := this ⟨c.toNat, c.toNat_lt⟩
  exact h

theorem emp_size (s : ByteArray) : (s.toList == (ByteArray.mk #[]).toList) = decide (s.size = 0) := by
  rw [ByteArray.toList_eq, ByteArray.toList_eq]
  obtain ⟨⟨l⟩⟩ := s
  cases l <;> rfl

theorem refName_spec {H : HP} (s : ByteArray) (hs : s.size < 1000000000000) : Pure Tryz.prog 110 #[.string s] H (.bool (nameB s)) := by
  refine Pure.of (spec110 ?_)
  unfold W110
  have na : ∀ i, nameAt s i = (headB s[i]!.toNat || (i != 0 && digitB s[i]!.toNat)) := fun i => by unfold nameAt; rw [letter_head]
  refine WIf.intro (fun h => ?_) (fun h => ?_)
  · exact ⟨by unfold nameB; rw [h]; simp, HP.le.refl H⟩
  have h0 : s.size ≠ 0 := by rw [emp_size] at h; exact of_decide_eq_false h
  refine WIf.intro (fun h2 => ?_) (fun h2 => ?_)
  · have : ¬ ((s.size : Nat) : Int) ≤ 16 := by have : ((s.size : Nat) : Int) > 16 := of_decide_eq_true h2; omega
    exact ⟨by unfold nameB; simp [this], HP.le.refl H⟩
  have h16 : ((s.size : Nat) : Int) ≤ 16 := by have : ¬ ((s.size : Nat) : Int) > 16 := of_decide_eq_false h2; omega
  have bad : ∀ i, i < s.size → nameAt s i = false → nameB s = false := by
    intro i h1 h2
    unfold nameB
    have : (List.range s.size).all (nameAt s) = false := by
      rw [List.all_eq_false]
      exact ⟨i, List.mem_range.2 h1, by simp [h2]⟩
    rw [this]; rfl
  refine ⟨s[0]!, by simp, by simpa using byte_get (s := s) (i := 0) (by omega), ?_⟩
  refine WCall.pure (head_spec _) (WOpen.b ?_)
  refine WIf.intro (fun hh => ?_) (fun hh => ?_)
  · have hh : headB s[0]!.toNat = false := by simpa using hh
    exact ⟨by rw [bad 0 (by omega) (by rw [na, hh]; rfl)], HP.le.refl H⟩
  have hh : headB s[0]!.toNat = true := by simpa using hh
  refine WLoop.intro (fun x H' => H' = H ∧ ∃ i : Nat, 1 ≤ i ∧ i ≤ s.size ∧ (∀ j, j < i → nameAt s j = true) ∧ x = (((i : Int), ()), ())) (fun x => s.size - x.1.1.toNat) ⟨rfl, 1, by omega, by omega, fun j hj => by
    have : j = 0 := by omega
    rw [this, na, hh]; rfl, rfl⟩ ?_
  rintro x H' ⟨hH, i, hi1, hi, hall, rfl⟩
  rw [hH]
  refine WIf.intro (fun h => ?_) (fun h => ?_)
  · have hlt : i < s.size := by have : (i : Int) < s.size := of_decide_eq_true h; omega
    refine ⟨s[i]!, by simp, by simpa using byte_get hlt, ?_⟩
    refine WCall.pure (tail_spec _) (WOpen.b ?_)
    have hne : (i != 0) = true := by simp; omega
    have hn : nameAt s i = (headB s[i]!.toNat || digitB s[i]!.toNat) := by rw [na, hne, Bool.true_and]
    refine WIf.intro (fun h => ?_) (fun h => ?_)
    · have h : (headB s[i]!.toNat || digitB s[i]!.toNat) = false := by simpa using h
      exact ⟨by rw [bad i hlt (by rw [hn, h])], HP.le.refl H⟩
    · have h : (headB s[i]!.toNat || digitB s[i]!.toNat) = true := by
        cases e : (headB s[i]!.toNat || digitB s[i]!.toNat)
        · rw [e] at h; cases h
        · rfl
      have hw : IntKind.wrap .i64 ((i : Int) + 1) = (i : Int) + 1 := IntWalk.i64_in _ ⟨by omega, by omega⟩
      refine ⟨⟨rfl, i + 1, by omega, by omega, fun j hj => ?_, ?_⟩, ?_⟩
      · by_cases e : j = i
        · rw [e, hn, h]
        · exact hall j (by omega)
      · simp only [hw]; rfl
      · simp only [hw]; omega
  · have hge : i = s.size := by have : ¬ (i : Int) < s.size := of_decide_eq_false h; omega
    have hall' : (List.range s.size).all (nameAt s) = true := by
      rw [List.all_eq_true]
      intro j hj
      exact hall j (by rw [hge]; exact List.mem_range.1 hj)
    have he : (s.toList == (ByteArray.mk #[]).toList) = false := by rw [emp_size]; simp [h0]
    exact ⟨by unfold nameB; rw [hall', he]; simp [h16], HP.le.refl H⟩
end Go.Proofs.YtmidcnfnmnhifaaGreat
