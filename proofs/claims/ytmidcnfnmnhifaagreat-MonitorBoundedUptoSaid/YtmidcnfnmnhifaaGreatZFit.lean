/-
  beadleref07.fits.
-/
import Derived.Test.YtmidcnfnmnhifaaGreatZRfl
import Derived.Test.YtmidcnfnmnhifaaGreatZRef
namespace Go.Proofs.YtmidcnfnmnhifaaGreat
set_option linter.unusedSectionVars false
set_option linter.unusedSimpArgs false
set_option linter.unusedVariables false
open Go Go.Den
set_option linter.unusedVariables false

def named (k : Int) : Bool := (((k == 5) || (k == 6)) || (k == 13)) || (k == 21)
def nameFits (k : Int) (s : ByteArray) : Bool := if k = 3 then plainB s else if named k then nameB s else emp s
def badN (k n : Int) : Bool := (((k == 1) && (decide (n < 0))) || (((k == 2) && (n != 0)) && (n != 1))) || (((k != 1) && (k != 2)) && (n != 0))
def endsFit (k a b : Int) : Bool :=
  if (((k == 22) || (k == 23)) || (k == 24)) then (decide (a ≥ 0)) && ((b == (-1)) || (decide (b ≥ a)))
  else if k = 13 then (a == 0) && (decide (b ≥ 0)) else (a == 0) && (b == 0)
def fitsB (k n a b : Int) (s : ByteArray) : Bool := nameFits k s && (!badN k n && endsFit k a b)

theorem fits_spec {H : HP} (k n a b : Int) (s : ByteArray) (p : Option Addr) (l c : Nat) (hs : s.size < 1000000000000) :
    Pure Tryz.prog 85 #[.agg ⟨exCells k s n a b p l c⟩] H (.bool (fitsB k n a b s)) := by
  refine Pure.of (spec85 (a0_0 := k) (a0_1 := s) (a0_2 := n) (a0_3 := a) (a0_4 := b) (a0_5a := p) (a0_5n := l) (a0_5c := c) ?_)
  unfold W85
  have bad : nameFits k s = false → fitsB k n a b s = false := fun h => by unfold fitsB; rw [h]; rfl
  refine ⟨fun _ H' => H' = H ∧ (k = 3 → plainB s = true), ?_, fun x H' hJ => ?_⟩
  · refine WIf.intro (fun h => ?_) (fun h => ?_)
    · have h : k = 3 := eq_of_beq h
      refine WCall.pure (refPlain_spec s) (WOpen.b ?_)
      refine WIf.intro (fun h2 => ?_) (fun h2 => ?_)
      · exact ⟨by rw [bad (by unfold nameFits; rw [if_pos h]; simpa using h2)], HP.le.refl H⟩
      · exact ⟨rfl, fun _ => by simpa using h2⟩
    · exact ⟨rfl, fun h3 => by subst h3; cases h⟩
  · obtain ⟨hH, h3⟩ := hJ
    rw [hH]
    refine ⟨fun _ H' => H' = H ∧ nameFits k s = true, ?_, fun x H' hJ => ?_⟩
    · have rest : (hn : named k = false) → WIf (k != 3) (WIf (!((ByteArray.toList s) == (ByteArray.toList (ByteArray.mk #[])))) ((fun e H' => e = Ending.returned (.bool (fitsB k n a b s)) ∧ H.le H') (.returned (.bool false)))
            (fun H' => H' = H ∧ nameFits k s = true)) (fun H' => H' = H ∧ nameFits k s = true) H := by
        intro hn
        refine WIf.intro (fun h => ?_) (fun h => ?_)
        · have h : k ≠ 3 := by simpa using h
          refine WIf.intro (fun h2 => ?_) (fun h2 => ?_)
          · exact ⟨by rw [bad (by unfold nameFits; rw [if_neg h, hn]; simpa [emp] using h2)], HP.le.refl H⟩
          · exact ⟨rfl, by unfold nameFits; rw [if_neg h, hn]; simpa [emp] using h2⟩
        · have h : k = 3 := by simpa using h
          exact ⟨rfl, by unfold nameFits; rw [if_pos h]; exact h3 h⟩
      refine WIf.intro (fun h => ?_) (fun h => ?_)
      · have hn : named k = true := h
        have h30 : k ≠ 3 := by intro h; subst h; cases hn
        refine WCall.pure (refName_spec s hs) (WOpen.b ?_)
        refine WIf.intro (fun h2 => ?_) (fun h2 => ?_)
        · exact ⟨by rw [bad (by unfold nameFits; rw [if_neg h30, hn]; simpa using h2)], HP.le.refl H⟩
        · refine WIf.intro (fun h4 => ?_) (fun h4 => ?_)
          · rw [h] at h4; cases h4
          · exact ⟨rfl, by unfold nameFits; rw [if_neg h30, hn]; simpa using h2⟩
      · have hn : named k = false := h
        refine WIf.intro (fun h4 => rest hn) (fun h4 => ?_)
        rw [h] at h4; cases h4
    · obtain ⟨hH2, hfit⟩ := hJ
      rw [hH2]
      refine WIf.intro (fun h => ?_) (fun h => ?_)
      · have h : badN k n = true := h
        exact ⟨by unfold fitsB; rw [hfit, h]; rfl, HP.le.refl H⟩
      have h : badN k n = false := h
      have key : fitsB k n a b s = endsFit k a b := by unfold fitsB; rw [hfit, h]; rfl
      rw [key]
      refine WIf.intro (fun h1 => ⟨by unfold endsFit; rw [if_pos h1], HP.le.refl H⟩) (fun h1 => ?_)
      refine WIf.intro (fun h2 => ⟨by unfold endsFit; rw [if_neg (by simp only [h1]; simp), if_pos (eq_of_beq h2)], HP.le.refl H⟩) (fun h2 => ?_)
      exact ⟨by unfold endsFit; rw [if_neg (by simp only [h1]; simp), if_neg (by simpa using h2)], HP.le.refl H⟩

/-- the page's word and the program's are one -/
theorem fits_own (k n a b : Int) (s : ByteArray) : fitsB k n a b s = ownB k n a b s := by
  unfold fitsB ownB nameFits named badN endsFit spanB
  generalize emp s = A
  generalize nameB s = B
  generalize plainB s = C
  by_cases h1 : k = 1
  · subst h1
    rw [Bool.eq_iff_iff]
    cases A <;> cases B <;> cases C <;> simp <;> first | done | omega | (constructor <;> intro h <;> omega)
  by_cases h2 : k = 2
  · subst h2
    rw [Bool.eq_iff_iff]
    cases A <;> cases B <;> cases C <;> simp <;> first | done | omega | (constructor <;> intro h <;> omega)
  by_cases h3 : k = 3
  · subst h3
    rw [Bool.eq_iff_iff]
    cases A <;> cases B <;> cases C <;> simp <;> first | done | omega | (constructor <;> intro h <;> omega)
  by_cases h13 : k = 13
  · subst h13
    rw [Bool.eq_iff_iff]
    cases A <;> cases B <;> cases C <;> simp <;> first | done | omega | (constructor <;> intro h <;> omega)
  by_cases h5 : k = 5
  · subst h5
    rw [Bool.eq_iff_iff]
    cases A <;> cases B <;> cases C <;> simp <;> first | done | omega | (constructor <;> intro h <;> omega)
  by_cases h6 : k = 6
  · subst h6
    rw [Bool.eq_iff_iff]
    cases A <;> cases B <;> cases C <;> simp <;> first | done | omega | (constructor <;> intro h <;> omega)
  by_cases h21 : k = 21
  · subst h21
    rw [Bool.eq_iff_iff]
    cases A <;> cases B <;> cases C <;> simp <;> first | done | omega | (constructor <;> intro h <;> omega)
  by_cases h22 : k = 22
  · subst h22
    rw [Bool.eq_iff_iff]
    cases A <;> cases B <;> cases C <;> simp <;> first | done | omega | (constructor <;> intro h <;> omega)
  by_cases h23 : k = 23
  · subst h23
    rw [Bool.eq_iff_iff]
    cases A <;> cases B <;> cases C <;> simp <;> first | done | omega | (constructor <;> intro h <;> omega)
  by_cases h24 : k = 24
  · subst h24
    rw [Bool.eq_iff_iff]
    cases A <;> cases B <;> cases C <;> simp <;> first | done | omega | (constructor <;> intro h <;> omega)
  rw [Bool.eq_iff_iff]
  cases A <;> cases B <;> cases C <;> simp [h1, h2, h3, h13, h5, h6, h21, h22, h23, h24] <;> first | done | omega
end Go.Proofs.YtmidcnfnmnhifaaGreat
