/-
  Package ast: may, Check.
-/
import Derived.Test.YtmidcnfnmnhifaaGreatZAst
import Derived.Test.YtmidcnfnmnhifaaGreatZLex
import Derived.Test.YtmidcnfnmnhifaaGreatZWza
import Derived.Test.YtmidcnfnmnhifaaGreatZWzb
import Derived.Test.YtmidcnfnmnhifaaGreatZWzc
namespace Go.Proofs.YtmidcnfnmnhifaaGreat
set_option linter.unusedSectionVars false
set_option linter.unusedSimpArgs false
set_option linter.unusedVariables false
open Go Go.Den
set_option linter.unusedVariables false

def emp (s : ByteArray) : Bool := s.toList == (ByteArray.mk #[]).toList
def spanB (a b : Int) : Bool := decide (a ≥ 0) && (decide (b ≥ a) || b == -1)

def ownB (k n a b : Int) (s : ByteArray) : Bool :=
  if k = 1 then ((emp s && decide (n ≥ 0)) && (a == 0)) && (b == 0)
  else if k = 2 then ((emp s && ((n == 0) || (n == 1))) && (a == 0)) && (b == 0)
  else if k = 3 then ((plainB s && (n == 0)) && (a == 0)) && (b == 0)
  else if k = 13 then ((nameB s && (n == 0)) && (a == 0)) && decide (b ≥ 0)
  else if k = 5 then ((nameB s && (n == 0)) && (a == 0)) && (b == 0)
  else if k = 6 then ((nameB s && (n == 0)) && (a == 0)) && (b == 0)
  else if k = 21 then ((nameB s && (n == 0)) && (a == 0)) && (b == 0)
  else if k = 22 then (emp s && (n == 0)) && spanB a b
  else if k = 23 then (emp s && (n == 0)) && spanB a b
  else if k = 24 then (emp s && (n == 0)) && spanB a b
  else ((emp s && (n == 0)) && (a == 0)) && (b == 0)

theorem own_spec {H : HP} (k n a b : Int) (s : ByteArray) (p : Option Addr) (l c : Nat) (hs : s.size < 1000000000000) :
    Pure Tryz.prog 213 #[.agg ⟨exCells k s n a b p l c⟩] H (.bool (ownB k n a b s)) := by
  refine Pure.of (spec213 (a0_0 := k) (a0_1 := s) (a0_2 := n) (a0_3 := a) (a0_4 := b) (a0_5a := p) (a0_5n := l) (a0_5c := c) ?_)
  unfold W213
  have no : ∀ {m : Int}, (k == m) = false → k ≠ m := fun h => by simpa using h
  refine WIf.intro (fun h => ?_) (fun h1 => ?_)
  · rw [eq_of_beq h]; exact ⟨rfl, HP.le.refl H⟩
  refine WIf.intro (fun h => ?_) (fun h2 => ?_)
  · rw [eq_of_beq h]; exact ⟨rfl, HP.le.refl H⟩
  refine WIf.intro (fun h => ?_) (fun h3 => ?_)
  · rw [eq_of_beq h]; exact WCall.pure (plain_spec s) (WOpen.b ⟨rfl, HP.le.refl H⟩)
  refine WIf.intro (fun h => ?_) (fun h4 => ?_)
  · rw [eq_of_beq h]; exact WCall.pure (name_spec s hs) (WOpen.b ⟨rfl, HP.le.refl H⟩)
  refine WIf.intro (fun h => ?_) (fun h5 => ?_)
  · rw [eq_of_beq h]; exact WCall.pure (name_spec s hs) (WOpen.b ⟨rfl, HP.le.refl H⟩)
  refine WIf.intro (fun h => ?_) (fun h6 => ?_)
  · rw [eq_of_beq h]; exact WCall.pure (name_spec s hs) (WOpen.b ⟨rfl, HP.le.refl H⟩)
  refine WIf.intro (fun h => ?_) (fun h7 => ?_)
  · rw [eq_of_beq h]; exact WCall.pure (name_spec s hs) (WOpen.b ⟨rfl, HP.le.refl H⟩)
  refine WIf.intro (fun h => ?_) (fun h8 => ?_)
  · rw [eq_of_beq h]; exact WCall.pure (span_spec _ _ _ _ _ _ _ _) (WOpen.b ⟨rfl, HP.le.refl H⟩)
  refine WIf.intro (fun h => ?_) (fun h9 => ?_)
  · rw [eq_of_beq h]; exact WCall.pure (span_spec _ _ _ _ _ _ _ _) (WOpen.b ⟨rfl, HP.le.refl H⟩)
  refine WIf.intro (fun h => ?_) (fun h10 => ?_)
  · rw [eq_of_beq h]; exact WCall.pure (span_spec _ _ _ _ _ _ _ _) (WOpen.b ⟨rfl, HP.le.refl H⟩)
  refine ⟨?_, HP.le.refl H⟩
  unfold ownB
  rw [if_neg (no h1), if_neg (no h2), if_neg (no h3), if_neg (no h4), if_neg (no h5), if_neg (no h6), if_neg (no h7), if_neg (no h8), if_neg (no h9), if_neg (no h10)]
  rfl
end Go.Proofs.YtmidcnfnmnhifaaGreat
