/-
  beadleref07: contracts.
-/
import Derived.Test.YtmidcnfnmnhifaaGreatZAsx
import Derived.Test.YtmidcnfnmnhifaaGreatZApp
import Derived.Test.YtmidcnfnmnhifaaGreatZWza
import Derived.Test.YtmidcnfnmnhifaaGreatZWzb
import Derived.Test.YtmidcnfnmnhifaaGreatZWzc
namespace Go.Proofs.YtmidcnfnmnhifaaGreat
set_option linter.unusedSectionVars false
set_option linter.unusedSimpArgs false
set_option linter.unusedVariables false
open Go Go.Den
set_option linter.unusedVariables false

def kidsR (k : Int) : Int :=
  if (decide (k < 1) || decide (k > 25)) = true then -2
  else if k = 4 then -1
  else if ((decide (k ≤ 7) || (k == 13)) || (k == 21)) = true then 0
  else if ((((((k == 11) || (k == 12)) || (k == 18)) || (k == 25)) || (k == 22)) || (k == 23)) = true then 1 else 2

theorem refKids_spec {H : HP} (k : Int) : Pure Tryz.prog 40 #[.int .i64 k] H (.int .i64 (kidsR k)) := by
  refine Pure.of (spec40 ?_)
  unfold W40 kidsR
  refine WIf.intro (fun h => ⟨by rw [if_pos h], HP.le.refl H⟩) (fun h1 => ?_)
  refine WIf.intro (fun h => ⟨by rw [if_neg (by simp [h1]), if_pos (eq_of_beq h)], HP.le.refl H⟩) (fun h2 => ?_)
  refine WIf.intro (fun h => ⟨by rw [if_neg (by simp [h1]), if_neg (by simpa using h2), if_pos h], HP.le.refl H⟩) (fun h3 => ?_)
  refine WIf.intro (fun h => ⟨by rw [if_neg (by simp [h1]), if_neg (by simpa using h2), if_neg (by simp [h3]), if_pos h], HP.le.refl H⟩) (fun h4 => ?_)
  exact ⟨by rw [if_neg (by simp [h1]), if_neg (by simpa using h2), if_neg (by simp [h3]), if_neg (by simp [h4])], HP.le.refl H⟩

theorem kidsR_eq (k : Int) : kidsR k = kidsN k := by
  unfold kidsR kidsN
  simp only [Bool.or_eq_true, decide_eq_true_eq, beq_iff_eq]
  repeat' split
  all_goals omega

theorem looks_spec {H : HP} (k : Int) : Pure Tryz.prog 39 #[.int .i64 k] H (.bool (((((k == 22) || (k == 23)) || (k == 24)) || (k == 25)) || (k == 13))) :=
  Pure.of (spec39 ⟨rfl, HP.le.refl H⟩)

theorem refDepth_spec {H : HP} : ∀ (N : Nat) (e : Ex), e.size ≤ N → N < 1000000000000 → ∀ cs, e.At H cs → Pure Tryz.prog 82 #[.agg ⟨cs⟩] H (.int .i64 e.depth) := by
  intro N
  induction N with
  | zero => intro e he; have := e.size_pos; omega
  | succ N ih =>
    intro e he hN cs hat
    obtain ⟨k, s, n, a, b, js⟩ := e
    simp only [Ex.At] at hat
    obtain ⟨p, c, rfl, hjs⟩ := hat
    refine Pure.of (spec82 (a0_0 := k) (a0_1 := s) (a0_2 := n) (a0_3 := a) (a0_4 := b) (a0_5a := p) (a0_5n := js.length) (a0_5c := c) ?_)
    unfold W82
    simp only [Ex.size] at he
    have hlen := sizes_length js
    have hdl := depths_le js
    refine WIf.intro (fun h => ?_) (fun h => ?_)
    · exact ⟨by simp only [Ex.depth, if_pos (eq_of_beq h)]; rfl, HP.le.refl H⟩
    have hk : k ≠ 4 := by simpa using h
    refine WLoop.intro (fun x H' => H' = H ∧ ∃ i : Nat, i ≤ js.length ∧ x = ((((depths (js.take i) : Nat) : Int), ((i : Int), ())), ())) (fun x => js.length - x.1.2.1.toNat) ⟨rfl, 0, by omega, by simp [depths]⟩ ?_
    rintro x H' ⟨hH, i, hi, rfl⟩
    rw [hH]
    refine WIf.intro (fun h => ?_) (fun h => ?_)
    · have hjl : i < js.length := by have : (i : Int) < js.length := of_decide_eq_true h; omega
      obtain ⟨y, cs, hy, hcs, hat⟩ := hjs.get i js[i] (by simp [hjl])
      refine ⟨y, hy, by simp, by simpa using hjl, ?_⟩
      have hdi : js[i].size ≤ N := by have := sizes_ge js js[i] (List.getElem_mem hjl); omega
      have hcall := ih js[i] hdi (by omega) cs hat
      have htake : depths (js.take (i + 1)) = max (depths (js.take i)) js[i].depth := by
        rw [List.take_succ_eq_append_getElem hjl, depths_append]
        simp [depths]
      generalize js[i] = e' at hat hcall htake hdi
      obtain ⟨k', s', n', a', b', ks'⟩ := e'
      simp only [Ex.At] at hat
      obtain ⟨p', c', rfl, hks'⟩ := hat
      refine WLoad.ex (by rw [Nat.zero_add] at hcs; exact hcs) ?_
      refine WCall.pure hcall (WOpen.i ?_)
      have hw : IntKind.wrap .i64 ((i : Int) + 1) = (i : Int) + 1 := IntWalk.i64_in _ ⟨by omega, by omega⟩
      refine WIf.intro (fun h => ?_) (fun h => ?_)
      · have h : ((Ex.mk k' s' n' a' b' ks').depth : Int) > (depths (js.take i) : Nat) := of_decide_eq_true h
        refine ⟨⟨rfl, i + 1, by omega, ?_⟩, ?_⟩
        · simp only [hw, htake]
          congr 2
          omega
        · simp only [hw]
          omega
      · have h : ¬ ((Ex.mk k' s' n' a' b' ks').depth : Int) > (depths (js.take i) : Nat) := of_decide_eq_false h
        refine ⟨⟨rfl, i + 1, by omega, ?_⟩, ?_⟩
        · simp only [hw, htake]
          congr 2
          omega
        · simp only [hw]
          omega
    · have hil : i = js.length := by have : ¬ (i : Int) < js.length := of_decide_eq_false h; omega
      subst hil
      refine ⟨?_, HP.le.refl H⟩
      simp only [List.take_length, Ex.depth, if_neg hk]
      congr 2
      exact (IntWalk.i64_in _ ⟨by omega, by omega⟩).trans (by simp)
end Go.Proofs.YtmidcnfnmnhifaaGreat
