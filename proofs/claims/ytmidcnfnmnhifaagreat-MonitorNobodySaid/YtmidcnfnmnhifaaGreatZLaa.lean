/-
  MonitorNobody: of a monitor that nobody made nothing is told: whatever the moment. No conditions.
-/
import Derived.Test.YtmidcnfnmnhifaaGreatZRea
import Derived.Test.YtmidcnfnmnhifaaGreatZMni
import Derived.Test.YtmidcnfnmnhifaaGreatZFac
namespace Go.Proofs.YtmidcnfnmnhifaaGreat
set_option linter.unusedSectionVars false
set_option linter.unusedSimpArgs false
set_option linter.unusedVariables false
open Go Go.Den Go.ChangeShapes Go.WideShapes Go.ChangeAt Go.RowKit
set_option linter.unusedVariables false
set_option maxRecDepth 100000

theorem nobody_contract (H : Type) (enc : TypeId × Value → H) (W : World) (base : Nat) (args : Array Value) (ds gs : List (DataW H)) (before : List MemPlace)
    (hval : ∀ (j : Nat) t v, Tryz.f6.params[j]? = some t → args[j]? = some v → Value.okWide Tryz.prog W .any base t v)
    (hW : DataW.Whole enc Tryz.prog Tryz.f6.params.toList Rows.monitorNobodySpec.vars false W args.toList ds gs before) :
    Calls Tryz.prog 6 args W fun e W' => ∃ v, e = .returned v ∧ Rows.monitorNobodySpec.post enc Tryz.prog Tryz.f6 false true false false W args v W' := by
  have hW' := hW
  obtain ⟨p, q, hA, hV, rfl, hfz, hnd⟩ := hW
  rw [Tryz.params6] at hA hval
  obtain ⟨v0, d0, rfl, rfl, h0⟩ := trodAll_one hA
  obtain ⟨rfl, rfl⟩ := trodVars_none hV
  obtain ⟨n, cs, rfl, hcs⟩ := arg_agg Tryz.underlying46 (hval 0 46 v0 rfl rfl) h0
  obtain ⟨st, ⟨vs, ⟨pl, c, rfl, _⟩, rfl⟩, _⟩ := rdStep hcs
  refine (law_calls Tryz.func6 rfl rfl (nobody6 (n := st.a))).mono ?_
  rintro e W' ⟨rfl, hb⟩
  exact ⟨_, rfl, law_post rfl rfl hW' rfl (tyOk (by kernel_rfl)) hb⟩

theorem nobody_lifted (os : Os) (started : os.Started) (H : Type) (enc : TypeId × Value → H) :
    ReturnsInHanded {} Tryz.checked os 6 .any (Rows.monitorNobodySpec.pre6 enc Tryz.prog Tryz.f6 Rows.monitorNobodyRow.domain false) (Rows.monitorNobodySpec.post enc Tryz.prog Tryz.f6 false true false false) := by
  refine returnsInHanded_of_change (C := Tryz.checked) ownNone started (by kernel_rfl) Tryz.func6
    (ChangeSpec.witness6 (enc := enc) (C := Tryz.checked) false ⟨#[], #[.agg #[.int .i64 0, .string ⟨#[]⟩, .string ⟨#[]⟩, .string ⟨#[]⟩, .string ⟨#[]⟩, .string ⟨#[]⟩, .int .i64 0, .int .i64 0, .string ⟨#[]⟩, .slice none 0 0]], []⟩ 8 (by kernel_rfl) (by kernel_rfl) (by kernel_rfl) (by kernel_rfl)) ?_
  intro W base args ds gs before hval hW _ _
  exact nobody_contract H enc W base args ds gs before hval hW

theorem nobodyIn : (Rows.monitorNobodyRow.inPlace == Tryz.prog.inPlace 6) = true := by kernel_rfl
theorem nobodyUn : (Rows.monitorNobodyRow.unfollowed == Tryz.prog.unfollowed 6) = true := by kernel_rfl
theorem nobodyRe : (Rows.monitorNobodyRow.recurses == Tryz.prog.recurses 6) = true := by kernel_rfl
theorem nobodyNa : (Rows.monitorNobodyRow.named == Tryz.prog.varsNamed 6) = true := by kernel_rfl
theorem nobody_facts : joinedFacts Tryz.prog 6 Tryz.f6 Rows.monitorNobodySpec Rows.monitorNobodyRow = true := by
  unfold joinedFacts
  exact (and_i (and_i (and_i (and_i (and_i (and_i (and_i (and_i (and_i (and_i (and_i (and_i (and_i (and_i (and_i (and_i (and_i (and_i (and_i (and_i (and_i (and_i (and_i (and_i (and_i (and_i (and_i (and_i (and_i (and_i (and_i (by kernel_rfl) (laidOut)) (facMaps)) (by kernel_rfl)) (by kernel_rfl)) (by kernel_rfl)) (by kernel_rfl)) (by kernel_rfl)) (by kernel_rfl)) (nobodyIn)) (nobodyUn)) (nobodyRe)) (nobodyNa)) (by kernel_rfl)) (by kernel_rfl)) (by kernel_rfl)) (by kernel_rfl)) (by kernel_rfl)) (by kernel_rfl)) (by kernel_rfl)) (by kernel_rfl)) (by kernel_rfl)) (facPlain)) (by kernel_rfl)) (facHeard)) (facMay)) (facLift)) (facMake)) (by kernel_rfl)) (by kernel_rfl)) (by kernel_rfl)) (by kernel_rfl))

theorem nobody_holds : Rows.MonitorNobodySaid :=
  OpenClaim.holds_of_wide 6 Tryz.f6 rfl rfl rfl rfl rfl rfl rfl ⟨rfl, rfl, rfl, rfl, rfl⟩ rfl rfl rfl rfl rfl (by kernel_rfl) Tryz.func6 nobody_facts
    (of_decide_eq_true (by kernel_rfl)) (by unfold Func.isWrapper; first | (rw [if_pos (by decide +kernel)]; kernel_rfl) | (rw [if_neg (by decide +kernel)]; exact ⟨rfl, rfl⟩))
    (fun os started H enc _ => nobody_lifted os started H enc)
end Go.Proofs.YtmidcnfnmnhifaaGreat
