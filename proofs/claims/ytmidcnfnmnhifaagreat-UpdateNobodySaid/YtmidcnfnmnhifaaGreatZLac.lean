/-
  UpdateNobody: to a store that nobody made nothing is applied: whatever the updates and the moment. No conditions.
-/
import Derived.Test.YtmidcnfnmnhifaaGreatZRea
import Derived.Test.YtmidcnfnmnhifaaGreatZUpd
import Derived.Test.YtmidcnfnmnhifaaGreatZFac
namespace Go.Proofs.YtmidcnfnmnhifaaGreat
set_option linter.unusedSectionVars false
set_option linter.unusedSimpArgs false
set_option linter.unusedVariables false
open Go Go.Den Go.ChangeShapes Go.WideShapes Go.ChangeAt Go.RowKit
set_option linter.unusedVariables false
set_option maxRecDepth 100000

/-- an argument of a slice's type is a slice -/
theorem arg_is_slice {HH : Type} {enc : TypeId × Value → HH} {W : World} {base : Nat} {t e : TypeId} {v : Value} {d : DataW HH} {p : List MemPlace} (ht : Tryz.prog.underlying t = some (.slice e)) (hv : Value.okWide Tryz.prog W .any base t v) (h : DataW.Trod enc Tryz.prog W 0 (fun _ => true) true t v d p) :
    ∃ q n c, v = .slice q n c := by
  obtain ⟨n, hn⟩ := h
  have hc : v.cells.toList = [v] := by
    cases v with
    | agg cs => exfalso; simp [Value.okWide, ht, Cell.okWide, Cell.ok] at hv
    | _ => rfl
  rw [hc] at hn
  rcases Go.Deep.open_slice ht hn with ⟨h, _⟩ | ⟨a, len, cap, _, _, _, _, h, _⟩
  · simp only [List.cons.injEq, and_true] at h
    exact ⟨_, _, _, h⟩
  · simp only [List.cons.injEq, and_true] at h
    exact ⟨_, _, _, h⟩

theorem updNobody_contract (H : Type) (enc : TypeId × Value → H) (W : World) (base : Nat) (args : Array Value) (ds gs : List (DataW H)) (before : List MemPlace)
    (hval : ∀ (j : Nat) t v, Tryz.f15.params[j]? = some t → args[j]? = some v → Value.okWide Tryz.prog W .any base t v)
    (hW : DataW.Whole enc Tryz.prog Tryz.f15.params.toList Rows.updateNobodySpec.vars false W args.toList ds gs before) :
    Calls Tryz.prog 15 args W fun e W' => ∃ v, e = .returned v ∧ Rows.updateNobodySpec.post enc Tryz.prog Tryz.f15 false true false false W args v W' := by
  have hW' := hW
  obtain ⟨p, q, hA, hV, rfl, hfz, hnd⟩ := hW
  rw [Tryz.params15] at hA hval
  obtain ⟨v0, v1, d0, d1, p0, p1, rfl, rfl, rfl, h0, h1⟩ := trodAll_two hA
  obtain ⟨rfl, rfl⟩ := trodVars_none hV
  obtain ⟨q0, l0, c0, rfl⟩ := arg_is_slice Tryz.underlying92 (hval 0 92 v0 rfl rfl) h0
  obtain ⟨n, cs, rfl, hcs⟩ := arg_agg Tryz.underlying46 (hval 1 46 v1 rfl rfl) h1
  obtain ⟨st, ⟨vs, ⟨pl, c, rfl, _⟩, rfl⟩, _⟩ := rdStep hcs
  refine (law_calls Tryz.func15 rfl rfl (updateNobody15 (n := st.a))).mono ?_
  rintro e W' ⟨rfl, hb⟩
  exact ⟨_, rfl, law_post rfl rfl hW' rfl (tyOk (by kernel_rfl)) hb⟩

theorem updNobody_lifted (os : Os) (started : os.Started) (H : Type) (enc : TypeId × Value → H) :
    ReturnsInHanded {} Tryz.checked os 15 .any (Rows.updateNobodySpec.pre6 enc Tryz.prog Tryz.f15 Rows.updateNobodyRow.domain false) (Rows.updateNobodySpec.post enc Tryz.prog Tryz.f15 false true false false) := by
  refine returnsInHanded_of_change (C := Tryz.checked) ownNone started (by kernel_rfl) Tryz.func15
    (ChangeSpec.witness6 (enc := enc) (C := Tryz.checked) false ⟨#[], #[.slice none 0 0, .agg #[.int .i64 0, .string ⟨#[]⟩, .string ⟨#[]⟩, .string ⟨#[]⟩, .string ⟨#[]⟩, .string ⟨#[]⟩, .int .i64 0, .int .i64 0, .string ⟨#[]⟩, .slice none 0 0]], []⟩ 8 (by kernel_rfl) (by kernel_rfl) (by kernel_rfl) (by kernel_rfl)) ?_
  intro W base args ds gs before hval hW _ _
  exact updNobody_contract H enc W base args ds gs before hval hW

theorem updNobodyIn : (Rows.updateNobodyRow.inPlace == Tryz.prog.inPlace 15) = true := by kernel_rfl
theorem updNobodyUn : (Rows.updateNobodyRow.unfollowed == Tryz.prog.unfollowed 15) = true := by kernel_rfl
theorem updNobodyRe : (Rows.updateNobodyRow.recurses == Tryz.prog.recurses 15) = true := by kernel_rfl
theorem updNobodyNa : (Rows.updateNobodyRow.named == Tryz.prog.varsNamed 15) = true := by kernel_rfl
theorem updNobody_facts : joinedFacts Tryz.prog 15 Tryz.f15 Rows.updateNobodySpec Rows.updateNobodyRow = true := by
  unfold joinedFacts
  exact (and_i (and_i (and_i (and_i (and_i (and_i (and_i (and_i (and_i (and_i (and_i (and_i (and_i (and_i (and_i (and_i (and_i (and_i (and_i (and_i (and_i (and_i (and_i (and_i (and_i (and_i (and_i (and_i (and_i (and_i (and_i (by kernel_rfl) (laidOut)) (facMaps)) (by kernel_rfl)) (by kernel_rfl)) (by kernel_rfl)) (by kernel_rfl)) (by kernel_rfl)) (by kernel_rfl)) (updNobodyIn)) (updNobodyUn)) (updNobodyRe)) (updNobodyNa)) (by kernel_rfl)) (by kernel_rfl)) (by kernel_rfl)) (by kernel_rfl)) (by kernel_rfl)) (by kernel_rfl)) (by kernel_rfl)) (by kernel_rfl)) (by kernel_rfl)) (facPlain)) (by kernel_rfl)) (facHeard)) (facMay)) (facLift)) (facMake)) (by kernel_rfl)) (by kernel_rfl)) (by kernel_rfl)) (by kernel_rfl))

theorem updNobody_holds : Rows.UpdateNobodySaid :=
  OpenClaim.holds_of_wide 15 Tryz.f15 rfl rfl rfl rfl rfl rfl rfl ⟨rfl, rfl, rfl, rfl, rfl⟩ rfl rfl rfl rfl rfl (by kernel_rfl) Tryz.func15 updNobody_facts
    (of_decide_eq_true (by kernel_rfl)) (by unfold Func.isWrapper; first | (rw [if_pos (by decide +kernel)]; kernel_rfl) | (rw [if_neg (by decide +kernel)]; exact ⟨rfl, rfl⟩))
    (fun os started H enc _ => updNobody_lifted os started H enc)
end Go.Proofs.YtmidcnfnmnhifaaGreat
