/-
  MonitorBounded: however many moments there were, no more is remembered than the expression alone tells. Condition: what is read is of bulk at most 1048576.
-/
import Derived.Test.YtmidcnfnmnhifaaGreatZBno
import Derived.Test.YtmidcnfnmnhifaaGreatZFac
namespace Go.Proofs.YtmidcnfnmnhifaaGreat
set_option linter.unusedSectionVars false
set_option linter.unusedSimpArgs false
set_option linter.unusedVariables false
open Go Go.Den Go.ChangeShapes Go.WideShapes Go.ChangeAt Go.RowKit
set_option linter.unusedVariables false
set_option maxRecDepth 100000

/-- an argument of a slice's type -/
theorem arg_slice3 {HH : Type} {enc : TypeId × Value → HH} {W : World} {base : Nat} {t e : TypeId} {v : Value} {d : DataW HH} {p : List MemPlace} (ht : Tryz.prog.underlying t = some (.slice e)) (hv : Value.okWide Tryz.prog W .any base t v) (h : DataW.Trod enc Tryz.prog W 0 (fun _ => true) true t v d p) :
    ∃ n, DataW.trod enc Tryz.prog W 0 (fun _ => true) true n t [v] = some (d, p) := by
  obtain ⟨n, hn⟩ := h
  have hc : v.cells.toList = [v] := by
    cases v with
    | agg cs => exfalso; simp [Value.okWide, ht, Cell.okWide, Cell.ok] at hv
    | _ => rfl
  rw [hc] at hn
  exact ⟨n, hn⟩
theorem bulk_bound3 {H : Type} {l : List (DataW H)} (hk : Rows.uptoSmall H l = true) : Rows.uptoBulkAll l ≤ 1048576 := of_decide_eq_true hk

theorem bounded_contract (H : Type) (enc : TypeId × Value → H) (W : World) (base : Nat) (args : Array Value) (ds gs : List (DataW H)) (before : List MemPlace)
    (hval : ∀ (j : Nat) t v, Tryz.f3.params[j]? = some t → args[j]? = some v → Value.okWide Tryz.prog W .any base t v)
    (hW : DataW.Whole enc Tryz.prog Tryz.f3.params.toList Rows.monitorBoundedSpec.vars false W args.toList ds gs before) (hk : Rows.uptoSmall H (ds ++ gs) = true) :
    Calls Tryz.prog 3 args W fun e W' => ∃ v, e = .returned v ∧ Rows.monitorBoundedSpec.post enc Tryz.prog Tryz.f3 false true false false W args v W' := by
  have hW' := hW
  obtain ⟨p, q, hA, hV, rfl, hfz, hnd⟩ := hW
  rw [Tryz.params3] at hA hval
  have hA : DataW.TrodAll enc Tryz.prog W 0 (fun _ => true) true [24, 25, 26] args.toList ds p := hA
  obtain ⟨v0, vs0, d0, ds0, q0, r0, hargs, rfl, rfl, h0, hA⟩ := trodAll_cons hA
  obtain ⟨v1, vs1, d1, ds1, q1, r1, rfl, rfl, rfl, h1, hA⟩ := trodAll_cons hA
  obtain ⟨v2, vs2, d2, ds2, q2, r2, rfl, rfl, rfl, h2, hA⟩ := trodAll_cons hA
  obtain ⟨rfl, rfl, rfl⟩ := trodAll_nil hA
  obtain rfl : args = #[v0, v1, v2] := by cases args; simp_all
  obtain ⟨rfl, rfl⟩ := trodVars_none hV
  have hb := bulk_bound3 hk
  simp only [List.append_nil, Rows.uptoBulkAll] at hb
  obtain ⟨n0, cs, rfl, hcs⟩ := arg_agg Tryz.underlying24 (hval 0 24 v0 rfl rfl) h0
  obtain ⟨n1, t1⟩ := arg_slice3 Tryz.underlying25 (hval 1 25 v1 rfl rfl) h1
  obtain ⟨n2, t2⟩ := arg_slice3 Tryz.underlying26 (hval 2 26 v2 rfl rfl) h2
  obtain ⟨e, hat, hsz, hsh, hin⟩ := rdExIn (Rows.uptoBulk d0) n0 cs _ hcs (Nat.le_refl _) (by omega)
  obtain ⟨pd, cd, l, hpd, hdl, hd, hdn⟩ := rdDecls t1
  obtain ⟨p2, c2, l2, hp2, b2, _, s2, f2⟩ := rdSteps t2
  simp only [List.cons.injEq, and_true] at hpd hp2
  subst hpd; subst hp2
  have hsz : e.size ≤ Rows.uptoBulk d0 := hsz
  have hdl : l.length < Rows.uptoBulk d1 := hdl
  obtain ⟨k, s, n, x, y, ks⟩ := e
  obtain ⟨pk, ck, rfl⟩ := Ex.At.cells hat
  refine (law_calls Tryz.func3 rfl rfl (bounded3 hat (by omega) hsh hin hd (by omega) hdn s2 f2 b2)).mono ?_
  rintro e W' ⟨rfl, hb⟩
  exact ⟨_, rfl, law_post rfl rfl hW' rfl (tyOk (by kernel_rfl)) hb⟩

theorem bounded_lifted (os : Os) (started : os.Started) (H : Type) (enc : TypeId × Value → H) (F : Stop.Interp) :
    ReturnsInHanded {} Tryz.checked os 3 .any ((Rows.OpenSpec.upto Rows.monitorBoundedSpec).pre6 enc Tryz.prog Tryz.f3 Rows.monitorBoundedUptoRow.domain false) (((Rows.OpenSpec.upto Rows.monitorBoundedSpec).at F).post enc Tryz.prog Tryz.f3 false true false false) := by
  refine returnsInHanded_of_cond (C := Tryz.checked) (s := Rows.OpenSpec.upto Rows.monitorBoundedSpec) (k := Rows.uptoSmall) rfl ownNone started (by kernel_rfl) Tryz.func3
    (OpenSpec.witness (enc := enc) (C := Tryz.checked) (s := Rows.OpenSpec.upto Rows.monitorBoundedSpec) (k := Rows.uptoSmall) rfl false ⟨#[], #[.agg #[.int .i64 0, .string ⟨#[]⟩, .int .i64 0, .int .i64 0, .int .i64 0, .slice none 0 0], .slice none 0 0, .slice none 0 0], []⟩ 8 (by kernel_rfl) (by kernel_rfl) (by kernel_rfl)
      (x := ([.agg [.lit (.int .i64 0), .lit (.string []), .lit (.int .i64 0), .lit (.int .i64 0), .lit (.int .i64 0), .nil], .nil, .nil], [], [])) (by kernel_rfl) rfl (by kernel_rfl)) ?_
  intro W base args ds gs before hval hW _ hk _
  exact bounded_contract H enc W base args ds gs before hval hW hk

theorem boundedIn : (Rows.monitorBoundedUptoRow.inPlace == Tryz.prog.inPlace 3) = true := by kernel_rfl
theorem boundedUn : (Rows.monitorBoundedUptoRow.unfollowed == Tryz.prog.unfollowed 3) = true := by kernel_rfl
theorem boundedRe : (Rows.monitorBoundedUptoRow.recurses == Tryz.prog.recurses 3) = true := by kernel_rfl
theorem boundedNa : (Rows.monitorBoundedUptoRow.named == Tryz.prog.varsNamed 3) = true := by kernel_rfl
theorem bounded_facts : joinedFacts Tryz.prog 3 Tryz.f3 (Rows.OpenSpec.upto Rows.monitorBoundedSpec).bare Rows.monitorBoundedUptoRow = true := by
  unfold joinedFacts
  exact (and_i (and_i (and_i (and_i (and_i (and_i (and_i (and_i (and_i (and_i (and_i (and_i (and_i (and_i (and_i (and_i (and_i (and_i (and_i (and_i (and_i (and_i (and_i (and_i (and_i (and_i (and_i (and_i (and_i (and_i (and_i (by kernel_rfl) (laidOut)) (facMaps)) (by kernel_rfl)) (by kernel_rfl)) (by kernel_rfl)) (by kernel_rfl)) (by kernel_rfl)) (by kernel_rfl)) (boundedIn)) (boundedUn)) (boundedRe)) (boundedNa)) (by kernel_rfl)) (by kernel_rfl)) (by kernel_rfl)) (by kernel_rfl)) (by kernel_rfl)) (by kernel_rfl)) (by kernel_rfl)) (by kernel_rfl)) (by kernel_rfl)) (facPlain)) (by kernel_rfl)) (facHeard)) (facMay)) (facLift)) (facMake)) (by kernel_rfl)) (by kernel_rfl)) (by kernel_rfl)) (by kernel_rfl))

theorem bounded_holds : Rows.MonitorBoundedUptoSaid :=
  OpenClaim.holds_of_cond 3 Tryz.f3 rfl rfl rfl rfl rfl rfl rfl ⟨rfl, rfl, rfl, rfl, rfl⟩ rfl rfl rfl rfl rfl (by kernel_rfl) Tryz.func3 bounded_facts
    (of_decide_eq_true (by kernel_rfl)) (by unfold Func.isWrapper; first | (rw [if_pos (by decide +kernel)]; kernel_rfl) | (rw [if_neg (by decide +kernel)]; exact ⟨rfl, rfl⟩))
    (fun os started H enc _ F => bounded_lifted os started H enc F)
end Go.Proofs.YtmidcnfnmnhifaaGreat
