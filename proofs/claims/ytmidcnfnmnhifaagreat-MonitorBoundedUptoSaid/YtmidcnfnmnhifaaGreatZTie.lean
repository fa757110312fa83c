/-
  The rows of the types are the program's; the program follows every order.
-/
import Derived.Test.YtmidcnfnmnhifaaGreatZSnb
import Derived.Test.YtmidcnfnmnhifaaGreatZTab
import Derived.Test.YtmidcnfnmnhifaaGreatProg
namespace Go.Den
set_option linter.unusedSectionVars false
set_option linter.unusedSimpArgs false
set_option linter.unusedVariables false
noncomputable def rowGot (P : Program) (r : Row) : Option (Nat × List Value × TD) :=
  match r.td with
  | .other => none
  | _ => rowOf P r.t

noncomputable def rowSaid (r : Row) : Option (Nat × List Value × TD) :=
  match r.td with
  | .other => none
  | td => some (r.size, r.zero, td)

theorem tabOk_of {P : Program} {l : List Row} (h : l.map (rowGot P) = l.map rowSaid) : TabOk P l := by
  intro r hr
  have h : rowGot P r = rowSaid r := List.map_inj_left.1 h r hr
  unfold rowGot rowSaid at h
  unfold rowOk
  cases e : r.td <;> rw [e] at h <;> first | trivial | exact h
end Go.Den

namespace Go.Proofs.YtmidcnfnmnhifaaGreat
set_option linter.unusedSectionVars false
set_option linter.unusedSimpArgs false
set_option linter.unusedVariables false
open Go Go.Den

theorem mixed : Tryz.prog.follows .mixedOrders = true := by kernel_rfl

theorem tabEq : tab.map (rowGot Tryz.prog) = tab.map rowSaid := by kernel_rfl

theorem tabOk : TabOk Tryz.prog tab := tabOk_of tabEq

/-- A function's contract, from its printed precondition. -/
theorem specOf {f : FuncId} {fn : Func} {hs : Hints} (hf : Tryz.prog.funcs[f]? = some fn) (hb : fn.body.isSome = true) (hn : (fn.name == "runtime.NumGoroutine") = false)
    {args : List SV} {vs : List Value} (ha : allV args = some vs) {H : HP} {Q : Ending → W} (h : funW Tryz.prog tab Q hs fn args H) : Go.Den.Spec Tryz.prog f ⟨vs⟩ H Q :=
  let ⟨_, hc⟩ := Option.isSome_iff_exists.1 hb
  funW_sound mixed tabOk hf hc hn ha h
end Go.Proofs.YtmidcnfnmnhifaaGreat
