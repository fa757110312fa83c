/-
  The closures that recover a stop.
-/
import Derived.Test.YtmidcnfnmnhifaaGreatZSnr
namespace Go.Den
set_option linter.unusedSectionVars false
set_option linter.unusedSimpArgs false
set_option linter.unusedVariables false
open Go
set_option linter.unusedVariables false
set_option linter.unusedSimpArgs false
section
variable {P : Program} {tb : List Row} {H : HP} {Q : Ending → W} {hs : Hints}

/-- a piece that does not recover -/
theorem wpOpsS_of {ops : Array Oper} {Qr : Exit → Act → World → Prop} {Q' : Exit → Act → List Frame → World → Prop} (hQ : ¬ LetsOut Qr) {cs : List Frame} (hp : ∀ e a' w', Qr e a' w' → Q' e a' cs w') : ∀ (l : List Nat) (a : Act) (w : World), wpOps P ops Qr l a w → wpOpsS P ops Q' l a cs w
  | [], a, w, h => hp _ _ _ h
  | i :: rest, a, w, h => by
    have ih := wpOpsS_of (ops := ops) hQ hp rest
    unfold wpOps at h
    unfold wpOpsS
    cases ho : ops[i]? with
    | none =>
      rw [ho] at h
      exact ih a w h
    | some o =>
      rw [ho] at h
      simp only at h ⊢
      by_cases hw : Region.wanted o (yielded ops a.tmps) = true
      · rw [if_pos hw] at h ⊢
        rcases h with h | ⟨_, h⟩
        · unfold Oper.wp at h
          generalize (execOp a.eval o).run P w = r at h ⊢
          cases r with
          | ok n w' =>
            cases n with
            | value v => exact ih _ _ h
            | skip => exact ih _ _ h
            | defer d => exact ih _ _ h
            | enter f args =>
              refine Calls.mono h fun e w'' he => ?_
              cases e with
              | returned v => exact ih _ _ he
              | panicked c => exact hp _ _ _ he
              | outgrown => exact absurd he hQ
            | row r args => exact Rows.mono h fun v w'' he => ih _ _ he
            | _ => exact h.elim
          | halt h' w' =>
            cases h' with
            | panic v => exact hp _ _ _ h
            | _ => exact h.elim
        · exact absurd h hQ
      · rw [if_neg hw] at h ⊢
        exact ih _ _ h

/-- what 'recover' hands back, and the frame below behind it -/
def Recd (u : FrameMode) (x : Value) (u1 : FrameMode) : Prop := ∀ (c₀ : Frame) (cs : List Frame), c₀.mode = u →
  (recoverD (c₀ :: cs) = none ∧ x = .nilIface ∧ u1 = u) ∨ recoverD (c₀ :: cs) = some (x, { c₀ with mode := u1 } :: cs)

theorem recd_ret : Recd .returning .nilIface .returning := fun c₀ cs hu => .inl ⟨by simp [recoverD, hu], rfl, rfl⟩
theorem recd_pan (v : Value) : Recd (.panicking [⟨v, false, false⟩]) v (.panicking [⟨v, true, false⟩]) := fun c₀ cs hu => .inr (by simp [recoverD, hu])

theorem cloW_sound (hm : P.follows .mixedOrders = true) (hb : TabOk P tb) {g : FuncId} {fn : Func} {C : Code} {ops : Array Oper} {o : Oper} {id d : Nat} (hf : P.funcs[g]? = some fn) (hbody : fn.body = some ((Code.region id ops false).seq C))
    (ho : ops[0]? = some o) (ho1 : o.op = .call { callee := .builtin .recover, args := #[], argTypes := #[] }) (hd : o.dst = some d) (hg : o.guard = none) (hr : fn.results = #[])
    {u u1 : FrameMode} {x : Value} {r : SV} (hx : ∀ β : Nat → Nat, RelV β r x) (hrec : Recd u x u1) {args : List SV} {vs : List Value} (ha : allV args = some vs) {w : World} (on : H.on w)
    (h : cloW P tb Q hs fn r d args H) : CallsD P g ⟨vs⟩ u w fun e u' w' => (∃ v, e = .returned v) ∧ u' = u1 ∧ ∃ H', Up H H' w w' ∧ Q (.returned (.tuple #[])) H' := by
  refine callsD_of_wpS hf hbody fun c₀ cs hu => ?_
  unfold cloW at h
  rw [hbody] at h
  simp only at h
  apply wpS_seq
  apply wpS_region
  have hsz : 0 < ops.size := (Array.getElem?_eq_some_iff.1 ho).1
  have hrange : List.range ops.size = 0 :: List.range' 1 (ops.toList.drop 1).length := by
    obtain ⟨n, hn⟩ : ∃ n, ops.size = n + 1 := ⟨ops.size - 1, by omega⟩
    rw [List.range_eq_range', List.length_drop, Array.length_toList, hn, List.range'_succ]
    rfl
  rw [hrange]
  unfold wpOpsS
  rw [ho]
  simp only
  have hw : ∀ y, Region.wanted o y = true := fun y => by unfold Region.wanted; rw [hg]
  rw [if_pos (hw _)]
  have hrun : ∀ a : Act, (execOp a.eval o).run P w = .ok .recover w := by
    intro a
    unfold execOp
    rw [ho1]
    simp [resolve, invoke, builtin, Result.andThen]
  rw [hrun]
  simp only
  let a0 : Act := { tmps := (⟨vs⟩ : Array Value) ++ Array.replicate (fn.ntmps - (⟨vs⟩ : Array Value).size) undef, defers := [] }
  have key : ∀ cs1, cs1 = { c₀ with mode := u1 } :: cs → wpOpsS P ops (Exit.thenS (Code.wpS P C (bodyPostS P fn c₀ cs fun e u' w' => (∃ v, e = .returned v) ∧ u' = u1 ∧ ∃ H', Up H H' w w' ∧ Q (.returned (.tuple #[])) H'))
      (bodyPostS P fn c₀ cs fun e u' w' => (∃ v, e = .returned v) ∧ u' = u1 ∧ ∃ H', Up H H' w w' ∧ Q (.returned (.tuple #[])) H')) (List.range' 1 (ops.toList.drop 1).length) (a0.put o.dst x) cs1 w := by
    intro cs1 hcs
    letI : DF := ⟨[]⟩
    have hlen := (start_rel (β := fun x => x) args vs fn.ntmps ha 0).2
    have s1 : a0.tmps.size = (startD args fn.ntmps).tm.length := by simp [a0, startD, hlen]
    have s2 : ∀ i, RelV (fun x => x) ((startD args fn.ntmps).tm.getD i .junk) (a0.tmps.getD i undef) := fun i => (start_rel args vs fn.ntmps ha i).1
    have e0 : a0.put o.dst x = { tmps := a0.tmps.setIfInBounds d x, defers := [] } := by rw [hd]; rfl
    rw [e0]
    have inv : Inv w H { startD args fn.ntmps with tm := (startD args fn.ntmps).tm.set d r } { tmps := a0.tmps.setIfInBounds d x, defers := [] } w H (fun x => x) := by
      refine ⟨?_, fun i => ?_, rfl, Up.refl on, fun d cs hd => (by cases hd), fun x y hx => absurd rfl hx⟩
      · simp only [Array.size_setIfInBounds, List.length_set]
        exact s1
      · by_cases hi : d = i
        · subst hi
          rcases Nat.lt_or_ge d a0.tmps.size with hlt | hge
          · have e1 : ((startD args fn.ntmps).tm.set d r).getD d .junk = r := by simp [List.getD, ← s1, hlt]
            have e2 : (a0.tmps.setIfInBounds d x).getD d undef = x := by simp [hlt]
            simp only
            rw [e1, e2]
            exact hx _
          · have e1 : ((startD args fn.ntmps).tm.set d r).getD d .junk = .junk := by simp [List.getD, ← s1, hge]
            simp only
            rw [e1]
            trivial
        · have e2 : (a0.tmps.setIfInBounds d x).getD i undef = a0.tmps.getD i undef := by simp [Array.getElem?_setIfInBounds, hi]
          simp only
          rw [set_other hi, e2]
          exact s2 i
    have hops := seqW_sound (Q := fun _ => WFalse) (esc := hs.esc) (ops := ops) (w₀ := w) (H₀ := H)
      (Qr := fun e a' w' => e = .normal ∧ Post w H { startD args fn.ntmps with tm := (startD args fn.ntmps).tm.set d r } { tmps := a0.tmps.setIfInBounds d x, defers := [] } (fun x => x)
        (fun st => codeW P tb (fun _ => WFalse) hs 0 C st fun e _ => match e with
          | .normal | .ret => Q (.returned (.tuple #[]))
          | _ => WFalse) a' w')
      hb (fun w' H' _ hq => hq.elim) (ops.toList.drop 1) 1 (fun c a' w' H' _ hq => hq.elim) (fun j => by rw [List.getElem?_drop, Array.getElem?_toList]) inv (fun a' w' hp => ⟨rfl, hp⟩) h
    refine wpOpsS_of (by rintro ⟨a, w, h1, _⟩; cases h1) ?_ _ _ _ hops
    rintro e a' w' ⟨rfl, hp⟩
    obtain ⟨st', β', H', inv', agr', hk⟩ := hp
    show Code.wpS P C _ a' cs1 w'
    refine wpS_of_wp (wp_mono (codeW_sound (hs := hs) hm hb C 0 inv' hk) fun e a2 w2 hp2 => ?_)
    have fin : ∀ {H2 : HP}, a2.defers = [] → Up H H2 w w2 → Q (.returned (.tuple #[])) H2 →
        a2.defers = [] ∧ ∃ u', cs1 = { c₀ with mode := u' } :: cs ∧ ∃ v, (results fn a2.tmps).run P w2 = .ok v w2 ∧ ((∃ v', Ending.returned v = .returned v') ∧ u' = u1 ∧ ∃ H', Up H H' w w2 ∧ Q (.returned (.tuple #[])) H') := by
      intro H2 hd2 hu2 hq2
      refine ⟨hd2, u1, hcs, .tuple #[], ?_, ⟨_, rfl⟩, rfl, H2, hu2, hq2⟩
      simp [results, hr]
    cases e with
    | normal =>
      obtain ⟨st2, β2, H2, inv2, agr2, hk2⟩ := hp2
      exact fin inv2.defers inv2.up hk2
    | ret =>
      obtain ⟨st2, β2, H2, inv2, agr2, hk2⟩ := hp2
      exact fin inv2.defers inv2.up hk2
    | panic c => obtain ⟨_, _, _, _, hq⟩ := hp2; exact hq.elim
    | outgrown => obtain ⟨_, _, hq⟩ := hp2; exact hq.elim
    | exit id => obtain ⟨st2, β2, H2, inv2, agr2, hk2⟩ := hp2; exact hk2.elim
    | goto l => obtain ⟨st2, β2, H2, inv2, agr2, hk2⟩ := hp2; exact hk2.elim
  rcases hrec c₀ cs hu with ⟨h1, rfl, rfl⟩ | h1
  · rw [h1]
    exact key _ (by rw [← hu])
  · rw [h1]
    exact key _ rfl
end
end Go.Den
