/-
  Package num; the small ones of package monitor.
-/
import Derived.Test.YtmidcnfnmnhifaaGreatZSrt
import Derived.Test.YtmidcnfnmnhifaaGreatZStw
import Derived.Test.YtmidcnfnmnhifaaGreatZStp
import Derived.Test.YtmidcnfnmnhifaaGreatZWin
namespace Go.Proofs.YtmidcnfnmnhifaaGreat
set_option linter.unusedSectionVars false
set_option linter.unusedSimpArgs false
set_option linter.unusedVariables false
open Go Go.Den
set_option linter.unusedVariables false

/-! ### num, as the program reckons -/
def addP (a b : Int) : Int × Bool :=
  if (((decide (a < 0)) == (decide (b < 0))) && (!((decide ((IntKind.wrap .i64 (a + b)) < 0)) == (decide (a < 0))))) then (0, false) else (IntKind.wrap .i64 (a + b), true)
def subP (a b : Int) : Int × Bool :=
  if ((!((decide (a < 0)) == (decide (b < 0)))) && (!((decide ((IntKind.wrap .i64 (a - b)) < 0)) == (decide (a < 0))))) then (0, false) else (IntKind.wrap .i64 (a - b), true)
def negP (a : Int) : Int × Bool := if a = -9223372036854775808 then (0, false) else (IntKind.wrap .i64 (0 - a), true)
def absP (a : Int) : Int := if a < 0 then IntKind.wrap .u64 (0 - IntKind.wrap .u64 a) else IntKind.wrap .u64 a
def low32 (a : Int) : Int := IntKind.wrap .u64 (((BitVec.toNat ((BitVec.ofInt (IntKind.bits .u64) a) &&& (BitVec.ofInt (IntKind.bits .u64) 4294967295))) : Nat) : Int)
def mid64 (a b : Int) : Int := IntKind.wrap .u64 ((IntKind.wrap .u64 ((Int.fdiv a 4294967296) * (low32 b))) + (Int.fdiv (IntKind.wrap .u64 ((low32 a) * (low32 b))) 4294967296))
def hi64 (a b : Int) : Int := IntKind.wrap .u64 ((IntKind.wrap .u64 ((IntKind.wrap .u64 ((Int.fdiv a 4294967296) * (Int.fdiv b 4294967296))) + (Int.fdiv (mid64 a b) 4294967296))) + (Int.fdiv (IntKind.wrap .u64 ((low32 (mid64 a b)) + (IntKind.wrap .u64 ((low32 a) * (Int.fdiv b 4294967296))))) 4294967296))
def mulP (a b : Int) : Int × Bool :=
  if hi64 (absP a) (absP b) > 0 then (0, false)
  else if ((!(!((decide (a < 0)) == (decide (b < 0))))) && decide (IntKind.wrap .u64 (absP a * absP b) > 9223372036854775807)) = true then (0, false)
  else if IntKind.wrap .u64 (absP a * absP b) > 9223372036854775808 then (0, false)
  else if (!((decide (a < 0)) == (decide (b < 0)))) = true then (IntKind.wrap .i64 (IntKind.wrap .u64 (0 - IntKind.wrap .u64 (absP a * absP b))), true)
  else (IntKind.wrap .i64 (IntKind.wrap .u64 (absP a * absP b)), true)

section
variable {H : HP}
theorem add223 (a b : Int) : Pure Tryz.prog 223 #[.int .i64 a, .int .i64 b] H (.tuple #[.int .i64 (addP a b).1, .bool (addP a b).2]) := by
  refine Pure.of (spec223 (WIf.intro (fun h => ?_) (fun h => ?_)))
  · exact ⟨by unfold addP; rw [if_pos h], HP.le.refl H⟩
  · exact ⟨by unfold addP; rw [if_neg (by rw [h]; simp)], HP.le.refl H⟩
theorem sub224 (a b : Int) : Pure Tryz.prog 224 #[.int .i64 a, .int .i64 b] H (.tuple #[.int .i64 (subP a b).1, .bool (subP a b).2]) := by
  refine Pure.of (spec224 (WIf.intro (fun h => ?_) (fun h => ?_)))
  · exact ⟨by unfold subP; rw [if_pos h], HP.le.refl H⟩
  · exact ⟨by unfold subP; rw [if_neg (by rw [h]; simp)], HP.le.refl H⟩
theorem neg160 (a : Int) : Pure Tryz.prog 160 #[.int .i64 a] H (.tuple #[.int .i64 (negP a).1, .bool (negP a).2]) := by
  refine Pure.of (spec160 (WIf.intro (fun h => ?_) (fun h => ?_)))
  · exact ⟨by unfold negP; rw [if_pos (by simpa using h)], HP.le.refl H⟩
  · exact ⟨by unfold negP; rw [if_neg (by simpa using h)], HP.le.refl H⟩
theorem abs259 (a : Int) : Pure Tryz.prog 259 #[.int .i64 a] H (.int .u64 (absP a)) := by
  refine Pure.of (spec259 (WIf.intro (fun h => ?_) (fun h => ?_)))
  · exact ⟨by unfold absP; rw [if_pos (by simpa using h)], HP.le.refl H⟩
  · exact ⟨by unfold absP; rw [if_neg (by simpa using h)], HP.le.refl H⟩
theorem mul258 (a b : Int) : Pure Tryz.prog 258 #[.int .u64 a, .int .u64 b] H (.tuple #[.int .u64 (hi64 a b), .int .u64 (IntKind.wrap .u64 (a * b))]) :=
  Pure.of (spec258 ⟨by decide, by decide, by decide, by decide, by decide, rfl, HP.le.refl H⟩)
theorem mul225 (a b : Int) : Pure Tryz.prog 225 #[.int .i64 a, .int .i64 b] H (.tuple #[.int .i64 (mulP a b).1, .bool (mulP a b).2]) := by
  refine Pure.of (spec225 (WCall.pure (abs259 a) (WOpen.i (WCall.pure (abs259 b) (WOpen.i (WCall.pure (mul258 _ _) (WOpen.ii ?_)))))))
  unfold mulP
  refine WIf.intro (fun h => ⟨by rw [if_pos (by simpa using h)], HP.le.refl H⟩) (fun h => ?_)
  rw [if_neg (by simpa using h)]
  refine WIf.intro (fun h => ⟨by rw [if_pos h], HP.le.refl H⟩) (fun h => ?_)
  rw [if_neg (by rw [h]; simp)]
  refine WIf.intro (fun h => ⟨by rw [if_pos (by simpa using h)], HP.le.refl H⟩) (fun h => ?_)
  rw [if_neg (by simpa using h)]
  refine WIf.intro (fun h => ⟨by rw [if_pos h], HP.le.refl H⟩) (fun h => ⟨by rw [if_neg (by rw [h]; simp)], HP.le.refl H⟩)

/-! ### what may stop -/
abbrev Res := Except Int Va
def RVal (F : HP) (r : Res) (e : Ending) : Prop := match r with
  | .ok v => ∃ cs, e = .returned (.agg ⟨cs⟩) ∧ v.At F cs
  | .error c => e = .panicked [stopped c]
theorem RVal.mono {F F' : HP} (hl : F.le F') {r : Res} {e : Ending} (h : RVal F r e) : RVal F' r e := by
  cases r with
  | ok v => obtain ⟨cs, h1, h2⟩ := h; exact ⟨cs, h1, h2.mono hl⟩
  | error c => exact h

theorem need_ok {P : Program} {Q : Ending → W} {k : Value → W} {c : Int} {b : Bool} (hb : b = true) (hk : k (.tuple #[]) H) : WCall Tryz.prog Q 159 #[.bool b, .int .i64 c] k H := by
  subst hb
  refine WCall.pure (Pure.of (spec159 ?_)) hk
  exact WIf.f rfl ⟨rfl, HP.le.refl H⟩
theorem need_no {Q : Ending → W} {k : Value → W} {c : Int} {b : Bool} (hb : b = false) (hk : Q (.panicked [stopped c]) H) : WCall Tryz.prog Q 159 #[.bool b, .int .i64 c] k H := by
  subst hb
  have h : Den.Spec Tryz.prog 159 #[.bool false, .int .i64 c] H fun e H' => e = .panicked [stopped c] ∧ H' = H := by
    have h1 : Den.Spec Tryz.prog 159 #[.bool false, .int .i64 c] H fun e H' => e = .panicked [stopped c] ∧ H' = H := spec159 (WIf.t rfl ⟨rfl, rfl⟩)
    exact h1
  refine WCall.of h ?_ ?_
  · rintro v H' ⟨h1, _⟩; cases h1
  · rintro e H' ⟨rfl, rfl⟩ _; exact hk

/-- how a call that may stop ends -/
def RQ (r : Except Int Value) (e : Ending) : Prop := match r with
  | .ok v => e = .returned v
  | .error c => e = .panicked [stopped c]
/-- a call that stops, or reckons a flat value; nothing is changed -/
def PureR (f : FuncId) (args : Array Value) (H : HP) (r : Except Int Value) : Prop := Den.Spec Tryz.prog f args H fun e H' => H' = H ∧ RQ r e
theorem PureR.call {f : FuncId} {args : Array Value} {r : Except Int Value} {Q : Ending → W} {k : Value → W} (h : PureR f args H r) (h1 : ∀ v, r = .ok v → k v H) (h2 : ∀ c, r = .error c → Q (.panicked [stopped c]) H) : WCall Tryz.prog Q f args k H := by
  cases r with
  | ok v =>
    refine WCall.of h ?_ ?_
    · rintro v' H' ⟨rfl, h3⟩; cases h3; exact h1 v rfl
    · rintro e H' ⟨rfl, h3⟩ hne; exact absurd h3 (hne _)
  | error c =>
    refine WCall.of h ?_ ?_
    · rintro v' H' ⟨rfl, h3⟩; cases h3
    · rintro e H' ⟨rfl, h3⟩ hne
      have h3 : e = .panicked [stopped c] := h3
      subst h3
      exact h2 c rfl

def truthV (v : Va) : Except Int Bool := if v.k = 2 then .ok (v.n == 1) else .error 31
theorem truth163 {v : Va} {cs : List Value} (hv : v.At H cs) : PureR 163 #[.agg ⟨cs⟩] H (match truthV v with | .ok b => .ok (.bool b) | .error c => .error c) := by
  obtain ⟨p, c, rfl, hp⟩ := hv
  refine spec163 ?_
  unfold truthV
  by_cases h : v.k = 2
  · rw [if_pos h]
    exact need_ok (P := Tryz.prog) (by simp [h]) (WOpen.u ⟨rfl, rfl⟩)
  · rw [if_neg h]
    exact need_no (by simp [h]) ⟨rfl, rfl⟩

def numberV (kind : Int) (a b : Va) : Res :=
  if a.k = 1 ∧ b.k = 1 then
    let r := if kind = 8 then addP a.n b.n else if kind = 9 then subP a.n b.n else mulP a.n b.n
    if r.2 = true then .ok (Va.int r.1) else .error 30
  else .error 31

def flatR (r : Res) : Except Int Value := match r with
  | .ok v => .ok (.agg ⟨flat v⟩)
  | .error c => .error c

theorem number166 (kind : Int) {a b : Va} {cs ds : List Value} (ha : a.At H cs) (hb : b.At H ds) : PureR 166 #[.int .i64 kind, .agg ⟨cs⟩, .agg ⟨ds⟩] H (flatR (numberV kind a b)) := by
  obtain ⟨p, c, rfl, hp⟩ := ha
  obtain ⟨q, d, rfl, hq⟩ := hb
  refine spec166 ?_
  unfold numberV
  by_cases h1 : a.k = 1
  · refine WIf.t (by simp [h1]) ?_
    by_cases h2 : b.k = 1
    · rw [if_pos ⟨h1, h2⟩]
      refine need_ok (P := Tryz.prog) (by simp [h2]) (WOpen.u ?_)
      have fin : ∀ {r : Int × Bool}, WCall Tryz.prog (fun (e : Ending) H' => H' = H ∧ RQ (flatR (if r.2 = true then .ok (Va.int r.1) else .error 30)) e) 159 #[.bool r.2, .int .i64 30] (WOpen (.tup []) <|
          WCall Tryz.prog (fun (e : Ending) H' => H' = H ∧ RQ (flatR (if r.2 = true then .ok (Va.int r.1) else .error 30)) e) 161 #[.int .i64 r.1] (WOpen (.one (.agg [(.i .i64), (.i .i64), .s, .sl])) fun (x4 : Int) (x4_1 : Int) (x4_2 : ByteArray) (x4_3 : Option Go.Addr) (x4_4 : Nat) (x4_5 : Nat) =>
          (fun (e : Ending) H' => H' = H ∧ RQ (flatR (if r.2 = true then .ok (Va.int r.1) else .error 30)) e) (.returned (.agg #[.int .i64 x4, .int .i64 x4_1, .string x4_2, .slice x4_3 x4_4 x4_5])))) H := by
        intro r
        by_cases hr : r.2 = true
        · rw [if_pos hr]
          exact need_ok (P := Tryz.prog) hr (WOpen.u (WCall.pure (vint _) (WOpen.va ⟨rfl, rfl⟩)))
        · rw [if_neg hr]
          exact need_no (by simpa using hr) ⟨rfl, rfl⟩
      by_cases k8 : kind = 8
      · rw [if_pos k8]
        exact WIf.t (by simp [k8]) (WCall.pure (add223 _ _) (WOpen.ib fin))
      · rw [if_neg k8]
        refine WIf.f (by simp [k8]) ?_
        by_cases k9 : kind = 9
        · rw [if_pos k9]
          exact WIf.t (by simp [k9]) (WCall.pure (sub224 _ _) (WOpen.ib fin))
        · rw [if_neg k9]
          exact WIf.f (by simp [k9]) (WCall.pure (mul225 _ _) (WOpen.ib fin))
    · rw [if_neg (fun h => h2 h.2)]
      exact need_no (by simp [h2]) ⟨rfl, rfl⟩
  · rw [if_neg (fun h => h1 h.1)]
    exact WIf.f (by simp [h1]) (need_no rfl ⟨rfl, rfl⟩)
end
end Go.Proofs.YtmidcnfnmnhifaaGreat
