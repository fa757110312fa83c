import Derived.Test.YtmidcnfnmnhifaaGreatZSrt
import Derived.Test.YtmidcnfnmnhifaaGreatZStw
import Derived.Test.YtmidcnfnmnhifaaGreatZStp
import Derived.Test.YtmidcnfnmnhifaaGreatZWin
/-
  Package num; the small ones of package monitor.
-/
namespace Go.Proofs.YtmidcnfnmnhifaaGreat
set_option linter.unusedSectionVars false
set_option linter.unusedSimpArgs false
set_option linter.unusedVariables false
open Go Go.Den
set_option linter.unusedVariables false

/-! ### num, as the program reckons -/
def addP (a b : Int) : Int × Bool :=
  if (((decide (a < 0)) == (decide (b < 0))) && (!((decide ((IntKind.wrap .i64 (a + b)) < 0)) == (decide (a < 0))))) then (0, false) else (IntKind.wrap .i64 (a + b), true)
def subP (a b : Int) : Int × Bool :=
  if ((!((decide (a < 0)) == (decide (b < 0)))) && (!((decide ((IntKind.wrap .i64 (a - b)) < 0)) == (decide (a < 0))))) then (0, false) else (IntKind.wrap .i64 (a - b), true)
def negP (a : Int) : Int × Bool := if a = -9223372036854775808 then (0, false) else (IntKind.wrap .i64 (0 - a), true)
def absP (a : Int) : Int := if a < 0 then IntKind.wrap .u64 (0 - IntKind.wrap .u64 a) else IntKind.wrap .u64 a
def low32 (a : Int) : Int := IntKind.wrap .u64 (((BitVec.toNat ((BitVec.ofInt (IntKind.bits .u64) a) &&& (BitVec.ofInt (IntKind.bits .u64) 4294967295))) : Nat) : Int)
def mid64 (a b : Int) : Int := IntKind.wrap .u64 ((IntKind.wrap .u64 ((Int.fdiv a 4294967296) * (low32 b))) + (Int.fdiv (IntKind.wrap .u64 ((low32 a) * (low32 b))) 4294967296))
def hi64 (a b : Int) : Int := IntKind.wrap .u64 ((IntKind.wrap .u64 ((IntKind.wrap .u64 ((Int.fdiv a 4294967296) * (Int.fdiv b 4294967296))) + (Int.fdiv (mid64 a b) 4294967296))) + (Int.fdiv (IntKind.wrap .u64 ((low32 (mid64 a b)) + (IntKind.wrap .u64 ((low32 a) * (Int.fdiv b 4294967296))))) 4294967296))
def mulP (a b : Int) : Int × Bool :=
  if hi64 (absP a) (absP b) > 0 then (0, false)
  else if ((!(!((decide (a < 0)) == (decide (b < 0))))) && decide (IntKind.wrap .u64 (absP a * absP b) > 9223372036854775807)) = true then (0, false)
  else if IntKind.wrap .u64 (absP a * absP b) > 9223372036854775808 then (0, false)
  else if (!((decide (a < 0)) == (decide (b < 0)))) = true then (IntKind.wrap .i64 (IntKind.wrap .u64 (0 - IntKind.wrap .u64 (absP a * absP b))), true)
  else (IntKind.wrap .i64 (IntKind.wrap .u64 (absP a * absP b)), true)

section
variable {H : HP}
theorem add223 (a b : Int) : Pure Tryz.prog 223 #[.int .i64 a, .int .i64 b] H (.tuple #[.int .i64 (addP a b).1, .bool (addP a b).2]) := by
  refine Pure.of (spec223 (WIf.intro (fun h => ?_) (fun h => ?_)))
  · exact ⟨by unfold addP; rw [if_pos h], HP.le.refl H⟩
  · exact ⟨by unfold addP; rw [if_neg (by rw [h]; simp)], HP.le.refl H⟩
theorem sub224 (a b : Int) : Pure Tryz.prog 224 #[.int .i64 a, .int .i64 b] H (.tuple #[.int .i64 (subP a b).1, .bool (subP a b).2]) := by
  refine Pure.of (spec224 (WIf.intro (fun h => ?_) (fun h => ?_)))
  · exact ⟨by unfold subP; rw [if_pos h], HP.le.refl H⟩
  · exact ⟨by unfold subP; rw [if_neg (by rw [h]; simp)], HP.le.refl H⟩
theorem neg160 (a : Int) : Pure Tryz.prog 160 #[.int .i64 a] H (.tuple #[.int .i64 (negP a).1, .bool (negP a).2]) := by
  refine Pure.of (spec160 (WIf.intro (fun h => ?_) (fun h => ?_)))
  · exact ⟨by unfold negP; rw [if_pos (by simpa using h)], HP.le.refl H⟩
  · exact ⟨by unfold negP; rw [if_neg (by simpa using h)], HP.le.refl H⟩
theorem abs259 (a : Int) : Pure Tryz.prog 259 #[.int .i64 a] H (.int .u64 (absP a)) := by
  refine Pure.of (spec259 (WIf.intro (fun h => ?_) (fun h => ?_)))
  · exact ⟨by unfold absP; rw [if_pos (by simpa using h)], HP.le.refl H⟩
  · exact ⟨by unfold absP; rw [if_neg (by simpa using h)], HP.le.refl H⟩
theorem mul258 (a b : Int) : Pure Tryz.prog 258 #[.int .u64 a, .int .u64 b] H (.tuple #[.int .u64 (hi64 a b), .int .u64 (IntKind.wrap .u64 (a * b))]) :=
  Pure.of (spec258 ⟨by decide, by decide, by decide, by decide, by decide, rfl, HP.le.refl H⟩)
theorem mul225 (a b : Int) : Pure Tryz.prog 225 #[.int .i64 a, .int .i64 b] H (.tuple #[.int .i64 (mulP a b).1, .bool (mulP a b).2]) := by
  refine Pure.of (spec225 (WCall.pure (abs259 a) (WOpen.i (WCall.pure (abs259 b) (WOpen.i (WCall.pure (mul258 _ _) (WOpen.ii ?_)))))))
  unfold mulP
  refine WIf.intro (fun h => ⟨by rw [if_pos (by simpa using h)], HP.le.refl H⟩) (fun h => ?_)
  rw [if_neg (by simpa using h)]
  refine WIf.intro (fun h => ⟨by rw [if_pos h], HP.le.refl H⟩) (fun h => ?_)
  rw [if_neg (by rw [h]; simp)]
  refine WIf.intro (fun h => ⟨by rw [if_pos (by simpa using h)], HP.le.refl H⟩) (fun h => ?_)
  rw [if_neg (by simpa using h)]
  refine WIf.intro (fun h => ⟨by rw [if_pos h], HP.le.refl H⟩) (fun h => ⟨by rw [if_neg (by rw [h]; simp)], HP.le.refl H⟩)

/-! ### what may stop -/
abbrev Res := Except Int Va
def RVal (F : HP) (r : Res) (e : Ending) : Prop := match r with
  | .ok v => ∃ cs, e = .returned (.agg ⟨cs⟩) ∧ v.At F cs
  | .error c => e = .panicked [stopped c]
theorem RVal.mono {F F' : HP} (hl : F.le F') {r : Res} {e : Ending} (h : RVal F r e) : RVal F' r e := by
  cases r with
  | ok v => obtain ⟨cs, h1, h2⟩ := h; exact ⟨cs, h1, h2.mono hl⟩
  | error c => exact h

theorem need_ok {P : Program} {Q : Ending → W} {k : Value → W} {c : Int} {b : Bool} (hb : b = true) (hk : k (.tuple #[]) H) : WCall Tryz.prog Q 159 #[.bool b, .int .i64 c] k H := by
  subst hb
  refine WCall.pure (Pure.of (spec159 ?_)) hk
  exact WIf.f rfl ⟨rfl, HP.le.refl H⟩
theorem need_no {Q : Ending → W} {k : Value → W} {c : Int} {b : Bool} (hb : b = false) (hk : Q (.panicked [stopped c]) H) : WCall Tryz.prog Q 159 #[.bool b, .int .i64 c] k H := by
  subst hb
  have h : Den.Spec Tryz.prog 159 #[.bool false, .int .i64 c] H fun e H' => e = .panicked [stopped c] ∧ H' = H := by
    have h1 : Den.Spec Tryz.prog 159 #[.bool false, .int .i64 c] H fun e H' => e = .panicked [stopped c] ∧ H' = H := spec159 (WIf.t rfl ⟨rfl, rfl⟩)
    exact h1
  refine WCall.of h ?_ ?_
  · rintro v H' ⟨h1, _⟩; cases h1
  · rintro e H' ⟨rfl, rfl⟩ _; exact hk

/-- how a call that may stop ends -/
def RQ (r : Except Int Value) (e : Ending) : Prop := match r with
  | .ok v => e = .returned v
  | .error c => e = .panicked [stopped c]
/-- a call that stops, or reckons a flat value; nothing is changed -/
def PureR (f : FuncId) (args : Array Value) (H : HP) (r : Except Int Value) : Prop := Den.Spec Tryz.prog f args H fun e H' => H' = H ∧ RQ r e
theorem PureR.call {f : FuncId} {args : Array Value} {r : Except Int Value} {Q : Ending → W} {k : Value → W} (h : PureR f args H r) (h1 : ∀ v, r = .ok v → k v H) (h2 : ∀ c, r = .error c → Q (.panicked [stopped c]) H) : WCall Tryz.prog Q f args k H := by
  cases r with
  | ok v =>
    refine WCall.of h ?_ ?_
    · rintro v' H' ⟨rfl, h3⟩; cases h3; exact h1 v rfl
    · rintro e H' ⟨rfl, h3⟩ hne; exact absurd h3 (hne _)
  | error c =>
    refine WCall.of h ?_ ?_
    · rintro v' H' ⟨rfl, h3⟩; cases h3
    · rintro e H' ⟨rfl, h3⟩ hne
      have h3 : e = .panicked [stopped c] := h3
      subst h3
      exact h2 c rfl

def truthV (v : Va) : Except Int Bool := if v.k = 2 then .ok (v.n == 1) else .error 31
theorem truth163 {v : Va} {cs : List Value} (hv : v.At H cs) : PureR 163 #[.agg ⟨cs⟩] H (match truthV v with | .ok b => .ok (.bool b) | .error c => .error c) := by
  obtain ⟨p, c, rfl, hp⟩ := hv
  refine spec163 ?_
  unfold truthV
  by_cases h : v.k = 2
  · rw [if_pos h]
    exact need_ok (P := Tryz.prog) (by simp [h]) (WOpen.u ⟨rfl, rfl⟩)
  · rw [if_neg h]
    exact need_no (by simp [h]) ⟨rfl, rfl⟩

def numberV (kind : Int) (a b : Va) : Res :=
  if a.k = 1 ∧ b.k = 1 then
    let r := if kind = 8 then addP a.n b.n else if kind = 9 then subP a.n b.n else mulP a.n b.n
    if r.2 = true then .ok (Va.int r.1) else .error 30
  else .error 31

def flatR (r : Res) : Except Int Value := match r with
  | .ok v => .ok (.agg ⟨flat v⟩)
  | .error c => .error c

theorem number166 (kind : Int) {a b : Va} {cs ds : List Value} (ha : a.At H cs) (hb : b.At H ds) : PureR 166 #[.int .i64 kind, .agg ⟨cs⟩, .agg ⟨ds⟩] H (flatR (numberV kind a b)) := by
  obtain ⟨p, c, rfl, hp⟩ := ha
  obtain ⟨q, d, rfl, hq⟩ := hb
  refine spec166 ?_
  unfold numberV
  by_cases h1 : a.k = 1
  · refine WIf.t (by simp [h1]) ?_
    by_cases h2 : b.k = 1
    · rw [if_pos ⟨h1, h2⟩]
      refine need_ok (P := Tryz.prog) (by simp [h2]) (WOpen.u ?_)
      have fin : ∀ {r : Int × Bool}, WCall Tryz.prog (fun (e : Ending) H' => H' = H ∧ RQ (flatR (if r.2 = true then .ok (Va.int r.1) else .error 30)) e) 159 #[.bool r.2, .int .i64 30] (WOpen (.tup []) <|
          WCall Tryz.prog (fun (e : Ending) H' => H' = H ∧ RQ (flatR (if r.2 = true then .ok (Va.int r.1) else .error 30)) e) 161 #[.int .i64 r.1] (WOpen (.one (.agg [(.i .i64), (.i .i64), .s, .sl])) fun (x4 : Int) (x4_1 : Int) (x4_2 : ByteArray) (x4_3 : Option Go.Addr) (x4_4 : Nat) (x4_5 : Nat) =>
          (fun (e : Ending) H' => H' = H ∧ RQ (flatR (if r.2 = true then .ok (Va.int r.1) else .error 30)) e) (.returned (.agg #[.int .i64 x4, .int .i64 x4_1, .string x4_2, .slice x4_3 x4_4 x4_5])))) H := by
        intro r
        by_cases hr : r.2 = true
        · rw [if_pos hr]
          exact need_ok (P := Tryz.prog) hr (WOpen.u (WCall.pure (vint _) (WOpen.va ⟨rfl, rfl⟩)))
        · rw [if_neg hr]
          exact need_no (by simpa using hr) ⟨rfl, rfl⟩
      by_cases k8 : kind = 8
      · rw [if_pos k8]
        exact WIf.t (by simp [k8]) (WCall.pure (add223 _ _) (WOpen.ib fin))
      · rw [if_neg k8]
        refine WIf.f (by simp [k8]) ?_
        by_cases k9 : kind = 9
        · rw [if_pos k9]
          exact WIf.t (by simp [k9]) (WCall.pure (sub224 _ _) (WOpen.ib fin))
        · rw [if_neg k9]
          exact WIf.f (by simp [k9]) (WCall.pure (mul225 _ _) (WOpen.ib fin))
    · rw [if_neg (fun h => h2 h.2)]
      exact need_no (by simp [h2]) ⟨rfl, rfl⟩
  · rw [if_neg (fun h => h1 h.1)]
    exact WIf.f (by simp [h1]) (need_no rfl ⟨rfl, rfl⟩)
end
end Go.Proofs.YtmidcnfnmnhifaaGreat

/-
  Package monitor: a node; what has no kids.
-/
namespace Go.Proofs.YtmidcnfnmnhifaaGreat
set_option linter.unusedSectionVars false
set_option linter.unusedSimpArgs false
set_option linter.unusedVariables false
open Go Go.Den
set_option linter.unusedVariables false

/-- a moment -/
structure Mo where
  a : Int
  act : ByteArray
  subj : ByteArray
  obj : ByteArray

def ptr (o : Option Nat) : Option Addr := o.map fun g => ⟨g, 0, none⟩
def winO (ty : TypeId) (p : Option Nat) (o : Option Wi) : Asr := match p, o with
  | some g, some w => winA g ty w
  | none, none => emp'
  | _, _ => pur False
def talO (p : Option Nat) (o : Option Wi) : Asr := match p, o with
  | some g, some w => tallyA g w
  | none, none => emp'
  | _, _ => pur False
theorem Good.winO {ty : TypeId} {p : Option Nat} {o : Option Wi} : Good (winO ty p o) := by
  unfold Go.Proofs.YtmidcnfnmnhifaaGreat.winO
  split
  · exact Good.win
  · exact Good.emp
  · exact Good.pur
theorem Good.talO {p : Option Nat} {o : Option Wi} : Good (talO p o) := by
  unfold Go.Proofs.YtmidcnfnmnhifaaGreat.talO
  split
  · exact Good.tal
  · exact Good.emp
  · exact Good.pur
theorem Ex.At.mono {F F' : HP} (h : F.le F') : ∀ {e : Ex} {cs : List Value}, e.At F cs → e.At F' cs := by
  have key : ∀ N, (∀ e : Ex, e.size ≤ N → ∀ cs, e.At F cs → e.At F' cs) ∧ (∀ es : List Ex, sizes es ≤ N → ∀ p i, ExsAt F es p i → ExsAt F' es p i) := by
    intro N
    induction N with
    | zero =>
      refine ⟨fun e he => by have := e.size_pos; omega, fun es he p i hx => ?_⟩
      cases es with
      | nil => trivial
      | cons e es => simp only [sizes] at he; have := e.size_pos; omega
    | succ N ih =>
      refine ⟨fun e he cs hx => ?_, fun es => ?_⟩
      · obtain ⟨k, s, n, a, b, ks⟩ := e
        simp only [Ex.At] at hx ⊢
        simp only [Ex.size] at he
        obtain ⟨p, c, h1, h2⟩ := hx
        exact ⟨p, c, h1, ih.2 ks (by omega) p 0 h2⟩
      · induction es with
        | nil => intro _ p i _; trivial
        | cons e es ih2 =>
          intro he p i hx
          simp only [sizes] at he
          simp only [ExsAt] at hx ⊢
          have := e.size_pos
          obtain ⟨⟨x, cs, h1, h2, h3⟩, h4⟩ := hx
          refine ⟨⟨x, cs, h1, h.has h2, ?_⟩, ih2 (by omega) p (i + 1) h4⟩
          by_cases hz : e.size ≤ N
          · exact ih.1 e hz cs h3
          · obtain ⟨k, s, n, a, b, ks⟩ := e
            simp only [Ex.At] at h3 ⊢
            simp only [Ex.size] at he hz
            obtain ⟨p', c', h5, h6⟩ := h3
            exact ⟨p', c', h5, ih.2 ks (by omega) p' 0 h6⟩
  intro e cs
  exact (key e.size).1 e (Nat.le_refl _) cs

theorem ExsAt.mono {F F' : HP} (h : F.le F') : ∀ {es : List Ex} {p : Option Addr} {i : Nat}, ExsAt F es p i → ExsAt F' es p i
  | [], _, _, _ => trivial
  | e :: es, p, i, hx => by
    simp only [ExsAt] at hx ⊢
    obtain ⟨⟨x, cs, h1, h2, h3⟩, h4⟩ := hx
    exact ⟨⟨x, cs, h1, h.has h2, h3.mono h⟩, ExsAt.mono h h4⟩

/-- a node's own blocks -/
def nodB (e : Ex) (kp : Option Addr) (kl kc : Nat) (o s t : Option Wi) (prev : Bool) (g : Nat) : Asr := ex fun x : List Value × Option Nat × Option Nat × Option Nat =>
  also (fz fun F => e.At F x.1) ((sepc (blk g 165 (x.1 ++ [.slice kp kl kc, .pointer (ptr x.2.1), .pointer (ptr x.2.2.1), .pointer (ptr x.2.2.2), .bool prev])) (sepc (winO 259 x.2.1 o) (sepc (winO 260 x.2.2.1 s) (talO x.2.2.2 t)))))

theorem Good.nodB {e : Ex} {kp : Option Addr} {kl kc : Nat} {o s t : Option Wi} {prev : Bool} {g : Nat} : Good (nodB e kp kl kc o s t prev g) :=
  Good.ex fun _ => Good.also (Good.fz fun _ _ hl h => h.mono hl) (Good.star Good.blk (Good.star Good.winO (Good.star Good.winO Good.talO)))

section
variable {a : Base} {R : Asr} {F H : HP} {S : List Nat}

theorem Ex.At.cells {F : HP} {k n x y : Int} {s : ByteArray} {ks : List Ex} {cs : List Value} (h : (Ex.mk k s n x y ks).At F cs) : ∃ p c, cs = exCells k s n x y p ks.length c := by
  simp only [Ex.At] at h
  obtain ⟨p, c, h1, _⟩ := h
  exact ⟨p, c, h1⟩

/-- what a node's block says -/
theorem nodB_has {k n x y : Int} {nm : ByteArray} {ks : List Ex} {kp : Option Addr} {kl kc : Nat} {o s t : Option Wi} {prev : Bool} {g : Nat} (h : ((sepc (nodB (.mk k nm n x y ks) kp kl kc o s t prev g) R)) F H S) :
    ∃ p c po ps pt, (Ex.mk k nm n x y ks).At F (exCells k nm n x y p ks.length c) ∧ H.has ⟨g, 0, none⟩ (exCells k nm n x y p ks.length c) ∧ H.has ⟨g, 0, none⟩ [.int .i64 k] ∧ H.has ⟨g, 6, none⟩ [.slice kp kl kc] ∧
      H.has ⟨g, 7, none⟩ [.pointer (ptr po)] ∧ H.has ⟨g, 8, none⟩ [.pointer (ptr ps)] ∧ H.has ⟨g, 9, none⟩ [.pointer (ptr pt)] ∧ H.has ⟨g, 10, none⟩ [.bool prev] ∧
      ((sepc (blk g 165 (exCells k nm n x y p ks.length c ++ [.slice kp kl kc, .pointer (ptr po), .pointer (ptr ps), .pointer (ptr pt), .bool prev])) (sepc (winO 259 po o) (sepc (winO 260 ps s) (sepc (talO pt t) R))))) F H S := by
  obtain ⟨S1, S2, i1, i2, idj, ⟨⟨cs, po, ps, pt⟩, he, hA⟩, hR⟩ := h
  obtain ⟨p, c, rfl⟩ := Ex.At.cells he
  have h' := star_assoc (⟨S1, S2, i1, i2, idj, hA, hR⟩ : ((sepc ((sepc (blk g 165 (exCells k nm n x y p ks.length c ++ [.slice kp kl kc, .pointer (ptr po), .pointer (ptr ps), .pointer (ptr pt), .bool prev])) (sepc (winO 259 po o) (sepc (winO 260 ps s) (talO pt t))))) R)) F H S)
  have h'' := star_mono (fun _ h => h) (fun _ h => star_mono (fun _ h => h) (fun _ h => star_assoc h) (star_assoc h)) h'
  exact ⟨p, c, po, ps, pt, he, blk_has h' rfl, blk_has h' rfl, blk_has h' rfl, blk_has h' rfl, blk_has h' rfl, blk_has h' rfl, blk_has h' rfl, h''⟩

theorem nodB_mk {e : Ex} {cs : List Value} {kp : Option Addr} {kl kc : Nat} {o s t : Option Wi} {prev : Bool} {g : Nat} {po ps pt : Option Nat} (he : e.At F cs)
    (h : ((sepc (blk g 165 (cs ++ [.slice kp kl kc, .pointer (ptr po), .pointer (ptr ps), .pointer (ptr pt), .bool prev])) (sepc (winO 259 po o) (sepc (winO 260 ps s) (sepc (talO pt t) R))))) F H S) : ((sepc (nodB e kp kl kc o s t prev g) R)) F H S := by
  refine star_mono (A := (sepc (blk g 165 (cs ++ [.slice kp kl kc, .pointer (ptr po), .pointer (ptr ps), .pointer (ptr pt), .bool prev])) (sepc (winO 259 po o) (sepc (winO 260 ps s) (talO pt t))))) (fun S' hs => ⟨(cs, po, ps, pt), he, hs⟩) (fun _ h => h) ?_
  exact star_assoc' (star_mono (fun _ h => h) (fun _ h => star_assoc' (star_mono (fun _ h => h) (fun _ h => star_assoc' h) h)) h)

theorem fin164 (b : Bool) {Q : Ending → W} (hQ : Q (.returned (.agg ⟨flat (Va.bool b)⟩)) H) :
    WCall Tryz.prog Q 164 #[.bool b] (WOpen (.one (.agg [(.i .i64), (.i .i64), .s, .sl])) fun (x : Int) (x1 : Int) (x2 : ByteArray) (x3 : Option Go.Addr) (x4 : Nat) (x5 : Nat) => Q (.returned (.agg #[.int .i64 x, .int .i64 x1, .string x2, .slice x3 x4 x5]))) H :=
  WCall.pure (vbool b) (WOpen.va hQ)
theorem fin161 (n : Int) {Q : Ending → W} (hQ : Q (.returned (.agg ⟨flat (Va.int n)⟩)) H) :
    WCall Tryz.prog Q 161 #[.int .i64 n] (WOpen (.one (.agg [(.i .i64), (.i .i64), .s, .sl])) fun (x : Int) (x1 : Int) (x2 : ByteArray) (x3 : Option Go.Addr) (x4 : Nat) (x5 : Nat) => Q (.returned (.agg #[.int .i64 x, .int .i64 x1, .string x2, .slice x3 x4 x5]))) H :=
  WCall.pure (vint n) (WOpen.va hQ)

def eyeV (gs : Nat) (x : Mo) : Value := .agg #[.pointer (some ⟨gs, 0, none⟩), .int .i64 x.a, .string x.act, .string x.subj, .string x.obj]

def attrV (σ : Sto) (x : Mo) (k : Int) (s : ByteArray) : Res := match σ.get (if k = 5 then x.subj else x.obj) s with
  | some v => .ok v
  | none => .error 14

theorem attr173 {gs : Nat} {σ : Sto} {x : Mo} {k n y z : Int} {s : ByteArray} {p : Option Addr} {l c : Nat} (gr : Good R) (h : Wd a R F H S) (hs : StoH F H gs σ) (ok : σ.Ok) (h1 : x.subj.size ≤ maxLen) (h2 : x.obj.size ≤ maxLen) (h3 : s.size ≤ maxLen) :
    Den.Spec Tryz.prog 173 #[eyeV gs x, .agg #[.int .i64 k, .string s, .int .i64 n, .int .i64 y, .int .i64 z, .slice p l c]] H fun e H' => ∃ F', RVal F' (attrV σ x k s) e ∧ F.le F' ∧ Wd a R F' H' S := by
  refine spec173 ?_
  unfold attrV
  have fin : ∀ {ent : ByteArray} {v : Value} {F' H' : HP}, GetV F' (σ.get ent s) v → F.le F' → Wd a R F' H' S →
      WOpen (.tup [(.agg [(.i .i64), (.i .i64), .s, .sl]), (.l .b)]) (fun (x1 : Int) (x1_1 : Int) (x1_2 : ByteArray) (x1_3 : Option Go.Addr) (x1_4 : Nat) (x1_5 : Nat) (x1_6 : Bool) =>
       WCall Tryz.prog (fun (e : Ending) H' => ∃ F', RVal F' (match σ.get ent s with | some v => .ok v | none => .error 14) e ∧ F.le F' ∧ Wd a R F' H' S) 159 #[(.bool x1_6), (.int .i64 14)] (WOpen (.tup []) <|
       (fun (e : Ending) H' => ∃ F', RVal F' (match σ.get ent s with | some v => .ok v | none => .error 14) e ∧ F.le F' ∧ Wd a R F' H' S) (.returned (.agg #[(.int .i64 x1), (.int .i64 x1_1), (.string x1_2), (.slice x1_3 x1_4 x1_5)])))) v H' := by
    intro ent v F' H' hg hle hw
    unfold GetV at hg
    cases hget : σ.get ent s with
    | none =>
      rw [hget] at hg
      simp only at hg
      subst hg
      exact WOpen.vab (need_no rfl ⟨F', rfl, hle, hw⟩)
    | some u =>
      rw [hget] at hg
      obtain ⟨cs, hu, rfl⟩ := hg
      have hu' := hu
      obtain ⟨p, c, rfl, hp⟩ := hu
      exact WOpen.vab (need_ok (P := Tryz.prog) rfl (WOpen.u ⟨F', ⟨_, rfl, hu'⟩, hle, hw⟩))
  by_cases hk : k = 5
  · rw [if_pos hk]
    refine WIf.t (by simp [hk]) (WCall.of (get59 gr h hs ok h1 h3) ?_ (by rintro e H' ⟨v, F', hv, _⟩ hne; exact absurd hv (hne _)))
    rintro v H' ⟨v', F', hv, hg, hle, hw⟩
    cases hv
    exact fin hg hle hw
  · rw [if_neg hk]
    refine WIf.f (by simp [hk]) (WCall.of (get59 gr h hs ok h2 h3) ?_ (by rintro e H' ⟨v, F', hv, _⟩ hne; exact absurd hv (hne _)))
    rintro v H' ⟨v', F', hv, hg, hle, hw⟩
    cases hv
    exact fin hg hle hw

def isAct (x : Mo) (s : ByteArray) : Bool := !(decide (x.act = nos)) && decide (x.act = s)

def leafV (σ : Sto) (x : Mo) (k : Int) (nm : ByteArray) (n : Int) (ks : List Ex) (t : Option Wi) : Res × Option Wi :=
  if k = 2 then (.ok (Va.bool (n == 1)), t) else if k = 3 then (.ok (Va.text nm), t) else if k = 4 then (.ok (setVa ks), t)
  else if k = 5 ∨ k = 6 then (attrV σ x k nm, t) else if k = 7 then (.ok (Va.int x.a), t) else if k = 21 then (.ok (Va.bool (isAct x nm)), t)
  else if k = 13 then match t with
    | some w => (.ok (Va.int (sumD 0 (w.tally x.a (isAct x nm)).d)), some (w.tally x.a (isAct x nm)))
    | none => (.error 0, none)
  else (.ok (Va.int n), t)

theorem leaf104 {gs g : Nat} {σ : Sto} {x : Mo} {k n y z : Int} {nm : ByteArray} {ks : List Ex} {kp : Option Addr} {kl kc : Nat} {o s t : Option Wi} {prev : Bool} (gr : Good R) (h : Wd a ((sepc (nodB (.mk k nm n y z ks) kp kl kc o s t prev g) R)) F H S)
    (hs : StoH F H gs σ) (ok : σ.Ok) (h1 : x.subj.size ≤ maxLen) (h2 : x.obj.size ≤ maxLen) (h3 : nm.size ≤ maxLen) (h4 : k = 4 → ks.length ≤ 8 ∧ risesB (names ks) = true) (h5 : k = 13 → ∃ w, t = some w ∧ w.d.length < 900000000) :
    Den.Spec Tryz.prog 104 #[eyeV gs x, .pointer (some ⟨g, 0, none⟩)] H fun e H' => ∃ F' S', RVal F' (leafV σ x k nm n ks t).1 e ∧ F.le F' ∧ Wd a ((sepc (nodB (.mk k nm n y z ks) kp kl kc o s (leafV σ x k nm n ks t).2 prev g) R)) F' H' S' := by
  obtain ⟨p, c, po, ps, pt, hex, hcells, _, _, _, _, hpt, _, hparts⟩ := nodB_has h.it
  refine spec104 (WNonNil.some (WLoad.ex (by rw [addN]; exact hcells) ?_))
  have done : ∀ {v : Va}, v.l = [] → Wd a ((sepc (nodB (.mk k nm n y z ks) kp kl kc o s t prev g) R)) F H S → ∃ F' S', RVal F' (.ok v) (.returned (.agg ⟨flat v⟩)) ∧ F.le F' ∧ Wd a ((sepc (nodB (.mk k nm n y z ks) kp kl kc o s t prev g) R)) F' H S' :=
    fun hl hw => ⟨F, S, ⟨_, rfl, flat_at hl⟩, HP.le.refl F, hw⟩
  unfold leafV
  by_cases k2 : k = 2
  · simp only [if_pos k2]
    exact WIf.t (by simp [k2]) (fin164 _ (done rfl h))
  simp only [if_neg k2]
  refine WIf.f (by simp [k2]) ?_
  by_cases k3 : k = 3
  · simp only [if_pos k3]
    exact WIf.t (by simp [k3]) (WCall.pure (vtext _) (WOpen.va (done rfl h)))
  simp only [if_neg k3]
  refine WIf.f (by simp [k3]) ?_
  by_cases k4 : k = 4
  · simp only [if_pos k4]
    refine WIf.t (by simp [k4]) (WCall.grow (Good.star Good.nodB gr) h (set172 hex (h4 k4).1 (h4 k4).2) ?_)
    rintro v F' H' ⟨cs, rfl, hcs⟩ hle hw
    have hcs' := hcs
    obtain ⟨p', c', rfl, hp'⟩ := hcs
    exact WOpen.va ⟨F', S, ⟨_, rfl, hcs'⟩, hle, hw⟩
  simp only [if_neg k4]
  refine WIf.f (by simp [k4]) ?_
  have attr : (k = 5 ∨ k = 6) → WCall Tryz.prog (fun (e : Ending) H' => ∃ F' S', RVal F' (attrV σ x k nm) e ∧ F.le F' ∧ Wd a ((sepc (nodB (.mk k nm n y z ks) kp kl kc o s t prev g) R)) F' H' S') 173 #[eyeV gs x, (.agg #[(.int .i64 k), (.string nm), (.int .i64 n), (.int .i64 y), (.int .i64 z), (.slice p ks.length c)])] (WOpen (.one (.agg [(.i .i64), (.i .i64), .s, .sl])) fun (x6 : Int) (x6_1 : Int) (x6_2 : ByteArray) (x6_3 : Option Go.Addr) (x6_4 : Nat) (x6_5 : Nat) =>
      (fun (e : Ending) H' => ∃ F' S', RVal F' (attrV σ x k nm) e ∧ F.le F' ∧ Wd a ((sepc (nodB (.mk k nm n y z ks) kp kl kc o s t prev g) R)) F' H' S') (.returned (.agg #[(.int .i64 x6), (.int .i64 x6_1), (.string x6_2), (.slice x6_3 x6_4 x6_5)]))) H := by
    intro _
    refine WCall.of (attr173 (Good.star Good.nodB gr) h hs ok h1 h2 h3) ?_ ?_
    · rintro v H' ⟨F', hr, hle, hw⟩
      cases hres : attrV σ x k nm with
      | ok u =>
        rw [hres] at hr
        obtain ⟨cs, hv, hu⟩ := hr
        cases hv
        have hu' := hu
        obtain ⟨p', c', rfl, hp'⟩ := hu
        exact WOpen.va ⟨F', S, ⟨_, rfl, hu'⟩, hle, hw⟩
      | error c => rw [hres] at hr; cases hr
    · rintro e H' ⟨F', hr, hle, hw⟩ hne
      exact ⟨F', S, hr, hle, hw⟩
  by_cases k5 : k = 5
  · simp only [if_pos (Or.inl k5 : k = 5 ∨ k = 6)]
    exact WIf.t (by simp [k5]) (attr (.inl k5))
  refine WIf.f (by simp [k5]) ?_
  by_cases k6 : k = 6
  · simp only [if_pos (Or.inr k6 : k = 5 ∨ k = 6)]
    exact WIf.t (by simp [k6]) (attr (.inr k6))
  simp only [if_neg (fun h => h.elim k5 k6 : ¬ (k = 5 ∨ k = 6))]
  refine WIf.f (by simp [k6]) ?_
  by_cases k7 : k = 7
  · simp only [if_pos k7]
    exact WIf.t (by simp [k7]) (fin161 _ (done rfl h))
  simp only [if_neg k7]
  refine WIf.f (by simp [k7]) ?_
  have hact : ∀ {b : Bool}, (!((ByteArray.toList x.act) == (ByteArray.toList (ByteArray.mk #[])))) = b → b = !decide (x.act = nos) := fun h => by rw [← h, toList_inj]
  by_cases k21 : k = 21
  · simp only [if_pos k21]
    refine WIf.t (by simp [k21]) (WIf.intro (fun hb => ?_) (fun hb => ?_))
    · have e1 : isAct x nm = (ByteArray.toList x.act == ByteArray.toList nm) := by unfold isAct; rw [← hact hb, toList_inj]; rfl
      rw [e1]
      exact fin164 _ (done rfl h)
    · have e1 : isAct x nm = false := by unfold isAct; rw [← hact hb]; rfl
      rw [e1]
      exact fin164 _ (done rfl h)
  simp only [if_neg k21]
  refine WIf.f (by simp [k21]) ?_
  by_cases k13 : k = 13
  · simp only [if_pos k13]
    obtain ⟨w, rfl, hw⟩ := h5 k13
    obtain ⟨gt, rfl⟩ : ∃ gt, pt = some gt := by
      cases pt with
      | some gt => exact ⟨gt, rfl⟩
      | none =>
        obtain ⟨_, _, _, _, _, _, h⟩ := hparts
        obtain ⟨_, _, _, _, _, _, h⟩ := h
        obtain ⟨_, _, _, _, _, _, h⟩ := h
        obtain ⟨_, _, _, _, _, h, _⟩ := h
        exact h.elim
    refine WIf.t (by simp [k13]) (WNonNil.some (WLoad.p (by rw [addN]; exact hpt) ?_))
    have step : ∀ b : Bool, b = isAct x nm → WCall Tryz.prog (fun (e : Ending) H' => ∃ F' S', RVal F' (.ok (Va.int (sumD 0 (w.tally x.a (isAct x nm)).d))) e ∧ F.le F' ∧ Wd a ((sepc (nodB (.mk k nm n y z ks) kp kl kc o s (some (w.tally x.a (isAct x nm))) prev g) R)) F' H' S') 174 #[(.pointer (ptr (some gt))), (.int .i64 x.a), (.bool b)] (WOpen (.one (.l (.i .i64))) fun (x13 : Int) =>
        WCall Tryz.prog (fun (e : Ending) H' => ∃ F' S', RVal F' (.ok (Va.int (sumD 0 (w.tally x.a (isAct x nm)).d))) e ∧ F.le F' ∧ Wd a ((sepc (nodB (.mk k nm n y z ks) kp kl kc o s (some (w.tally x.a (isAct x nm))) prev g) R)) F' H' S') 161 #[(.int .i64 x13)] (WOpen (.one (.agg [(.i .i64), (.i .i64), .s, .sl])) fun (x14 : Int) (x14_1 : Int) (x14_2 : ByteArray) (x14_3 : Option Go.Addr) (x14_4 : Nat) (x14_5 : Nat) =>
        (fun (e : Ending) H' => ∃ F' S', RVal F' (.ok (Va.int (sumD 0 (w.tally x.a (isAct x nm)).d))) e ∧ F.le F' ∧ Wd a ((sepc (nodB (.mk k nm n y z ks) kp kl kc o s (some (w.tally x.a (isAct x nm))) prev g) R)) F' H' S') (.returned (.agg #[(.int .i64 x14), (.int .i64 x14_1), (.string x14_2), (.slice x14_3 x14_4 x14_5)])))) H := by
      intro b hb
      rw [← hb]
      have hw' : Wd a ((sepc (tallyA gt w) (sepc (blk g 165 (exCells k nm n y z p ks.length c ++ [.slice kp kl kc, .pointer (ptr po), .pointer (ptr ps), .pointer (ptr (some gt)), .bool prev])) (sepc (winO 259 po o) (sepc (winO 260 ps s) R))))) F H S :=
        ⟨h.wd, h.tr, star_left (star_mono (fun _ h => h) (fun _ h => star_left (star_mono (fun _ h => h) (fun _ h => star_left h) h)) hparts)⟩
      refine WCall.of (tally174 x.a b (Good.star Good.blk (Good.star Good.winO (Good.star Good.winO gr))) hw' hw) ?_ (by rintro e H' ⟨hv, _⟩ hne; exact absurd hv (hne _))
      rintro v H' ⟨hv, S', h'⟩
      cases hv
      refine WOpen.i (fin161 _ ⟨F, S', ⟨_, rfl, flat_at rfl⟩, HP.le.refl F, h'.imp fun hh => ?_⟩)
      refine nodB_mk (po := po) (ps := ps) (pt := some gt) hex ?_
      exact star_mono (fun _ h => h) (fun _ h => star_mono (fun _ h => h) (fun _ h => star_left h) (star_left h)) (star_left hh)
    refine WIf.intro (fun hb => ?_) (fun hb => ?_)
    · exact step _ (by unfold isAct; rw [← hact hb, toList_inj]; rfl)
    · exact step _ (by unfold isAct; rw [← hact hb]; rfl)
  simp only [if_neg k13]
  exact WIf.f (by simp [k13]) (fin161 _ (done rfl h))
end
end Go.Proofs.YtmidcnfnmnhifaaGreat

/-
  Package monitor: of one, of two.
-/
namespace Go.Proofs.YtmidcnfnmnhifaaGreat
set_option linter.unusedSectionVars false
set_option linter.unusedSimpArgs false
set_option linter.unusedVariables false
open Go Go.Den
set_option linter.unusedVariables false

def singleV (x : Mo) (k : Int) (v : Va) (o : Option Wi) (prev : Bool) : Res × Option Wi × Bool :=
  if k = 11 then ((if v.k = 1 then if (negP v.n).2 = true then .ok (Va.int (negP v.n).1) else .error 30 else .error 31), o, prev)
  else if k = 12 then ((if v.k = 3 ∨ v.k = 4 then .ok (Va.int v.size) else .error 31), o, prev)
  else match truthV v with
    | .error c => (.error c, o, prev)
    | .ok p =>
      if k = 18 then (.ok (Va.bool (!p)), o, prev)
      else if k = 22 then match o with
        | some w => (.ok (Va.bool (w.once x.a p).was), some (w.once x.a p), prev)
        | none => (.error 0, none, prev)
      else if k = 23 then match o with
        | some w => (.ok (Va.bool (!(w.once x.a (!p)).was)), some (w.once x.a (!p)), prev)
        | none => (.error 0, none, prev)
      else (.ok (Va.bool prev), o, p)

def pairV (x : Mo) (k : Int) (a b : Va) (s : Option Wi) : Res × Option Wi :=
  if k = 8 ∨ k = 9 ∨ k = 10 then (numberV k a b, s)
  else if k = 14 then ((if a.k = b.k then .ok (Va.bool (a.cmp b == 0)) else .error 31), s)
  else if k = 15 ∨ k = 16 then ((if a.k = b.k ∧ (a.k = 1 ∨ a.k = 3) then .ok (Va.bool (decide (a.cmp b < 0) || (decide (a.cmp b = 0) && decide (k = 16)))) else .error 31), s)
  else if k = 17 then ((if a.k = 3 ∧ b.k = 4 then .ok (Va.bool (memS a.s b.l)) else .error 31), s)
  else match truthV a with
    | .error c => (.error c, s)
    | .ok p => match truthV b with
      | .error c => (.error c, s)
      | .ok q =>
        if k = 19 then (.ok (Va.bool (p && q)), s)
        else if k = 20 then (.ok (Va.bool (p || q)), s)
        else match s with
          | some w => (.ok (Va.bool (w.since x.a p q).was), some (w.since x.a p q))
          | none => (.error 0, none)

section
variable {a : Base} {R : Asr} {F H : HP} {S : List Nat}

theorem single102 {gs g : Nat} {x : Mo} {k n y z : Int} {nm : ByteArray} {ks : List Ex} {kp : Option Addr} {kl kc : Nat} {o s t : Option Wi} {prev : Bool} {v : Va} {cs : List Value} (gr : Good R) (h : Wd a ((sepc (nodB (.mk k nm n y z ks) kp kl kc o s t prev g) R)) F H S)
    (hv : v.At F cs) (h5 : k = 22 ∨ k = 23 → ∃ w, o = some w ∧ w.d.length < 900000000) :
    Den.Spec Tryz.prog 102 #[eyeV gs x, .pointer (some ⟨g, 0, none⟩), .agg ⟨cs⟩] H fun e H' => ∃ F' S', RVal F' (singleV x k v o prev).1 e ∧ F.le F' ∧ Wd a ((sepc (nodB (.mk k nm n y z ks) kp kl kc (singleV x k v o prev).2.1 s t (singleV x k v o prev).2.2 g) R)) F' H' S' := by
  obtain ⟨p, c, po, ps, pt, hex, _, hkind, _, hpo, _, _, hprev, hparts⟩ := nodB_has h.it
  have htr : PureR 163 #[.agg ⟨cs⟩] H (match truthV v with | .ok b => .ok (.bool b) | .error c => .error c) := truth163 (hv.mono h.wd.le)
  obtain ⟨pv, cv, rfl, hpv⟩ := hv
  have hsz : Pure Tryz.prog 162 #[.agg ⟨vaCells v.k v.n v.s pv v.l.length cv⟩] H (.int .i64 v.size) := vsize v pv cv
  have hk0 : H.has ((Addr.add (Addr.add ⟨g, 0, none⟩ 0) 0)) [.int .i64 k] := by rw [addN, addN]; exact hkind
  refine spec102 (WNonNil.some (WLoad.i (n := k) hk0 ?_))
  have done : ∀ {u : Va}, u.l = [] → ∃ F' S', RVal F' (.ok u) (.returned (.agg ⟨flat u⟩)) ∧ F.le F' ∧ Wd a ((sepc (nodB (.mk k nm n y z ks) kp kl kc o s t prev g) R)) F' H S' :=
    fun hl => ⟨F, S, ⟨_, rfl, flat_at hl⟩, HP.le.refl F, h⟩
  have stop : ∀ {c : Int}, ∃ F' S', RVal F' (.error c) (.panicked [stopped c]) ∧ F.le F' ∧ Wd a ((sepc (nodB (.mk k nm n y z ks) kp kl kc o s t prev g) R)) F' H S' :=
    ⟨F, S, rfl, HP.le.refl F, h⟩
  unfold singleV
  by_cases k11 : k = 11
  · simp only [if_pos k11]
    refine WIf.t (by simp [k11]) ?_
    by_cases hk : v.k = 1
    · simp only [if_pos hk]
      refine need_ok (P := Tryz.prog) (by simp [hk]) (WOpen.u (WCall.pure (neg160 _) (WOpen.ib ?_)))
      by_cases hn : (negP v.n).2 = true
      · simp only [if_pos hn]
        exact need_ok (P := Tryz.prog) hn (WOpen.u (fin161 _ (done rfl)))
      · simp only [if_neg hn]
        exact need_no (by simpa using hn) stop
    · simp only [if_neg hk]
      exact need_no (by simp [hk]) stop
  simp only [if_neg k11]
  refine WIf.f (by simp [k11]) ?_
  by_cases k12 : k = 12
  · simp only [if_pos k12]
    refine WIf.t (by simp [k12]) ?_
    by_cases hk : v.k = 3
    · simp only [if_pos (Or.inl hk : v.k = 3 ∨ v.k = 4)]
      exact WIf.t (by simp [hk]) (need_ok (P := Tryz.prog) rfl (WOpen.u (WCall.pure hsz (WOpen.i (fin161 _ (done rfl))))))
    · refine WIf.f (by simp [hk]) ?_
      by_cases hk4 : v.k = 4
      · simp only [if_pos (Or.inr hk4 : v.k = 3 ∨ v.k = 4)]
        exact need_ok (P := Tryz.prog) (by simp [hk4]) (WOpen.u (WCall.pure hsz (WOpen.i (fin161 _ (done rfl)))))
      · simp only [if_neg (fun h => h.elim hk hk4 : ¬ (v.k = 3 ∨ v.k = 4))]
        exact need_no (by simp [hk4]) stop
  simp only [if_neg k12]
  refine WIf.f (by simp [k12]) ?_
  cases htv : truthV v with
  | error c =>
    rw [htv] at htr
    exact PureR.call htr (fun _ h => by cases h) (fun c' h => by cases h; exact stop)
  | ok q =>
    rw [htv] at htr
    refine PureR.call htr (fun v' h' => ?_) (fun _ h => by cases h)
    cases h'
    refine WOpen.b (WNonNil.some (WLoad.i (n := k) hk0 ?_))
    by_cases k18 : k = 18
    · simp only [if_pos k18]
      exact WIf.t (by simp [k18]) (fin164 _ (done rfl))
    simp only [if_neg k18]
    refine WIf.f (by simp [k18]) ?_
    have step : ∀ {w : Wi} (b : Bool), o = some w → w.d.length < 900000000 → ∃ go, po = some go ∧ Den.Spec Tryz.prog 165 #[.pointer (some ⟨go, 0, none⟩), .int .i64 x.a, .bool b] H fun e H' => e = .returned (.bool (w.once x.a b).was) ∧
        ∃ S', Wd a ((sepc (nodB (.mk k nm n y z ks) kp kl kc (some (w.once x.a b)) s t prev g) R)) F H' S' := by
      intro w b ho hw
      subst ho
      obtain ⟨go, rfl⟩ : ∃ go, po = some go := by
        cases po with
        | some go => exact ⟨go, rfl⟩
        | none =>
          obtain ⟨_, _, _, _, _, _, h⟩ := hparts
          obtain ⟨_, _, _, _, _, h, _⟩ := h
          exact h.elim
      refine ⟨go, rfl, ?_⟩
      have hw' : Wd a ((sepc (winA go 259 w) (sepc (blk g 165 (exCells k nm n y z p ks.length c ++ [.slice kp kl kc, .pointer (ptr (some go)), .pointer (ptr ps), .pointer (ptr pt), .bool prev])) (sepc (winO 260 ps s) (sepc (talO pt t) R))))) F H S :=
        ⟨h.wd, h.tr, star_left hparts⟩
      refine (once165 x.a b (Good.star Good.blk (Good.star Good.winO (Good.star Good.talO gr))) hw' (by omega)).mono ?_
      rintro e H' ⟨rfl, S', h'⟩
      refine ⟨rfl, S', h'.imp fun hh => ?_⟩
      exact nodB_mk (po := some go) (ps := ps) (pt := pt) hex (star_left hh)
    by_cases k22 : k = 22
    · simp only [if_pos k22]
      obtain ⟨w, ho, hw⟩ := h5 (.inl k22)
      obtain ⟨go, rfl, hsp⟩ := step q ho hw
      subst ho
      refine WIf.t (by simp [k22]) (WNonNil.some (WLoad.p (by rw [addN]; exact hpo) (WCall.of hsp ?_ (by rintro e H' ⟨hv, _⟩ hne; exact absurd hv (hne _)))))
      rintro v' H' ⟨hv', S', h'⟩
      cases hv'
      exact WOpen.b (fin164 _ ⟨F, S', ⟨_, rfl, flat_at rfl⟩, HP.le.refl F, h'⟩)
    simp only [if_neg k22]
    refine WIf.f (by simp [k22]) ?_
    by_cases k23 : k = 23
    · simp only [if_pos k23]
      obtain ⟨w, ho, hw⟩ := h5 (.inr k23)
      obtain ⟨go, rfl, hsp⟩ := step (!q) ho hw
      subst ho
      refine WIf.t (by simp [k23]) (WNonNil.some (WLoad.p (by rw [addN]; exact hpo) (WCall.of hsp ?_ (by rintro e H' ⟨hv, _⟩ hne; exact absurd hv (hne _)))))
      rintro v' H' ⟨hv', S', h'⟩
      cases hv'
      exact WOpen.b (fin164 _ ⟨F, S', ⟨_, rfl, flat_at rfl⟩, HP.le.refl F, h'⟩)
    simp only [if_neg k23]
    refine WIf.f (by simp [k23]) (WNonNil.some (WLoad.b (n := prev) (by rw [addN]; exact hprev) (WNonNil.some ?_)))
    rw [addN]
    refine WStore.blk (Good.star Good.winO (Good.star Good.winO (Good.star Good.talO gr))) ⟨h.wd, h.tr, hparts⟩ (by simp [exCells]) fun H1 h1 => ?_
    exact fin164 _ ⟨F, S, ⟨_, rfl, flat_at rfl⟩, HP.le.refl F, h1.imp fun hh => nodB_mk (po := po) (ps := ps) (pt := pt) hex hh⟩

theorem cmp_tail {Q : Ending → W} {c : Int} {g : Nat} {k : Int} (hk : H.has ((Addr.add (Addr.add ⟨g, 0, none⟩ 0) 0)) [.int .i64 k]) (hQ : Q (.returned (.agg ⟨flat (Va.bool (decide (c < 0) || (decide (c = 0) && decide (k = 16))))⟩)) H) :
    WIf (decide (c < 0)) (WCall Tryz.prog Q 164 #[(.bool true)] (WOpen (.one (.agg [(.i .i64), (.i .i64), .s, .sl])) fun (x18 : Int) (x18_1 : Int) (x18_2 : ByteArray) (x18_3 : Option Go.Addr) (x18_4 : Nat) (x18_5 : Nat) =>
           Q (.returned (.agg #[(.int .i64 x18), (.int .i64 x18_1), (.string x18_2), (.slice x18_3 x18_4 x18_5)]))))
          (WIf (c == 0) (WNonNil (some (⟨g, 0, none⟩ : Addr)) fun q19 =>
            WLoad (Addr.add (Addr.add q19 0) 0) (.l (.i .i64)) fun (x20 : Int) =>
            WCall Tryz.prog Q 164 #[(.bool (x20 == 16))] (WOpen (.one (.agg [(.i .i64), (.i .i64), .s, .sl])) fun (x21 : Int) (x21_1 : Int) (x21_2 : ByteArray) (x21_3 : Option Go.Addr) (x21_4 : Nat) (x21_5 : Nat) =>
            Q (.returned (.agg #[(.int .i64 x21), (.int .i64 x21_1), (.string x21_2), (.slice x21_3 x21_4 x21_5)]))))
           (WCall Tryz.prog Q 164 #[(.bool false)] (WOpen (.one (.agg [(.i .i64), (.i .i64), .s, .sl])) fun (x22 : Int) (x22_1 : Int) (x22_2 : ByteArray) (x22_3 : Option Go.Addr) (x22_4 : Nat) (x22_5 : Nat) =>
            Q (.returned (.agg #[(.int .i64 x22), (.int .i64 x22_1), (.string x22_2), (.slice x22_3 x22_4 x22_5)]))))) H := by
  refine WIf.intro (fun h1 => fin164 _ ?_) (fun h1 => WIf.intro (fun h2 => WNonNil.some (WLoad.i (n := k) hk (fin164 _ ?_))) (fun h2 => fin164 _ ?_))
  · rw [h1] at hQ; exact hQ
  · rw [h1, show decide (c = 0) = true by simpa using h2] at hQ
    rw [show (k == 16) = decide (k = 16) by rfl]
    exact hQ
  · rw [h1, show decide (c = 0) = false by simpa using h2] at hQ
    exact hQ

theorem pairV_truth {x : Mo} {k : Int} {v w : Va} {s : Option Wi} (hk3 : k = 19 ∨ k = 20 ∨ k = 24) : pairV x k v w s = match truthV v with
        | .error c => (.error c, s)
        | .ok p => match truthV w with
          | .error c => (.error c, s)
          | .ok q =>
            if k = 19 then (.ok (Va.bool (p && q)), s)
            else if k = 20 then (.ok (Va.bool (p || q)), s)
            else match s with
              | some w => (.ok (Va.bool (w.since x.a p q).was), some (w.since x.a p q))
              | none => (.error 0, none) := by
  unfold pairV
  rw [if_neg (by omega), if_neg (by omega), if_neg (by omega), if_neg (by omega)]

/-- Lt, Le -/
theorem lt_part {Q : Ending → W} {g : Nat} {k : Int} {v w : Va} {pv pw : Option Addr} {cv cw : Nat} (hk : H.has ((Addr.add (Addr.add ⟨g, 0, none⟩ 0) 0)) [.int .i64 k])
    (hcmp : Pure Tryz.prog 168 #[.agg ⟨vaCells v.k v.n v.s pv v.l.length cv⟩, .agg ⟨vaCells w.k w.n w.s pw w.l.length cw⟩] H (.int .i64 (v.cmp w)))
    (h1 : v.k = w.k ∧ (v.k = 1 ∨ v.k = 3) → Q (.returned (.agg ⟨flat (Va.bool (decide (v.cmp w < 0) || (decide (v.cmp w = 0) && decide (k = 16))))⟩)) H) (h2 : ¬ (v.k = w.k ∧ (v.k = 1 ∨ v.k = 3)) → Q (.panicked [stopped 31]) H)
    (T : Int → W) (hT : T = fun x17 => WIf (decide (x17 < 0)) (WCall Tryz.prog Q 164 #[(.bool true)] (WOpen (.one (.agg [(.i .i64), (.i .i64), .s, .sl])) fun (x18 : Int) (x18_1 : Int) (x18_2 : ByteArray) (x18_3 : Option Go.Addr) (x18_4 : Nat) (x18_5 : Nat) =>
           Q (.returned (.agg #[(.int .i64 x18), (.int .i64 x18_1), (.string x18_2), (.slice x18_3 x18_4 x18_5)]))))
          (WIf (x17 == 0) (WNonNil (some (⟨g, 0, none⟩ : Addr)) fun q19 =>
            WLoad (Addr.add (Addr.add q19 0) 0) (.l (.i .i64)) fun (x20 : Int) =>
            WCall Tryz.prog Q 164 #[(.bool (x20 == 16))] (WOpen (.one (.agg [(.i .i64), (.i .i64), .s, .sl])) fun (x21 : Int) (x21_1 : Int) (x21_2 : ByteArray) (x21_3 : Option Go.Addr) (x21_4 : Nat) (x21_5 : Nat) =>
            Q (.returned (.agg #[(.int .i64 x21), (.int .i64 x21_1), (.string x21_2), (.slice x21_3 x21_4 x21_5)]))))
           (WCall Tryz.prog Q 164 #[(.bool false)] (WOpen (.one (.agg [(.i .i64), (.i .i64), .s, .sl])) fun (x22 : Int) (x22_1 : Int) (x22_2 : ByteArray) (x22_3 : Option Go.Addr) (x22_4 : Nat) (x22_5 : Nat) =>
            Q (.returned (.agg #[(.int .i64 x22), (.int .i64 x22_1), (.string x22_2), (.slice x22_3 x22_4 x22_5)])))))) :
    WIf (v.k == w.k) (WIf (v.k == 1) (WCall Tryz.prog Q 159 #[(.bool true), (.int .i64 31)] (WOpen (.tup []) <|
        WCall Tryz.prog Q 168 #[(.agg ⟨vaCells v.k v.n v.s pv v.l.length cv⟩), (.agg ⟨vaCells w.k w.n w.s pw w.l.length cw⟩)] (WOpen (.one (.l (.i .i64))) T)))
       (WCall Tryz.prog Q 159 #[(.bool (v.k == 3)), (.int .i64 31)] (WOpen (.tup []) <|
        WCall Tryz.prog Q 168 #[(.agg ⟨vaCells v.k v.n v.s pv v.l.length cv⟩), (.agg ⟨vaCells w.k w.n w.s pw w.l.length cw⟩)] (WOpen (.one (.l (.i .i64))) T))))
      (WCall Tryz.prog Q 159 #[(.bool false), (.int .i64 31)] (WOpen (.tup []) <|
       WCall Tryz.prog Q 168 #[(.agg ⟨vaCells v.k v.n v.s pv v.l.length cv⟩), (.agg ⟨vaCells w.k w.n w.s pw w.l.length cw⟩)] (WOpen (.one (.l (.i .i64))) T))) H := by
  subst hT
  by_cases e1 : v.k = w.k
  · refine WIf.t (by simp [e1]) ?_
    by_cases e2 : v.k = 1
    · exact WIf.t (by simp [e2]) (need_ok (P := Tryz.prog) rfl (WOpen.u (WCall.pure hcmp (WOpen.i (cmp_tail hk (h1 ⟨e1, .inl e2⟩))))))
    · refine WIf.f (by simp [e2]) ?_
      by_cases e3 : v.k = 3
      · exact need_ok (P := Tryz.prog) (by simp [e3]) (WOpen.u (WCall.pure hcmp (WOpen.i (cmp_tail hk (h1 ⟨e1, .inr e3⟩)))))
      · exact need_no (by simp [e3]) (h2 fun h => h.2.elim e2 e3)
  · exact WIf.f (by simp [e1]) (need_no rfl (h2 fun h => e1 h.1))

theorem pair103 {gs g : Nat} {x : Mo} {k n y z : Int} {nm : ByteArray} {ks : List Ex} {kp : Option Addr} {kl kc : Nat} {o s t : Option Wi} {prev : Bool} {v w : Va} {cs ds : List Value} (gr : Good R) (h : Wd a ((sepc (nodB (.mk k nm n y z ks) kp kl kc o s t prev g) R)) F H S)
    (hv : v.At F cs) (hw : w.At F ds) (hvl : v.l.length < 1000000000000) (hwl : w.l.length < 1000000000000) (hk25 : k = 24 → ∃ w, s = some w ∧ w.d.length < 900000000)
    (hkk : k = 8 ∨ k = 9 ∨ k = 10 ∨ k = 14 ∨ k = 15 ∨ k = 16 ∨ k = 17 ∨ k = 19 ∨ k = 20 ∨ k = 24) :
    Den.Spec Tryz.prog 103 #[eyeV gs x, .pointer (some ⟨g, 0, none⟩), .agg ⟨cs⟩, .agg ⟨ds⟩] H fun e H' => ∃ F' S', RVal F' (pairV x k v w s).1 e ∧ F.le F' ∧ Wd a ((sepc (nodB (.mk k nm n y z ks) kp kl kc o (pairV x k v w s).2 t prev g) R)) F' H' S' := by
  obtain ⟨p, c, po, ps, pt, hex, _, hkind, _, _, hps, _, _, hparts⟩ := nodB_has h.it
  have hvH := hv.mono h.wd.le
  have hwH := hw.mono h.wd.le
  have htv : PureR 163 #[.agg ⟨cs⟩] H (match truthV v with | .ok b => .ok (.bool b) | .error c => .error c) := truth163 hvH
  have htw : PureR 163 #[.agg ⟨ds⟩] H (match truthV w with | .ok b => .ok (.bool b) | .error c => .error c) := truth163 hwH
  have hnum : ∀ kind, PureR 166 #[.int .i64 kind, .agg ⟨cs⟩, .agg ⟨ds⟩] H (flatR (numberV kind v w)) := fun kind => number166 kind hvH hwH
  have hcmp := cmp168 hvH hwH hvl
  have hsame := same167 hvH hwH hvl
  have hhas := has169 hwH v.s hwl
  obtain ⟨pv, cv, rfl, hpv⟩ := hv
  obtain ⟨pw, cw, rfl, hpw⟩ := hw
  have hk0 : H.has ((Addr.add (Addr.add ⟨g, 0, none⟩ 0) 0)) [.int .i64 k] := by rw [addN, addN]; exact hkind
  have done : ∀ {u : Va}, u.l = [] → ∃ F' S', RVal F' (.ok u) (.returned (.agg ⟨flat u⟩)) ∧ F.le F' ∧ Wd a ((sepc (nodB (.mk k nm n y z ks) kp kl kc o s t prev g) R)) F' H S' :=
    fun hl => ⟨F, S, ⟨_, rfl, flat_at hl⟩, HP.le.refl F, h⟩
  have stop : ∀ {c : Int}, ∃ F' S', RVal F' (.error c) (.panicked [stopped c]) ∧ F.le F' ∧ Wd a ((sepc (nodB (.mk k nm n y z ks) kp kl kc o s t prev g) R)) F' H S' :=
    ⟨F, S, rfl, HP.le.refl F, h⟩
  have hnl : ∀ {kind : Int} {u : Va}, numberV kind v w = .ok u → u.l = [] := by
    intro kind u hu
    unfold numberV at hu
    by_cases hc : v.k = 1 ∧ w.k = 1
    · rw [if_pos hc] at hu
      simp only at hu
      generalize (if kind = 8 then addP v.n w.n else if kind = 9 then subP v.n w.n else mulP v.n w.n) = r at hu
      by_cases hr : r.2 = true
      · rw [if_pos hr] at hu
        simp only [Except.ok.injEq] at hu
        subst hu
        rfl
      · rw [if_neg hr] at hu
        cases hu
    · rw [if_neg hc] at hu
      cases hu
  have num : ∀ {Q : Ending → W}, (∀ u, numberV k v w = .ok u → Q (.returned (.agg ⟨flat u⟩)) H) → (∀ c, numberV k v w = .error c → Q (.panicked [stopped c]) H) →
      WCall Tryz.prog Q 166 #[(.int .i64 k), (.agg ⟨vaCells v.k v.n v.s pv v.l.length cv⟩), (.agg ⟨vaCells w.k w.n w.s pw w.l.length cw⟩)] (WOpen (.one (.agg [(.i .i64), (.i .i64), .s, .sl])) fun (x6 : Int) (x6_1 : Int) (x6_2 : ByteArray) (x6_3 : Option Go.Addr) (x6_4 : Nat) (x6_5 : Nat) =>
        Q (.returned (.agg #[(.int .i64 x6), (.int .i64 x6_1), (.string x6_2), (.slice x6_3 x6_4 x6_5)]))) H := by
    intro Q h1 h2
    refine PureR.call (hnum k) (fun u hu => ?_) (fun c hc => ?_)
    · cases hr : numberV k v w with
      | ok u' => rw [hr] at hu; cases hu; exact WOpen.va (h1 u' hr)
      | error c => rw [hr] at hu; cases hu
    · cases hr : numberV k v w with
      | ok u' => rw [hr] at hc; cases hc
      | error c' => rw [hr] at hc; cases hc; exact h2 _ hr
  have numQ : (k = 8 ∨ k = 9 ∨ k = 10) → (∀ u, numberV k v w = .ok u → ∃ F' S', RVal F' (pairV x k v w s).1 (.returned (.agg ⟨flat u⟩)) ∧ F.le F' ∧ Wd a ((sepc (nodB (.mk k nm n y z ks) kp kl kc o (pairV x k v w s).2 t prev g) R)) F' H S') ∧
      (∀ c, numberV k v w = .error c → ∃ F' S', RVal F' (pairV x k v w s).1 (.panicked [stopped c]) ∧ F.le F' ∧ Wd a ((sepc (nodB (.mk k nm n y z ks) kp kl kc o (pairV x k v w s).2 t prev g) R)) F' H S') := by
    intro hk
    unfold pairV
    simp only [if_pos hk]
    exact ⟨fun u hu => by rw [hu]; exact done (hnl hu), fun c hc => by rw [hc]; exact stop⟩
  refine spec103 ⟨fun _ H' => H' = H ∧ (k = 19 ∨ k = 20 ∨ k = 24), WNonNil.some (WLoad.i (n := k) hk0 ?_), fun _ H' hJ => ?_⟩
  · by_cases k8 : k = 8
    · exact WIf.t (by simp [k8]) (WNonNil.some (WLoad.i (n := k) hk0 (num (numQ (.inl k8)).1 (numQ (.inl k8)).2)))
    refine WIf.f (by simp [k8]) ?_
    by_cases k9 : k = 9
    · exact WIf.t (by simp [k9]) (WNonNil.some (WLoad.i (n := k) hk0 (num (numQ (.inr (.inl k9))).1 (numQ (.inr (.inl k9))).2)))
    refine WIf.f (by simp [k9]) ?_
    by_cases k10 : k = 10
    · exact WIf.t (by simp [k10]) (WNonNil.some (WLoad.i (n := k) hk0 (num (numQ (.inr (.inr k10))).1 (numQ (.inr (.inr k10))).2)))
    refine WIf.f (by simp [k10]) ?_
    unfold pairV
    simp only [if_neg (show ¬ (k = 8 ∨ k = 9 ∨ k = 10) from fun h => h.elim k8 fun h => h.elim k9 k10)]
    by_cases k14 : k = 14
    · simp only [if_pos k14]
      refine WIf.t (by simp [k14]) ?_
      by_cases hkk : v.k = w.k
      · simp only [if_pos hkk]
        exact need_ok (P := Tryz.prog) (by simp [hkk]) (WOpen.u (WCall.pure hsame (WOpen.b (fin164 _ (done rfl)))))
      · simp only [if_neg hkk]
        exact need_no (by simp [hkk]) stop
    simp only [if_neg k14]
    refine WIf.f (by simp [k14]) ?_
    by_cases k15 : k = 15
    · simp only [if_pos (Or.inl k15 : k = 15 ∨ k = 16)]
      exact WIf.t (by simp [k15]) (lt_part hk0 hcmp (fun h => by rw [if_pos h]; exact done rfl) (fun h => by rw [if_neg h]; exact stop) _ rfl)
    refine WIf.f (by simp [k15]) ?_
    by_cases k16 : k = 16
    · simp only [if_pos (Or.inr k16 : k = 15 ∨ k = 16)]
      exact WIf.t (by simp [k16]) (lt_part hk0 hcmp (fun h => by rw [if_pos h]; exact done rfl) (fun h => by rw [if_neg h]; exact stop) _ rfl)
    simp only [if_neg (show ¬ (k = 15 ∨ k = 16) from fun h => h.elim k15 k16)]
    refine WIf.f (by simp [k16]) ?_
    by_cases k17 : k = 17
    · simp only [if_pos k17]
      refine WIf.t (by simp [k17]) ?_
      by_cases e3 : v.k = 3
      · refine WIf.t (by simp [e3]) ?_
        by_cases e4 : w.k = 4
        · simp only [if_pos (⟨e3, e4⟩ : v.k = 3 ∧ w.k = 4)]
          exact need_ok (P := Tryz.prog) (by simp [e4]) (WOpen.u (WCall.pure hhas (WOpen.b (fin164 _ (done rfl)))))
        · simp only [if_neg (show ¬ (v.k = 3 ∧ w.k = 4) from fun h => e4 h.2)]
          exact need_no (by simp [e4]) stop
      · simp only [if_neg (show ¬ (v.k = 3 ∧ w.k = 4) from fun h => e3 h.1)]
        exact WIf.f (by simp [e3]) (need_no rfl stop)
    refine WIf.f (by simp [k17]) ⟨rfl, ?_⟩
    rcases hkk with h | h | h | h | h | h | h | h | h | h
    · exact absurd h k8
    · exact absurd h k9
    · exact absurd h k10
    · exact absurd h k14
    · exact absurd h k15
    · exact absurd h k16
    · exact absurd h k17
    · exact .inl h
    · exact .inr (.inl h)
    · exact .inr (.inr h)
  · obtain ⟨rfl, hk3⟩ := hJ
    rw [pairV_truth hk3]
    cases htv' : truthV v with
    | error c =>
      rw [htv'] at htv
      exact PureR.call htv (fun _ h => by cases h) (fun c' h => by cases h; exact stop)
    | ok p' =>
      rw [htv'] at htv
      refine PureR.call htv (fun v' h' => ?_) (fun _ h => by cases h)
      cases h'
      refine WOpen.b ?_
      cases htw' : truthV w with
      | error c =>
        rw [htw'] at htw
        exact PureR.call htw (fun _ h => by cases h) (fun c' h => by cases h; exact stop)
      | ok q' =>
        rw [htw'] at htw
        refine PureR.call htw (fun v' h' => ?_) (fun _ h => by cases h)
        cases h'
        refine WOpen.b (WNonNil.some (WLoad.i (n := k) hk0 ?_))
        by_cases k19 : k = 19
        · simp only [if_pos k19]
          refine WIf.t (by simp [k19]) ?_
          cases p'
          · exact WIf.f rfl (fin164 _ (done rfl))
          · exact WIf.t rfl (fin164 _ (done rfl))
        simp only [if_neg k19]
        refine WIf.f (by simp [k19]) ?_
        by_cases k20 : k = 20
        · simp only [if_pos k20]
          refine WIf.t (by simp [k20]) ?_
          cases p'
          · exact WIf.f rfl (fin164 _ (done rfl))
          · exact WIf.t rfl (fin164 _ (done rfl))
        simp only [if_neg k20]
        refine WIf.f (by simp [k20]) ?_
        obtain ⟨u, rfl, hu⟩ := hk25 (by omega)
        obtain ⟨gw, rfl⟩ : ∃ gw, ps = some gw := by
          cases ps with
          | some gw => exact ⟨gw, rfl⟩
          | none =>
            obtain ⟨_, _, _, _, _, _, h⟩ := hparts
            obtain ⟨_, _, _, _, _, _, h⟩ := h
            obtain ⟨_, _, _, _, _, h, _⟩ := h
            exact h.elim
        have hw' : Wd a ((sepc (winA gw 260 u) (sepc (blk g 165 (exCells k nm n y z p ks.length c ++ [.slice kp kl kc, .pointer (ptr po), .pointer (ptr (some gw)), .pointer (ptr pt), .bool prev])) (sepc (winO 259 po o) (sepc (talO pt t) R))))) F H' S :=
          ⟨h.wd, h.tr, star_left (star_mono (fun _ h => h) (fun _ h => star_left h) hparts)⟩
        refine WNonNil.some (WLoad.p (by rw [addN]; exact hps) (WCall.of (since170 x.a p' q' (Good.star Good.blk (Good.star Good.winO (Good.star Good.talO gr))) hw' (by omega)) ?_ (by rintro e H' ⟨hv, _⟩ hne; exact absurd hv (hne _))))
        rintro v' H2 ⟨hv', S', h'⟩
        cases hv'
        refine WOpen.b (fin164 _ ⟨F, S', ⟨_, rfl, flat_at rfl⟩, HP.le.refl F, h'.imp fun hh => ?_⟩)
        exact nodB_mk (po := po) (ps := some gw) (pt := pt) hex (star_mono (fun _ h => h) (fun _ h => star_left h) (star_left hh))
end
end Go.Proofs.YtmidcnfnmnhifaaGreat

/-
  Package monitor: a node and all below it; eval.
-/
namespace Go.Proofs.YtmidcnfnmnhifaaGreat
set_option linter.unusedSectionVars false
set_option linter.unusedSimpArgs false
set_option linter.unusedVariables false
open Go Go.Den
set_option linter.unusedVariables false

/-- what a node remembers, and its kids -/
inductive Sta where
  | mk (ks : List Sta) (o s t : Option Wi) (prev : Bool)

def KidsPtr (F : HP) (kp : Option Addr) (gs : List Nat) : Prop := ∀ (i : Nat) (g : Nat), gs[i]? = some g → ∃ a, kp = some a ∧ F.has (a.add i) [.pointer (some ⟨g, 0, none⟩)]
theorem KidsPtr.mono {F F' : HP} (h : F.le F') {kp : Option Addr} {gs : List Nat} (hk : KidsPtr F kp gs) : KidsPtr F' kp gs :=
  fun i g hi => let ⟨a, h1, h2⟩ := hk i g hi; ⟨a, h1, h.has h2⟩

mutual
def nodeA : Ex → Sta → Nat → Asr
  | .mk k nm n y z eks, .mk ks o s t prev, g => ex fun x : Option Addr × Nat × List Nat =>
      also (fz fun F => KidsPtr F x.1 x.2.2) ((sepc (nodB (.mk k nm n y z eks) x.1 ks.length x.2.1 o s t prev g) (kidsA eks ks x.2.2)))
def kidsA : List Ex → List Sta → List Nat → Asr
  | [], [], [] => emp'
  | e :: es, n :: ns, g :: gs => (sepc (nodeA e n g) (kidsA es ns gs))
  | _, _, _ => pur False
end

theorem good_nodes : ∀ N, (∀ e : Ex, e.size ≤ N → ∀ n g, Good (nodeA e n g)) ∧ (∀ es : List Ex, sizes es ≤ N → ∀ ns gs, Good (kidsA es ns gs)) := by
  intro N
  induction N with
  | zero =>
    refine ⟨fun e he => by have := e.size_pos; omega, fun es he ns gs => ?_⟩
    cases es with
    | nil =>
      cases ns <;> cases gs <;> simp only [kidsA] <;> first | exact Good.emp | exact Good.pur
    | cons e es => simp only [sizes] at he; have := e.size_pos; omega
  | succ N ih =>
    have hk : ∀ es : List Ex, sizes es ≤ N → ∀ ns gs, Good (kidsA es ns gs) := ih.2
    have hn : ∀ e : Ex, e.size ≤ N + 1 → ∀ n g, Good (nodeA e n g) := by
      intro e he n g
      obtain ⟨k, nm, m, y, z, eks⟩ := e
      obtain ⟨ks, o, s, t, prev⟩ := n
      simp only [Ex.size] at he
      simp only [nodeA]
      exact Good.ex fun x => Good.also (Good.fz fun _ _ hl h => h.mono hl) (Good.star Good.nodB (hk eks (by omega) _ _))
    refine ⟨hn, fun es => ?_⟩
    induction es with
    | nil =>
      intro _ ns gs
      cases ns <;> cases gs <;> simp only [kidsA] <;> first | exact Good.emp | exact Good.pur
    | cons e es ih2 =>
      intro he ns gs
      simp only [sizes] at he
      cases ns <;> cases gs <;> simp only [kidsA] <;> first | exact Good.pur | exact Good.star (hn e (by omega) _ _) (ih2 (by omega) _ _)
theorem Good.node {e : Ex} {n : Sta} {g : Nat} : Good (nodeA e n g) := (good_nodes e.size).1 e (Nat.le_refl _) n g
theorem Good.kids {es : List Ex} {ns : List Sta} {gs : List Nat} : Good (kidsA es ns gs) := (good_nodes (sizes es)).2 es (Nat.le_refl _) ns gs

/-- what an expression is, at a moment; and what its node is behind it -/
def Sta.eval (σ : Sto) (x : Mo) : Ex → Sta → Res × Sta
  | .mk k nm n y z eks, .mk ks o s t prev =>
    if kidsN k < 1 then ((leafV σ x k nm n eks t).1, .mk ks o s (leafV σ x k nm n eks t).2 prev)
    else match eks, ks with
      | [e1], [n1] => match (Sta.eval σ x e1 n1).1 with
        | .error c => (.error c, .mk [(Sta.eval σ x e1 n1).2] o s t prev)
        | .ok v => ((singleV x k v o prev).1, .mk [(Sta.eval σ x e1 n1).2] (singleV x k v o prev).2.1 s t (singleV x k v o prev).2.2)
      | [e1, e2], [n1, n2] => match (Sta.eval σ x e1 n1).1 with
        | .error c => (.error c, .mk [(Sta.eval σ x e1 n1).2, n2] o s t prev)
        | .ok v => match (Sta.eval σ x e2 n2).1 with
          | .error c => (.error c, .mk [(Sta.eval σ x e1 n1).2, (Sta.eval σ x e2 n2).2] o s t prev)
          | .ok w => ((pairV x k v w s).1, .mk [(Sta.eval σ x e1 n1).2, (Sta.eval σ x e2 n2).2] o (pairV x k v w s).2 t prev)
      | eks, ks => (.error 0, .mk ks o s t prev)

def winOk (M : Nat) (o : Option Wi) : Prop := ∀ w, o = some w → w.d.length ≤ M
mutual
/-- a node's windows stand where its kind wants them, and are small -/
def Sta.Ok (M : Nat) : Ex → Sta → Prop
  | .mk k nm n y z eks, .mk ks o s t prev => ((k = 22 ∨ k = 23 → ∃ w, o = some w) ∧ (k = 24 → ∃ w, s = some w) ∧ (k = 13 → ∃ w, t = some w)) ∧ (winOk M o ∧ winOk M s ∧ winOk M t) ∧ StasOk M eks ks
def StasOk (M : Nat) : List Ex → List Sta → Prop
  | [], [] => True
  | e :: es, n :: ns => Sta.Ok M e n ∧ StasOk M es ns
  | _, _ => False
end

theorem Sta.Ok.mono {M M' : Nat} (hM : M ≤ M') : ∀ N, (∀ e : Ex, e.size ≤ N → ∀ n, Sta.Ok M e n → Sta.Ok M' e n) ∧ (∀ es : List Ex, sizes es ≤ N → ∀ ns, StasOk M es ns → StasOk M' es ns) := by
  have wm : ∀ {o : Option Wi}, winOk M o → winOk M' o := fun h w hw => Nat.le_trans (h w hw) hM
  intro N
  induction N with
  | zero =>
    refine ⟨fun e he => by have := e.size_pos; omega, fun es he ns h => ?_⟩
    cases es with
    | nil => cases ns <;> simp only [StasOk] at h ⊢
    | cons e es => simp only [sizes] at he; have := e.size_pos; omega
  | succ N ih =>
    have hn : ∀ e : Ex, e.size ≤ N + 1 → ∀ n, Sta.Ok M e n → Sta.Ok M' e n := by
      intro e he n h
      obtain ⟨k, nm, m, y, z, eks⟩ := e
      obtain ⟨ks, o, s, t, prev⟩ := n
      simp only [Ex.size] at he
      simp only [Sta.Ok] at h ⊢
      exact ⟨h.1, ⟨wm h.2.1.1, wm h.2.1.2.1, wm h.2.1.2.2⟩, ih.2 eks (by omega) ks h.2.2⟩
    refine ⟨hn, fun es => ?_⟩
    induction es with
    | nil => intro _ ns h; cases ns <;> simp only [StasOk] at h ⊢
    | cons e es ih2 =>
      intro he ns h
      simp only [sizes] at he
      cases ns <;> simp only [StasOk] at h ⊢
      exact ⟨hn e (by omega) _ h.1, ih2 (by omega) _ h.2⟩

theorem tally_len {w : Wi} {M : Nat} (h : w.d.length ≤ M) (t : Int) (b : Bool) : (w.tally t b).d.length ≤ M + 1 := by
  unfold Wi.tally
  have h1 := pruneD_length w.d (IntKind.wrap .i64 (maxI w.last t - w.hi))
  cases b
  · simp only [Bool.false_eq_true, if_false]; omega
  · simp only [if_true]
    have := pushD_length (pruneD w.d (IntKind.wrap .i64 (maxI w.last t - w.hi))) (maxI w.last t)
    omega
theorem once_len {w : Wi} {M : Nat} (h : w.d.length ≤ M) (t : Int) (b : Bool) : (w.once t b).d.length ≤ M + 1 := by
  unfold Wi.once
  have h1 := w.come_length t
  cases b
  · simp only [Bool.false_eq_true, if_false]; omega
  · simp only [if_true]
    have := (w.come t).put_length
    omega
theorem since_len {w : Wi} {M : Nat} (h : w.d.length ≤ M) (t : Int) (f b : Bool) : (w.since t f b).d.length ≤ M + 1 := by
  unfold Wi.since
  have h1 := w.come_length t
  have h2 : ∀ v : Wi, v.d.length ≤ M → (if b = true then v.put else v).d.length ≤ M + 1 := by
    intro v hv
    split
    · have := v.put_length; omega
    · omega
  cases f
  · exact h2 _ (by simp)
  · exact h2 _ (by simp only [if_true]; omega)

theorem winOk.up {M : Nat} {o : Option Wi} (h : winOk M o) : winOk (M + 1) o := fun w hw => Nat.le_succ_of_le (h w hw)

theorem leafV_ok {σ : Sto} {x : Mo} {k n : Int} {nm : ByteArray} {ks : List Ex} {t : Option Wi} {M : Nat} (h : winOk M t) (h2 : k = 13 → ∃ w, t = some w) : winOk (M + 1) (leafV σ x k nm n ks t).2 ∧ (k = 13 → ∃ w, (leafV σ x k nm n ks t).2 = some w) := by
  unfold leafV
  repeat' split
  all_goals first | exact ⟨h.up, h2⟩ | skip
  · rename_i w
    exact ⟨fun w' hw => by cases hw; exact tally_len (h w rfl) _ _, fun _ => ⟨_, rfl⟩⟩

theorem singleV_ok {x : Mo} {k : Int} {v : Va} {o : Option Wi} {prev : Bool} {M : Nat} (h : winOk M o) (h2 : k = 22 ∨ k = 23 → ∃ w, o = some w) : winOk (M + 1) (singleV x k v o prev).2.1 ∧ (k = 22 ∨ k = 23 → ∃ w, (singleV x k v o prev).2.1 = some w) := by
  unfold singleV
  repeat' split
  all_goals first | exact ⟨h.up, h2⟩ | skip
  · rename_i w
    exact ⟨fun w' hw => by cases hw; exact once_len (h w rfl) _ _, fun _ => ⟨_, rfl⟩⟩
  · rename_i w
    exact ⟨fun w' hw => by cases hw; exact once_len (h w rfl) _ _, fun _ => ⟨_, rfl⟩⟩

theorem pairV_ok {x : Mo} {k : Int} {v v' : Va} {s : Option Wi} {M : Nat} (h : winOk M s) (h2 : k = 24 → ∃ w, s = some w) : winOk (M + 1) (pairV x k v v' s).2 ∧ (k = 24 → ∃ w, (pairV x k v v' s).2 = some w) := by
  unfold pairV
  by_cases c1 : k = 8 ∨ k = 9 ∨ k = 10
  · rw [if_pos c1]; exact ⟨h.up, h2⟩
  rw [if_neg c1]
  by_cases c2 : k = 14
  · rw [if_pos c2]; exact ⟨h.up, h2⟩
  rw [if_neg c2]
  by_cases c3 : k = 15 ∨ k = 16
  · rw [if_pos c3]; exact ⟨h.up, h2⟩
  rw [if_neg c3]
  by_cases c4 : k = 17
  · rw [if_pos c4]; exact ⟨h.up, h2⟩
  rw [if_neg c4]
  cases truthV v with
  | error c => exact ⟨h.up, h2⟩
  | ok p =>
    cases truthV v' with
    | error c => exact ⟨h.up, h2⟩
    | ok q =>
      simp only
      by_cases c5 : k = 19
      · rw [if_pos c5]; exact ⟨h.up, h2⟩
      rw [if_neg c5]
      by_cases c6 : k = 20
      · rw [if_pos c6]; exact ⟨h.up, h2⟩
      rw [if_neg c6]
      cases s with
      | none => exact ⟨h.up, h2⟩
      | some u => exact ⟨fun w' hw => by cases hw; exact since_len (h u rfl) _ _ _, fun _ => ⟨_, rfl⟩⟩
end Go.Proofs.YtmidcnfnmnhifaaGreat

