/-
  The readable weakest precondition (Den) is sound: a function that defers one closure, which recovers.
-/
import Derived.Test.YtmidcnfnmnhifaaGreatZSnb
import Derived.Recover
namespace Go.Den
set_option linter.unusedSectionVars false
set_option linter.unusedSimpArgs false
set_option linter.unusedVariables false
open Go
set_option linter.unusedVariables false
set_option linter.unusedSimpArgs false
section
variable {P : Program} {tb : List Row} {H : HP} {Q : Ending → W} {hs : Hints}

def stopped (n : Int) : PanicEntry := ⟨.iface 149 (.agg #[.int .i64 n]), false, false⟩
def voidC : List Value := [.int .i64 0, .int .i64 0, .string (ByteArray.mk #[]), .slice none 0 0]

theorem adr2_inv {p q : SV} {K : Addr → Addr → W} (h : adr2 p q K H) : ∃ a b, p = .adr a ∧ q = .adr b ∧ K a b H := by
  unfold adr2 at h
  cases p <;> cases q <;> first | exact h.elim | exact ⟨_, _, rfl, rfl, h⟩

/-- what is asked of the closure -/
structure CloOk (P : Program) (g : FuncId) : Prop where
  ret : ∀ (a b : Addr) (H : HP) (w : World), H.on w → CallsD P g #[.pointer (some a), .pointer (some b)] .returning w fun e u' w' => (∃ v, e = .returned v) ∧ u' = .returning ∧ Up H H w w'
  pan : ∀ (a b : Addr) (n : Int) (K : W) (H : HP) (w : World), H.on w → WStore a voidC (WStore b [.int .i64 n] K) H →
    CallsD P g #[.pointer (some a), .pointer (some b)] (.panicking [stopped n]) w fun e u' w' => (∃ v, e = .returned v) ∧ settle u' = .returning ∧ ∃ H', Up H H' w w' ∧ K H'

/-- what is asked of the cells of results -/
def CellsOk (P : Program) (t1 t2 : TypeId) : Prop :=
  (∀ (w : World) (a : Addr) (k n : Int) (s : ByteArray) (x : Option Addr) (l c : Nat), (∀ i v, [Value.int .i64 k, .int .i64 n, .string s, .slice x l c][i]? = some v → w.cell? (a.add i) = some v) →
    (loadVar t1 a).run P w = .ok (.agg #[.int .i64 k, .int .i64 n, .string s, .slice x l c]) w) ∧
  (∀ (w : World) (b : Addr) (e : Int), w.cell? b = some (.int .i64 e) → (loadVar t2 b).run P w = .ok (.int .i64 e) w)

theorem has_on {H : HP} {w : World} (on : H.on w) {a : Addr} {vs : List Value} (h : H.has a vs) : ∀ i v, vs[i]? = some v → w.cell? (a.add i) = some v := fun i v hi => on.cell (h i v hi)

theorem ret_run {fn : Func} {r1 r2 : Nat} {t1 t2 : TypeId} (hc : CellsOk P t1 t2) (hr : fn.results = #[.cell r1 t1, .cell r2 t2]) {tmps : Array Value} {a b : Addr} (h1 : tmps.getD r1 undef = .pointer (some a)) (h2 : tmps.getD r2 undef = .pointer (some b))
    {w : World} (on : H.on w) (h : WRet Q a b H) : ∃ v, (results fn tmps).run P w = .ok v w ∧ Q (.returned v) H := by
  obtain ⟨⟨k, n, s, ⟨x, l, c⟩, _⟩, hx, ⟨e, he, hq⟩⟩ := h
  have l1 := hc.1 w a k n s x l c (has_on on hx)
  have l2 := hc.2 w b e (by have := has_on on he 0 (.int .i64 e) rfl; simpa [Addr.add] using this)
  refine ⟨_, ?_, hq⟩
  unfold results
  simp only [hr, List.mapM_toArray, List.mapM_cons, List.mapM_nil, h1, h2, asAddr, pure_bind]
  simp [l1, l2, Result.andThen]

/-- A FUNCTION THAT DEFERS. -/
theorem funD_sound (hm : P.follows .mixedOrders = true) (hb : TabOk P tb) {f g : FuncId} {fn : Func} {A B C : Code} {id r1 r2 d : Nat} {o1 o2 : Oper} {t1 t2 : TypeId} {ok : List Nat} (hf : P.funcs[f]? = some fn)
    (hbody : fn.body = some (A.seq (B.seq ((Code.region id #[o1, o2] false).seq C)))) (hn : (fn.name == "runtime.NumGoroutine") = false)
    (ho1 : o1.op = .makeFunc (.func g) #[] #[.tmp r1, .tmp r2]) (hd1 : o1.dst = some d) (hg1 : o1.guard = none) (ho2 : o2.op = .defer { callee := .value (.tmp d), args := #[], argTypes := #[] }) (hd2 : o2.dst = none) (hg2 : o2.guard = none)
    (hr : fn.results = #[.cell r1 t1, .cell r2 t2]) (hc : CellsOk P t1 t2) (hclo : CloOk P g) (hge : ∃ gf, P.funcs[g]? = some gf ∧ gf.body.isSome = true ∧ gf.name ≠ "runtime.NumGoroutine") (hd : d < fn.ntmps) (hr1 : r1 ≠ d) (hr2 : r2 ≠ d) (hok1 : mem r1 ok = false) (hok2 : mem r2 ok = false)
    {args : List SV} {vs : List Value} (ha : allV args = some vs) (h : funD P tb Q hs fn g r1 r2 d ok args H) : Spec P f ⟨vs⟩ H Q := by
  intro w on
  refine .inl ⟨?_, ?_⟩
  · unfold callFunc
    have hn' : fn.name ≠ "runtime.NumGoroutine" := by simpa using hn
    simp [hf, hn', hbody]
  · refine calls_of_wp_defers hf hbody ?_
    unfold funD at h
    rw [hbody] at h
    have inv : @Inv ⟨[]⟩ w H (startD args fn.ntmps) { tmps := ⟨vs⟩ ++ Array.replicate (fn.ntmps - (⟨vs⟩ : Array Value).size) undef, defers := [] } w H (fun x => x) := by
      letI : DF := ⟨[]⟩
      refine ⟨?_, fun i => (start_rel args vs fn.ntmps ha i).1, rfl, Up.refl on, fun d cs hd => (by cases hd), fun x y hx => absurd rfl hx⟩
      have := (start_rel (β := fun x => x) args vs fn.ntmps ha 0).2
      simp [startD, this]
    apply wp_seq
    refine wp_mono (@codeW_sound ⟨[]⟩ P tb w H Q hs hm hb A 0 _ _ _ _ _ _ inv h) fun e a w1 hp => ?_
    cases e with
    | panic c => exact (by
        obtain ⟨p1, p2, p3⟩ := hp
        show Leaves P fn a.tmps _ a.defers (.panicking c) w1
        rw [p1]
        exact p3)
    | outgrown => exact hp
    | normal =>
      obtain ⟨st1, β1, H1, inv1, agr1, hk1⟩ := hp
      simp only at hk1
      apply wp_seq
      refine wp_mono (@codeW_sound ⟨[]⟩ P tb w H Q hs hm hb B 0 _ _ _ _ _ _ inv1 hk1) fun e a2 w2 hp2 => ?_
      cases e with
      | panic c => exact (by
          obtain ⟨p1, p2, p3⟩ := hp2
          show Leaves P fn a2.tmps _ a2.defers (.panicking c) w2
          rw [p1]
          exact p3)
      | outgrown => exact hp2
      | ret =>
        obtain ⟨st2, β2, H2, inv2, agr2, hk2⟩ := hp2
        simp only [getL_eq] at hk2
        obtain ⟨x, y, ex, ey, hk2⟩ := adr2_inv hk2
        have hx := inv2.tm r1
        have hy := inv2.tm r2
        rw [ex] at hx
        rw [ey] at hy
        obtain ⟨v, hv, hq⟩ := ret_run (tmps := a2.tmps) hc hr hx hy inv2.up.on hk2
        show Leaves P fn a2.tmps _ a2.defers .returning w2
        rw [inv2.defers]
        exact ⟨v, hv, H2, inv2.up, hq⟩
      | normal =>
        obtain ⟨st2, β2, H2, inv2, agr2, hk2⟩ := hp2
        simp only [getL_eq] at hk2
        obtain ⟨x, y, ex, ey, hk2⟩ := adr2_inv hk2
        have hx := inv2.tm r1
        have hy := inv2.tm r2
        rw [ex] at hx
        rw [ey] at hy
        simp only [RelV] at hx hy
        rw [setK_eq] at hk2
        have hlt : d < a2.tmps.size := by
          have e1 := agr2.size
          have e2 := agr1.size
          rw [e1, e2]
          have := (start_rel (β := fun x => x) args vs fn.ntmps ha 0).2
          simp
          omega
        have hdef : a2.defers = [] := inv2.defers
        let fv : Value := .func (.func g) #[] #[.pointer (some x), .pointer (some y)]
        let dd : Deferred := { target := .fn (.func g) #[.pointer (some x), .pointer (some y)], args := #[] }
        let a3 : Act := { tmps := a2.tmps.setIfInBounds d fv, defers := [dd] }
        apply wp_seq
        have hreg : (Code.region id #[o1, o2] false).wp P (fun e a' w' => e = .normal ∧ a' = a3 ∧ w' = w2) a2 w2 := by
          apply wp_region
          have e0 : (List.range (#[o1, o2] : Array Oper).size) = [0, 1] := rfl
          rw [e0]
          have ey : ∀ o : Oper, o.guard = none → ∀ y, Region.wanted o y = true := fun o ho y => by unfold Region.wanted; rw [ho]
          have r1' : a2.eval (.tmp r1) = .pointer (some x) := hx
          have r2' : a2.eval (.tmp r2) = .pointer (some y) := hy
          have x1 : (execOp a2.eval o1).run P w2 = .ok (.value fv) w2 := by
            unfold execOp
            rw [ho1]
            simp [Instr.makeFunc, r1', r2', fv, Result.andThen]
          have x2 : ∀ a' : Act, a'.eval (.tmp d) = fv → (execOp a'.eval o2).run P w2 = .ok (.defer dd) w2 := by
            intro a' he
            unfold execOp
            rw [ho2]
            simp [resolve, he, fv, dd, Deferred.ofValue, Result.andThen]
          simp only [wpOps, List.getElem?_toArray, List.getElem?_cons_zero, List.getElem?_cons_succ, ey o1 hg1, ey o2 hg2, if_true]
          left
          unfold Oper.wp
          rw [x1]
          simp only [Oper.upon, hd1, Act.put]
          left
          rw [x2 _ (by simp [Act.eval, hlt])]
          simp only [hd2]
          refine ⟨trivial, ?_, trivial⟩
          simp [a3, hdef]
        refine wp_mono hreg fun e a' w' ⟨he, ha', hw'⟩ => ?_
        rw [he, ha', hw']
        show C.wp P (bodyPostD P fn _) a3 w2
        have q1 := inv2.size
        have q2 := inv2.tm
        have q3 := inv2.up
        have q4 := inv2.own
        have q5 := inv2.inj
        letI : DF := ⟨[dd]⟩
        have hl : d < st2.tm.length := by rw [← q1]; exact hlt
        have c1 : a3.tmps.size = (st2.tm.set d (.v fv)).length := by
          show (a2.tmps.setIfInBounds d fv).size = _
          rw [Array.size_setIfInBounds, List.length_set]
          exact q1
        have c2 : ∀ i, RelV β2 ((st2.tm.set d (.v fv)).getD i .junk) (a3.tmps.getD i undef) := by
          intro i
          by_cases hi : d = i
          · subst hi
            have e1 : (st2.tm.set d (.v fv)).getD d .junk = .v fv := by simp [List.getD, hl]
            have e2 : a3.tmps.getD d undef = fv := by simp [a3, hlt]
            rw [e1, e2]
            rfl
          · have e2 : a3.tmps.getD i undef = a2.tmps.getD i undef := by simp [a3, Array.getElem?_setIfInBounds, hi]
            rw [set_other hi, e2]
            exact q2 i
        have inv3 : Inv w H { st2 with tm := st2.tm.set d (.v fv), fr := some ok } a3 w2 H2 β2 := ⟨c1, c2, rfl, q3, q4, q5⟩
        refine wp_mono (@codeW_sound ⟨[dd]⟩ P tb w H (WRec Q x y) hs hm hb C 0 _ _ _ _ _ _ inv3 hk2) fun e a4 w4 hp4 => ?_
        have h31 : a3.tmps.getD r1 undef = .pointer (some x) := by simpa [a3, Array.getElem?_setIfInBounds, Ne.symm hr1] using hx
        have h32 : a3.tmps.getD r2 undef = .pointer (some y) := by simpa [a3, Array.getElem?_setIfInBounds, Ne.symm hr2] using hy
        have hinv : ∀ w, (invoke (.fn (.func g) #[.pointer (some x), .pointer (some y)]) #[]).run P w = .ok (.enter g #[.pointer (some x), .pointer (some y)]) w := by
          obtain ⟨gf, g1, g2, g3⟩ := hge
          obtain ⟨c, hc'⟩ := Option.isSome_iff_exists.1 g2
          intro w
          unfold invoke callFunc
          simp [g1, hc', g3]
        have fin : ∀ {H4 : HP}, a4.defers = [dd] → a4.tmps.getD r1 undef = .pointer (some x) → a4.tmps.getD r2 undef = .pointer (some y) → Up H H4 w w4 → WRet Q x y H4 → Leaves P fn a4.tmps (fun e w' => ∃ H', Up H H' w w' ∧ Q e H') a4.defers .returning w4 := by
          intro H4 hd4 hx4 hy4 hu hq
          rw [hd4]
          refine leaves_cons (f := g) (args := #[.pointer (some x), .pointer (some y)]) (by simp) ?_ ((hclo.ret x y H4 w4 hu.on).mono ?_)
          · exact hinv _
          · rintro e u' w5 ⟨⟨v, rfl⟩, rfl, hu5⟩
            obtain ⟨v', hv', hq'⟩ := ret_run (tmps := a4.tmps) hc hr hx4 hy4 hu5.on hq
            exact ⟨v', hv', H4, hu.trans hu5, hq'⟩
        cases e with
        | panic c =>
          obtain ⟨p1, p2, H4, hu, hq⟩ := hp4
          rcases hq with ⟨n, hn, hq⟩ | ⟨hn, _⟩
          · cases hn
            show Leaves P fn a4.tmps _ a4.defers (.panicking _) w4
            have p1 : a4.defers = [dd] := p1
            rw [p1]
            have hx4 : a4.tmps.getD r1 undef = .pointer (some x) := (p2 r1 hok1).trans h31
            have hy4 : a4.tmps.getD r2 undef = .pointer (some y) := (p2 r2 hok2).trans h32
            refine leaves_cons (f := g) (args := #[.pointer (some x), .pointer (some y)]) (by simp) ?_ ((hclo.pan x y n _ H4 w4 hu.on hq).mono ?_)
            · exact hinv _
            · rintro e u' w5 ⟨⟨v, rfl⟩, hset, H5, hu5, hq5⟩
              obtain ⟨v', hv', hq'⟩ := ret_run (tmps := a4.tmps) hc hr hx4 hy4 hu5.on hq5
              show Leaves P fn a4.tmps _ [] (settle u') w5
              rw [hset]
              exact ⟨v', hv', H5, hu.trans hu5, hq'⟩
          · cases hn
        | outgrown =>
          obtain ⟨H4, hu, hq⟩ := hp4
          rcases hq with ⟨n, hn, _⟩ | ⟨_, hq⟩
          · cases hn
          · exact ⟨H4, hu, hq⟩
        | ret =>
          obtain ⟨st4, β4, H4, inv4, agr4, hk4⟩ := hp4
          exact fin inv4.defers ((agr4.tmps r1 hok1).trans h31) ((agr4.tmps r2 hok2).trans h32) inv4.up hk4
        | normal =>
          obtain ⟨st4, β4, H4, inv4, agr4, hk4⟩ := hp4
          exact fin inv4.defers ((agr4.tmps r1 hok1).trans h31) ((agr4.tmps r2 hok2).trans h32) inv4.up hk4
        | exit id =>
          obtain ⟨st4, β4, H4, inv4, agr4, hk4⟩ := hp4
          exact hk4.elim
        | goto l =>
          obtain ⟨st4, β4, H4, inv4, agr4, hk4⟩ := hp4
          exact hk4.elim
      | exit id => 
        obtain ⟨st2, β2, H2, inv2, agr2, hk2⟩ := hp2
        obtain ⟨x, y, ex, ey, hk2⟩ := adr2_inv hk2
        exact hk2.elim
      | goto l => 
        obtain ⟨st2, β2, H2, inv2, agr2, hk2⟩ := hp2
        obtain ⟨x, y, ex, ey, hk2⟩ := adr2_inv hk2
        exact hk2.elim
    | ret =>
      obtain ⟨st1, β1, H1, inv1, agr1, hk1⟩ := hp
      exact hk1.elim
    | exit id =>
      obtain ⟨st1, β1, H1, inv1, agr1, hk1⟩ := hp
      exact hk1.elim
    | goto l =>
      obtain ⟨st1, β1, H1, inv1, agr1, hk1⟩ := hp
      exact hk1.elim
end
end Go.Den
