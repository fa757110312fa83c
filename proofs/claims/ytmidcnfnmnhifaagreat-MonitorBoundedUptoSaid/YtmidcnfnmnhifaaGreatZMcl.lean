/-
  A monitor or none; MonitorClones.
-/
import Derived.Test.YtmidcnfnmnhifaaGreatZMnj
import Derived.Test.YtmidcnfnmnhifaaGreatZReb
namespace Go.Proofs.YtmidcnfnmnhifaaGreat
set_option linter.unusedSectionVars false
set_option linter.unusedSimpArgs false
set_option linter.unusedVariables false
open Go Go.Den
set_option linter.unusedVariables false

/-- a monitor, or none -/
def mq (e : Ex) (q : Option Nat) (st : Option (Sta × Int)) : Asr := match q, st with
  | some g, some s => monA g e s.1 s.2
  | none, none => emp'
  | _, _ => pur False
theorem Good.mq {e : Ex} {q : Option Nat} {st : Option (Sta × Int)} : Den.Good (mq e q st) := by
  unfold Go.Proofs.YtmidcnfnmnhifaaGreat.mq
  split
  · exact Good.mon
  · exact Good.emp
  · exact Good.pur
def newQ (e : Ex) : Option (Sta × Int) := if e.check = 0 then some (Sta.new e, 0) else none
def stepQ (σ : Sto) (x : Mo) (e : Ex) (st : Option (Sta × Int)) : Res × Option (Sta × Int) := match st with
  | none => (.error 9, none)
  | some s => ((Sta.eval σ { x with a := maxI s.2 x.a } e s.1).1, some ((Sta.eval σ { x with a := maxI s.2 x.a } e s.1).2, maxI s.2 x.a))
def okQ (M : Nat) (e : Ex) (st : Option (Sta × Int)) : Prop := ∀ s, st = some s → Sta.Ok M e s.1 ∧ e.may = true
def cellsQ (e : Ex) (st : Option (Sta × Int)) : Int := match st with
  | none => 0
  | some s => Sta.cells e s.1
def codeR : Res → Int
  | .ok _ => 0
  | .error c => c
def valR : Res → Va
  | .ok v => v
  | .error _ => zeroVa

theorem stepQ_ok {σ : Sto} {x : Mo} {e : Ex} {st : Option (Sta × Int)} {M : Nat} (h : okQ M e st) : okQ (M + 1) e (stepQ σ x e st).2 := by
  intro s hs
  cases st with
  | none => cases hs
  | some s0 =>
    simp only [stepQ, Option.some.injEq] at hs
    subst hs
    obtain ⟨h1, h2⟩ := h s0 rfl
    exact ⟨eval_ok e.size e (Nat.le_refl _) _ h2 h1, h2⟩
theorem stepQ_small {σ : Sto} {x : Mo} {e : Ex} {st : Option (Sta × Int)} {M : Nat} (ok : σ.Ok) (h : okQ M e st) : Small (valR (stepQ σ x e st).1) := by
  cases st with
  | none => simp [stepQ, valR, Small, zeroVa]
  | some s0 =>
    obtain ⟨h1, h2⟩ := h s0 rfl
    have := eval_small (x := { x with a := maxI s0.2 x.a }) ok e s0.1 h2
    simp only [stepQ]
    cases hr : (Sta.eval σ { x with a := maxI s0.2 x.a } e s0.1).1 with
    | ok v => exact this v hr
    | error c => simp [valR, Small, zeroVa]
theorem newQ_ok (e : Ex) : okQ 0 e (newQ e) := by
  intro s hs
  unfold newQ at hs
  split at hs
  · rename_i hc
    cases hs
    refine ⟨(sta_new_ok e.size).1 e (Nat.le_refl _), ?_⟩
    unfold Ex.check at hc
    split at hc
    · cases hc
    · split at hc
      · cases hc
      · split at hc
        · cases hc
        · simpa using ‹¬ e.may = false›
  · cases hs

section
variable {a : Base} {R : Asr} {F H : HP} {S : List Nat}

/-- what Step gives back -/
def StepO (F : HP) (r : Res) (v : Value) : Prop := ∃ p c, v = .tuple #[.agg ⟨vaCells (valR r).k (valR r).n (valR r).s p (valR r).l.length c⟩, .int .i64 (codeR r)] ∧ StrsAt F p (valR r).l

theorem StepV.o {F : HP} {r : Res} {e : Ending} (h : StepV F r e) : ∃ v, e = .returned v ∧ StepO F r v := by
  cases r with
  | ok u =>
    obtain ⟨cs, ⟨p, c, rfl, hp⟩, rfl⟩ := h
    exact ⟨_, rfl, p, c, rfl, hp⟩
  | error c => exact ⟨_, h, none, 0, rfl, fun i x h => by simp [valR, zeroVa] at h⟩

theorem stepO {q : Option Nat} {gs : Nat} {e : Ex} {st : Option (Sta × Int)} {σ : Sto} {x : Mo} {M : Nat} {Q : Ending → W} {k : Value → W} (gr : Den.Good R) (h : Wd a ((sepc (mq e q st) (sepc (storeA gs σ) R))) F H S) (ok : σ.Ok) (hx : x.Ok) (hM : M < 800000000) (hsh : e.Short) (hok : okQ M e st)
    (hk : ∀ v F' H' S', StepO F' (stepQ σ x e st).1 v → F.le F' → Wd a ((sepc (mq e q (stepQ σ x e st).2) (sepc (storeA gs σ) R))) F' H' S' → k v H') :
    WCall Tryz.prog Q 27 #[.pointer (ptr q), .pointer (some ⟨gs, 0, none⟩), moV x] k H := by
  cases q with
  | none => cases st with
    | none =>
      refine WCall.pure (nobody27 (q := none) is89n fun _ _ => is89n) (hk _ F H S ⟨none, 0, rfl, fun i x h => by simp [valR, zeroVa, stepQ] at h⟩ (HP.le.refl F) h)
    | some s => obtain ⟨_, _, _, _, _, h, _⟩ := h.it; exact h.elim
  | some g => cases st with
    | none => obtain ⟨_, _, _, _, _, h, _⟩ := h.it; exact h.elim
    | some s =>
      obtain ⟨h1, h2⟩ := hok s rfl
      refine WCall.of (step27 (g := g) gr h ok hx hM h2 hsh h1) ?_ ?_
      · rintro v H' ⟨F', S', hr, hle, hw⟩
        obtain ⟨v', hv, ho⟩ := hr.o
        cases hv
        exact hk v F' H' S' ho hle hw
      · rintro e' H' ⟨F', S', hr, hle, hw⟩ hne
        obtain ⟨v', hv, ho⟩ := hr.o
        exact absurd hv (hne _)

theorem cellsO {q : Option Nat} {e : Ex} {st : Option (Sta × Int)} (hFH : F.le H) (h : ((sepc (mq e q st) R)) F H S) (hN : e.size < 1000000000000) : Pure Tryz.prog 29 #[.pointer (ptr q)] H (.int .i64 (cellsQ e st)) := by
  cases q with
  | none => cases st with
    | none => exact cells29n is89n
    | some s => obtain ⟨_, _, _, _, _, h, _⟩ := h; exact h.elim
  | some g => cases st with
    | none => obtain ⟨_, _, _, _, _, h, _⟩ := h; exact h.elim
    | some s => exact cells29 (g := g) hFH h hN

theorem newO {e : Ex} {cs : List Value} {Q : Ending → W} {k : Value → W} (gr : Den.Good R) (h : Wd a R F H S) (hat : e.At F cs) (hN : e.size < 1000000000000) (hsh : e.Short)
    (hk : ∀ q F' H' S', F.le F' → Wd a ((sepc (mq e q (newQ e)) R)) F' H' S' → k (.pointer (ptr q)) H') : WCall Tryz.prog Q 22 #[.agg ⟨cs⟩] k H := by
  by_cases hc : e.check = 0
  · refine WCall.of (new22 gr h hat hN hsh hc) ?_ (by rintro e H' ⟨g, F', S', hv, _⟩ hne; exact absurd hv (hne _))
    rintro v H' ⟨g, F', S', hv, hle, hw⟩
    cases hv
    refine hk (some g) F' H' S' hle ?_
    unfold newQ
    rw [if_pos hc]
    exact hw
  · refine WCall.pure (new22no (hat.mono h.wd.le) hN hsh hc) (hk none F H S (HP.le.refl F) ?_)
    unfold newQ
    rw [if_neg hc]
    exact h.imp emp_star

theorem cloneO {q : Option Nat} {e : Ex} {st : Option (Sta × Int)} {M : Nat} {Q : Ending → W} {k : Value → W} (hM : M < 1000000000) (gr : Den.Good R) (h : Wd a ((sepc (mq e q st) R)) F H S) (hN : e.size < 1000000000000) (hok : okQ M e st)
    (hk : ∀ q' F' H' S', F.le F' → Wd a ((sepc (mq e q' st) (sepc (mq e q st) R))) F' H' S' → k (.pointer (ptr q')) H') : WCall Tryz.prog Q 36 #[.pointer (ptr q)] k H := by
  cases q with
  | none => cases st with
    | none => exact WCall.pure (clone36n is89n) (hk none F H S (HP.le.refl F) (h.imp emp_star))
    | some s => obtain ⟨_, _, _, _, _, h, _⟩ := h.it; exact h.elim
  | some g => cases st with
    | none => obtain ⟨_, _, _, _, _, h, _⟩ := h.it; exact h.elim
    | some s =>
      refine WCall.of (clone36 hM (g := g) gr h hN (hok s rfl).1) ?_ (by rintro e H' ⟨g, F', S', hv, _⟩ hne; exact absurd hv (hne _))
      rintro v H' ⟨z, F', S', hv, hle, hw⟩
      cases hv
      exact hk (some z) F' H' S' hle hw

theorem few26 {p : Option Addr} {n c k : Nat} (h : n ≤ c) : Pure Tryz.prog 26 #[.slice p n c, .int .i64 (k : Int)] H (.slice p (min n k) c) := by
  refine Pure.of (spec26 ?_)
  by_cases hk : n > k
  · refine WIf.t (by simp; omega) ⟨⟨Int.le_refl _, by omega, by omega⟩, ?_, HP.le.refl H⟩
    have h1 : c ≠ 0 := by omega
    have h2 : Option.map (fun x => Addr.add x 0) p = p := by cases p <;> simp [Addr.add]
    have h3 : min n k = k := by omega
    rw [if_neg h1, h2, h3]
    simp
  · refine WIf.f (by simp; omega) ⟨?_, HP.le.refl H⟩
    have h3 : min n k = n := by omega
    rw [h3]

theorem texts94' {p p' : Option Addr} {l : List ByteArray} {c d : Nat} (h1 : StrsAt H p l) (h2 : StrsAt H p' l) (hl : l.length ≤ 8) : Pure Tryz.prog 94 #[.slice p l.length c, .slice p' l.length d] H (.bool true) := by
  refine Pure.of (spec94 (WIf.f (by simp) ?_))
  refine WLoop.up l.length 0 (fun _ => True) trivial (Nat.zero_le _) ?_
  intro i again _ hi _ hag
  by_cases hlt : i < l.length
  · obtain ⟨x, hx, hh⟩ := h1 i l[i] (by simp [hlt])
    obtain ⟨x', hx', hh'⟩ := h2 i l[i] (by simp [hlt])
    refine WIf.t (by simp; omega) (WIndex.at' hx hlt (WLoad.s1 (by simpa using hh) (WIndex.at' hx' hlt (WLoad.s1 (by simpa using hh') (WIf.f (by simp) ?_)))))
    simp only [wrapS (show i < 1000000000000 by omega)]
    exact hag hlt trivial
  · exact WIf.f (by simp; omega) ⟨rfl, HP.le.refl H⟩
theorem value34 {k n : Int} {s : ByteArray} {p p' : Option Addr} {l : List ByteArray} {c c' : Nat} (h1 : StrsAt H p l) (h2 : StrsAt H p' l) (hl : l.length ≤ 8) : Pure Tryz.prog 34 #[.agg ⟨vaCells k n s p l.length c⟩, .agg ⟨vaCells k n s p' l.length c'⟩] H (.bool true) :=
  Pure.of (spec34 (WIf.t (by simp) (WIf.t (by simp) (WIf.t (by simp) (WCall.pure (texts94' h1 h2 hl) (WOpen.b ⟨rfl, HP.le.refl H⟩))))))

def St.mo (x : St) : Mo := ⟨x.a, x.act, x.subj, x.obj⟩
theorem St.mo_ok {x : St} (h : x.Fits) : x.mo.Ok := ⟨h.2.1, h.2.2.1⟩
theorem moment28 {n : Int} {s1 s2 s3 s4 s5 s6 : ByteArray} {n6 n7 : Int} {p : Option Addr} {l c : Nat} :
    Pure Tryz.prog 28 #[.agg #[(.int .i64 n), (.string s1), (.string s2), (.string s3), (.string s4), (.string s5), (.int .i64 n6), (.int .i64 n7), (.string s6), (.slice p l c)]] H (moV ⟨n, s1, s2, s3⟩) := Pure.of (spec28 ⟨rfl, HP.le.refl _⟩)

/-- a step is read, and turned to a moment -/
theorem readMo {Q : Ending → W} {K : Int → ByteArray → ByteArray → ByteArray → W} {p : Option Addr} {n i : Nat} {l : List St} (hs : StepsAt F p l) (hle : F.le H) (hi : i < l.length) (hn : i < n) (hK : K l[i].a l[i].act l[i].subj l[i].obj H) :
    (WIndex p n (i : Int) fun q9 => WLoad (Addr.add q9 ((Int.toNat (i : Int)) * 10)) (.agg [(.i .i64), .s, .s, .s, .s, .s, (.i .i64), (.i .i64), .s, .sl]) fun (x10 : Int) (x10_1 : ByteArray) (x10_2 : ByteArray) (x10_3 : ByteArray) (x10_4 : ByteArray) (x10_5 : ByteArray) (x10_6 : Int) (x10_7 : Int) (x10_8 : ByteArray) (x10_9 : Option Go.Addr) (x10_10 : Nat) (x10_11 : Nat) =>
      WCall Tryz.prog Q 28 #[(.agg #[(.int .i64 x10), (.string x10_1), (.string x10_2), (.string x10_3), (.string x10_4), (.string x10_5), (.int .i64 x10_6), (.int .i64 x10_7), (.string x10_8), (.slice x10_9 x10_10 x10_11)])] (WOpen (.one (.agg [(.i .i64), .s, .s, .s])) fun (x11 : Int) (x11_1 : ByteArray) (x11_2 : ByteArray) (x11_3 : ByteArray) => K x11 x11_1 x11_2 x11_3)) H := by
  obtain ⟨ad, cs, hp, hh, ⟨vs, ⟨pv, cv, rfl, _⟩, rfl⟩⟩ := hs i l[i] (by simp [hi])
  refine WIndex.at' hp hn ?_
  refine ⟨(l[i].a, l[i].act, l[i].subj, l[i].obj, l[i].ent, l[i].name, l[i].v.k, l[i].v.n, l[i].v.s, (pv, l[i].v.l.length, cv), ()), hle.has hh, ?_⟩
  exact WCall.pure moment28 (WOpen.mo hK)
theorem StepsAt.mono {F F' : HP} (h : F.le F') {p : Option Addr} {l : List St} (hs : StepsAt F p l) : StepsAt F' p l :=
  fun i x hi => let ⟨a, cs, h1, h2, ⟨vs, h3, h4⟩⟩ := hs i x hi; ⟨a, cs, h1, h.has h2, ⟨vs, h3.mono h, h4⟩⟩
end
end Go.Proofs.YtmidcnfnmnhifaaGreat
