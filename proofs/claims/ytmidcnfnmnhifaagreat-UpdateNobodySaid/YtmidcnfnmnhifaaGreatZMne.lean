/-
  Package monitor: eval.
-/
import Derived.Test.YtmidcnfnmnhifaaGreatZMnd
namespace Go.Proofs.YtmidcnfnmnhifaaGreat
set_option linter.unusedSectionVars false
set_option linter.unusedSimpArgs false
set_option linter.unusedVariables false
open Go Go.Den
set_option linter.unusedVariables false

theorem eval_mk {σ : Sto} {x : Mo} {k n y z : Int} {nm : ByteArray} {eks : List Ex} {ks : List Sta} {o s t : Option Wi} {prev : Bool} :
    Sta.eval σ x (.mk k nm n y z eks) (.mk ks o s t prev) = if kidsN k < 1 then ((leafV σ x k nm n eks t).1, .mk ks o s (leafV σ x k nm n eks t).2 prev)
    else match eks, ks with
      | [e1], [n1] => match (Sta.eval σ x e1 n1).1 with
        | .error c => (.error c, .mk [(Sta.eval σ x e1 n1).2] o s t prev)
        | .ok v => ((singleV x k v o prev).1, .mk [(Sta.eval σ x e1 n1).2] (singleV x k v o prev).2.1 s t (singleV x k v o prev).2.2)
      | [e1, e2], [n1, n2] => match (Sta.eval σ x e1 n1).1 with
        | .error c => (.error c, .mk [(Sta.eval σ x e1 n1).2, n2] o s t prev)
        | .ok v => match (Sta.eval σ x e2 n2).1 with
          | .error c => (.error c, .mk [(Sta.eval σ x e1 n1).2, (Sta.eval σ x e2 n2).2] o s t prev)
          | .ok w => ((pairV x k v w s).1, .mk [(Sta.eval σ x e1 n1).2, (Sta.eval σ x e2 n2).2] o (pairV x k v w s).2 t prev)
      | eks, ks => (.error 0, .mk ks o s t prev) := by
  rw [Sta.eval.eq_def]
  rfl

theorem kidsN_le (k : Int) : kidsN k ≤ 2 := by
  unfold kidsN
  repeat' split
  all_goals omega

theorem may_kids {k n y z : Int} {nm : ByteArray} {eks : List Ex} (h : (Ex.mk k nm n y z eks).may = true) (hk : ¬ kidsN k < 1) : k ≠ 4 ∧ kidsN k = eks.length ∧ ∀ e ∈ eks, e.may = true := by
  have h4 : k ≠ 4 := by
    intro h4
    subst h4
    exact hk (by decide)
  simp only [Ex.may, if_neg h4, Bool.and_eq_true] at h
  refine ⟨h4, by simpa using h.1, fun e he => ?_⟩
  have := h.2.2
  rw [mays_all] at this
  simp only [Bool.not_eq_true', List.any_eq_false] at this
  simpa using this e he

theorem stas_length : ∀ {es : List Ex} {ns : List Sta} {M : Nat}, StasOk M es ns → ns.length = es.length
  | [], [], _, _ => rfl
  | e :: es, n :: ns, M, h => by simp only [StasOk] at h; simp [stas_length h.2]
  | [], n :: ns, M, h => by simp only [StasOk] at h
  | e :: es, [], M, h => by simp only [StasOk] at h

/-- a node stays as its kind wants it; at most one time more is remembered -/
theorem eval_ok {σ : Sto} {x : Mo} {M : Nat} : ∀ N (e : Ex), e.size ≤ N → ∀ n, e.may = true → Sta.Ok M e n → Sta.Ok (M + 1) e (Sta.eval σ x e n).2 := by
  intro N
  induction N with
  | zero => intro e he; have := e.size_pos; omega
  | succ N ih =>
    intro e he n hm hok
    obtain ⟨k, nm, m, y, z, eks⟩ := e
    obtain ⟨ks, o, s, t, prev⟩ := n
    have up : ∀ {e : Ex} {n : Sta}, Sta.Ok M e n → Sta.Ok (M + 1) e n := fun h => (Sta.Ok.mono (Nat.le_succ M) _).1 _ (Nat.le_refl _) _ h
    have ups : ∀ {es : List Ex} {ns : List Sta}, StasOk M es ns → StasOk (M + 1) es ns := fun h => (Sta.Ok.mono (Nat.le_succ M) _).2 _ (Nat.le_refl _) _ h
    simp only [Ex.size] at he
    simp only [Sta.Ok] at hok
    obtain ⟨⟨c1, c2, c3⟩, ⟨w1, w2, w3⟩, hks⟩ := hok
    rw [eval_mk]
    by_cases hk : kidsN k < 1
    · rw [if_pos hk]
      simp only [Sta.Ok]
      obtain ⟨l1, l2⟩ := leafV_ok (σ := σ) (x := x) (n := m) (nm := nm) (ks := eks) w3 c3
      exact ⟨⟨c1, c2, l2⟩, ⟨w1.up, w2.up, l1⟩, ups hks⟩
    · rw [if_neg hk]
      obtain ⟨h4, hlen, hmay⟩ := may_kids hm hk
      have hle := kidsN_le k
      match eks, ks, hks, hlen with
      | [e1], [n1], hks, _ =>
        simp only [StasOk] at hks
        have he1 : e1.size ≤ N := by simp only [sizes] at he; omega
        have h1 := ih e1 he1 n1 (hmay e1 (by simp)) hks.1
        simp only
        cases hr : (Sta.eval σ x e1 n1).1 with
        | error c =>
          simp only [Sta.Ok, StasOk]
          exact ⟨⟨c1, c2, c3⟩, ⟨w1.up, w2.up, w3.up⟩, h1, trivial⟩
        | ok v =>
          simp only [Sta.Ok, StasOk]
          obtain ⟨l1, l2⟩ := singleV_ok (x := x) (v := v) (prev := prev) w1 c1
          exact ⟨⟨l2, c2, c3⟩, ⟨l1, w2.up, w3.up⟩, h1, trivial⟩
      | [e1, e2], [n1, n2], hks, _ =>
        simp only [StasOk] at hks
        have he1 : e1.size ≤ N := by simp only [sizes] at he; omega
        have he2 : e2.size ≤ N := by simp only [sizes] at he; omega
        have h1 := ih e1 he1 n1 (hmay e1 (by simp)) hks.1
        have h2 := ih e2 he2 n2 (hmay e2 (by simp)) hks.2.1
        simp only
        cases hr : (Sta.eval σ x e1 n1).1 with
        | error c =>
          simp only [Sta.Ok, StasOk]
          exact ⟨⟨c1, c2, c3⟩, ⟨w1.up, w2.up, w3.up⟩, h1, up hks.2.1, trivial⟩
        | ok v =>
          simp only
          cases hr2 : (Sta.eval σ x e2 n2).1 with
          | error c =>
            simp only [Sta.Ok, StasOk]
            exact ⟨⟨c1, c2, c3⟩, ⟨w1.up, w2.up, w3.up⟩, h1, h2, trivial⟩
          | ok w =>
            simp only [Sta.Ok, StasOk]
            obtain ⟨l1, l2⟩ := pairV_ok (x := x) (v := v) (v' := w) w2 c2
            exact ⟨⟨c1, l2, c3⟩, ⟨w1.up, l1, w3.up⟩, h1, h2, trivial⟩
      | [], ks, _, hl => exact absurd hl (by simp; omega)
      | [e1], [], hks, _ => simp only [StasOk, and_false] at hks
      | [e1], n1 :: n2 :: ns, hks, _ => simp only [StasOk, and_false] at hks
      | [e1, e2], [], hks, _ => simp only [StasOk, and_false] at hks
      | [e1, e2], [n1], hks, _ => simp only [StasOk, and_false] at hks
      | [e1, e2], n1 :: n2 :: n3 :: ns, hks, _ => simp only [StasOk, and_false] at hks
      | e1 :: e2 :: e3 :: es, ks, _, hl => exact absurd hl (by simp only [List.length_cons]; omega)

/-- values that come out are small -/
def Small (v : Va) : Prop := v.l.length ≤ 8
theorem get_small {σ : Sto} (ok : σ.Ok) {e n : ByteArray} {v : Va} (h : σ.get e n = some v) : Small v := by
  unfold Sto.get at h
  split at h
  · cases h
  · simp only [Option.some.injEq] at h
    subst h
    cases hl : lk σ.cs (e, n) with
    | none =>
      simp only [Option.getD_none]
      unfold Va.zero Small
      split <;> simp
    | some u =>
      simp only [Option.getD_some]
      have : ∀ {l : List ((ByteArray × ByteArray) × Va)} {k : ByteArray × ByteArray} {u : Va}, lk l k = some u → ∃ x ∈ l, x.2 = u := by
        intro l
        induction l with
        | nil => intro k u h; simp [lk] at h
        | cons x l ih =>
          intro k u h
          simp only [lk] at h
          split at h
          · cases h; exact ⟨x, by simp, rfl⟩
          · obtain ⟨y, hy, e⟩ := ih h; exact ⟨y, by simp [hy], e⟩
      obtain ⟨y, hy, rfl⟩ := this hl
      exact (ok.c1 y hy).2.2

def smallR (r : Res) : Prop := ∀ v, r = .ok v → Small v
theorem leaf_small {σ : Sto} {x : Mo} {k n : Int} {nm : ByteArray} {ks : List Ex} {t : Option Wi} (ok : σ.Ok) (hk : k = 4 → ks.length ≤ 8) : smallR (leafV σ x k nm n ks t).1 := by
  intro v hv
  unfold leafV at hv
  by_cases k2 : k = 2
  · rw [if_pos k2] at hv; cases hv; simp [Small, Va.bool]
  rw [if_neg k2] at hv
  by_cases k3 : k = 3
  · rw [if_pos k3] at hv; cases hv; simp [Small, Va.text]
  rw [if_neg k3] at hv
  by_cases k4 : k = 4
  · rw [if_pos k4] at hv; cases hv; simpa [Small, setVa, names] using hk k4
  rw [if_neg k4] at hv
  by_cases k5 : k = 5 ∨ k = 6
  · rw [if_pos k5] at hv
    simp only [attrV] at hv
    cases hg : σ.get (if k = 5 then x.subj else x.obj) nm with
    | none => rw [hg] at hv; cases hv
    | some u => rw [hg] at hv; cases hv; exact get_small ok hg
  rw [if_neg k5] at hv
  by_cases k7 : k = 7
  · rw [if_pos k7] at hv; cases hv; simp [Small, Va.int]
  rw [if_neg k7] at hv
  by_cases k21 : k = 21
  · rw [if_pos k21] at hv; cases hv; simp [Small, Va.bool]
  rw [if_neg k21] at hv
  by_cases k13 : k = 13
  · rw [if_pos k13] at hv
    cases t with
    | none => cases hv
    | some w => cases hv; simp [Small, Va.int]
  rw [if_neg k13] at hv
  cases hv; simp [Small, Va.int]

theorem flat_single {x : Mo} {k : Int} {v u : Va} {o : Option Wi} {prev : Bool} (h : (singleV x k v o prev).1 = .ok u) : u.l = [] := by
  unfold singleV at h
  repeat' split at h
  all_goals first | (cases h; rfl) | (cases h; done) | skip
  all_goals (simp only at h; repeat' split at h; all_goals first | (cases h; rfl) | (cases h; done))
theorem flat_number {k : Int} {v w u : Va} (h : numberV k v w = .ok u) : u.l = [] := by
  unfold numberV at h
  by_cases hc : v.k = 1 ∧ w.k = 1
  · rw [if_pos hc] at h
    simp only at h
    generalize (if k = 8 then addP v.n w.n else if k = 9 then subP v.n w.n else mulP v.n w.n) = r at h
    by_cases hr : r.2 = true
    · rw [if_pos hr] at h
      simp only [Except.ok.injEq] at h
      subst h
      rfl
    · rw [if_neg hr] at h
      cases h
  · rw [if_neg hc] at h
    cases h
theorem flat_pair {x : Mo} {k : Int} {v w u : Va} {s : Option Wi} (h : (pairV x k v w s).1 = .ok u) : u.l = [] := by
  unfold pairV at h
  by_cases c1 : k = 8 ∨ k = 9 ∨ k = 10
  · rw [if_pos c1] at h; exact flat_number h
  rw [if_neg c1] at h
  by_cases c2 : k = 14
  · rw [if_pos c2] at h; simp only at h; split at h <;> cases h; rfl
  rw [if_neg c2] at h
  by_cases c3 : k = 15 ∨ k = 16
  · rw [if_pos c3] at h; simp only at h; split at h <;> cases h; rfl
  rw [if_neg c3] at h
  by_cases c4 : k = 17
  · rw [if_pos c4] at h; simp only at h; split at h <;> cases h; rfl
  rw [if_neg c4] at h
  cases hv : truthV v with
  | error c => rw [hv] at h; cases h
  | ok p =>
    cases hw : truthV w with
    | error c => rw [hv, hw] at h; cases h
    | ok q =>
      rw [hv, hw] at h
      simp only at h
      by_cases c5 : k = 19
      · rw [if_pos c5] at h; cases h; rfl
      rw [if_neg c5] at h
      by_cases c6 : k = 20
      · rw [if_pos c6] at h; cases h; rfl
      rw [if_neg c6] at h
      cases s with
      | none => cases h
      | some u => cases h; rfl

theorem may_set {k n y z : Int} {nm : ByteArray} {eks : List Ex} (h : (Ex.mk k nm n y z eks).may = true) (h4 : k = 4) : eks.length ≤ 8 ∧ risesB (names eks) = true := by
  simp only [Ex.may, if_pos h4, Bool.and_eq_true] at h
  refine ⟨?_, texts_rises eks none h.2.1⟩
  have := of_decide_eq_true h.2.2
  omega

theorem eval_small {σ : Sto} {x : Mo} (ok : σ.Ok) (e : Ex) (n : Sta) (hm : e.may = true) : smallR (Sta.eval σ x e n).1 := by
  obtain ⟨k, nm, m, y, z, eks⟩ := e
  obtain ⟨ks, o, s, t, prev⟩ := n
  rw [eval_mk]
  by_cases hk : kidsN k < 1
  · rw [if_pos hk]
    exact leaf_small ok fun h4 => (may_set hm h4).1
  · rw [if_neg hk]
    intro v hv
    have fl : v.l = [] → Small v := fun h => by unfold Small; rw [h]; simp
    split at hv
    · split at hv
      · cases hv
      · exact fl (flat_single hv)
    · split at hv
      · cases hv
      · split at hv
        · cases hv
        · exact fl (flat_pair hv)
    · cases hv
end Go.Proofs.YtmidcnfnmnhifaaGreat
