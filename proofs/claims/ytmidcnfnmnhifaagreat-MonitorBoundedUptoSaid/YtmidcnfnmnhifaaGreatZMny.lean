import Derived.Test.YtmidcnfnmnhifaaGreatZMnx
/-
  Package monitor: eval.
-/
namespace Go.Proofs.YtmidcnfnmnhifaaGreat
set_option linter.unusedSectionVars false
set_option linter.unusedSimpArgs false
set_option linter.unusedVariables false
open Go Go.Den
set_option linter.unusedVariables false

theorem eval_mk {σ : Sto} {x : Mo} {k n y z : Int} {nm : ByteArray} {eks : List Ex} {ks : List Sta} {o s t : Option Wi} {prev : Bool} :
    Sta.eval σ x (.mk k nm n y z eks) (.mk ks o s t prev) = if kidsN k < 1 then ((leafV σ x k nm n eks t).1, .mk ks o s (leafV σ x k nm n eks t).2 prev)
    else match eks, ks with
      | [e1], [n1] => match (Sta.eval σ x e1 n1).1 with
        | .error c => (.error c, .mk [(Sta.eval σ x e1 n1).2] o s t prev)
        | .ok v => ((singleV x k v o prev).1, .mk [(Sta.eval σ x e1 n1).2] (singleV x k v o prev).2.1 s t (singleV x k v o prev).2.2)
      | [e1, e2], [n1, n2] => match (Sta.eval σ x e1 n1).1 with
        | .error c => (.error c, .mk [(Sta.eval σ x e1 n1).2, n2] o s t prev)
        | .ok v => match (Sta.eval σ x e2 n2).1 with
          | .error c => (.error c, .mk [(Sta.eval σ x e1 n1).2, (Sta.eval σ x e2 n2).2] o s t prev)
          | .ok w => ((pairV x k v w s).1, .mk [(Sta.eval σ x e1 n1).2, (Sta.eval σ x e2 n2).2] o (pairV x k v w s).2 t prev)
      | eks, ks => (.error 0, .mk ks o s t prev) := by
  rw [Sta.eval.eq_def]
  rfl

theorem kidsN_le (k : Int) : kidsN k ≤ 2 := by
  unfold kidsN
  repeat' split
  all_goals omega

theorem may_kids {k n y z : Int} {nm : ByteArray} {eks : List Ex} (h : (Ex.mk k nm n y z eks).may = true) (hk : ¬ kidsN k < 1) : k ≠ 4 ∧ kidsN k = eks.length ∧ ∀ e ∈ eks, e.may = true := by
  have h4 : k ≠ 4 := by
    intro h4
    subst h4
    exact hk (by decide)
  simp only [Ex.may, if_neg h4, Bool.and_eq_true] at h
  refine ⟨h4, by simpa using h.1, fun e he => ?_⟩
  have := h.2.2
  rw [mays_all] at this
  simp only [Bool.not_eq_true', List.any_eq_false] at this
  simpa using this e he

theorem stas_length : ∀ {es : List Ex} {ns : List Sta} {M : Nat}, StasOk M es ns → ns.length = es.length
  | [], [], _, _ => rfl
  | e :: es, n :: ns, M, h => by simp only [StasOk] at h; simp [stas_length h.2]
  | [], n :: ns, M, h => by simp only [StasOk] at h
  | e :: es, [], M, h => by simp only [StasOk] at h

/-- a node stays as its kind wants it; at most one time more is remembered -/
theorem eval_ok {σ : Sto} {x : Mo} {M : Nat} : ∀ N (e : Ex), e.size ≤ N → ∀ n, e.may = true → Sta.Ok M e n → Sta.Ok (M + 1) e (Sta.eval σ x e n).2 := by
  intro N
  induction N with
  | zero => intro e he; have := e.size_pos; omega
  | succ N ih =>
    intro e he n hm hok
    obtain ⟨k, nm, m, y, z, eks⟩ := e
    obtain ⟨ks, o, s, t, prev⟩ := n
    have up : ∀ {e : Ex} {n : Sta}, Sta.Ok M e n → Sta.Ok (M + 1) e n := fun h => (Sta.Ok.mono (Nat.le_succ M) _).1 _ (Nat.le_refl _) _ h
    have ups : ∀ {es : List Ex} {ns : List Sta}, StasOk M es ns → StasOk (M + 1) es ns := fun h => (Sta.Ok.mono (Nat.le_succ M) _).2 _ (Nat.le_refl _) _ h
    simp only [Ex.size] at he
    simp only [Sta.Ok] at hok
    obtain ⟨⟨c1, c2, c3⟩, ⟨w1, w2, w3⟩, hks⟩ := hok
    rw [eval_mk]
    by_cases hk : kidsN k < 1
    · rw [if_pos hk]
      simp only [Sta.Ok]
      obtain ⟨l1, l2⟩ := leafV_ok (σ := σ) (x := x) (n := m) (nm := nm) (ks := eks) w3 c3
      exact ⟨⟨c1, c2, l2⟩, ⟨w1.up, w2.up, l1⟩, ups hks⟩
    · rw [if_neg hk]
      obtain ⟨h4, hlen, hmay⟩ := may_kids hm hk
      have hle := kidsN_le k
      match eks, ks, hks, hlen with
      | [e1], [n1], hks, _ =>
        simp only [StasOk] at hks
        have he1 : e1.size ≤ N := by simp only [sizes] at he; omega
        have h1 := ih e1 he1 n1 (hmay e1 (by simp)) hks.1
        simp only
        cases hr : (Sta.eval σ x e1 n1).1 with
        | error c =>
          simp only [Sta.Ok, StasOk]
          exact ⟨⟨c1, c2, c3⟩, ⟨w1.up, w2.up, w3.up⟩, h1, trivial⟩
        | ok v =>
          simp only [Sta.Ok, StasOk]
          obtain ⟨l1, l2⟩ := singleV_ok (x := x) (v := v) (prev := prev) w1 c1
          exact ⟨⟨l2, c2, c3⟩, ⟨l1, w2.up, w3.up⟩, h1, trivial⟩
      | [e1, e2], [n1, n2], hks, _ =>
        simp only [StasOk] at hks
        have he1 : e1.size ≤ N := by simp only [sizes] at he; omega
        have he2 : e2.size ≤ N := by simp only [sizes] at he; omega
        have h1 := ih e1 he1 n1 (hmay e1 (by simp)) hks.1
        have h2 := ih e2 he2 n2 (hmay e2 (by simp)) hks.2.1
        simp only
        cases hr : (Sta.eval σ x e1 n1).1 with
        | error c =>
          simp only [Sta.Ok, StasOk]
          exact ⟨⟨c1, c2, c3⟩, ⟨w1.up, w2.up, w3.up⟩, h1, up hks.2.1, trivial⟩
        | ok v =>
          simp only
          cases hr2 : (Sta.eval σ x e2 n2).1 with
          | error c =>
            simp only [Sta.Ok, StasOk]
            exact ⟨⟨c1, c2, c3⟩, ⟨w1.up, w2.up, w3.up⟩, h1, h2, trivial⟩
          | ok w =>
            simp only [Sta.Ok, StasOk]
            obtain ⟨l1, l2⟩ := pairV_ok (x := x) (v := v) (v' := w) w2 c2
            exact ⟨⟨c1, l2, c3⟩, ⟨w1.up, l1, w3.up⟩, h1, h2, trivial⟩
      | [], ks, _, hl => exact absurd hl (by simp; omega)
      | [e1], [], hks, _ => simp only [StasOk, and_false] at hks
      | [e1], n1 :: n2 :: ns, hks, _ => simp only [StasOk, and_false] at hks
      | [e1, e2], [], hks, _ => simp only [StasOk, and_false] at hks
      | [e1, e2], [n1], hks, _ => simp only [StasOk, and_false] at hks
      | [e1, e2], n1 :: n2 :: n3 :: ns, hks, _ => simp only [StasOk, and_false] at hks
      | e1 :: e2 :: e3 :: es, ks, _, hl => exact absurd hl (by simp only [List.length_cons]; omega)

/-- values that come out are small -/
def Small (v : Va) : Prop := v.l.length ≤ 8
theorem get_small {σ : Sto} (ok : σ.Ok) {e n : ByteArray} {v : Va} (h : σ.get e n = some v) : Small v := by
  unfold Sto.get at h
  split at h
  · cases h
  · simp only [Option.some.injEq] at h
    subst h
    cases hl : lk σ.cs (e, n) with
    | none =>
      simp only [Option.getD_none]
      unfold Va.zero Small
      split <;> simp
    | some u =>
      simp only [Option.getD_some]
      have : ∀ {l : List ((ByteArray × ByteArray) × Va)} {k : ByteArray × ByteArray} {u : Va}, lk l k = some u → ∃ x ∈ l, x.2 = u := by
        intro l
        induction l with
        | nil => intro k u h; simp [lk] at h
        | cons x l ih =>
          intro k u h
          simp only [lk] at h
          split at h
          · cases h; exact ⟨x, by simp, rfl⟩
          · obtain ⟨y, hy, e⟩ := ih h; exact ⟨y, by simp [hy], e⟩
      obtain ⟨y, hy, rfl⟩ := this hl
      exact (ok.c1 y hy).2.2

def smallR (r : Res) : Prop := ∀ v, r = .ok v → Small v
theorem leaf_small {σ : Sto} {x : Mo} {k n : Int} {nm : ByteArray} {ks : List Ex} {t : Option Wi} (ok : σ.Ok) (hk : k = 4 → ks.length ≤ 8) : smallR (leafV σ x k nm n ks t).1 := by
  intro v hv
  unfold leafV at hv
  by_cases k2 : k = 2
  · rw [if_pos k2] at hv; cases hv; simp [Small, Va.bool]
  rw [if_neg k2] at hv
  by_cases k3 : k = 3
  · rw [if_pos k3] at hv; cases hv; simp [Small, Va.text]
  rw [if_neg k3] at hv
  by_cases k4 : k = 4
  · rw [if_pos k4] at hv; cases hv; simpa [Small, setVa, names] using hk k4
  rw [if_neg k4] at hv
  by_cases k5 : k = 5 ∨ k = 6
  · rw [if_pos k5] at hv
    simp only [attrV] at hv
    cases hg : σ.get (if k = 5 then x.subj else x.obj) nm with
    | none => rw [hg] at hv; cases hv
    | some u => rw [hg] at hv; cases hv; exact get_small ok hg
  rw [if_neg k5] at hv
  by_cases k7 : k = 7
  · rw [if_pos k7] at hv; cases hv; simp [Small, Va.int]
  rw [if_neg k7] at hv
  by_cases k21 : k = 21
  · rw [if_pos k21] at hv; cases hv; simp [Small, Va.bool]
  rw [if_neg k21] at hv
  by_cases k13 : k = 13
  · rw [if_pos k13] at hv
    cases t with
    | none => cases hv
    | some w => cases hv; simp [Small, Va.int]
  rw [if_neg k13] at hv
  cases hv; simp [Small, Va.int]

theorem flat_single {x : Mo} {k : Int} {v u : Va} {o : Option Wi} {prev : Bool} (h : (singleV x k v o prev).1 = .ok u) : u.l = [] := by
  unfold singleV at h
  repeat' split at h
  all_goals first | (cases h; rfl) | (cases h; done) | skip
  all_goals (simp only at h; repeat' split at h; all_goals first | (cases h; rfl) | (cases h; done))
theorem flat_number {k : Int} {v w u : Va} (h : numberV k v w = .ok u) : u.l = [] := by
  unfold numberV at h
  by_cases hc : v.k = 1 ∧ w.k = 1
  · rw [if_pos hc] at h
    simp only at h
    generalize (if k = 8 then addP v.n w.n else if k = 9 then subP v.n w.n else mulP v.n w.n) = r at h
    by_cases hr : r.2 = true
    · rw [if_pos hr] at h
      simp only [Except.ok.injEq] at h
      subst h
      rfl
    · rw [if_neg hr] at h
      cases h
  · rw [if_neg hc] at h
    cases h
theorem flat_pair {x : Mo} {k : Int} {v w u : Va} {s : Option Wi} (h : (pairV x k v w s).1 = .ok u) : u.l = [] := by
  unfold pairV at h
  by_cases c1 : k = 8 ∨ k = 9 ∨ k = 10
  · rw [if_pos c1] at h; exact flat_number h
  rw [if_neg c1] at h
  by_cases c2 : k = 14
  · rw [if_pos c2] at h; simp only at h; split at h <;> cases h; rfl
  rw [if_neg c2] at h
  by_cases c3 : k = 15 ∨ k = 16
  · rw [if_pos c3] at h; simp only at h; split at h <;> cases h; rfl
  rw [if_neg c3] at h
  by_cases c4 : k = 17
  · rw [if_pos c4] at h; simp only at h; split at h <;> cases h; rfl
  rw [if_neg c4] at h
  cases hv : truthV v with
  | error c => rw [hv] at h; cases h
  | ok p =>
    cases hw : truthV w with
    | error c => rw [hv, hw] at h; cases h
    | ok q =>
      rw [hv, hw] at h
      simp only at h
      by_cases c5 : k = 19
      · rw [if_pos c5] at h; cases h; rfl
      rw [if_neg c5] at h
      by_cases c6 : k = 20
      · rw [if_pos c6] at h; cases h; rfl
      rw [if_neg c6] at h
      cases s with
      | none => cases h
      | some u => cases h; rfl

theorem may_set {k n y z : Int} {nm : ByteArray} {eks : List Ex} (h : (Ex.mk k nm n y z eks).may = true) (h4 : k = 4) : eks.length ≤ 8 ∧ risesB (names eks) = true := by
  simp only [Ex.may, if_pos h4, Bool.and_eq_true] at h
  refine ⟨?_, texts_rises eks none h.2.1⟩
  have := of_decide_eq_true h.2.2
  omega

theorem eval_small {σ : Sto} {x : Mo} (ok : σ.Ok) (e : Ex) (n : Sta) (hm : e.may = true) : smallR (Sta.eval σ x e n).1 := by
  obtain ⟨k, nm, m, y, z, eks⟩ := e
  obtain ⟨ks, o, s, t, prev⟩ := n
  rw [eval_mk]
  by_cases hk : kidsN k < 1
  · rw [if_pos hk]
    exact leaf_small ok fun h4 => (may_set hm h4).1
  · rw [if_neg hk]
    intro v hv
    have fl : v.l = [] → Small v := fun h => by unfold Small; rw [h]; simp
    split at hv
    · split at hv
      · cases hv
      · exact fl (flat_single hv)
    · split at hv
      · cases hv
      · split at hv
        · cases hv
        · exact fl (flat_pair hv)
    · cases hv
end Go.Proofs.YtmidcnfnmnhifaaGreat

/-
  Package monitor: the contracts of eval, Step.
-/
namespace Go.Proofs.YtmidcnfnmnhifaaGreat
set_option linter.unusedSectionVars false
set_option linter.unusedSimpArgs false
set_option linter.unusedVariables false
open Go Go.Den
set_option linter.unusedVariables false

section
variable {a : Base} {R : Asr} {F H : HP} {S : List Nat}

theorem nodeA_open {k n y z : Int} {nm : ByteArray} {eks : List Ex} {ks : List Sta} {o s t : Option Wi} {prev : Bool} {g : Nat} (h : ((sepc (nodeA (.mk k nm n y z eks) (.mk ks o s t prev) g) R)) F H S) :
    ∃ kp kc gl, KidsPtr F kp gl ∧ ((sepc (nodB (.mk k nm n y z eks) kp ks.length kc o s t prev g) (sepc (kidsA eks ks gl) R))) F H S := by
  obtain ⟨S1, S2, i1, i2, idj, hA, hR⟩ := h
  simp only [nodeA] at hA
  obtain ⟨⟨kp, kc, gl⟩, hk, hA⟩ := hA
  exact ⟨kp, kc, gl, hk, star_assoc ⟨S1, S2, i1, i2, idj, hA, hR⟩⟩

theorem nodeA_close {k n y z : Int} {nm : ByteArray} {eks : List Ex} {ks : List Sta} {o s t : Option Wi} {prev : Bool} {g : Nat} {kp : Option Addr} {kc kl : Nat} {gl : List Nat} (hk : KidsPtr F kp gl) (hl : kl = ks.length)
    (h : ((sepc (nodB (.mk k nm n y z eks) kp kl kc o s t prev g) (sepc (kidsA eks ks gl) R))) F H S) : ((sepc (nodeA (.mk k nm n y z eks) (.mk ks o s t prev) g) R)) F H S := by
  subst hl
  refine star_mono (A := (sepc (nodB (.mk k nm n y z eks) kp ks.length kc o s t prev g) (kidsA eks ks gl))) (fun S' hs => ?_) (fun _ h => h) (star_assoc' h)
  simp only [nodeA]
  exact ⟨(kp, kc, gl), hk, hs⟩

theorem kids1 {e1 : Ex} {n1 : Sta} {gl : List Nat} (h : kidsA [e1] [n1] gl F H S) : ∃ g1, gl = [g1] ∧ nodeA e1 n1 g1 F H S := by
  match gl with
  | [] => simp only [kidsA] at h; exact h.elim
  | [g1] =>
    simp only [kidsA] at h
    exact ⟨g1, rfl, star_fst Good.node h⟩
  | g1 :: g2 :: gs =>
    simp only [kidsA] at h
    obtain ⟨_, _, _, _, _, _, h⟩ := h
    exact h.elim
theorem kids2 {e1 e2 : Ex} {n1 n2 : Sta} {gl : List Nat} (h : kidsA [e1, e2] [n1, n2] gl F H S) : ∃ g1 g2, gl = [g1, g2] ∧ ((sepc (nodeA e1 n1 g1) (nodeA e2 n2 g2))) F H S := by
  match gl with
  | [] => simp only [kidsA] at h; exact h.elim
  | [g1] =>
    simp only [kidsA] at h
    obtain ⟨_, _, _, _, _, _, h⟩ := h
    exact h.elim
  | [g1, g2] =>
    simp only [kidsA] at h
    exact ⟨g1, g2, rfl, star_mono (fun _ h => h) (fun _ h => star_fst Good.node h) h⟩
  | g1 :: g2 :: g3 :: gs =>
    simp only [kidsA] at h
    obtain ⟨_, _, _, _, _, _, h⟩ := h
    obtain ⟨_, _, _, _, _, _, h⟩ := h
    exact h.elim
theorem kids1_mk {e1 : Ex} {n1 : Sta} {g1 : Nat} (h : nodeA e1 n1 g1 F H S) : kidsA [e1] [n1] [g1] F H S := by
  simp only [kidsA]
  exact star_emp h
theorem kids2_mk {e1 e2 : Ex} {n1 n2 : Sta} {g1 g2 : Nat} (h : ((sepc (nodeA e1 n1 g1) (nodeA e2 n2 g2))) F H S) : kidsA [e1, e2] [n1, n2] [g1, g2] F H S := by
  simp only [kidsA]
  exact star_mono (fun _ h => h) (fun _ h => star_emp h) h

theorem short_max {n : Nat} (h : n < 1000000000000) : n ≤ maxLen := by simp only [maxLen]; omega

theorem bring3 {A B C D : Asr} {F H : HP} {S : List Nat} (h : ((sepc A (sepc B (sepc C D)))) F H S) : ((sepc C (sepc A (sepc B D)))) F H S := star_left (star_mono (fun _ h => h) (fun _ h => star_left h) h)
theorem bring4 {A B C D E : Asr} {F H : HP} {S : List Nat} (h : ((sepc A (sepc B (sepc C (sepc D E))))) F H S) : ((sepc D (sepc A (sepc B (sepc C E))))) F H S := star_left (star_mono (fun _ h => h) (fun _ h => bring3 h) h)
theorem under {A B C : Asr} {F H : HP} {S : List Nat} (h : ((sepc A B)) F H S) (k : ∀ S, B F H S → C F H S) : ((sepc A C)) F H S := star_mono (fun _ h => h) k h

section
variable {σ : Sto} {x : Mo} {k n y z : Int} {nm : ByteArray} {e1 e2 : Ex} {n1 n2 : Sta} {o s t : Option Wi} {prev : Bool} {c : Int} {v w : Va} (hk : ¬ kidsN k < 1)
include hk
theorem eval1_err (h : (Sta.eval σ x e1 n1).1 = .error c) : Sta.eval σ x (.mk k nm n y z [e1]) (.mk [n1] o s t prev) = (.error c, .mk [(Sta.eval σ x e1 n1).2] o s t prev) := by
  rw [eval_mk, if_neg hk]; simp only; rw [h]
theorem eval1_ok (h : (Sta.eval σ x e1 n1).1 = .ok v) : Sta.eval σ x (.mk k nm n y z [e1]) (.mk [n1] o s t prev) = ((singleV x k v o prev).1, .mk [(Sta.eval σ x e1 n1).2] (singleV x k v o prev).2.1 s t (singleV x k v o prev).2.2) := by
  rw [eval_mk, if_neg hk]; simp only; rw [h]
theorem eval2_err1 (h : (Sta.eval σ x e1 n1).1 = .error c) : Sta.eval σ x (.mk k nm n y z [e1, e2]) (.mk [n1, n2] o s t prev) = (.error c, .mk [(Sta.eval σ x e1 n1).2, n2] o s t prev) := by
  rw [eval_mk, if_neg hk]; simp only; rw [h]
theorem eval2_err2 (h : (Sta.eval σ x e1 n1).1 = .ok v) (h2 : (Sta.eval σ x e2 n2).1 = .error c) : Sta.eval σ x (.mk k nm n y z [e1, e2]) (.mk [n1, n2] o s t prev) = (.error c, .mk [(Sta.eval σ x e1 n1).2, (Sta.eval σ x e2 n2).2] o s t prev) := by
  rw [eval_mk, if_neg hk]; simp only; rw [h]; simp only; rw [h2]
theorem eval2_ok (h : (Sta.eval σ x e1 n1).1 = .ok v) (h2 : (Sta.eval σ x e2 n2).1 = .ok w) : Sta.eval σ x (.mk k nm n y z [e1, e2]) (.mk [n1, n2] o s t prev) = ((pairV x k v w s).1, .mk [(Sta.eval σ x e1 n1).2, (Sta.eval σ x e2 n2).2] o (pairV x k v w s).2 t prev) := by
  rw [eval_mk, if_neg hk]; simp only; rw [h]; simp only; rw [h2]
end
theorem kids2_kind {k : Int} (h : kidsN k = 2) : k = 8 ∨ k = 9 ∨ k = 10 ∨ k = 14 ∨ k = 15 ∨ k = 16 ∨ k = 17 ∨ k = 19 ∨ k = 20 ∨ k = 24 := by
  unfold kidsN at h
  repeat' split at h
  all_goals simp_all

/-- the moment's texts are small -/
def Mo.Ok (x : Mo) : Prop := x.subj.size ≤ maxLen ∧ x.obj.size ≤ maxLen

theorem eval91 {gs : Nat} {σ : Sto} {x : Mo} {M : Nat} (ok : σ.Ok) (hx : x.Ok) (hM : M < 800000000) : ∀ N (e : Ex), e.size ≤ N → ∀ {a : Base} {R : Asr} {F H : HP} {S : List Nat} {n : Sta} {g : Nat}, Good R →
    Wd a ((sepc (nodeA e n g) (sepc (storeA gs σ) R))) F H S → e.may = true → e.Short → Sta.Ok M e n →
    Den.Spec Tryz.prog 91 #[eyeV gs x, .pointer (some ⟨g, 0, none⟩)] H fun e' H' => ∃ F' S', RVal F' (Sta.eval σ x e n).1 e' ∧ F.le F' ∧ Wd a ((sepc (nodeA e (Sta.eval σ x e n).2 g) (sepc (storeA gs σ) R))) F' H' S' := by
  intro N
  induction N with
  | zero => intro e he; have := e.size_pos; omega
  | succ N ih =>
    intro e he a R F H S n g gr h hm hsh hok
    obtain ⟨k, nm, m, y, z, eks⟩ := e
    obtain ⟨ks, o, s, t, prev⟩ := n
    simp only [Ex.size] at he
    simp only [Sta.Ok] at hok
    simp only [Ex.Short] at hsh
    obtain ⟨⟨c1, c2, c3⟩, ⟨w1, w2, w3⟩, hks⟩ := hok
    obtain ⟨kp, kc, gl, hkp, hb⟩ := nodeA_open h.it
    have grS : Good ((sepc (storeA gs σ) R)) := Good.star Good.store gr
    obtain ⟨p, c, po, ps, pt, hex, _, hkind, hkids, _, _, _, _, _⟩ := nodB_has hb
    have hlen := stas_length hks
    refine spec91 (WNonNil.some (WLoad.i (n := k) (by rw [addN, addN]; exact hkind) (WCall.pure (kids_spec k) (WOpen.i ?_))))
    have ret : ∀ {Q : Ending → W} {cs : List Value} {v : Va} {F' H' : HP}, v.At F' cs → Q (.returned (.agg ⟨cs⟩)) H' →
        WOpen (.one (.agg [(.i .i64), (.i .i64), .s, .sl])) (fun (x4 : Int) (x4_1 : Int) (x4_2 : ByteArray) (x4_3 : Option Go.Addr) (x4_4 : Nat) (x4_5 : Nat) => Q (.returned (.agg #[(.int .i64 x4), (.int .i64 x4_1), (.string x4_2), (.slice x4_3 x4_4 x4_5)]))) (.agg ⟨cs⟩) H' := by
      intro Q cs v F' H' hv hq
      obtain ⟨p', c', rfl, hp'⟩ := hv
      exact WOpen.va hq
    by_cases hk : kidsN k < 1
    · have e0 : Sta.eval σ x (.mk k nm m y z eks) (.mk ks o s t prev) = ((leafV σ x k nm m eks t).1, .mk ks o s (leafV σ x k nm m eks t).2 prev) := by rw [eval_mk, if_pos hk]
      rw [e0]
      refine WIf.t (by simpa using hk) ?_
      refine WCall.of (leaf104 (gs := gs) (x := x) (σ := σ) (Good.star Good.kids grS) ⟨h.wd, h.tr, hb⟩ (store_read (R := emp') (star_emp (star_fst Good.store (star_snd grS h.it)))) ok hx.1 hx.2 (short_max hsh.1) (may_set hm)
        (fun h13 => let ⟨w, hw⟩ := c3 h13; ⟨w, hw, by have := w3 w hw; omega⟩)) ?_ ?_
      · rintro v H' ⟨F', S', hr, hle, hw⟩
        cases hres : (leafV σ x k nm m eks t).1 with
        | error c => rw [hres] at hr; cases hr
        | ok u =>
          rw [hres] at hr
          obtain ⟨cs, hv, hu⟩ := hr
          cases hv
          have hux := hu
          obtain ⟨px, cx, rfl, hpx⟩ := hux
          refine WOpen.va ?_
          refine ⟨F', S', ⟨_, rfl, hu⟩, hle, hw.imp fun hh => nodeA_close (kc := kc) (hkp.mono hle) rfl hh⟩
      · rintro e' H' ⟨F', S', hr, hle, hw⟩ hne
        exact ⟨F', S', hr, hle, hw.imp fun hh => nodeA_close (kc := kc) (hkp.mono hle) rfl hh⟩
    · refine WIf.f (by simpa using hk) (WNonNil.some (WLoad.sl (p := kp) (n := ks.length) (c := kc) (by rw [addN]; exact hkids) ?_))
      obtain ⟨h4, hkl, hmay⟩ := may_kids hm hk
      have hle2 := kidsN_le k
      have shorts : ∀ e ∈ eks, e.Short := fun e he => Shorts.get hsh.2 e he
      match eks, ks, hks, hkl, hb, he, hmay, shorts, hex with
      | [e1], [n1], hks, _, hb, he, hmay, shorts, hex =>
        simp only [StasOk] at hks
        have he1 : e1.size ≤ N := by simp only [sizes] at he; omega
        obtain ⟨g1, hgl⟩ : ∃ g1, gl = [g1] := by
          obtain ⟨_, _, _, _, _, _, h2⟩ := hb
          obtain ⟨_, _, _, _, _, h3, _⟩ := h2
          obtain ⟨g1, hg, _⟩ := kids1 h3
          exact ⟨g1, hg⟩
        subst hgl
        obtain ⟨kx, hkx, hkh⟩ := hkp 0 g1 rfl
        refine ⟨kx, hkx, by omega, by simp, WLoad.p (n := some ⟨g1, 0, none⟩) (h.wd.le.has hkh) ?_⟩
        have hw1 : Wd a ((sepc (nodeA e1 n1 g1) (sepc (storeA gs σ) (sepc (nodB (.mk k nm m y z [e1]) kp [n1].length kc o s t prev g) R)))) F H S :=
          ⟨h.wd, h.tr, star_mono (fun _ h => h) (fun _ h => star_left h) (star_left (star_mono (fun _ h => h) (fun _ h => star_mono (fun _ h => let ⟨g', hg, hh⟩ := kids1 h; (by cases hg; exact hh)) (fun _ h => h) h) hb))⟩
        refine WCall.of (ih e1 he1 (Good.star Good.nodB gr) hw1 (hmay e1 (by simp)) (shorts e1 (by simp)) hks.1) ?_ ?_
        · rintro v H1 ⟨F1, S1, hr, hle, hw⟩
          have hsm := eval_small ok (x := x) e1 n1 (hmay e1 (by simp))
          cases hres : (Sta.eval σ x e1 n1).1 with
          | error c => rw [hres] at hr; cases hr
          | ok u =>
            rw [hres] at hr
            rw [eval1_ok hk hres]
            obtain ⟨cs, hv, hu⟩ := hr
            cases hv
            have hu0 := hu
            obtain ⟨pu, cu, rfl, hpu⟩ := hu
            have hb1 : ((sepc (nodB (.mk k nm m y z [e1]) kp [n1].length kc o s t prev g) (sepc (nodeA e1 (Sta.eval σ x e1 n1).2 g1) (sepc (storeA gs σ) R)))) F1 H1 S1 :=
              star_left (star_mono (fun _ h => h) (fun _ h => star_left h) hw.it)
            obtain ⟨_, _, _, _, _, _, _, _, hkids1, _, _, _, _, _⟩ := nodB_has hb1
            refine WOpen.va (WNonNil.some (WLoad.sl (p := kp) (n := [n1].length) (c := kc) (by rw [addN]; exact hkids1) (WIf.t rfl ?_)))
            refine WCall.of (single102 (gs := gs) (x := x) (Good.star Good.node grS) ⟨hw.wd, hw.tr, hb1⟩ hu0 (fun h22 => let ⟨w, hw'⟩ := c1 h22; ⟨w, hw', by have := w1 w hw'; omega⟩)) ?_ ?_
            · rintro v' H2 ⟨F2, S2, hr2, hle2, hw2⟩
              cases hres2 : (singleV x k u o prev).1 with
              | error c => rw [hres2] at hr2; cases hr2
              | ok u2 =>
                rw [hres2] at hr2
                obtain ⟨cs2, hv2, hu2⟩ := hr2
                cases hv2
                have hu2x := hu2
                obtain ⟨px, cx, rfl, hpx⟩ := hu2x
                refine WOpen.va ?_
                refine ⟨F2, S2, ⟨_, rfl, hu2⟩, hle.trans hle2, hw2.imp fun hh => nodeA_close (kc := kc) (hkp.mono (hle.trans hle2)) rfl (star_mono (fun _ h => h) (fun _ h => star_mono (fun _ h => kids1_mk h) (fun _ h => h) h) hh)⟩
            · rintro e' H2 ⟨F2, S2, hr2, hle2, hw2⟩ hne
              exact ⟨F2, S2, hr2, hle.trans hle2, hw2.imp fun hh => nodeA_close (kc := kc) (hkp.mono (hle.trans hle2)) rfl (star_mono (fun _ h => h) (fun _ h => star_mono (fun _ h => kids1_mk h) (fun _ h => h) h) hh)⟩
        · rintro e' H1 ⟨F1, S1, hr, hle, hw⟩ hne
          cases hres : (Sta.eval σ x e1 n1).1 with
          | ok u => rw [hres] at hr; obtain ⟨cs, hv, _⟩ := hr; exact absurd hv (hne _)
          | error c =>
            rw [hres] at hr
            rw [eval1_err hk hres]
            refine ⟨F1, S1, hr, hle, hw.imp fun hh => nodeA_close (kc := kc) (hkp.mono hle) rfl ?_⟩
            exact under (bring3 hh) fun _ h => star_mono (fun _ h => kids1_mk h) (fun _ h => h) h
      | [e1, e2], [n1, n2], hks, hkl2, hb, he, hmay, shorts, hex =>
        simp only [StasOk] at hks
        have he1 : e1.size ≤ N := by simp only [sizes] at he; omega
        have he2 : e2.size ≤ N := by simp only [sizes] at he; omega
        obtain ⟨g1, g2, hgl⟩ : ∃ g1 g2, gl = [g1, g2] := by
          obtain ⟨_, _, _, _, _, _, h2⟩ := hb
          obtain ⟨_, _, _, _, _, h3, _⟩ := h2
          obtain ⟨g1, g2, hg, _⟩ := kids2 h3
          exact ⟨g1, g2, hg⟩
        subst hgl
        obtain ⟨kx, hkx, hkh⟩ := hkp 0 g1 rfl
        obtain ⟨ky, hky, hkh2⟩ := hkp 1 g2 rfl
        refine ⟨kx, hkx, by omega, by simp, WLoad.p (n := some ⟨g1, 0, none⟩) (h.wd.le.has hkh) ?_⟩
        have hw1 : Wd a ((sepc (nodeA e1 n1 g1) (sepc (storeA gs σ) (sepc (nodeA e2 n2 g2) (sepc (nodB (.mk k nm m y z [e1, e2]) kp [n1, n2].length kc o s t prev g) R))))) F H S := by
          refine ⟨h.wd, h.tr, ?_⟩
          have q1 := star_mono (B' := (sepc (kidsA [e1, e2] [n1, n2] [g1, g2]) (sepc (storeA gs σ) R))) (fun _ h => h) (fun _ h => h) hb
          have q2 := star_left q1
          have q3 : ((sepc (nodeA e1 n1 g1) (sepc (nodeA e2 n2 g2) (sepc (nodB (.mk k nm m y z [e1, e2]) kp [n1, n2].length kc o s t prev g) (sepc (storeA gs σ) R))))) F H S :=
            star_assoc (star_mono (fun _ h => let ⟨g1', g2', hg, hh⟩ := kids2 h; (by cases hg; exact hh)) (fun _ h => h) q2)
          exact star_mono (fun _ h => h) (fun _ h => star_left (star_mono (fun _ h => h) (fun _ h => star_left h) h)) q3
        refine WCall.of (ih e1 he1 (Good.star Good.node (Good.star Good.nodB gr)) hw1 (hmay e1 (by simp)) (shorts e1 (by simp)) hks.1) ?_ ?_
        · rintro v H1 ⟨F1, S1, hr, hle, hw⟩
          have hsm := eval_small ok (x := x) e1 n1 (hmay e1 (by simp))
          cases hres : (Sta.eval σ x e1 n1).1 with
          | error c => rw [hres] at hr; cases hr
          | ok u =>
            rw [hres] at hr
            obtain ⟨cs, hv, hu⟩ := hr
            cases hv
            have hu0 := hu
            obtain ⟨pu, cu, rfl, hpu⟩ := hu
            have hw1' : Wd a ((sepc (nodeA e2 n2 g2) (sepc (storeA gs σ) (sepc (nodB (.mk k nm m y z [e1, e2]) kp [n1, n2].length kc o s t prev g) (sepc (nodeA e1 (Sta.eval σ x e1 n1).2 g1) R))))) F1 H1 S1 := by
              exact hw.imp fun hh => under (bring3 hh) fun _ h => under (star_left h) fun _ h => star_left h
            have hb1 : ((sepc (nodB (.mk k nm m y z [e1, e2]) kp [n1, n2].length kc o s t prev g) (sepc (nodeA e2 n2 g2) (sepc (storeA gs σ) (sepc (nodeA e1 (Sta.eval σ x e1 n1).2 g1) R))))) F1 H1 S1 :=
              star_left (star_mono (fun _ h => h) (fun _ h => star_left h) hw1'.it)
            obtain ⟨_, _, _, _, _, _, _, _, hkids1, _, _, _, _, _⟩ := nodB_has hb1
            refine WOpen.va (WNonNil.some (WLoad.sl (p := kp) (n := [n1, n2].length) (c := kc) (by rw [addN]; exact hkids1) (WIf.f rfl (WNonNil.some (WLoad.sl (p := kp) (n := [n1, n2].length) (c := kc) (by rw [addN]; exact hkids1) ?_)))))
            refine ⟨kx, hkx, by omega, by simp, WLoad.p (n := some ⟨g2, 0, none⟩) (hw.wd.le.has (hle.has (by rw [hkx] at hky; cases hky; exact hkh2))) ?_⟩
            refine WCall.of (ih e2 he2 (Good.star Good.nodB (Good.star Good.node gr)) hw1' (hmay e2 (by simp)) (shorts e2 (by simp)) hks.2.1) ?_ ?_
            · rintro v' H2 ⟨F2, S2, hr2, hle2, hw2⟩
              have hsm2 := eval_small ok (x := x) e2 n2 (hmay e2 (by simp))
              cases hres2 : (Sta.eval σ x e2 n2).1 with
              | error c => rw [hres2] at hr2; cases hr2
              | ok u2 =>
                rw [hres2] at hr2
                rw [eval2_ok hk hres hres2]
                obtain ⟨cs2, hv2, hu2⟩ := hr2
                cases hv2
                have hu20 := hu2
                obtain ⟨pu2, cu2, rfl, hpu2⟩ := hu2
                have hb2 : ((sepc (nodB (.mk k nm m y z [e1, e2]) kp [n1, n2].length kc o s t prev g) (sepc ((sepc (nodeA e1 (Sta.eval σ x e1 n1).2 g1) (nodeA e2 (Sta.eval σ x e2 n2).2 g2))) (sepc (storeA gs σ) R)))) F2 H2 S2 := by
                  exact under (bring3 hw2.it) fun _ h => star_assoc' (under (bring3 h) fun _ h => h)
                refine WOpen.va (WCall.of (pair103 (gs := gs) (x := x) (Good.star (Good.star Good.node Good.node) grS) ⟨hw2.wd, hw2.tr, hb2⟩ (hu0.mono hle2) hu20 (by have := hsm u hres; unfold Small at this; omega) (by have := hsm2 u2 hres2; unfold Small at this; omega)
                  (fun h24 => let ⟨w, hw'⟩ := c2 h24; ⟨w, hw', by have := w2 w hw'; omega⟩) ?_) ?_ ?_)
                · exact kids2_kind (by rw [hkl2]; rfl)
                · rintro v' H3 ⟨F3, S3, hr3, hle3, hw3⟩
                  cases hres3 : (pairV x k u u2 s).1 with
                  | error c => rw [hres3] at hr3; cases hr3
                  | ok u3 =>
                    rw [hres3] at hr3
                    obtain ⟨cs3, hv3, hu3⟩ := hr3
                    cases hv3
                    have hu3x := hu3
                    obtain ⟨px, cx, rfl, hpx⟩ := hu3x
                    refine WOpen.va ?_
                    exact ⟨F3, S3, ⟨_, rfl, hu3⟩, (hle.trans hle2).trans hle3, hw3.imp fun hh => nodeA_close (kc := kc) (hkp.mono ((hle.trans hle2).trans hle3)) rfl (star_mono (fun _ h => h) (fun _ h => star_mono (fun _ h => kids2_mk h) (fun _ h => h) h) hh)⟩
                · rintro e' H3 ⟨F3, S3, hr3, hle3, hw3⟩ hne
                  exact ⟨F3, S3, hr3, (hle.trans hle2).trans hle3, hw3.imp fun hh => nodeA_close (kc := kc) (hkp.mono ((hle.trans hle2).trans hle3)) rfl (star_mono (fun _ h => h) (fun _ h => star_mono (fun _ h => kids2_mk h) (fun _ h => h) h) hh)⟩
            · rintro e' H2 ⟨F2, S2, hr2, hle2, hw2⟩ hne
              cases hres2 : (Sta.eval σ x e2 n2).1 with
              | ok u => rw [hres2] at hr2; obtain ⟨cs, hv, _⟩ := hr2; exact absurd hv (hne _)
              | error c =>
                rw [hres2] at hr2
                rw [eval2_err2 hk hres hres2]
                refine ⟨F2, S2, hr2, hle.trans hle2, hw2.imp fun hh => nodeA_close (kc := kc) (hkp.mono (hle.trans hle2)) rfl ?_⟩
                exact under (bring3 hh) fun _ h => star_mono (fun _ h => kids2_mk h) (fun _ h => h) (star_assoc' (bring3 h))
        · rintro e' H1 ⟨F1, S1, hr, hle, hw⟩ hne
          cases hres : (Sta.eval σ x e1 n1).1 with
          | ok u => rw [hres] at hr; obtain ⟨cs, hv, _⟩ := hr; exact absurd hv (hne _)
          | error c =>
            rw [hres] at hr
            rw [eval2_err1 hk hres]
            refine ⟨F1, S1, hr, hle, hw.imp fun hh => nodeA_close (kc := kc) (hkp.mono hle) rfl ?_⟩
            exact under (bring4 hh) fun _ h => star_mono (fun _ h => kids2_mk h) (fun _ h => h) (star_assoc' (under h fun _ h => star_left h))
      | [], ks, _, hl, _, _, _, _, _ => exact absurd hl (by simp; omega)
      | [e1], [], hks, _, _, _, _, _, _ => simp only [StasOk, and_false] at hks
      | [e1], n1 :: n2 :: ns, hks, _, _, _, _, _, _ => simp only [StasOk, and_false] at hks
      | [e1, e2], [], hks, _, _, _, _, _, _ => simp only [StasOk, and_false] at hks
      | [e1, e2], [n1], hks, _, _, _, _, _, _ => simp only [StasOk, and_false] at hks
      | [e1, e2], n1 :: n2 :: n3 :: ns, hks, _, _, _, _, _, _ => simp only [StasOk, and_false] at hks
      | e1 :: e2 :: e3 :: es, ks, _, hl, _, _, _, _, _ => exact absurd hl (by simp only [List.length_cons]; omega)
end
end Go.Proofs.YtmidcnfnmnhifaaGreat

/-
  Package monitor: Step, Cells.
-/
namespace Go.Proofs.YtmidcnfnmnhifaaGreat
set_option linter.unusedSectionVars false
set_option linter.unusedSimpArgs false
set_option linter.unusedVariables false
open Go Go.Den
set_option linter.unusedVariables false

/-- a monitor -/
def monA (g : Nat) (e : Ex) (n : Sta) (last : Int) : Asr := ex fun gt : Nat => (sepc (blk g 66 [.pointer (some ⟨gt, 0, none⟩), .int .i64 last]) (nodeA e n gt))
theorem Good.mon {g : Nat} {e : Ex} {n : Sta} {last : Int} : Good (monA g e n last) := Good.ex fun _ => Good.star Good.blk Good.node

def moV (x : Mo) : Value := .agg #[.int .i64 x.a, .string x.act, .string x.subj, .string x.obj]
def zeroVa : Va := ⟨0, 0, nos, []⟩
/-- what Step tells -/
def StepV (F : HP) (r : Res) (e : Ending) : Prop := match r with
  | .ok v => ∃ cs, v.At F cs ∧ e = .returned (.tuple #[.agg ⟨cs⟩, .int .i64 0])
  | .error c => e = .returned (.tuple #[.agg ⟨flat zeroVa⟩, .int .i64 c])
theorem StepV.mono {F F' : HP} (hl : F.le F') {r : Res} {e : Ending} (h : StepV F r e) : StepV F' r e := by
  cases r with
  | ok v => obtain ⟨cs, h1, h2⟩ := h; exact ⟨cs, h1.mono hl, h2⟩
  | error c => exact h

section
variable {a : Base} {R : Asr} {F H : HP} {S : List Nat}

theorem mon_open {g : Nat} {e : Ex} {n : Sta} {last : Int} (h : ((sepc (monA g e n last) R)) F H S) : ∃ gt, ((sepc (blk g 66 [.pointer (some ⟨gt, 0, none⟩), .int .i64 last]) (sepc (nodeA e n gt) R))) F H S := by
  obtain ⟨S1, S2, i1, i2, idj, ⟨gt, h1⟩, h2⟩ := h
  exact ⟨gt, star_assoc ⟨S1, S2, i1, i2, idj, h1, h2⟩⟩
theorem mon_close {g gt : Nat} {e : Ex} {n : Sta} {last : Int} (h : ((sepc (blk g 66 [.pointer (some ⟨gt, 0, none⟩), .int .i64 last]) (sepc (nodeA e n gt) R))) F H S) : ((sepc (monA g e n last) R)) F H S :=
  star_mono (fun _ h => ⟨gt, h⟩) (fun _ h => h) (star_assoc' h)

theorem is89 {g : Nat} {q : Option Addr} (h : H.has ⟨g, 0, none⟩ [.pointer q]) : Pure Tryz.prog 89 #[.pointer (some ⟨g, 0, none⟩)] H (.bool (!q.isNone)) :=
  Pure.of (spec89 (WIf.t rfl (WNonNil.some (WLoad.p (by rw [addN]; exact h) ⟨rfl, HP.le.refl H⟩))))
theorem is89n : Pure Tryz.prog 89 #[.pointer none] H (.bool false) := Pure.of (spec89 (WIf.f rfl ⟨rfl, HP.le.refl H⟩))

/-- the two cells of results, read -/
theorem ret_blk {Q : Ending → W} {z1 z2 : Nat} {k n : Int} {s : ByteArray} {p : Option Addr} {l c : Nat} {e : Int} (h1 : H z1 = some (.cells ⟨vaCells k n s p l c⟩ 38 (0, 0))) (h2 : H z2 = some (.cells ⟨[.int .i64 e]⟩ 39 (0, 0)))
    (hQ : Q (.returned (.tuple #[.agg ⟨vaCells k n s p l c⟩, .int .i64 e])) H) : WRet Q ⟨z1, 0, none⟩ ⟨z2, 0, none⟩ H :=
  ⟨(k, n, s, (p, l, c), ()), has_cells (vs := vaCells k n s p l c) h1 rfl, ⟨e, has_cells (vs := [.int .i64 e]) h2 rfl, hQ⟩⟩

theorem nobody27 {q : Option Addr} {gs : Option Addr} {x : Mo} (h : Pure Tryz.prog 89 #[.pointer q] H (.bool false)) (hle : ∀ H', H.le H' → Pure Tryz.prog 89 #[.pointer q] H' (.bool false)) :
    Pure Tryz.prog 27 #[.pointer q, .pointer gs, moV x] H (.tuple #[.agg ⟨flat zeroVa⟩, .int .i64 9]) := by
  refine Pure.of (spec27 fun z1 hz1 => fun z2 hz2 => ?_)
  have start : Wd ⟨H, H, []⟩ emp' H H [] := Wd.start ⟨HP.le.refl H, fun _ h => by simp at h, fun _ h => by simp at h⟩ trivial
  have w1 := Wd.new (o := .cells ⟨[(.int .i64 0), (.int .i64 0), (.string (ByteArray.mk #[])), (.slice none 0 0)]⟩ 38 (0, 0)) Good.emp start hz1
  have w2 := Wd.new (o := .cells ⟨[.int .i64 0]⟩ 39 (0, 0)) (Good.star Good.obj Good.emp) w1 hz2
  refine WCall.pure (hle _ w2.wd.le) (WOpen.b (WIf.t rfl ?_))
  refine WStore.blk (e := 38) (l := [(.int .i64 0), (.int .i64 0), (.string (ByteArray.mk #[])), (.slice none 0 0)]) (Good.star Good.obj Good.emp) (w2.imp star_left) (by simp) fun H3 h3 => ?_
  refine WStore.blk (e := 39) (l := [.int .i64 0]) (Good.star Good.blk Good.emp) (h3.imp star_left) (by simp) fun H4 h4 => ?_
  exact ret_blk (blk_at (star_left h4.it)) (blk_at h4.it) ⟨rfl, h4.wd.le⟩

theorem step27 {g gs : Nat} {e : Ex} {n : Sta} {last : Int} {σ : Sto} {x : Mo} {M : Nat} (gr : Good R) (h : Wd a ((sepc (monA g e n last) (sepc (storeA gs σ) R))) F H S) (ok : σ.Ok) (hx : x.Ok) (hM : M < 800000000) (hm : e.may = true) (hsh : e.Short) (hok : Sta.Ok M e n) :
    Den.Spec Tryz.prog 27 #[.pointer (some ⟨g, 0, none⟩), .pointer (some ⟨gs, 0, none⟩), moV x] H fun e' H' => ∃ F' S', StepV F' (Sta.eval σ { x with a := maxI last x.a } e n).1 e' ∧ F.le F' ∧
      Wd a ((sepc (monA g e (Sta.eval σ { x with a := maxI last x.a } e n).2 (maxI last x.a)) (sepc (storeA gs σ) R))) F' H' S' := by
  obtain ⟨gt, h0⟩ := mon_open h.it
  have gnode : Good ((sepc (nodeA e n gt) (sepc (storeA gs σ) R))) := Good.star Good.node (Good.star Good.store gr)
  refine spec27 (WNew.blk (Good.star Good.blk gnode) ⟨h.wd, h.tr, h0⟩ fun z1 H1 hz1 _ h1 => WNew.blk (Good.star Good.blk (Good.star Good.blk gnode)) h1 fun z2 H2 hz2 _ h2 => ?_)
  have h2' := h2.imp bring3
  refine WCall.pure (is89 (q := some ⟨gt, 0, none⟩) (blk_has h2'.it rfl)) (WOpen.b (WIf.f rfl (WNonNil.some (WLoad.i (n := last) (by rw [addN]; exact blk_has h2'.it rfl) (WNonNil.some ?_)))))
  rw [addN]
  refine WStore.blk (Good.star Good.blk (Good.star Good.blk gnode)) h2' (by simp) fun H3 h3 => ?_
  have h3 : Wd a ((sepc (blk g 66 [.pointer (some ⟨gt, 0, none⟩), .int .i64 (maxI last x.a)]) (sepc (blk z2 39 [.int .i64 0]) (sepc (blk z1 38 [(.int .i64 0), (.int .i64 0), (.string (ByteArray.mk #[])), (.slice none 0 0)]) (sepc (nodeA e n gt) (sepc (storeA gs σ) R)))))) F H3 (z2 :: z1 :: S) := h3
  refine WNonNil.some (WLoad.i (n := maxI last x.a) (by rw [addN]; exact blk_has h3.it rfl) (WNonNil.some (WLoad.p (n := some ⟨gt, 0, none⟩) (by rw [addN]; exact blk_has h3.it rfl) ?_)))
  have h4 : Wd a ((sepc (nodeA e n gt) (sepc (storeA gs σ) (sepc (blk g 66 [.pointer (some ⟨gt, 0, none⟩), .int .i64 (maxI last x.a)]) (sepc (blk z2 39 [.int .i64 0]) (sepc (blk z1 38 [(.int .i64 0), (.int .i64 0), (.string (ByteArray.mk #[])), (.slice none 0 0)]) R)))))) F H3 (z2 :: z1 :: S) :=
    h3.imp fun hh => under (bring4 hh) fun _ h => bring4 h
  have fin : ∀ {F' H' : HP} {S' : List Nat} {n' : Sta} {cs : List Value} {c : Int} {k' m' : Int} {s' : ByteArray} {p' : Option Addr} {l' c' : Nat} {r : Res}, cs = vaCells k' m' s' p' l' c' → F.le F' →
      Wd a ((sepc (nodeA e n' gt) (sepc (storeA gs σ) (sepc (blk g 66 [.pointer (some ⟨gt, 0, none⟩), .int .i64 (maxI last x.a)]) (sepc (blk z2 39 [.int .i64 0]) (sepc (blk z1 38 [(.int .i64 0), (.int .i64 0), (.string (ByteArray.mk #[])), (.slice none 0 0)]) R)))))) F' H' S' →
      StepV F' r (.returned (.tuple #[.agg ⟨cs⟩, .int .i64 c])) →
      WStore ⟨z1, 0, none⟩ cs (WStore ⟨z2, 0, none⟩ [.int .i64 c] (WRet (fun e' H' => ∃ F' S', StepV F' r e' ∧ F.le F' ∧ Wd a ((sepc (monA g e n' (maxI last x.a)) (sepc (storeA gs σ) R))) F' H' S') ⟨z1, 0, none⟩ ⟨z2, 0, none⟩)) H' := by
    intro F' H' S' n' cs c k' m' s' p' l' c' r hcs hle hw hv
    subst hcs
    have q1 : Wd a ((sepc (blk z1 38 [(.int .i64 0), (.int .i64 0), (.string (ByteArray.mk #[])), (.slice none 0 0)]) (sepc (blk z2 39 [.int .i64 0]) (sepc (blk g 66 [.pointer (some ⟨gt, 0, none⟩), .int .i64 (maxI last x.a)]) (sepc (nodeA e n' gt) (sepc (storeA gs σ) R)))))) F' H' S' :=
      hw.imp fun hh => star_left (under (bring4 hh) fun _ h => under (bring4 (under h fun _ h => under h fun _ h => h)) fun _ h => under (bring3 h) fun _ h => h) |> fun hh => hh
    have gn' : Good ((sepc (blk g 66 [.pointer (some ⟨gt, 0, none⟩), .int .i64 (maxI last x.a)]) (sepc (nodeA e n' gt) (sepc (storeA gs σ) R)))) := Good.star Good.blk (Good.star Good.node (Good.star Good.store gr))
    refine WStore.blk (Good.star Good.blk gn') q1 (by simp [vaCells]) fun H5 h5 => ?_
    refine WStore.blk (Good.star Good.blk gn') (h5.imp star_left) (by simp) fun H6 h6 => ?_
    refine ret_blk (k := k') (n := m') (s := s') (p := p') (l := l') (c := c') (e := c) (blk_at (star_left h6.it)) (blk_at h6.it) ⟨F', S', hv, hle, h6.imp fun hh => mon_close (star_snd gn' (star_snd (Good.star Good.blk gn') hh))⟩
  refine WCall.of (eval91 ok (x := { x with a := maxI last x.a }) hx hM e.size e (Nat.le_refl _) (Good.star Good.blk (Good.star Good.blk (Good.star Good.blk gr))) h4 hm hsh hok) ?_ ?_
  · rintro v H' ⟨F', S', hr, hle, hw⟩
    cases hres : (Sta.eval σ { x with a := maxI last x.a } e n).1 with
    | error c => rw [hres] at hr; cases hr
    | ok u =>
      rw [hres] at hr
      obtain ⟨cs, hv, hu⟩ := hr
      cases hv
      have hu' := hu
      obtain ⟨p', c', rfl, hp'⟩ := hu
      exact WOpen.va (fin rfl hle hw ⟨_, hu', rfl⟩)
  · rintro e' H' ⟨F', S', hr, hle, hw⟩ hne
    cases hres : (Sta.eval σ { x with a := maxI last x.a } e n).1 with
    | ok u => rw [hres] at hr; obtain ⟨cs, hv, _⟩ := hr; exact absurd hv (hne _)
    | error c =>
      rw [hres] at hr
      exact .inl ⟨c, hr, fin rfl hle hw rfl⟩
end
end Go.Proofs.YtmidcnfnmnhifaaGreat

/-
  ast.Clone; monitor.grow, New.
-/
namespace Go.Proofs.YtmidcnfnmnhifaaGreat
set_option linter.unusedSectionVars false
set_option linter.unusedSimpArgs false
set_option linter.unusedVariables false
open Go Go.Den
set_option linter.unusedVariables false

theorem ExsAt.mk {H : HP} {p : Option Addr} : ∀ {es : List Ex} {i : Nat}, (∀ (j : Nat) (e : Ex), es[j]? = some e → ∃ x cs, p = some x ∧ H.has (x.add ((i + j) * 6)) cs ∧ e.At H cs) → ExsAt H es p i
  | [], _, _ => by simp [ExsAt]
  | e :: es, i, h => by
    simp only [ExsAt]
    refine ⟨h 0 e rfl, ExsAt.mk fun j e' hj => ?_⟩
    have := h (j + 1) e' (by simpa using hj)
    rwa [show i + (j + 1) = i + 1 + j by omega] at this

theorem Ex.At.len {F : HP} {e : Ex} {cs : List Value} (h : e.At F cs) : cs.length = 6 := by
  obtain ⟨k, s, n, x, y, ks⟩ := e
  obtain ⟨p, c, rfl⟩ := Ex.At.cells h
  rfl

/-- expressions, in cells one behind the other -/
def AtL (F : HP) (es : List Ex) (xs : List Value) : Prop := ∀ (j : Nat) (e : Ex), es[j]? = some e → ∃ cs, (xs.drop (j * 6)).take 6 = cs ∧ e.At F cs
theorem AtL.snoc {F F' : HP} (hl : F.le F') {es : List Ex} {xs : List Value} (h : AtL F es xs) (hlen : xs.length = es.length * 6) {e : Ex} {cs : List Value} (he : e.At F' cs) : AtL F' (es ++ [e]) (xs ++ cs) := by
  intro j e' hj
  rcases Nat.lt_or_ge j es.length with hlt | hge
  · rw [List.getElem?_append_left hlt] at hj
    obtain ⟨cs', h1, h2⟩ := h j e' hj
    refine ⟨cs', ?_, h2.mono hl⟩
    rw [List.drop_append_of_le_length (by omega), List.take_append_of_le_length (by simp; omega), h1]
  · rw [List.getElem?_append_right hge] at hj
    have hj0 : j - es.length = 0 := by
      rcases Nat.eq_zero_or_pos (j - es.length) with h | h
      · exact h
      · rw [List.getElem?_eq_none (by simp; omega)] at hj; cases hj
    rw [hj0] at hj
    simp at hj
    subst hj
    have : j = es.length := by omega
    subst this
    refine ⟨cs, ?_, he⟩
    rw [← hlen, List.drop_left, List.take_of_length_le (by have := he.len; omega)]

theorem one_cells {k n x y : Int} {s : ByteArray} {p : Option Addr} {l c : Nat} : ∀ u ∈ exCells k s n x y p l c, u.oneCell' = true := by
  intro u hu
  simp only [exCells, List.mem_cons, List.not_mem_nil, or_false] at hu
  rcases hu with rfl | rfl | rfl | rfl | rfl | rfl <;> rfl

theorem own_new {a : Base} {R : Asr} {F H : HP} {S : List Nat} {e : TypeId} {size n c : Nat} {p : Option Addr} {xs : List Value} (hS : a.S = []) (h : Wd a ((sepc (ownS e size p n c xs) R)) F H S) : ∀ g, p = some ⟨g, 0, none⟩ → a.H g = none := by
  intro g hp
  obtain ⟨wd, tr, S1, S2, i1, i2, idj, ⟨_, hA⟩, _⟩ := h
  rcases hA with ⟨rfl, _⟩ | ⟨g', cur, h1, h2, _⟩
  · cases hp
  · rw [hp] at h1
    cases h1
    rcases tr.newS g (i1 g h2) with h | h
    · rw [hS] at h; simp at h
    · exact h

theorem clone81 : ∀ (N : Nat) (e : Ex), e.size ≤ N → N < 1000000000000 → ∀ {H : HP} {cs : List Value}, e.At H cs →
    Den.Spec Tryz.prog 81 #[.agg ⟨cs⟩] H fun e' H' => ∃ v, e' = .returned v ∧ (∃ cs', v = .agg ⟨cs'⟩ ∧ e.At H' cs') ∧ H.le H' := by
  intro N
  induction N with
  | zero => intro e he; have := e.size_pos; omega
  | succ N ih =>
    intro e he hN H cs hat
    obtain ⟨k, s, n, x, y, ks⟩ := e
    simp only [Ex.At] at hat
    obtain ⟨p, c, rfl, hks⟩ := hat
    simp only [Ex.size] at he
    have hlen := sizes_length ks
    refine spec81 (a0_0 := k) (a0_1 := s) (a0_2 := n) (a0_3 := x) (a0_4 := y) (a0_5a := p) (a0_5n := ks.length) (a0_5c := c) ?_
    unfold W81
    have start : Wd ⟨H, H, []⟩ ((sepc (ownS 24 6 none 0 0 []) emp')) H H [] := Wd.start ⟨HP.le.refl H, fun _ h => by simp at h, fun _ h => by simp at h⟩ (star_emp ownS_nil)
    refine WLoop.run ks.length (fun x => x.1.2.1.toNat) (fun i x H' => ∃ q m F S xs, x = (((q, (i, m)), ((i : Int), ())), ()) ∧ Wd ⟨H, H, []⟩ ((sepc (ownS 24 6 q i m xs) emp')) F H' S ∧ AtL F (ks.take i) xs ∧ xs.length = i * 6) 0
      ⟨none, 0, H, [], [], rfl, start, fun j e h => by simp at h, rfl⟩ (Nat.zero_le _) (by rintro i x H ⟨q, m, F, S, xs, rfl, _⟩; simp) ?_
    rintro i x' H1 again - hi ⟨q, m, F, S, xs, rfl, hw, hxs, hxl⟩ hag
    by_cases hlt : i < ks.length
    · refine WIf.t (by simpa using hlt) ?_
      obtain ⟨ad, cs, hp, hcs, hat⟩ := hks.get i ks[i] (by simp [hlt])
      have hdi : ks[i].size ≤ N := by have := sizes_ge ks ks[i] (List.getElem_mem hlt); omega
      refine WIndex.at' hp hlt ?_
      have hgrow := ih ks[i] hdi (by omega) (H := F) (hat.mono hw.tr.le)
      have htake : ks.take (i + 1) = ks.take i ++ [ks[i]] := List.take_succ_eq_append_getElem hlt
      generalize hki : ks[i] = e' at hat hgrow htake hdi
      obtain ⟨k', s', n', x'', y', ks'⟩ := e'
      obtain ⟨p', c', rfl⟩ := Ex.At.cells hat
      refine WLoad.ex (by rw [Nat.zero_add] at hcs; simpa using (hw.tr.le.trans hw.wd.le).has hcs) ?_
      refine WCall.grow (Good.star Good.ownS Good.emp) hw hgrow ?_
      rintro v F2 H2 ⟨cs2, rfl, hcs2⟩ hle2 hw2
      obtain ⟨p2, c2, rfl⟩ := Ex.At.cells hcs2
      refine WOpen.ex ?_
      refine WNew.blk (Good.star Good.ownS Good.emp) hw2 fun z H3 hz hle3 hw3 => ?_
      refine SliceTy.push sliceExpr (by decide) (Good.star Good.blk Good.emp) (hw3.imp star_left) (m := 1) (news := exCells k' s' n' x'' y' p2 ks'.length c2) rfl (blk_has hw3.it rfl) one_cells (by simp only [maxLen]; omega) (by omega) ?_
      intro p4 cap H4 S4 hw4 _
      refine WOpen.sl ?_
      simp only [wrapS (show i < 1000000000000 by omega)]
      refine hag _ _ hlt ⟨p4, cap, F2, S4, xs ++ exCells k' s' n' x'' y' p2 ks'.length c2, rfl, hw4.imp fun hh => star_mono (fun _ h => h) (fun _ _ => trivial) hh, ?_, by simp [hxl, exCells]; omega⟩
      rw [htake]
      exact hxs.snoc hle2 (by rw [hxl]; simp; omega) hcs2
    · refine WIf.f (by simpa using hlt) ?_
      have hil : i = ks.length := by omega
      subst hil
      rw [List.take_length] at hxs
      obtain ⟨F', S', hw', hle, hcell⟩ := hw.freezeS Good.emp (own_new rfl hw)
      refine ⟨_, rfl, ⟨exCells k s n x y q ks.length m, rfl, ?_⟩, (hw.tr.le.trans hle).trans hw'.wd.le⟩
      simp only [Ex.At]
      refine ⟨q, m, rfl, ExsAt.mk fun j e hj => ?_⟩
      obtain ⟨cs, h1, h2⟩ := hxs j e hj
      have h6 := h2.len
      obtain ⟨g, hq, hh⟩ := hcell (j * 6) cs (by rw [h6]; exact h1) (by intro h; rw [h] at h6; cases h6)
      exact ⟨⟨g, 0, none⟩, cs, hq, by rw [Nat.zero_add, addN, Nat.zero_add]; exact hw'.wd.le.has hh, h2.mono (hle.trans hw'.wd.le)⟩

mutual
/-- a node just grown -/
def Sta.new : Ex → Sta
  | .mk k _ _ y z eks => .mk (news eks) (if k = 22 ∨ k = 23 then some (startW y z) else none) (if k = 24 then some (startW y z) else none) (if k = 13 then some ⟨0, maxI z 0, 0, []⟩ else none) false
def news : List Ex → List Sta
  | [] => []
  | e :: es => Sta.new e :: news es
end
theorem news_length : ∀ es : List Ex, (news es).length = es.length
  | [] => rfl
  | e :: es => by simp [news, news_length es]
theorem news_append : ∀ es fs : List Ex, news (es ++ fs) = news es ++ news fs
  | [], fs => rfl
  | e :: es, fs => by simp [news, news_append es fs]

theorem kids_snoc {F H : HP} {e : Ex} {n : Sta} {g : Nat} : ∀ {es : List Ex} {ns : List Sta} {gs : List Nat} {S : List Nat}, ((sepc (kidsA es ns gs) (nodeA e n g))) F H S → kidsA (es ++ [e]) (ns ++ [n]) (gs ++ [g]) F H S
  | [], [], [], S, h => by simp only [List.nil_append, kidsA] at h ⊢; exact star_comm h
  | e' :: es, n' :: ns, g' :: gs, S, h => by
    simp only [List.cons_append, kidsA] at h ⊢
    exact star_mono (fun _ h => h) (fun _ h => kids_snoc h) (star_assoc h)
  | [], [], g' :: gs, S, h => by simp only [kidsA] at h; obtain ⟨_, _, _, _, _, h, _⟩ := h; exact h.elim
  | [], n' :: ns, gs, S, h => by cases gs <;> (simp only [kidsA] at h; obtain ⟨_, _, _, _, _, h, _⟩ := h; exact h.elim)
  | e' :: es, [], gs, S, h => by cases gs <;> (simp only [kidsA] at h; obtain ⟨_, _, _, _, _, h, _⟩ := h; exact h.elim)
  | e' :: es, n' :: ns, [], S, h => by simp only [kidsA] at h; obtain ⟨_, _, _, _, _, h, _⟩ := h; exact h.elim

theorem sliceNode : SliceTy Tryz.prog 160 64 1 8 := ⟨by kernel_rfl, by kernel_rfl⟩

/-- a closed call, in a larger world -/
theorem Spec.apart {f : FuncId} {args : Array Value} {a : Base} {R : Asr} {F H : HP} {S : List Nat} {α : Type} {ret : α → Value} {A : α → Asr} (gr : Good R) (h : Wd a R F H S)
    (hs : Den.Spec Tryz.prog f args H fun e H' => ∃ x F' S', e = .returned (ret x) ∧ Wd ⟨F, H, []⟩ (A x) F' H' S') :
    Den.Spec Tryz.prog f args H fun e H' => ∃ x F' S', e = .returned (ret x) ∧ F.le F' ∧ Wd a ((sepc (A x) R)) F' H' S' := by
  refine hs.mono ?_
  rintro e H' ⟨x, F', S', he, hw⟩
  exact ⟨x, F', S' ++ S, he, hw.tr.le, h.trans (Wd.part (A := emp') (S1 := []) (S2 := S) gr h.wd (fun _ h => by simp at h) (fun _ h => h) (fun _ h => by simp at h) h.it hw)⟩

theorem WHeld.one {a : Addr} {vs : List Value} {k : W} {H : HP} (h : H.has a vs) (hk : k H) : WHeld [(a, vs)] k H := ⟨fun x hx => by simp at hx; subst hx; exact h, hk⟩
theorem WHeld.two {a b : Addr} {vs us : List Value} {k : W} {H : HP} (h : H.has a vs) (h2 : H.has b us) (hk : k H) : WHeld [(a, vs), (b, us)] k H := ⟨fun x hx => by
  simp at hx
  rcases hx with rfl | rfl
  · exact h
  · exact h2, hk⟩
theorem bring5 {A B C D E E' : Asr} {F H : HP} {S : List Nat} (h : ((sepc A (sepc B (sepc C (sepc D (sepc E E')))))) F H S) : ((sepc E (sepc A (sepc B (sepc C (sepc D E')))))) F H S := star_left (star_mono (fun _ h => h) (fun _ h => bring4 h) h)

def ptrs (gl : List Nat) : List Value := gl.map fun g => .pointer (some ⟨g, 0, none⟩)

theorem node_fin {a : Base} {F H : HP} {S : List Nat} {k n y z : Int} {nm : ByteArray} {eks : List Ex} {ks : List Sta} {o s t : Option Wi} {prev : Bool} {g : Nat} {q : Option Addr} {kl m : Nat} {gl : List Nat} {cs : List Value} {po ps pt : Option Nat} (hS : a.S = [])
    (he : (Ex.mk k nm n y z eks).At F cs) (hkl : kl = ks.length)
    (h : Wd a ((sepc (blk g 165 (cs ++ [.slice q kl m, .pointer (ptr po), .pointer (ptr ps), .pointer (ptr pt), .bool prev])) (sepc (winO 259 po o) (sepc (winO 260 ps s) (sepc (talO pt t) (sepc (ownS 64 1 q kl m (ptrs gl)) (kidsA eks ks gl))))))) F H S) :
    ∃ F' S', Wd a (nodeA (.mk k nm n y z eks) (.mk ks o s t prev) g) F' H S' := by
  have h1 := h.imp bring5
  obtain ⟨F', S', hw, hle, hcell⟩ := h1.freezeS (Good.star Good.blk (Good.star Good.winO (Good.star Good.winO (Good.star Good.talO Good.kids)))) (own_new hS h1)
  refine ⟨F', S', hw.imp fun hh => star_fst (B := emp') Good.node (nodeA_close (kp := q) (kc := m) (gl := gl) (fun i g' hg => ?_) hkl (nodB_mk (po := po) (ps := ps) (pt := pt) (he.mono hle) ?_))⟩
  · obtain ⟨g0, h1, h2⟩ := hcell i [.pointer (some ⟨g', 0, none⟩)] (by
      unfold ptrs
      have hlt : i < gl.length := (List.getElem?_eq_some_iff.1 hg).1
      rw [List.drop_eq_getElem_cons (by simpa using hlt)]
      simp [(List.getElem?_eq_some_iff.1 hg).2]) (by simp)
    exact ⟨_, h1, by rw [addN, Nat.zero_add]; exact h2⟩
  · exact under hh fun _ h => under h fun _ h => under h fun _ h => under h fun _ h => star_emp h

theorem node_kids_end {P : Prop} {F H : HP} {S : List Nat} {e : Ex} {n : Sta} {g z : Nat} {u : List Value} {es : List Ex} {ns : List Sta} {gs : List Nat} (h : ((sepc (blk z 64 u) (sepc (nodeA e n g) (kidsA es ns gs)))) F H S) : kidsA (es ++ [e]) (ns ++ [n]) (gs ++ [g]) F H S :=
  kids_snoc (star_comm (star_snd (Good.star Good.node Good.kids) h))

theorem grow80 : ∀ (N : Nat) (e : Ex), e.size ≤ N → N < 1000000000000 → ∀ {F H : HP} {cs : List Value}, F.le H → e.At F cs →
    Den.Spec Tryz.prog 80 #[.agg ⟨cs⟩] H fun e' H' => ∃ g F' S', e' = .returned (.pointer (some ⟨g, 0, none⟩)) ∧ Wd ⟨F, H, []⟩ (nodeA e (Sta.new e) g) F' H' S' := by
  intro N
  induction N with
  | zero => intro e he; have := e.size_pos; omega
  | succ N ih =>
    intro e he hN F H cs hFH hat
    obtain ⟨k, s, n, x, y, ks⟩ := e
    have hat0 := hat
    simp only [Ex.At] at hat
    obtain ⟨p, c, rfl, hks⟩ := hat
    simp only [Ex.size] at he
    have hlen := sizes_length ks
    refine spec80 (a0_0 := k) (a0_1 := s) (a0_2 := n) (a0_3 := x) (a0_4 := y) (a0_5a := p) (a0_5n := ks.length) (a0_5c := c) ?_
    unfold W80
    have start : Wd ⟨F, H, []⟩ emp' F H [] := Wd.start ⟨hFH, fun _ h => by simp at h, fun _ h => by simp at h⟩ trivial
    refine WNew.blk Good.emp start fun z H1 hz hle h1 => ?_
    let I : Nat → Option Addr → Nat → List Nat → Asr := fun i q m gl => (sepc (blk z 165 (exCells k s n x y p ks.length c ++ [.slice q i m, .pointer none, .pointer none, .pointer none, .bool false])) (sepc (ownS 64 1 q i m (ptrs gl)) (kidsA (ks.take i) (news (ks.take i)) gl)))
    have gI : ∀ {i q m gl}, Good (I i q m gl) := Good.star Good.blk (Good.star Good.ownS Good.kids)
    refine WLoop.run ks.length (fun x => x.1.1.toNat) (fun i x H' => ∃ q m F' S gl, x = (((i : Int), ()), ()) ∧ Wd ⟨F, H, []⟩ (I i q m gl) F' H' S) 0
      ⟨none, 0, F, _, [], rfl, h1.imp fun hh => star_mono (fun _ h => h) (fun _ _ => ?_) hh⟩ (Nat.zero_le _) (by rintro i x H ⟨q, m, F, S, xs, rfl, _⟩; simp) ?_
    · simp only [List.take_zero, news, kidsA]
      exact star_emp ownS_nil
    rintro i x' H1 again - hi ⟨q, m, F1, S, gl, rfl, hw⟩ hag
    by_cases hlt : i < ks.length
    · refine WIf.t (by simpa using hlt) ?_
      obtain ⟨ad, cs, hp, hcs, hat⟩ := hks.get i ks[i] (by simp [hlt])
      have hdi : ks[i].size ≤ N := by have := sizes_ge ks ks[i] (List.getElem_mem hlt); omega
      refine WIndex.at' hp hlt ?_
      have hgrow := ih ks[i] hdi (by omega) (F := F1) (H := H1) hw.wd.le (hat.mono hw.tr.le)
      have htake : ks.take (i + 1) = ks.take i ++ [ks[i]] := List.take_succ_eq_append_getElem hlt
      generalize hki : ks[i] = e' at hat hgrow htake hdi
      obtain ⟨p', c', k', s', n', x'', y', ks', rfl, rfl⟩ : ∃ p' c' k' s' n' x'' y' ks', e' = Ex.mk k' s' n' x'' y' ks' ∧ cs = exCells k' s' n' x'' y' p' ks'.length c' := by
        obtain ⟨k', s', n', x'', y', ks'⟩ := e'
        obtain ⟨p', c', rfl⟩ := Ex.At.cells hat
        exact ⟨_, _, _, _, _, _, _, _, rfl, rfl⟩
      refine WLoad.ex (by rw [Nat.zero_add] at hcs; simpa using (hw.tr.le.trans hw.wd.le).has hcs) ?_
      refine WLoad.sl (p := q) (n := i) (c := m) (by rw [addN]; exact blk_has hw.it rfl) ?_
      refine WCall.of (Spec.apart (ret := fun g => .pointer (some ⟨g, 0, none⟩)) (A := fun g => nodeA (Ex.mk k' s' n' x'' y' ks') (Sta.new (Ex.mk k' s' n' x'' y' ks')) g) gI hw hgrow) ?_ (by rintro e H' ⟨g, F', S', hv, _⟩ hne; exact absurd hv (hne _))
      rintro v H2 ⟨g, F2, S2, hv, hle2, hw2⟩
      cases hv
      refine WOpen.p (WHeld.one (by rw [addN]; exact blk_has (star_left hw2.it) rfl) ?_)
      refine WNew.blk (Good.star Good.node gI) hw2 fun z7 H3 hz7 hle3 hw3 => WHeld.one (by rw [addN]; exact blk_has (bring3 hw3.it) rfl) ?_
      refine SliceTy.push sliceNode (by decide) (Good.star Good.blk (Good.star Good.node (Good.star Good.blk Good.kids))) (hw3.imp bring4) (m := 1) (news := [.pointer (some ⟨g, 0, none⟩)]) rfl (blk_has hw3.it rfl) (by simp [Value.oneCell']) (by simp only [maxLen]; omega) (by omega) ?_
      intro p4 cap H4 S4 hw4 _
      refine WOpen.sl ?_
      rw [addN]
      refine WStore.blk (Good.star Good.ownS (Good.star Good.blk (Good.star Good.node Good.kids))) (hw4.imp bring4) (by simp [exCells]) fun H5 hw5 => ?_
      simp only [wrapS (show i < 1000000000000 by omega)]
      refine hag _ _ hlt ⟨p4, cap, F2, S4, gl ++ [g], rfl, hw5.imp fun hh => under (C := (sepc (ownS 64 1 p4 (i + 1) cap (ptrs (gl ++ [g]))) (kidsA (ks.take (i + 1)) (news (ks.take (i + 1))) (gl ++ [g])))) hh fun _ h => ?_⟩
      rw [htake, news_append]
      have : ptrs (gl ++ [g]) = ptrs gl ++ [.pointer (some ⟨g, 0, none⟩)] := by simp [ptrs]
      rw [this]
      exact under h fun _ h => node_kids_end (P := True) h
    · refine WIf.f (by simpa using hlt) ?_
      have hil : i = ks.length := by omega
      subst hil
      have hw : Wd ⟨F, H, []⟩ ((sepc (blk z 165 (exCells k s n x y p ks.length c ++ [.slice q ks.length m, .pointer none, .pointer none, .pointer none, .bool false])) (sepc (ownS 64 1 q ks.length m (ptrs gl)) (kidsA ks (news ks) gl)))) F1 H1 S := by
        have : I ks.length q m gl = ((sepc (blk z 165 (exCells k s n x y p ks.length c ++ [.slice q ks.length m, .pointer none, .pointer none, .pointer none, .bool false])) (sepc (ownS 64 1 q ks.length m (ptrs gl)) (kidsA ks (news ks) gl)))) := by
          show ((sepc _ (sepc _ (kidsA (ks.take ks.length) (news (ks.take ks.length)) gl)))) = _
          rw [List.take_length]
        rw [← this]
        exact hw
      have hat1 : (Ex.mk k s n x y ks).At F1 (exCells k s n x y p ks.length c) := hat0.mono hw.tr.le
      have gB : Good ((sepc (blk z 165 (exCells k s n x y p ks.length c ++ [.slice q ks.length m, .pointer none, .pointer none, .pointer none, .bool false])) (sepc (ownS 64 1 q ks.length m (ptrs gl)) (kidsA ks (news ks) gl)))) := Good.star Good.blk (Good.star Good.ownS Good.kids)
      have hlk : ks.length = (news ks).length := (news_length ks).symm
      have once : (k = 22 ∨ k = 23) → WCall Tryz.prog (fun (e' : Ending) H' => ∃ g F' S', e' = .returned (.pointer (some ⟨g, 0, none⟩)) ∧ Wd ⟨F, H, []⟩ (nodeA (.mk k s n x y ks) (Sta.new (.mk k s n x y ks)) g) F' H' S') 146 #[(.int .i64 x), (.int .i64 y)] (WOpen (.one (.l .p)) fun (x9 : Option Go.Addr) =>
          WStore (Addr.add ⟨z, 0, none⟩ 7) [(.pointer x9)] <|
          (fun (e' : Ending) H' => ∃ g F' S', e' = .returned (.pointer (some ⟨g, 0, none⟩)) ∧ Wd ⟨F, H, []⟩ (nodeA (.mk k s n x y ks) (Sta.new (.mk k s n x y ks)) g) F' H' S') (.returned (.pointer (some ⟨z, 0, none⟩)))) H1 := by
        intro hk
        refine WCall.of (newOnce146 x y gB hw) ?_ (by rintro e H' ⟨g, S', hv, _⟩ hne; exact absurd hv (hne _))
        rintro v H2 ⟨g, S2, hv, hw2⟩
        cases hv
        refine WOpen.p ?_
        rw [addN]
        refine WStore.blk (Good.star Good.win (Good.star Good.ownS Good.kids)) (hw2.imp star_left) (by simp [exCells]) fun H3 hw3 => ?_
        obtain ⟨F', S', hf⟩ := node_fin (po := some g) (ps := none) (pt := none) (o := some (startW x y)) (s := none) (t := none) (prev := false) rfl hat1 hlk (hw3.imp fun hh => under hh fun _ h => under h fun _ h => emp_star (emp_star h))
        refine ⟨z, F', S', rfl, ?_⟩
        rw [Sta.new, if_pos hk, if_neg (by omega), if_neg (by omega)]
        exact hf
      by_cases k22 : k = 22
      · exact WIf.t (by simp [k22]) (once (.inl k22))
      refine WIf.f (by simp [k22]) ?_
      by_cases k23 : k = 23
      · exact WIf.t (by simp [k23]) (once (.inr k23))
      refine WIf.f (by simp [k23]) ?_
      by_cases k24 : k = 24
      · refine WIf.t (by simp [k24]) ?_
        refine WCall.of (newSince147 x y gB hw) ?_ (by rintro e H' ⟨g, S', hv, _⟩ hne; exact absurd hv (hne _))
        rintro v H2 ⟨g, S2, hv, hw2⟩
        cases hv
        refine WOpen.p ?_
        rw [addN]
        refine WStore.blk (Good.star Good.win (Good.star Good.ownS Good.kids)) (hw2.imp star_left) (by simp [exCells]) fun H3 hw3 => ?_
        obtain ⟨F', S', hf⟩ := node_fin (po := none) (ps := some g) (pt := none) (o := none) (s := some (startW x y)) (t := none) (prev := false) rfl hat1 hlk (hw3.imp fun hh => under hh fun _ h => emp_star (under h fun _ h => emp_star h))
        refine ⟨z, F', S', rfl, ?_⟩
        rw [Sta.new, if_neg (by omega), if_pos k24, if_neg (by omega)]
        exact hf
      refine WIf.f (by simp [k24]) ?_
      by_cases k13 : k = 13
      · refine WIf.t (by simp [k13]) ?_
        refine WCall.of (newTally148 y gB hw) ?_ (by rintro e H' ⟨g, S', hv, _⟩ hne; exact absurd hv (hne _))
        rintro v H2 ⟨g, S2, hv, hw2⟩
        cases hv
        refine WOpen.p ?_
        rw [addN]
        refine WStore.blk (Good.star Good.tal (Good.star Good.ownS Good.kids)) (hw2.imp star_left) (by simp [exCells]) fun H3 hw3 => ?_
        obtain ⟨F', S', hf⟩ := node_fin (po := none) (ps := none) (pt := some g) (o := none) (s := none) (t := some ⟨0, maxI y 0, 0, []⟩) (prev := false) rfl hat1 hlk (hw3.imp fun hh => under hh fun _ h => emp_star (emp_star h))
        refine ⟨z, F', S', rfl, ?_⟩
        rw [Sta.new, if_neg (by omega), if_neg k24, if_pos k13]
        exact hf
      refine WIf.f (by simp [k13]) ?_
      obtain ⟨F', S', hf⟩ := node_fin (po := none) (ps := none) (pt := none) (o := none) (s := none) (t := none) (prev := false) rfl hat1 hlk (hw.imp fun hh => under hh fun _ h => emp_star (emp_star (emp_star h)))
      refine ⟨z, F', S', rfl, ?_⟩
      rw [Sta.new, if_neg (by omega), if_neg k24, if_neg k13]
      exact hf

theorem sta_new_ok : ∀ N, (∀ e : Ex, e.size ≤ N → Sta.Ok 0 e (Sta.new e)) ∧ (∀ es : List Ex, sizes es ≤ N → StasOk 0 es (news es)) := by
  intro N
  induction N with
  | zero =>
    refine ⟨fun e he => by have := e.size_pos; omega, fun es he => ?_⟩
    cases es with
    | nil => simp only [news, StasOk]
    | cons e es => simp only [sizes] at he; have := e.size_pos; omega
  | succ N ih =>
    have hn : ∀ e : Ex, e.size ≤ N + 1 → Sta.Ok 0 e (Sta.new e) := by
      intro e he
      obtain ⟨k, nm, m, y, z, eks⟩ := e
      simp only [Ex.size] at he
      simp only [Sta.new, Sta.Ok]
      refine ⟨⟨fun h => ⟨_, if_pos h⟩, fun h => ⟨_, if_pos h⟩, fun h => ⟨_, if_pos h⟩⟩, ⟨?_, ?_, ?_⟩, ih.2 eks (by omega)⟩ <;>
      · intro w hw
        split at hw
        · cases hw; exact Nat.le_refl 0
        · cases hw
    refine ⟨hn, fun es => ?_⟩
    induction es with
    | nil => intro _; simp only [news, StasOk]
    | cons e es ih2 =>
      intro he
      simp only [sizes] at he
      simp only [news, StasOk]
      exact ⟨hn e (by omega), ih2 (by omega)⟩

section
variable {a : Base} {R : Asr} {F H : HP} {S : List Nat}
theorem new22 {e : Ex} {cs : List Value} (gr : Good R) (h : Wd a R F H S) (hat : e.At F cs) (hN : e.size < 1000000000000) (hsh : e.Short) (hc : e.check = 0) :
    Den.Spec Tryz.prog 22 #[.agg ⟨cs⟩] H fun e' H' => ∃ g F' S', e' = .returned (.pointer (some ⟨g, 0, none⟩)) ∧ F.le F' ∧ Wd a ((sepc (monA g e (Sta.new e) 0) R)) F' H' S' := by
  have h1 := check_spec (H := H) e hN hsh cs (hat.mono h.wd.le)
  have h2 := clone81 e.size e (Nat.le_refl _) hN hat
  have h3 : ∀ {F H : HP} {cs : List Value}, F.le H → e.At F cs → Den.Spec Tryz.prog 80 #[.agg ⟨cs⟩] H fun e' H' => ∃ g F' S', e' = .returned (.pointer (some ⟨g, 0, none⟩)) ∧ Wd ⟨F, H, []⟩ (nodeA e (Sta.new e) g) F' H' S' := fun hl ha => grow80 e.size e (Nat.le_refl _) hN hl ha
  obtain ⟨k, s, n, x, y, ks⟩ := e
  obtain ⟨p, c, rfl⟩ := Ex.At.cells hat
  refine spec22 (a0_0 := k) (a0_1 := s) (a0_2 := n) (a0_3 := x) (a0_4 := y) (a0_5a := p) (a0_5n := ks.length) (a0_5c := c) (WCall.pure h1 (WOpen.i (WIf.f (by simp [hc]) ?_)))
  refine WCall.grow gr h h2 ?_
  rintro v F2 H2 ⟨cs2, rfl, hcs2⟩ hle2 hw2
  have hcs2' := hcs2
  obtain ⟨p2, c2, rfl⟩ := Ex.At.cells hcs2
  refine WOpen.ex (WCall.of (Spec.apart (ret := fun g => .pointer (some ⟨g, 0, none⟩)) (A := fun g => nodeA (Ex.mk k s n x y ks) (Sta.new (Ex.mk k s n x y ks)) g) gr hw2 (h3 hw2.wd.le hcs2')) ?_ (by rintro e H' ⟨g, F', S', hv, _⟩ hne; exact absurd hv (hne _)))
  rintro v H3 ⟨g, F3, S3, hv, hle3, hw3⟩
  cases hv
  refine WOpen.p (WNew.blk (Good.star Good.node gr) hw3 fun z H4 hz hle4 hw4 => ⟨z, F3, _, rfl, hle2.trans hle3, hw4.imp fun hh => mon_close hh⟩)
theorem new22no {e : Ex} {cs : List Value} (h : e.At H cs) (hN : e.size < 1000000000000) (hsh : e.Short) (hc : e.check ≠ 0) : Pure Tryz.prog 22 #[.agg ⟨cs⟩] H (.pointer none) := by
  have h1 := check_spec (H := H) e hN hsh cs h
  obtain ⟨k, s, n, x, y, ks⟩ := e
  obtain ⟨p, c, rfl⟩ := Ex.At.cells h
  exact Pure.of (spec22 (a0_0 := k) (a0_1 := s) (a0_2 := n) (a0_3 := x) (a0_4 := y) (a0_5a := p) (a0_5n := ks.length) (a0_5c := c) (WCall.pure h1 (WOpen.i (WIf.t (by simp [hc]) ⟨rfl, HP.le.refl H⟩))))
end
end Go.Proofs.YtmidcnfnmnhifaaGreat

/-
  monitor.Cells; the laws' alive; MonitorNobody's contract.
-/
namespace Go.Proofs.YtmidcnfnmnhifaaGreat
set_option linter.unusedSectionVars false
set_option linter.unusedSimpArgs false
set_option linter.unusedVariables false
open Go Go.Den
set_option linter.unusedVariables false

def lenO (o : Option Wi) : Int := match o with
  | none => 0
  | some w => w.d.length
mutual
/-- what a node remembers, counted -/
def Sta.cells : Ex → Sta → Int
  | .mk k _ _ _ _ eks, .mk ks o s t _ =>
    cellsL eks ks (if k = 25 then IntKind.wrap .i64 (IntKind.wrap .i64 (IntKind.wrap .i64 (lenO o + lenO s) + lenO t) + 1) else IntKind.wrap .i64 (IntKind.wrap .i64 (lenO o + lenO s) + lenO t))
def cellsL : List Ex → List Sta → Int → Int
  | e :: es, n :: ns, acc => cellsL es ns (IntKind.wrap .i64 (acc + Sta.cells e n))
  | _, _, acc => acc
end

section
variable {a : Base} {R : Asr} {F H : HP} {S : List Nat}

theorem once_cells {po : Option Nat} {o : Option Wi} (h : ((sepc (winO 259 po o) R)) F H S) : Pure Tryz.prog 150 #[.pointer (ptr po)] H (.int .i64 (lenO o)) := by
  cases po with
  | none => cases o with
    | none => exact cells150n
    | some w => obtain ⟨_, _, _, _, _, h, _⟩ := h; exact h.elim
  | some g => cases o with
    | none => obtain ⟨_, _, _, _, _, h, _⟩ := h; exact h.elim
    | some w => exact cells150 (ty := 259) h
theorem since_cells {po : Option Nat} {o : Option Wi} (h : ((sepc (winO 260 po o) R)) F H S) : Pure Tryz.prog 151 #[.pointer (ptr po)] H (.int .i64 (lenO o)) := by
  cases po with
  | none => cases o with
    | none => exact cells151n
    | some w => obtain ⟨_, _, _, _, _, h, _⟩ := h; exact h.elim
  | some g => cases o with
    | none => obtain ⟨_, _, _, _, _, h, _⟩ := h; exact h.elim
    | some w => exact cells151 (ty := 260) h
theorem tally_cells {po : Option Nat} {o : Option Wi} (h : ((sepc (talO po o) R)) F H S) : Pure Tryz.prog 152 #[.pointer (ptr po)] H (.int .i64 (lenO o)) := by
  cases po with
  | none => cases o with
    | none => exact cells152n
    | some w => obtain ⟨_, _, _, _, _, h, _⟩ := h; exact h.elim
  | some g => cases o with
    | none => obtain ⟨_, _, _, _, _, h, _⟩ := h; exact h.elim
    | some w => exact cells152 h

theorem kids_get {F H : HP} : ∀ {es : List Ex} {ns : List Sta} {gs : List Nat} {S : List Nat}, kidsA es ns gs F H S → ns.length = es.length ∧ gs.length = es.length ∧ ∀ (i : Nat) (e : Ex), es[i]? = some e → ∃ n g, ns[i]? = some n ∧ gs[i]? = some g ∧ nodeA e n g F H S
  | [], [], [], S, h => ⟨rfl, rfl, fun i e hi => by simp at hi⟩
  | e' :: es, n' :: ns, g' :: gs, S, h => by
    simp only [kidsA] at h
    obtain ⟨h1, h2, h3⟩ := kids_get (star_snd Good.kids h)
    refine ⟨by simp [h1], by simp [h2], fun i e hi => ?_⟩
    cases i with
    | zero => simp at hi; subst hi; exact ⟨n', g', rfl, rfl, star_fst Good.node h⟩
    | succ i => exact h3 i e (by simpa using hi)
  | [], [], g' :: gs, S, h => by simp only [kidsA] at h; exact h.elim
  | [], n' :: ns, gs, S, h => by cases gs <;> (simp only [kidsA] at h; exact h.elim)
  | e' :: es, [], gs, S, h => by cases gs <;> (simp only [kidsA] at h; exact h.elim)
  | e' :: es, n' :: ns, [], S, h => by simp only [kidsA] at h; exact h.elim

theorem cells92 : ∀ (N : Nat) (e : Ex), e.size ≤ N → N < 1000000000000 → ∀ {R : Asr} {F H : HP} {S : List Nat} {n : Sta} {g : Nat}, F.le H → ((sepc (nodeA e n g) R)) F H S →
    Pure Tryz.prog 92 #[.pointer (some ⟨g, 0, none⟩)] H (.int .i64 (Sta.cells e n)) := by
  intro N
  induction N with
  | zero => intro e he; have := e.size_pos; omega
  | succ N ih =>
    intro e he hN R F H S n g hFH h
    obtain ⟨k, nm, m, y, z, eks⟩ := e
    obtain ⟨ks, o, s, t, prev⟩ := n
    simp only [Ex.size] at he
    have hlen := sizes_length eks
    obtain ⟨kp, kc, gl, hkp, hb⟩ := nodeA_open h
    obtain ⟨p, c, po, ps, pt, hex, _, hkind, hkids, ho, hs, ht, _, hparts⟩ := nodB_has hb
    obtain ⟨_, _, _, _, _, _, T1, T2, _, _, _, hk, _⟩ := id hb
    obtain ⟨hl1, hl2, hget⟩ := kids_get hk
    refine Pure.of (spec92 (WNonNil.some (WLoad.p (n := ptr po) (by rw [addN]; exact ho) (WNonNil.some (WLoad.p (n := ptr ps) (by rw [addN]; exact hs) (WNonNil.some (WLoad.p (n := ptr pt) (by rw [addN]; exact ht) ?_)))))))
    refine WCall.pure (once_cells (star_left hparts)) (WOpen.i (WHeld.two (by rw [addN]; exact ht) (by rw [addN]; exact hs) ?_))
    refine WCall.pure (since_cells (bring3 hparts)) (WOpen.i (WHeld.one (by rw [addN]; exact ht) ?_))
    refine WCall.pure (tally_cells (bring4 hparts)) (WOpen.i (WNonNil.some (WLoad.i (n := k) (by rw [addN, addN]; exact hkind) ?_)))
    cases h25 : (k == 25)
    all_goals
      have hb : ∃ acc, (Sta.cells (.mk k nm m y z eks) (.mk ks o s t prev)) = cellsL eks ks acc ∧ acc = (if k = 25 then IntKind.wrap .i64 (IntKind.wrap .i64 (IntKind.wrap .i64 (lenO o + lenO s) + lenO t) + 1) else IntKind.wrap .i64 (IntKind.wrap .i64 (lenO o + lenO s) + lenO t)) := ⟨_, by rw [Sta.cells], rfl⟩
      obtain ⟨acc0, hacc, hacc0⟩ := hb
      rw [hacc]
      first | rw [if_pos (eq_of_beq h25)] at hacc0 | rw [if_neg (ne_of_beq_false h25)] at hacc0
      rw [← hacc0]
      first | refine WIf.t rfl ?_ | refine WIf.f rfl ?_
      refine WNonNil.some (WLoad.sl (p := kp) (n := ks.length) (c := kc) (by rw [addN]; exact hkids) ?_)
      refine WLoop.run eks.length (fun x => x.1.2.1.toNat) (fun i x H' => H' = H ∧ ∃ acc, x = ((acc, ((i : Int), ())), ()) ∧ cellsL (eks.drop i) (ks.drop i) acc = cellsL eks ks acc0) 0 ⟨rfl, acc0, rfl, rfl⟩ (Nat.zero_le _) (by rintro i x H ⟨_, acc, rfl, _⟩; simp) ?_
      rintro i x' H1 again - hi ⟨rfl, acc, rfl, hc⟩ hag
      by_cases hlt : i < eks.length
      · refine WIf.t (by simp; omega) ?_
        obtain ⟨n', g', h1, h2, h3⟩ := hget i eks[i] (by simp [hlt])
        obtain ⟨ad, hp, hh⟩ := hkp i g' h2
        refine WIndex.at' hp (by omega) (WLoad.p (n := some ⟨g', 0, none⟩) (by simpa using hFH.has hh) ?_)
        refine WCall.pure (ih eks[i] (by have := sizes_ge eks eks[i] (List.getElem_mem hlt); omega) (by omega) (R := emp') hFH (star_emp h3)) (WOpen.i ?_)
        simp only [wrapS (show i < 1000000000000 by omega)]
        refine hag _ _ hlt ⟨rfl, _, rfl, ?_⟩
        rw [← hc, List.drop_eq_getElem_cons hlt, List.drop_eq_getElem_cons (show i < ks.length by omega), cellsL, (List.getElem?_eq_some_iff.1 h1).2]
      · refine WIf.f (by simp; omega) ?_
        have hil : i = eks.length := by omega
        subst hil
        rw [← hc, List.drop_length]
        exact ⟨by simp only [cellsL], HP.le.refl H1⟩

theorem cells29 {g : Nat} {e : Ex} {n : Sta} {last : Int} (hFH : F.le H) (h : ((sepc (monA g e n last) R)) F H S) (hN : e.size < 1000000000000) : Pure Tryz.prog 29 #[.pointer (some ⟨g, 0, none⟩)] H (.int .i64 (Sta.cells e n)) := by
  obtain ⟨gt, h0⟩ := mon_open h
  refine Pure.of (spec29 (WCall.pure (is89 (q := some ⟨gt, 0, none⟩) (blk_has h0 rfl)) (WOpen.b (WIf.f rfl (WNonNil.some (WLoad.p (n := some ⟨gt, 0, none⟩) (by rw [addN]; exact blk_has h0 rfl) ?_))))))
  exact WCall.pure (cells92 e.size e (Nat.le_refl _) hN hFH (star_left h0)) (WOpen.i ⟨rfl, HP.le.refl H⟩)
theorem cells29n {q : Option Addr} (h : Pure Tryz.prog 89 #[.pointer q] H (.bool false)) : Pure Tryz.prog 29 #[.pointer q] H (.int .i64 0) :=
  Pure.of (spec29 (WCall.pure h (WOpen.b (WIf.t rfl ⟨rfl, HP.le.refl H⟩))))
theorem clone36n {q : Option Addr} (h : Pure Tryz.prog 89 #[.pointer q] H (.bool false)) : Pure Tryz.prog 36 #[.pointer q] H (.pointer none) :=
  Pure.of (spec36 (WCall.pure h (WOpen.b (WIf.t rfl ⟨rfl, HP.le.refl H⟩))))

/-- the laws' own expression -/
def exAl : Ex := .mk 25 nos 0 0 0 [.mk 21 ⟨#[97]⟩ 0 0 0 []]
theorem exAl_check : exAl.check = 0 := by kernel_rfl
theorem alive21 : Pure Tryz.prog 21 #[] H (.bool true) := by
  refine Pure.of (spec21 fun z hz => ?_)
  let H1 := H.set z (.cells ⟨exCells 21 ⟨#[97]⟩ 0 0 0 none 0 0⟩ 24 (0, 0))
  have hH1 : H.le H1 := HP.le_set hz
  have hz1 : H1.has ⟨z, 0, none⟩ (exCells 21 ⟨#[97]⟩ 0 0 0 none 0 0) := has_cells (l := exCells 21 ⟨#[97]⟩ 0 0 0 none 0 0) (by show HP.set _ _ _ _ = _; unfold HP.set; rw [if_pos rfl]) rfl
  have hat : exAl.At H1 (exCells 25 nos 0 0 0 (some ⟨z, 0, none⟩) 1 1) := by
    simp only [exAl, Ex.At, ExsAt]
    exact ⟨some ⟨z, 0, none⟩, 1, rfl, ⟨⟨z, 0, none⟩, _, rfl, hz1, none, 0, rfl, trivial⟩, trivial⟩
  have start : Wd ⟨H1, H1, []⟩ emp' H1 H1 [] := Wd.start ⟨HP.le.refl H1, fun _ h => by simp at h, fun _ h => by simp at h⟩ trivial
  refine WCall.of (new22 Good.emp start hat (by decide) (by simp [exAl, Ex.Short, Shorts]; decide) exAl_check) ?_ (by rintro e H' ⟨g, F', S', hv, _⟩ hne; exact absurd hv (hne _))
  rintro v H2 ⟨g, F2, S2, hv, hle2, hw2⟩
  cases hv
  refine WOpen.p (WCall.of (new23 (p := none) (l := []) 0 (Good.star Good.mon Good.emp) hw2 (fun i d h => by simp at h) (fun d h => by simp at h) (by decide)) ?_ (by rintro e H' ⟨g, S', hv, _⟩ hne; exact absurd hv (hne _)))
  rintro v H3 ⟨gs, S3, hv, hw3⟩
  cases hv
  refine WOpen.p ?_
  have hmay : exAl.may = true := by kernel_rfl
  have hsh : exAl.Short := by simp [exAl, Ex.Short, Shorts]; decide
  have hx : ∀ (t : Int) (s : ByteArray), (⟨t, s, nos, nos⟩ : Mo).Ok := fun t s => ⟨by show nos.size ≤ _; decide, by show nos.size ≤ _; decide⟩
  have hok := (sta_new_ok exAl.size).1 exAl (Nat.le_refl _)
  let σ0 : Sto := Sto.new []
  have hσ : σ0.Ok := Sto.new_ok (fun d h => by simp at h)
  let x1 : Mo := ⟨0, ⟨#[97]⟩, nos, nos⟩
  let x2 : Mo := ⟨1, nos, nos, nos⟩
  let n1 : Sta := (Sta.eval σ0 { x1 with a := maxI 0 x1.a } exAl (Sta.new exAl)).2
  let n2 : Sta := (Sta.eval σ0 { x2 with a := maxI (maxI 0 x1.a) x2.a } exAl n1).2
  have hr1 : (Sta.eval σ0 { x1 with a := maxI 0 x1.a } exAl (Sta.new exAl)).1 = .ok ⟨2, 0, nos, []⟩ := by kernel_rfl
  have hr2 : (Sta.eval σ0 { x2 with a := maxI (maxI 0 x1.a) x2.a } exAl n1).1 = .ok ⟨2, 1, nos, []⟩ := by kernel_rfl
  have hok1 : Sta.Ok 1 exAl n1 := eval_ok exAl.size exAl (Nat.le_refl _) _ hmay hok
  have step1 := step27 (x := x1) Good.emp (hw3.imp star_left) hσ (hx 0 _) (M := 0) (by decide) hmay hsh hok
  rw [hr1] at step1
  refine WCall.of step1 ?_ (by rintro e H' ⟨F', S', ⟨cs, _, hv⟩, _⟩ hne; exact absurd hv (hne _))
  rintro v H4 ⟨F4, S4, ⟨cs, hcs, hv⟩, hle4, hw4⟩
  cases hv
  obtain ⟨p', c', rfl, hp'⟩ := hcs
  refine WOpen.vai ?_
  have step2 := step27 (x := x2) Good.emp hw4 hσ (hx 1 _) (M := 1) (by decide) hmay hsh hok1
  rw [hr2] at step2
  refine WCall.of step2 ?_ (by rintro e H' ⟨F', S', ⟨cs, _, hv⟩, _⟩ hne; exact absurd hv (hne _))
  rintro v H5 ⟨F5, S5, ⟨cs, hcs, hv⟩, hle5, hw5⟩
  cases hv
  obtain ⟨p2, c2, rfl, hp2⟩ := hcs
  refine WOpen.vai (WIf.t rfl (WIf.t rfl (WIf.t rfl (WIf.t rfl (WIf.t rfl ?_)))))
  have hcells : Sta.cells exAl n2 = 1 := by kernel_rfl
  refine WCall.pure (cells29 hw5.wd.le hw5.it (by decide)) (WOpen.i ⟨?_, ?_⟩)
  · show Ending.returned (.bool (Sta.cells exAl n2 == 1)) = _
    rw [hcells]
    rfl
  · exact hH1.trans (hw5.tr.le.trans hw5.wd.le)

theorem WOpen.mo {n : Int} {s t u : ByteArray} {body : Int → ByteArray → ByteArray → ByteArray → W} (h : body n s t u H) : WOpen (.one (.agg [(.i .i64), .s, .s, .s])) body (moV ⟨n, s, t, u⟩) H := ⟨(n, s, t, u, ()), rfl, h⟩
theorem texts94 {c d : Nat} : Pure Tryz.prog 94 #[.slice none 0 c, .slice none 0 d] H (.bool true) := by
  refine Pure.of (spec94 (WIf.f rfl ?_))
  refine WLoop.up 0 0 (fun _ => True) trivial (Nat.le_refl _) ?_
  intro i again _ hi _ _
  have : i = 0 := by omega
  subst this
  exact WIf.f rfl ⟨rfl, HP.le.refl H⟩
theorem value34z : Pure Tryz.prog 34 #[.agg ⟨flat zeroVa⟩, .agg ⟨flat zeroVa⟩] H (.bool true) :=
  Pure.of (spec34 (WIf.t rfl (WIf.t rfl (WIf.t (by rw [toList_inj]; rfl) (WCall.pure texts94 (WOpen.b ⟨rfl, HP.le.refl H⟩))))))

/-- MonitorNobody's answer -/
theorem nobody6 {n : Int} {s1 s2 s3 s4 s5 s6 : ByteArray} {n6 n7 : Int} {p : Option Addr} {l c : Nat} :
    Pure Tryz.prog 6 #[.agg #[(.int .i64 n), (.string s1), (.string s2), (.string s3), (.string s4), (.string s5), (.int .i64 n6), (.int .i64 n7), (.string s6), (.slice p l c)]] H (.bool true) := by
  refine Pure.of (spec6 (WCall.pure alive21 (WOpen.b (WIf.f rfl fun z hz => ?_))))
  let H1 := H.set z (.cells ⟨[(.pointer none), (.int .i64 0)]⟩ 66 (0, 0))
  have hH1 : H.le H1 := HP.le_set hz
  have hz1 : H1.has ⟨z, 0, none⟩ [.pointer none] := has_cells (l := [(.pointer none), (.int .i64 0)]) (by show HP.set _ _ _ _ = _; unfold HP.set; rw [if_pos rfl]) rfl
  have start : Wd ⟨H1, H1, []⟩ emp' H1 H1 [] := Wd.start ⟨HP.le.refl H1, fun _ h => by simp at h, fun _ h => by simp at h⟩ trivial
  have mom : ∀ {H : HP}, Pure Tryz.prog 28 #[.agg #[(.int .i64 n), (.string s1), (.string s2), (.string s3), (.string s4), (.string s5), (.int .i64 n6), (.int .i64 n7), (.string s6), (.slice p l c)]] H (moV ⟨n, s1, s2, s3⟩) :=
    Pure.of (spec28 ⟨rfl, HP.le.refl _⟩)
  refine WCall.of (new23 (p := none) (l := []) 0 Good.emp start (fun i d h => by simp at h) (fun d h => by simp at h) (by decide)) ?_ (by rintro e H' ⟨g, S', hv, _⟩ hne; exact absurd hv (hne _))
  rintro v H2 ⟨gs, S2, hv, hw2⟩
  cases hv
  refine WOpen.p (WCall.pure mom (WOpen.mo (WCall.pure (nobody27 (q := none) (x := ⟨n, s1, s2, s3⟩) is89n fun _ _ => is89n) (WOpen.vai ?_))))
  refine WCall.of (new23 (p := none) (l := []) 0 (Good.star Good.store Good.emp) hw2 (fun i d h => by simp at h) (fun d h => by simp at h) (by decide)) ?_ (by rintro e H' ⟨g, S', hv, _⟩ hne; exact absurd hv (hne _))
  rintro v H3 ⟨gs2, S3, hv, hw3⟩
  cases hv
  have h3 : H1.le H3 := hw3.tr.le.trans hw3.wd.le
  have hz3 : H3.has ⟨z, 0, none⟩ [.pointer none] := h3.has hz1
  have n89 : ∀ H', H3.le H' → Pure Tryz.prog 89 #[.pointer (some ⟨z, 0, none⟩)] H' (.bool false) := fun H' hl => is89 (q := none) (hl.has hz3)
  refine WOpen.p (WCall.pure mom (WOpen.mo (WCall.pure (nobody27 (q := some ⟨z, 0, none⟩) (x := ⟨n, s1, s2, s3⟩) (n89 _ (HP.le.refl _)) n89) (WOpen.vai ?_))))
  refine WIf.t rfl (WIf.t rfl (WCall.pure value34z (WOpen.b (WIf.t rfl (WCall.pure value34z (WOpen.b (WIf.t rfl ?_)))))))
  refine WCall.pure (cells29n is89n) (WOpen.i (WIf.t rfl (WCall.pure (cells29n (n89 _ (HP.le.refl _))) (WOpen.i (WIf.t rfl ?_)))))
  exact WCall.pure (clone36n is89n) (WOpen.p (WIf.t rfl (WCall.pure (clone36n (n89 _ (HP.le.refl _))) (WOpen.p ⟨rfl, hH1.trans h3⟩))))
end
end Go.Proofs.YtmidcnfnmnhifaaGreat

