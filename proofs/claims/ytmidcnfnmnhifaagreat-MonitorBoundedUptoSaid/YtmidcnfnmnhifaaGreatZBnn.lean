/-
  A step keeps the bound.
-/
import Derived.Test.YtmidcnfnmnhifaaGreatZBnm
namespace Go.Proofs.YtmidcnfnmnhifaaGreat
set_option linter.unusedSectionVars false
set_option linter.unusedSimpArgs false
set_option linter.unusedVariables false
open Go Go.Den
set_option linter.unusedVariables false

theorem wiO_none {z L : Int} {U : List Int} : wiO z L U none := fun w h => by cases h

theorem truthV_err {v : Va} {c : Int} (h : truthV v = .error c) : c ≠ 0 := by
  unfold truthV at h
  split at h
  · cases h
  · cases h; decide
theorem numberV_err {k : Int} {a b : Va} {c : Int} (h : numberV k a b = .error c) : c ≠ 0 := by
  have key : ∀ r : Int × Bool, (if r.2 = true then (.ok (Va.int r.1) : Res) else .error 30) = .error c → c ≠ 0 := by
    intro r h
    split at h
    · cases h
    · cases h; decide
  unfold numberV at h
  split at h
  · exact key _ h
  · cases h; decide

theorem leafV_t {σ : Sto} {x : Mo} {k n : Int} {nm : ByteArray} {ks : List Ex} {t : Option Wi} (h : k ≠ 13) : (leafV σ x k nm n ks t).2 = t := by
  unfold leafV
  rw [if_neg h]
  repeat' split
  all_goals rfl
theorem leafV_err {σ : Sto} {x : Mo} {k n : Int} {nm : ByteArray} {ks : List Ex} {t : Option Wi} {c : Int} (h : (leafV σ x k nm n ks t).1 = .error c) (ht : k = 13 → ∃ w, t = some w) : c ≠ 0 := by
  unfold leafV at h
  split at h
  · cases h
  split at h
  · cases h
  split at h
  · cases h
  split at h
  · unfold attrV at h
    split at h
    · cases h
    · cases h; decide
  split at h
  · cases h
  split at h
  · cases h
  split at h
  · rename_i hk
    obtain ⟨w, rfl⟩ := ht hk
    cases h
  · cases h

section
variable {x : Mo} {k z L : Int} {U U' : List Int}

theorem single_err {v : Va} {o : Option Wi} {prev : Bool} {c : Int} (h : (singleV x k v o prev).1 = .error c) (ho : k = 22 ∨ k = 23 → ∃ w, o = some w) : c ≠ 0 := by
  unfold singleV at h
  split at h
  · split at h
    · split at h
      · cases h
      · cases h; decide
    · cases h; decide
  split at h
  · split at h
    · cases h
    · cases h; decide
  split at h
  · rename_i hc; cases h; exact truthV_err hc
  split at h
  · cases h
  split at h
  · rename_i hk
    obtain ⟨w, rfl⟩ := ho (.inl hk)
    cases h
  split at h
  · rename_i hk
    obtain ⟨w, rfl⟩ := ho (.inr hk)
    cases h
  · cases h
theorem pair_err {a b : Va} {s : Option Wi} {c : Int} (h : (pairV x k a b s).1 = .error c) (hk : k = 8 ∨ k = 9 ∨ k = 10 ∨ k = 14 ∨ k = 15 ∨ k = 16 ∨ k = 17 ∨ k = 19 ∨ k = 20 ∨ k = 24) (hs : k = 24 → ∃ w, s = some w) : c ≠ 0 := by
  unfold pairV at h
  split at h
  · exact numberV_err h
  split at h
  · split at h
    · cases h
    · cases h; decide
  split at h
  · split at h
    · cases h
    · cases h; decide
  split at h
  · split at h
    · cases h
    · cases h; decide
  split at h
  · rename_i hc; cases h; exact truthV_err hc
  split at h
  · rename_i hc; cases h; exact truthV_err hc
  split at h
  · cases h
  split at h
  · cases h
  · rename_i c8 c14 c15 c17 _ _ _ _ _ _ c19 c20
    have h24 : k = 24 := by omega
    obtain ⟨w, rfl⟩ := hs h24
    cases h

theorem single_NI {v u : Va} {o : Option Wi} {prev : Bool} (hL : L ≤ x.a) (hm : x.a ≤ 9223372036854775807) (hU : ∀ t ∈ U, t ∈ U') (hx : x.a ∈ U') (hz : k = 22 ∨ k = 23 → z = -1 ∨ 0 ≤ z ∧ z ≤ 9223372036854775807)
    (ho : wiO z L U o) (hp : ∀ w, o = some w → k = 22 ∨ k = 23) (h : (singleV x k v o prev).1 = .ok u) : wiO z x.a U' (singleV x k v o prev).2.1 ∧ ∀ w, (singleV x k v o prev).2.1 = some w → k = 22 ∨ k = 23 := by
  by_cases hk : k = 22 ∨ k = 23
  · refine ⟨?_, fun _ _ => hk⟩
    cases o with
    | none =>
      exfalso
      unfold singleV at h
      rw [if_neg (by omega), if_neg (by omega)] at h
      split at h
      · cases h
      · rw [if_neg (by omega)] at h
        rcases hk with hk | hk
        · rw [if_pos hk] at h; cases h
        · rw [if_neg (by omega), if_pos hk] at h; cases h
    | some w =>
      obtain ⟨w1, w2⟩ := ho w rfl
      unfold singleV at h ⊢
      rw [if_neg (by omega), if_neg (by omega)] at h ⊢
      cases ht : truthV v with
      | error c => rw [ht] at h; cases h
      | ok p =>
        simp only [if_neg (show ¬ k = 18 by omega)]
        rcases hk with hk | hk
        · simp only [if_pos hk]
          intro w' hw'
          cases hw'
          exact w1.once p (by omega) hm (hz (.inl hk)) hU hx
        · simp only [if_neg (show ¬ k = 22 by omega), if_pos hk]
          intro w' hw'
          cases hw'
          exact w1.once (!p) (by omega) hm (hz (.inr hk)) hU hx
  · have hn : o = none := by
      cases o with
      | none => rfl
      | some w => exact absurd (hp w rfl) hk
    subst hn
    have : (singleV x k v none prev).2.1 = none := by
      unfold singleV
      repeat' split
      all_goals first | rfl | omega
    rw [this]
    exact ⟨wiO_none, fun w h => by cases h⟩

theorem pair_NI {a b u : Va} {s : Option Wi} (hL : L ≤ x.a) (hm : x.a ≤ 9223372036854775807) (hU : ∀ t ∈ U, t ∈ U') (hx : x.a ∈ U') (hz : k = 24 → z = -1 ∨ 0 ≤ z ∧ z ≤ 9223372036854775807)
    (hs : wiO z L U s) (hp : ∀ w, s = some w → k = 24) (h : (pairV x k a b s).1 = .ok u) : wiO z x.a U' (pairV x k a b s).2 ∧ ∀ w, (pairV x k a b s).2 = some w → k = 24 := by
  by_cases hk : k = 24
  · refine ⟨?_, fun _ _ => hk⟩
    unfold pairV at h ⊢
    rw [if_neg (by omega), if_neg (by omega), if_neg (by omega), if_neg (by omega)] at h ⊢
    cases ht : truthV a with
    | error c => rw [ht] at h; cases h
    | ok p =>
      rw [ht] at h
      simp only at h ⊢
      cases ht2 : truthV b with
      | error c => rw [ht2] at h; cases h
      | ok q =>
        rw [ht2] at h
        simp only at h ⊢
        rw [if_neg (by omega), if_neg (by omega)] at h ⊢
        cases s with
        | none => cases h
        | some w =>
          obtain ⟨w1, w2⟩ := hs w rfl
          intro w' hw'
          cases hw'
          exact w1.since p q (by omega) hm (hz hk) hU hx
  · have hn : s = none := by
      cases s with
      | none => rfl
      | some w => exact absurd (hp w rfl) hk
    subst hn
    have : ∀ s' : Option Wi, s' = none → (pairV x k a b s').2 = none := by
      intro s' hs'
      unfold pairV
      repeat' split
      all_goals first | exact hs' | rfl | (cases hs')
    rw [this none rfl]
    exact ⟨wiO_none, fun w h => by cases h⟩
end

theorem may_own {k n y z : Int} {nm : ByteArray} {eks : List Ex} (hm : (Ex.mk k nm n y z eks).may = true) : ownB k n y z nm = true := by
  simp only [Ex.may] at hm
  split at hm
  · simp only [Bool.and_eq_true] at hm; exact hm.1
  · simp only [Bool.and_eq_true] at hm; exact hm.2.1
theorem span_ok {y z : Int} (h : spanB y z = true) (hz : I64 z) : z = -1 ∨ 0 ≤ z ∧ z ≤ 9223372036854775807 := by
  simp only [spanB, Bool.and_eq_true, Bool.or_eq_true, decide_eq_true_eq, beq_iff_eq] at h
  unfold I64 at hz
  omega

theorem eval_err {σ : Sto} {x : Mo} {M : Nat} : ∀ N (e : Ex), e.size ≤ N → ∀ n c, e.may = true → Sta.Ok M e n → (Sta.eval σ x e n).1 = .error c → c ≠ 0 := by
  intro N
  induction N with
  | zero => intro e he; have := e.size_pos; omega
  | succ N ih =>
    intro e he n c hm hok h
    obtain ⟨k, nm, m, y, z, eks⟩ := e
    obtain ⟨ks, o, s, t, prev⟩ := n
    simp only [Ex.size] at he
    simp only [Sta.Ok] at hok
    obtain ⟨⟨c1, c2, c3⟩, _, hks⟩ := hok
    by_cases hk : kidsN k < 1
    · rw [eval_mk, if_pos hk] at h
      exact leafV_err h c3
    · obtain ⟨h4, hlen, hmay⟩ := may_kids hm hk
      have hle := kidsN_le k
      match eks, ks, hks, hlen with
      | [e1], [n1], hks, _ =>
        simp only [StasOk] at hks
        cases h1 : (Sta.eval σ x e1 n1).1 with
        | error c' =>
          rw [eval1_err hk h1] at h
          cases h
          exact ih e1 (by simp only [sizes] at he; omega) n1 c (hmay e1 (by simp)) hks.1 h1
        | ok v => rw [eval1_ok hk h1] at h; exact single_err h c1
      | [e1, e2], [n1, n2], hks, hl2 =>
        simp only [StasOk] at hks
        cases h1 : (Sta.eval σ x e1 n1).1 with
        | error c' =>
          rw [eval2_err1 hk h1] at h
          cases h
          exact ih e1 (by simp only [sizes] at he; omega) n1 c (hmay e1 (by simp)) hks.1 h1
        | ok v =>
          cases h2 : (Sta.eval σ x e2 n2).1 with
          | error c' =>
            rw [eval2_err2 hk h1 h2] at h
            cases h
            exact ih e2 (by simp only [sizes] at he; have := e1.size_pos; omega) n2 c (hmay e2 (by simp)) hks.2.1 h2
          | ok w =>
            rw [eval2_ok hk h1 h2] at h
            exact pair_err h (kids2_kind (by simpa using hl2)) c2
      | [], _, _, hl => simp at hl; omega
      | e1 :: e2 :: e3 :: r, _, _, hl => simp at hl; omega
      | [e1], [], hks, _ => simp only [StasOk] at hks
      | [e1], _ :: _ :: _, hks, _ => simp only [StasOk] at hks; exact hks.2.elim
      | [e1, e2], [], hks, _ => simp only [StasOk] at hks
      | [e1, e2], [_], hks, _ => simp only [StasOk] at hks; exact hks.2.elim
      | [e1, e2], _ :: _ :: _ :: _, hks, _ => simp only [StasOk] at hks; exact hks.2.2.elim

theorem eval_NI {σ : Sto} {x : Mo} {L : Int} {U U' : List Int} (hL : L ≤ x.a) (hx0 : x.a ≤ 9223372036854775807) (hU : ∀ t ∈ U, t ∈ U') (hx : x.a ∈ U') : ∀ N (e : Ex), e.size ≤ N → ∀ n v, e.may = true → e.In → NI L U e n → (Sta.eval σ x e n).1 = .ok v → NI x.a U' e (Sta.eval σ x e n).2 := by
  intro N
  induction N with
  | zero => intro e he; have := e.size_pos; omega
  | succ N ih =>
    intro e he n v hm hin hni h
    obtain ⟨k, nm, m, y, z, eks⟩ := e
    obtain ⟨ks, o, s, t, prev⟩ := n
    simp only [Ex.size] at he
    simp only [NI] at hni
    simp only [Ex.In] at hin
    obtain ⟨⟨o1, s1, t1⟩, ⟨o2, s2, t2⟩, hkk⟩ := hni
    have hown := may_own hm
    have hz : k = 22 ∨ k = 23 ∨ k = 24 → z = -1 ∨ 0 ≤ z ∧ z ≤ 9223372036854775807 := fun hk => span_ok (own_span hk hown) hin.2.2.1
    have noO : ¬ (k = 22 ∨ k = 23) → o = none := fun hk => by
      cases o with
      | none => rfl
      | some w => exact absurd (o2 w rfl) hk
    have noS : k ≠ 24 → s = none := fun hk => by
      cases s with
      | none => rfl
      | some w => exact absurd (s2 w rfl) hk
    have noT : k ≠ 13 → t = none := fun hk => by
      cases t with
      | none => rfl
      | some w => exact absurd (t2 w rfl) hk
    by_cases hk : kidsN k < 1
    · rw [eval_mk, if_pos hk]
      have n22 : k ≠ 22 := fun h => by subst h; exact absurd hk (by decide)
      have n23 : k ≠ 23 := fun h => by subst h; exact absurd hk (by decide)
      have n24 : k ≠ 24 := fun h => by subst h; exact absurd hk (by decide)
      have eo := noO (by omega)
      have es := noS n24
      subst eo; subst es
      simp only [NI]
      refine ⟨⟨wiO_none, wiO_none, ?_⟩, ⟨fun w h => (by cases h), fun w h => (by cases h), ?_⟩, ?_⟩
      · by_cases h13 : k = 13
        · subst h13
          cases t with
          | none => intro w hw; simp [leafV] at hw
          | some w =>
            obtain ⟨w1, w2⟩ := t1 w rfl
            intro w' hw'
            simp [leafV] at hw'
            subst hw'
            exact w1.tally _ (by omega) hx0 ⟨own_tally hown, hin.2.2.1.2⟩ hU hx
        · rw [leafV_t h13, noT h13]
          exact wiO_none
      · by_cases h13 : k = 13
        · exact fun _ _ => h13
        · rw [leafV_t h13, noT h13]
          exact fun w h => by cases h
      · split
        · rename_i h4
          rw [if_pos h4] at hkk
          exact hkk
        · rename_i h4
          rw [if_neg h4] at hkk
          simp only [Ex.may, if_neg h4, Bool.and_eq_true, beq_iff_eq] at hm
          have h0 : eks = [] := List.length_eq_zero_iff.1 (by omega)
          subst h0
          cases ks with
          | nil => simp only [NIs]
          | cons a b => simp only [NIs] at hkk
    · obtain ⟨h4, hlen, hmay⟩ := may_kids hm hk
      have hle := kidsN_le k
      rw [if_neg h4] at hkk
      have n13 : k ≠ 13 := fun h => by subst h; exact hk (by decide)
      have et := noT n13
      subst et
      match eks, ks, hkk, hlen with
      | [e1], [n1], hks, hl =>
        simp only [NIs] at hks
        simp only [Ins] at hin
        have n24 : k ≠ 24 := fun h => by subst h; simp [kidsN] at hl
        have es := noS n24
        subst es
        cases h1 : (Sta.eval σ x e1 n1).1 with
        | error c' => rw [eval1_err hk h1] at h; cases h
        | ok v1 =>
          rw [eval1_ok hk h1] at h ⊢
          obtain ⟨q1, q2⟩ := single_NI hL hx0 hU hx (fun hk => hz (by omega)) o1 o2 h
          simp only [NI, if_neg h4, NIs]
          exact ⟨⟨q1, wiO_none, wiO_none⟩, ⟨q2, fun w h => (by cases h), fun w h => (by cases h)⟩, ih e1 (by simp only [sizes] at he; omega) n1 v1 (hmay e1 (by simp)) hin.2.2.2.1 hks.1 h1, trivial⟩
      | [e1, e2], [n1, n2], hks, hl =>
        simp only [NIs] at hks
        simp only [Ins] at hin
        have n22 : ¬ (k = 22 ∨ k = 23) := fun h => by rcases h with h | h <;> (subst h; simp [kidsN] at hl)
        have eo := noO n22
        subst eo
        cases h1 : (Sta.eval σ x e1 n1).1 with
        | error c' => rw [eval2_err1 hk h1] at h; cases h
        | ok v1 =>
          cases h2 : (Sta.eval σ x e2 n2).1 with
          | error c' => rw [eval2_err2 hk h1 h2] at h; cases h
          | ok v2 =>
            rw [eval2_ok hk h1 h2] at h ⊢
            obtain ⟨q1, q2⟩ := pair_NI hL hx0 hU hx (fun hk => hz (by omega)) s1 s2 h
            simp only [NI, if_neg h4, NIs]
            exact ⟨⟨wiO_none, q1, wiO_none⟩, ⟨fun w h => (by cases h), q2, fun w h => (by cases h)⟩, ih e1 (by simp only [sizes] at he; omega) n1 v1 (hmay e1 (by simp)) hin.2.2.2.1 hks.1 h1,
              ih e2 (by simp only [sizes] at he; have := e1.size_pos; omega) n2 v2 (hmay e2 (by simp)) hin.2.2.2.2.1 hks.2.1 h2, trivial⟩
      | [], _, _, hl => simp at hl; omega
      | e1 :: e2 :: e3 :: r, _, _, hl => simp at hl; omega
      | [e1], [], hks, _ => simp only [NIs] at hks
      | [e1], _ :: _ :: _, hks, _ => simp only [NIs] at hks; exact hks.2.elim
      | [e1, e2], [], hks, _ => simp only [NIs] at hks
      | [e1, e2], [_], hks, _ => simp only [NIs] at hks; exact hks.2.elim
      | [e1, e2], _ :: _ :: _ :: _, hks, _ => simp only [NIs] at hks; exact hks.2.2.elim
end Go.Proofs.YtmidcnfnmnhifaaGreat
