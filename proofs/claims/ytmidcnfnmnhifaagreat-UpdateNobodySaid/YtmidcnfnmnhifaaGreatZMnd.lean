/-
  Package monitor: a node and all below it; eval.
-/
import Derived.Test.YtmidcnfnmnhifaaGreatZMnc
namespace Go.Proofs.YtmidcnfnmnhifaaGreat
set_option linter.unusedSectionVars false
set_option linter.unusedSimpArgs false
set_option linter.unusedVariables false
open Go Go.Den
set_option linter.unusedVariables false

/-- what a node remembers, and its kids -/
inductive Sta where
  | mk (ks : List Sta) (o s t : Option Wi) (prev : Bool)

def KidsPtr (F : HP) (kp : Option Addr) (gs : List Nat) : Prop := ∀ (i : Nat) (g : Nat), gs[i]? = some g → ∃ a, kp = some a ∧ F.has (a.add i) [.pointer (some ⟨g, 0, none⟩)]
theorem KidsPtr.mono {F F' : HP} (h : F.le F') {kp : Option Addr} {gs : List Nat} (hk : KidsPtr F kp gs) : KidsPtr F' kp gs :=
  fun i g hi => let ⟨a, h1, h2⟩ := hk i g hi; ⟨a, h1, h.has h2⟩

mutual
def nodeA : Ex → Sta → Nat → Asr
  | .mk k nm n y z eks, .mk ks o s t prev, g => ex fun x : Option Addr × Nat × List Nat =>
      also (fz fun F => KidsPtr F x.1 x.2.2) ((sepc (nodB (.mk k nm n y z eks) x.1 ks.length x.2.1 o s t prev g) (kidsA eks ks x.2.2)))
def kidsA : List Ex → List Sta → List Nat → Asr
  | [], [], [] => emp'
  | e :: es, n :: ns, g :: gs => (sepc (nodeA e n g) (kidsA es ns gs))
  | _, _, _ => pur False
end

theorem good_nodes : ∀ N, (∀ e : Ex, e.size ≤ N → ∀ n g, Good (nodeA e n g)) ∧ (∀ es : List Ex, sizes es ≤ N → ∀ ns gs, Good (kidsA es ns gs)) := by
  intro N
  induction N with
  | zero =>
    refine ⟨fun e he => by have := e.size_pos; omega, fun es he ns gs => ?_⟩
    cases es with
    | nil =>
      cases ns <;> cases gs <;> simp only [kidsA] <;> first | exact Good.emp | exact Good.pur
    | cons e es => simp only [sizes] at he; have := e.size_pos; omega
  | succ N ih =>
    have hk : ∀ es : List Ex, sizes es ≤ N → ∀ ns gs, Good (kidsA es ns gs) := ih.2
    have hn : ∀ e : Ex, e.size ≤ N + 1 → ∀ n g, Good (nodeA e n g) := by
      intro e he n g
      obtain ⟨k, nm, m, y, z, eks⟩ := e
      obtain ⟨ks, o, s, t, prev⟩ := n
      simp only [Ex.size] at he
      simp only [nodeA]
      exact Good.ex fun x => Good.also (Good.fz fun _ _ hl h => h.mono hl) (Good.star Good.nodB (hk eks (by omega) _ _))
    refine ⟨hn, fun es => ?_⟩
    induction es with
    | nil =>
      intro _ ns gs
      cases ns <;> cases gs <;> simp only [kidsA] <;> first | exact Good.emp | exact Good.pur
    | cons e es ih2 =>
      intro he ns gs
      simp only [sizes] at he
      cases ns <;> cases gs <;> simp only [kidsA] <;> first | exact Good.pur | exact Good.star (hn e (by omega) _ _) (ih2 (by omega) _ _)
theorem Good.node {e : Ex} {n : Sta} {g : Nat} : Good (nodeA e n g) := (good_nodes e.size).1 e (Nat.le_refl _) n g
theorem Good.kids {es : List Ex} {ns : List Sta} {gs : List Nat} : Good (kidsA es ns gs) := (good_nodes (sizes es)).2 es (Nat.le_refl _) ns gs

/-- what an expression is, at a moment; and what its node is behind it -/
def Sta.eval (σ : Sto) (x : Mo) : Ex → Sta → Res × Sta
  | .mk k nm n y z eks, .mk ks o s t prev =>
    if kidsN k < 1 then ((leafV σ x k nm n eks t).1, .mk ks o s (leafV σ x k nm n eks t).2 prev)
    else match eks, ks with
      | [e1], [n1] => match (Sta.eval σ x e1 n1).1 with
        | .error c => (.error c, .mk [(Sta.eval σ x e1 n1).2] o s t prev)
        | .ok v => ((singleV x k v o prev).1, .mk [(Sta.eval σ x e1 n1).2] (singleV x k v o prev).2.1 s t (singleV x k v o prev).2.2)
      | [e1, e2], [n1, n2] => match (Sta.eval σ x e1 n1).1 with
        | .error c => (.error c, .mk [(Sta.eval σ x e1 n1).2, n2] o s t prev)
        | .ok v => match (Sta.eval σ x e2 n2).1 with
          | .error c => (.error c, .mk [(Sta.eval σ x e1 n1).2, (Sta.eval σ x e2 n2).2] o s t prev)
          | .ok w => ((pairV x k v w s).1, .mk [(Sta.eval σ x e1 n1).2, (Sta.eval σ x e2 n2).2] o (pairV x k v w s).2 t prev)
      | eks, ks => (.error 0, .mk ks o s t prev)

def winOk (M : Nat) (o : Option Wi) : Prop := ∀ w, o = some w → w.d.length ≤ M
mutual
/-- a node's windows stand where its kind wants them, and are small -/
def Sta.Ok (M : Nat) : Ex → Sta → Prop
  | .mk k nm n y z eks, .mk ks o s t prev => ((k = 22 ∨ k = 23 → ∃ w, o = some w) ∧ (k = 24 → ∃ w, s = some w) ∧ (k = 13 → ∃ w, t = some w)) ∧ (winOk M o ∧ winOk M s ∧ winOk M t) ∧ StasOk M eks ks
def StasOk (M : Nat) : List Ex → List Sta → Prop
  | [], [] => True
  | e :: es, n :: ns => Sta.Ok M e n ∧ StasOk M es ns
  | _, _ => False
end

theorem Sta.Ok.mono {M M' : Nat} (hM : M ≤ M') : ∀ N, (∀ e : Ex, e.size ≤ N → ∀ n, Sta.Ok M e n → Sta.Ok M' e n) ∧ (∀ es : List Ex, sizes es ≤ N → ∀ ns, StasOk M es ns → StasOk M' es ns) := by
  have wm : ∀ {o : Option Wi}, winOk M o → winOk M' o := fun h w hw => Nat.le_trans (h w hw) hM
  intro N
  induction N with
  | zero =>
    refine ⟨fun e he => by have := e.size_pos; omega, fun es he ns h => ?_⟩
    cases es with
    | nil => cases ns <;> simp only [StasOk] at h ⊢
    | cons e es => simp only [sizes] at he; have := e.size_pos; omega
  | succ N ih =>
    have hn : ∀ e : Ex, e.size ≤ N + 1 → ∀ n, Sta.Ok M e n → Sta.Ok M' e n := by
      intro e he n h
      obtain ⟨k, nm, m, y, z, eks⟩ := e
      obtain ⟨ks, o, s, t, prev⟩ := n
      simp only [Ex.size] at he
      simp only [Sta.Ok] at h ⊢
      exact ⟨h.1, ⟨wm h.2.1.1, wm h.2.1.2.1, wm h.2.1.2.2⟩, ih.2 eks (by omega) ks h.2.2⟩
    refine ⟨hn, fun es => ?_⟩
    induction es with
    | nil => intro _ ns h; cases ns <;> simp only [StasOk] at h ⊢
    | cons e es ih2 =>
      intro he ns h
      simp only [sizes] at he
      cases ns <;> simp only [StasOk] at h ⊢
      exact ⟨hn e (by omega) _ h.1, ih2 (by omega) _ h.2⟩

theorem tally_len {w : Wi} {M : Nat} (h : w.d.length ≤ M) (t : Int) (b : Bool) : (w.tally t b).d.length ≤ M + 1 := by
  unfold Wi.tally
  have h1 := pruneD_length w.d (IntKind.wrap .i64 (maxI w.last t - w.hi))
  cases b
  · simp only [Bool.false_eq_true, if_false]; omega
  · simp only [if_true]
    have := pushD_length (pruneD w.d (IntKind.wrap .i64 (maxI w.last t - w.hi))) (maxI w.last t)
    omega
theorem once_len {w : Wi} {M : Nat} (h : w.d.length ≤ M) (t : Int) (b : Bool) : (w.once t b).d.length ≤ M + 1 := by
  unfold Wi.once
  have h1 := w.come_length t
  cases b
  · simp only [Bool.false_eq_true, if_false]; omega
  · simp only [if_true]
    have := (w.come t).put_length
    omega
theorem since_len {w : Wi} {M : Nat} (h : w.d.length ≤ M) (t : Int) (f b : Bool) : (w.since t f b).d.length ≤ M + 1 := by
  unfold Wi.since
  have h1 := w.come_length t
  have h2 : ∀ v : Wi, v.d.length ≤ M → (if b = true then v.put else v).d.length ≤ M + 1 := by
    intro v hv
    split
    · have := v.put_length; omega
    · omega
  cases f
  · exact h2 _ (by simp)
  · exact h2 _ (by simp only [if_true]; omega)

theorem winOk.up {M : Nat} {o : Option Wi} (h : winOk M o) : winOk (M + 1) o := fun w hw => Nat.le_succ_of_le (h w hw)

theorem leafV_ok {σ : Sto} {x : Mo} {k n : Int} {nm : ByteArray} {ks : List Ex} {t : Option Wi} {M : Nat} (h : winOk M t) (h2 : k = 13 → ∃ w, t = some w) : winOk (M + 1) (leafV σ x k nm n ks t).2 ∧ (k = 13 → ∃ w, (leafV σ x k nm n ks t).2 = some w) := by
  unfold leafV
  repeat' split
  all_goals first | exact ⟨h.up, h2⟩ | skip
  · rename_i w
    exact ⟨fun w' hw => by cases hw; exact tally_len (h w rfl) _ _, fun _ => ⟨_, rfl⟩⟩

theorem singleV_ok {x : Mo} {k : Int} {v : Va} {o : Option Wi} {prev : Bool} {M : Nat} (h : winOk M o) (h2 : k = 22 ∨ k = 23 → ∃ w, o = some w) : winOk (M + 1) (singleV x k v o prev).2.1 ∧ (k = 22 ∨ k = 23 → ∃ w, (singleV x k v o prev).2.1 = some w) := by
  unfold singleV
  repeat' split
  all_goals first | exact ⟨h.up, h2⟩ | skip
  · rename_i w
    exact ⟨fun w' hw => by cases hw; exact once_len (h w rfl) _ _, fun _ => ⟨_, rfl⟩⟩
  · rename_i w
    exact ⟨fun w' hw => by cases hw; exact once_len (h w rfl) _ _, fun _ => ⟨_, rfl⟩⟩

theorem pairV_ok {x : Mo} {k : Int} {v v' : Va} {s : Option Wi} {M : Nat} (h : winOk M s) (h2 : k = 24 → ∃ w, s = some w) : winOk (M + 1) (pairV x k v v' s).2 ∧ (k = 24 → ∃ w, (pairV x k v v' s).2 = some w) := by
  unfold pairV
  by_cases c1 : k = 8 ∨ k = 9 ∨ k = 10
  · rw [if_pos c1]; exact ⟨h.up, h2⟩
  rw [if_neg c1]
  by_cases c2 : k = 14
  · rw [if_pos c2]; exact ⟨h.up, h2⟩
  rw [if_neg c2]
  by_cases c3 : k = 15 ∨ k = 16
  · rw [if_pos c3]; exact ⟨h.up, h2⟩
  rw [if_neg c3]
  by_cases c4 : k = 17
  · rw [if_pos c4]; exact ⟨h.up, h2⟩
  rw [if_neg c4]
  cases truthV v with
  | error c => exact ⟨h.up, h2⟩
  | ok p =>
    cases truthV v' with
    | error c => exact ⟨h.up, h2⟩
    | ok q =>
      simp only
      by_cases c5 : k = 19
      · rw [if_pos c5]; exact ⟨h.up, h2⟩
      rw [if_neg c5]
      by_cases c6 : k = 20
      · rw [if_pos c6]; exact ⟨h.up, h2⟩
      rw [if_neg c6]
      cases s with
      | none => exact ⟨h.up, h2⟩
      | some u => exact ⟨fun w' hw => by cases hw; exact since_len (h u rfl) _ _ _, fun _ => ⟨_, rfl⟩⟩
end Go.Proofs.YtmidcnfnmnhifaaGreat
