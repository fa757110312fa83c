/-
  Rules for contracts over the printed preconditions.
-/
import Derived.Test.YtmidcnfnmnhifaaGreatZTie
namespace Go.Den
set_option linter.unusedSectionVars false
set_option linter.unusedSimpArgs false
set_option linter.unusedVariables false
open Go
set_option linter.unusedVariables false

/-- a larger view -/
def HP.le (H H' : HP) : Prop := ∀ b o, H b = some o → H' b = some o

theorem HP.le.refl (H : HP) : H.le H := fun _ _ h => h
theorem HP.le.trans {H H₁ H₂ : HP} (h : H.le H₁) (k : H₁.le H₂) : H.le H₂ := fun b o hb => k b o (h b o hb)

theorem HP.le.cell {H H' : HP} (h : H.le H') {a : Addr} {v : Value} (hv : H.cell? a = some v) : H'.cell? a = some v := by
  unfold HP.cell? at *
  cases e : H a.block with
  | none => simp [e] at hv
  | some o => rw [h _ _ e]; rw [e] at hv; exact hv

theorem HP.le.has {H H' : HP} (h : H.le H') {a : Addr} {vs : List Value} (hv : H.has a vs) : H'.has a vs := fun i v hi => h.cell (hv i v hi)

theorem HP.le_set {H : HP} {b : Nat} {o : Obj} (hb : H b = none) : H.le (H.set b o) := by
  intro x y hx
  unfold HP.set
  split
  · rename_i e; subst e; rw [hb] at hx; cases hx
  · exact hx

theorem Up.forget {H H' : HP} {w w' : World} (h : Up H H' w w') (hl : H.le H') : Up H H w w' :=
  ⟨fun b o hb => h.on b o (hl b o hb), h.os, h.tape, h.output, h.size, h.keep, fun b hb => .inl hb⟩

section
variable {P : Program} {f : FuncId} {args : Array Value} {H : HP} {Q : Ending → W}

/-- A call that only computes. -/
def Pure (P : Program) (f : FuncId) (args : Array Value) (H : HP) (v : Value) : Prop := Spec P f args H fun e H' => e = .returned v ∧ H' = H

theorem Pure.of {v : Value} (h : Spec P f args H fun e H' => e = .returned v ∧ H.le H') : Pure P f args H v := by
  intro w on
  rcases h w on with ⟨h1, h2⟩ | ⟨u, w', H', h1, h2, h3⟩
  · exact .inl ⟨h1, h2.mono fun e w' ⟨H', hu, he, hl⟩ => ⟨H, hu.forget hl, he, rfl⟩⟩
  · exact .inr ⟨u, w', H, h1, h2.forget h3.2, h3.1, rfl⟩

theorem WCall.pure {v : Value} {k : Value → W} (h : Pure P f args H v) (hk : k v H) : WCall P Q f args k H :=
  Spec.mono h fun e H' ⟨he, hH⟩ => by subst he; subst hH; exact hk

theorem WCall.spec {R : Ending → W} {k : Value → W} (h : Spec P f args H R) (hk : ∀ v H', R (.returned v) H' → k v H') (hn : ∀ e H', R e H' → ∃ v, e = .returned v) : WCall P Q f args k H :=
  Spec.mono h fun e H' hr => by
    obtain ⟨v, rfl⟩ := hn e H' hr
    exact hk v H' hr

theorem WOpen.intro {sh : Sh} {k : sh.Cur W} (x : sh.Ty) (hk : sh.app k x H) : WOpen sh k (sh.val x) H := ⟨x, rfl, hk⟩

theorem WOpen.i {t : IntKind} {n : Int} {body : Int → W} (h : body n H) : WOpen (.one (.l (.i t))) body (.int t n) H := ⟨n, rfl, h⟩
theorem WOpen.b {n : Bool} {body : Bool → W} (h : body n H) : WOpen (.one (.l .b)) body (.bool n) H := ⟨n, rfl, h⟩
theorem WOpen.s {n : ByteArray} {body : ByteArray → W} (h : body n H) : WOpen (.one (.l .s)) body (.string n) H := ⟨n, rfl, h⟩
theorem WOpen.p {n : Option Addr} {body : Option Addr → W} (h : body n H) : WOpen (.one (.l .p)) body (.pointer n) H := ⟨n, rfl, h⟩
theorem WOpen.m {n : Option Nat} {body : Option Nat → W} (h : body n H) : WOpen (.one (.l .m)) body (.map n) H := ⟨n, rfl, h⟩
theorem WOpen.sl {a : Option Addr} {n c : Nat} {body : Option Addr → Nat → Nat → W} (h : body a n c H) : WOpen (.one (.l .sl)) body (.slice a n c) H := ⟨(a, n, c), rfl, h⟩

theorem WLoad.intro {a : Addr} {sh : Sh1} {k : sh.Cur W} (x : sh.Ty) (hx : H.has a (sh.cells x)) (hk : sh.app k x H) : WLoad a sh k H := ⟨x, hx, hk⟩

theorem WIf.intro {b : Bool} {A B : W} (h1 : b = true → A H) (h2 : b = false → B H) : WIf b A B H := ⟨h1, h2⟩

theorem WLoop.intro {σ : Type} {x₀ : σ} {body : σ → (σ → W) → W} (I : σ → HP → Prop) (μ : σ → Nat) (h0 : I x₀ H) (h : ∀ x H, I x H → body x (fun x' H' => I x' H' ∧ μ x' < μ x) H) : WLoop x₀ body H :=
  ⟨I, fun x _ => μ x, h0, h⟩
end
end Go.Den
