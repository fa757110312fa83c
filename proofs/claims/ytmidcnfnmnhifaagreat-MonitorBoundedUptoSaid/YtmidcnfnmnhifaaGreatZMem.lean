/-
  Memory in parts: what is frozen, what may be written, and a sepc between parts.
-/
import Derived.Test.YtmidcnfnmnhifaaGreatZApp
namespace Go.Den
set_option linter.unusedSectionVars false
set_option linter.unusedSimpArgs false
set_option linter.unusedVariables false
open Go
set_option linter.unusedVariables false

theorem addN {g off n : Nat} : Addr.add ⟨g, off, none⟩ n = ⟨g, off + n, none⟩ := by
  unfold Addr.add
  split
  · rename_i h; subst h; rfl
  · rfl

/-! ### Frozen and mutable -/
/-- F is frozen, S may be written. -/
structure Wd0 (F H : HP) (S : List Nat) : Prop where
  le : F.le H
  apart : ∀ b ∈ S, F b = none
  dom : ∀ b ∈ S, H b ≠ none

structure Base where
  F : HP
  H : HP
  S : List Nat

/-- What has happened since. -/
structure Tr (a : Base) (F H : HP) (S : List Nat) : Prop where
  dom : ∀ b, a.H b ≠ none → H b ≠ none
  keep : ∀ b, a.H b ≠ none → b ∉ a.S → H b = a.H b
  newS : ∀ b ∈ S, b ∈ a.S ∨ a.H b = none
  le : a.F.le F
  newF : ∀ b, F b ≠ none → a.F b ≠ none ∨ a.H b = none

abbrev Asr := HP → HP → List Nat → Prop

structure Good (A : Asr) : Prop where
  mono : ∀ {F F' H S}, F.le F' → A F H S → A F' H S
  loc : ∀ {F H H' S}, (∀ b ∈ S, H' b = H b) → A F H S → A F H' S
  weak : ∀ {F H S S'}, (∀ b ∈ S, b ∈ S') → A F H S → A F H S'

def sepc (A B : Asr) : Asr := fun F H S => ∃ S1 S2 : List Nat, (∀ b ∈ S1, b ∈ S) ∧ (∀ b ∈ S2, b ∈ S) ∧ (∀ b ∈ S1, b ∉ S2) ∧ A F H S1 ∧ B F H S2

def emp' : Asr := fun _ _ _ => True
/-- a frozen fact -/
def fz (φ : HP → Prop) : Asr := fun F _ _ => φ F
def pur (p : Prop) : Asr := fun _ _ _ => p
def ex {α : Type} (A : α → Asr) : Asr := fun F H S => ∃ x, A x F H S
def also (A B : Asr) : Asr := fun F H S => A F H S ∧ B F H S
/-- a block -/
def blk (g : Nat) (e : TypeId) (l : List Value) : Asr := fun _ H S => g ∈ S ∧ H g = some (.cells ⟨l⟩ e (0, 0))
def obj (g : Nat) (o : Obj) : Asr := fun _ H S => g ∈ S ∧ H g = some o

def Mono (φ : HP → Prop) : Prop := ∀ F F' : HP, F.le F' → φ F → φ F'

theorem Good.emp : Good emp' := ⟨fun _ h => h, fun _ h => h, fun _ h => h⟩
theorem Good.fz {φ : HP → Prop} (h : Mono φ) : Good (fz φ) := ⟨fun hl hx => h _ _ hl hx, fun _ h => h, fun _ h => h⟩
theorem Good.pur {p : Prop} : Good (pur p) := ⟨fun _ h => h, fun _ h => h, fun _ h => h⟩
theorem Good.blk {g : Nat} {e : TypeId} {l : List Value} : Good (blk g e l) :=
  ⟨fun _ h => h, fun hb h => ⟨h.1, by rw [hb _ h.1]; exact h.2⟩, fun hs h => ⟨hs _ h.1, h.2⟩⟩
theorem Good.obj {g : Nat} {o : Obj} : Good (obj g o) :=
  ⟨fun _ h => h, fun hb h => ⟨h.1, by rw [hb _ h.1]; exact h.2⟩, fun hs h => ⟨hs _ h.1, h.2⟩⟩
theorem Good.ex {α : Type} {A : α → Asr} (h : ∀ x, Good (A x)) : Good (ex A) :=
  ⟨fun hl ⟨x, hx⟩ => ⟨x, (h x).mono hl hx⟩, fun hb ⟨x, hx⟩ => ⟨x, (h x).loc hb hx⟩, fun hs ⟨x, hx⟩ => ⟨x, (h x).weak hs hx⟩⟩
theorem Good.also {A B : Asr} (ha : Good A) (hb : Good B) : Good (also A B) :=
  ⟨fun hl h => ⟨ha.mono hl h.1, hb.mono hl h.2⟩, fun hl h => ⟨ha.loc hl h.1, hb.loc hl h.2⟩, fun hl h => ⟨ha.weak hl h.1, hb.weak hl h.2⟩⟩
theorem Good.star {A B : Asr} (ha : Good A) (hb : Good B) : Good ((sepc A B)) := by
  refine ⟨?_, ?_, ?_⟩
  · rintro F F' H S hl ⟨S1, S2, h1, h2, hd, h3, h4⟩
    exact ⟨S1, S2, h1, h2, hd, ha.mono hl h3, hb.mono hl h4⟩
  · rintro F H H' S hl ⟨S1, S2, h1, h2, hd, h3, h4⟩
    exact ⟨S1, S2, h1, h2, hd, ha.loc (fun b hb => hl b (h1 b hb)) h3, hb.loc (fun b hb => hl b (h2 b hb)) h4⟩
  · rintro F H S S' hl ⟨S1, S2, h1, h2, hd, h3, h4⟩
    exact ⟨S1, S2, fun b hb => hl b (h1 b hb), fun b hb => hl b (h2 b hb), hd, h3, h4⟩

theorem star_comm {A B : Asr} {F H : HP} {S : List Nat} (h : ((sepc A B)) F H S) : ((sepc B A)) F H S := by
  obtain ⟨S1, S2, h1, h2, hd, h3, h4⟩ := h
  exact ⟨S2, S1, h2, h1, fun b hb hb' => hd b hb' hb, h4, h3⟩
theorem star_assoc {A B C : Asr} {F H : HP} {S : List Nat} (h : ((sepc ((sepc A B)) C)) F H S) : ((sepc A (sepc B C))) F H S := by
  obtain ⟨S1, S2, h1, h2, hd, ⟨T1, T2, k1, k2, kd, k3, k4⟩, h4⟩ := h
  refine ⟨T1, T2 ++ S2, fun b hb => h1 b (k1 b hb), fun b hb => ?_, fun b hb => ?_, k3, T2, S2, fun b hb => ?_, fun b hb => ?_, fun b hb => ?_, k4, h4⟩
  · rcases List.mem_append.1 hb with h | h
    · exact h1 b (k2 b h)
    · exact h2 b h
  · intro hb'
    rcases List.mem_append.1 hb' with h | h
    · exact kd b hb h
    · exact hd b (k1 b hb) h
  · exact List.mem_append.2 (.inl hb)
  · exact List.mem_append.2 (.inr hb)
  · exact hd b (k2 b hb)
theorem star_mono {A A' B B' : Asr} {F H : HP} {S : List Nat} (ha : ∀ S, A F H S → A' F H S) (hb : ∀ S, B F H S → B' F H S) (h : ((sepc A B)) F H S) : ((sepc A' B')) F H S := by
  obtain ⟨S1, S2, h1, h2, hd, h3, h4⟩ := h
  exact ⟨S1, S2, h1, h2, hd, ha _ h3, hb _ h4⟩
theorem star_assoc' {A B C : Asr} {F H : HP} {S : List Nat} (h : ((sepc A (sepc B C))) F H S) : ((sepc ((sepc A B)) C)) F H S :=
  star_mono (fun _ h => star_comm h) (fun _ h => h) (star_comm (star_assoc (star_mono (fun _ h => star_comm h) (fun _ h => h) (star_comm h))))
theorem star_left {A B C : Asr} {F H : HP} {S : List Nat} (h : ((sepc A (sepc B C))) F H S) : ((sepc B (sepc A C))) F H S :=
  star_assoc (star_mono (fun _ h => star_comm h) (fun _ h => h) (star_assoc' h))
theorem star_swap {A B C : Asr} {F H : HP} {S : List Nat} (h : ((sepc ((sepc A B)) C)) F H S) : ((sepc ((sepc B A)) C)) F H S := star_mono (fun _ h => star_comm h) (fun _ h => h) h
theorem star_fst {A B : Asr} (ga : Good A) {F H : HP} {S : List Nat} (h : ((sepc A B)) F H S) : A F H S := by
  obtain ⟨S1, S2, h1, h2, hd, h3, h4⟩ := h
  exact ga.weak h1 h3
theorem star_snd {A B : Asr} (gb : Good B) {F H : HP} {S : List Nat} (h : ((sepc A B)) F H S) : B F H S := by
  obtain ⟨S1, S2, h1, h2, hd, h3, h4⟩ := h
  exact gb.weak h2 h4
theorem star_emp {A : Asr} {F H : HP} {S : List Nat} (h : A F H S) : ((sepc A emp')) F H S :=
  ⟨S, [], fun _ h => h, fun _ h => (by simp at h), fun _ _ h => (by simp at h), h, trivial⟩
theorem emp_star {A : Asr} {F H : HP} {S : List Nat} (h : A F H S) : ((sepc emp' A)) F H S := star_comm (star_emp h)

/-! ### The world on the way -/
structure Wd (a : Base) (R : Asr) (F H : HP) (S : List Nat) : Prop where
  wd : Wd0 F H S
  tr : Tr a F H S
  it : R F H S

theorem Tr.refl (F H : HP) (S : List Nat) : Tr ⟨F, H, S⟩ F H S :=
  ⟨fun _ h => h, fun _ _ _ => rfl, fun _ h => .inl h, HP.le.refl F, fun _ h => .inl h⟩

theorem Tr.trans {a : Base} {F H F' H' : HP} {S S' : List Nat} (h : Tr a F H S) (k : Tr ⟨F, H, S⟩ F' H' S') : Tr a F' H' S' := by
  refine ⟨fun b hb => k.dom b (h.dom b hb), fun b hb hs => ?_, fun b hb => ?_, h.le.trans k.le, fun b hb => ?_⟩
  · have h1 := h.keep b hb hs
    have h2 : b ∉ S := fun hb' => (h.newS b hb').elim hs hb
    have h3 := k.keep b (h.dom b hb) h2
    exact h3.trans h1
  · rcases k.newS b hb with h1 | h1
    · exact h.newS b h1
    · right
      exact Classical.byContradiction fun hn => h.dom b hn h1
  · rcases k.newF b hb with h1 | h1
    · exact h.newF b h1
    · right
      exact Classical.byContradiction fun hn => h.dom b hn h1

theorem Wd.start {R : Asr} {F H : HP} {S : List Nat} (h : Wd0 F H S) (hr : R F H S) : Wd ⟨F, H, S⟩ R F H S := ⟨h, Tr.refl F H S, hr⟩
theorem Wd.imp {a : Base} {R R' : Asr} {F H : HP} {S : List Nat} (h : Wd a R F H S) (hr : R F H S → R' F H S) : Wd a R' F H S := ⟨h.wd, h.tr, hr h.it⟩
theorem Wd.trans {a : Base} {R R' : Asr} {F H F' H' : HP} {S S' : List Nat} (h : Wd a R F H S) (k : Wd ⟨F, H, S⟩ R' F' H' S') : Wd a R' F' H' S' := ⟨k.wd, h.tr.trans k.tr, k.it⟩
theorem Wd.le {F H F' H' : HP} {S S' : List Nat} {R' : Asr} (k : Wd ⟨F, H, S⟩ R' F' H' S') : F.le F' := k.tr.le

/-- a part of the whole, turned by itself -/
theorem Wd.part {A A' R : Asr} {F H F' H' : HP} {S1 S2 S S1' : List Nat} (gr : Good R) (w : Wd0 F H S) (h1 : ∀ b ∈ S1, b ∈ S) (h2 : ∀ b ∈ S2, b ∈ S) (hd : ∀ b ∈ S1, b ∉ S2) (hr : R F H S2)
    (k : Wd ⟨F, H, S1⟩ A' F' H' S1') : Wd ⟨F, H, S⟩ ((sepc A' R)) F' H' (S1' ++ S2) := by
  have apart2 : ∀ b ∈ S2, H' b = H b := fun b hb => k.tr.keep b (w.dom b (h2 b hb)) (fun h => hd b h hb)
  refine ⟨⟨k.wd.le, fun b hb => ?_, fun b hb => ?_⟩, ⟨k.tr.dom, fun b hb hs => k.tr.keep b hb fun h => hs (h1 b h), fun b hb => ?_, k.tr.le, k.tr.newF⟩,
    ⟨S1', S2, fun b hb => List.mem_append.2 (.inl hb), fun b hb => List.mem_append.2 (.inr hb), fun b hb hb2 => ?_, k.it, gr.loc apart2 (gr.mono k.tr.le hr)⟩⟩
  · rcases List.mem_append.1 hb with h | h
    · exact k.wd.apart b h
    · refine Classical.byContradiction fun hn => ?_
      rcases k.tr.newF b hn with h3 | h3
      · exact h3 (w.apart b (h2 b h))
      · exact w.dom b (h2 b h) h3
  · rcases List.mem_append.1 hb with h | h
    · exact k.wd.dom b h
    · rw [apart2 b h]
      exact w.dom b (h2 b h)
  · rcases List.mem_append.1 hb with h | h
    · exact (k.tr.newS b h).imp (h1 b) id
    · exact .inl (h2 b h)
  · rcases k.tr.newS b hb with h | h
    · exact hd b h hb2
    · exact w.dom b (h2 b hb2) h

/-! ### A call within a larger world -/
def HP.over (H0' H0 H : HP) : HP := fun b => match H0' b with
  | some o => some o
  | none => match H0 b with
    | some _ => none
    | none => H b

theorem Spec.frame {P : Program} {f : FuncId} {args : Array Value} {H0 H : HP} {Q : Ending → W} (hl : H0.le H) (h : Spec P f args H0 Q) :
    Spec P f args H fun e H' => ∃ H0', Q e H0' ∧ H0'.le H' ∧ (∀ b, H0 b = none → H b ≠ none → H' b = H b ∧ H0' b = none) ∧ (∀ b, H0' b = none → H0 b = none → H' b = H b) := by
  have key : ∀ {w w' : World} {H0' : HP}, H.on w → Up H0 H0' w w' → Up H (HP.over H0' H0 H) w w' ∧ H0'.le (HP.over H0' H0 H) ∧
      (∀ b, H0 b = none → H b ≠ none → HP.over H0' H0 H b = H b ∧ H0' b = none) ∧ (∀ b, H0' b = none → H0 b = none → HP.over H0' H0 H b = H b) := by
    intro w w' H0' on u
    have fresh : ∀ b, H0 b = none → H b ≠ none → H0' b = none := by
      intro b h0 hb
      refine Classical.byContradiction fun hn => ?_
      rcases u.dom b hn with h1 | h1
      · exact h1 h0
      · have := on.lt hb
        omega
    refine ⟨⟨fun b o hb => ?_, u.os, u.tape, u.output, u.size, fun b hb hn => ?_, fun b hb => ?_⟩, fun b o hb => ?_, fun b h0 hb => ⟨?_, fresh b h0 hb⟩, fun b h1 h2 => ?_⟩
    · unfold HP.over at hb
      split at hb
      · rename_i o' e
        cases hb
        exact u.on b _ e
      · rename_i e
        split at hb
        · cases hb
        · rename_i e0
          have h1 := on b o hb
          rw [u.keep b (on.lt (by simp [hb])) e0]
          exact h1
    · have h0 : H0 b = none := by
        cases e : H0 b with
        | none => rfl
        | some o => rw [hl b o e] at hn; cases hn
      exact u.keep b hb h0
    · unfold HP.over at hb
      split at hb
      · rename_i o' e
        rcases u.dom b (by simp [e]) with h1 | h1
        · left
          cases e0 : H0 b with
          | none => exact absurd e0 h1
          | some o => rw [hl b o e0]; simp
        · exact .inr h1
      · split at hb
        · exact absurd rfl hb
        · exact .inl hb
    · unfold HP.over
      rw [hb]
    · unfold HP.over
      rw [fresh b h0 hb, h0]
    · unfold HP.over
      rw [h1, h2]
  intro w on
  have on0 : H0.on w := fun b o hb => on b o (hl b o hb)
  rcases h w on0 with ⟨h1, h2⟩ | ⟨v, w', H0', h1, h2, h3⟩
  · refine .inl ⟨h1, h2.mono fun e w' ⟨H0', hu, hq⟩ => ?_⟩
    obtain ⟨k1, k2, k3, k4⟩ := key on hu
    exact ⟨_, k1, H0', hq, k2, k3, k4⟩
  · obtain ⟨k1, k2, k3, k4⟩ := key on h2
    exact .inr ⟨v, w', _, h1, k1, H0', h3, k2, k3, k4⟩

/-- A call that makes frozen data, in the larger world. -/
theorem Spec.grow {P : Program} {f : FuncId} {args : Array Value} {F H : HP} {S : List Nat} {R : Asr} {a : Base} {Q : Ending → HP → Prop} (gr : Good R) (wd : Wd a R F H S)
    (h : Spec P f args F fun e F' => Q e F' ∧ F.le F') : Spec P f args H fun e H' => ∃ F', Q e F' ∧ F.le F' ∧ Wd a R F' H' S := by
  refine (Spec.frame wd.wd.le h).mono ?_
  rintro e H' ⟨F', ⟨hq, hl⟩, h1, h2, h3⟩
  have keepS : ∀ b, H b ≠ none → H' b = H b := by
    intro b hb
    cases e0 : F b with
    | none => exact (h2 b e0 hb).1
    | some o => rw [h1 b o (hl b o e0), wd.wd.le b o e0]
  have hS : ∀ b ∈ S, F' b = none := fun b hb => (h2 b (wd.wd.apart b hb) (wd.wd.dom b hb)).2
  refine ⟨F', hq, hl, ⟨h1, hS, fun b hb => ?_⟩, wd.tr.trans ⟨fun b hb => ?_, fun b hb _ => keepS b hb, fun b hb => .inl hb, hl, fun b hb => ?_⟩, ?_⟩
  · rw [keepS b (wd.wd.dom b hb)]; exact wd.wd.dom b hb
  · rw [keepS b hb]; exact hb
  · show F b ≠ none ∨ H b = none
    cases e0 : F b with
    | some o => simp
    | none =>
      right
      refine Classical.byContradiction fun hn => ?_
      exact hb (h2 b e0 hn).2
  · exact gr.loc (fun b hb => keepS b (wd.wd.dom b hb)) (gr.mono hl wd.it)

/-! ### Single steps -/
section
variable {P : Program} {a : Base} {R : Asr} {F H : HP} {S : List Nat}

theorem has_cells {H : HP} {g off : Nat} {e : TypeId} {l : List Value} {fz : Nat × Nat} {vs : List Value} (hb : H g = some (.cells ⟨l⟩ e fz)) (h : (l.drop off).take vs.length = vs) : H.has ⟨g, off, none⟩ vs := by
  intro i v hi
  have hlt : i < vs.length := by
    rcases Nat.lt_or_ge i vs.length with h | h
    · exact h
    · rw [List.getElem?_eq_none h] at hi; cases hi
  unfold HP.cell?
  simp only [addN]
  rw [hb]
  rw [← h, List.getElem?_take_of_lt hlt, List.getElem?_drop] at hi
  simpa using hi

theorem blk_has {g off : Nat} {e : TypeId} {l vs : List Value} (hb : ((sepc (blk g e l) R)) F H S) (h : (l.drop off).take vs.length = vs) : H.has ⟨g, off, none⟩ vs := by
  obtain ⟨S1, S2, _, _, _, h3, _⟩ := hb
  exact has_cells h3.2 h

/-- a block of one's own is written -/
theorem Wd.set {g : Nat} {o o' : Obj} (gr : Good R) (h : Wd a ((sepc (obj g o) R)) F H S) : Wd a ((sepc (obj g o') R)) F (H.set g o') S := by
  obtain ⟨wd, tr, S1, S2, h1, h2, hd, h3, h4⟩ := h
  have hg : g ∈ S := h1 g h3.1
  have hset : ∀ b, b ≠ g → H.set g o' b = H b := fun b hb => by unfold HP.set; rw [if_neg hb]
  have hsame : H.set g o' g = some o' := by unfold HP.set; rw [if_pos rfl]
  refine ⟨⟨fun b o hb => ?_, wd.apart, fun b hb => ?_⟩, tr.trans ⟨fun b hb => ?_, fun b hb hs => ?_, fun b hb => .inl hb, HP.le.refl F, fun b hb => .inl hb⟩, [g], S2, ?_, h2, ?_, ⟨by simp, hsame⟩, ?_⟩
  · have : b ≠ g := fun e => by rw [e, wd.apart g hg] at hb; cases hb
    rw [hset b this]
    exact wd.le b o hb
  · by_cases e : b = g
    · rw [e, hsame]; simp
    · rw [hset b e]; exact wd.dom b hb
  · show H.set g o' b ≠ none
    by_cases e : b = g
    · rw [e, hsame]; simp
    · rw [hset b e]; exact hb
  · exact hset b fun e => hs (e ▸ hg)
  · intro b hb; simp at hb; rw [hb]; exact hg
  · intro b hb; simp at hb; rw [hb]; exact hd g h3.1
  · refine gr.loc (fun b hb => ?_) h4
    exact hset b fun e => hd g h3.1 (e ▸ hb)

/-- a new block of one's own -/
theorem Wd.new {g : Nat} {o : Obj} (gr : Good R) (h : Wd a R F H S) (hg : H g = none) : Wd a ((sepc (obj g o) R)) F (H.set g o) (g :: S) := by
  obtain ⟨wd, tr, hr⟩ := h
  have hset : ∀ b, b ≠ g → H.set g o b = H b := fun b hb => by unfold HP.set; rw [if_neg hb]
  have hsame : H.set g o g = some o := by unfold HP.set; rw [if_pos rfl]
  have hne : ∀ b, H b ≠ none → b ≠ g := fun b hb e => hb (e ▸ hg)
  refine ⟨⟨fun b o hb => ?_, fun b hb => ?_, fun b hb => ?_⟩, tr.trans ⟨fun b hb => ?_, fun b hb hs => hset b (hne b hb), fun b hb => ?_, HP.le.refl F, fun b hb => .inl hb⟩, [g], S, ?_, fun b hb => List.mem_cons_of_mem _ hb, ?_, ⟨by simp, hsame⟩, ?_⟩
  · have h1 := wd.le b o hb
    rw [hset b (hne b (by simp [h1]))]
    exact h1
  · rcases List.mem_cons.1 hb with rfl | hb
    · cases e : F b with
      | none => rfl
      | some o => rw [wd.le b o e] at hg; cases hg
    · exact wd.apart b hb
  · rcases List.mem_cons.1 hb with rfl | hb
    · rw [hsame]; simp
    · rw [hset b (hne b (wd.dom b hb))]; exact wd.dom b hb
  · show H.set g o b ≠ none
    rw [hset b (hne b hb)]; exact hb
  · rcases List.mem_cons.1 hb with rfl | hb
    · exact .inr hg
    · exact .inl hb
  · intro b hb; simp at hb; rw [hb]; exact List.mem_cons_self
  · intro b hb; simp at hb; rw [hb]; exact fun h => wd.dom g h hg
  · exact gr.loc (fun b hb => hset b (hne b (wd.dom b hb))) hr

/-- a block of one's own becomes frozen; it was new -/
theorem Wd.freeze {g : Nat} {o : Obj} (gr : Good R) (h : Wd a ((sepc (obj g o) R)) F H S) (hn : a.H g = none) : Wd a R (F.set g o) H (S.filter (· ≠ g)) ∧ F.le (F.set g o) ∧ F.set g o g = some o := by
  obtain ⟨wd, tr, S1, S2, h1, h2, hd, h3, h4⟩ := h
  have hg : g ∈ S := h1 g h3.1
  have hset : ∀ b, b ≠ g → F.set g o b = F b := fun b hb => by unfold HP.set; rw [if_neg hb]
  have hsame : F.set g o g = some o := by unfold HP.set; rw [if_pos rfl]
  have hle : F.le (F.set g o) := HP.le_set (wd.apart g hg)
  refine ⟨⟨⟨fun b o' hb => ?_, fun b hb => ?_, fun b hb => ?_⟩, ⟨tr.dom, tr.keep, fun b hb => tr.newS b (List.mem_filter.1 hb).1, tr.le.trans hle, fun b hb => ?_⟩, gr.weak (fun b hb => ?_) (gr.mono hle h4)⟩, hle, hsame⟩
  · by_cases e : b = g
    · rw [e, hsame] at hb; cases hb; rw [e]; exact h3.2
    · rw [hset b e] at hb; exact wd.le b o' hb
  · obtain ⟨hb1, hb2⟩ := List.mem_filter.1 hb
    rw [hset b (by simpa using hb2)]
    exact wd.apart b hb1
  · exact wd.dom b (List.mem_filter.1 hb).1
  · by_cases e : b = g
    · rw [e]; exact .inr hn
    · rw [hset b e] at hb; exact tr.newF b hb
  · refine List.mem_filter.2 ⟨h2 b hb, ?_⟩
    have : b ≠ g := fun e => hd g h3.1 (e ▸ hb)
    simpa using this

theorem blk_obj {g : Nat} {e : TypeId} {l : List Value} : blk g e l = obj g (.cells ⟨l⟩ e (0, 0)) := rfl

theorem WStore.blk {g off : Nat} {e : TypeId} {l vs : List Value} {k : W} (gr : Good R) (h : Wd a ((sepc (blk g e l) R)) F H S) (hlen : off + vs.length ≤ l.length)
    (hk : ∀ H', Wd a ((sepc (blk g e (writeL l off vs)) R)) F H' S → k H') : WStore ⟨g, off, none⟩ vs k H := by
  have hg : H g = some (.cells ⟨l⟩ e (0, 0)) := by
    obtain ⟨S1, S2, _, _, _, h3, _⟩ := h.it
    exact h3.2
  refine ⟨fun i hi => ⟨?_, ?_⟩, ?_⟩
  · unfold HP.cell?
    simp only [addN]
    rw [hg]
    simp [show off + i < l.length by omega]
  · unfold HP.free
    simp only [addN]
    rw [hg]
    simp
  · have : H.put ⟨g, off, none⟩ vs = H.set g (.cells ⟨writeL l off vs⟩ e (0, 0)) := by
      unfold HP.put
      simp only
      rw [hg]
    rw [this]
    exact hk _ (Wd.set gr h)

theorem WNew.blk {e : TypeId} {vs : List Value} {k : Nat → W} (gr : Good R) (h : Wd a R F H S)
    (hk : ∀ g H', H g = none → H.le H' → Wd a ((sepc (blk g e vs) R)) F H' (g :: S) → k g H') : WNew vs e k H :=
  fun g hg => hk g _ hg (HP.le_set hg) (Wd.new gr h hg)

theorem blk_at {g : Nat} {e : TypeId} {l : List Value} (h : ((sepc (blk g e l) R)) F H S) : H g = some (.cells ⟨l⟩ e (0, 0)) := by
  obtain ⟨S1, S2, _, _, _, h3, _⟩ := h
  exact h3.2

theorem WCall.of {Q : Ending → W} {R : Ending → W} {f : FuncId} {args : Array Value} {k : Value → W} (h : Spec P f args H R)
    (hk : ∀ v H', R (.returned v) H' → k v H') (hn : ∀ e H', R e H' → (∀ v, e ≠ .returned v) → Q e H') : WCall P Q f args k H :=
  Spec.mono h fun e H' hr => by
    cases e with
    | returned v => exact hk v H' hr
    | _ => exact hn _ H' hr (fun v h => by cases h)

/-- a call that makes frozen data -/
theorem WCall.grow {Q : Ending → W} {f : FuncId} {args : Array Value} {k : Value → W} {φ : Value → HP → Prop} (gr : Good R) (wd : Wd a R F H S)
    (h : Spec P f args F fun e F' => ∃ v, e = .returned v ∧ φ v F' ∧ F.le F') (hk : ∀ v F' H', φ v F' → F.le F' → Wd a R F' H' S → k v H') : WCall P Q f args k H := by
  refine WCall.of (Spec.grow (Q := fun e F' => ∃ v, e = .returned v ∧ φ v F') gr wd (h.mono fun e F' ⟨v, h1, h2, h3⟩ => ⟨⟨v, h1, h2⟩, h3⟩)) ?_ ?_
  · rintro v H' ⟨F', ⟨v', h1, h2⟩, h3, h4⟩
    cases h1
    exact hk v F' H' h2 h3 h4
  · rintro e H' ⟨F', ⟨v', h1, h2⟩, h3, h4⟩ hne
    exact absurd h1 (hne v')
end
end Go.Den
