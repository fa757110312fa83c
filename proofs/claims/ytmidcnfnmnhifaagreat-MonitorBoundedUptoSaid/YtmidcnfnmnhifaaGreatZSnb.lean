import Derived.Test.YtmidcnfnmnhifaaGreatZSna
import Derived.LoopN
/-
  The readable weakest precondition (Den) is sound: regions in order.
-/
namespace Go.Den
set_option linter.unusedSectionVars false
set_option linter.unusedSimpArgs false
set_option linter.unusedVariables false
open Go
set_option linter.unusedVariables false
set_option linter.unusedSimpArgs false
section
variable [DF] {P : Program} {tb : List Row} {β β' : Nat → Nat} {w w' w₀ : World} {H H' H₀ : HP} {st st' : St} {a a' : Act}

/-- what a piece of code leaves alone: what it was not given to write -/
structure Agr (st st' : St) (a a' : Act) (β β' : Nat → Nat) : Prop where
  size : a'.tmps.size = a.tmps.size
  fr : st'.fr = st.fr
  fo : st'.fo = st.fo
  tmps : ∀ i, okW st.fr i = false → a'.tmps.getD i undef = a.tmps.getD i undef
  tm : ∀ i, okW st.fr i = false → st'.tm.getD i .junk = st.tm.getD i .junk ∨ ∃ b, st.tm.getD i .junk = .v (.bool b)
  bl : ∀ i d off, okW st.fr i = false → st.tm.getD i .junk = .own d off → β' d = β d
  own : ∀ d, mem d st.fo = true → st.own d ≠ none → β' d = β d ∧ st'.own d = st.own d

theorem Agr.rfl : Agr st st a a β β := ⟨by rfl, by rfl, by rfl, fun _ _ => by rfl, fun _ _ => .inl (by rfl), fun _ _ _ _ _ => by rfl, fun _ _ _ => ⟨by rfl, by rfl⟩⟩

theorem Agr.trans {st'' : St} {a'' : Act} {β'' : Nat → Nat} (h : Agr st st' a a' β β') (k : Agr st' st'' a' a'' β' β'') : Agr st st'' a a'' β β'' where
  size := k.size.trans h.size
  fr := k.fr.trans h.fr
  fo := k.fo.trans h.fo
  tmps i hi := (k.tmps i (by rw [h.fr]; exact hi)).trans (h.tmps i hi)
  tm i hi := by
    rcases h.tm i hi with e | e
    · rcases k.tm i (by rw [h.fr]; exact hi) with e' | ⟨b, e'⟩
      · exact .inl (e'.trans e)
      · exact .inr ⟨b, e ▸ e'⟩
    · exact .inr e
  bl i d off hi ho := by
    rcases h.tm i hi with e | ⟨b, e⟩
    · rw [k.bl i d off (by rw [h.fr]; exact hi) (by rw [e]; exact ho), h.bl i d off hi ho]
    · rw [ho] at e; cases e
  own d hd hn := by
    obtain ⟨e1, e2⟩ := h.own d hd hn
    obtain ⟨e3, e4⟩ := k.own d (by rw [h.fo]; exact hd) (by rw [e2]; exact hn)
    exact ⟨e3.trans e1, e4.trans e2⟩

theorem put_tm {v : SV} {x : Value} (hs : a.tmps.size = st.tm.length) (ht : ∀ i, RelV β (st.tm.getD i .junk) (a.tmps.getD i undef)) (hr : RelV β v x) (d : Nat) :
    (a.put (some d) x).tmps.size = (st.tm.set d v).length ∧ ∀ i, RelV β ((st.tm.set d v).getD i .junk) ((a.put (some d) x).tmps.getD i undef) := by
  refine ⟨by simp [Act.put, hs], fun i => ?_⟩
  have h1 := ht i
  by_cases hd : d = i
  · subst hd
    rcases Nat.lt_or_ge d st.tm.length with hl | hl
    · have e1 : (st.tm.set d v).getD d .junk = v := by simp [List.getD, hl]
      have e2 : (a.put (some d) x).tmps.getD d undef = x := by simp [Act.put, Array.getD, hs, hl]
      rw [e1, e2]
      exact hr
    · have e1 : (st.tm.set d v).getD d .junk = .junk := by simp [List.getD, hl]
      rw [e1]
      trivial
  · have e1 : (st.tm.set d v).getD i .junk = st.tm.getD i .junk := by simp [List.getD, List.getElem?_set, hd]
    have e2 : (a.put (some d) x).tmps.getD i undef = a.tmps.getD i undef := by
      simp only [Act.put, Array.getD_eq_getD_getElem?]
      rw [Array.getElem?_setIfInBounds_ne hd]
    rw [e1, e2]
    exact h1

theorem put_sound {v : SV} {x : Value} {dst : Option Nat} {κ : St → W} (inv : Inv w₀ H₀ st a w H β) (hr : RelV β v x) (h : st.put dst v κ H) :
    ∃ st', Inv w₀ H₀ st' (a.put dst x) w H β ∧ Agr st st' a (a.put dst x) β β ∧ κ st' H := by
  unfold St.put at h
  cases dst with
  | none => exact ⟨st, inv, .rfl, h⟩
  | some d =>
    simp only at h
    cases ho : okW st.fr d <;> rw [ho] at h
    · exact h.elim
    · simp only [cond_true, setK_eq] at h
      obtain ⟨hs, ht⟩ := put_tm inv.size inv.tm hr d
      refine ⟨{ st with tm := st.tm.set d v }, ⟨hs, ht, inv.defers, inv.up, inv.own, inv.inj⟩, ⟨by simp [Act.put], by rfl, by rfl, fun i hi => ?_, fun i hi => .inl ?_, fun _ _ _ _ _ => by rfl, fun _ _ _ => ⟨by rfl, by rfl⟩⟩, h⟩
      · have hne : d ≠ i := fun e => by subst e; rw [ho] at hi; cases hi
        simp only [Act.put, Array.getD_eq_getD_getElem?]
        rw [Array.getElem?_setIfInBounds_ne hne]
      · have hne : d ≠ i := fun e => by subst e; rw [ho] at hi; cases hi
        simp [List.getD, List.getElem?_set, hne]

theorem putG_sound {g : Bool} {v : SV} {x : Value} {dst : Option Nat} {κ : St → W} (inv : Inv w₀ H₀ st a w H β) (hr : RelV β v x) (h : putG g st dst v κ H) :
    ∃ st', Inv w₀ H₀ st' (a.put dst x) w H β ∧ Agr st st' a (a.put dst x) β β ∧ κ st' H := by
  unfold putG at h
  cases g
  · exact put_sound inv hr h
  · simp only [cond_true] at h
    split at h
    · rename_i b
      cases b
      · exact put_sound (v := .lit false) inv hr (h.2 rfl)
      · exact put_sound (v := .lit true) inv hr (h.1 rfl)
    · exact put_sound inv hr h
    · exact h.elim

theorem guardD_wanted (inv : Inv w₀ H₀ st a w H β) (ops : Array Oper) (o : Oper) :
    match guardD ops.toList st o with
    | .run => Region.wanted o (yielded ops a.tmps) = true
    | .skip => Region.wanted o (yielded ops a.tmps) = false
    | .bad => True := by
  unfold guardD Region.wanted
  cases o.guard with
  | none => rfl
  | some g =>
    obtain ⟨j, want⟩ := g
    simp only [getO_eq, Array.getElem?_toList]
    unfold yielded
    cases ops[j]? with
    | none => trivial
    | some o' =>
      simp only [Option.bind_some]
      cases o'.dst with
      | none => trivial
      | some d =>
        simp only [Option.bind_some, getL_eq]
        have h := inv.tm d
        cases e : st.tm.getD d .junk with
        | junk => trivial
        | own => trivial
        | adr => trivial
        | lit b =>
          rw [e] at h
          simp only [RelV, Array.getD_eq_getD_getElem?] at h
          cases e2 : a.tmps[d]? with
          | none => rw [e2] at h; cases h
          | some y =>
            rw [e2] at h
            simp only [Option.getD_some] at h
            subst h
            cases b <;> cases want <;> rfl
        | v x =>
          rw [e] at h
          cases x <;> try trivial
          simp only [RelV, Array.getD_eq_getD_getElem?] at h
          cases e2 : a.tmps[d]? with
          | none => rfl
          | some y =>
            rw [e2] at h
            simp only [Option.getD_some] at h
            subst h
            rfl

variable {Q : Ending → W} {esc : List Nat}

/-- what a piece leaves -/
def Post (w₀ : World) (H₀ : HP) (st : St) (a : Act) (β : Nat → Nat) (κ : St → W) : Act → World → Prop := fun a' w' =>
  ∃ st' β' H', Inv w₀ H₀ st' a' w' H' β' ∧ Agr st st' a a' β β' ∧ κ st' H'

/-- ONE OPERATION OF A REGION. -/
theorem stepW_sound (hb : TabOk P tb) (inv : Inv w₀ H₀ st a w H β) {ops : Array Oper} {i : Nat} {o : Oper} (ho : ops[i]? = some o) {κ : St → W} {Qr : Exit → Act → World → Prop}
    (hQp : ∀ c a' w' H', Up H₀ H' w₀ w' → Q (.panicked c) H' → a'.defers = DF.l → (∀ i, okW st.fr i = false → a'.tmps.getD i undef = a.tmps.getD i undef) → Qr (.panic c) a' w') (hQo : ∀ w' H', Up H₀ H' w₀ w' → Q .outgrown H' → LetsOut Qr)
    (h : stepW P tb Q esc ops.toList i o st κ H) : wpOp P ops Qr i (Post w₀ H₀ st a β κ) a w := by
  unfold wpOp
  simp only [ho]
  unfold stepW at h
  have hg := guardD_wanted inv ops o
  cases e : guardD ops.toList st o <;> rw [e] at h hg <;> simp only at hg h
  · rw [if_pos hg]
    refine .inl (Oper.wp_mono (fun a' w' hp => ?_) (opW_sound (Qr := Qr) hb inv (fun c w' H' hu hq => hQp c a w' H' hu hq inv.defers (fun _ _ => rfl)) hQo h))
    obtain ⟨v, own', x, β', H', rfl, hr, inv', agr, hκ⟩ := hp
    obtain ⟨st', inv'', agr', hk⟩ := putG_sound inv' hr hκ
    refine ⟨st', β', H', inv'', Agr.trans (st' := { st with own := own' }) (a' := a) (β' := β') ⟨by rfl, by rfl, by rfl, fun _ _ => by rfl, fun _ _ => .inl (by rfl), fun i d off _ he => agr.tm i d off he, fun d hd hn => ⟨agr.own d hn, agr.fo d hd hn⟩⟩ agr', hk⟩
  · rw [if_neg (by rw [hg]; simp)]
    obtain ⟨st', inv', agr, hk⟩ := put_sound (v := .v undef) (x := undef) inv (by rfl) h
    exact ⟨st', β, H, inv', agr, hk⟩
  · exact h.elim

theorem Post.trans {st₁ : St} {a₁ : Act} {β₁ : Nat → Nat} {κ : St → W} (h : Agr st st₁ a a₁ β β₁) {a' : Act} {w' : World} (k : Post w₀ H₀ st₁ a₁ β₁ κ a' w') : Post w₀ H₀ st a β κ a' w' := by
  obtain ⟨st', β', H', inv, agr, hk⟩ := k
  exact ⟨st', β', H', inv, h.trans agr, hk⟩

theorem panic_step {Qr : Exit → Act → World → Prop} (agr : Agr st st' a a' β β')
    (hQp : ∀ c a' w' H', Up H₀ H' w₀ w' → Q (.panicked c) H' → a'.defers = DF.l → (∀ i, okW st.fr i = false → a'.tmps.getD i undef = a.tmps.getD i undef) → Qr (.panic c) a' w') :
    ∀ c a'' w' H', Up H₀ H' w₀ w' → Q (.panicked c) H' → a''.defers = DF.l → (∀ i, okW st'.fr i = false → a''.tmps.getD i undef = a'.tmps.getD i undef) → Qr (.panic c) a'' w' :=
  fun c a'' w' H' hu hq hd ht => hQp c a'' w' H' hu hq hd fun i hi => (ht i (by rw [agr.fr]; exact hi)).trans (agr.tmps i hi)

/-- A REGION IN ORDER. -/
theorem seqW_sound (hb : TabOk P tb) {ops : Array Oper} {κ : St → W} {Qr : Exit → Act → World → Prop}
    (hQo : ∀ w' H', Up H₀ H' w₀ w' → Q .outgrown H' → LetsOut Qr) :
    ∀ (rest : List Oper) (i : Nat) {st : St} {a : Act} {w : World} {H : HP} {β : Nat → Nat}, (∀ c a' w' H', Up H₀ H' w₀ w' → Q (.panicked c) H' → a'.defers = DF.l → (∀ i, okW st.fr i = false → a'.tmps.getD i undef = a.tmps.getD i undef) → Qr (.panic c) a' w') → (∀ j, rest[j]? = ops[i + j]?) → Inv w₀ H₀ st a w H β →
      (∀ a' w', Post w₀ H₀ st a β κ a' w' → Qr .normal a' w') → seqW P tb Q esc ops.toList rest i st κ H → wpOps P ops Qr (List.range' i rest.length) a w
  | [], i, st, a, w, H, β, hQp, hl, inv, hk, h => hk a w ⟨st, β, H, inv, .rfl, h⟩
  | o :: rest, i, st, a, w, H, β, hQp, hl, inv, hk, h => by
    have h0 : ops[i]? = some o := by simpa using (hl 0).symm
    simp only [List.length_cons, List.range'_succ]
    rw [wpOps_cons]
    refine wpOp_mono (fun a' w' hp => ?_) (stepW_sound hb inv h0 hQp hQo (κ := fun st' => seqW P tb Q esc ops.toList rest (i + 1) st' κ) h)
    obtain ⟨st', β', H', inv', agr, hs⟩ := hp
    exact seqW_sound hb hQo rest (i + 1) (panic_step agr hQp) (fun j => by have := hl (j + 1); simpa [Nat.add_assoc, Nat.add_comm 1 j] using this) inv' (fun a'' w'' hp => hk a'' w'' (hp.trans agr)) hs
end
end Go.Den

/-
  The readable weakest precondition (Den) is sound: regions that only compute, with tests that are joined.
-/
namespace Go.Den
set_option linter.unusedSectionVars false
set_option linter.unusedSimpArgs false
set_option linter.unusedVariables false
open Go
set_option linter.unusedVariables false
set_option linter.unusedSimpArgs false
section
variable [DF] {P : Program} {tb : List Row} {β β' : Nat → Nat} {w w' w₀ : World} {H H' H₀ : HP} {st st' : St} {a a' : Act}

theorem mergeV_sound {b : Bool} {x y : SV} {v : Value} (h : RelV β (cond b x y) v) : RelV β (mergeV b x y) v := by
  unfold mergeV
  split
  · rename_i s hs
    unfold orB at hs
    split at hs <;> first
      | (cases hs; cases b <;> simp_all [RelV]; done)
      | (cases hs)
  · trivial

theorem mergeL_spec {α : Type} (b : Bool) : ∀ (ds : List (Option Nat)) (tm x y : List SV) (k : List SV → α),
    ∃ r : List SV, mergeL b ds tm x y k = k r ∧ r.length = tm.length ∧ (∀ e, some e ∉ ds → r.getD e .junk = tm.getD e .junk) ∧
      (∀ e, some e ∈ ds → e < tm.length → r.getD e .junk = mergeV b (x.getD e .junk) (y.getD e .junk))
  | [], tm, x, y, k => ⟨tm, rfl, rfl, fun _ _ => rfl, fun _ h => by cases h⟩
  | none :: ds, tm, x, y, k => by
    obtain ⟨r, h1, h2, h3, h4⟩ := mergeL_spec b ds tm x y k
    refine ⟨r, h1, h2, fun e he => h3 e (fun h => he (List.mem_cons_of_mem _ h)), fun e he hl => h4 e ?_ hl⟩
    cases he
    assumption
  | some d :: ds, tm, x, y, k => by
    obtain ⟨r, h1, h2, h3, h4⟩ := mergeL_spec b ds (tm.set d (mergeV b (x.getD d .junk) (y.getD d .junk))) x y k
    refine ⟨r, ?_, by rw [h2]; simp, fun e he => ?_, fun e he hl => ?_⟩
    · rw [← h1]
      show setK tm d (mergeV b (getL .junk x d) (getL .junk y d)) _ = _
      rw [setK_eq, getL_eq, getL_eq]
      rfl
    · have hne : d ≠ e := fun h => he (by rw [h]; exact List.mem_cons_self)
      rw [h3 e (fun h => he (List.mem_cons_of_mem _ h))]
      simp [List.getD, List.getElem?_set, hne]
    · by_cases hin : some e ∈ ds
      · exact h4 e hin (by simpa using hl)
      · have hde : d = e := by
          cases he with
          | head => rfl
          | tail _ h => exact absurd h hin
        subst hde
        rw [h3 d hin]
        simp [List.getD, hl]

theorem splitP_eq (d : Nat) : ∀ l : List Oper, (splitP d l).1 ++ (splitP d l).2 = l
  | [] => rfl
  | o :: rest => by
    have ih := splitP_eq d rest
    have e : splitP d (o :: rest) = (match o.op with
      | .pick (.tmp c) _ _ => bif Nat.beq c d then ([o], rest) else (o :: (splitP d rest).1, (splitP d rest).2)
      | _ => (o :: (splitP d rest).1, (splitP d rest).2)) := rfl
    rw [e]
    split
    · rename_i c _ _ _
      cases Nat.beq c d
      · simp [ih]
      · simp
    · simp [ih]

/-- operations 'i', .., 'i + n - 1' carry a state into another one, and do nothing else -/
def Run (P : Program) (ops : Array Oper) (w : World) (i n : Nat) (a a' : Act) : Prop :=
  ∀ (Q : Exit → Act → World → Prop) (rest : List Nat), wpOps P ops Q rest a' w → wpOps P ops Q (List.range' i n ++ rest) a w

theorem Run.nil {ops : Array Oper} {i : Nat} : Run P ops w i 0 a a := fun _ _ h => h

theorem Run.add {ops : Array Oper} {i n m : Nat} {a₁ a₂ a₃ : Act} (h : Run P ops w i n a₁ a₂) (k : Run P ops w (i + n) m a₂ a₃) : Run P ops w i (n + m) a₁ a₃ := by
  intro Q rest hr
  rw [← List.range'_append_1, List.append_assoc]
  exact h Q _ (k Q rest hr)

theorem Run.one {ops : Array Oper} {i : Nat} {o : Oper} {v : Value} (ho : ops[i]? = some o) (hw : Region.wanted o (yielded ops a.tmps) = true) (h : (execOp a.eval o).run P w = .ok (.value v) w) :
    Run P ops w i 1 a (a.put o.dst v) := by
  intro Q rest hr
  show wpOps P ops Q (i :: rest) a w
  rw [wpOps_cons]
  unfold wpOp
  simp only [ho]
  rw [if_pos hw]
  exact .inl (wp_ok h hr)

theorem Run.skip {ops : Array Oper} {i : Nat} {o : Oper} (ho : ops[i]? = some o) (hw : Region.wanted o (yielded ops a.tmps) = false) :
    Run P ops w i 1 a (a.put o.dst undef) := by
  intro Q rest hr
  show wpOps P ops Q (i :: rest) a w
  rw [wpOps_cons]
  unfold wpOp
  simp only [ho]
  rw [if_neg (by rw [hw]; simp)]
  exact hr

theorem purV_sound (hb : TabOk P tb) (inv : Inv w₀ H₀ st a w H β) {o : Oper} {v : SV} (h : purV tb st o = some v) :
    ∃ r, (execOp a.eval o).run P w = .ok (.value r) w ∧ RelV β v r := by
  unfold purV at h
  split at h
  · rename_i u hu
    cases h
    exact pureV_sound hb (fun x => ev_rel inv x) hu
  · split at h
    · rename_i t x ho
      cases hk : known tb t <;> rw [hk] at h
      · cases h
      · simp only [Bool.not_true, cond_false] at h
        split at h
        · rename_i d off e
          obtain ⟨r, hr, rfl⟩ := loadOwn_run hb inv hk h
          have hx := ev_rel inv x
          rw [e] at hx
          simp only [RelV] at hx
          refine ⟨r, ?_, rfl⟩
          unfold execOp
          rw [ho]
          exact val_run (by rw [hx]; exact hr)
        · cases h
    · cases h

theorem set_inv (inv : Inv w₀ H₀ st a w H β) {d : Nat} {v : SV} {x : Value} (hr : RelV β v x) : Inv w₀ H₀ { st with tm := st.tm.set d v } (a.put (some d) x) w H β := by
  obtain ⟨hs, ht⟩ := put_tm inv.size inv.tm hr d
  exact ⟨hs, ht, inv.defers, inv.up, inv.own, inv.inj⟩

theorem put_other {x : Value} {d e : Nat} (h : d ≠ e) : (a.put (some d) x).tmps.getD e undef = a.tmps.getD e undef := by
  simp only [Act.put, Array.getD_eq_getD_getElem?]
  rw [Array.getElem?_setIfInBounds_ne h]

theorem set_other {l : List SV} {v : SV} {d e : Nat} (h : d ≠ e) : (l.set d v).getD e .junk = l.getD e .junk := by
  simp [List.getD, List.getElem?_set, h]

/-- what a piece that only computes leaves -/
structure Pur (P : Program) (ops : Array Oper) (w₀ w : World) (H₀ H : HP) (β : Nat → Nat) (seg : List Oper) (i : Nat) (st : St) (a : Act) (tm : List SV) (a' : Act) : Prop where
  run : Run P ops w i seg.length a a'
  inv : Inv w₀ H₀ { st with tm := tm } a' w H β
  len : tm.length = st.tm.length
  ok : ∀ o ∈ seg, ∀ d, o.dst = some d → okW st.fr d = true
  tm : ∀ e, (∀ o ∈ seg, o.dst ≠ some e) → tm.getD e .junk = st.tm.getD e .junk
  tmps : ∀ e, (∀ o ∈ seg, o.dst ≠ some e) → a'.tmps.getD e undef = a.tmps.getD e undef

theorem Pur.cons {ops : Array Oper} {rest : List Oper} {i : Nat} {o : Oper} {d : Nat} {v : SV} {x : Value} {tm : List SV} (hd : o.dst = some d) (hok : okW st.fr d = true)
    (h1 : Run P ops w i 1 a (a.put o.dst x)) (h2 : Pur P ops w₀ w H₀ H β rest (i + 1) { st with tm := st.tm.set d v } (a.put (some d) x) tm a') : Pur P ops w₀ w H₀ H β (o :: rest) i st a tm a' where
  run := by
    rw [List.length_cons, Nat.add_comm]
    exact Run.add h1 (by rw [hd]; exact h2.run)
  inv := h2.inv
  len := by rw [h2.len]; simp
  ok o' ho' e he := by
    cases ho' with
    | head => rw [hd] at he; cases he; exact hok
    | tail _ h => exact h2.ok o' h e he
  tm e he := by
    rw [h2.tm e fun o' ho' => he o' (List.mem_cons_of_mem _ ho')]
    exact set_other fun h => he o List.mem_cons_self (by rw [hd, h])
  tmps e he := by
    rw [h2.tmps e fun o' ho' => he o' (List.mem_cons_of_mem _ ho')]
    exact put_other fun h => he o List.mem_cons_self (by rw [hd, h])

theorem Pur.append {ops : Array Oper} {s₁ s₂ : List Oper} {i : Nat} {tm₁ tm₂ : List SV} {a₁ a₂ : Act} (h1 : Pur P ops w₀ w H₀ H β s₁ i st a tm₁ a₁)
    (h2 : Pur P ops w₀ w H₀ H β s₂ (i + s₁.length) { st with tm := tm₁ } a₁ tm₂ a₂) : Pur P ops w₀ w H₀ H β (s₁ ++ s₂) i st a tm₂ a₂ where
  run := by rw [List.length_append]; exact Run.add h1.run h2.run
  inv := h2.inv
  len := by rw [h2.len, ← h1.len]
  ok o ho d hd := by
    rcases List.mem_append.1 ho with h | h
    · exact h1.ok o h d hd
    · exact h2.ok o h d hd
  tm e he := (h2.tm e fun o ho => he o (List.mem_append_right _ ho)).trans (h1.tm e fun o ho => he o (List.mem_append_left _ ho))
  tmps e he := (h2.tmps e fun o ho => he o (List.mem_append_right _ ho)).trans (h1.tmps e fun o ho => he o (List.mem_append_left _ ho))

theorem purR_succ (ops : List Oper) (fuel : Nat) (seg : List Oper) (i : Nat) (st : St) : purR tb ops (fuel + 1) seg i st = (match seg with
      | [] => some st.tm
      | o :: rest =>
      match o.dst with
      | none => none
      | some d =>
      bif !okW st.fr d then none else
      match guardD ops st o with
      | .bad => none
      | .skip => setK st.tm d (.v undef) fun l => purR tb ops fuel rest (i + 1) { st with tm := l }
      | .run =>
        match purV tb st o with
        | none => none
        | some v =>
          bif isGuard ops i then match v with
            | .v (.bool b) => match splitP d rest with
              | (seg, rest') =>
              match setK st.tm d (.lit true) fun l => purR tb ops fuel seg (i + 1) { st with tm := l }, setK st.tm d (.lit false) fun l => purR tb ops fuel seg (i + 1) { st with tm := l } with
              | some x, some y => mergeL b (some d :: seg.map (·.dst)) st.tm x y fun tm => purR tb ops fuel rest' (i + 1 + seg.length) { st with tm := tm }
              | _, _ => none
            | .lit b => setK st.tm d (.lit b) fun l => purR tb ops fuel rest (i + 1) { st with tm := l }
            | _ => none
          else setK st.tm d v fun l => purR tb ops fuel rest (i + 1) { st with tm := l }) := rfl

theorem purR_sound (hb : TabOk P tb) {ops : Array Oper} : ∀ (fuel : Nat) (seg : List Oper) (i : Nat) {st : St} {a : Act} {tm : List SV}, (∀ j o, seg[j]? = some o → ops[i + j]? = some o) → Inv w₀ H₀ st a w H β →
    purR tb ops.toList fuel seg i st = some tm → ∃ a', Pur P ops w₀ w H₀ H β seg i st a tm a'
  | 0, _, _, _, _, _, _, _, h => by cases h
  | fuel + 1, seg, i, st, a, tm, hl, inv, h => by
    rw [purR_succ] at h
    cases seg with
    | nil =>
      cases h
      exact ⟨a, Run.nil, inv, rfl, fun _ h => (by cases h), fun _ _ => rfl, fun _ _ => rfl⟩
    | cons o rest =>
      simp only at h
      have ho : ops[i]? = some o := by simpa using hl 0 o rfl
      have hl' : ∀ j o', rest[j]? = some o' → ops[i + 1 + j]? = some o' := fun j o' hj => by
        have := hl (j + 1) o' (by simpa using hj)
        simpa [Nat.add_assoc, Nat.add_comm 1 j] using this
      cases hd : o.dst with
      | none => rw [hd] at h; cases h
      | some d =>
        rw [hd] at h
        simp only at h
        cases hok : okW st.fr d <;> rw [hok] at h
        · cases h
        · simp only [Bool.not_true, cond_false] at h
          have hg := guardD_wanted inv ops o
          cases eg : guardD ops.toList st o <;> rw [eg] at h hg <;> simp only at h hg
          · split at h
            · cases h
            · rename_i v hv
              obtain ⟨x, hx, hr⟩ := purV_sound hb inv hv
              have h1 : Run P ops w i 1 a (a.put o.dst x) := Run.one ho hg hx
              have plain : ∀ v', RelV β v' x → (setK st.tm d v' fun l => purR tb ops.toList fuel rest (i + 1) { st with tm := l }) = some tm → ∃ a', Pur P ops w₀ w H₀ H β (o :: rest) i st a tm a' := by
                intro v' hr' h'
                rw [setK_eq] at h'
                obtain ⟨a', hp⟩ := purR_sound hb fuel rest (i + 1) hl' (set_inv inv hr') h'
                exact ⟨a', Pur.cons hd hok h1 hp⟩
              cases eG : isGuard ops.toList i <;> rw [eG] at h
              · exact plain v hr h
              · simp only [cond_true] at h
                split at h
                · rename_i b
                  generalize hsp : splitP d rest = sp at h
                  obtain ⟨sg, rest'⟩ := sp
                  have hrest : sg ++ rest' = rest := by have := splitP_eq d rest; rw [hsp] at this; exact this
                  simp only [setK_eq] at h
                  split at h
                  · rename_i tx ty htx hty
                    obtain ⟨r, hm, hlen, hout, hin⟩ := mergeL_spec b (some d :: sg.map (·.dst)) st.tm tx ty fun tm => purR tb ops.toList fuel rest' (i + 1 + sg.length) { st with tm := tm }
                    rw [hm] at h
                    have hlsg : ∀ j o', sg[j]? = some o' → ops[i + 1 + j]? = some o' := fun j o' hj => hl' j o' (by
                      rw [← hrest, List.getElem?_append, if_pos]
                      · exact hj
                      · rcases Nat.lt_or_ge j sg.length with h' | h'
                        · exact h'
                        · simp [List.getElem?_eq_none h'] at hj)
                    have hlr : ∀ j o', rest'[j]? = some o' → ops[i + 1 + sg.length + j]? = some o' := fun j o' hj => by
                      have := hl' (sg.length + j) o' (by rw [← hrest, List.getElem?_append, if_neg (by omega)]; simpa using hj)
                      rw [← this]
                      congr 1
                      omega
                    -- one of the two is what happens
                    have hxb : x = .bool b := hr
                    obtain ⟨a₁, hp⟩ : ∃ a₁, Pur P ops w₀ w H₀ H β sg (i + 1) { st with tm := st.tm.set d (.lit b) } (a.put (some d) x) (cond b tx ty) a₁ := by
                      cases b
                      · exact purR_sound hb fuel sg (i + 1) hlsg (set_inv inv (v := .lit false) hxb) hty
                      · exact purR_sound hb fuel sg (i + 1) hlsg (set_inv inv (v := .lit true) hxb) htx
                    have hp' : Pur P ops w₀ w H₀ H β (o :: sg) i st a (cond b tx ty) a₁ := Pur.cons hd hok h1 hp
                    have hds : ∀ e, some e ∉ (some d :: sg.map (·.dst)) → ∀ o' ∈ o :: sg, o'.dst ≠ some e := by
                      intro e he o' ho' hoe
                      cases ho' with
                      | head => rw [hd] at hoe; cases hoe; exact he List.mem_cons_self
                      | tail _ h' => exact he (List.mem_cons_of_mem _ (List.mem_map.2 ⟨o', h', hoe⟩))
                    have hp2 : Pur P ops w₀ w H₀ H β (o :: sg) i st a r a₁ := by
                      refine ⟨hp'.run, ⟨?_, fun e => ?_, hp'.inv.defers, hp'.inv.up, hp'.inv.own, hp'.inv.inj⟩, hlen, hp'.ok, fun e he => ?_, hp'.tmps⟩
                      · have := hp'.inv.size
                        simp only at this ⊢
                        rw [this, hlen, hp'.len]
                      · have hrel := hp'.inv.tm e
                        simp only at hrel ⊢
                        by_cases hin' : some e ∈ (some d :: sg.map (·.dst))
                        · rcases Nat.lt_or_ge e st.tm.length with hlt | hge
                          · rw [hin e hin' hlt]
                            refine mergeV_sound ?_
                            cases b <;> exact hrel
                          · rw [show r.getD e .junk = .junk by rw [List.getD_eq_getElem?_getD, List.getElem?_eq_none (by omega)]; rfl]
                            trivial
                        · rw [hout e hin', ← hp'.tm e (hds e hin')]
                          exact hrel
                      · refine hout e fun hin' => ?_
                        cases hin' with
                        | head => exact he o List.mem_cons_self hd
                        | tail _ h' =>
                          obtain ⟨o', ho', hoe⟩ := List.mem_map.1 h'
                          exact he o' (List.mem_cons_of_mem _ ho') hoe
                    obtain ⟨a₂, hp3⟩ := purR_sound hb fuel rest' (i + 1 + sg.length) hlr hp2.inv h
                    refine ⟨a₂, ?_⟩
                    have := Pur.append hp2 (s₂ := rest') (tm₂ := tm) (a₂ := a₂) (by
                      rw [show i + (o :: sg).length = i + 1 + sg.length by simp; omega]
                      exact hp3)
                    rwa [List.cons_append, hrest] at this
                  · cases h
                · rename_i b
                  exact plain (.lit b) hr h
                · cases h
          · rw [setK_eq] at h
            obtain ⟨a', hp⟩ := purR_sound hb fuel rest (i + 1) hl' (set_inv inv (v := .v undef) (x := undef) (by rfl)) h
            exact ⟨a', Pur.cons hd hok (Run.skip ho hg) hp⟩
          · cases h

variable {Q : Ending → W} {esc : List Nat}

/-- A REGION WITHOUT A DRAW. -/
theorem still_sound (hb : TabOk P tb) {ops : Array Oper} {κ : St → W} {Qr : Exit → Act → World → Prop}
    (hQp : ∀ c a' w' H', Up H₀ H' w₀ w' → Q (.panicked c) H' → a'.defers = DF.l → (∀ i, okW st.fr i = false → a'.tmps.getD i undef = a.tmps.getD i undef) → Qr (.panic c) a' w') (hQo : ∀ w' H', Up H₀ H' w₀ w' → Q .outgrown H' → LetsOut Qr)
    (inv : Inv w₀ H₀ st a w H β) (hk : ∀ a' w', Post w₀ H₀ st a β κ a' w' → Qr .normal a' w') {id : Nat}
    (h : regionW P tb Q esc ops.toList false st κ H) : (Code.region id ops false).wp P Qr a w := by
  apply wp_region
  have hr : List.range ops.size = List.range' 0 ops.toList.length := by simp [List.range_eq_range']
  rw [hr]
  have hseq : seqW P tb Q esc ops.toList ops.toList 0 st κ H → wpOps P ops Qr (List.range' 0 ops.toList.length) a w := fun h =>
    seqW_sound hb hQo ops.toList 0 hQp (fun j => by simp) inv hk h
  unfold regionW at h
  simp only [cond_false] at h
  cases eh : hasGuard ops.toList <;> rw [eh] at h
  · exact hseq h
  · simp only [cond_true] at h
    cases htm : purR tb ops.toList (ops.toList.length + 1) ops.toList 0 st with
    | some tm =>
      rw [htm] at h
      obtain ⟨a', hp⟩ := purR_sound hb _ ops.toList 0 (fun j o hj => by simpa using hj) inv htm
      have := hp.run Qr [] (hk a' w ⟨{ st with tm := tm }, β, H, hp.inv, ⟨by have := hp.inv.size; simp only at this; rw [this, hp.len, inv.size], by rfl, by rfl, fun i hi => hp.tmps i fun o ho hd => (by rw [hp.ok o ho i hd] at hi; cases hi),
        fun i hi => .inl (hp.tm i fun o ho hd => (by rw [hp.ok o ho i hd] at hi; cases hi)), fun _ _ _ _ _ => by rfl, fun _ _ _ => ⟨by rfl, by rfl⟩⟩, by simp only [normK_eq] at h; exact h⟩)
      simpa using this
    | none =>
      rw [htm] at h
      exact hseq h
end
end Go.Den

/-
  The readable weakest precondition (Den) is sound: two operations that are apart may change places.
-/
namespace Go.Den
set_option linter.unusedSectionVars false
set_option linter.unusedSimpArgs false
set_option linter.unusedVariables false
open Go
set_option linter.unusedVariables false
set_option linter.unusedSimpArgs false
section
variable {P : Program} {tb : List Row} {Q : Ending → W} {esc : List Nat} {H : HP}
theorem len_congr {ρ ρ' : Operand → SV} (l : List Operand) (m : List TypeId) : (∀ x ∈ l, ρ x = ρ' x) →
    (match l, m with
      | [x], [t] => lenV tb t (ρ x)
      | _, _ => none) = (match l, m with
      | [x], [t] => lenV tb t (ρ' x)
      | _, _ => none) := by
  intro h
  split
  · rename_i x t
    rw [h x List.mem_cons_self]
  · rfl

theorem pureV_congr {ρ ρ' : Operand → SV} {o : Oper} (h : ∀ x ∈ o.op.operands, ρ x = ρ' x) : pureV tb ρ o = pureV tb ρ' o := by
  obtain ⟨dst, op, type, pos, after, guard⟩ := o
  have lst : ∀ ps : Array Operand, (∀ x ∈ ps, ρ x = ρ' x) → ps.toList.map ρ = ps.toList.map ρ' := fun ps hp =>
    List.map_congr_left fun x hx => hp x (by simpa using hx)
  have pairs : ∀ ps : Array (Nat × Operand), (∀ x ∈ ps.map (·.2), ρ x = ρ' x) →
      (ps.toList.map fun p => (p.1, ρ p.2)) = (ps.toList.map fun p => (p.1, ρ' p.2)) := fun ps hp =>
    List.map_congr_left fun p hm => by
      obtain ⟨i, x⟩ := p
      simp only [hp x (Array.mem_map.2 ⟨(i, x), by simpa using hm, rfl⟩)]
  cases op <;> simp only [Op.operands] at h <;> unfold pureV <;> simp only
  case build t ps => rw [pairs ps fun x hx => h x (by simpa using hx)]
  case makeFunc fn first captured => rw [lst first fun x hx => h x (by simp [hx]), lst captured fun x hx => h x (by simp [hx])]
  case call c =>
    obtain ⟨callee, args, ts⟩ := c
    have ha : args.toList.map ρ = args.toList.map ρ' := lst args fun x hx => h x (by simp [Call.operands, hx])
    cases callee with
    | builtin b =>
      cases b <;> first
        | rfl
        | (simp only [ha]; done)
        | (have hx : ∀ x ∈ args.toList, ρ x = ρ' x := fun x hx => h x (by simp only [Array.mem_toList_iff] at hx; simp [Call.operands, hx])
           exact len_congr args.toList ts.toList hx)
    | _ => rfl
  all_goals (first | rfl | (simp_all; done))

theorem obV_congr {ρ ρ' : Operand → SV} {o : Oper} (h : ∀ x ∈ o.op.operands, ρ x = ρ' x) : obV tb ρ o = obV tb ρ' o := by
  obtain ⟨dst, op, type, pos, after, guard⟩ := o
  cases op <;> simp only [Op.operands] at h <;> unfold obV <;> simp only
  case slice t x lo hi mx => cases lo <;> cases hi <;> cases mx <;> simp_all
  all_goals (first | rfl | (simp_all; done))
/-! ### The words are monotone -/
theorem Spec.mono {f : FuncId} {args : Array Value} {Q Q' : Ending → W} (h : Spec P f args H Q) (hq : ∀ e H, Q e H → Q' e H) : Spec P f args H Q' := by
  intro w on
  rcases h w on with ⟨h1, h2⟩ | ⟨v, w', H', h1, h2, h3⟩
  · exact .inl ⟨h1, h2.mono fun e w' ⟨H', hu, hk⟩ => ⟨H', hu, hq e H' hk⟩⟩
  · exact .inr ⟨v, w', H', h1, h2, hq _ _ h3⟩

theorem opened_imp {t : TypeId} {κ κ' : SV → W} (hk : ∀ v H, κ (.v v) H → κ' (.v v) H) {v : Value} {H : HP} (h : opened tb t κ v H) : opened tb t κ' v H := by
  unfold opened at *
  generalize shD tb t = sh at *
  cases sh with
  | none => exact hk v H h
  | some sh =>
    obtain ⟨x, hx, h⟩ := h
    refine ⟨x, hx, ?_⟩
    rw [Sh.app_cur] at *
    exact hk _ H h

theorem WPrim_imp {s : Sem Value} {k k' : Value → W} (hk : ∀ v H, k v H → k' v H) (h : WPrim P s k H) : WPrim P s k' H := by
  intro w on
  obtain ⟨v, w', H', h1, h2, h3⟩ := h w on
  exact ⟨v, w', H', h1, h2, hk v H' h3⟩

theorem WPrimU_imp {s : Sem Unit} {k k' : W} (hk : ∀ H, k H → k' H) (h : WPrimU P s k H) : WPrimU P s k' H := by
  intro w on
  obtain ⟨w', H', h1, h2, h3⟩ := h w on
  exact ⟨w', H', h1, h2, hk H' h3⟩

theorem WCall_imp {f : FuncId} {args : Array Value} {k k' : Value → W} (hk : ∀ v H, k v H → k' v H) (h : WCall P Q f args k H) : WCall P Q f args k' H :=
  Spec.mono h fun e H hq => by
    cases e with
    | returned v => exact hk v H hq
    | _ => exact hq

theorem opt2_imp {x y : Option Value} {k k' : Value → Value → W} (hk : ∀ a b, k a b H → k' a b H) (h : opt2 x y k H) : opt2 x y k' H := by
  obtain ⟨u, v, rfl, rfl, h⟩ := opt2_some h
  exact hk u v h

/-! ### What an operation's value is -/
def ValOk (ρ : Operand → SV) (o : Oper) (v : SV) : Prop := ∀ b off, v = .own b off → (∃ x ∈ o.op.operands, ∃ f, ρ x = .own b f) ∨ o.dst = some b

theorem binV_plain {op : BinOp} {t : TypeId} {x y v : SV} (h : binV tb op t x y = some v) (b off : Nat) : v ≠ .own b off := by
  intro he
  subst he
  unfold binV at h
  have hn : ∀ op ok q, nilD op ok q ≠ some (.own b off) := by
    intro op ok q
    unfold nilD
    cases ok <;> simp
    split <;> simp
  split at h
  · cases hk : kindEq _ _ <;> rw [hk] at h
    · cases h
    · simp only [cond_true] at h
      split at h <;> cases h
  · split at h <;> cases h
  · exact hn _ _ _ h
  · cases hk : ptrT tb t <;> rw [hk] at h
    · cases h
    · simp only [cond_true] at h
      split at h <;> cases h
  · cases hk : ptrT tb t <;> rw [hk] at h
    · cases h
    · simp only [cond_true] at h
      split at h <;> cases h
  · exact hn _ _ _ h
  · exact hn _ _ _ h
  · exact hn _ _ _ h
  · cases h

theorem pureV_ok {ρ : Operand → SV} {o : Oper} {v : SV} (h : pureV tb ρ o = some v) : ValOk ρ o v := by
  obtain ⟨dst, op, type, pos, after, guard⟩ := o
  intro b off hv
  subst hv
  refine .inl ?_
  unfold pureV at h
  cases op <;> simp only [Op.operands] at h ⊢
  case move x => exact ⟨x, by simp, off, Option.some.inj h⟩
  case assign x => exact ⟨x, by simp, off, Option.some.inj h⟩
  case pick c x y =>
    unfold pickV at h
    split at h
    · rename_i t _
      cases t
      · exact ⟨y, by simp, off, Option.some.inj h⟩
      · exact ⟨x, by simp, off, Option.some.inj h⟩
    · cases h
  case nilCheck x =>
    split at h
    · rename_i d f e
      cases h
      exact ⟨x, by simp, off, e⟩
    · cases h
    · cases h
  case binOp op t x y yt => exact absurd rfl (binV_plain h b off)
  case unOp op t x =>
    unfold unV at h
    split at h <;> cases h
  case convert s d x =>
    unfold convV at h
    split at h <;> cases h
  case fieldAddr s x f =>
    split at h
    · rename_i n d f' _ e
      cases h
      exact ⟨x, by simp, f', e⟩
    · cases h
    · cases h
  case field t x f =>
    unfold fieldV at h
    split at h
    · split at h
      · split at h <;> cases h
      · cases h
    · cases h
  case extract t i =>
    unfold extractV at h
    split at h
    · split at h <;> cases h
    · cases h
  case build t ps =>
    unfold buildV at h
    split at h
    · split at h <;> cases h
    · split at h <;> cases h
    · cases h
  case makeInterface t x =>
    unfold ifaceV at h
    split at h
    · cases h
    · cases h
    · cases h
    · split at h <;> cases h
  case makeFunc fn f c =>
    split at h <;> cases h
  case call c =>
    split at h <;> (try cases h) <;> rename_i heq <;> (try cases heq)
    · split at h
      · unfold lenV at h
        split at h <;> cases h
      · cases h
    · unfold minV at h
      split at h <;> cases h
    · unfold maxV at h
      split at h <;> cases h
  all_goals cases h

/-! ### One operation, seen from a state that knows one result more -/
structure Apart (s p : St) (ext : Own → Own) (o : Oper) : Prop where
  ev : ∀ x ∈ o.op.operands, p.ev x = s.ev x
  fo : p.fo = s.fo
  own : p.own = ext s.own
  get : ∀ x ∈ o.op.operands, ∀ b off, s.ev x = .own b off → (ext s.own) b = s.own b
  put : ∀ x ∈ o.op.operands, ∀ b off f vs own', s.ev x = .own b off → ownPut (ext s.own) b f vs = some own' → ∃ own1, ownPut s.own b f vs = some own1 ∧ own' = ext own1
  new : ∀ e z, o.dst = some e → anew p.tm p.own e = true → anew s.tm s.own e = true ∧ ownNew (ext s.own) e z = ext (ownNew s.own e z)

def OwnStep (s : St) (o : Oper) (own1 : Own) : Prop :=
  own1 = s.own ∨ (isStore o.op = true ∧ ∃ b off, (∃ x ∈ o.op.operands, s.ev x = .own b off) ∧ s.own b ≠ none ∧ own1 b ≠ none ∧ ∀ b', b' ≠ b → own1 b' = s.own b') ∨
    ∃ e z, o.dst = some e ∧ anew s.tm s.own e = true ∧ own1 = ownNew s.own e z

theorem ownGet_congr {own own' : Own} {d off n : Nat} {agg : Bool} (h : own d = own' d) : ownGet own d off n agg = ownGet own' d off n agg := by
  unfold ownGet
  rw [h]

theorem valOk_v {ρ : Operand → SV} {o : Oper} {x : Value} : ValOk ρ o (.v x) := fun _ _ h => by cases h
theorem valOk_adr {ρ : Operand → SV} {o : Oper} {x : Addr} : ValOk ρ o (.adr x) := fun _ _ h => by cases h
theorem valOk_junk {ρ : Operand → SV} {o : Oper} : ValOk ρ o .junk := fun _ _ h => by cases h

theorem yields_ok {ρ : Operand → SV} {o : Oper} {ob : Ob} {v : SV} (h : ob.yields v) : ValOk ρ o v := by
  intro b off he
  subst he
  cases ob <;> simp [Ob.yields] at h

theorem opW_comm {s p : St} {ext : Own → Own} {o : Oper} (ap : Apart s p ext o) {κ κ' : SV → Own → W}
    (hκ : ∀ v own1, OwnStep s o own1 → ValOk s.ev o v → ∀ H, κ v (ext own1) H → κ' v own1 H) (h : opW P tb Q esc p o κ H) : opW P tb Q esc s o κ' H := by
  obtain ⟨Y, hX, h⟩ : ∃ Y, opW P tb Q esc p o κ = Y ∧ Y H := ⟨_, rfl, h⟩
  have hs : ∀ v, ValOk s.ev o v → ∀ H, κ v p.own H → κ' v s.own H := fun v hv H hk => hκ v s.own (.inl rfl) hv H (by rw [← ap.own]; exact hk)
  have hop : ∀ {t : TypeId} {v : Value} {H : HP}, opened tb t (fun v => κ v p.own) v H → opened tb t (fun v => κ' v s.own) v H := fun h => opened_imp (fun v H hk => hs _ valOk_v H hk) h
  unfold opW at hX ⊢
  rw [pureV_congr ap.ev, obV_congr ap.ev] at hX
  cases hpv : pureV tb s.ev o with
  | some v =>
    rw [hpv] at hX
    subst hX
    exact hs v (pureV_ok hpv) H h
  | none =>
  rw [hpv] at hX
  simp only at hX ⊢
  cases hob : obV tb s.ev o with
  | some ob =>
    rw [hob] at hX
    subst hX
    simp only at h ⊢
    obtain ⟨v, hy, hk⟩ := (Ob.W_iff ob _ H).1 h
    exact (Ob.W_iff ob _ H).2 ⟨v, hy, hs v (yields_ok hy) H hk⟩
  | none =>
  rw [hob] at hX
  simp only at hX ⊢
  obtain ⟨dst, op, type, pos, after, guard⟩ := o
  have hev := ap.ev
  cases op <;> simp only [Op.operands] at hev <;> simp only at hX ⊢
  case alloc e =>
    cases dst with
    | none => subst hX; exact h.elim
    | some d =>
      simp only at hX ⊢
      cases hz : (bif known tb e then zeroD tb e else none) with
      | none => rw [hz] at hX; subst hX; exact h.elim
      | some z =>
        rw [hz] at hX
        simp only at hX ⊢
        cases he : mem d esc <;> rw [he] at hX
        · simp only [cond_false] at hX ⊢
          cases ha : anew p.tm p.own d <;> rw [ha] at hX
          · subst hX; exact h.elim
          · simp only [cond_true] at hX
            subst hX
            obtain ⟨h1, h2⟩ := ap.new d z rfl ha
            rw [h1]
            refine hκ (.own d 0) (ownNew s.own d z) (.inr (.inr ⟨d, z, rfl, h1, rfl⟩)) (fun b off hb => .inr (by cases hb; rfl)) H ?_
            rw [← h2, ← ap.own]
            exact h
        · simp only [cond_true] at hX ⊢
          subst hX
          exact fun b hb => hs _ valOk_adr _ (h b hb)
  case box e x =>
    cases dst with
    | none => subst hX; exact h.elim
    | some d =>
      simp only [hev x (by simp)] at hX ⊢
      cases hz : svCells (s.ev x) with
      | none => rw [hz] at hX; subst hX; exact h.elim
      | some z =>
        rw [hz] at hX
        simp only at hX ⊢
        cases he : mem d esc <;> rw [he] at hX
        · simp only [cond_false] at hX ⊢
          cases ha : anew p.tm p.own d <;> rw [ha] at hX
          · subst hX; exact h.elim
          · simp only [cond_true] at hX
            subst hX
            obtain ⟨h1, h2⟩ := ap.new d z rfl ha
            rw [h1]
            refine hκ (.own d 0) (ownNew s.own d z) (.inr (.inr ⟨d, z, rfl, h1, rfl⟩)) (fun b off hb => .inr (by cases hb; rfl)) H ?_
            rw [← h2, ← ap.own]
            exact h
        · simp only [cond_true] at hX ⊢
          subst hX
          exact fun b hb => hs _ valOk_adr _ (h b hb)
  case buildSlice t n parts =>
    have pairs : (parts.toList.map fun q => (q.1, p.ev q.2)) = (parts.toList.map fun q => (q.1, s.ev q.2)) :=
      List.map_congr_left fun q hm => by
        obtain ⟨i, x⟩ := q
        simp only [hev x (by simp; exact ⟨i, by simpa using hm⟩)]
    rw [pairs] at hX
    split at hX
    · rename_i e he
      simp only [he]
      split at hX
      · rename_i z hz
        simp only [hz]
        cases hc : (known tb e && Nat.ble (n * sizeD tb e) 1000 && Nat.beq z.length (sizeD tb e) && Nat.ble 1 (sizeD tb e)) <;> rw [hc] at hX
        · subst hX; exact h.elim
        · simp only [cond_true] at hX ⊢
          split at hX
          · rename_i cs hcs
            simp only [hcs]
            subst hX
            exact fun b hb => hs _ valOk_v _ (h b hb)
          · subst hX; exact h.elim
      · subst hX; exact h.elim
    · subst hX; exact h.elim
  case load t x =>
    rw [hev x (by simp)] at hX
    cases hk : known tb t <;> rw [hk] at hX
    · subst hX; exact h.elim
    · simp only [Bool.not_true, cond_false] at hX ⊢
      split at hX
      · rename_i d off e
        simp only [e]
        rw [ap.own, ownGet_congr (ap.get x (by simp [Op.operands]) d off e)] at hX
        split at hX
        · rename_i v hv
          rw [hv]
          subst hX
          obtain ⟨_, _, r, _, rfl, _⟩ := ownGet_sound hv
          exact hs _ valOk_v _ (by rw [ap.own]; exact h)
        · subst hX; exact h.elim
      · rename_i ad e
        simp only [e]
        split at hX
        · rename_i sh hsh
          simp only [hsh]
          subst hX
          obtain ⟨y, hy, h⟩ := h
          refine ⟨y, hy, ?_⟩
          rw [Sh1.app_cur] at *
          exact hs _ valOk_v _ h
        · subst hX; exact h.elim
      · rename_i q e
        simp only [e]
        split at hX
        · rename_i sh hsh
          simp only [hsh]
          subst hX
          obtain ⟨ad, hq, y, hy, h⟩ := h
          refine ⟨ad, hq, y, hy, ?_⟩
          rw [Sh1.app_cur] at *
          exact hs _ valOk_v _ h
        · subst hX; exact h.elim
      · subst hX; exact h.elim
  case store t x y =>
    rw [hev x (by simp), hev y (by simp)] at hX
    split at hX
    · rename_i vs hvs
      simp only [hvs]
      cases hc : (Nat.beq vs.length (sizeD tb t) && vs.all Value.oneCell' && known tb t) <;> rw [hc] at hX
      · subst hX; exact h.elim
      · simp only [cond_true] at hX ⊢
        split at hX
        · rename_i d off e
          simp only [e]
          rw [ap.fo] at hX
          cases hf : mem d s.fo <;> rw [hf] at hX
          · simp only [cond_false] at hX ⊢
            rw [ap.own] at hX
            split at hX
            · rename_i own' hp
              obtain ⟨own1, h1, h2⟩ := ap.put x (by simp [Op.operands]) d off off vs own' e hp
              rw [h1]
              subst hX
              obtain ⟨cs, g1, g2, g3, g4⟩ := ownPut_sound h1
              exact hκ .junk own1 (.inr (.inl ⟨rfl, d, off, ⟨x, by simp [Op.operands], e⟩, by rw [g1]; simp, by rw [g3]; simp, g4⟩)) valOk_junk H (by rw [← h2]; exact h)
            · subst hX; exact h.elim
          · subst hX; exact h.elim
        · rename_i ad e
          simp only [e]
          cases h1 : Nat.ble 1 vs.length <;> rw [h1] at hX
          · subst hX; exact h.elim
          · simp only [cond_true] at hX ⊢
            subst hX
            exact ⟨h.1, hs _ valOk_junk _ h.2⟩
        · rename_i q e
          simp only [e]
          cases h1 : Nat.ble 1 vs.length <;> rw [h1] at hX
          · subst hX; exact h.elim
          · simp only [cond_true] at hX ⊢
            subst hX
            obtain ⟨ad, hq, hc, h⟩ := h
            exact ⟨ad, hq, hc, hs _ valOk_junk _ h⟩
        · subst hX; exact h.elim
    · subst hX; exact h.elim
  case binOp op t x y yt =>
    rw [hev x (by simp), hev y (by simp)] at hX
    subst hX
    exact opt2_imp (fun a b h => WPrim_imp (fun v H h => hop h) h) h
  case convert sr d x =>
    rw [hev x (by simp)] at hX
    subst hX
    exact opt2_imp (fun a b h => WPrim_imp (fun v H h => hop h) h) h
  case makeMap t r =>
    cases r with
    | none => subst hX; exact WPrim_imp (fun v H h => hop h) h
    | some r => subst hX; exact h.elim
  case lookup t x i ok =>
    rw [hev x (by simp), hev i (by simp)] at hX
    subst hX
    exact opt2_imp (fun a b h => WPrim_imp (fun v H h => hop h) h) h
  case mapUpdate t m k x =>
    rw [hev x (by simp), hev m (by simp), hev k (by simp)] at hX
    subst hX
    exact opt2_imp (fun a b h => opt2_imp (fun c d h => WPrimU_imp (fun H h => hs _ valOk_junk _ h) h) h) h
  case makeSlice t l c =>
    rw [hev l (by simp), hev c (by simp)] at hX
    subst hX
    exact opt2_imp (fun a b h => WPrim_imp (fun v H h => hop h) h) h
  case slice t x lo hi mx =>
    have e1 : p.ev x = s.ev x := hev x (by simp)
    have e2 : (lo.map fun y => (p.ev y).val?) = lo.map fun y => (s.ev y).val? := by
      cases lo with
      | none => rfl
      | some y => simp [hev y (by simp)]
    have e3 : (hi.map fun y => (p.ev y).val?) = hi.map fun y => (s.ev y).val? := by
      cases hi with
      | none => rfl
      | some y => simp [hev y (by simp)]
    have e4 : (mx.map fun y => (p.ev y).val?) = mx.map fun y => (s.ev y).val? := by
      cases mx with
      | none => rfl
      | some y => simp [hev y (by simp)]
    rw [e1, e2, e3, e4] at hX
    split at hX
    · rename_i a l h' m q1 q2 q3 q4
      simp only [q1, q2, q3, q4]
      subst hX
      exact WPrim_imp (fun v H h => hop h) h
    · subst hX; exact h.elim
  case typeAssert x t u ok =>
    rw [hev x (by simp)] at hX
    subst hX
    exact opt2_imp (fun a b h => WPrim_imp (fun v H h => hop h) h) h
  case range t x =>
    rw [hev x (by simp)] at hX
    subst hX
    exact opt2_imp (fun a b h => WPrim_imp (fun v H h => hs _ valOk_v _ h) h) h
  case next x sm =>
    rw [hev x (by simp)] at hX
    subst hX
    exact opt2_imp (fun a b h => WPrim_imp (fun v H h => hs _ valOk_v _ h) h) h
  case panic x =>
    rw [hev x (by simp)] at hX
    split at hX
    · rename_i t v e
      simp only [e]
      subst hX
      exact h
    · subst hX; exact h.elim
  case call c =>
    obtain ⟨callee, args, ts⟩ := c
    have ha : args.toList.map p.ev = args.toList.map s.ev := List.map_congr_left fun x hx => hev x (by simp at hx; simp [Call.operands, hx])
    cases callee with
    | value f =>
      have hf : p.ev f = s.ev f := hev f (by simp [Call.operands])
      simp only [hf, ha] at hX ⊢
      split at hX
      · rename_i g vs e
        simp only [e]
        subst hX
        exact WCall_imp (fun v H h => hop h) h
      · subst hX; exact h.elim
    | builtin b =>
      simp only [ha] at hX ⊢
      cases hv : allV (args.toList.map s.ev) with
      | none => rw [hv] at hX; subst hX; exact h.elim
      | some vs =>
        rw [hv] at hX
        cases b <;> first
          | (subst hX; exact h.elim)
          | (subst hX; exact WPrim_imp (fun v H h => hop h) h)
    | invoke r m => subst hX; exact h.elim
  all_goals (subst hX; exact h.elim)
end
end Go.Den

/-
  The readable weakest precondition (Den) is sound: an operation that may be taken first.
-/
namespace Go.Den
set_option linter.unusedSectionVars false
set_option linter.unusedSimpArgs false
set_option linter.unusedVariables false
open Go
set_option linter.unusedVariables false
set_option linter.unusedSimpArgs false
section
variable {P : Program} {tb : List Row} {Q : Ending → W} {esc : List Nat} {H : HP}

def setD (dst : Option Nat) (v : SV) (tm : List SV) : List SV :=
  match dst with
  | none => tm
  | some d => tm.set d v

def extD (dst : Option Nat) (z : Option (List Value)) (own : Own) : Own :=
  match dst, z with
  | some d, some z => ownNew own d z
  | _, _ => own

/-- an operation whose value is known in advance -/
inductive Ahead (tb : List Row) (esc : List Nat) (o : Oper) (s : St) : SV → Option (List Value) → List (Addr × List Value) → Prop where
  | pure {v : SV} (h : pureV tb s.ev o = some v) : Ahead tb esc o s v none []
  | ob {v : SV} {ob : Ob} (h0 : pureV tb s.ev o = none) (h : obV tb s.ev o = some ob) (y : ob.yields v) : Ahead tb esc o s v none []
  | alloc {e : TypeId} {d : Nat} {z : List Value} (ho : o.op = .alloc e) (hd : o.dst = some d) (hz : (bif known tb e then zeroD tb e else none) = some z) (he : mem d esc = false)
      (ha : anew s.tm s.own d = true) : Ahead tb esc o s (.own d 0) (some z) []
  | box {e : TypeId} {x : Operand} {d : Nat} {z : List Value} (ho : o.op = .box e x) (hd : o.dst = some d) (hz : svCells (s.ev x) = some z) (he : mem d esc = false)
      (ha : anew s.tm s.own d = true) : Ahead tb esc o s (.own d 0) (some z) []
  | own {t : TypeId} {x : Operand} {b off : Nat} {v : SV} (ho : o.op = .load t x) (hk : known tb t = true) (e : s.ev x = .own b off) (h : ownGet s.own b off (sizeD tb t) (isAggD tb t) = some v) : Ahead tb esc o s v none []
  | adr {t : TypeId} {x : Operand} {ad : Addr} {sh : Sh1} {y : sh.Ty} (ho : o.op = .load t x) (hk : known tb t = true) (e : s.ev x = .adr ad) (hs : sh1D tb t = some sh) :
      Ahead tb esc o s (.v (sh.val y)) none [(ad, sh.cells y)]

theorem Ahead.det {o : Oper} {s : St} {v : SV} {z : Option (List Value)} {l : List (Addr × List Value)} (h : Ahead tb esc o s v z l) (hl : ∀ q ∈ l, H.has q.1 q.2) {κ : SV → Own → W}
    (hk : κ v (extD o.dst z s.own) H) : opW P tb Q esc s o κ H := by
  have e0 : extD o.dst none s.own = s.own := by unfold extD; cases o.dst <;> rfl
  cases h with
  | pure h => rw [e0] at hk; unfold opW; rw [h]; exact hk
  | ob h0 h y => rw [e0] at hk; unfold opW; rw [h0, h]; exact (Ob.W_iff _ _ H).2 ⟨v, y, hk⟩
  | alloc ho hd hz he ha =>
    have h1 : pureV tb s.ev o = none := by unfold pureV; rw [ho]
    have h2 : obV tb s.ev o = none := by unfold obV; rw [ho]
    unfold opW
    rw [h1, h2]
    simp only [ho, hd, hz, he, ha, cond_false, cond_true]
    rw [hd] at hk
    exact hk
  | box ho hd hz he ha =>
    have h1 : pureV tb s.ev o = none := by unfold pureV; rw [ho]
    have h2 : obV tb s.ev o = none := by unfold obV; rw [ho]
    unfold opW
    rw [h1, h2]
    simp only [ho, hd, hz, he, ha, cond_false, cond_true]
    rw [hd] at hk
    exact hk
  | own ho hkn e h =>
    rw [e0] at hk
    have h1 : pureV tb s.ev o = none := by unfold pureV; rw [ho]
    have h2 : obV tb s.ev o = none := by unfold obV; rw [ho]
    unfold opW
    rw [h1, h2]
    simp only [ho, hkn, e, h, Bool.not_true, cond_false]
    exact hk
  | @adr t x ad sh y ho hkn e hs =>
    rw [e0] at hk
    have h1 : pureV tb s.ev o = none := by unfold pureV; rw [ho]
    have h2 : obV tb s.ev o = none := by unfold obV; rw [ho]
    unfold opW
    rw [h1, h2]
    simp only [ho, hkn, e, hs, Bool.not_true, cond_false]
    refine ⟨y, hl _ List.mem_cons_self, ?_⟩
    rw [Sh1.app_cur]
    exact hk

/-- what another operation did to the state -/
structure Moved (oj : Oper) (s s' : St) : Prop where
  fr : s'.fr = s.fr
  fo : s'.fo = s.fo
  own : OwnStep s oj s'.own
  tm : ∃ w, ValOk s.ev oj w ∧ s'.tm = setD oj.dst w s.tm

theorem ev_own {s : St} {x : Operand} {b off : Nat} (h : s.ev x = .own b off) : ∃ t, x = .tmp t ∧ s.tm.getD t .junk = .own b off := by
  cases x with
  | tmp t => exact ⟨t, rfl, by simpa [St.ev, getL_eq] using h⟩
  | const v => cases v <;> simp [St.ev] at h
  | global g => simp [St.ev] at h
  | func f => simp [St.ev] at h

theorem anew_spec {tm : List SV} {own : Own} {d : Nat} : anew tm own d = true ↔ own d = none ∧ ∀ t off, tm.getD t .junk ≠ .own d off := by
  unfold anew
  simp only [Bool.and_eq_true, List.all_eq_true, Option.isNone_iff_eq_none]
  refine and_congr Iff.rfl ⟨fun h t off he => ?_, fun h x hx => ?_⟩
  · rcases Nat.lt_or_ge t tm.length with hl | hl
    · have := h tm[t] (List.getElem_mem hl)
      have e' : tm[t] = .own d off := by simpa [List.getD, hl] using he
      rw [e'] at this
      simp at this
    · rw [List.getD_eq_getElem?_getD, List.getElem?_eq_none hl] at he; cases he
  · cases x <;> try rfl
    rename_i e off
    cases hb : Nat.beq e d
    · show (!Nat.beq e d) = true
      rw [hb]
      rfl
    · have := Nat.eq_of_beq_eq_true hb
      subst this
      obtain ⟨t, ht, hx'⟩ := List.getElem_of_mem hx
      exact absurd (by simp [List.getD, ht, hx']) (h t off)

theorem setD_get {dst : Option Nat} {v : SV} {tm : List SV} (t : Nat) : (setD dst v tm).getD t .junk = tm.getD t .junk ∨ (dst = some t ∧ (setD dst v tm).getD t .junk = v) := by
  cases dst with
  | none => exact .inl rfl
  | some d =>
    by_cases h : d = t
    · subst h
      rcases Nat.lt_or_ge d tm.length with hl | hl
      · exact .inr ⟨rfl, by simp [setD, List.getD, hl]⟩
      · refine .inl ?_
        simp [setD, List.getD, hl]
    · exact .inl (set_other h)

theorem Moved.ev {oj : Oper} {s s' : St} (m : Moved oj s s') {x : Operand} (h : ∀ d, oj.dst = some d → x ≠ .tmp d) : s'.ev x = s.ev x := by
  obtain ⟨w, _, htm⟩ := m.tm
  cases x with
  | tmp t =>
    simp only [St.ev, getL_eq]
    rw [htm]
    rcases setD_get (dst := oj.dst) (v := w) (tm := s.tm) t with h' | ⟨h', _⟩
    · exact h'
    · exact absurd rfl (h t h')
  | const v => cases v <;> rfl
  | _ => rfl

theorem Moved.anew {oj : Oper} {s s' : St} (m : Moved oj s s') {d : Nat} (hne : oj.dst ≠ some d) (h : anew s.tm s.own d = true) : anew s'.tm s'.own d = true := by
  obtain ⟨w, hw, htm⟩ := m.tm
  obtain ⟨h1, h2⟩ := anew_spec.1 h
  have hno : ∀ x b off, s.ev x = .own b off → b ≠ d := by
    intro x b off hx hb
    subst hb
    obtain ⟨t, _, ht⟩ := ev_own hx
    exact h2 t off ht
  refine anew_spec.2 ⟨?_, fun t off he => ?_⟩
  · rcases m.own with h' | ⟨_, b, off, ⟨x, _, hx⟩, _, _, h'⟩ | ⟨e, z, hd, _, h'⟩
    · rw [h']; exact h1
    · rw [h' d (fun e => hno x b off hx e.symm)]; exact h1
    · rw [h']
      unfold ownNew
      cases hb : Nat.beq d e
      · exact h1
      · exact absurd (by rw [hd, Nat.eq_of_beq_eq_true hb]) hne
  · rw [htm] at he
    rcases setD_get (dst := oj.dst) (v := w) (tm := s.tm) t with h' | ⟨h', h''⟩
    · rw [h'] at he; exact h2 t off he
    · rw [h''] at he
      rcases hw d off he with ⟨x, _, f, hx⟩ | hd
      · exact hno x d f hx rfl
      · exact hne hd

theorem Ahead.moved {o oj : Oper} {s s' : St} {v : SV} {z : Option (List Value)} {l : List (Addr × List Value)} (h : Ahead tb esc o s v z l) (m : Moved oj s s')
    (hops : ∀ d, oj.dst = some d → .tmp d ∉ o.op.operands) (hdst : ∀ d, o.dst = some d → oj.dst ≠ some d)
    (hst : ∀ t x b off, o.op = .load t x → s.ev x = .own b off → isStore oj.op = false) : Ahead tb esc o s' v z l := by
  have hev : ∀ x ∈ o.op.operands, s.ev x = s'.ev x := fun x hx => (m.ev fun d hd he => hops d hd (he ▸ hx)).symm
  cases h with
  | pure h => exact .pure (by rw [← pureV_congr hev]; exact h)
  | ob h0 h y => exact .ob (by rw [← pureV_congr hev]; exact h0) (by rw [← obV_congr hev]; exact h) y
  | alloc ho hd hz he ha => exact .alloc ho hd hz he (m.anew (hdst _ hd) ha)
  | box ho hd hz he ha => exact .box ho hd (by rw [← hev _ (by simp [ho, Op.operands])]; exact hz) he (m.anew (hdst _ hd) ha)
  | own ho hkn e h =>
    rename_i t x b off
    refine .own ho hkn (by rw [← hev _ (by simp [ho, Op.operands])]; exact e) ?_
    rw [← h]
    apply ownGet_congr
    have hb : s.own b ≠ none := by
      obtain ⟨cs, _, _, hcs, _⟩ := ownGet_sound h
      rw [hcs]; simp
    rcases m.own with h' | ⟨hs', _⟩ | ⟨e', z, _, ha, h'⟩
    · rw [h']
    · rw [hst t x b off ho e] at hs'; cases hs'
    · rw [h']
      unfold ownNew
      cases hbe : Nat.beq b e'
      · rfl
      · exact absurd (by rw [Nat.eq_of_beq_eq_true hbe]; exact (anew_spec.1 ha).1) hb
  | adr ho hkn e hs => exact .adr ho hkn (by rw [← hev _ (by simp [ho, Op.operands])]; exact e) hs
end
end Go.Den

/-
  The readable weakest precondition (Den) is sound: an operation that may be taken first, in a region.
-/
namespace Go.Den
set_option linter.unusedSectionVars false
set_option linter.unusedSimpArgs false
set_option linter.unusedVariables false
open Go
set_option linter.unusedVariables false
set_option linter.unusedSimpArgs false
section
variable {P : Program} {tb : List Row} {Q : Ending → W} {esc : List Nat} {H : HP} {ops : List Oper}

def Fin (g : Bool) (v v' : SV) : Prop := (g = false ∧ v' = v) ∨ (g = true ∧ ∃ b, (v = .v (.bool b) ∨ v = .lit b) ∧ v' = .lit b)

def okS (s : St) (dst : Option Nat) : Prop := ∀ d, dst = some d → okW s.fr d = true

theorem put_iff {s : St} {dst : Option Nat} {v : SV} {K : St → W} : s.put dst v K H ↔ okS s dst ∧ K { s with tm := setD dst v s.tm } H := by
  unfold St.put okS setD
  cases dst with
  | none => exact ⟨fun h => ⟨fun _ h => (by cases h), h⟩, fun h => h.2⟩
  | some d =>
    simp only [setK_eq]
    cases e : okW s.fr d
    · refine ⟨fun h => h.elim, fun h => ?_⟩
      have := h.1 d rfl
      rw [e] at this; cases this
    · exact ⟨fun h => ⟨fun d' hd => (by cases hd; exact e), h⟩, fun h => h.2⟩

theorem putG_iff {g : Bool} {s : St} {dst : Option Nat} {v : SV} {K : St → W} : putG g s dst v K H ↔ okS s dst ∧ ∃ v', Fin g v v' ∧ K { s with tm := setD dst v' s.tm } H := by
  unfold putG
  cases g
  · simp only [cond_false, put_iff]
    exact ⟨fun h => ⟨h.1, v, .inl ⟨rfl, rfl⟩, h.2⟩, fun ⟨h, v', hf, hk⟩ => by
      rcases hf with ⟨_, rfl⟩ | ⟨h', _⟩
      · exact ⟨h, hk⟩
      · cases h'⟩
  · simp only [cond_true]
    constructor
    · intro h
      split at h
      · rename_i b
        cases b
        · obtain ⟨h1, h2⟩ := put_iff.1 (h.2 rfl)
          exact ⟨h1, _, .inr ⟨rfl, false, .inl rfl, rfl⟩, h2⟩
        · obtain ⟨h1, h2⟩ := put_iff.1 (h.1 rfl)
          exact ⟨h1, _, .inr ⟨rfl, true, .inl rfl, rfl⟩, h2⟩
      · rename_i b
        obtain ⟨h1, h2⟩ := put_iff.1 h
        exact ⟨h1, _, .inr ⟨rfl, b, .inr rfl, rfl⟩, h2⟩
      · exact h.elim
    · rintro ⟨h, v', hf, hk⟩
      rcases hf with ⟨h', _⟩ | ⟨_, b, hv | hv, rfl⟩
      · cases h'
      · subst hv
        cases b
        · exact ⟨fun h => (by cases h), fun _ => put_iff.2 ⟨h, hk⟩⟩
        · exact ⟨fun _ => put_iff.2 ⟨h, hk⟩, fun h => (by cases h)⟩
      · subst hv
        exact put_iff.2 ⟨h, hk⟩

theorem Fin.ok {g : Bool} {v v' : SV} {ρ : Operand → SV} {o : Oper} (h : Fin g v v') (hv : ValOk ρ o v) : ValOk ρ o v' := by
  rcases h with ⟨_, rfl⟩ | ⟨_, b, _, rfl⟩
  · exact hv
  · exact fun _ _ h => by cases h

def plus (o : Oper) (v : SV) (z : Option (List Value)) (s : St) : St := { s with tm := setD o.dst v s.tm, own := extD o.dst z s.own }

structure Quiet (tb : List Row) (esc : List Nat) (ops : List Oper) (i : Nat) (o : Oper) (v' : SV) (z : Option (List Value)) (l : List (Addr × List Value)) (s : St) : Prop where
  ok : okS s o.dst
  old : ∀ d, o.dst = some d → ∀ b f, s.tm.getD d .junk ≠ .own b f
  how : (guardD ops s o = .run ∧ ∃ v, Ahead tb esc o s v z l ∧ Fin (isGuard ops i) v v') ∨ (guardD ops s o = .skip ∧ v' = .v undef ∧ z = none ∧ l = [])

theorem extD_none (dst : Option Nat) (own : Own) : extD dst none own = own := by unfold extD; cases dst <;> rfl

theorem Quiet.det {i : Nat} {o : Oper} {v' : SV} {z : Option (List Value)} {l : List (Addr × List Value)} {s : St} (q : Quiet tb esc ops i o v' z l s) (hl : ∀ x ∈ l, H.has x.1 x.2) {K : St → W}
    (hk : K (plus o v' z s) H) : stepW P tb Q esc ops i o s K H := by
  unfold stepW
  rcases q.how with ⟨hg, v, ha, hf⟩ | ⟨hg, rfl, rfl, rfl⟩
  · rw [hg]
    exact ha.det hl (putG_iff.2 ⟨q.ok, v', hf, hk⟩)
  · rw [hg]
    refine put_iff.2 ⟨q.ok, ?_⟩
    unfold plus at hk
    rw [extD_none] at hk
    exact hk

/-- 'p' looks at nothing that 'o' writes -/
def Blind (ops : List Oper) (o p : Oper) : Prop := ∀ d, o.dst = some d → d ∉ looksD ops p

theorem Blind.operands {o p : Oper} (h : Blind ops o p) {d : Nat} (hd : o.dst = some d) : .tmp d ∉ p.op.operands := by
  intro hm
  exact h d hd (List.mem_append_left _ (List.mem_filterMap.2 ⟨.tmp d, by simpa using hm, rfl⟩))

theorem guardD_same {o p : Oper} (h : Blind ops o p) {s s' : St} (hs : ∀ t, o.dst ≠ some t → s'.tm.getD t .junk = s.tm.getD t .junk) : guardD ops s' p = guardD ops s p := by
  unfold guardD
  cases hg : p.guard with
  | none => rfl
  | some g =>
    obtain ⟨j, want⟩ := g
    simp only
    cases hj : getO ops j with
    | none => rfl
    | some g =>
      simp only
      cases hd : g.dst with
      | none => rfl
      | some d =>
        simp only [getL_eq]
        rw [hs d fun he => h d he (List.mem_append_right _ (by simp [hg, hj, hd]))]

theorem Quiet.moved {i : Nat} {o oj : Oper} {v' : SV} {z : Option (List Value)} {l : List (Addr × List Value)} {s s' : St} (q : Quiet tb esc ops i o v' z l s) (m : Moved oj s s')
    (hb : Blind ops oj o) (hdst : ∀ d, o.dst = some d → oj.dst ≠ some d) (hst : guardD ops s o = .run → ∀ t x b off, o.op = .load t x → s.ev x = .own b off → isStore oj.op = false) :
    Quiet tb esc ops i o v' z l s' ∧ guardD ops s' o = guardD ops s o := by
  obtain ⟨w, hw, htm⟩ := m.tm
  have hsame : ∀ t, oj.dst ≠ some t → s'.tm.getD t .junk = s.tm.getD t .junk := by
    intro t ht
    rw [htm]
    rcases setD_get (dst := oj.dst) (v := w) (tm := s.tm) t with h | ⟨h, _⟩
    · exact h
    · exact absurd h ht
  have hg : guardD ops s' o = guardD ops s o := guardD_same hb hsame
  refine ⟨⟨fun d hd => by rw [m.fr]; exact q.ok d hd, fun d hd b f => by rw [hsame d (hdst d hd)]; exact q.old d hd b f, ?_⟩, hg⟩
  rw [hg]
  rcases q.how with ⟨h, v, ha, hf⟩ | h
  · exact .inl ⟨h, v, ha.moved m (fun d hd => hb.operands hd) hdst (hst h), hf⟩
  · exact .inr h

theorem setD_comm {a b : Option Nat} {v w : SV} (h : ∀ d, a = some d → b ≠ some d) (tm : List SV) : setD b w (setD a v tm) = setD a v (setD b w tm) := by
  cases a with
  | none => rfl
  | some d =>
    cases b with
    | none => rfl
    | some e =>
      have hne : d ≠ e := fun he => h d rfl (by rw [he])
      exact List.set_comm _ _ hne

theorem beq_of_ne {a b : Nat} (h : a ≠ b) : Nat.beq a b = false := by
  cases e : Nat.beq a b
  · rfl
  · exact absurd (Nat.eq_of_beq_eq_true e) h

/-- the other operation, behind the quiet one, and ahead of it -/
theorem stepW_comm {i j : Nat} {o oj : Oper} {v' : SV} {z : Option (List Value)} {l : List (Addr × List Value)} {s : St} (q : Quiet tb esc ops i o v' z l s) (hb : Blind ops o oj)
    (hdst : ∀ d, o.dst = some d → oj.dst ≠ some d) {K : St → W} (h : stepW P tb Q esc ops j oj (plus o v' z s) K H) :
    stepW P tb Q esc ops j oj s (fun s' H' => Moved oj s s' ∧ K (plus o v' z s') H') H := by
  have hsame : ∀ t, o.dst ≠ some t → (plus o v' z s).tm.getD t .junk = s.tm.getD t .junk := by
    intro t ht
    rcases setD_get (dst := o.dst) (v := v') (tm := s.tm) t with h | ⟨h, _⟩
    · exact h
    · exact absurd h ht
  have hg : guardD ops (plus o v' z s) oj = guardD ops s oj := guardD_same hb hsame
  unfold stepW at *
  rw [hg] at h
  cases hgd : guardD ops s oj with
  | bad => rw [hgd] at h; exact h.elim
  | skip =>
    rw [hgd] at h
    obtain ⟨h1, h2⟩ := put_iff.1 h
    refine put_iff.2 ⟨h1, ⟨rfl, rfl, .inl rfl, .v undef, valOk_v, rfl⟩, ?_⟩
    have e : setD oj.dst (.v undef) (plus o v' z s).tm = setD o.dst v' (setD oj.dst (.v undef) s.tm) := setD_comm hdst s.tm
    rw [e] at h2
    exact h2
  | run =>
    rw [hgd] at h
    have hz : ∀ zz d, z = some zz → o.dst = some d → anew s.tm s.own d = true := by
      intro zz d hzz hd
      subst hzz
      rcases q.how with ⟨_, v, ha, _⟩ | ⟨_, _, hn, _⟩
      · cases ha with
        | alloc _ hd' _ _ ha => rw [hd] at hd'; cases hd'; exact ha
        | box _ hd' _ _ ha => rw [hd] at hd'; cases hd'; exact ha
      · cases hn
    -- what the new block does to the others
    have hext : (∀ own, extD o.dst z own = own) ∨ ∃ d zz, o.dst = some d ∧ z = some zz ∧ (∀ own, extD o.dst z own = ownNew own d zz) ∧ anew s.tm s.own d = true := by
      cases hd : o.dst with
      | none => exact .inl fun _ => rfl
      | some d =>
        cases hzz : z with
        | none => exact .inl fun _ => rfl
        | some zz => exact .inr ⟨d, zz, rfl, rfl, fun _ => rfl, hz zz d hzz hd⟩
    have hb' : ∀ d, anew s.tm s.own d = true → ∀ x b off, s.ev x = .own b off → b ≠ d := by
      intro d ha x b off hx hbd
      subst hbd
      obtain ⟨t, _, ht⟩ := ev_own hx
      exact (anew_spec.1 ha).2 t off ht
    have ap : Apart s (plus o v' z s) (extD o.dst z) oj := by
      refine ⟨fun x hx => ?_, rfl, rfl, fun x hx b off he => ?_, fun x hx b off f vs own' he hp => ?_, fun e ze he ha => ?_⟩
      · cases x with
        | tmp t =>
          simp only [St.ev, getL_eq]
          exact hsame t fun hd => hb.operands hd hx
        | const v => cases v <;> rfl
        | global g => rfl
        | func f => rfl
      · rcases hext with h' | ⟨d, zz, _, _, h', ha⟩
        · rw [h']
        · rw [h']
          unfold ownNew
          rw [beq_of_ne (hb' d ha x b off he)]
          rfl
      · rcases hext with h' | ⟨d, zz, _, _, h', ha⟩
        · rw [h'] at hp
          exact ⟨own', hp, (h' own').symm⟩
        · have hne := hb' d ha x b off he
          rw [h'] at hp
          unfold ownPut at hp ⊢
          have e0 : ownNew s.own d zz b = s.own b := by unfold ownNew; rw [beq_of_ne hne]; rfl
          rw [e0] at hp
          cases hcs : s.own b with
          | none => rw [hcs] at hp; cases hp
          | some cs =>
            rw [hcs] at hp
            simp only at hp ⊢
            cases hle : Nat.ble (f + vs.length) cs.length <;> rw [hle] at hp
            · cases hp
            · simp only [cond_true] at hp ⊢
              cases hp
              refine ⟨_, rfl, ?_⟩
              rw [h']
              funext y
              unfold ownNew
              by_cases hyb : y = b
              · subst hyb
                rw [beq_of_ne hne]
                simp
              · have h9 := beq_of_ne hyb
                simp only [h9, cond_false]
      · have hen : ∀ d, o.dst = some d → e ≠ d := fun d hd hed => hdst d hd (by rw [he, hed])
        obtain ⟨h1, h2⟩ := anew_spec.1 ha
        refine ⟨anew_spec.2 ⟨?_, fun t off ht => ?_⟩, ?_⟩
        · rcases hext with h' | ⟨d, zz, hd, _, h', _⟩
          · have : extD o.dst z s.own e = none := h1
            rwa [h'] at this
          · have : extD o.dst z s.own e = none := h1
            rw [h'] at this
            unfold ownNew at this
            rw [beq_of_ne (hen d hd)] at this
            exact this
        · by_cases hot : o.dst = some t
          · exact q.old t hot e off ht
          · exact h2 t off (by rw [hsame t hot]; exact ht)
        · rcases hext with h' | ⟨d, zz, hd, _, h', _⟩
          · rw [h', h']
          · rw [h', h']
            funext y
            unfold ownNew
            by_cases hye : y = e
            · subst hye
              rw [beq_of_ne (hen d hd)]
              simp
            · have h9 := beq_of_ne hye
              simp only [h9, cond_false]
    refine opW_comm ap (fun v own1 hown hv H hk => ?_) h
    obtain ⟨h1, v'', hf, h2⟩ := putG_iff.1 hk
    refine putG_iff.2 ⟨h1, v'', hf, ⟨rfl, rfl, hown, v'', hf.ok hv, rfl⟩, ?_⟩
    have e : setD oj.dst v'' (plus o v' z s).tm = setD o.dst v' (setD oj.dst v'' s.tm) := setD_comm hdst s.tm
    simp only [e] at h2
    exact h2
end
end Go.Den

/-
  The readable weakest precondition (Den) is sound: regions that draw their order.
-/
namespace Go.Den
set_option linter.unusedSectionVars false
set_option linter.unusedSimpArgs false
set_option linter.unusedVariables false
open Go
set_option linter.unusedVariables false
set_option linter.unusedSimpArgs false
section
variable [DF] {P : Program} {tb : List Row} {β β' : Nat → Nat} {w w' w₀ : World} {H H' H₀ : HP} {st st' : St} {a a' : Act}
variable {Q : Ending → W} {esc : List Nat}

theorem Apart.id (s : St) (o : Oper) : Apart s s (fun x => x) o :=
  ⟨fun _ _ => rfl, rfl, rfl, fun _ _ _ _ _ => rfl, fun _ _ _ _ _ _ own' _ h => ⟨own', h, rfl⟩, fun _ _ _ h => ⟨h, rfl⟩⟩

theorem stepW_mono {ops : List Oper} {i : Nat} {o : Oper} {K K' : St → W} (hk : ∀ s H, K s H → K' s H) (h : stepW P tb Q esc ops i o st K H) : stepW P tb Q esc ops i o st K' H := by
  unfold stepW at *
  cases hg : guardD ops st o with
  | bad => rw [hg] at h; exact h.elim
  | skip =>
    rw [hg] at h
    obtain ⟨h1, h2⟩ := put_iff.1 h
    exact put_iff.2 ⟨h1, hk _ _ h2⟩
  | run =>
    rw [hg] at h
    refine opW_comm (Apart.id st o) (fun v own1 _ _ H hk' => ?_) h
    obtain ⟨h1, v', hf, h2⟩ := putG_iff.1 hk'
    exact putG_iff.2 ⟨h1, v', hf, hk _ _ h2⟩

/-- whatever order is drawn; loads that are held stay as they are -/
def anyX (P : Program) (tb : List Row) (Q : Ending → W) (esc : List Nat) (ops : List Oper) (κ : St → W) : Nat → List Nat → St → Held → W
  | 0, rem, st, _ => fun H => rem = [] ∧ κ st H
  | n + 1, rem, st, h => fun H => (rem = [] → κ st H) ∧ (rem ≠ [] → ∃ i ∈ rem, readyD ops rem i = true) ∧
      ∀ i ∈ rem, readyD ops rem i = true → ∃ o, getO ops i = some o ∧
        stepW P tb Q esc ops i o st (fun st' H' => (∀ x ∈ heldFor ops i h, H.has x.1 x.2 → H'.has x.1 x.2) ∧ anyX P tb Q esc ops κ n (eraseD i rem) st' h H') H

theorem heldFor_mono {ops : List Oper} {i : Nat} {h h' : Held} (hs : ∀ x ∈ h', x ∈ h) : ∀ x ∈ heldFor ops i h', x ∈ heldFor ops i h := by
  intro x hx
  unfold heldFor at *
  obtain ⟨y, hy, he⟩ := List.mem_filterMap.1 hx
  exact List.mem_filterMap.2 ⟨y, hs y hy, he⟩

theorem anyX_less {ops : List Oper} {κ : St → W} {h h' : Held} (hs : ∀ x ∈ h', x ∈ h) : ∀ (n : Nat) (rem : List Nat) (st : St) (H : HP), anyX P tb Q esc ops κ n rem st h H → anyX P tb Q esc ops κ n rem st h' H
  | 0, _, _, _, h => h
  | n + 1, rem, st, H, ⟨h1, h2, h3⟩ => ⟨h1, h2, fun i hi hr => by
      obtain ⟨o, ho, hst⟩ := h3 i hi hr
      exact ⟨o, ho, stepW_mono (fun s H' hk => ⟨fun x hx => hk.1 x (heldFor_mono hs x hx), anyX_less hs n _ s H' hk.2⟩) hst⟩⟩

theorem mem_eraseD {i j : Nat} : ∀ {l : List Nat}, l.Nodup → (j ∈ eraseD i l ↔ j ∈ l ∧ j ≠ i)
  | [], _ => by simp [eraseD]
  | x :: xs, hn => by
    rw [List.nodup_cons] at hn
    unfold eraseD
    cases e : Nat.beq x i
    · have hx := Nat.ne_of_beq_eq_false e
      simp only [cond_false, List.mem_cons, mem_eraseD hn.2]
      constructor
      · rintro (rfl | ⟨h1, h2⟩)
        · exact ⟨.inl rfl, hx⟩
        · exact ⟨.inr h1, h2⟩
      · rintro ⟨rfl | h1, h2⟩
        · exact .inl rfl
        · exact .inr ⟨h1, h2⟩
    · have hx := Nat.eq_of_beq_eq_true e
      subst hx
      simp only [cond_true, List.mem_cons]
      constructor
      · intro h
        exact ⟨.inr h, fun he => hn.1 (he ▸ h)⟩
      · rintro ⟨rfl | h1, h2⟩
        · exact absurd rfl h2
        · exact h1

theorem eraseD_nodup {i : Nat} : ∀ {l : List Nat}, l.Nodup → (eraseD i l).Nodup
  | [], _ => by simp [eraseD]
  | x :: xs, hn => by
    have hn' := List.nodup_cons.1 hn
    unfold eraseD
    cases e : Nat.beq x i
    · simp only [cond_false]
      exact List.nodup_cons.2 ⟨fun h => hn'.1 ((mem_eraseD hn'.2).1 h).1, eraseD_nodup hn'.2⟩
    · exact hn'.2

theorem eraseD_length {i : Nat} : ∀ {l : List Nat}, i ∈ l → (eraseD i l).length + 1 = l.length
  | [], h => by cases h
  | x :: xs, h => by
    unfold eraseD
    cases e : Nat.beq x i
    · have hx := Nat.ne_of_beq_eq_false e
      have : i ∈ xs := by
        cases h with
        | head => exact absurd rfl hx
        | tail _ h => exact h
      simp only [cond_false, List.length_cons, eraseD_length this]
    · simp only [cond_true, List.length_cons]

/-- what has come up came up behind all that it waits for -/
def Clo (ops : List Oper) (rem : List Nat) : Prop := ∀ d, d ∉ rem → ∀ o, getO ops d = some o → ∀ e ∈ depsD o, e ∉ rem

theorem readyD_spec {ops : List Oper} {rem : List Nat} {i : Nat} {o : Oper} (ho : getO ops i = some o) : readyD ops rem i = true ↔ ∀ d ∈ depsD o, d ∉ rem ∧ d < ops.length := by
  unfold readyD
  rw [ho]
  simp only [List.all_eq_true, Bool.and_eq_true, Bool.not_eq_true', mem_eq]
  refine forall_congr' fun d => forall_congr' fun hd => ?_
  refine and_congr ?_ ?_
  · simp
  · exact ⟨fun h => Nat.le_of_ble_eq_true h, fun h => Nat.ble_eq_true_of_le h⟩

theorem Clo.erase {ops : List Oper} {rem : List Nat} {i : Nat} {o : Oper} (hn : rem.Nodup) (h : Clo ops rem) (ho : getO ops i = some o) (hr : readyD ops rem i = true) : Clo ops (eraseD i rem) := by
  intro d hd p hp e he hin
  have hin' := (mem_eraseD hn).1 hin
  by_cases hdr : d ∈ rem
  · have hdi : d = i := by
      by_cases hdi : d = i
      · exact hdi
      · exact absurd ((mem_eraseD hn).2 ⟨hdr, hdi⟩) hd
    subst hdi
    rw [ho] at hp
    cases hp
    exact ((readyD_spec ho).1 hr e he).1 hin'.1
  · exact h d hdr p hp e he hin'.1

theorem Clo.before {ops : List Oper} {rem : List Nat} (h : Clo ops rem) {i : Nat} (hi : i ∈ rem) : ∀ (n : Nat) (d : Nat), d ∉ rem → beforeD ops n i d = false
  | 0, _, _ => rfl
  | n + 1, d, hd => by
    unfold beforeD
    cases ho : getO ops d with
    | none => rfl
    | some o =>
      simp only
      rw [List.any_eq_false]
      intro e he
      have hne := h d hd o ho e he
      have h1 : e ≠ i := fun h' => hne (h' ▸ hi)
      simp only [beq_of_ne h1, Bool.false_or, h.before hi n e hne]
      simp

theorem ready_before {ops : List Oper} {rem : List Nat} (h : Clo ops rem) {i j : Nat} {o : Oper} (hi : i ∈ rem) (ho : getO ops j = some o) (hr : readyD ops rem j = true) (n : Nat) : beforeD ops n i j = false := by
  cases n with
  | zero => rfl
  | succ n =>
    unfold beforeD
    rw [ho]
    simp only
    rw [List.any_eq_false]
    intro e he
    have hne := ((readyD_spec ho).1 hr e he).1
    have h1 : e ≠ i := fun h' => hne (h' ▸ hi)
    simp only [beq_of_ne h1, Bool.false_or, h.before hi n e hne]
    simp

/-- an operation of the region that may come up ahead of 'o' or behind it is apart from it -/
structure Off (ops : List Oper) (o oj : Oper) (s : St) : Prop where
  b1 : Blind ops o oj
  b2 : Blind ops oj o
  dst : ∀ d, o.dst = some d → oj.dst ≠ some d

theorem getO_of_ready {ops : List Oper} {rem : List Nat} {i : Nat} (h : readyD ops rem i = true) : ∃ o, getO ops i = some o := by
  unfold readyD at h
  cases ho : getO ops i with
  | none => rw [ho] at h; cases h
  | some o => exact ⟨o, rfl⟩

/-- **A quiet operation may be taken first.** -/
theorem anyX_first {ops : List Oper} {κ : St → W} {i : Nat} {o : Oper} (ho : getO ops i = some o) {v' : SV} {z : Option (List Value)} {l : List (Addr × List Value)} {h : Held} :
    ∀ (n : Nat) (rem : List Nat) (s : St) (H : HP), rem.Nodup → Clo ops rem → i ∈ rem → readyD ops rem i = true →
      (∀ j ∈ rem, ∀ oj, getO ops j = some oj → j ≠ i → beforeD ops ops.length i j = false → Off ops o oj s ∧ (guardD ops s o = .run → ∀ t x b off, o.op = .load t x → s.ev x = .own b off → isStore oj.op = false)) →
      Quiet tb esc ops i o v' z l s → (∀ x ∈ l, H.has x.1 x.2) → anyX P tb Q esc ops κ n (eraseD i rem) (plus o v' z s) ((l.map fun x => (i, x.1, x.2)) ++ h) H →
      anyX P tb Q esc ops κ (n + 1) rem s h H := by
  intro n
  induction n with
  | zero =>
    intro rem s H hn hc hi hr hoff q hl hX
    refine ⟨fun h => (by rw [h] at hi; cases hi), fun _ => ⟨i, hi, hr⟩, fun j hj hrj => ?_⟩
    obtain ⟨he, hk⟩ := hX
    have hji : j = i := by
      by_cases hji : j = i
      · exact hji
      · have := (mem_eraseD (i := i) hn).2 ⟨hj, hji⟩
        rw [he] at this; cases this
    subst hji
    exact ⟨o, ho, q.det hl ⟨fun _ _ h => h, he, hk⟩⟩
  | succ n ih =>
    intro rem s H hn hc hi hr hoff q hl hX
    refine ⟨fun h => (by rw [h] at hi; cases hi), fun _ => ⟨i, hi, hr⟩, fun j hj hrj => ?_⟩
    by_cases hji : j = i
    · subst hji
      exact ⟨o, ho, q.det hl ⟨fun _ _ h => h, anyX_less (fun x hx => List.mem_append_right _ hx) _ _ _ _ hX⟩⟩
    · obtain ⟨oj, hoj⟩ := getO_of_ready hrj
      have hbf := ready_before hc hi hoj hrj ops.length
      obtain ⟨off, hst⟩ := hoff j hj oj hoj hji hbf
      have hrj' : readyD ops (eraseD i rem) j = true := (readyD_spec hoj).2 fun d hd => ⟨fun hm => ((readyD_spec hoj).1 hrj d hd).1 ((mem_eraseD hn).1 hm).1, ((readyD_spec hoj).1 hrj d hd).2⟩
      obtain ⟨oj', hoj', hstep⟩ := hX.2.2 j ((mem_eraseD hn).2 ⟨hj, hji⟩) hrj'
      rw [hoj] at hoj'
      cases hoj'
      refine ⟨oj, hoj, stepW_mono (fun s' H' hk => ?_) (stepW_comm q off.b1 off.dst hstep)⟩
      obtain ⟨m, hheld, hX'⟩ := hk
      refine ⟨fun x hx => hheld x (heldFor_mono (fun y hy => List.mem_append_right _ hy) x hx), ?_⟩
      have hcomm : eraseD j (eraseD i rem) = eraseD i (eraseD j rem) := by
        have key : ∀ l : List Nat, eraseD j (eraseD i l) = eraseD i (eraseD j l) := by
          intro l
          induction l with
          | nil => rfl
          | cons x xs ih' =>
            by_cases h1 : x = i
            · subst h1
              have e1 : Nat.beq x x = true := by simp
              have e2 := beq_of_ne (fun h => hji h.symm : x ≠ j)
              simp only [eraseD, e1, e2, cond_true, cond_false]
            · by_cases h2 : x = j
              · subst h2
                have e1 : Nat.beq x x = true := by simp
                simp only [eraseD, e1, beq_of_ne h1, cond_true, cond_false]
              · simp only [eraseD, beq_of_ne h1, beq_of_ne h2, cond_false, ih']
        exact key rem
      rw [hcomm] at hX'
      have hevx : ∀ x ∈ o.op.operands, s'.ev x = s.ev x := fun x hx => m.ev fun d hd he => off.b2.operands hd (he ▸ hx)
      have qm := q.moved m off.b2 off.dst hst
      refine ih (eraseD j rem) s' H' (eraseD_nodup hn) (hc.erase hn hoj hrj) ((mem_eraseD hn).2 ⟨hi, fun h => hji h.symm⟩)
        ((readyD_spec ho).2 fun d hd => ⟨fun hm => ((readyD_spec ho).1 hr d hd).1 ((mem_eraseD hn).1 hm).1, ((readyD_spec ho).1 hr d hd).2⟩)
        (fun k hk ok hok hki hbk => ?_) qm.1 (fun x hx => ?_) hX'
      · obtain ⟨off', h2⟩ := hoff k ((mem_eraseD hn).1 hk).1 ok hok hki hbk
        exact ⟨⟨off'.b1, off'.b2, off'.dst⟩, fun hg t x b f hot hx => h2 (by rw [← qm.2]; exact hg) t x b f hot (by rw [← hevx x (by simp [hot, Op.operands])]; exact hx)⟩
      · refine hheld x ?_ (hl x hx)
        unfold heldFor
        refine List.mem_filterMap.2 ⟨(i, x.1, x.2), List.mem_append_left _ (List.mem_map.2 ⟨x, hx, rfl⟩), ?_⟩
        simp only [hbf, cond_false]

theorem oldD_spec {o : Oper} (h : oldD st o = true) : ∀ d, o.dst = some d → ∀ b f, st.tm.getD d .junk ≠ .own b f := by
  intro d hd b f he
  unfold oldD at h
  rw [hd] at h
  simp only [getL_eq, he] at h
  cases h

theorem quiet_of_step {ops : List Oper} {rem : List Nat} {i : Nat} {o : Oper} (ho : getO ops i = some o) (hq : quietD tb esc ops rem st i = true)
    (hna : ∀ t x ad, guardD ops st o = .run → o.op = .load t x → st.ev x ≠ .adr ad) {K : St → W} (h : stepW P tb Q esc ops i o st K H) :
    ∃ v' z, Quiet tb esc ops i o v' z [] st ∧ K (plus o v' z st) H := by
  unfold quietD at hq
  rw [ho] at hq
  simp only [Bool.and_eq_true] at hq
  obtain ⟨⟨⟨_, _⟩, hold⟩, hq⟩ := hq
  have hold := oldD_spec hold
  unfold stepW at h
  cases hg : guardD ops st o with
  | bad => rw [hg] at h; exact h.elim
  | skip =>
    rw [hg] at h
    obtain ⟨h1, h2⟩ := put_iff.1 h
    refine ⟨.v undef, none, ⟨h1, hold, .inr ⟨hg, rfl, rfl, rfl⟩⟩, ?_⟩
    unfold plus
    rw [extD_none]
    exact h2
  | run =>
    rw [hg] at h hq
    simp only at h hq
    have fin : ∀ v z, Ahead tb esc o st v z [] → putG (isGuard ops i) { st with own := extD o.dst z st.own } o.dst v K H → ∃ v' z, Quiet tb esc ops i o v' z [] st ∧ K (plus o v' z st) H := by
      intro v z ha hk
      obtain ⟨h1, v', hf, h2⟩ := putG_iff.1 hk
      exact ⟨v', z, ⟨h1, hold, .inl ⟨hg, v, ha, hf⟩⟩, h2⟩
    unfold opW at h
    cases hp : pureV tb st.ev o with
    | some v =>
      rw [hp] at h
      refine fin v none (.pure hp) ?_
      rw [extD_none]
      exact h
    | none =>
      rw [hp] at h hq
      simp only at h hq
      cases hob : obV tb st.ev o with
      | some ob =>
        rw [hob] at h
        obtain ⟨v, hy, hk⟩ := (Ob.W_iff ob _ H).1 h
        refine fin v none (.ob hp hob hy) ?_
        rw [extD_none]
        exact hk
      | none =>
        rw [hob] at h hq
        simp only [Option.isSome_none, Bool.false_or] at h hq
        split at hq
        · rename_i e d hop hd
          simp only [hop, hd] at h
          cases hz : (bif known tb e then zeroD tb e else none) with
          | none => rw [hz] at h; exact h.elim
          | some z =>
            rw [hz] at h
            simp only [Bool.not_eq_true'] at h hq
            rw [hq] at h
            cases ha : anew st.tm st.own d <;> rw [ha] at h
            · exact h.elim
            · refine fin (.own d 0) (some z) (.alloc hop hd hz hq ha) ?_
              rw [hd]
              exact h
        · rename_i e x d hop hd
          simp only [hop, hd] at h
          cases hz : svCells (st.ev x) with
          | none => rw [hz] at h; exact h.elim
          | some z =>
            rw [hz] at h
            simp only [Bool.not_eq_true'] at h hq
            rw [hq] at h
            cases ha : anew st.tm st.own d <;> rw [ha] at h
            · exact h.elim
            · refine fin (.own d 0) (some z) (.box hop hd hz hq ha) ?_
              rw [hd]
              exact h
        · rename_i t x hop
          simp only [hop] at h
          cases hk : known tb t <;> rw [hk] at h
          · exact h.elim
          · simp only [Bool.not_true, cond_false] at h
            split at hq
            · rename_i b off e
              rw [e] at h
              simp only at h
              cases hv : ownGet st.own b off (sizeD tb t) (isAggD tb t) with
              | none => rw [hv] at h; exact h.elim
              | some v =>
                rw [hv] at h
                refine fin v none (.own hop hk e hv) ?_
                rw [extD_none]
                exact h
            · rename_i ad e
              exact absurd e (hna t x ad hg hop)
            · cases hq
        · cases hq

theorem firstD_mem {p : Nat → Bool} : ∀ {l : List Nat} {i : Nat}, firstD p l = some i → i ∈ l ∧ p i = true
  | [], _, h => by cases h
  | x :: xs, i, h => by
    unfold firstD at h
    cases e : p x <;> rw [e] at h
    · obtain ⟨h1, h2⟩ := firstD_mem (l := xs) h
      exact ⟨List.mem_cons_of_mem _ h1, h2⟩
    · simp only [cond_true] at h
      cases h
      exact ⟨List.mem_cons_self, e⟩

theorem allW_all {f : Nat → W} : ∀ {l : List Nat}, allW f l H → l ≠ [] ∧ ∀ i ∈ l, f i H
  | [], h => h.elim
  | [x], h => ⟨by simp, fun i hi => by simp at hi; subst hi; exact h⟩
  | x :: y :: ys, h => by
    obtain ⟨h1, h2⟩ := h
    obtain ⟨_, h3⟩ := allW_all (l := y :: ys) h2
    refine ⟨by simp, fun i hi => ?_⟩
    cases hi with
    | head => exact h1
    | tail _ hi => exact h3 i hi

theorem apartD_off {ops : List Oper} {rem : List Nat} {i : Nat} {o : Oper} (h : apartD ops rem i o = true) {j : Nat} (hj : j ∈ rem) {oj : Oper} (hoj : getO ops j = some oj) (hne : j ≠ i)
    (hb : beforeD ops ops.length i j = false) (s : St) : Off ops o oj s := by
  unfold apartD at h
  rw [List.all_eq_true] at h
  have := h j hj
  rw [beq_of_ne (fun h => hne h.symm), hb, hoj] at this
  simp only [Bool.false_or, Bool.and_eq_true] at this
  obtain ⟨h1, h2⟩ := this
  refine ⟨fun d hd hm => ?_, fun e he hm => ?_, fun d hd he => ?_⟩
  · rw [hd] at h1
    simp only [Bool.and_eq_true, Bool.not_eq_true', mem_eq] at h1
    have := h1.1
    simp at this
    exact this hm
  · rw [he] at h2
    simp only [Bool.not_eq_true', mem_eq] at h2
    simp at h2
    exact h2 hm
  · rw [hd, he] at h1
    simp only [Bool.and_eq_true, Bool.not_eq_true'] at h1
    have := h1.2
    simp at this

theorem heldW_spec {l : List (Addr × List Value)} {k : W} (h : heldW l k H) : (∀ x ∈ l, H.has x.1 x.2) ∧ k H := by
  unfold heldW at h
  cases l with
  | nil => exact ⟨fun x hx => (by cases hx), h⟩
  | cons x xs => exact h

theorem anyW_X {ops : List Oper} {κ : St → W} : ∀ (n : Nat) (rem : List Nat) (s : St) (h : Held) (H : HP), rem.Nodup → Clo ops rem → anyW P tb Q esc ops κ n rem s h H → anyX P tb Q esc ops κ n rem s h H
  | 0, rem, s, h, H, _, _, hA => by
    cases rem with
    | nil => exact ⟨rfl, hA⟩
    | cons x xs => exact hA.elim
  | n + 1, rem, s, h, H, hn, hc, hA => by
    cases hrem : rem with
    | nil =>
      subst hrem
      exact ⟨fun _ => hA, fun h => absurd rfl h, fun i hi => by cases hi⟩
    | cons x xs =>
      have hne : rem ≠ [] := by rw [hrem]; simp
      rw [← hrem]
      have e : anyW P tb Q esc ops κ (n + 1) rem s h = (match firstD (quietD tb esc ops rem s) rem with
        | some i => match getO ops i with
          | some o => quietW P tb Q esc ops i o s h fun st' h' => anyW P tb Q esc ops κ n (eraseD i rem) st' h'
          | none => WFalse
        | none => allW (fun i => match getO ops i with
          | some o => stepW P tb Q esc ops i o s fun st' => heldW (heldFor ops i h) (anyW P tb Q esc ops κ n (eraseD i rem) st' h)
          | none => WFalse) (rem.filter (readyD ops rem))) := by rw [hrem]; rfl
      rw [e] at hA
      cases hf : firstD (quietD tb esc ops rem s) rem with
      | none =>
        rw [hf] at hA
        obtain ⟨h1, h2⟩ := allW_all hA
        refine ⟨fun h => absurd h hne, fun _ => ?_, fun i hi hr => ?_⟩
        · obtain ⟨y, hy⟩ := List.exists_mem_of_ne_nil _ h1
          exact ⟨y, (List.mem_filter.1 hy).1, (List.mem_filter.1 hy).2⟩
        · have h3 := h2 i (List.mem_filter.2 ⟨hi, hr⟩)
          obtain ⟨o, ho⟩ := getO_of_ready hr
          rw [ho] at h3
          refine ⟨o, ho, stepW_mono (fun s' H' hk => ?_) h3⟩
          obtain ⟨k1, k2⟩ := heldW_spec hk
          exact ⟨fun x hx _ => k1 x hx, anyW_X n _ s' h H' (eraseD_nodup hn) (hc.erase hn ho hr) k2⟩
      | some i =>
        rw [hf] at hA
        replace hA : (match getO ops i with
          | some o => quietW P tb Q esc ops i o s h fun st' h' => anyW P tb Q esc ops κ n (eraseD i rem) st' h'
          | none => WFalse) H := hA
        obtain ⟨hi, hq⟩ := firstD_mem hf
        have hq' := hq
        unfold quietD at hq'
        cases ho : getO ops i with
        | none => rw [ho] at hq'; cases hq'
        | some o =>
          rw [ho] at hq' hA
          replace hA : quietW P tb Q esc ops i o s h (fun st' h' => anyW P tb Q esc ops κ n (eraseD i rem) st' h') H := hA
          simp only [Bool.and_eq_true] at hq'
          obtain ⟨⟨⟨hr, hap⟩, hold⟩, hkind⟩ := hq'
          have hoff : ∀ j ∈ rem, ∀ oj, getO ops j = some oj → j ≠ i → beforeD ops ops.length i j = false →
              Off ops o oj s ∧ (guardD ops s o = .run → ∀ t x b off, o.op = .load t x → s.ev x = .own b off → isStore oj.op = false) := by
            intro j hj oj hoj hji hb
            refine ⟨apartD_off hap hj hoj hji hb s, fun hg t x b off hop hx => ?_⟩
            have h1 : pureV tb s.ev o = none := by unfold pureV; rw [hop]
            have h2 : obV tb s.ev o = none := by unfold obV; rw [hop]
            rw [hg] at hkind
            simp only [h1, h2, hop, hx, Option.isSome_none, Bool.false_or, List.all_eq_true] at hkind
            have := hkind j hj
            rw [beq_of_ne (fun h => hji h.symm), hb, hoj] at this
            simpa using this
          have fin : ∀ v' z l, Quiet tb esc ops i o v' z l s → (∀ x ∈ l, H.has x.1 x.2) → anyW P tb Q esc ops κ n (eraseD i rem) (plus o v' z s) ((l.map fun x => (i, x.1, x.2)) ++ h) H →
              anyX P tb Q esc ops κ (n + 1) rem s h H := fun v' z l q hl hk =>
            anyX_first ho n rem s H hn hc hi hr hoff q hl (anyW_X n _ _ _ H (eraseD_nodup hn) (hc.erase hn ho hr) hk)
          obtain ⟨Y, hX, hA⟩ : ∃ Y, quietW P tb Q esc ops i o s h (fun st' h' => anyW P tb Q esc ops κ n (eraseD i rem) st' h') = Y ∧ Y H := ⟨_, rfl, hA⟩
          unfold quietW at hX
          split at hX
          · rename_i t x hg hop
            cases hk : known tb t <;> rw [hk] at hX
            · subst hX
              exact hA.elim
            · simp only [Bool.not_true, cond_false] at hX
              split at hX
              · rename_i ad e
                split at hX
                · rename_i sh hsh
                  subst hX
                  obtain ⟨y, hy, hA⟩ := hA
                  rw [Sh1.app_cur] at hA
                  obtain ⟨k1, v', hfin, k2⟩ := putG_iff.1 hA
                  refine fin v' none [(ad, sh.cells y)] ⟨k1, oldD_spec hold, .inl ⟨hg, _, .adr hop hk e hsh, hfin⟩⟩ (fun x hx => by simp at hx; subst hx; exact hy) ?_
                  unfold plus
                  rw [extD_none]
                  exact k2
                · subst hX
                  exact hA.elim
              · rename_i hnadr
                subst hX
                obtain ⟨v', z, q, hk'⟩ := quiet_of_step ho hq (fun t' x' ad hg' hop' he => by rw [hop] at hop'; cases hop'; exact hnadr ad he) hA
                exact fin v' z [] q (fun x hx => by cases hx) hk'
          · rename_i hnl
            subst hX
            obtain ⟨v', z, q, hk'⟩ := quiet_of_step ho hq (fun t' x' ad hg' hop' he => hnl t' x' hg' hop') hA
            exact fin v' z [] q (fun x hx => by cases hx) hk'

/-- whatever order is drawn: the machine's -/
theorem anyX_sound (hb : TabOk P tb) {ops : Array Oper} {κ : St → W} {Qr : Exit → Act → World → Prop}
    (hQo : ∀ w' H', Up H₀ H' w₀ w' → Q .outgrown H' → LetsOut Qr) {h : Held} :
    ∀ (n m : Nat) (rem : List Nat) (listed : Array Bool) {st : St} {a : Act} {w : World} {H : HP} {β : Nat → Nat}, (∀ c a' w' H', Up H₀ H' w₀ w' → Q (.panicked c) H' → a'.defers = DF.l → (∀ i, okW st.fr i = false → a'.tmps.getD i undef = a.tmps.getD i undef) → Qr (.panic c) a' w') → rem.Nodup → rem.length ≤ n → listed.size = ops.size →
      (∀ j, j < ops.size → (j ∈ rem ↔ listed.getD j true = false)) → (∀ j ∈ rem, j < ops.size) → Inv w₀ H₀ st a w H β → (∀ a' w', Post w₀ H₀ st a β κ a' w' → Qr .normal a' w') →
      anyX P tb Q esc ops.toList κ m rem st h H → wpAny P .any ops Qr n listed a w := by
  intro n
  induction n with
  | zero =>
    intro m rem listed st a w H β hQp hn hlen hsz hcor hlt inv hk hX
    have hrem : rem = [] := List.length_eq_zero_iff.1 (by omega)
    subst hrem
    refine ⟨?_, hk a w ⟨st, β, H, inv, .rfl, ?_⟩⟩
    · cases hr : Region.ready .any ops listed with
      | nil => rfl
      | cons x xs =>
        have hx : x ∈ Region.ready .any ops listed := by rw [hr]; exact List.mem_cons_self
        obtain ⟨h1, o, ho, _⟩ := mem_ready.1 hx
        exact absurd ((hcor x (Array.getElem?_eq_some_iff.1 ho).1).2 h1) (by simp)
    · cases m with
      | zero => exact hX.2
      | succ m => exact hX.1 rfl
  | succ n ih =>
    intro m rem listed st a w H β hQp hn hlen hsz hcor hlt inv hk hX
    have hready : ∀ i, i ∈ Region.ready .any ops listed ↔ i ∈ rem ∧ readyD ops.toList rem i = true := by
      intro i
      rw [mem_ready]
      constructor
      · rintro ⟨h1, o, ho, h2⟩
        have hi := (Array.getElem?_eq_some_iff.1 ho).1
        refine ⟨(hcor i hi).2 h1, (readyD_spec (o := o) (by rw [getO_eq, Array.getElem?_toList]; exact ho)).2 fun d hd => ?_⟩
        unfold depsD at hd
        obtain ⟨e, he, hed⟩ := List.mem_filterMap.1 hd
        cases hbd : Region.binds .any e <;> rw [hbd] at hed
        · cases hed
        · simp only [cond_true] at hed
          cases hed
          have h3 := h2 e (by simpa using he) hbd
          have hds : e.on < listed.size := by
            rcases Nat.lt_or_ge e.on listed.size with h' | h'
            · exact h'
            · simp [Array.getElem?_eq_none h'] at h3
          refine ⟨fun hm => ?_, by simpa [hsz] using hds⟩
          have h4 := (hcor e.on (by rw [← hsz]; exact hds)).1 hm
          simp [hds] at h3 h4
          rw [h3] at h4; cases h4
      · rintro ⟨h1, h2⟩
        have hi := hlt i h1
        refine ⟨(hcor i hi).1 h1, ops[i], by simp [hi], fun e he hbd => ?_⟩
        have h3 := (readyD_spec (o := ops[i]) (by rw [getO_eq, Array.getElem?_toList]; simp [hi])).1 h2 e.on (by
          unfold depsD
          exact List.mem_filterMap.2 ⟨e, by simpa using he, by rw [hbd]; rfl⟩)
        have hlt' : e.on < ops.size := by simpa using h3.2
        have h4 : listed.getD e.on true ≠ false := fun h' => h3.1 ((hcor e.on hlt').2 h')
        have hls : e.on < listed.size := by rw [hsz]; exact hlt'
        simp [hls] at h4 ⊢
        exact h4
    cases m with
    | zero =>
      obtain ⟨hrem, hκ⟩ := hX
      subst hrem
      refine ⟨fun _ => hk a w ⟨st, β, H, inv, .rfl, hκ⟩, fun i hi => ?_⟩
      have := ((hready i).1 hi).1
      cases this
    | succ m =>
      obtain ⟨hX1, hX2, hX3⟩ := hX
      refine ⟨fun hr => ?_, fun i hi => ?_⟩
      · by_cases hrem : rem = []
        · exact hk a w ⟨st, β, H, inv, .rfl, hX1 hrem⟩
        · obtain ⟨i, hi, hri⟩ := hX2 hrem
          have := (hready i).2 ⟨hi, hri⟩
          rw [hr] at this
          cases this
      · obtain ⟨him, hri⟩ := (hready i).1 hi
        obtain ⟨o, ho, hst⟩ := hX3 i him hri
        have hoa : ops[i]? = some o := by rw [getO_eq, Array.getElem?_toList] at ho; exact ho
        refine wpOp_mono (fun a' w' hp => ?_) (stepW_sound hb inv hoa hQp hQo hst)
        obtain ⟨st', β', H', inv', agr, _, hX'⟩ := hp
        refine ih m (eraseD i rem) (listed.setIfInBounds i true) (panic_step agr hQp) (eraseD_nodup hn) (by have := eraseD_length him; omega) (by simpa using hsz) (fun j hj => ?_) (fun j hj => hlt j ((mem_eraseD hn).1 hj).1) inv'
          (fun a'' w'' hp => hk a'' w'' (hp.trans agr)) hX'
        rw [mem_eraseD hn, hcor j hj]
        by_cases hij : i = j
        · subst hij
          have : i < listed.size := by rw [hsz]; exact hj
          simp [this]
        · rw [getD_set_ne true hij]
          exact ⟨fun h => h.1, fun h => ⟨h, fun h' => hij h'.symm⟩⟩

/-- A REGION THAT DRAWS. -/
theorem draw_sound (hm : P.follows .mixedOrders = true) (hb : TabOk P tb) {ops : Array Oper} {κ : St → W} {Qr : Exit → Act → World → Prop}
    (hQp : ∀ c a' w' H', Up H₀ H' w₀ w' → Q (.panicked c) H' → a'.defers = DF.l → (∀ i, okW st.fr i = false → a'.tmps.getD i undef = a.tmps.getD i undef) → Qr (.panic c) a' w') (hQo : ∀ w' H', Up H₀ H' w₀ w' → Q .outgrown H' → LetsOut Qr)
    (inv : Inv w₀ H₀ st a w H β) (hk : ∀ a' w', Post w₀ H₀ st a β κ a' w' → Qr .normal a' w') {id : Nat}
    (h : regionW P tb Q esc ops.toList true st κ H) : (Code.region id ops true).wp P Qr a w := by
  have h : anyW P tb Q esc ops.toList κ (ops.toList.length + 1) (List.range ops.toList.length) st [] H := h
  have hclo : Clo ops.toList (List.range ops.toList.length) := by
    intro d hd o ho
    rw [getO_eq] at ho
    have : d < ops.toList.length := by
      rcases Nat.lt_or_ge d ops.toList.length with h' | h'
      · exact h'
      · rw [List.getElem?_eq_none h'] at ho; cases ho
    exact absurd (List.mem_range.2 this) hd
  have hX := anyW_X _ _ _ _ _ List.nodup_range hclo h
  refine wp_region_any hm ?_
  have inv' : Inv w₀ H₀ st a { w with drawn := w.drawn + 1 } H β :=
    ⟨inv.size, inv.tm, inv.defers, ⟨inv.up.on, inv.up.os, inv.up.tape, inv.up.output, inv.up.size, inv.up.keep, inv.up.dom⟩, inv.own, inv.inj⟩
  exact anyX_sound hb hQo ops.size _ (List.range ops.toList.length) (Array.replicate ops.size false) hQp List.nodup_range (by simp) (by simp)
    (fun j hj => by simp [hj]) (fun j hj => by simpa using hj) inv' hk hX
end
end Go.Den

/-
  The readable weakest precondition (Den) is sound: code.
-/
namespace Go.Den
set_option linter.unusedSectionVars false
set_option linter.unusedSimpArgs false
set_option linter.unusedVariables false
open Go
set_option linter.unusedVariables false
set_option linter.unusedSimpArgs false
section
variable [DF] {P : Program} {tb : List Row} {β β' β₁ : Nat → Nat} {w w' w₀ w₁ : World} {H H' H₀ H₁ : HP} {st st' st₁ : St} {a a' a₁ : Act}

/-! ### A loop's head -/
theorem Lf.get_rel {x : Lf} {s : SV} {t : x.Ty} {v : Value} (h : x.get s = some t) (hr : RelV β s v) : v = x.val t := by
  unfold Lf.get at h
  split at h <;> first
    | (rename_i k k' n
       cases e : kindEq k k' <;> rw [e] at h
       · cases h
       · simp only [cond_true] at h
         cases h
         simp only [kindEq, decide_eq_true_eq] at e
         subst e
         exact hr)
    | (cases h; exact hr)
    | (cases h)

theorem junkSlots_len : ∀ (l : List Nat) (tm : List SV), (junkSlots l tm).length = tm.length
  | [], _ => rfl
  | d :: l, tm => by simp [junkSlots, junkSlots_len l]

theorem setSlots_len : ∀ (l : List (Nat × Lf)) (t : Tys (slotTys l)) (tm : List SV), (setSlots l t tm).length = tm.length
  | [], _, _ => rfl
  | (d, x) :: l, t, tm => (setSlots_len l t.2 (tm.set d (.v (x.val t.1)))).trans (by simp)

theorem junkSlots_get : ∀ (l : List Nat) (tm : List SV) (i : Nat), (junkSlots l tm).getD i .junk = tm.getD i .junk ∧ i ∉ l ∨ (junkSlots l tm).getD i .junk = .junk
  | [], _, _ => .inl ⟨rfl, by simp⟩
  | d :: l, tm, i => by
    simp only [junkSlots]
    rcases junkSlots_get l (tm.set d .junk) i with ⟨h, hn⟩ | h
    · by_cases hd : d = i
      · subst hd
        refine .inr ?_
        rw [h]
        rcases Nat.lt_or_ge d tm.length with hl | hl <;> simp [List.getD, hl]
      · exact .inl ⟨by rw [h]; exact set_other hd, by simp; exact ⟨fun e => hd e.symm, hn⟩⟩
    · exact .inr h

theorem setSlots_get (size : Nat) : ∀ (l : List (Nat × Lf)) (t : Tys (slotTys l)) (tm tm₁ : List SV) (vs : Nat → Value), tm₁.length = tm.length → (∀ i, RelV β (tm₁.getD i .junk) (vs i)) → getSlots l tm₁ = some t →
    ∀ i, RelV β ((setSlots l t tm).getD i .junk) (vs i) ∨ ((setSlots l t tm).getD i .junk = tm.getD i .junk ∧ ∀ x ∈ l, x.1 ≠ i)
  | [], _, _, _, _, _, _, _, _ => .inr ⟨rfl, by simp⟩
  | (d, x) :: l, t, tm, tm₁, vs, hl, hr, hg, i => by
    simp only [getSlots, getL_eq] at hg
    split at hg
    · rename_i y ys hy hys
      cases hg
      simp only [setSlots]
      rcases setSlots_get size l ys (tm.set d (.v (x.val y))) tm₁ vs (by simp [hl]) hr hys i with h | ⟨h, hn⟩
      · exact .inl h
      · by_cases hd : d = i
        · subst hd
          rw [h]
          rcases Nat.lt_or_ge d tm.length with hlt | hge
          · refine .inl ?_
            simp only [List.getD_eq_getElem?_getD, List.getElem?_set_self hlt, Option.getD_some]
            exact Lf.get_rel hy (hr d)
          · refine .inl ?_
            simp [List.getD_eq_getElem?_getD, List.getElem?_eq_none, hge, RelV]
        · refine .inr ⟨by rw [h]; exact set_other hd, fun z hz => ?_⟩
          cases hz with
          | head => exact hd
          | tail _ h' => exact hn z h'
    · cases hg

theorem getCells_some (x : Lf) (l : List (Option Lf)) (c : Value) (cs : List (Option Value)) : getCells (some x :: l) (some c :: cs) =
  (match x.get (.v c), getCells l cs with
    | some a, some b => some (show Tys (cellTys (some x :: l)) from (a, b))
    | _, _ => none) := by rfl

theorem mkCells_spec (l : List (Option Lf)) : ∀ (t : Tys (cellTys l)) (cs : List (Option Value)), getCells l cs = some t →
    (mkCells l t).length = cs.length ∧ ∀ (i : Nat) (c : Value), (mkCells l t)[i]? = some (some c) → cs[i]? = some (some c) := by
  induction l with
  | nil =>
    intro t cs h
    cases cs with
    | nil => exact ⟨rfl, fun _ _ h => by cases h⟩
    | cons c cs => exact absurd (show (none : Option (Tys (cellTys []))) = some t from h) (by simp)
  | cons x l ih =>
    intro t cs h
    cases cs with
    | nil => cases x <;> exact absurd (show (none : Option _) = some t from h) (by simp)
    | cons c cs =>
      cases x with
      | none =>
        replace h : getCells l cs = some t := h
        obtain ⟨h1, h2⟩ := ih t cs h
        refine ⟨congrArg (· + 1) h1, fun i v hv => ?_⟩
        cases i with
        | zero => cases hv
        | succ i =>
          rw [List.getElem?_cons_succ]
          exact h2 i v hv
      | some x =>
        cases c with
        | none => exact absurd (show (none : Option _) = some t from h) (by simp)
        | some c =>
          rw [getCells_some] at h
          split at h
          · rename_i y ys hy hys
            cases h
            obtain ⟨h1, h2⟩ := ih ys cs hys
            refine ⟨congrArg (· + 1) h1, fun i v hv => ?_⟩
            cases i with
            | zero =>
              have hv' : some (x.val y) = some v := Option.some.inj hv
              have := Lf.get_rel (β := fun x => x) hy (show RelV _ (.v c) c from rfl)
              rw [List.getElem?_cons_zero, this, hv']
            | succ i =>
              rw [List.getElem?_cons_succ]
              exact h2 i v hv
          · cases h

theorem setOwn_spec : ∀ (l : List (Nat × List (Option Lf))) (t : OwnTy l) (own own₁ : Own), getOwn l own₁ = some t → ∀ d cs, setOwn l t own d = some cs →
    (own d = some cs ∧ ∀ x ∈ l, x.1 ≠ d) ∨ ∃ cs₁, own₁ d = some cs₁ ∧ cs.length = cs₁.length ∧ ∀ (i : Nat) (c : Value), cs[i]? = some (some c) → cs₁[i]? = some (some c)
  | [], _, _, _, _, _, _, h => .inl ⟨h, by simp⟩
  | (e, c) :: l, t, own, own₁, hg, d, cs, h => by
    simp only [getOwn] at hg
    split at hg
    · rename_i cs₁ hcs₁
      split at hg
      · rename_i y ys hy hys
        cases hg
        simp only [setOwn] at h
        rcases setOwn_spec l ys _ own₁ hys d cs h with ⟨h', hn⟩ | h'
        · cases hb : Nat.beq d e <;> rw [hb] at h'
          · refine .inl ⟨h', fun x hx => ?_⟩
            cases hx with
            | head => exact fun he => (Nat.ne_of_beq_eq_false hb) he.symm
            | tail _ hx => exact hn x hx
          · have hde := Nat.eq_of_beq_eq_true hb
            subst hde
            simp only [cond_true] at h'
            cases h'
            obtain ⟨h1, h2⟩ := mkCells_spec c y cs₁ hy
            exact .inr ⟨cs₁, hcs₁, h1, h2⟩
        · exact .inr h'
      · cases hg
    · cases hg

noncomputable def Loop.hst (l : Loop) (st : St) (x : l.Ty) : St :=
  { st with tm := setSlots l.slots x.1 (junkSlots l.junk st.tm), own := setOwn l.own x.2 fun d => bif mem d st.fo then st.own d else none }

theorem Loop.head_eq (l : Loop) (st : St) (x : l.Ty) (k : St → W) : l.head st x k = k (l.hst st x) := by
  unfold Loop.head
  rw [normK_eq]
  rfl

theorem Inv.free (inv : Inv w₀ H₀ st a w H β) (fr : Option (List Nat)) (fo : List Nat) : Inv w₀ H₀ { st with fr := fr, fo := fo } a w H β :=
  ⟨inv.size, inv.tm, inv.defers, inv.up, inv.own, inv.inj⟩

theorem okW_mem {l : List Nat} {d : Nat} : okW (some l) d = true ↔ d ∈ l := by
  show mem d l = true ↔ _
  rw [mem_eq]
  simp

theorem freeze_ok {l : Loop} (h : l.frOk st.fr = true) (names : List Nat) {i : Nat} (hi : okW st.fr i = false) : okW (l.freeze st names).fr i = false := by
  cases e : okW (l.freeze st names).fr i
  · rfl
  · exfalso
    have := okW_mem.1 e
    unfold Loop.frOk at h
    simp only [Bool.and_eq_true, List.all_eq_true] at h
    rcases List.mem_append.1 this with h' | h'
    · obtain ⟨x, hx, rfl⟩ := List.mem_map.1 h'
      rw [h.1 x hx] at hi
      cases hi
    · rw [h.2 i h'] at hi
      cases hi

theorem mem_append_true {d : Nat} {l m : List Nat} (h : mem d l = true) : mem d (l ++ m) = true := by
  rw [mem_eq] at *
  simp at *
  exact .inl h

theorem unfreeze {l : Loop} (h : l.frOk st.fr = true) {names : List Nat} (agr : Agr (l.freeze st names) st' a a' β β') : Agr st (st'.back st) a a' β β' where
  size := agr.size
  fr := rfl
  fo := rfl
  tmps i hi := agr.tmps i (freeze_ok h names hi)
  tm i hi := agr.tm i (freeze_ok h names hi)
  bl i d off hi ho := agr.bl i d off (freeze_ok h names hi) ho
  own d hd hn := agr.own d (mem_append_true hd) hn

theorem Agr.freeze (l : Loop) (names : List Nat) : Agr (l.freeze st names) (l.freeze st names) a a β β := Agr.rfl

/-- the state at a loop's head, or behind a piece, as it is told -/
theorem head_inv {l : Loop} {names : List Nat} (hfo : l.foOk st.fo = true) (inv : Inv w₀ H₀ (l.freeze st names) a w H β) (inv₁ : Inv w₀ H₀ st₁ a₁ w₁ H₁ β₁) (agr : Agr (l.freeze st names) st₁ a a₁ β β₁)
    {x : l.Ty} (hx : l.get st₁ = some x) : Inv w₀ H₀ (l.hst (l.freeze st names) x) a₁ w₁ H₁ β₁ ∧ Agr (l.freeze st names) (l.hst (l.freeze st names) x) a a₁ β β₁ := by
  unfold Loop.get at hx
  split at hx
  case h_2 => cases hx
  rename_i t u ht hu
  cases hx
  have hlen : st₁.tm.length = st.tm.length := by
    have h1 := inv₁.size
    have h2 := inv.size
    have h3 := agr.size
    rw [← h1, h3, h2]
    rfl
  have hget : ∀ i, RelV β₁ ((l.hst (l.freeze st names) (t, u)).tm.getD i .junk) (a₁.tmps.getD i undef) ∧
      (okW (l.freeze st names).fr i = false → (l.hst (l.freeze st names) (t, u)).tm.getD i .junk = st.tm.getD i .junk) := by
    intro i
    have hjl := junkSlots_len l.junk st.tm
    have hs := setSlots_get (β := β₁) 0 l.slots t (junkSlots l.junk st.tm) st₁.tm (fun i => a₁.tmps.getD i undef) (by rw [hlen, hjl]) inv₁.tm ht i
    have hfr : okW (l.freeze st names).fr i = false → (∀ x ∈ l.slots, x.1 ≠ i) ∧ i ∉ l.junk := by
      intro h
      refine ⟨fun x hx he => ?_, fun hj => ?_⟩
      · have : okW (l.freeze st names).fr i = true := okW_mem.2 (List.mem_append_left _ (List.mem_map.2 ⟨x, hx, he⟩))
        rw [h] at this; cases this
      · have : okW (l.freeze st names).fr i = true := okW_mem.2 (List.mem_append_right _ hj)
        rw [h] at this; cases this
    refine ⟨?_, fun h => ?_⟩
    · rcases hs with h | ⟨h, hn⟩
      · exact h
      · show RelV β₁ ((setSlots l.slots t (junkSlots l.junk st.tm)).getD i .junk) _
        rw [h]
        rcases junkSlots_get l.junk st.tm i with ⟨h', hnj⟩ | h'
        · rw [h']
          have hok : okW (l.freeze st names).fr i = false := by
            cases e : okW (l.freeze st names).fr i
            · rfl
            · exfalso
              rcases List.mem_append.1 (okW_mem.1 e) with h'' | h''
              · obtain ⟨x, hx, he⟩ := List.mem_map.1 h''
                exact hn x hx he
              · exact hnj h''
          rw [agr.tmps i hok]
          have h1 := inv.tm i
          have h2 := agr.bl i
          change RelV β (st.tm.getD i .junk) _ at h1
          cases e : st.tm.getD i .junk with
          | own d off =>
            rw [e] at h1
            simp only [RelV] at h1 ⊢
            rw [h2 d off hok e]
            exact h1
          | _ => rw [e] at h1; exact h1
        · rw [h']; trivial
    · obtain ⟨h1, h2⟩ := hfr h
      have hset : ∀ (m : List (Nat × Lf)) (t : Tys (slotTys m)) (tm : List SV), (∀ x ∈ m, x.1 ≠ i) → (setSlots m t tm).getD i .junk = tm.getD i .junk := by
        intro m
        induction m with
        | nil => intro t tm _; rfl
        | cons y m ih =>
          intro t tm hm
          obtain ⟨d, x⟩ := y
          simp only [setSlots]
          rw [ih t.2 _ fun z hz => hm z (List.mem_cons_of_mem _ hz)]
          exact set_other (hm (d, x) List.mem_cons_self)
      have hjunk : ∀ (m : List Nat) (tm : List SV), i ∉ m → (junkSlots m tm).getD i .junk = tm.getD i .junk := by
        intro m
        induction m with
        | nil => intro tm _; rfl
        | cons y m ih =>
          intro tm hm
          simp only [List.mem_cons, not_or] at hm
          simp only [junkSlots]
          rw [ih _ hm.2]
          exact set_other fun h => hm.1 h.symm
      show (setSlots l.slots t (junkSlots l.junk st.tm)).getD i .junk = _
      rw [hset _ _ _ h1, hjunk _ _ h2]
  have hown : ∀ d cs, (l.hst (l.freeze st names) (t, u)).own d = some cs → ∃ cs₁, st₁.own d = some cs₁ ∧ cs.length = cs₁.length ∧ ∀ (i : Nat) (c : Value), cs[i]? = some (some c) → cs₁[i]? = some (some c) := by
    intro d cs hd
    rcases setOwn_spec l.own u _ st₁.own hu d cs hd with ⟨h, hn⟩ | h
    · cases em : mem d (l.freeze st names).fo <;> rw [em] at h
      · cases h
      · simp only [cond_true] at h
        refine ⟨cs, ?_, rfl, fun _ _ h => h⟩
        rw [(agr.own d em (by rw [h]; simp)).2]
        exact h
    · exact h
  refine ⟨⟨?_, fun i => (hget i).1, inv₁.defers, inv₁.up, fun d cs hd => ?_, fun x y hx hy he => ?_⟩, ⟨agr.size, rfl, rfl, agr.tmps, fun i hi => .inl ((hget i).2 hi), agr.bl, fun d hd hn => ⟨(agr.own d hd hn).1, ?_⟩⟩⟩
  · show a₁.tmps.size = (setSlots l.slots t (junkSlots l.junk st.tm)).length
    rw [setSlots_len, junkSlots_len, inv₁.size, hlen]
  · obtain ⟨cs₁, h1, h2, h3⟩ := hown d cs hd
    obtain ⟨vs, e, k1, k2, k3, k4, k5⟩ := inv₁.own d cs₁ h1
    exact ⟨vs, e, k1, by rw [k2, h2], fun i c hc => k3 i c (h3 i c hc), k4, k5⟩
  · have hne : ∀ z, (l.hst (l.freeze st names) (t, u)).own z ≠ none → st₁.own z ≠ none := by
      intro z hz
      obtain ⟨cs, hcs⟩ := Option.ne_none_iff_exists'.1 hz
      obtain ⟨cs₁, h1, _⟩ := hown z cs hcs
      rw [h1]; simp
    exact inv₁.inj x y (hne x hx) (hne y hy) he
  · -- a frozen block is not among those that the loop names
    have hnl : ∀ x ∈ l.own, x.1 ≠ d := by
      intro x hx he
      subst he
      have hd' : mem x.1 (st.fo ++ names.filter fun d => (st.own d).isSome && !(l.own.any fun x => Nat.beq x.1 d)) = true := hd
      rw [mem_eq] at hd'
      simp only [List.contains_iff_mem, List.mem_append, List.mem_filter, Bool.and_eq_true, Bool.not_eq_true'] at hd'
      rcases hd' with h | ⟨_, _, h⟩
      · unfold Loop.foOk at hfo
        rw [List.all_eq_true] at hfo
        have := hfo x hx
        rw [mem_eq] at this
        simp at this
        exact this h
      · rw [List.any_eq_false] at h
        exact h x hx (by simp)
    have hset : ∀ (m : List (Nat × List (Option Lf))) (u : OwnTy m) (own : Own), (∀ x ∈ m, x.1 ≠ d) → setOwn m u own d = own d := by
      intro m
      induction m with
      | nil => intro u own _; rfl
      | cons y m ih =>
        intro u own hm
        obtain ⟨e, c⟩ := y
        simp only [setOwn]
        rw [ih u.2 _ fun z hz => hm z (List.mem_cons_of_mem _ hz)]
        have : Nat.beq d e = false := by
          cases eb : Nat.beq d e
          · rfl
          · exact absurd (Nat.eq_of_beq_eq_true eb).symm (hm (e, c) List.mem_cons_self)
        rw [this]
        rfl
    show setOwn l.own u (fun d => bif mem d (l.freeze st names).fo then (l.freeze st names).own d else none) d = _
    rw [hset _ _ _ hnl, hd]
    rfl
end
end Go.Den

/-
  The readable weakest precondition (Den) is sound: code, functions.
-/
namespace Go.Den
set_option linter.unusedSectionVars false
set_option linter.unusedSimpArgs false
set_option linter.unusedVariables false
open Go
set_option linter.unusedVariables false
set_option linter.unusedSimpArgs false
section
variable [DF] {P : Program} {tb : List Row} {w₀ : World} {H₀ : HP} {Q : Ending → W} {hs : Hints}

/-- what a piece of code leaves, however it ends -/
def CPost (Q : Ending → W) (w₀ : World) (H₀ : HP) (st : St) (a : Act) (β : Nat → Nat) (k : Exit → St → W) : Exit → Act → World → Prop
  | .panic c, a', w' => a'.defers = DF.l ∧ (∀ i, okW st.fr i = false → a'.tmps.getD i undef = a.tmps.getD i undef) ∧ ∃ H', Up H₀ H' w₀ w' ∧ Q (.panicked c) H'
  | .outgrown, _, w' => ∃ H', Up H₀ H' w₀ w' ∧ Q .outgrown H'
  | e, a', w' => Post w₀ H₀ st a β (k e) a' w'

theorem CPost.trans {st st₁ : St} {a a₁ : Act} {β β₁ : Nat → Nat} {k : Exit → St → W} (h : Agr st st₁ a a₁ β β₁) {e : Exit} {a' : Act} {w' : World} (p : CPost Q w₀ H₀ st₁ a₁ β₁ k e a' w') :
    CPost Q w₀ H₀ st a β k e a' w' := by
  cases e with
  | panic c => exact ⟨p.1, fun i hi => (p.2.1 i (by rw [h.fr]; exact hi)).trans (h.tmps i hi), p.2.2⟩
  | outgrown => exact p
  | _ => exact Post.trans h p

theorem refine_sound {st : St} {a : Act} {w : World} {H : HP} {β : Nat → Nat} (inv : Inv w₀ H₀ st a w H β) {c : Operand} {b : Bool} (hc : st.ev c = .v (.bool b)) {κ : St → W}
    (h : st.refine c (.lit b) κ H) : ∃ st', Inv w₀ H₀ st' a w H β ∧ Agr st st' a a β β ∧ κ st' H := by
  unfold St.refine at h
  cases c with
  | tmp t =>
    simp only [setK_eq] at h
    have he : st.tm.getD t .junk = .v (.bool b) := by simpa [St.ev, getL_eq] using hc
    refine ⟨{ st with tm := st.tm.set t (.lit b) }, ⟨by simp [inv.size], fun i => ?_, inv.defers, inv.up, inv.own, inv.inj⟩, ⟨rfl, rfl, rfl, fun _ _ => rfl, fun i _ => ?_, fun _ _ _ _ _ => rfl, fun _ _ _ => ⟨rfl, rfl⟩⟩, h⟩
    · by_cases ht : t = i
      · subst ht
        have h1 := inv.tm t
        rw [he] at h1
        rcases Nat.lt_or_ge t st.tm.length with hl | hl
        · have : (st.tm.set t (.lit b)).getD t .junk = .lit b := by simp [List.getD, hl]
          simp only
          rw [this]
          exact h1
        · have : (st.tm.set t (.lit b)).getD t .junk = .junk := by simp [List.getD, hl]
          simp only
          rw [this]
          trivial
      · simp only
        rw [set_other ht]
        exact inv.tm i
    · by_cases ht : t = i
      · subst ht; exact .inr ⟨b, he⟩
      · exact .inl (set_other ht)
  | _ => exact ⟨st, inv, .rfl, h⟩

theorem back_inv {st st' : St} {a : Act} {w : World} {H : HP} {β : Nat → Nat} (inv : Inv w₀ H₀ st' a w H β) : Inv w₀ H₀ (st'.back st) a w H β := inv.free _ _

/-- CODE. -/
theorem codeW_sound (hm : P.follows .mixedOrders = true) (hb : TabOk P tb) : ∀ (c : Code) (blk : Nat) {st : St} {a : Act} {w : World} {H : HP} {β : Nat → Nat} {k : Exit → St → W},
    Inv w₀ H₀ st a w H β → codeW P tb Q hs blk c st k H → c.wp P (CPost Q w₀ H₀ st a β k) a w := by
  intro c
  induction c with
  | skip =>
    intro blk st a w H β k inv h
    exact wp_skip ⟨st, β, H, inv, .rfl, h⟩
  | region id ops draw =>
    intro blk st a w H β k inv h
    have hQp : ∀ c a' w' H', Up H₀ H' w₀ w' → Q (.panicked c) H' → a'.defers = DF.l → (∀ i, okW st.fr i = false → a'.tmps.getD i undef = a.tmps.getD i undef) → CPost Q w₀ H₀ st a β k (.panic c) a' w' := fun c a w' H' hu hq hd ht => ⟨hd, ht, H', hu, hq⟩
    have hQo : ∀ w' H', Up H₀ H' w₀ w' → Q .outgrown H' → LetsOut (CPost Q w₀ H₀ st a β k) := fun w' H' hu hq => ⟨a, w', H', hu, hq⟩
    cases draw
    · exact still_sound (Q := Q) (esc := hs.esc) hb hQp hQo inv (fun a' w' hp => hp) h
    · exact draw_sound (Q := Q) (esc := hs.esc) hm hb hQp hQo inv (fun a' w' hp => hp) h
  | seq x y ihx ihy =>
    intro blk st a w H β k inv h
    obtain ⟨Y, hX, h⟩ : ∃ Y, codeW P tb Q hs blk (.seq x y) st k = Y ∧ Y H := ⟨_, rfl, h⟩
    simp only [codeW] at hX
    apply wp_seq
    split at hX
    · subst hX
      refine wp_mono (ihx blk inv h) fun e a' w' hp => ?_
      cases e with
      | normal =>
        obtain ⟨st', β', H', inv', agr, hk⟩ := hp
        exact wp_mono (ihy blk inv' hk) fun e a'' w'' hp => hp.trans agr
      | _ => exact hp
    · rename_i l _
      generalize hc : (l.frOk st.fr && l.foOk st.fo) = cc at hX
      cases cc
      · subst hX
        exact h.elim
      · simp only [cond_true] at hX
        subst hX
        simp only [Bool.and_eq_true] at hc
        obtain ⟨J, hA, hB⟩ := h
        have invf : Inv w₀ H₀ (l.freeze st hs.names) a w H β := inv.free _ _
        refine wp_mono (ihx blk invf hA) fun e a' w' hp => ?_
        cases e with
        | normal =>
          obtain ⟨st', β', H', inv', agr, hk⟩ := hp
          simp only at hk
          cases hx : l.get st' with
          | some x =>
            rw [hx] at hk
            have hB' := hB x H' hk
            simp only [Loop.head_eq] at hB'
            obtain ⟨i2, agr2⟩ := head_inv hc.2 invf inv' agr hx
            have agr3 := unfreeze hc.1 agr2
            exact wp_mono (ihy blk (back_inv i2) hB') fun e a'' w'' hp => hp.trans agr3
          | none =>
            rw [hx] at hk
            exact hk.elim
        | panic => exact ⟨hp.1, fun i hi => hp.2.1 i (freeze_ok hc.1 hs.names hi), hp.2.2⟩
        | outgrown => exact hp
        | _ =>
          obtain ⟨st', β', H', inv', agr, hk⟩ := hp
          exact ⟨st'.back st, β', H', back_inv inv', unfreeze hc.1 agr, hk⟩
  | cond c x y ihx ihy =>
    intro blk st a w H β k inv h
    obtain ⟨Y, hX, h⟩ : ∃ Y, codeW P tb Q hs blk (.cond c x y) st k = Y ∧ Y H := ⟨_, rfl, h⟩
    simp only [codeW] at hX
    have hc := ev_rel inv c
    split at hX
    · rename_i t e
      subst hX
      rw [e] at hc
      refine wp_cond hc ?_
      cases t
      · exact ihy blk inv h
      · exact ihx blk inv h
    · rename_i t e
      subst hX
      rw [e] at hc
      refine wp_cond hc ?_
      cases t
      · obtain ⟨st', inv', agr, h'⟩ := refine_sound inv e (h.2 rfl)
        exact wp_mono (ihy blk inv' h') fun e a'' w'' hp => hp.trans agr
      · obtain ⟨st', inv', agr, h'⟩ := refine_sound inv e (h.1 rfl)
        exact wp_mono (ihx blk inv' h') fun e a'' w'' hp => hp.trans agr
    · subst hX
      exact h.elim
  | block id x ih =>
    intro blk st a w H β k inv h
    simp only [codeW] at h
    apply wp_block
    refine wp_mono (ih id inv h) fun e a' w' hp => ?_
    cases e with
    | exit j =>
      obtain ⟨st', β', H', inv', agr, hk⟩ := hp
      simp only [Exit.inBlock]
      simp only at hk
      cases e : Nat.beq j id <;> rw [e] at hk
      · rw [if_neg (Nat.ne_of_beq_eq_false e)]
        exact ⟨st', β', H', inv', agr, hk⟩
      · rw [if_pos (Nat.eq_of_beq_eq_true e)]
        exact ⟨st', β', H', inv', agr, hk⟩
    | _ => exact hp
  | loop x ih =>
    intro blk st a w H β k inv h
    obtain ⟨Y, hX, h⟩ : ∃ Y, codeW P tb Q hs blk (.loop x) st k = Y ∧ Y H := ⟨_, rfl, h⟩
    simp only [codeW] at hX
    split at hX
    · rename_i l _
      generalize hc : (l.frOk st.fr && l.foOk st.fo) = cc at hX
      cases cc
      · subst hX
        exact h.elim
      · simp only [Bool.and_eq_true] at hc
        simp only [cond_true] at hX
        split at hX
        · rename_i x₀ hx₀
          subst hX
          obtain ⟨I, μ, h0, hstep⟩ := h
          have invf : Inv w₀ H₀ (l.freeze st hs.names) a w H β := inv.free _ _
          have key : ∀ n, ∀ (st₁ : St) (a₁ : Act) (w₁ : World) (H₁ : HP) (β₁ : Nat → Nat) (x' : l.Ty), μ x' H₁ < n → Inv w₀ H₀ st₁ a₁ w₁ H₁ β₁ → l.get st₁ = some x' → I x' H₁ →
              Agr (l.freeze st hs.names) st₁ a a₁ β β₁ → Code.rounds P x (CPost Q w₀ H₀ st a β k) n a₁ w₁ := by
            intro n
            induction n with
            | zero => intro _ _ _ _ _ _ h; omega
            | succ n ihn =>
              intro st₁ a₁ w₁ H₁ β₁ x' hμ inv₁ hx' hI agr₁
              have hs' := hstep x' H₁ hI
              simp only [Loop.head_eq] at hs'
              obtain ⟨i2, agr2⟩ := head_inv hc.2 invf inv₁ agr₁ hx'
              rw [rounds_succ]
              refine wp_mono (ih blk i2 hs') fun e a' w' hp => ?_
              cases e with
              | normal =>
                obtain ⟨st', β', H', inv', agr, hk⟩ := hp
                simp only at hk
                cases hx : l.get st' with
                | some x'' =>
                  rw [hx] at hk
                  exact ihn st' a' w' H' β' x'' (by have := hk.2; omega) inv' hx hk.1 (agr2.trans agr)
                | none =>
                  rw [hx] at hk
                  exact hk.elim
              | panic => exact ⟨hp.1, fun i hi => (hp.2.1 i (by rw [agr2.fr]; exact freeze_ok hc.1 hs.names hi)).trans (agr2.tmps i (freeze_ok hc.1 hs.names hi)), hp.2.2⟩
              | outgrown => exact hp
              | _ =>
                obtain ⟨st', β', H', inv', agr, hk⟩ := hp
                exact ⟨st'.back st, β', H', back_inv inv', unfreeze hc.1 (agr2.trans agr), hk⟩
          exact wp_loop_rounds _ (key _ (l.freeze st hs.names) a w H β x₀ (Nat.lt_succ_self _) invf hx₀ h0 .rfl)
        · subst hX
          exact h.elim
    · subst hX
      exact h.elim
  | exit id =>
    intro blk st a w H β k inv h
    exact wp_exit ⟨st, β, H, inv, .rfl, h⟩
  | ret =>
    intro blk st a w H β k inv h
    exact wp_ret ⟨st, β, H, inv, .rfl, h⟩
  | _ =>
    intro blk st a w H β k inv h
    exact h.elim
end
end Go.Den

/-
  The readable weakest precondition (Den) is sound: functions.
-/
namespace Go.Den
set_option linter.unusedSectionVars false
set_option linter.unusedSimpArgs false
set_option linter.unusedVariables false
open Go
set_option linter.unusedVariables false
set_option linter.unusedSimpArgs false
section
variable {P : Program} {tb : List Row} {w w₀ : World} {H H₀ : HP} {β : Nat → Nat} {st : St} {a : Act} {Q : Ending → W} {hs : Hints}

/-- what one result is -/
def resOf (a : Act) : ResultVar → Sem Value
  | .tmp t => pure (a.tmps.getD t undef)
  | .cell ad t => do loadVar t (← asAddr (a.tmps.getD ad undef))

theorem results_eq (fn : Func) : results fn a.tmps = (do
    let vs ← fn.results.mapM (resOf a)
    pure (if h : vs.size = 1 then vs[0] else .tuple vs)) := by
  unfold results
  congr 2

theorem resV_run [DF] (hb : TabOk P tb) (inv : Inv w₀ H₀ st a w H β) {r : ResultVar} {v : Value} (h : resV tb st r = some v) :
    (resOf a r).run P w = .ok v w := by
  unfold resOf
  cases r with
  | tmp t =>
    simp only [resV, getL_eq] at h
    simp only [Sem.run_pure]
    rw [(inv.tm t).val h]
  | cell ad t =>
    simp only [resV, getL_eq] at h
    cases hk : known tb t <;> rw [hk] at h
    · cases h
    · simp only [Bool.not_true, cond_false] at h
      split at h
      · rename_i d off e
        have hx := inv.tm ad
        rw [e] at hx
        simp only [RelV] at hx
        split at h
        · rename_i s hs'
          obtain ⟨r, hr, rfl⟩ := loadOwn_run hb inv hk hs'
          cases h
          simp only [hx, asAddr, pure_bind]
          simpa [Instr.loadAt, Instr.sureAddr] using hr
        · cases h
      · cases h

theorem resVs_run [DF] (hb : TabOk P tb) (inv : Inv w₀ H₀ st a w H β) : ∀ (rs : List ResultVar) (vs : List Value), resVs tb st rs = some vs →
    (rs.mapM (resOf a)).run P w = .ok vs w
  | [], vs, h => by cases h; rfl
  | r :: rs, vs, h => by
    simp only [resVs] at h
    split at h
    · rename_i v vs' hv hvs
      cases h
      rw [List.mapM_cons]
      simp only [Sem.run_bind]
      rw [resV_run hb inv hv]
      simp only [Result.andThen_ok, Sem.run_bind]
      rw [resVs_run hb inv rs vs' hvs]
      rfl
    · cases h

theorem retW_run [DF] (hb : TabOk P tb) (inv : Inv w₀ H₀ st a w H β) {fn : Func} (h : retW tb Q fn st H) : ∃ v, (results fn a.tmps).run P w = .ok v w ∧ Q (.returned v) H := by
  have hm := resVs_run hb inv fn.results.toList
  rw [results_eq]
  rw [Array.mapM_eq_mapM_toList]
  unfold retW at h
  cases hv : resVs tb st fn.results.toList with
  | none => rw [hv] at h; exact h.elim
  | some vs =>
    rw [hv] at h
    have hm := hm vs hv
    have hrun : ∀ v, (if h : (⟨vs⟩ : Array Value).size = 1 then (⟨vs⟩ : Array Value)[0] else .tuple ⟨vs⟩) = v →
        ((do let vs ← List.toArray <$> List.mapM (resOf a) fn.results.toList; pure (if h : vs.size = 1 then vs[0] else .tuple vs) : Sem Value)).run P w = .ok v w := by
      intro v hv
      simp only [map_eq_pure_bind, bind_assoc, Sem.run_bind, hm, Result.andThen_ok, pure_bind, Sem.run_pure]
      rw [hv]
    rcases vs with _ | ⟨v, _ | ⟨v', vs⟩⟩
    · exact ⟨_, hrun _ rfl, h⟩
    · exact ⟨v, hrun v rfl, h⟩
    · exact ⟨_, hrun _ rfl, h⟩

theorem start_rel (args : List SV) (vs : List Value) (n : Nat) (h : allV args = some vs) (i : Nat) :
    RelV β ((startD args n).tm.getD i .junk) ((⟨vs⟩ ++ Array.replicate (n - vs.length) undef : Array Value).getD i undef) ∧ args.length = vs.length := by
  have key : ∀ (args : List SV) (vs : List Value) (m : Nat) (i : Nat), allV args = some vs → RelV β ((args ++ List.replicate m SV.junk).getD i SV.junk) ((vs ++ List.replicate m undef).getD i undef) ∧ args.length = vs.length := by
    intro args
    induction args with
    | nil =>
      intro vs m i h
      cases h
      refine ⟨?_, rfl⟩
      have : ((List.replicate m SV.junk).getD i .junk) = .junk := by
        simp only [List.getD_eq_getElem?_getD, List.getElem?_replicate]
        split <;> rfl
      simp only [List.nil_append]
      rw [this]
      trivial
    | cons x xs ih =>
      intro vs m i h
      simp only [allV] at h
      split at h
      · rename_i v vs' hv hvs
        cases h
        cases i with
        | zero =>
          obtain ⟨h1, h2⟩ := ih vs' m 0 hvs
          refine ⟨?_, by simp [h2]⟩
          simp only [List.cons_append, List.getD_cons_zero]
          cases x <;> simp [SV.val?] at hv <;> simp [RelV, hv]
        | succ i =>
          obtain ⟨h1, h2⟩ := ih vs' m i hvs
          refine ⟨?_, by simp [h2]⟩
          simpa using h1
      · cases h
  obtain ⟨h1, h2⟩ := key args vs (n - vs.length) i h
  refine ⟨?_, h2⟩
  have e : (⟨vs⟩ ++ Array.replicate (n - vs.length) undef : Array Value).getD i undef = (vs ++ List.replicate (n - vs.length) undef).getD i undef := by
    rw [Array.getD_eq_getD_getElem?, List.getD_eq_getElem?_getD, ← Array.getElem?_toList]
    simp
  rw [e]
  have e2 : (startD args n).tm = args ++ List.replicate (n - vs.length) .junk := by unfold startD; rw [h2]
  rw [e2]
  exact h1

/-- A FUNCTION. -/
theorem funW_sound (hm : P.follows .mixedOrders = true) (hb : TabOk P tb) {f : FuncId} {fn : Func} {c : Code} (hf : P.funcs[f]? = some fn) (hbody : fn.body = some c) (hn : (fn.name == "runtime.NumGoroutine") = false)
    {args : List SV} {vs : List Value} (ha : allV args = some vs) (h : funW P tb Q hs fn args H) : Spec P f ⟨vs⟩ H Q := by
  intro w on
  letI : DF := ⟨[]⟩
  refine .inl ⟨?_, ?_⟩
  · unfold callFunc
    have hn' : fn.name ≠ "runtime.NumGoroutine" := by simpa using hn
    simp [hf, hn', hbody]
  · refine calls_of_wp hf hbody ?_
    unfold funW at h
    rw [hbody] at h
    have inv : Inv w H (startD args fn.ntmps) { tmps := ⟨vs⟩ ++ Array.replicate (fn.ntmps - (⟨vs⟩ : Array Value).size) undef, defers := [] } w H (fun x => x) := by
      refine ⟨?_, fun i => (start_rel args vs fn.ntmps ha i).1, rfl, Up.refl on, fun d cs hd => (by cases hd), fun x y hx => absurd rfl hx⟩
      have := (start_rel (β := fun x => x) args vs fn.ntmps ha 0).2
      simp [startD, this]
    refine wp_mono (codeW_sound hm hb c 0 inv h) fun e a w' hp => ?_
    cases e with
    | normal =>
      obtain ⟨st', β', H', inv', agr, hk⟩ := hp
      obtain ⟨v, hr, hq⟩ := retW_run hb inv' hk
      exact ⟨inv'.defers, v, hr, H', inv'.up, hq⟩
    | ret =>
      obtain ⟨st', β', H', inv', agr, hk⟩ := hp
      obtain ⟨v, hr, hq⟩ := retW_run hb inv' hk
      exact ⟨inv'.defers, v, hr, H', inv'.up, hq⟩
    | panic c => exact ⟨hp.1, hp.2.2⟩
    | outgrown => exact hp
    | exit id =>
      obtain ⟨st', β', H', inv', agr, hk⟩ := hp
      exact hk.elim
    | goto l =>
      obtain ⟨st', β', H', inv', agr, hk⟩ := hp
      exact hk.elim
end
end Go.Den

