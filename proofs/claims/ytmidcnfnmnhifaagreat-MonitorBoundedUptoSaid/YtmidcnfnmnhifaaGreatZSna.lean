import Derived.Test.YtmidcnfnmnhifaaGreatZDen
import Derived.Laws.Cells
import Derived.Laws.Entries
import Derived.Laws.IdiomCopy
import Derived.ChangeKeysEq
import Derived.WideLaws
import Derived.Laws.Tables
import Derived.Great.BuildSlice
import Derived.Laws.CopyRow
/-
  The readable weakest precondition (Den) is sound: the ground: relations, tables, operations that only compute.
-/
namespace Go.Den
set_option linter.unusedSectionVars false
set_option linter.unusedSimpArgs false
set_option linter.unusedVariables false
open Go
set_option linter.unusedVariables false
set_option linter.unusedSimpArgs false

/-! ### Lists -/
theorem getL_eq {α : Type} (z : α) : ∀ (l : List α) (n : Nat), getL z l n = l.getD n z
  | [], _ => rfl
  | _ :: _, 0 => rfl
  | _ :: xs, n + 1 => by show getL z xs n = _; rw [getL_eq z xs n]; simp

theorem getO_eq {α : Type} : ∀ (l : List α) (n : Nat), getO l n = l[n]?
  | [], _ => rfl
  | _ :: _, 0 => rfl
  | _ :: xs, n + 1 => by show getO xs n = _; rw [getO_eq xs n]; simp

theorem setK_eq {α : Type} : ∀ (l : List SV) (n : Nat) (v : SV) (k : List SV → α), setK l n v k = k (l.set n v)
  | [], _, _, _ => rfl
  | _ :: _, 0, _, _ => rfl
  | x :: xs, n + 1, v, k => by show setK xs n v (fun l => k (x :: l)) = _; rw [setK_eq xs n v]; rfl

theorem mem_eq (d : Nat) : ∀ l : List Nat, mem d l = l.contains d
  | [] => rfl
  | x :: xs => by
    show cond (Nat.beq d x) true (mem d xs) = _
    rw [mem_eq d xs, List.contains_cons]
    cases h : Nat.beq d x
    · have : (d == x) = false := by simpa using Nat.ne_of_beq_eq_false h
      simp [this]
    · have : (d == x) = true := by simpa using Nat.eq_of_beq_eq_true h
      simp [this]

theorem beqN {a b : Nat} (h : Nat.beq a b = true) : a = b := Nat.eq_of_beq_eq_true h
theorem beqN' {a b : Nat} (h : Nat.beq a b = false) : a ≠ b := Nat.ne_of_beq_eq_false h

theorem normK_eq : ∀ (l : List SV) (k : List SV → W), normK l k = k l
  | [], _ => rfl
  | .v _ :: xs, k => by show normK xs _ = _; rw [normK_eq xs]
  | .lit _ :: xs, k => by show normK xs _ = _; rw [normK_eq xs]
  | .own _ _ :: xs, k => by show normK xs _ = _; rw [normK_eq xs]
  | .adr _ :: xs, k => by show normK xs _ = _; rw [normK_eq xs]
  | .junk :: xs, k => by show normK xs _ = _; rw [normK_eq xs]

/-! ### The relation between an evaluation's state and the machine's -/
def RelV (β : Nat → Nat) : SV → Value → Prop
  | .v x, y => y = x
  | .lit b, y => y = .bool b
  | .own d off, y => y = .pointer (some ⟨β d, off, none⟩)
  | .adr a, y => y = .pointer (some a)
  | .junk, _ => True

theorem RelV.val {β : Nat → Nat} {s : SV} {y x : Value} (h : RelV β s y) (hv : s.val? = some x) : y = x := by
  cases s <;> simp [SV.val?, RelV] at * <;> simp_all

theorem RelV.cells {β : Nat → Nat} {s : SV} {y : Value} {l : List Value} (h : RelV β s y) (hv : svCells s = some l) : y.cells.toList = l := by
  cases s <;> simp [svCells, RelV] at * <;> subst h <;> simp_all [Value.cells]

/-- the calls that are deferred meanwhile -/
class DF where
  l : List Deferred

instance (priority := low) : DF := ⟨[]⟩

structure Inv [DF] (w₀ : World) (H₀ : HP) (st : St) (a : Act) (w : World) (H : HP) (β : Nat → Nat) : Prop where
  size : a.tmps.size = st.tm.length
  tm : ∀ i, RelV β (st.tm.getD i .junk) (a.tmps.getD i undef)
  defers : a.defers = DF.l
  up : Up H₀ H w₀ w
  own : ∀ d cs, st.own d = some cs → ∃ vs e, w.heap[β d]? = some (.cells vs e) ∧ vs.size = cs.length ∧ (∀ (i : Nat) (c : Value), cs[i]? = some (some c) → vs[i]? = some c) ∧
    H (β d) = none ∧ w₀.heap.size ≤ β d
  inj : ∀ d d', st.own d ≠ none → st.own d' ≠ none → β d = β d' → d = d'

theorem ev_rel [DF] {w₀ : World} {H₀ : HP} {st : St} {a : Act} {w : World} {H : HP} {β : Nat → Nat} (inv : Inv w₀ H₀ st a w H β) (x : Operand) :
    RelV β (st.ev x) (a.eval x) := by
  cases x with
  | tmp t => have := inv.tm t; simp only [St.ev, getL_eq]; exact this
  | const v => cases v <;> simp [St.ev, RelV, Act.eval]
  | global g => simp [St.ev, RelV, Act.eval]
  | func f => simp [St.ev, RelV, Act.eval]

/-! ### Worlds -/
theorem Up.refl {H : HP} {w : World} (h : H.on w) : Up H H w w := ⟨h, rfl, rfl, rfl, Nat.le_refl _, fun _ _ _ => rfl, fun _ h => .inl h⟩

theorem HP.on.lt {H : HP} {w : World} (h : H.on w) {b : Nat} (hb : H b ≠ none) : b < w.heap.size := by
  cases e : H b with
  | none => exact absurd e hb
  | some o =>
    have := h b o e
    rcases Nat.lt_or_ge b w.heap.size with h' | h'
    · exact h'
    · simp [Array.getElem?_eq_none h'] at this

theorem Up.trans {H H₁ H₂ : HP} {w w₁ w₂ : World} (h : Up H H₁ w w₁) (k : Up H₁ H₂ w₁ w₂) : Up H H₂ w w₂ where
  on := k.on
  os := k.os.trans h.os
  tape := k.tape.trans h.tape
  output := k.output.trans h.output
  size := Nat.le_trans h.size k.size
  keep b hb hn := by
    have h1 : H₁ b = none := by
      cases e : H₁ b with
      | none => rfl
      | some o => rcases h.dom b (by simp [e]) with h' | h'
                  · exact absurd hn h'
                  · omega
    rw [k.keep b (Nat.lt_of_lt_of_le hb h.size) h1, h.keep b hb hn]
  dom b hb := by
    rcases k.dom b hb with h' | h'
    · exact h.dom b h'
    · exact .inr (Nat.le_trans h.size h')

theorem HP.on.cell {H : HP} {w : World} (h : H.on w) {a : Addr} {v : Value} (hv : H.cell? a = some v) : w.cell? a = some v := by
  unfold HP.cell? at hv
  unfold World.cell?
  cases e : H a.block with
  | none => simp [e] at hv
  | some o => rw [h _ _ e]; rw [e] at hv; exact hv

/-! ### The tables -/
def aggD (d : TypeDesc) : Bool :=
  match d with
  | .struct _ | .array .. => true
  | _ => false

def fieldD (P : Program) (f : Field) : Option (Nat × Nat × Bool) :=
  match P.info? f.type, P.underlying f.type with
  | some i, some d => some (f.offset, i.size, aggD d)
  | _, _ => none

def tdOf (P : Program) (d : TypeDesc) : Option TD :=
  match d with
  | .bool => some .bool
  | .int k => some (.int k)
  | .string => some .str
  | .pointer _ => some .ptr
  | .slice e => some (.slice e)
  | .map .. => some .map
  | .struct fs => (fs.toList.mapM (fieldD P)).map TD.struct
  | .array n e => (P.info? e).map fun i => .array n i.size
  | .interface _ => some .iface
  | .func .. => some .func
  | _ => none

def rowOf (P : Program) (t : TypeId) : Option (Nat × List Value × TD) :=
  match P.info? t, P.underlying t with
  | some i, some d => match i.zero, tdOf P d with
    | some z, some td => some (i.size, z.cells.toList, td)
    | _, _ => none
  | _, _ => none

def rowOk (P : Program) (r : Row) : Prop :=
  match r.td with
  | .other => True
  | td => rowOf P r.t = some (r.size, r.zero, td)

def TabOk (P : Program) (tb : List Row) : Prop := ∀ r ∈ tb, rowOk P r

theorem findT_mem (t : TypeId) : ∀ (l : List Row) (r : Row), findT t l = some r → r ∈ l ∧ r.t = t
  | [], _, h => by simp [findT] at h
  | x :: xs, r, h => by
    have h' : cond (Nat.beq x.t t) (some x) (findT t xs) = some r := h
    cases e : Nat.beq x.t t <;> rw [e] at h'
    · obtain ⟨h1, h2⟩ := findT_mem t xs r h'
      exact ⟨List.mem_cons_of_mem _ h1, h2⟩
    · simp at h'; subst h'; exact ⟨List.mem_cons_self, beqN e⟩

section
variable {P : Program} {tb : List Row}

/-- what a row that is not 'other' says of the program -/
theorem row_spec (hb : TabOk P tb) {t : TypeId} {r : Row} (h : findT t tb = some r) (hd : r.td ≠ .other) :
    ∃ i d z, P.info? t = some i ∧ P.underlying t = some d ∧ i.zero = some z ∧ z.cells.toList = r.zero ∧ i.size = r.size ∧ tdOf P d = some r.td := by
  obtain ⟨hm, ht⟩ := findT_mem t tb r h
  have := hb r hm
  unfold rowOk at this
  have h1 : rowOf P t = some (r.size, r.zero, r.td) := by
    subst ht
    cases e : r.td <;> simp_all
  unfold rowOf at h1
  split at h1
  · rename_i i d hi hu
    split at h1
    · rename_i z td hz htd
      simp at h1
      exact ⟨i, d, z, hi, hu, hz, h1.2.1, h1.1, by rw [htd, h1.2.2]⟩
    · simp at h1
  · simp at h1

theorem td_spec (hb : TabOk P tb) {t : TypeId} {td : TD} (h : tdD tb t = td) (hd : td ≠ .other) :
    ∃ i d z r, findT t tb = some r ∧ P.info? t = some i ∧ P.underlying t = some d ∧ i.zero = some z ∧ z.cells.toList = r.zero ∧ i.size = r.size ∧ tdOf P d = some td := by
  unfold tdD at h
  cases e : findT t tb with
  | none => simp [e] at h; exact absurd h.symm hd
  | some r =>
    simp [e] at h
    subst h
    obtain ⟨i, d, z, h1, h2, h3, h4, h5, h6⟩ := row_spec hb e hd
    exact ⟨i, d, z, r, rfl, h1, h2, h3, h4, h5, h6⟩

theorem known_spec (hb : TabOk P tb) {t : TypeId} (h : known tb t = true) :
    ∃ i d z r, findT t tb = some r ∧ P.info? t = some i ∧ P.underlying t = some d ∧ i.zero = some z ∧ z.cells.toList = r.zero ∧ i.size = r.size ∧ tdOf P d = some r.td ∧
      sizeD tb t = i.size ∧ zeroD tb t = some z.cells.toList ∧ tdD tb t = r.td := by
  unfold known at h
  cases e : findT t tb with
  | none => simp [e] at h
  | some r =>
    have hd : r.td ≠ .other := by intro h'; simp [e, h'] at h
    obtain ⟨i, d, z, h1, h2, h3, h4, h5, h6⟩ := row_spec hb e hd
    exact ⟨i, d, z, r, rfl, h1, h2, h3, h4, h5, h6, by simp [sizeD, e, h5], by simp [zeroD, e, h4], by simp [tdD, e]⟩
end
end Go.Den

/-
  The readable weakest precondition (Den) is sound: operations that only compute.
-/
namespace Go.Den
set_option linter.unusedSectionVars false
set_option linter.unusedSimpArgs false
set_option linter.unusedVariables false
open Go
set_option linter.unusedVariables false
set_option linter.unusedSimpArgs false
section
variable {P : Program} {tb : List Row} {β : Nat → Nat} {w : World}

theorem run_binInt {op : BinOp} {k : IntKind} {a b : Int} {r : Value} {t : TypeId} (h : intD op k a b = some r) :
    (binOp op t (.int k a) (.int k b)).run P w = .ok r w := by
  cases op <;> simp [intD, bitsD] at h <;> subst h <;> simp [binOp, Op.intArith, Op.intCmp, Op.intBits]

theorem run_binStr {op : BinOp} {a b : ByteArray} {r : Bool} {t : TypeId} (h : strD op a b = some r) :
    (binOp op t (.string a) (.string b)).run P w = .ok (.bool r) w := by
  cases op <;> first
    | (simp [strD] at h; done)
    | (obtain rfl := Option.some.inj h; simp [binOp, Op.stringOp])

theorem run_eqGuard {op : BinOp} {t : TypeId} {ox oy : Operand} {x y : Value} (hx : ∀ c, x ≠ .agg c) (hn : x ≠ .nilIface) :
    (eqGuard op t ox oy x y).run P w = .ok () w := by
  unfold eqGuard
  cases op <;> cases x <;> simp_all <;> cases y <;> simp

theorem tdOf_ptr {d : TypeDesc} (h : tdOf P d = some .ptr) : ∃ e, d = .pointer e := by
  cases d <;> simp [tdOf] at h <;> exact ⟨_, rfl⟩
theorem tdOf_slice {d : TypeDesc} {e : TypeId} (h : tdOf P d = some (.slice e)) : d = .slice e := by
  cases d <;> simp [tdOf] at h <;> simp [h]
theorem tdOf_map {d : TypeDesc} (h : tdOf P d = some .map) : ∃ k e, d = .map k e := by
  cases d <;> simp [tdOf] at h <;> exact ⟨_, _, rfl⟩
theorem tdOf_bool {d : TypeDesc} (h : tdOf P d = some .bool) : d = .bool := by
  cases d <;> simp [tdOf] at h <;> rfl
theorem tdOf_str {d : TypeDesc} (h : tdOf P d = some .str) : d = .string := by
  cases d <;> simp [tdOf] at h <;> rfl
theorem tdOf_int {d : TypeDesc} {k : IntKind} (h : tdOf P d = some (.int k)) : d = .int k := by
  cases d <;> simp [tdOf] at h <;> simp [h]
theorem tdOf_array {d : TypeDesc} {n sz : Nat} (h : tdOf P d = some (.array n sz)) : ∃ e i, d = .array n e ∧ P.info? e = some i ∧ i.size = sz := by
  cases d <;> simp [tdOf] at h
  obtain ⟨i, h1, h2, h3⟩ := h
  exact ⟨_, i, by simp [h2], h1, h3⟩
theorem fieldD_spec {f : Field} {off size : Nat} {agg : Bool} (h : fieldD P f = some (off, size, agg)) :
    ∃ j d, f.offset = off ∧ P.info? f.type = some j ∧ j.size = size ∧ P.underlying f.type = some d ∧ aggD d = agg := by
  unfold fieldD at h
  split at h
  · rename_i i d h1 h2
    simp at h
    exact ⟨i, d, h.1, h1, h.2.1, h2, h.2.2⟩
  · simp at h

theorem mapM_get {α γ : Type} (f : α → Option γ) : ∀ (l : List α) (r : List γ), l.mapM f = some r → ∀ (i : Nat) y, r[i]? = some y → ∃ x, l[i]? = some x ∧ f x = some y
  | [], r, hr, i, y, hi => by simp at hr; subst hr; simp at hi
  | x :: l, r, hr, i, y, hi => by
    rw [List.mapM_cons] at hr
    cases hf : f x with
    | none => simp [hf] at hr
    | some z =>
      cases hm : l.mapM f with
      | none => simp [hf, hm] at hr
      | some r' =>
        simp [hf, hm] at hr
        subst hr
        cases i with
        | zero => simp at hi; subst hi; exact ⟨x, by simp, hf⟩
        | succ i => simp at hi; obtain ⟨x', h1, h2⟩ := mapM_get f l r' hm i y hi; exact ⟨x', by simpa using h1, h2⟩

theorem mapM_all {α γ : Type} (f : α → Option γ) : ∀ (l : List α) (r : List γ), l.mapM f = some r → ∀ x ∈ l, f x ≠ none
  | [], _, _, x, hx => by simp at hx
  | y :: l, r, hr, x, hx => by
    rw [List.mapM_cons] at hr
    cases hf : f y with
    | none => simp [hf] at hr
    | some z =>
      cases hm : l.mapM f with
      | none => simp [hf, hm] at hr
      | some r' =>
        rcases List.mem_cons.1 hx with rfl | hx
        · simp [hf]
        · exact mapM_all f l r' hm x hx

theorem mapM_some {α γ : Type} (f : α → Option γ) : ∀ (l : List α), (∀ x ∈ l, f x ≠ none) → ∃ r, l.mapM f = some r
  | [], _ => ⟨[], rfl⟩
  | y :: l, h => by
    obtain ⟨r, hr⟩ := mapM_some f l fun x hx => h x (by simp [hx])
    cases hf : f y with
    | none => exact absurd hf (h y (by simp))
    | some z => exact ⟨z :: r, by rw [List.mapM_cons]; simp [hf, hr]⟩

theorem mapM_at {α γ : Type} (f : α → Option γ) : ∀ (l : List α) (r : List γ), l.mapM f = some r → ∀ (i : Nat) x, l[i]? = some x → r[i]? = f x
  | [], r, hr, i, x, hi => by simp at hi
  | y :: l, r, hr, i, x, hi => by
    rw [List.mapM_cons] at hr
    cases hf : f y with
    | none => simp [hf] at hr
    | some z =>
      cases hm : l.mapM f with
      | none => simp [hf, hm] at hr
      | some r' =>
        simp [hf, hm] at hr
        subst hr
        cases i with
        | zero => simp at hi; subst hi; simp [hf]
        | succ i => simp at hi ⊢; exact mapM_at f l r' hm i x hi

theorem tdOf_struct {d : TypeDesc} {fs : List (Nat × Nat × Bool)} (h : tdOf P d = some (.struct fs)) : ∃ a : Array Field, d = .struct a ∧ a.toList.mapM (fieldD P) = some fs := by
  cases d <;> simp [tdOf] at h
  exact ⟨_, rfl, by simpa using h⟩

theorem run_eql_ptr {t e : TypeId} {p : Option Addr} (h : P.underlying t = some (.pointer e)) :
    (Op.equal t (.pointer p) (.pointer none)).run P w = .ok p.isNone w := by
  unfold Op.equal
  rw [show Op.maxDepth = 9999 + 1 from rfl]
  generalize 9999 = dp
  cases p <;> simp [Op.equalIn, run_underlying h]
theorem run_eql_slice {t e : TypeId} {a : Option Addr} {n c : Nat} (h : P.underlying t = some (.slice e)) :
    (Op.equal t (.slice a n c) (.slice none 0 0)).run P w = .ok a.isNone w := by
  unfold Op.equal
  rw [show Op.maxDepth = 9999 + 1 from rfl]
  generalize 9999 = dp
  cases a <;> simp [Op.equalIn, run_underlying h]
theorem run_eql_slice' {t e : TypeId} {a : Option Addr} {n c n' c' : Nat} (h : P.underlying t = some (.slice e)) :
    (Op.equal t (.slice a n c) (.slice none n' c')).run P w = .ok a.isNone w := by
  unfold Op.equal
  rw [show Op.maxDepth = 9999 + 1 from rfl]
  generalize 9999 = dp
  cases a <;> simp [Op.equalIn, run_underlying h]
theorem run_eql_map {t k e : TypeId} {r : Option Nat} (h : P.underlying t = some (.map k e)) :
    (Op.equal t (.map r) (.map none)).run P w = .ok r.isNone w := by
  unfold Op.equal
  rw [show Op.maxDepth = 9999 + 1 from rfl]
  generalize 9999 = dp
  cases r <;> simp [Op.equalIn, run_underlying h]
theorem run_eql_bool {t : TypeId} {a b : Bool} (h : P.underlying t = some .bool) :
    (Op.equal t (.bool a) (.bool b)).run P w = .ok (a == b) w := by
  unfold Op.equal
  rw [show Op.maxDepth = 9999 + 1 from rfl]
  generalize 9999 = dp
  simp [Op.equalIn, run_underlying h]

theorem eqOp_run {op : BinOp} {b r : Bool} {t : TypeId} {x y : Value} (h : eqOp op b = some r) (hr : (Op.equal t x y).run P w = .ok b w)
    (hx : (∃ p, x = .pointer p) ∧ (∃ p, y = .pointer p) ∨ (∃ a n c, x = .slice a n c) ∨ (∃ r, x = .map r) ∨ (∃ a, x = .bool a)) :
    (binOp op t x y).run P w = .ok (.bool r) w := by
  rcases hx with ⟨⟨p, rfl⟩, ⟨q, rfl⟩⟩ | ⟨a, n, c, rfl⟩ | ⟨r, rfl⟩ | ⟨a, rfl⟩ <;> cases op <;> simp [eqOp] at h <;> subst h <;> simp [binOp, hr]

theorem binV_sound (hb : TabOk P tb) {op : BinOp} {t : TypeId} {ox oy : Operand} {x y v : SV} {x' y' : Value} (hx : RelV β x x') (hy : RelV β y y') (h : binV tb op t x y = some v) :
    ∃ r, ((do eqGuard op t ox oy x' y'; binOp op t x' y') : Sem Value).run P w = .ok r w ∧ RelV β v r := by
  unfold binV at h
  split at h
  · rename_i k a k' b
    simp only [RelV] at hx hy; subst hx hy
    rw [Sem.run_bind, run_eqGuard (by simp) (by simp), Result.andThen_ok]
    cases e : kindEq k k' <;> rw [e] at h
    · simp at h
    · have : k = k' := of_decide_eq_true e
      subst this
      simp only [cond_true] at h
      split at h
      · rename_i r hr; simp at h; subst h; exact ⟨r, run_binInt hr, rfl⟩
      · simp at h
  · rename_i a b
    simp only [RelV] at hx hy; subst hx hy
    rw [Sem.run_bind, run_eqGuard (by simp) (by simp), Result.andThen_ok]
    split at h
    · rename_i r hr; simp at h; subst h; exact ⟨.bool r, run_binStr hr, rfl⟩
    · simp at h
  · rename_i p
    simp only [RelV] at hx hy; subst hx hy
    rw [Sem.run_bind, run_eqGuard (by simp) (by simp), Result.andThen_ok]
    unfold nilD at h
    cases e : ptrT tb t <;> rw [e] at h
    · simp at h
    · simp only [cond_true] at h
      split at h
      · rename_i r hr
        simp at h; subst h
        have ht : tdD tb t = .ptr := by unfold ptrT at e; split at e <;> simp_all
        obtain ⟨i, d, z, _, _, _, hu, _, _, _, hd⟩ := td_spec hb ht (by simp)
        obtain ⟨el, rfl⟩ := tdOf_ptr hd
        exact ⟨_, eqOp_run hr (run_eql_ptr hu) (.inl ⟨⟨_, rfl⟩, ⟨_, rfl⟩⟩), rfl⟩
      · simp at h
  · rename_i d' off
    simp only [RelV] at hx hy; subst hx hy
    rw [Sem.run_bind, run_eqGuard (by simp) (by simp), Result.andThen_ok]
    cases e : ptrT tb t <;> rw [e] at h
    · simp at h
    · simp only [cond_true] at h
      have ht : tdD tb t = .ptr := by unfold ptrT at e; split at e <;> simp_all
      obtain ⟨i, d, z, _, _, _, hu, _, _, _, hd⟩ := td_spec hb ht (by simp)
      obtain ⟨el, rfl⟩ := tdOf_ptr hd
      have h1 := run_eql_ptr (P := P) (w := w) (p := some ⟨β d', off, none⟩) hu
      split at h <;> simp at h <;> subst h
      · exact ⟨_, eqOp_run (op := .eql) (r := false) rfl h1 (.inl ⟨⟨_, rfl⟩, ⟨_, rfl⟩⟩), rfl⟩
      · exact ⟨_, eqOp_run (op := .neq) (r := true) rfl h1 (.inl ⟨⟨_, rfl⟩, ⟨_, rfl⟩⟩), rfl⟩
  · rename_i ad
    simp only [RelV] at hx hy; subst hx hy
    rw [Sem.run_bind, run_eqGuard (by simp) (by simp), Result.andThen_ok]
    cases e : ptrT tb t <;> rw [e] at h
    · simp at h
    · simp only [cond_true] at h
      have ht : tdD tb t = .ptr := by unfold ptrT at e; split at e <;> simp_all
      obtain ⟨i, d, z, _, _, _, hu, _, _, _, hd⟩ := td_spec hb ht (by simp)
      obtain ⟨el, rfl⟩ := tdOf_ptr hd
      have h1 := run_eql_ptr (P := P) (w := w) (p := some ad) hu
      split at h <;> simp at h <;> subst h
      · exact ⟨_, eqOp_run (op := .eql) (r := false) rfl h1 (.inl ⟨⟨_, rfl⟩, ⟨_, rfl⟩⟩), rfl⟩
      · exact ⟨_, eqOp_run (op := .neq) (r := true) rfl h1 (.inl ⟨⟨_, rfl⟩, ⟨_, rfl⟩⟩), rfl⟩
  · rename_i a n c n' c'
    simp only [RelV] at hx hy; subst hx hy
    rw [Sem.run_bind, run_eqGuard (by simp) (by simp), Result.andThen_ok]
    unfold nilD at h
    cases e : sliceT tb t <;> rw [e] at h
    · simp at h
    · simp only [cond_true] at h
      split at h
      · rename_i r hr
        simp at h; subst h
        obtain ⟨el, ht⟩ : ∃ el, tdD tb t = .slice el := by unfold sliceT at e; split at e <;> simp_all
        obtain ⟨i, d, z, _, _, _, hu, _, _, _, hd⟩ := td_spec hb ht (by simp)
        rw [tdOf_slice hd] at hu
        exact ⟨_, eqOp_run hr (run_eql_slice' hu) (.inr (.inl ⟨_, _, _, rfl⟩)), rfl⟩
      · simp at h
  · rename_i r0
    simp only [RelV] at hx hy; subst hx hy
    rw [Sem.run_bind, run_eqGuard (by simp) (by simp), Result.andThen_ok]
    unfold nilD at h
    cases e : mapT tb t <;> rw [e] at h
    · simp at h
    · simp only [cond_true] at h
      split at h
      · rename_i r hr
        simp at h; subst h
        have ht : tdD tb t = .map := by unfold mapT at e; split at e <;> simp_all
        obtain ⟨i, d, z, _, _, _, hu, _, _, _, hd⟩ := td_spec hb ht (by simp)
        obtain ⟨k, el, rfl⟩ := tdOf_map hd
        exact ⟨_, eqOp_run hr (run_eql_map hu) (.inr (.inr (.inl ⟨_, rfl⟩))), rfl⟩
      · simp at h
  · rename_i a b
    simp only [RelV] at hx hy; subst hx hy
    rw [Sem.run_bind, run_eqGuard (by simp) (by simp), Result.andThen_ok]
    unfold nilD at h
    cases e : boolT tb t <;> rw [e] at h
    · simp at h
    · simp only [cond_true] at h
      split at h
      · rename_i r hr
        simp at h; subst h
        have ht : tdD tb t = .bool := by unfold boolT at e; split at e <;> simp_all
        obtain ⟨i, d, z, _, _, _, hu, _, _, _, hd⟩ := td_spec hb ht (by simp)
        rw [tdOf_bool hd] at hu
        exact ⟨_, eqOp_run hr (run_eql_bool hu) (.inr (.inr (.inr ⟨_, rfl⟩))), rfl⟩
      · simp at h
  · simp at h
end
end Go.Den

/-
  The readable weakest precondition (Den) is sound: operations that only compute, all of them; those under a condition.
-/
namespace Go.Den
set_option linter.unusedSectionVars false
set_option linter.unusedSimpArgs false
set_option linter.unusedVariables false
open Go
set_option linter.unusedVariables false
set_option linter.unusedSimpArgs false
section
variable {P : Program} {tb : List Row} {β : Nat → Nat} {w : World}

/-! ### Filling cells -/
theorem foldl_write (off : Nat) : ∀ (l : List Value) (k : Nat) (cells : Array Value), off + k + l.length ≤ cells.size →
    ((l.zipIdx k).foldl (fun (cs : Array Value) (p : Value × Nat) => cs.setIfInBounds (off + p.2) p.1) cells).toList = writeL cells.toList (off + k) l
  | [], k, cells, h => by simp [writeL]
  | c :: l, k, cells, h => by
    simp only [List.length_cons] at h
    have h' := foldl_write off l (k + 1) (cells.setIfInBounds (off + k) c) (by simp; omega)
    simp only [List.zipIdx_cons, List.foldl_cons]
    rw [h']
    unfold writeL
    have hk : off + k < cells.toList.length := by simp; omega
    simp only [Array.toList_setIfInBounds, List.length_cons]
    rw [show off + (k + 1) = off + k + 1 from by omega, List.take_set, List.drop_set, if_pos (by omega)]
    rw [List.take_succ_eq_append_getElem hk]
    rw [show off + k + 1 + l.length = off + k + (l.length + 1) from by omega]
    congr 1
    have : (List.take (off + k) cells.toList ++ [cells.toList[off + k]]).set (off + k) c = List.take (off + k) cells.toList ++ [c] := by
      rw [List.set_append]
      have hl : (List.take (off + k) cells.toList).length = off + k := by simp at hk ⊢; omega
      rw [hl, if_neg (by omega)]
      simp
    rw [this]
    simp

theorem foldl_writeA (off : Nat) (v : Array Value) (cells : Array Value) (h : off + v.size ≤ cells.size) :
    (v.zipIdx.foldl (fun (cs : Array Value) (p : Value × Nat) => cs.setIfInBounds (off + p.2) p.1) cells).toList = writeL cells.toList off v.toList := by
  rw [← Array.foldl_toList, Array.toList_zipIdx, foldl_write off v.toList 0 cells (by simpa using h)]
  simp

theorem fill_sound (place : Nat → Option (Nat × Nat)) : ∀ (parts : List (Nat × SV)) (parts' : List (Nat × Value)) (cells : Array Value) (cs : List Value),
    parts.length = parts'.length → (∀ (i : Nat) p q, parts[i]? = some p → parts'[i]? = some q → p.1 = q.1 ∧ RelV β p.2 q.2) →
    fillL place cells.toList parts = some cs → ∃ r, Instr.fill place cells parts' = some r ∧ r.toList = cs
  | [], parts', cells, cs, hl, _, h => by
    have : parts' = [] := by cases parts' <;> simp_all
    subst this
    simp [fillL] at h
    exact ⟨cells, rfl, h⟩
  | (i, x) :: rest, parts', cells, cs, hl, hr, h => by
    cases parts' with
    | nil => simp at hl
    | cons q rest' =>
      obtain ⟨hq, hx⟩ := hr 0 _ _ rfl rfl
      obtain ⟨i', x'⟩ := q
      simp only at hq hx
      subst hq
      unfold fillL at h
      split at h
      · rename_i off size vs hp hv
        cases e : (vs.length.beq size && Nat.ble (off + size) cells.toList.length) <;> rw [e] at h
        · simp at h
        · simp only [cond_true] at h
          simp only [Bool.and_eq_true] at e
          have e1 := Nat.eq_of_beq_eq_true e.1
          have e2 : off + size ≤ cells.toList.length := Nat.le_of_ble_eq_true e.2
          have hc := hx.cells hv
          have hsz : x'.cells.size = size := by rw [← e1, ← hc]; simp
          unfold Instr.fill
          simp only [hp]
          rw [if_neg (by simp [hsz]; simpa using e2)]
          have hw := foldl_writeA off x'.cells cells (by rw [hsz]; simpa using e2)
          refine fill_sound place rest rest' _ cs (by simpa using hl) (fun j p q h1 h2 => hr (j + 1) p q (by simpa using h1) (by simpa using h2)) ?_
          rw [hw, hc]
          exact h
      · simp at h

theorem fill_congr {f g : Nat → Option (Nat × Nat)} : ∀ (parts : List (Nat × Value)) (cells : Array Value), (∀ p ∈ parts, f p.1 = g p.1) → Instr.fill f cells parts = Instr.fill g cells parts
  | [], _, _ => rfl
  | (i, v) :: rest, cells, h => by
    unfold Instr.fill
    rw [h (i, v) (by simp)]
    cases g (i, v).1 with
    | none => rfl
    | some p =>
      simp only
      split
      · rfl
      · exact fill_congr rest _ fun p hp => h p (by simp [hp])

theorem fillL_places (place : Nat → Option (Nat × Nat)) : ∀ (parts : List (Nat × SV)) (cells cs : List Value), fillL place cells parts = some cs → ∀ p ∈ parts, place p.1 ≠ none
  | [], _, _, _, p, hp => by simp at hp
  | (i, x) :: rest, cells, cs, h, p, hp => by
    unfold fillL at h
    split at h
    · rename_i off size vs hpl hv
      rcases List.mem_cons.1 hp with rfl | hp
      · simp [hpl]
      · cases e : (vs.length.beq size && Nat.ble (off + size) cells.length) <;> rw [e] at h
        · simp at h
        · exact fillL_places place rest _ _ h p hp
    · simp at h

variable {ρ : Operand → SV} {ρ' : Operand → Value}

theorem buildV_sound (hb : TabOk P tb) (hρ : ∀ x, RelV β (ρ x) (ρ' x)) {t : TypeId} {parts : Array (Nat × Operand)} {v : SV}
    (h : buildV tb t (parts.toList.map fun p => (p.1, ρ p.2)) = some v) :
    ∃ r, (Instr.build t (parts.map fun (i, x) => (i, ρ' x))).run P w = .ok r w ∧ RelV β v r := by
  have hparts : (parts.map fun (i, x) => (i, ρ' x)).toList = parts.toList.map fun p => (p.1, ρ' p.2) := by simp
  have hrel : ∀ (i : Nat) p q, (parts.toList.map fun p => (p.1, ρ p.2))[i]? = some p → (parts.toList.map fun p => (p.1, ρ' p.2))[i]? = some q → p.1 = q.1 ∧ RelV β p.2 q.2 := by
    intro i p q h1 h2
    rw [List.getElem?_map] at h1 h2
    cases e : parts.toList[i]? with
    | none => simp [e] at h1
    | some z => simp [e] at h1 h2; subst h1 h2; exact ⟨rfl, hρ _⟩
  unfold buildV at h
  split at h
  · rename_i fs z htd hz
    obtain ⟨i, d, z', r, hf, hi, hu, hz', hzl, hs, hd⟩ := td_spec hb htd (by simp)
    obtain ⟨fa, rfl, hfs⟩ := tdOf_struct hd
    have hzz : z = z'.cells.toList := by unfold zeroD at hz; rw [hf] at hz; simp at hz; rw [← hz, hzl]
    split at h
    · rename_i cs hfill
      simp at h; subst h
      obtain ⟨places, hpl⟩ := mapM_some (fun (f : Field) => (P.info? f.type).map fun i => (f.offset, i.size)) fa.toList fun x hx hn => by
        have h1 := mapM_all _ _ _ hfs x hx
        cases hi' : P.info? x.type with
        | none => exact h1 (by unfold fieldD; rw [hi'])
        | some j => rw [hi'] at hn; simp at hn
      obtain ⟨rr, hr1, hr2⟩ := fill_sound (β := β) _ _ (parts.toList.map fun p => (p.1, ρ' p.2)) z'.cells cs (by simp) hrel (hzz ▸ hfill)
      refine ⟨.agg rr, run_build w t _ rr ?_, ?_⟩
      · unfold Program.built
        simp only [hi, hu, hz', hpl, hparts]
        rw [← hr1]
        refine fill_congr _ _ fun p hp => ?_
        obtain ⟨q, hq, rfl⟩ := List.mem_map.1 hp
        have hne' := fillL_places _ _ _ _ hfill (q.1, ρ q.2) (List.mem_map.2 ⟨q, hq, rfl⟩)
        simp only [getO_eq] at hne' ⊢
        cases e : fs[q.1]? with
        | none => simp [e] at hne'
        | some x =>
          obtain ⟨off, size, agg⟩ := x
          obtain ⟨f, h1, h2⟩ := mapM_get _ _ _ hfs q.1 _ e
          obtain ⟨j, d, h3, h4, h5, h6, h7⟩ := fieldD_spec h2
          have := mapM_at _ _ _ hpl q.1 f h1
          simp [this, h3, h4, h5]
      · simp [RelV, ← hr2]
    · simp at h
  · rename_i n sz z htd hz
    obtain ⟨i, d, z', r, hf, hi, hu, hz', hzl, hs, hd⟩ := td_spec hb htd (by simp)
    obtain ⟨e, ie, rfl, hie, hsz⟩ := tdOf_array hd
    have hzz : z = z'.cells.toList := by unfold zeroD at hz; rw [hf] at hz; simp at hz; rw [← hz, hzl]
    split at h
    · rename_i cs hfill
      simp at h; subst h
      obtain ⟨rr, hr1, hr2⟩ := fill_sound (β := β) _ _ (parts.toList.map fun p => (p.1, ρ' p.2)) z'.cells cs (by simp) hrel (hzz ▸ hfill)
      refine ⟨.agg rr, run_build w t _ rr ?_, by simp [RelV, ← hr2]⟩
      unfold Program.built
      simp only [hi, hu, hz', hie, hparts, hsz]
      exact hr1
    · simp at h
  · simp at h
end
end Go.Den
#print axioms Go.Den.buildV_sound

/-
  The readable weakest precondition (Den) is sound: operations that only compute, all of them; those under a condition.
-/
namespace Go.Den
set_option linter.unusedSectionVars false
set_option linter.unusedSimpArgs false
set_option linter.unusedVariables false
open Go
set_option linter.unusedVariables false
set_option linter.unusedSimpArgs false
section
variable {P : Program} {tb : List Row} {β : Nat → Nat} {w : World}

theorem unV_sound {op : UnOp} {x v : SV} {x' : Value} (hx : RelV β x x') (h : unV op x = some v) :
    ∃ r, (Op.unary op x').run P w = .ok r w ∧ RelV β v r := by
  unfold unV at h
  split at h
  · simp only [RelV] at hx; subst hx; simp at h; subst h; exact ⟨_, rfl, rfl⟩
  · simp only [RelV] at hx; subst hx; simp at h; subst h; exact ⟨_, rfl, rfl⟩
  · simp only [RelV] at hx; subst hx; cases h; exact ⟨_, rfl, rfl⟩
  · simp at h

theorem convV_sound (hb : TabOk P tb) {s d : TypeId} {x v : SV} {x' : Value} (hx : RelV β x x') (h : convV tb s d x = some v) :
    ∃ r, (convert s d x').run P w = .ok r w ∧ RelV β v r := by
  unfold convV at h
  split at h
  · simp at h
  · rename_i k k' n hs hne
    simp only [RelV] at hx; subst hx
    simp at h; subst h
    obtain ⟨_, ds, _, _, _, _, hus, _⟩ := td_spec hb rfl hne
    obtain ⟨_, dd, _, _, _, _, hud, _, _, _, hd'⟩ := td_spec hb hs (by simp)
    rw [tdOf_int hd'] at hud
    refine ⟨.int k (k.wrap n), ?_, rfl⟩
    simp only [convert, Sem.run_bind, run_underlying hus, run_underlying hud, Result.andThen_ok]
    simp [Conv.intToInt]
  · rename_i s' hs hne
    simp only [RelV] at hx; subst hx
    simp at h; subst h
    obtain ⟨_, ds, _, _, _, _, hus, _⟩ := td_spec hb rfl hne
    obtain ⟨_, dd, _, _, _, _, hud, _, _, _, hd'⟩ := td_spec hb hs (by simp)
    rw [tdOf_str hd'] at hud
    refine ⟨.string s', ?_, rfl⟩
    simp only [convert, Sem.run_bind, run_underlying hus, run_underlying hud, Result.andThen_ok]
    rfl
  · simp at h

theorem pickV_sound {c a b v : SV} {c' a' b' : Value} (hc : RelV β c c') (ha : RelV β a a') (hb : RelV β b b') (h : pickV c a b = some v) :
    ∃ r, ((do pure (.value (if ← asBool c' then a' else b')) : Sem Next)).run P w = .ok (.value r) w ∧ RelV β v r := by
  unfold pickV at h
  split at h
  · rename_i t
    simp only [RelV] at hc; subst hc
    simp at h; subst h
    cases t
    · exact ⟨b', by simp [asBool], hb⟩
    · exact ⟨a', by simp [asBool], ha⟩
  · simp at h

theorem isAgg_run {t : TypeId} {d : TypeDesc} (h : P.underlying t = some d) : (isAgg t).run P w = .ok (aggD d) w := by
  simp only [isAgg, Sem.run_bind, run_underlying h, Result.andThen_ok]
  cases d <;> rfl

theorem sizeOf_run {t : TypeId} {i : TypeInfo} (h : P.info? t = some i) : (sizeOf t).run P w = .ok i.size w := by
  simp [sizeOf, typeInfo, h]

theorem fieldOff_sound (hb : TabOk P tb) {s : TypeId} {f n : Nat} (h : fieldOff tb s f = some n) (a : Addr) :
    (Instr.fieldAt s (.pointer (some a)) f).run P w = .ok (.pointer (some (a.add n))) w := by
  unfold fieldOff at h
  split at h
  · rename_i fs htd
    obtain ⟨i, d, z', r, hf, hi, hu, hz', hzl, hs, hd⟩ := td_spec hb htd (by simp)
    obtain ⟨fa, rfl, hfs⟩ := tdOf_struct hd
    rw [getO_eq] at h
    split at h
    · rename_i off size agg e
      cases e0 : Nat.beq size 0 <;> rw [e0] at h
      · simp at h; subst h
        obtain ⟨fl, h1', h0⟩ := mapM_get _ _ _ hfs f _ e
        obtain ⟨j, dd, h2, h3, h4, h6, h5⟩ := fieldD_spec h0
        have h1 : fa[f]? = some fl := by simpa using h1'
        have hne : j.size ≠ 0 := by rw [h4]; exact Nat.ne_of_beq_eq_false e0
        simp only [Instr.fieldAt, Sem.run_bind, run_underlying hu, Result.andThen_ok]
        simp only [h1, Instr.sureAddr, Sem.run_bind, Sem.run_pure, Result.andThen_ok, fieldPlace, sizeOf_run h3]
        rw [if_neg hne]
        simp [h2]
      · simp at h
    · simp at h
  · simp at h

theorem extractV_sound {x v : SV} {x' : Value} {i : Nat} (hx : RelV β x x') (h : extractV x i = some v) :
    ∃ r, (Instr.extract x' i).run P w = .ok r w ∧ RelV β v r := by
  unfold extractV at h
  split at h
  · rename_i vs
    simp only [RelV] at hx; subst hx
    rw [getO_eq] at h
    split at h
    · rename_i r e
      simp at h; subst h
      refine ⟨r, ?_, rfl⟩
      have : vs[i]? = some r := by simpa using e
      simp [Instr.extract, this]
    · simp at h
  · simp at h

theorem fieldV_sound (hb : TabOk P tb) {t : TypeId} {x v : SV} {x' : Value} {f : Nat} (hx : RelV β x x') (h : fieldV tb t x f = some v) :
    ∃ r, (Instr.field t x' f).run P w = .ok r w ∧ RelV β v r := by
  unfold fieldV at h
  split at h
  · rename_i fs cs htd
    simp only [RelV] at hx; subst hx
    obtain ⟨i, d, z', r, hf, hi, hu, hz', hzl, hs, hd⟩ := td_spec hb htd (by simp)
    obtain ⟨fa, rfl, hfs⟩ := tdOf_struct hd
    rw [getO_eq] at h
    split at h
    · rename_i off size agg e
      split at h
      · rename_i r hp
        simp at h; subst h
        refine ⟨r, ?_, rfl⟩
        obtain ⟨fl, h1', h0⟩ := mapM_get _ _ _ hfs f _ e
        obtain ⟨j, dd, h2, h3, h4, h6, h5⟩ := fieldD_spec h0
        have h1 : fa[f]? = some fl := by simpa using h1'
        have hagg : (isAgg fl.type).run P w = .ok agg w := by rw [isAgg_run h6, h5]
        simp only [Instr.field, Sem.run_bind, run_underlying hu, Result.andThen_ok, h1, asAgg, Sem.run_pure, part, hagg]
        unfold partL at hp
        cases agg
        · simp only [cond_false] at hp
          rw [getO_eq] at hp
          split at hp
          · rename_i y hy
            simp at hp; subst hp
            have : cs[fl.offset]? = some y := by rw [h2]; simpa using hy
            simp [this]
          · simp at hp
        · simp only [cond_true] at hp
          simp at hp; subst hp
          simp only [if_true, Sem.run_bind, sizeOf_run h3, Result.andThen_ok, Sem.run_pure, h2, h4]
          congr 2
          apply Array.ext'
          simp [Array.toList_extract, List.extract]
      · simp at h
    · simp at h
  · simp at h

theorem ifaceV_sound (hb : TabOk P tb) {t : TypeId} {x v : SV} {x' : Value} (hx : RelV β x x') (h : ifaceV tb t x = some v) :
    ∃ r, (Instr.makeInterface t x').run P w = .ok r w ∧ RelV β v r := by
  unfold ifaceV at h
  split at h
  · simp at h
  · simp at h
  · simp at h
  · rename_i n1 n2 n3
    split at h
    · rename_i y hy
      simp at h; subst h
      have hx' := hx.val hy
      subst hx'
      obtain ⟨_, d, _, _, _, _, hu, _, _, _, hd⟩ := td_spec hb rfl n1
      refine ⟨.iface t x', ?_, rfl⟩
      simp only [Instr.makeInterface, Sem.run_bind, run_underlying hu, Result.andThen_ok]
      cases d <;> first | rfl | (simp [tdOf] at hd; exact absurd hd.symm n3)
    · simp at h

theorem allV_sound {ρ : Operand → SV} {ρ' : Operand → Value} (hρ : ∀ x, RelV β (ρ x) (ρ' x)) : ∀ (l : List Operand) (vs : List Value), allV (l.map ρ) = some vs → l.map ρ' = vs
  | [], vs, h => by simp [allV] at h; simp [h]
  | x :: l, vs, h => by
    simp only [List.map_cons, allV] at h
    split at h
    · rename_i v vs' h1 h2
      simp at h; subst h
      simp [(hρ x).val h1, allV_sound hρ l vs' h2]
    · simp at h

theorem lenV_sound (hb : TabOk P tb) {t u : TypeId} {x v : SV} {x' : Value} (hx : RelV β x x') (h : lenV tb t x = some v) :
    ∃ r, (Builtin.len_ #[t] u #[x']).run P w = .ok r w ∧ RelV β v r := by
  unfold lenV at h
  split at h
  · rename_i s htd
    simp only [RelV] at hx; subst hx
    simp at h; subst h
    obtain ⟨_, d, _, _, _, _, hu, _, _, _, hd⟩ := td_spec hb htd (by simp)
    rw [tdOf_str hd] at hu
    refine ⟨_, ?_, rfl⟩
    simp [Builtin.len_, run_underlying hu, goInt]
  · rename_i e a n c htd
    simp only [RelV] at hx; subst hx
    simp at h; subst h
    obtain ⟨_, d, _, _, _, _, hu, _, _, _, hd⟩ := td_spec hb htd (by simp)
    rw [tdOf_slice hd] at hu
    refine ⟨_, ?_, rfl⟩
    simp [Builtin.len_, run_underlying hu, goInt]
  · rename_i n s htd
    simp at h; subst h
    obtain ⟨_, d, _, _, _, _, hu, _, _, _, hd⟩ := td_spec hb htd (by simp)
    obtain ⟨e, i, rfl, _, _⟩ := tdOf_array hd
    refine ⟨.int .i64 n, ?_, rfl⟩
    simp [Builtin.len_, run_underlying hu, goInt]
  · simp at h

theorem two_args {ρ : Operand → SV} {ρ' : Operand → Value} (hρ : ∀ x, RelV β (ρ x) (ρ' x)) {l : List Operand} {k k' : IntKind} {x y : Int}
    (h : l.map ρ = [.v (.int k x), .v (.int k' y)]) : l.map ρ' = [.int k x, .int k' y] := by
  match l with
  | [] => simp at h
  | [_] => simp at h
  | [p, q] =>
    simp at h
    have h1 := hρ p; have h2 := hρ q
    rw [h.1] at h1; rw [h.2] at h2
    simp only [RelV] at h1 h2
    simp [h1, h2]
  | _ :: _ :: _ :: _ => simp at h

theorem minV_sound {ρ : Operand → SV} {ρ' : Operand → Value} (hρ : ∀ x, RelV β (ρ x) (ρ' x)) {args : Array Operand} {ts : Array TypeId} {u : TypeId} {v : SV}
    (h : minV (args.toList.map ρ) = some v) : ∃ r, (Builtin.min_ ts u (args.map ρ')).run P w = .ok r w ∧ RelV β v r := by
  unfold minV at h
  split at h
  · rename_i k x k' y e
    simp at h; subst h
    have h1 : (args.map ρ').toList = [.int k x, .int k' y] := by rw [Array.toList_map]; exact two_args hρ e
    refine ⟨_, ?_, rfl⟩
    unfold Builtin.min_
    rw [h1]
    simp [Builtin.min2]
  · simp at h

theorem maxV_sound {ρ : Operand → SV} {ρ' : Operand → Value} (hρ : ∀ x, RelV β (ρ x) (ρ' x)) {args : Array Operand} {ts : Array TypeId} {u : TypeId} {v : SV}
    (h : maxV (args.toList.map ρ) = some v) : ∃ r, (Builtin.max_ ts u (args.map ρ')).run P w = .ok r w ∧ RelV β v r := by
  unfold maxV at h
  split at h
  · rename_i k x k' y e
    simp at h; subst h
    have h1 : (args.map ρ').toList = [.int k x, .int k' y] := by rw [Array.toList_map]; exact two_args hρ e
    refine ⟨_, ?_, rfl⟩
    unfold Builtin.max_
    rw [h1]
    simp [Builtin.max2]
  · simp at h

/-- AN OPERATION THAT ONLY COMPUTES. -/
theorem pureV_sound (hb : TabOk P tb) {ρ : Operand → SV} {ρ' : Operand → Value} (hρ : ∀ x, RelV β (ρ x) (ρ' x)) {o : Oper} {v : SV} (h : pureV tb ρ o = some v) :
    ∃ r, (execOp ρ' o).run P w = .ok (.value r) w ∧ RelV β v r := by
  have lift : ∀ {s : Sem Value}, (∃ r, s.run P w = .ok r w ∧ RelV β v r) → ∃ r, ((do pure (.value (← s)) : Sem Next)).run P w = .ok (.value r) w ∧ RelV β v r := by
    rintro s ⟨r, h1, h2⟩
    exact ⟨r, by rw [Sem.run_bind, h1]; rfl, h2⟩
  obtain ⟨dst, op, ty, pos, after, guard⟩ := o
  unfold pureV at h
  simp only at h
  split at h
  · simp at h; subst h; exact ⟨_, rfl, hρ _⟩
  · simp at h; subst h; exact ⟨_, rfl, hρ _⟩
  · rename_i c a b
    exact pickV_sound (hρ c) (hρ a) (hρ b) h
  · rename_i x
    have hx := hρ x
    split at h
    · rename_i d f e
      rw [e] at hx; simp only [RelV] at hx
      simp at h; subst h
      exact ⟨_, by simp [execOp, hx], rfl⟩
    · rename_i a e
      rw [e] at hx; simp only [RelV] at hx
      simp at h; subst h
      exact ⟨_, by simp [execOp, hx], rfl⟩
    · simp at h
  · rename_i op t x y yt
    exact lift (binV_sound hb (hρ x) (hρ y) h)
  · rename_i op xt x
    exact lift (unV_sound (hρ x) h)
  · rename_i s d x
    exact lift (convV_sound hb (hρ x) h)
  · rename_i s x f
    have hx := hρ x
    split at h
    · rename_i n d off hn e
      rw [e] at hx; simp only [RelV] at hx
      simp at h; subst h
      refine lift ⟨_, by rw [hx]; exact fieldOff_sound hb hn _, ?_⟩
      simp only [RelV, Addr.add]
      split <;> simp_all
    · rename_i n a hn e
      rw [e] at hx; simp only [RelV] at hx
      simp at h; subst h
      exact lift ⟨_, by rw [hx]; exact fieldOff_sound hb hn _, rfl⟩
    · simp at h
  · rename_i t x f
    exact lift (fieldV_sound hb (hρ x) h)
  · rename_i t i
    exact lift (extractV_sound (hρ t) h)
  · rename_i t parts
    exact lift (buildV_sound hb hρ h)
  · rename_i t x
    exact lift (ifaceV_sound hb (hρ x) h)
  · rename_i fn first cap
    split at h
    · rename_i a b h1 h2
      simp at h; subst h
      have e1 : first.map ρ' = ⟨a⟩ := by rw [← Array.toList_inj, Array.toList_map]; exact allV_sound hρ _ _ h1
      have e2 : cap.map ρ' = ⟨b⟩ := by rw [← Array.toList_inj, Array.toList_map]; exact allV_sound hρ _ _ h2
      exact lift ⟨_, by simp only [Instr.makeFunc, e1, e2]; rfl, rfl⟩
    · simp at h
  · rename_i args ts
    split at h
    · rename_i x t ha ht
      have h1 : args.map ρ' = #[ρ' x] := by rw [← Array.toList_inj, Array.toList_map, ha]; rfl
      have h2 : ts = #[t] := by rw [← Array.toList_inj, ht]
      subst h2
      have := lift (lenV_sound (u := ty) hb (hρ x) h)
      simpa [execOp, resolve, invoke, builtin, h1] using this
    · simp at h
  · rename_i args ts
    have := lift (minV_sound (u := ty) (ts := ts) hρ h)
    simpa [execOp, resolve, invoke, builtin] using this
  · rename_i args ts
    have := lift (maxV_sound (u := ty) (ts := ts) hρ h)
    simpa [execOp, resolve, invoke, builtin] using this
  · simp at h
end
end Go.Den

/-
  The readable weakest precondition (Den) is sound: operations that compute under a condition.
-/
namespace Go.Den
set_option linter.unusedSectionVars false
set_option linter.unusedSimpArgs false
set_option linter.unusedVariables false
open Go
set_option linter.unusedVariables false
set_option linter.unusedSimpArgs false
section
variable {P : Program} {tb : List Row} {β : Nat → Nat} {w : World}

theorem Ob.W_iff (ob : Ob) (κ : SV → Go.Den.W) (H : HP) : ob.W κ H ↔ ∃ v, ob.yields v ∧ κ v H := by
  cases ob with
  | nn p =>
    constructor
    · rintro ⟨a, h1, h2⟩; exact ⟨_, ⟨a, h1, rfl⟩, h2⟩
    · rintro ⟨v, ⟨a, h1, rfl⟩, h2⟩; exact ⟨a, h1, h2⟩
  | ix a len i sz =>
    constructor
    · rintro ⟨x, h1, h2, h3, h4⟩; exact ⟨_, ⟨x, h1, h2, h3, rfl⟩, h4⟩
    · rintro ⟨v, ⟨x, h1, h2, h3, rfl⟩, h4⟩; exact ⟨x, h1, h2, h3, h4⟩
  | si s i =>
    constructor
    · rintro ⟨c, h1, h2, h3⟩; exact ⟨_, ⟨c, h1, h2, rfl⟩, h3⟩
    · rintro ⟨v, ⟨c, h1, h2, rfl⟩, h3⟩; exact ⟨c, h1, h2, h3⟩
  | req p x =>
    constructor
    · rintro ⟨h1, h2⟩; exact ⟨_, ⟨h1, rfl⟩, h2⟩
    · rintro ⟨v, ⟨h1, rfl⟩, h2⟩; exact ⟨h1, h2⟩

theorem binOb_sound {op : BinOp} {t : TypeId} {ox oy : Operand} {x y : SV} {x' y' : Value} {ob : Ob} {v : SV} (hx : RelV β x x') (hy : RelV β y y')
    (h : binOb op x y = some ob) (hv : ob.yields v) :
    ∃ r, ((do eqGuard op t ox oy x' y'; binOp op t x' y') : Sem Value).run P w = .ok r w ∧ RelV β v r := by
  unfold binOb at h
  split at h
  · rename_i k a k' b
    simp only [RelV] at hx hy; subst hx hy
    rw [Sem.run_bind, run_eqGuard (by simp) (by simp), Result.andThen_ok]
    split at h
    · rename_i o ho
      simp at h; subst h
      unfold shiftOb at ho
      split at ho
      · cases ho
        obtain ⟨h1, rfl⟩ := hv
        refine ⟨_, ?_, rfl⟩
        simp [binOp, Op.shift, Int.not_lt.2 h1]
      · cases ho
        obtain ⟨h1, rfl⟩ := hv
        refine ⟨_, ?_, rfl⟩
        simp [binOp, Op.shift, Int.not_lt.2 h1]
      · simp at ho
    · rename_i hn
      cases e : kindEq k k' <;> rw [e] at h
      · simp at h
      · have : k = k' := of_decide_eq_true e
        subst this
        simp only [cond_true] at h
        unfold divOb at h
        split at h
        · cases h
          obtain ⟨h1, rfl⟩ := hv
          refine ⟨_, ?_, rfl⟩
          simp [binOp, Op.intDiv, h1]
        · cases h
          obtain ⟨h1, rfl⟩ := hv
          refine ⟨_, ?_, rfl⟩
          simp [binOp, Op.intDiv, h1]
        · simp at h
  · rename_i a b
    simp only [RelV] at hx hy; subst hx hy
    rw [Sem.run_bind, run_eqGuard (by simp) (by simp), Result.andThen_ok]
    split at h
    · cases h
      obtain ⟨h1, rfl⟩ := hv
      refine ⟨_, ?_, rfl⟩
      simp only [binOp, Op.stringOp]
      rw [if_neg (by omega)]
      rfl
    · simp at h
  · simp at h

theorem bnd_sound {x : Option Operand} {ρ : Operand → SV} {ρ' : Operand → Value} (hρ : ∀ x, RelV β (ρ x) (ρ' x)) {d n : Int} (h : bnd (x.map ρ) d = some n) :
    (x = none ∧ n = d) ∨ (∃ y k, x = some y ∧ ρ' y = .int k n) := by
  cases x with
  | none => simp [bnd] at h; exact .inl ⟨rfl, h.symm⟩
  | some y =>
    have hy := hρ y
    simp only [Option.map_some, bnd] at h
    split at h
    · rename_i h'; cases h'
    · rename_i k m e
      simp at h; subst h
      have e' : ρ y = .v (.int k m) := by simpa using e
      rw [e'] at hy
      exact .inr ⟨y, k, rfl, hy⟩
    · simp at h

theorem sliceBound_run {k : IntKind} {i : Int} {y : Nat} {c : BoundsCode} (h0 : 0 ≤ i) (h1 : i ≤ (y : Int)) : (Instr.sliceBound (.int k i) y c).run P w = .ok i.toNat w := by
  simp [Instr.sliceBound, asIntOf, h0, h1]

theorem sliceBounds_run {isSlice : Bool} {len cap : Nat} {lo hi : Option Operand} {ρ : Operand → SV} {ρ' : Operand → Value} (hρ : ∀ x, RelV β (ρ x) (ρ' x)) {l h : Int}
    (hl : bnd (lo.map ρ) 0 = some l) (hh : bnd (hi.map ρ) len = some h) (h0 : 0 ≤ l) (h1 : l ≤ h) (h2 : h ≤ (cap : Int)) :
    (Instr.sliceBounds isSlice len cap (lo.map ρ') (hi.map ρ') none).run P w = .ok (l.toNat, h.toNat, cap) w := by
  have hz : ((h.toNat : Nat) : Int) = h := by omega
  rcases bnd_sound hρ hl with ⟨rfl, rfl⟩ | ⟨y, k, rfl, hy⟩ <;> rcases bnd_sound hρ hh with ⟨rfl, rfl⟩ | ⟨y', k', rfl, hy'⟩
  · simp [Instr.sliceBounds]
  · simp [Instr.sliceBounds, hy', sliceBound_run (P := P) (w := w) (by omega : 0 ≤ h) h2]
  · simp [Instr.sliceBounds, hy, sliceBound_run (P := P) (w := w) h0 h1]
  · simp [Instr.sliceBounds, hy, hy', sliceBound_run (P := P) (w := w) (by omega : 0 ≤ h) h2, sliceBound_run (P := P) (w := w) h0 (by omega : l ≤ (h.toNat : Int))]

theorem sliceOb_sound (hb : TabOk P tb) {t : TypeId} {x : SV} {x' : Value} {lo hi : Option Operand} {ρ : Operand → SV} {ρ' : Operand → Value} (hρ : ∀ x, RelV β (ρ x) (ρ' x)) {ob : Ob} {v : SV}
    (hx : RelV β x x') (h : sliceOb tb t x (lo.map ρ) (hi.map ρ) = some ob) (hv : ob.yields v) :
    ∃ r, (Instr.sliceAt t x' (lo.map ρ') (hi.map ρ') none).run P w = .ok r w ∧ RelV β v r := by
  unfold sliceOb at h
  split at h
  · rename_i s htd
    simp only [RelV] at hx; subst hx
    obtain ⟨_, d, _, _, _, _, hu, _, _, _, hd⟩ := td_spec hb htd (by simp)
    rw [tdOf_str hd] at hu
    split at h
    · rename_i l h' hl hh
      cases h
      obtain ⟨⟨h0, h1, h2⟩, rfl⟩ := hv
      refine ⟨_, ?_, rfl⟩
      have := sliceBounds_run (P := P) (w := w) (isSlice := false) (len := s.size) (cap := s.size) hρ hl hh h0 h1 h2
      simp [Instr.sliceAt, Instr.slice, run_underlying hu, this]
    · simp at h
  · rename_i e a n c htd
    simp only [RelV] at hx; subst hx
    obtain ⟨_, d, _, _, _, _, hu, _, _, _, hd⟩ := td_spec hb htd (by simp)
    rw [tdOf_slice hd] at hu
    split at h
    · rename_i l h' hk hl hh
      cases h
      obtain ⟨⟨h0, h1, h2⟩, rfl⟩ := hv
      refine ⟨_, ?_, rfl⟩
      obtain ⟨i, _, _, _, _, hi, _, _, _, _, _, hs, _⟩ := known_spec hb hk
      have := sliceBounds_run (P := P) (w := w) (isSlice := true) (len := n) (cap := c) hρ hl hh h0 h1 h2
      simp [Instr.sliceAt, Instr.slice, run_underlying hu, this, sizeOf_run hi, hs]
    · simp at h
  · simp at h

/-- AN OPERATION THAT COMPUTES UNDER A CONDITION. -/
theorem obV_sound (hb : TabOk P tb) {ρ : Operand → SV} {ρ' : Operand → Value} (hρ : ∀ x, RelV β (ρ x) (ρ' x)) {o : Oper} {ob : Ob} {v : SV} (h : obV tb ρ o = some ob) (hv : ob.yields v) :
    ∃ r, (execOp ρ' o).run P w = .ok (.value r) w ∧ RelV β v r := by
  have lift : ∀ {s : Sem Value}, (∃ r, s.run P w = .ok r w ∧ RelV β v r) → ∃ r, ((do pure (.value (← s)) : Sem Next)).run P w = .ok (.value r) w ∧ RelV β v r := by
    rintro s ⟨r, h1, h2⟩
    exact ⟨r, by rw [Sem.run_bind, h1]; rfl, h2⟩
  obtain ⟨dst, op, ty, pos, after, guard⟩ := o
  unfold obV at h
  simp only at h
  split at h
  · rename_i x
    have hx := hρ x
    split at h
    · rename_i p e
      rw [e] at hx; simp only [RelV] at hx
      cases h
      obtain ⟨a, rfl, rfl⟩ := hv
      exact ⟨_, by simp [execOp, hx], rfl⟩
    · simp at h
  · rename_i t x i
    have hx := hρ x; have hi := hρ i
    split at h
    · rename_i e a n c k j htd ex ei
      rw [ex] at hx; rw [ei] at hi; simp only [RelV] at hx hi
      obtain ⟨_, d, _, _, _, _, hu, _, _, _, hd⟩ := td_spec hb htd (by simp)
      rw [tdOf_slice hd] at hu
      cases hk : known tb e <;> rw [hk] at h
      · simp at h
      · simp only [cond_true] at h
        cases h
        obtain ⟨y, rfl, h0, h1, rfl⟩ := hv
        obtain ⟨ie, _, _, _, _, hie, _, _, _, _, _, hs, _⟩ := known_spec hb hk
        refine lift ⟨.pointer (some (y.add (j.toNat * ie.size))), ?_, by rw [hs]; rfl⟩
        rw [hx, hi]
        simp [Instr.indexAt, asIntOf, run_underlying hu, sizeOf_run hie, h0, h1]
    · rename_i n sz a k j htd ex ei
      rw [ex] at hx; rw [ei] at hi; simp only [RelV] at hx hi
      obtain ⟨_, d, _, _, _, _, hu, _, _, _, hd⟩ := td_spec hb htd (by simp)
      obtain ⟨el, ie, rfl, hie, hsz⟩ := tdOf_array hd
      cases h
      obtain ⟨y, hy, h0, h1, rfl⟩ := hv
      cases hy
      refine lift ⟨.pointer (some (a.add (j.toNat * sz))), ?_, rfl⟩
      rw [hx, hi]
      simp [Instr.indexAt, asIntOf, run_underlying hu, sizeOf_run hie, h0, h1, Instr.sureAddr, hsz]
    · simp at h
  · rename_i t x i
    have hx := hρ x; have hi := hρ i
    split at h
    · rename_i s k j htd ex ei
      rw [ex] at hx; rw [ei] at hi; simp only [RelV] at hx hi
      obtain ⟨_, d, _, _, _, _, hu, _, _, _, hd⟩ := td_spec hb htd (by simp)
      rw [tdOf_str hd] at hu
      cases h
      obtain ⟨c, h0, h1, rfl⟩ := hv
      refine lift ⟨_, ?_, rfl⟩
      rw [hx, hi]
      simp [Instr.index, asIntOf, run_underlying hu, h0, h1]
    · simp at h
  · rename_i op t x y yt
    exact lift (binOb_sound (hρ x) (hρ y) h hv)
  · rename_i t x lo hi
    exact lift (sliceOb_sound hb hρ (hρ x) h hv)
  · simp at h
end
end Go.Den

/-
  The readable weakest precondition (Den) is sound: one operation, whatever it is.
-/
namespace Go.Den
set_option linter.unusedSectionVars false
set_option linter.unusedSimpArgs false
set_option linter.unusedVariables false
open Go
set_option linter.unusedVariables false
set_option linter.unusedSimpArgs false
section
variable [DF] {P : Program} {tb : List Row} {β : Nat → Nat} {w w' w₀ : World} {H H' H₀ : HP} {st : St} {a : Act}

/-! ### Shapes -/
theorem Lf.app_cur {R : Type} (x : Lf) (f : x.Ty → R) (t : x.Ty) : x.app (x.cur f) t = f t := by cases x <;> rfl
theorem lsApp_cur {R : Type} : ∀ (l : List Lf) (f : Tys l → R) (t : Tys l), lsApp l (lsCur l f) t = f t
  | [], f, () => rfl
  | x :: l, f, (a, t) => by simp only [lsApp, lsCur, Lf.app_cur]; exact lsApp_cur l _ t
theorem Sh1.app_cur {R : Type} (s : Sh1) (f : s.Ty → R) (t : s.Ty) : s.app (s.cur f) t = f t := by
  cases s with
  | l x => exact Lf.app_cur x f t
  | agg xs => exact lsApp_cur xs f t
theorem l1App_cur {R : Type} : ∀ (l : List Sh1) (f : Tys1 l → R) (t : Tys1 l), l1App l (l1Cur l f) t = f t
  | [], f, () => rfl
  | x :: l, f, (a, t) => by simp only [l1App, l1Cur, Sh1.app_cur]; exact l1App_cur l _ t
theorem Sh.app_cur {R : Type} (s : Sh) (f : s.Ty → R) (t : s.Ty) : s.app (s.cur f) t = f t := by
  cases s with
  | one x => exact Sh1.app_cur x f t
  | tup xs => exact l1App_cur xs f t

theorem vals_length : ∀ (l : List Lf) (t : Tys l), (vals l t).length = l.length
  | [], _ => rfl
  | x :: l, t => by simp [vals, vals_length l t.2]

/-! ### Worlds -/
theorem alloc_old (w : World) (o : Obj) {b : Nat} (h : b < w.heap.size) : (w.alloc o).heap[b]? = w.heap[b]? := by
  show (w.heap.push o)[b]? = _
  rw [Array.getElem?_push, if_neg (by omega)]
theorem alloc_new (w : World) (o : Obj) : (w.alloc o).heap[w.heap.size]? = some o := by
  show (w.heap.push o)[w.heap.size]? = _
  simp
theorem alloc_size (w : World) (o : Obj) : (w.alloc o).heap.size = w.heap.size + 1 := by
  show (w.heap.push o).size = _
  simp

theorem HP.on.fresh (h : H.on w) : H w.heap.size = none := by
  cases e : H w.heap.size with
  | none => rfl
  | some o => have := h.lt (b := w.heap.size) (by simp [e]); omega

theorem Up.alloc (h : H.on w) (o : Obj) : Up H H w (w.alloc o) where
  on b x hb := by rw [alloc_old w o (h.lt (by simp [hb]))]; exact h b x hb
  os := rfl
  tape := rfl
  output := rfl
  size := by rw [alloc_size]; omega
  keep b hb _ := alloc_old w o hb
  dom b hb := .inl hb

theorem Up.allocNew (h : H.on w) (o : Obj) : Up H (H.set w.heap.size o) w (w.alloc o) where
  on b x hb := by
    unfold HP.set at hb
    split at hb
    · rename_i e; subst e; cases hb; exact alloc_new w _
    · rw [alloc_old w o (h.lt (by simp [hb]))]; exact h b x hb
  os := rfl
  tape := rfl
  output := rfl
  size := by rw [alloc_size]; omega
  keep b hb _ := alloc_old w o hb
  dom b hb := by
    unfold HP.set at hb
    split at hb
    · rename_i e; exact .inr (by omega)
    · exact .inl hb

theorem lt_of_get {α : Type} {x : Array α} {i : Nat} {v : α} (h : x[i]? = some v) : i < x.size := by
  rcases Nat.lt_or_ge i x.size with h' | h'
  · exact h'
  · simp [Array.getElem?_eq_none h'] at h

/-- what is known stays known over whatever leaves the private blocks alone -/
theorem Inv.step (inv : Inv w₀ H₀ st a w H β) (h : Up H H' w w') : Inv w₀ H₀ st a w' H' β where
  size := inv.size
  tm := inv.tm
  defers := inv.defers
  up := inv.up.trans h
  own d cs hd := by
    obtain ⟨vs, e, h1, h2, h3, h4, h5⟩ := inv.own d cs hd
    have hlt := lt_of_get h1
    refine ⟨vs, e, by rw [h.keep _ hlt h4]; exact h1, h2, h3, ?_, h5⟩
    cases e' : H' (β d) with
    | none => rfl
    | some o =>
      rcases h.dom (β d) (by simp [e']) with h' | h'
      · exact absurd h4 h'
      · omega
  inj := inv.inj

/-- a new private block -/
theorem Inv.new (inv : Inv w₀ H₀ st a w H β) (e : TypeId) (z : List Value) (d : Nat) (hn : anew st.tm st.own d = true) :
    Inv w₀ H₀ { st with own := ownNew st.own d z } a (w.alloc (.cells ⟨z⟩ e)) H (fun x => if x = d then w.heap.size else β x) := by
  unfold anew at hn
  simp only [Bool.and_eq_true, List.all_eq_true] at hn
  obtain ⟨hn1, hn2⟩ := hn
  have hnone : st.own d = none := by simpa using hn1
  have hold : ∀ d' cs, st.own d' = some cs → d' ≠ d := fun d' cs h he => by subst he; rw [hnone] at h; cases h
  have hup := Up.alloc inv.up.on (.cells ⟨z⟩ e)
  have i2 := inv.step hup
  have hne : ∀ x, x ≠ d → ownNew st.own d z x = st.own x := fun x hx => by
    unfold ownNew
    cases e : Nat.beq x d
    · rfl
    · exact absurd (Nat.eq_of_beq_eq_true e) hx
  have hd : ownNew st.own d z d = some (z.map some) := by
    unfold ownNew
    cases e : Nat.beq d d
    · exact absurd rfl (Nat.ne_of_beq_eq_false e)
    · rfl
  refine ⟨inv.size, fun i => ?_, inv.defers, i2.up, fun d' cs h => ?_, fun x y hx hy he => ?_⟩
  · have h1 := inv.tm i
    have h2 : ∀ s, (∀ off, s ≠ .own d off) → RelV β s (a.tmps.getD i undef) → RelV (fun x => if x = d then w.heap.size else β x) s (a.tmps.getD i undef) := by
      intro s hs hr
      cases s <;> simp only [RelV] at hr ⊢ <;> try exact hr
      rename_i d' off
      rw [if_neg (fun h => hs off (by rw [h]))]
      exact hr
    refine h2 _ (fun off he => ?_) h1
    rcases Nat.lt_or_ge i st.tm.length with hl | hl
    · have := hn2 st.tm[i] (List.getElem_mem hl)
      have e' : st.tm[i] = .own d off := by simpa [List.getD, hl] using he
      rw [e'] at this
      simp at this
    · rw [List.getD_eq_getElem?_getD, List.getElem?_eq_none hl] at he; cases he
  · by_cases hdd : d' = d
    · subst hdd
      rw [show ({ st with own := ownNew st.own d' z } : St).own d' = some (z.map some) from hd] at h
      cases h
      refine ⟨⟨z⟩, e, by simp only [if_true]; exact alloc_new w _, by simp, fun i c hc => ?_, by simp [inv.up.on.fresh], by simp [inv.up.size]⟩
      simp at hc ⊢
      exact hc
    · rw [show ({ st with own := ownNew st.own d z } : St).own d' = st.own d' from hne d' hdd] at h
      obtain ⟨vs, e', h1, h2, h3, h4, h5⟩ := i2.own d' cs h
      exact ⟨vs, e', by simpa [hdd] using h1, h2, h3, by simpa [hdd] using h4, by simpa [hdd] using h5⟩
  · have hx' : x = d ∨ st.own x ≠ none := by
      by_cases e : x = d
      · exact .inl e
      · exact .inr (by rw [← hne x e]; exact hx)
    have hy' : y = d ∨ st.own y ≠ none := by
      by_cases e : y = d
      · exact .inl e
      · exact .inr (by rw [← hne y e]; exact hy)
    have hlt : ∀ x, st.own x ≠ none → β x < w.heap.size := by
      intro x hx
      obtain ⟨cs, hc⟩ := Option.ne_none_iff_exists'.1 hx
      obtain ⟨vs, e', h1, _⟩ := inv.own x cs hc
      exact lt_of_get h1
    rcases hx' with rfl | hx' <;> rcases hy' with rfl | hy'
    · rfl
    · have := hlt y hy'
      by_cases e : y = x
      · exact e.symm
      · simp [e] at he; omega
    · have := hlt x hx'
      by_cases e : x = y
      · exact e
      · simp [e] at he; omega
    · by_cases e1 : x = d <;> by_cases e2 : y = d
      · rw [e1, e2]
      · subst e1; exact absurd hnone hx'
      · subst e2; exact absurd hnone hy'
      · simp [e1, e2] at he
        exact inv.inj x y hx' hy' he
end
end Go.Den

/-
  The readable weakest precondition (Den) is sound: loads and stores.
-/
namespace Go.Den
set_option linter.unusedSectionVars false
set_option linter.unusedSimpArgs false
set_option linter.unusedVariables false
open Go
set_option linter.unusedVariables false
set_option linter.unusedSimpArgs false
section
variable [DF] {P : Program} {tb : List Row} {β : Nat → Nat} {w w' w₀ : World} {H H' H₀ : HP} {st : St} {a : Act}

theorem known_run (hb : TabOk P tb) {t : TypeId} (h : known tb t = true) (w : World) :
    (isAgg t).run P w = .ok (isAggD tb t) w ∧ (sizeOf t).run P w = .ok (sizeD tb t) w := by
  obtain ⟨i, d, z, r, hf, hi, hu, hz, hzl, hs, hd, h1, h2, h3⟩ := known_spec hb h
  refine ⟨?_, by rw [sizeOf_run hi, h1]⟩
  rw [isAgg_run hu]
  congr 1
  unfold isAggD
  rw [h3]
  cases d <;> simp [tdOf] at hd <;> first
    | (obtain ⟨x, hx, hy⟩ := hd; simp [← hy, aggD])
    | (simp [← hd, aggD])

theorem zero_run (hb : TabOk P tb) {t : TypeId} {z : List Value} (h : known tb t = true) (hz : zeroD tb t = some z) (w : World) :
    ∃ v, (zeroValue t).run P w = .ok v w ∧ v.cells.toList = z := by
  obtain ⟨i, d, zv, r, hf, hi, hu, hz', hzl, hs, hd, h1, h2, h3⟩ := known_spec hb h
  refine ⟨zv, by simp [zeroValue, typeInfo, hi, hz'], ?_⟩
  rw [h2] at hz
  simpa using hz

theorem add_zero (a : Addr) : a.add 0 = a := rfl

theorem add_own (b off i : Nat) : (⟨b, off, none⟩ : Addr).add i = ⟨b, off + i, none⟩ := by
  unfold Addr.add
  split <;> simp_all

/-- a load of a variable whose cells are told -/
theorem loadVar_run (hb : TabOk P tb) {t : TypeId} (hk : known tb t = true) {ad : Addr} {cs : List Value} {r : Value}
    (hc : ∀ (i : Nat) v, cs[i]? = some v → w.cell? (ad.add i) = some v)
    (hr : (isAggD tb t = true ∧ cs.length = sizeD tb t ∧ r = .agg ⟨cs⟩) ∨ (isAggD tb t = false ∧ cs = [r])) :
    (Instr.loadAt t (.pointer (some ad))).run P w = .ok r w := by
  obtain ⟨h1, h2⟩ := known_run hb hk w
  simp only [Instr.loadAt, Instr.sureAddr, loadVar, Sem.run_bind, Sem.run_pure, Result.andThen_ok, h1]
  rcases hr with ⟨e, hl, rfl⟩ | ⟨e, rfl⟩
  · rw [e]
    simp only [if_true, Sem.run_bind, h2, Result.andThen_ok]
    have := run_loadCells_list (P := P) w ad cs hc
    rw [hl] at this
    simp [this]
  · rw [e]
    have := hc 0 r rfl
    rw [add_zero] at this
    simp [this]

theorem ownGet_sound {own : Own} {d off n : Nat} {agg : Bool} {v : SV} (h : ownGet own d off n agg = some v) :
    ∃ cs l r, own d = some cs ∧ v = .v r ∧ (∀ (i : Nat) x, l[i]? = some x → cs[off + i]? = some (some x)) ∧ ((agg = true ∧ l.length = n ∧ r = .agg ⟨l⟩) ∨ (agg = false ∧ l = [r])) := by
  unfold ownGet at h
  split at h
  · simp at h
  · rename_i cs hcs
    cases agg
    · simp only [cond_false, getO_eq] at h
      split at h
      · rename_i x hx
        simp at h; subst h
        refine ⟨cs, [x], x, hcs, rfl, fun i y hy => ?_, .inr ⟨rfl, rfl⟩⟩
        cases i with
        | zero => simp at hy; subst hy; simpa using hx
        | succ i => simp at hy
      · simp at h
    · simp only [cond_true] at h
      split at h
      · rename_i l hl
        cases e : Nat.beq l.length n <;> rw [e] at h
        · simp at h
        · simp only [cond_true] at h
          simp at h; subst h
          have hln := Nat.eq_of_beq_eq_true e
          refine ⟨cs, l, _, hcs, rfl, fun i x hx => ?_, .inl ⟨rfl, hln, rfl⟩⟩
          have key : ∀ (m : List (Option Value)) (l : List Value), m.foldr (fun x r => match x, r with
              | some v, some l => some (v :: l)
              | _, _ => none) (some []) = some l → m = l.map some := by
            intro m
            induction m with
            | nil => intro l hl; simp at hl; simp [hl]
            | cons y m ih =>
              intro l hl
              simp only [List.foldr_cons] at hl
              split at hl
              · rename_i v l' h1 h2
                simp at hl; subst hl
                simp [ih _ h2]
              · simp at hl
          have hm := key _ _ hl
          have hi : i < l.length := by
            rcases Nat.lt_or_ge i l.length with h' | h'
            · exact h'
            · simp [List.getElem?_eq_none h'] at hx
          have h1 : ((cs.drop off).take n)[i]? = some (some x) := by rw [hm]; simp [hx]
          rw [List.getElem?_take] at h1
          split at h1
          · simpa using h1
          · simp at h1
      · simp at h

theorem loadOwn_run (hb : TabOk P tb) (inv : Inv w₀ H₀ st a w H β) {t : TypeId} (hk : known tb t = true) {d off : Nat} {v : SV}
    (h : ownGet st.own d off (sizeD tb t) (isAggD tb t) = some v) :
    ∃ r, (Instr.loadAt t (.pointer (some ⟨β d, off, none⟩))).run P w = .ok r w ∧ v = .v r := by
  obtain ⟨cs, l, r, h1, rfl, h2, h3⟩ := ownGet_sound h
  obtain ⟨vs, e, g1, g2, g3, _⟩ := inv.own d cs h1
  refine ⟨r, loadVar_run hb hk (cs := l) (fun i x hx => ?_) h3, rfl⟩
  rw [add_own]
  simp only [World.cell?, g1]
  simpa using g3 _ _ (h2 i x hx)

theorem sh1_spec {t : TypeId} {sh : Sh1} (h : sh1D tb t = some sh) (x : sh.Ty) :
    (isAggD tb t = true ∧ (sh.cells x).length = sizeD tb t ∧ sh.val x = .agg ⟨sh.cells x⟩) ∨ (isAggD tb t = false ∧ sh.cells x = [sh.val x]) := by
  unfold sh1D at h
  split at h
  · rename_i y _
    cases e : isAggD tb t <;> rw [e] at h
    · simp at h; subst h; exact .inr ⟨rfl, rfl⟩
    · simp at h
  · rename_i xs _
    cases e : isAggD tb t <;> rw [e] at h
    · simp at h
    · cases e2 : Nat.beq xs.length (sizeD tb t) <;> rw [e2] at h
      · simp at h
      · simp at h; subst h
        refine .inl ⟨rfl, ?_, rfl⟩
        rw [← Nat.eq_of_beq_eq_true e2]
        exact vals_length xs x
  · simp at h

theorem load_run (hb : TabOk P tb) (on : H.on w) {t : TypeId} (hk : known tb t = true) {sh : Sh1} (hs : sh1D tb t = some sh) {ad : Addr} {x : sh.Ty} (hx : H.has ad (sh.cells x)) :
    (Instr.loadAt t (.pointer (some ad))).run P w = .ok (sh.val x) w :=
  loadVar_run hb hk (fun i v hv => on.cell (hx i v hv)) (sh1_spec hs x)

/-! ### Stores -/
theorem storeVar_run (hb : TabOk P tb) {t : TypeId} (hk : known tb t = true) {ad : Addr} {v : Value} (hl : v.cells.size = sizeD tb t) :
    (Instr.storeAt t (.pointer (some ad)) v).run P w = (storeCells ad v.cells.toList).run P w := by
  obtain ⟨h1, h2⟩ := known_run hb hk w
  simp only [Instr.storeAt, Instr.sureAddr, storeVar, Sem.run_bind, Sem.run_pure, Result.andThen_ok, h2]
  rw [if_neg (by simp [hl])]

theorem ownPut_sound {own own' : Own} {d off : Nat} {vs : List Value} (h : ownPut own d off vs = some own') :
    ∃ cs, own d = some cs ∧ off + vs.length ≤ cs.length ∧ own' d = some (cs.take off ++ vs.map some ++ cs.drop (off + vs.length)) ∧ ∀ x, x ≠ d → own' x = own x := by
  unfold ownPut at h
  split at h
  · simp at h
  · rename_i cs hcs
    cases e : Nat.ble (off + vs.length) cs.length <;> rw [e] at h
    · simp at h
    · simp only [cond_true] at h
      cases h
      refine ⟨cs, hcs, Nat.le_of_ble_eq_true e, ?_, fun x hx => ?_⟩
      · have e2 : Nat.beq d d = true := by simp
        simp only [e2, cond_true]
      · have e2 : Nat.beq x d = false := by
          cases e2 : Nat.beq x d
          · rfl
          · exact absurd (Nat.eq_of_beq_eq_true e2) hx
        simp only [e2, cond_false]

theorem setRow_get (w : World) (g : Nat) (cur new : Array Value) (t : TypeId) (fz : Nat × Nat) (hg : w.heap[g]? = some (.cells cur t fz)) :
    (w.setRow g new).heap[g]? = some (.cells new t fz) ∧ (∀ b, b ≠ g → (w.setRow g new).heap[b]? = w.heap[b]?) ∧ (w.setRow g new).heap.size = w.heap.size ∧
    (w.setRow g new).os = w.os ∧ (w.setRow g new).tape = w.tape ∧ (w.setRow g new).output = w.output := by
  refine ⟨setRow_heap w g cur new t fz hg, fun b hb => ?_, ?_, rfl, rfl, rfl⟩
  · simp only [World.setRow, Array.getElem?_modify]
    rw [if_neg (by omega)]
  · simp [World.setRow]

theorem storeOwn_run (hb : TabOk P tb) (inv : Inv w₀ H₀ st a w H β) {t : TypeId} (hk : known tb t = true) {d off : Nat} {v : Value} {vs : List Value} {own' : Own}
    (hv : v.cells.toList = vs) (hl : vs.length = sizeD tb t) (h1 : ∀ x ∈ vs, x.oneCell' = true) (h : ownPut st.own d off vs = some own') :
    ∃ w', (Instr.storeAt t (.pointer (some ⟨β d, off, none⟩)) v).run P w = .ok () w' ∧ Inv w₀ H₀ { st with own := own' } a w' H β := by
  obtain ⟨cs, g1, g2, g3, g4⟩ := ownPut_sound h
  obtain ⟨cur, e, k1, k2, k3, k4, k5⟩ := inv.own d cs g1
  have hsz : v.cells.size = sizeD tb t := by rw [← hl, ← hv]; simp
  have hrun := run_storeCells_at (P := P) (β d) off e vs 0 cur w k1 (by rw [k2]; simpa using g2) h1
  obtain ⟨s1, s2, s3, s4, s5, s6⟩ := setRow_get w (β d) cur (cur.toList.take (off + 0) ++ vs ++ cur.toList.drop (off + 0 + vs.length)).toArray e (0, 0) k1
  refine ⟨_, by rw [storeVar_run hb hk hsz, hv]; exact hrun, ?_⟩
  refine ⟨inv.size, inv.tm, inv.defers, ⟨fun b o hbo => ?_, s4.trans inv.up.os, s5.trans inv.up.tape, s6.trans inv.up.output, by rw [s3]; exact inv.up.size, fun b hb' hn => ?_, inv.up.dom⟩, fun d' cs' hd' => ?_, fun x y hx hy => ?_⟩
  · rw [s2 b (fun he => by subst he; rw [k4] at hbo; cases hbo)]; exact inv.up.on b o hbo
  · rw [s2 b (by omega)]; exact inv.up.keep b hb' hn
  · by_cases he : d' = d
    · subst he
      rw [show ({ st with own := own' } : St).own d' = _ from g3] at hd'
      cases hd'
      refine ⟨_, e, s1, ?_, fun i c hc => ?_, k4, k5⟩
      · simp; omega
      · rw [List.getElem?_append] at hc
        split at hc
        · rename_i hlt
          rw [List.getElem?_append] at hc
          split at hc
          · rename_i hlt2
            rw [List.getElem?_take] at hc
            split at hc
            · rename_i hoff
              have := k3 i c hc
              simp only [List.getElem?_toArray]
              rw [List.getElem?_append, if_pos (by simp at hlt ⊢; omega), List.getElem?_append, if_pos (by simp at hlt2 ⊢; omega), List.getElem?_take, if_pos (by omega)]
              simpa using this
            · cases hc
          · rename_i hge
            have hc' : vs[i - (List.take off cs).length]? = some c := by
              rw [List.getElem?_map] at hc
              cases e9 : vs[i - (List.take off cs).length]? with
              | none => rw [e9] at hc; cases hc
              | some y => rw [e9] at hc; simp at hc; rw [hc]
            simp at hge hlt
            simp only [List.getElem?_toArray]
            have hcl : (List.take (off + 0) cur.toList).length = off := by simp; omega
            have hcl2 : (List.take off cs).length = off := by simp; omega
            rw [List.getElem?_append, if_pos (by simp; omega), List.getElem?_append, if_neg (by rw [hcl]; omega), hcl]
            rw [← hc', hcl2]
        · rename_i hge
          have hcl2 : (List.take off cs ++ List.map some vs).length = off + vs.length := by simp; omega
          rw [hcl2] at hc hge
          simp at hc
          simp only [List.getElem?_toArray]
          have hcl : (List.take (off + 0) cur.toList ++ vs).length = off + vs.length := by simp; omega
          rw [List.getElem?_append, if_neg (by rw [hcl]; omega), hcl]
          rw [List.getElem?_drop]
          have := k3 _ c hc
          simpa using this
    · rw [show ({ st with own := own' } : St).own d' = st.own d' from g4 d' he] at hd'
      obtain ⟨vs', e', m1, m2, m3, m4, m5⟩ := inv.own d' cs' hd'
      have hne : β d' ≠ β d := fun hbe => he (inv.inj d' d (by simp [hd']) (by simp [g1]) hbe)
      exact ⟨vs', e', by rw [s2 _ hne]; exact m1, m2, m3, m4, m5⟩
  · have hx' : st.own x ≠ none := by
      by_cases e : x = d
      · subst e; simp [g1]
      · rw [← g4 x e]; exact hx
    have hy' : st.own y ≠ none := by
      by_cases e : y = d
      · subst e; simp [g1]
      · rw [← g4 y e]; exact hy
    exact inv.inj x y hx' hy'
end
end Go.Den

/-
  The readable weakest precondition (Den) is sound: one operation.
-/
namespace Go.Den
set_option linter.unusedSectionVars false
set_option linter.unusedSimpArgs false
set_option linter.unusedVariables false
open Go
set_option linter.unusedVariables false
set_option linter.unusedSimpArgs false
section
variable [DF] {P : Program} {tb : List Row} {β : Nat → Nat} {w w' w₀ : World} {H H' H₀ : HP} {st : St} {a : Act}

theorem storeCells_put (g o : Nat) (t : TypeId) (fz : Nat × Nat) : ∀ (vs : List Value) (i : Nat) (cur : Array Value) (w : World), w.heap[g]? = some (.cells cur t fz) → o + i + vs.length ≤ cur.size →
    (∀ j, j < vs.length → (fz.1 ≤ o + i + j && o + i + j < fz.2) = false) → (∀ v ∈ vs, v.oneCell' = true) →
    (storeCells ⟨g, o, none⟩ vs i).run P w = .ok () (w.setRow g (cur.toList.take (o + i) ++ vs ++ cur.toList.drop (o + i + vs.length)).toArray)
  | [], i, cur, w, hg, _, _, _ => by
    simp only [storeCells, List.append_nil, List.length_nil, Nat.add_zero, List.take_append_drop, Array.toArray_toList]
    rw [setRow_self w g cur t fz hg]
    rfl
  | v :: rest, i, cur, w, hg, hl, hf, h1 => by
    have hi : o + i < cur.size := by simp at hl; omega
    have hadd : (⟨g, o, none⟩ : Addr).add i = ⟨g, o + i, none⟩ := add_own g o i
    have hcell : w.cell? ⟨g, o + i, none⟩ = some cur[o + i] := by simp [World.cell?, hg, hi]
    have hfro : w.frozen? ⟨g, o + i, none⟩ = false := by
      have := hf 0 (by simp)
      simp only [World.frozen?, hg]
      simpa using this
    have hst : (store ((⟨g, o, none⟩ : Addr).add i) v).run P w = .ok () (w.setRow g (cur.setIfInBounds (o + i) v)) := by
      rw [hadd, run_store P w _ v _ (h1 v (by simp)), hcell]
      simp [hfro, setCell_eq_setRow w g (o + i) cur t fz v hg]
    have ih := storeCells_put g o t fz rest (i + 1) (cur.setIfInBounds (o + i) v) (w.setRow g (cur.setIfInBounds (o + i) v)) (setRow_heap w g cur _ t _ hg) (by simp at hl ⊢; omega)
      (fun j hj => by have := hf (j + 1) (by simp; omega); rwa [show o + i + (j + 1) = o + (i + 1) + j by omega] at this) (fun x hx => h1 x (by simp [hx]))
    simp only [storeCells, Sem.run_bind, hst, Result.andThen_ok, ih, setRow_setRow]
    congr 2
    have hk : o + i < cur.toList.length := by simpa using hi
    simp only [Array.toList_setIfInBounds, List.length_cons]
    rw [show o + (i + 1) = o + i + 1 from by omega, List.take_set, List.drop_set, if_pos (by omega), List.take_succ_eq_append_getElem hk,
      show o + i + 1 + rest.length = o + i + (rest.length + 1) from by omega]
    have : (List.take (o + i) cur.toList ++ [cur.toList[o + i]]).set (o + i) v = List.take (o + i) cur.toList ++ [v] := by
      rw [List.set_append]
      have hl : (List.take (o + i) cur.toList).length = o + i := by simp at hk ⊢; omega
      rw [hl, if_neg (by omega)]
      simp
    rw [this]
    simp

theorem store_run (hb : TabOk P tb) (on : H.on w) {t : TypeId} (hk : known tb t = true) {ad : Addr} {v : Value} {vs : List Value} (hv : v.cells.toList = vs) (hl : vs.length = sizeD tb t)
    (h0 : 1 ≤ vs.length) (h1 : ∀ x ∈ vs, x.oneCell' = true) (hc : ∀ i, i < vs.length → H.cell? (ad.add i) ≠ none ∧ H.free (ad.add i)) :
    ∃ w', (Instr.storeAt t (.pointer (some ad)) v).run P w = .ok () w' ∧ Up H (H.put ad vs) w w' := by
  obtain ⟨b, o, sp⟩ := ad
  have hc0 := (hc 0 (by omega)).1
  rw [add_zero] at hc0
  unfold HP.cell? at hc0
  cases e : H b with
  | none => simp [e] at hc0
  | some ob =>
    simp only [e] at hc0
    cases ob <;> try (simp at hc0; done)
    rename_i cur ty fz
    simp only at hc0
    have hsp : sp = none := by
      cases sp with
      | none => rfl
      | some _ => simp at hc0
    subst hsp
    have hg := on b _ e
    have hsz : o + vs.length ≤ cur.size := by
      have := (hc (vs.length - 1) (by omega)).1
      rw [add_own] at this
      simp only [HP.cell?, e] at this
      have h3 : o + (vs.length - 1) < cur.size := by
        rcases Nat.lt_or_ge (o + (vs.length - 1)) cur.size with h' | h'
        · exact h'
        · simp [Array.getElem?_eq_none h'] at this
      omega
    have hcs : v.cells.size = sizeD tb t := by rw [← hl, ← hv]; simp
    have hrun := storeCells_put (P := P) b o ty fz vs 0 cur w hg (by simpa using hsz) (fun j hj => by
      have := (hc j hj).2
      rw [add_own] at this
      simp only [HP.free, e] at this
      simpa using this) h1
    obtain ⟨s1, s2, s3, s4, s5, s6⟩ := setRow_get w b cur (cur.toList.take (o + 0) ++ vs ++ cur.toList.drop (o + 0 + vs.length)).toArray ty fz hg
    refine ⟨_, by rw [storeVar_run hb hk hcs, hv]; exact hrun, ?_⟩
    have hput : H.put ⟨b, o, none⟩ vs = H.set b (.cells ⟨writeL cur.toList o vs⟩ ty fz) := by simp [HP.put, e]
    rw [hput]
    refine ⟨fun x ob hx => ?_, s4, s5, s6, by rw [s3]; exact Nat.le_refl _, fun x hx hn => ?_, fun x hx => ?_⟩
    · unfold HP.set at hx
      split at hx
      · rename_i he; subst he; cases hx; exact s1
      · rename_i he; rw [s2 x he]; exact on x ob hx
    · exact s2 x (fun he => by subst he; rw [e] at hn; cases hn)
    · unfold HP.set at hx
      split at hx
      · rename_i he; subst he; exact .inl (by simp [e])
      · exact .inl hx

theorem opened_rel {t : TypeId} {κ : SV → W} {v : Value} (h : opened tb t κ v H) : ∃ s, RelV β s v ∧ κ s H := by
  unfold opened at h
  generalize shD tb t = sh at h
  cases sh with
  | none => exact ⟨.v v, rfl, h⟩
  | some sh =>
    obtain ⟨x, rfl, h⟩ := h
    rw [Sh.app_cur] at h
    exact ⟨.v (sh.val x), rfl, h⟩

theorem binP_eq (op : BinOp) (t : TypeId) (a b : Value) (x y : Operand) :
    ((do eqGuard op t x y a b; binOp op t a b) : Sem Value) = binP (isConstO x || isConstO y) op t a b := by
  have : eqGuard op t x y a b = eqGuard op t (bif (isConstO x || isConstO y) then .const .nilIface else .tmp 0) (.tmp 0) a b := by
    cases x <;> cases y <;> rfl
  unfold binP
  rw [this]

variable {Q : Ending → W} {esc : List Nat}

/-- what an operation leaves alone -/
structure AgrO (st : St) (own' : Own) (β β' : Nat → Nat) : Prop where
  tm : ∀ i d off, st.tm.getD i .junk = .own d off → β' d = β d
  own : ∀ d, st.own d ≠ none → β' d = β d
  fo : ∀ d, mem d st.fo = true → st.own d ≠ none → own' d = st.own d

theorem AgrO.rfl : AgrO st st.own β β := ⟨fun _ _ _ _ => by rfl, fun _ _ => by rfl, fun _ _ _ => by rfl⟩

theorem AgrO.new {d : Nat} {z : List Value} {n : Nat} (hn : anew st.tm st.own d = true) : AgrO st (ownNew st.own d z) β (fun x => if x = d then n else β x) := by
  unfold anew at hn
  simp only [Bool.and_eq_true, List.all_eq_true] at hn
  obtain ⟨hn1, hn2⟩ := hn
  have hnone : st.own d = none := by simpa using hn1
  have hne : ∀ x, st.own x ≠ none → x ≠ d := fun x hx he => by subst he; exact hx hnone
  refine ⟨fun i d' off he => ?_, fun d' hd => by rw [if_neg (hne d' hd)], fun d' _ hd => ?_⟩
  · rw [if_neg]
    intro hdd
    subst hdd
    rcases Nat.lt_or_ge i st.tm.length with hl | hl
    · have := hn2 st.tm[i] (List.getElem_mem hl)
      have e' : st.tm[i] = .own d' off := by simpa [List.getD, hl] using he
      rw [e'] at this
      simp at this
    · rw [List.getD_eq_getElem?_getD, List.getElem?_eq_none hl] at he; cases he
  · unfold ownNew
    cases e : Nat.beq d' d
    · rfl
    · exact absurd (Nat.eq_of_beq_eq_true e) (hne d' hd)

theorem AgrO.put {own' : Own} {d off : Nat} {vs : List Value} (hf : mem d st.fo = false) (h : ownPut st.own d off vs = some own') : AgrO st own' β β := by
  obtain ⟨cs, g1, g2, g3, g4⟩ := ownPut_sound h
  refine ⟨fun _ _ _ _ => by rfl, fun _ _ => by rfl, fun d' hm _ => g4 d' fun he => ?_⟩
  subst he
  rw [hf] at hm
  cases hm

/-- what an operation leaves -/
def OpPost (w₀ : World) (H₀ : HP) (st : St) (a : Act) (dst : Option Tmp) (β : Nat → Nat) (κ : SV → Own → W) : Act → World → Prop := fun a' w' =>
  ∃ v own' x β' H', a' = a.put dst x ∧ RelV β' v x ∧ Inv w₀ H₀ { st with own := own' } a w' H' β' ∧ AgrO st own' β β' ∧ κ v own' H'

theorem wp_ok {o : Oper} {next : Act → World → Prop} {Qr : Exit → Act → World → Prop} {r : Value} {w' : World} (h : (execOp a.eval o).run P w = .ok (.value r) w') (hn : next (a.put o.dst r) w') :
    o.wp P a w next Qr := by
  unfold Oper.wp
  rw [h]
  exact hn

theorem wp_skip' {o : Oper} {next : Act → World → Prop} {Qr : Exit → Act → World → Prop} {w' : World} (h : (execOp a.eval o).run P w = .ok .skip w') (hn : next (a.put o.dst undef) w') :
    o.wp P a w next Qr := by
  unfold Oper.wp
  rw [h]
  exact hn

theorem val_run {s : Sem Value} {r : Value} {w' : World} (h : s.run P w = .ok r w') : ((do pure (.value (← s)) : Sem Next)).run P w = .ok (.value r) w' := by
  rw [Sem.run_bind, h]; rfl

theorem unit_run {s : Sem Unit} {w' : World} (h : s.run P w = .ok () w') : ((do s; pure .skip) : Sem Next).run P w = .ok .skip w' := by
  rw [Sem.run_bind, h]; rfl

/-- an operation by its own run -/
theorem prim_wp (inv : Inv w₀ H₀ st a w H β) {o : Oper} {s : Sem Value} {κ : SV → Own → W} {Qr : Exit → Act → World → Prop}
    (he : execOp a.eval o = (do pure (.value (← s)))) (h : WPrim P s (opened tb o.type fun v => κ v st.own) H) :
    o.wp P a w (OpPost w₀ H₀ st a o.dst β κ) Qr := by
  obtain ⟨v, w', H', hr, hu, hk⟩ := h w inv.up.on
  obtain ⟨sv, hs, hκ⟩ := opened_rel (β := β) hk
  exact wp_ok (by rw [he]; exact val_run hr) ⟨sv, st.own, v, β, H', rfl, hs, inv.step hu, .rfl, hκ⟩

theorem prim_wp' (inv : Inv w₀ H₀ st a w H β) {o : Oper} {s : Sem Value} {κ : SV → Own → W} {Qr : Exit → Act → World → Prop}
    (he : execOp a.eval o = (do pure (.value (← s)))) (h : WPrim P s (fun v => κ (.v v) st.own) H) :
    o.wp P a w (OpPost w₀ H₀ st a o.dst β κ) Qr := by
  obtain ⟨v, w', H', hr, hu, hk⟩ := h w inv.up.on
  exact wp_ok (by rw [he]; exact val_run hr) ⟨.v v, st.own, v, β, H', rfl, rfl, inv.step hu, .rfl, hk⟩

theorem opt2_some {x y : Option Value} {k : Value → Value → W} (h : opt2 x y k H) : ∃ u v, x = some u ∧ y = some v ∧ k u v H := by
  unfold opt2 at h
  cases x <;> cases y <;> first | exact h.elim | exact ⟨_, _, rfl, rfl, h⟩

/-- A CALL. -/
theorem call_wp (hb : TabOk P tb) (inv : Inv w₀ H₀ st a w H β) {o : Oper} {f : Operand} {args : Array Operand} {ts : Array TypeId} {κ : SV → Own → W} {Qr : Exit → Act → World → Prop}
    (ho : o.op = .call { callee := .value f, args, argTypes := ts }) {g : FuncId} {vs : Array Value} (hc : callArgs (st.ev f) (args.toList.map st.ev) = some (g, vs))
    (hQp : ∀ c w' H', Up H₀ H' w₀ w' → Q (.panicked c) H' → Qr (.panic c) a w') (hQo : ∀ w' H', Up H₀ H' w₀ w' → Q .outgrown H' → LetsOut Qr)
    (h : WCall P Q g vs (opened tb o.type fun v => κ v st.own) H) : o.wp P a w (OpPost w₀ H₀ st a o.dst β κ) Qr := by
  unfold callArgs at hc
  split at hc
  · rename_i g' first cap vs' hf ha
    cases hc
    have hfe := ev_rel inv f
    rw [hf] at hfe
    simp only [RelV] at hfe
    have hargs : args.map a.eval = ⟨vs'⟩ := by rw [← Array.toList_inj, Array.toList_map]; exact allV_sound (fun x => ev_rel inv x) _ _ ha
    have he : execOp a.eval o = callFunc g ⟨first.toList ++ vs' ++ cap.toList⟩ := by
      unfold execOp
      rw [ho]
      simp only [resolve, hargs, hfe, Deferred.ofValue]
      refine Eq.trans (rfl : _ = invoke (Target.fn (Fn.func g) cap) (first ++ ⟨vs'⟩)) ?_
      simp only [invoke]
      congr 1
      apply Array.ext'
      simp
    unfold Oper.wp
    rw [he]
    rcases h w inv.up.on with ⟨hr, hcalls⟩ | ⟨v, w', H', hr, hu, hk⟩
    · rw [hr, Oper.upon_enter]
      refine hcalls.mono fun e w' ⟨H', hu, hq⟩ => ?_
      cases e with
      | returned v =>
        obtain ⟨sv, hs, hκ⟩ := opened_rel (β := β) hq
        exact ⟨sv, st.own, v, β, H', rfl, hs, inv.step hu, .rfl, hκ⟩
      | panicked c => exact hQp c w' H' (inv.up.trans hu) hq
      | outgrown => exact hQo w' H' (inv.up.trans hu) hq
    · rw [hr, Oper.upon_value]
      obtain ⟨sv, hs, hκ⟩ := opened_rel (β := β) hk
      exact ⟨sv, st.own, v, β, H', rfl, hs, inv.step hu, .rfl, hκ⟩
  · cases hc

theorem Inv.eta (inv : Inv w₀ H₀ st a w H β) : Inv w₀ H₀ { st with own := st.own } a w H β := inv

/-- ONE OPERATION. -/
theorem opW_sound (hb : TabOk P tb) (inv : Inv w₀ H₀ st a w H β) {o : Oper} {κ : SV → Own → W} {Qr : Exit → Act → World → Prop}
    (hQp : ∀ c w' H', Up H₀ H' w₀ w' → Q (.panicked c) H' → Qr (.panic c) a w') (hQo : ∀ w' H', Up H₀ H' w₀ w' → Q .outgrown H' → LetsOut Qr)
    (h : opW P tb Q esc st o κ H) : o.wp P a w (OpPost w₀ H₀ st a o.dst β κ) Qr := by
  have hρ := fun x => ev_rel inv x
  obtain ⟨Y, hX, h⟩ : ∃ Y, opW P tb Q esc st o κ = Y ∧ Y H := ⟨_, rfl, h⟩
  unfold opW at hX
  split at hX
  · rename_i v hv
    obtain ⟨r, hr, hrel⟩ := pureV_sound (P := P) (w := w) hb hρ hv
    subst hX
    exact wp_ok hr ⟨v, st.own, r, β, H, rfl, hrel, inv, .rfl, h⟩
  split at hX
  · rename_i ob hob
    subst hX
    obtain ⟨v, hy, hk⟩ := (Ob.W_iff ob _ H).1 h
    obtain ⟨r, hr, hrel⟩ := obV_sound (P := P) (w := w) hb hρ hob hy
    exact wp_ok hr ⟨v, st.own, r, β, H, rfl, hrel, inv, .rfl, hk⟩
  split at hX
  · -- alloc
    rename_i e d ho hd
    split at hX
    · rename_i z hz
      cases hkn : known tb e <;> rw [hkn] at hz
      · cases hz
      · simp only [cond_true] at hz
        obtain ⟨zv, hzr, hzl⟩ := zero_run (P := P) hb hkn hz w
        have hrun : (execOp a.eval o).run P w = .ok (.value (.pointer (some ⟨w.heap.size, 0, none⟩))) (w.alloc (.cells ⟨z⟩ e)) := by
          unfold execOp
          rw [ho]
          refine val_run ?_
          simp only [Instr.alloc, Sem.run_bind, hzr, Result.andThen_ok, newVar, newRow]
          have : zv.cells = ⟨z⟩ := by rw [← Array.toList_inj, hzl]
          rw [this]
          rfl
        cases he : mem d esc <;> rw [he] at hX
        · simp only [cond_false] at hX
          cases ha : anew st.tm st.own d <;> rw [ha] at hX
          · (subst hX; exact h.elim)
          · subst hX
            exact wp_ok hrun ⟨.own d 0, _, _, _, H, rfl, by simp [RelV], inv.new e z d ha, .new ha, h⟩
        · simp only [cond_true] at hX
          subst hX
          exact wp_ok hrun ⟨.adr ⟨w.heap.size, 0, none⟩, st.own, _, β, _, rfl, rfl, inv.step (Up.allocNew inv.up.on _), .rfl, h w.heap.size inv.up.on.fresh⟩
    · (subst hX; exact h.elim)
  · -- box
    rename_i e x d ho hd
    split at hX
    · rename_i z hz
      have hrun : (execOp a.eval o).run P w = .ok (.value (.pointer (some ⟨w.heap.size, 0, none⟩))) (w.alloc (.cells ⟨z⟩ e)) := by
        unfold execOp
        rw [ho]
        refine val_run ?_
        simp only [Instr.box, Sem.run_bind, newVar, newRow]
        have : (a.eval x).cells = ⟨z⟩ := by rw [← Array.toList_inj, (hρ x).cells hz]
        rw [this]
        rfl
      cases he : mem d esc <;> rw [he] at hX
      · simp only [cond_false] at hX
        cases ha : anew st.tm st.own d <;> rw [ha] at hX
        · (subst hX; exact h.elim)
        · subst hX
          exact wp_ok hrun ⟨.own d 0, _, _, _, H, rfl, by simp [RelV], inv.new e z d ha, .new ha, h⟩
      · simp only [cond_true] at hX
        subst hX
        exact wp_ok hrun ⟨.adr ⟨w.heap.size, 0, none⟩, st.own, _, β, _, rfl, rfl, inv.step (Up.allocNew inv.up.on _), .rfl, h w.heap.size inv.up.on.fresh⟩
    · (subst hX; exact h.elim)
  · -- buildSlice
    rename_i t n parts ho
    split at hX
    · rename_i e htd
      split at hX
      · rename_i z hz
        generalize hcnd : (known tb e && Nat.ble (n * sizeD tb e) 1000 && Nat.beq z.length (sizeD tb e) && Nat.ble 1 (sizeD tb e)) = cnd at hX
        cases cnd
        · (subst hX; exact h.elim)
        · simp only [cond_true] at hX
          simp only [Bool.and_eq_true] at hcnd
          obtain ⟨⟨⟨c1, c2⟩, c3⟩, c4⟩ := hcnd
          have c2 := Nat.le_of_ble_eq_true c2
          have c3 := Nat.eq_of_beq_eq_true c3
          have c4 := Nat.le_of_ble_eq_true c4
          split at hX
          · rename_i cs hf
            obtain ⟨_, dd, _, _, _, _, hu, _, _, _, hdd⟩ := td_spec hb htd (by simp)
            rw [tdOf_slice hdd] at hu
            obtain ⟨ie, de, ze, _, _, hie, _, hze, _, _, _, hs1, hs2, _⟩ := known_spec hb c1
            rw [hs2] at hz
            cases hz
            by_cases hn0 : n = 0
            · -- no cells at all
              subst hn0
              have hcs : cs = [] := by
                cases hp : parts.toList with
                | nil => simp [hp, fillL] at hf; exact hf
                | cons p ps =>
                  simp only [hp, List.map_cons, fillL] at hf
                  split at hf
                  · rename_i off size vs hpl hv
                    simp at hpl
                    generalize hc : (vs.length.beq size && Nat.ble (off + size) (List.replicate 0 ze.cells.toList).flatten.length) = cc at hf
                    cases cc
                    · cases hf
                    · simp only [Bool.and_eq_true] at hc
                      have := Nat.le_of_ble_eq_true hc.2
                      simp at this
                      omega
                  · cases hf
              subst hcs
              have hp : parts.toList = [] := by
                cases hp : parts.toList with
                | nil => rfl
                | cons p ps =>
                  exfalso
                  simp only [hp, List.map_cons, fillL] at hf
                  split at hf
                  · rename_i off size vs hpl hv
                    simp at hpl
                    generalize hc : (vs.length.beq size && Nat.ble (off + size) (List.replicate 0 ze.cells.toList).flatten.length) = cc at hf
                    cases cc
                    · cases hf
                    · simp only [Bool.and_eq_true] at hc
                      have := Nat.le_of_ble_eq_true hc.2
                      simp at this
                      omega
                  · cases hf
              have hpa : parts = #[] := by rw [← Array.toList_inj, hp]
              have hrun : (execOp a.eval o).run P w = .ok (.value (.slice (some ⟨w.heap.size, 0, none⟩) 0 0)) (w.alloc (.cells ⟨[]⟩ e)) := by
                unfold execOp
                rw [ho]
                refine val_run ?_
                simp [Instr.buildSlice, run_underlying hu, sizeOf_run hie, hpa, Instr.fill, newRow, show Array.range 0 = #[] from rfl]

              subst hX
              exact wp_ok hrun ⟨.v (.slice (some ⟨w.heap.size, 0, none⟩) 0 0), st.own, _, β, _, rfl, rfl, inv.step (Up.allocNew inv.up.on _), .rfl, h w.heap.size inv.up.on.fresh⟩
            · have hbase : ((Array.range (n * ie.size)).map (ze.cells[· % ze.cells.size]!)).toList = (List.replicate n ze.cells.toList).flatten := by
                have hlen : ∀ m, (List.replicate m ze.cells.toList).flatten.length = m * ze.cells.size := by
                  intro m; simp
                have hzs : ze.cells.size = ie.size := by rw [← hs1, ← c3]; simp
                apply List.ext_getElem?
                intro i
                have key : ∀ m i, i < m * ze.cells.size → (List.replicate m ze.cells.toList).flatten[i]? = ze.cells.toList[i % ze.cells.size]? := by
                  intro m
                  induction m with
                  | zero => intro i hi; simp at hi
                  | succ m ih =>
                    intro i hi
                    rw [List.replicate_succ, List.flatten_cons, List.getElem?_append]
                    split
                    · rename_i hlt
                      rw [Nat.mod_eq_of_lt (by simpa using hlt)]
                    · rename_i hge
                      simp only [Array.length_toList, Nat.not_lt] at hge ⊢
                      rw [ih (i - ze.cells.size) (by rw [Nat.succ_mul] at hi; omega)]
                      congr 1
                      conv => rhs; rw [show i = i - ze.cells.size + ze.cells.size by omega]
                      simp
                rw [Array.toList_map, List.getElem?_map]
                by_cases hi : i < n * ie.size
                · rw [key n i (by rw [hzs]; exact hi)]
                  have hr : (Array.range (n * ie.size)).toList[i]? = some i := by simp [hi]
                  rw [hr]
                  have hm : i % ze.cells.size < ze.cells.size := Nat.mod_lt _ (by rw [hzs, ← hs1]; omega)
                  simp [hm]
                · have hr : (Array.range (n * ie.size)).toList[i]? = none := by simp; omega
                  rw [hr]
                  rw [List.getElem?_eq_none (by rw [hlen, hzs]; omega)]
                  rfl
              have hparts : (parts.map fun (i, x) => (i, a.eval x)).toList = parts.toList.map fun p => (p.1, a.eval p.2) := by simp
              have hrel : ∀ (i : Nat) p q, (parts.toList.map fun p => (p.1, st.ev p.2))[i]? = some p → (parts.toList.map fun p => (p.1, a.eval p.2))[i]? = some q → p.1 = q.1 ∧ RelV β p.2 q.2 := by
                intro i p q h1 h2
                rw [List.getElem?_map] at h1 h2
                cases e : parts.toList[i]? with
                | none => simp [e] at h1
                | some z => simp [e] at h1 h2; subst h1 h2; exact ⟨rfl, hρ _⟩
              obtain ⟨r, hr1, hr2⟩ := fill_sound (β := β) _ _ (parts.toList.map fun p => (p.1, a.eval p.2)) ((Array.range (n * ie.size)).map (ze.cells[· % ze.cells.size]!)) cs (by simp) hrel (hbase ▸ hf)
              have hpos : 0 < n * ie.size := Nat.mul_pos (by omega) (by rw [← hs1]; omega)
              have hrs : r = ⟨cs⟩ := by rw [← Array.toList_inj, hr2]
              subst hrs
              have hrun : (execOp a.eval o).run P w = .ok (.value (.slice (some ⟨w.heap.size, 0, none⟩) n n)) (w.alloc (.cells ⟨cs⟩ e)) := by
                unfold execOp
                rw [ho]
                refine val_run ?_
                refine run_buildSlice w t e n _ ⟨cs⟩ ie ze hu hie hze (by rw [hs1] at c2; omega) (by omega) ?_
                rw [hparts, ← hr1, hs1]
              subst hX
              exact wp_ok hrun ⟨.v (.slice (some ⟨w.heap.size, 0, none⟩) n n), st.own, _, β, _, rfl, rfl, inv.step (Up.allocNew inv.up.on _), .rfl, h w.heap.size inv.up.on.fresh⟩
          · (subst hX; exact h.elim)
      · (subst hX; exact h.elim)
    · (subst hX; exact h.elim)
  · -- load
    rename_i t x ho
    cases hkn : known tb t <;> rw [hkn] at hX
    · (subst hX; exact h.elim)
    · simp only [Bool.not_true, cond_false] at hX
      have hx := hρ x
      have hex : ∀ {r : Value}, (Instr.loadAt t (a.eval x)).run P w = .ok r w → (execOp a.eval o).run P w = .ok (.value r) w := by
        intro r hr
        unfold execOp
        rw [ho]
        exact val_run hr
      split at hX
      · rename_i d off e
        rw [e] at hx; simp only [RelV] at hx
        split at hX
        · rename_i v hv
          obtain ⟨r, hr, rfl⟩ := loadOwn_run hb inv hkn hv
          rw [← hx] at hr
          subst hX
          exact wp_ok (hex hr) ⟨.v r, st.own, r, β, H, rfl, rfl, inv, .rfl, h⟩
        · (subst hX; exact h.elim)
      · rename_i ad e
        rw [e] at hx; simp only [RelV] at hx
        split at hX
        · rename_i sh hs
          subst hX
          obtain ⟨y, hy, h⟩ := h
          rw [Sh1.app_cur] at h
          exact wp_ok (hex (by rw [hx]; exact load_run hb inv.up.on hkn hs hy)) ⟨.v (sh.val y), st.own, _, β, H, rfl, rfl, inv, .rfl, h⟩
        · (subst hX; exact h.elim)
      · rename_i p e
        rw [e] at hx; simp only [RelV] at hx
        split at hX
        · rename_i sh hs
          subst hX
          obtain ⟨ad, rfl, y, hy, h⟩ := h
          rw [Sh1.app_cur] at h
          exact wp_ok (hex (by rw [hx]; exact load_run hb inv.up.on hkn hs hy)) ⟨.v (sh.val y), st.own, _, β, H, rfl, rfl, inv, .rfl, h⟩
        · (subst hX; exact h.elim)
      · (subst hX; exact h.elim)
  · -- store
    rename_i t x y ho
    split at hX
    · rename_i vs hv
      generalize hcnd : (Nat.beq vs.length (sizeD tb t) && vs.all Value.oneCell' && known tb t) = cnd at hX
      cases cnd
      · (subst hX; exact h.elim)
      · simp only [cond_true] at hX
        simp only [Bool.and_eq_true] at hcnd
        obtain ⟨⟨c1, c2⟩, c3⟩ := hcnd
        have c1 := Nat.eq_of_beq_eq_true c1
        have c2 : ∀ z ∈ vs, z.oneCell' = true := by simpa using c2
        have hy := (hρ y).cells hv
        have hx := hρ x
        have hex : ∀ {w' : World}, (Instr.storeAt t (a.eval x) (a.eval y)).run P w = .ok () w' → (execOp a.eval o).run P w = .ok .skip w' := by
          intro w' hr
          unfold execOp
          rw [ho]
          exact unit_run hr
        split at hX
        · rename_i d off e
          rw [e] at hx; simp only [RelV] at hx
          cases hfo : mem d st.fo <;> rw [hfo] at hX
          · simp only [cond_false] at hX
            split at hX
            · rename_i own' hp
              obtain ⟨w', hr, hi⟩ := storeOwn_run hb inv c3 hy c1 c2 hp
              rw [← hx] at hr
              subst hX
              exact wp_skip' (hex hr) ⟨.junk, own', undef, β, H, rfl, trivial, hi, .put hfo hp, h⟩
            · (subst hX; exact h.elim)
          · (subst hX; exact h.elim)
        · rename_i ad e
          rw [e] at hx; simp only [RelV] at hx
          cases h1 : Nat.ble 1 vs.length <;> rw [h1] at hX
          · (subst hX; exact h.elim)
          · simp only [cond_true] at hX
            subst hX
            obtain ⟨hc, h⟩ := h
            obtain ⟨w', hr, hu⟩ := store_run hb inv.up.on c3 hy c1 (Nat.le_of_ble_eq_true h1) c2 hc
            rw [← hx] at hr
            exact wp_skip' (hex hr) ⟨.junk, st.own, undef, β, _, rfl, trivial, inv.step hu, .rfl, h⟩
        · rename_i p e
          rw [e] at hx; simp only [RelV] at hx
          cases h1 : Nat.ble 1 vs.length <;> rw [h1] at hX
          · (subst hX; exact h.elim)
          · simp only [cond_true] at hX
            subst hX
            obtain ⟨ad, rfl, hc, h⟩ := h
            obtain ⟨w', hr, hu⟩ := store_run hb inv.up.on c3 hy c1 (Nat.le_of_ble_eq_true h1) c2 hc
            rw [← hx] at hr
            exact wp_skip' (hex hr) ⟨.junk, st.own, undef, β, _, rfl, trivial, inv.step hu, .rfl, h⟩
        · (subst hX; exact h.elim)
    · (subst hX; exact h.elim)
  · -- binOp
    rename_i op t x y ix ho
    subst hX
    obtain ⟨u, v, hu, hv, h⟩ := opt2_some h
    refine prim_wp inv ?_ h
    unfold execOp
    rw [ho]
    simp only [(hρ x).val hu, (hρ y).val hv]
    rw [← binP_eq op t u v x y]
  · -- convert
    rename_i s d x ho
    subst hX
    obtain ⟨u, v, hu, hv, h⟩ := opt2_some h
    refine prim_wp inv ?_ h
    unfold execOp
    rw [ho]
    simp only [(hρ x).val hu]
  · -- makeMap
    rename_i t ho
    subst hX
    refine prim_wp inv ?_ h
    unfold execOp
    rw [ho]
    rfl
  · -- lookup
    rename_i t x i ok ho
    subst hX
    obtain ⟨u, v, hu, hv, h⟩ := opt2_some h
    refine prim_wp inv ?_ h
    unfold execOp
    rw [ho]
    simp only [(hρ x).val hu, (hρ i).val hv]
  · -- mapUpdate
    rename_i t m k x ho
    subst hX
    obtain ⟨u, v, hu, hv, h⟩ := opt2_some h
    obtain ⟨c, c', hc, _, h⟩ := opt2_some h
    obtain ⟨w', H', hr, hup, hk⟩ := h w inv.up.on
    refine wp_skip' (w' := w') ?_ ⟨.junk, st.own, undef, β, H', rfl, trivial, inv.step hup, .rfl, hk⟩
    unfold execOp
    rw [ho]
    simp only [(hρ m).val hu, (hρ k).val hv, (hρ x).val hc]
    exact unit_run hr
  · -- makeSlice
    rename_i t l c ho
    subst hX
    obtain ⟨u, v, hu, hv, h⟩ := opt2_some h
    refine prim_wp inv ?_ h
    unfold execOp
    rw [ho]
    simp only [(hρ l).val hu, (hρ c).val hv]
  · -- slice
    rename_i t x lo hi mx ho
    split at hX
    · rename_i a' l' h' m' e1 e2 e3 e4
      subst hX
      refine prim_wp inv ?_ h
      unfold execOp
      rw [ho]
      have f : ∀ (z : Option Operand) (v : Value), z.map (fun y => (st.ev y).val?) = some (some v) → z.map a.eval = some v := by
        intro z v hz
        cases z with
        | none => simp at hz
        | some z => simp at hz ⊢; exact (hρ z).val hz
      simp only [(hρ x).val e1, f _ _ e2, f _ _ e3, f _ _ e4]
    · (subst hX; exact h.elim)
  · -- typeAssert
    rename_i x t u ok ho
    subst hX
    obtain ⟨u', v, hu, hv, h⟩ := opt2_some h
    refine prim_wp inv ?_ h
    unfold execOp
    rw [ho]
    simp only [(hρ x).val hu]
  · -- range
    rename_i t x ho
    subst hX
    obtain ⟨u', v, hu, hv, h⟩ := opt2_some h
    refine prim_wp' inv ?_ h
    unfold execOp
    rw [ho]
    simp only [(hρ x).val hu]
  · -- next
    rename_i x s ho
    subst hX
    obtain ⟨u', v, hu, hv, h⟩ := opt2_some h
    refine prim_wp' inv ?_ h
    unfold execOp
    rw [ho]
    simp only [(hρ x).val hu]
  · -- panic
    rename_i x ho
    split at hX
    · rename_i t v e
      subst hX
      unfold Oper.wp
      have : (execOp a.eval o).run P w = .halt (.panic (.iface t v)) w := by
        unfold execOp
        rw [ho]
        simp only [(hρ x).val e]
        rfl
      rw [this, Oper.upon_panic]
      exact hQp _ _ _ inv.up h
    · (subst hX; exact h.elim)
  · -- call
    rename_i f args ts ho
    split at hX
    · rename_i g vs e
      subst hX
      exact call_wp hb inv ho e hQp hQo h
    · (subst hX; exact h.elim)
  · -- builtin
    rename_i b args ts ho
    split at hX
    · rename_i vs e
      have hargs : args.map a.eval = ⟨vs⟩ := by rw [← Array.toList_inj, Array.toList_map]; exact allV_sound hρ _ _ e
      split at hX
      all_goals first
        | (subst hX; exact h.elim)
        | (subst hX
           refine prim_wp inv ?_ h
           unfold execOp
           rw [ho]
           simp only [resolve, hargs]
           rfl)
    · (subst hX; exact h.elim)
  · subst hX
    exact h.elim
end
end Go.Den

