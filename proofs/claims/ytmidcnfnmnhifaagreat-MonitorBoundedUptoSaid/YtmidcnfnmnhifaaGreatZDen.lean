/-
  The readable weakest precondition of a loaded function: definitions alone (no statement is proved here).
-/
import Derived.Orders
import Derived.KernelRfl
import Derived.Below
namespace Go.Den
set_option linter.unusedSectionVars false
set_option linter.unusedSimpArgs false
set_option linter.unusedVariables false

/-! ### Partial views of the heap -/
abbrev HP := Nat → Option Obj
abbrev W := HP → Prop

def HP.on (H : HP) (w : World) : Prop := ∀ b o, H b = some o → w.heap[b]? = some o

def HP.cell? (H : HP) (a : Addr) : Option Value :=
  match H a.block with
  | some (.cells c _ _) => if a.spot.isSome then none else c[a.off]?
  | _ => none

def HP.free (H : HP) (a : Addr) : Prop :=
  match H a.block with
  | some (.cells _ _ (lo, hi)) => (lo ≤ a.off && a.off < hi) = false
  | _ => False

def HP.has (H : HP) (a : Addr) (vs : List Value) : Prop := ∀ i v, vs[i]? = some v → H.cell? (a.add i) = some v

def HP.set (H : HP) (b : Nat) (o : Obj) : HP := fun x => if x = b then some o else H x

def writeL (c : List Value) (off : Nat) (vs : List Value) : List Value := c.take off ++ vs ++ c.drop (off + vs.length)

def HP.put (H : HP) (a : Addr) (vs : List Value) : HP :=
  match H a.block with
  | some (.cells c e f) => H.set a.block (.cells ⟨writeL c.toList a.off vs⟩ e f)
  | _ => H

structure Up (H H' : HP) (w w' : World) : Prop where
  on : H'.on w'
  os : w'.os = w.os
  tape : w'.tape = w.tape
  output : w'.output = w.output
  size : w.heap.size ≤ w'.heap.size
  keep : ∀ b, b < w.heap.size → H b = none → w'.heap[b]? = w.heap[b]?
  dom : ∀ b, H' b ≠ none → H b ≠ none ∨ w.heap.size ≤ b

/-- A call's contract, with its frame in it. -/
def Spec (P : Program) (f : FuncId) (args : Array Value) (H : HP) (Q : Ending → W) : Prop :=
  ∀ w, H.on w →
    ((callFunc f args).run P w = .ok (.enter f args) w ∧ Calls P f args w fun e w' => ∃ H', Up H H' w w' ∧ Q e H') ∨
    (∃ v w' H', (callFunc f args).run P w = .ok (.value v) w' ∧ Up H H' w w' ∧ Q (.returned v) H')

/-! ### Shapes of values -/
inductive Lf where
  | i (k : IntKind) | b | s | p | sl | m | any

def Lf.Ty : Lf → Type
  | .i _ => Int | .b => Bool | .s => ByteArray | .p => Option Addr | .sl => Option Addr × Nat × Nat | .m => Option Nat | .any => Value

def Lf.val : (x : Lf) → x.Ty → Value
  | .i k, n => .int k n | .b, q => .bool q | .s, q => .string q | .p, q => .pointer q
  | .sl, q => .slice q.1 q.2.1 q.2.2 | .m, q => .map q | .any, q => q

def Tys : List Lf → Type
  | [] => Unit
  | x :: xs => x.Ty × Tys xs

def vals : (l : List Lf) → Tys l → List Value
  | [], _ => []
  | x :: xs, t => x.val t.1 :: vals xs t.2

inductive Sh1 where
  | l (x : Lf) | agg (xs : List Lf)

def Sh1.Ty : Sh1 → Type
  | .l x => x.Ty | .agg xs => Tys xs

def Sh1.val : (s : Sh1) → s.Ty → Value
  | .l x, t => x.val t | .agg xs, t => .agg ⟨vals xs t⟩

def Sh1.cells : (s : Sh1) → s.Ty → List Value
  | .l x, t => [x.val t] | .agg xs, t => vals xs t

def Tys1 : List Sh1 → Type
  | [] => Unit
  | x :: xs => x.Ty × Tys1 xs

def vals1 : (l : List Sh1) → Tys1 l → List Value
  | [], _ => []
  | x :: xs, t => x.val t.1 :: vals1 xs t.2

inductive Sh where
  | one (x : Sh1) | tup (xs : List Sh1)

def Sh.Ty : Sh → Type
  | .one x => x.Ty | .tup xs => Tys1 xs

def Sh.val : (s : Sh) → s.Ty → Value
  | .one x, t => x.val t | .tup xs, t => .tuple ⟨vals1 xs t⟩

/-! ### Functions of a shape's leaves, one behind the other -/
def Lf.Cur (x : Lf) (R : Type) : Type :=
  match x with
  | .i _ => Int → R | .b => Bool → R | .s => ByteArray → R | .p => Option Addr → R | .sl => Option Addr → Nat → Nat → R | .m => Option Nat → R | .any => Value → R

def Lf.cur {R : Type} : (x : Lf) → (x.Ty → R) → x.Cur R
  | .i _, f => f | .b, f => f | .s, f => f | .p, f => f | .sl, f => fun a n c => f (a, n, c) | .m, f => f | .any, f => f

def Lf.app {R : Type} : (x : Lf) → x.Cur R → x.Ty → R
  | .i _, g, t => g t | .b, g, t => g t | .s, g, t => g t | .p, g, t => g t | .sl, g, t => g t.1 t.2.1 t.2.2 | .m, g, t => g t | .any, g, t => g t

def LsCur : List Lf → Type → Type
  | [], R => R
  | x :: l, R => x.Cur (LsCur l R)

def lsCur {R : Type} : (l : List Lf) → (Tys l → R) → LsCur l R
  | [], f => f ()
  | x :: l, f => x.cur fun a => lsCur l fun t => f (a, t)

def lsApp {R : Type} : (l : List Lf) → LsCur l R → Tys l → R
  | [], g, _ => g
  | x :: l, g, t => lsApp l (x.app g t.1) t.2

def Sh1.Cur (s : Sh1) (R : Type) : Type :=
  match s with
  | .l x => x.Cur R | .agg xs => LsCur xs R

def Sh1.cur {R : Type} : (s : Sh1) → (s.Ty → R) → s.Cur R
  | .l x, f => x.cur f | .agg xs, f => lsCur xs f

def Sh1.app {R : Type} : (s : Sh1) → s.Cur R → s.Ty → R
  | .l x, g, t => x.app g t | .agg xs, g, t => lsApp xs g t

def L1Cur : List Sh1 → Type → Type
  | [], R => R
  | x :: l, R => x.Cur (L1Cur l R)

def l1Cur {R : Type} : (l : List Sh1) → (Tys1 l → R) → L1Cur l R
  | [], f => f ()
  | x :: l, f => x.cur fun a => l1Cur l fun t => f (a, t)

def l1App {R : Type} : (l : List Sh1) → L1Cur l R → Tys1 l → R
  | [], g, _ => g
  | x :: l, g, t => l1App l (x.app g t.1) t.2

def Sh.Cur (s : Sh) (R : Type) : Type :=
  match s with
  | .one x => x.Cur R | .tup xs => L1Cur xs R

def Sh.cur {R : Type} : (s : Sh) → (s.Ty → R) → s.Cur R
  | .one x, f => x.cur f | .tup xs, f => l1Cur xs f

def Sh.app {R : Type} : (s : Sh) → s.Cur R → s.Ty → R
  | .one x, g, t => x.app g t | .tup xs, g, t => l1App xs g t

/-! ### The words of a weakest precondition -/
def WFalse : W := fun _ => False
def WIf (b : Bool) (A B : W) : W := fun H => (b = true → A H) ∧ (b = false → B H)
def WAnd (A B : W) : W := fun H => A H ∧ B H
def WReq (p : Prop) (k : W) : W := fun H => p ∧ k H
def WNonNil (p : Option Addr) (k : Addr → W) : W := fun H => ∃ a, p = some a ∧ k a H
def WIndex (a : Option Addr) (len : Nat) (i : Int) (k : Addr → W) : W := fun H => ∃ x, a = some x ∧ 0 ≤ i ∧ i < (len : Int) ∧ k x H
def WByte (s : ByteArray) (i : Int) (k : UInt8 → W) : W := fun H => ∃ c, 0 ≤ i ∧ s[i.toNat]? = some c ∧ k c H
def WOpen (sh : Sh) (k : sh.Cur W) (v : Value) : W := fun H => ∃ x, v = sh.val x ∧ sh.app k x H
def WCall (P : Program) (Q : Ending → W) (f : FuncId) (args : Array Value) (k : Value → W) : W := fun H =>
  Spec P f args H fun
    | .returned v => k v
    | e => Q e
def WLoad (a : Addr) (sh : Sh1) (k : sh.Cur W) : W := fun H => ∃ x, H.has a (sh.cells x) ∧ sh.app k x H
def WStore (a : Addr) (vs : List Value) (k : W) : W := fun H =>
  (∀ i, i < vs.length → H.cell? (a.add i) ≠ none ∧ H.free (a.add i)) ∧ k (H.put a vs)
def WNew (vs : List Value) (e : TypeId) (k : Nat → W) : W := fun H => ∀ b, H b = none → k b (H.set b (.cells ⟨vs⟩ e))
def WPrim (P : Program) (s : Sem Value) (k : Value → W) : W := fun H =>
  ∀ w, H.on w → ∃ v w' H', s.run P w = .ok v w' ∧ Up H H' w w' ∧ k v H'
def WPrimU (P : Program) (s : Sem Unit) (k : W) : W := fun H =>
  ∀ w, H.on w → ∃ w' H', s.run P w = .ok () w' ∧ Up H H' w w' ∧ k H'
def WHeld (l : List (Addr × List Value)) (k : W) : W := fun H => (∀ x ∈ l, H.has x.1 x.2) ∧ k H
def WJoin {σ : Type} (A : (σ → W) → W) (B : σ → W) : W := fun H => ∃ J : σ → HP → Prop, A J H ∧ ∀ x H, J x H → B x H
def WLoop {σ : Type} (x₀ : σ) (body : σ → (σ → W) → W) : W := fun H =>
  ∃ (I : σ → HP → Prop) (μ : σ → HP → Nat), I x₀ H ∧ ∀ x H, I x H → body x (fun x' H' => I x' H' ∧ μ x' H' < μ x H) H

/-- a value and a number, told by two cells -/
def WRet (Q : Ending → W) (a b : Addr) : W := WLoad a (.agg [.i .i64, .i .i64, .s, .sl]) fun (k n : Int) (s : ByteArray) (x : Option Addr) (l c : Nat) =>
  WLoad b (.l (.i .i64)) fun (e : Int) => Q (.returned (.tuple #[.agg #[.int .i64 k, .int .i64 n, .string s, .slice x l c], .int .i64 e]))
/-- a stop is recovered: the cells tell nothing, and its number -/
def WRec (Q : Ending → W) (a b : Addr) (e : Ending) : W := fun H =>
  (∃ n, e = .panicked [⟨.iface 149 (.agg #[.int .i64 n]), false, false⟩] ∧
    WStore a [.int .i64 0, .int .i64 0, .string (ByteArray.mk #[]), .slice none 0 0] (WStore b [.int .i64 n] (WRet Q a b)) H) ∨ (e = .outgrown ∧ Q .outgrown H)

/-! ### The state of the evaluation -/
inductive SV where
  | v (x : Value) | lit (b : Bool) | own (d off : Nat) | adr (a : Addr) | junk

def SV.val? : SV → Option Value
  | .v x => some x | .lit b => some (.bool b) | .adr a => some (.pointer (some a)) | _ => none

def SV.bool? : SV → Option Bool
  | .v (.bool b) => some b | .lit b => some b | _ => none

abbrev Own := Nat → Option (List (Option Value))

structure St where
  tm : List SV
  own : Own
  fr : Option (List Nat)
  fo : List Nat

noncomputable def mem (d : Nat) (l : List Nat) : Bool :=
  List.rec (motive := fun _ => Bool) false (fun x _ ih => cond (Nat.beq d x) true ih) l

noncomputable def okW : Option (List Nat) → Nat → Bool
  | none, _ => true
  | some l, d => mem d l

noncomputable def setK {α : Type} (l : List SV) : Nat → SV → (List SV → α) → α :=
  List.rec (motive := fun _ => Nat → SV → (List SV → α) → α) (fun _ _ k => k [])
    (fun x xs ih n v k => Nat.rec (motive := fun _ => α) (k (v :: xs)) (fun m _ => ih m v fun l => k (x :: l)) n) l

noncomputable def getL {α : Type} (z : α) (l : List α) : Nat → α :=
  List.rec (motive := fun _ => Nat → α) (fun _ => z) (fun x _ ih n => Nat.rec (motive := fun _ => α) x (fun m _ => ih m) n) l

noncomputable def getO {α : Type} (l : List α) : Nat → Option α :=
  List.rec (motive := fun _ => Nat → Option α) (fun _ => none) (fun x _ ih n => Nat.rec (motive := fun _ => Option α) (some x) (fun m _ => ih m) n) l

noncomputable def St.put (st : St) (dst : Option Nat) (v : SV) (κ : St → W) : W :=
  match dst with
  | none => κ st
  | some d => bif okW st.fr d then setK st.tm d v fun l => κ { st with tm := l } else WFalse

noncomputable def St.ev (st : St) : Operand → SV
  | .tmp t => getL .junk st.tm t
  | .const (.bool b) => .lit b
  | .const x => .v x
  | .global g => .adr ⟨g, 0, none⟩
  | .func f => .v (.func (.func f) #[] #[])

/-- a slot whose value has been learnt -/
noncomputable def St.refine (st : St) (c : Operand) (v : SV) (κ : St → W) : W :=
  match c with
  | .tmp t => setK st.tm t v fun l => κ { st with tm := l }
  | _ => κ st

/-! ### What the program's tables say of types: a list of rows, held against the program elsewhere -/
inductive TD where
  | bool | int (k : IntKind) | str | ptr | slice (e : TypeId) | map | struct (fs : List (Nat × Nat × Bool)) | array (n size : Nat) | iface | func | other

structure Row where
  t : TypeId
  td : TD
  size : Nat
  zero : List Value
  sh : Option Sh

noncomputable def findT (t : TypeId) (l : List Row) : Option Row :=
  List.rec (motive := fun _ => Option Row) none (fun x _ ih => cond (Nat.beq x.t t) (some x) ih) l

section
variable (P : Program) (tb : List Row)

noncomputable def tdD (t : TypeId) : TD :=
  match findT t tb with
  | some r => r.td
  | none => .other

noncomputable def isAggD (t : TypeId) : Bool :=
  match tdD tb t with
  | .struct _ | .array .. => true
  | _ => false

noncomputable def sizeD (t : TypeId) : Nat :=
  match findT t tb with
  | some r => r.size
  | none => 0

noncomputable def known (t : TypeId) : Bool :=
  match findT t tb with
  | some r => match r.td with
    | .other => false
    | _ => true
  | none => false

noncomputable def zeroD (t : TypeId) : Option (List Value) :=
  match findT t tb with
  | some r => some r.zero
  | none => none

noncomputable def shD (t : TypeId) : Option Sh :=
  match findT t tb with
  | some r => r.sh
  | none => none

noncomputable def sh1D (t : TypeId) : Option Sh1 :=
  match shD tb t with
  | some (.one (.l x)) => bif isAggD tb t then none else some (.l x)
  | some (.one (.agg xs)) => bif isAggD tb t && Nat.beq xs.length (sizeD tb t) then some (.agg xs) else none
  | _ => none

/-! ### Operations that only compute -/
noncomputable def bitsD (op : BinOp) (k : IntKind) (x y : Int) : Option Int :=
  match op with
  | .and => some (k.wrap (BitVec.ofInt k.bits x &&& BitVec.ofInt k.bits y).toNat)
  | .or => some (k.wrap (BitVec.ofInt k.bits x ||| BitVec.ofInt k.bits y).toNat)
  | .xor => some (k.wrap (BitVec.ofInt k.bits x ^^^ BitVec.ofInt k.bits y).toNat)
  | .andNot => some (k.wrap (BitVec.ofInt k.bits x &&& ~~~ BitVec.ofInt k.bits y).toNat)
  | _ => none

noncomputable def intD (op : BinOp) (k : IntKind) (x y : Int) : Option Value :=
  match op with
  | .add => some (.int k (k.wrap (x + y)))
  | .sub => some (.int k (k.wrap (x - y)))
  | .mul => some (.int k (k.wrap (x * y)))
  | .eql => some (.bool (x == y))
  | .neq => some (.bool (x != y))
  | .lss => some (.bool (decide (x < y)))
  | .leq => some (.bool (decide (x ≤ y)))
  | .gtr => some (.bool (decide (x > y)))
  | .geq => some (.bool (decide (x ≥ y)))
  | .and | .or | .xor | .andNot => match bitsD op k x y with
    | some n => some (.int k n)
    | none => none
  | _ => none

def strD (op : BinOp) (x y : ByteArray) : Option Bool :=
  match op with
  | .eql => some (x.toList == y.toList)
  | .neq => some (!(x.toList == y.toList))
  | .lss => some (Op.bytesLess x.toList y.toList)
  | .leq => some (Op.bytesLess x.toList y.toList || x.toList == y.toList)
  | .gtr => some (!(Op.bytesLess x.toList y.toList || x.toList == y.toList))
  | .geq => some (!Op.bytesLess x.toList y.toList)
  | _ => none

def eqOp : BinOp → Bool → Option Bool
  | .eql, b => some b
  | .neq, b => some (!b)
  | _, _ => none

noncomputable def ptrT (t : TypeId) : Bool :=
  match tdD tb t with
  | .ptr => true
  | _ => false
noncomputable def sliceT (t : TypeId) : Bool :=
  match tdD tb t with
  | .slice _ => true
  | _ => false
noncomputable def mapT (t : TypeId) : Bool :=
  match tdD tb t with
  | .map => true
  | _ => false
noncomputable def boolT (t : TypeId) : Bool :=
  match tdD tb t with
  | .bool => true
  | _ => false

def kindEq (a b : IntKind) : Bool := decide (a = b)

def nilD (op : BinOp) (ok b : Bool) : Option SV := bif ok then match eqOp op b with
  | some r => some (.v (.bool r))
  | none => none else none

noncomputable def binV (op : BinOp) (t : TypeId) (x y : SV) : Option SV :=
  match x, y with
  | .v (.int k a), .v (.int k' b) => bif kindEq k k' then match intD op k a b with
      | some r => some (.v r)
      | none => none else none
  | .v (.string a), .v (.string b) => match strD op a b with
      | some r => some (.v (.bool r))
      | none => none
  | .v (.pointer p), .v (.pointer none) => nilD op (ptrT tb t) p.isNone
  | .own _ _, .v (.pointer none) | .adr _, .v (.pointer none) => bif ptrT tb t then match op with
      | .eql => some (.lit false)
      | .neq => some (.lit true)
      | _ => none else none
  | .v (.slice a _ _), .v (.slice none _ _) => nilD op (sliceT tb t) a.isNone
  | .v (.map r), .v (.map none) => nilD op (mapT tb t) r.isNone
  | .v (.bool a), .v (.bool b) => nilD op (boolT tb t) (a == b)
  | _, _ => none

def unV (op : UnOp) (x : SV) : Option SV :=
  match op, x with
  | .not, .lit b => some (.lit (!b))
  | .not, .v (.bool b) => some (.v (.bool (!b)))
  | .neg, .v (.int k n) => some (.v (.int k (k.wrap (0 - n))))
  | _, _ => none

noncomputable def convV (src dst : TypeId) (x : SV) : Option SV :=
  match tdD tb src, tdD tb dst, x with
  | .other, _, _ => none
  | _, .int k, .v (.int _ n) => some (.v (.int k (k.wrap n)))
  | _, .str, .v (.string s) => some (.v (.string s))
  | _, _, _ => none

def pickV (c a b : SV) : Option SV :=
  match c with
  | .lit t => some (bif t then a else b)
  | _ => none

noncomputable def fieldOff (s : TypeId) (f : Nat) : Option Nat :=
  match tdD tb s with
  | .struct fs => match getO fs f with
    | some (off, size, _) => bif Nat.beq size 0 then none else some off
    | none => none
  | _ => none

noncomputable def partL (agg : Bool) (n : Nat) (cs : List Value) (off : Nat) : Option Value :=
  bif agg then some (.agg ⟨(cs.drop off).take n⟩)
  else match getO cs off with
    | some x => some x
    | none => none

noncomputable def fieldV (t : TypeId) (x : SV) (f : Nat) : Option SV :=
  match tdD tb t, x with
  | .struct fs, .v (.agg cs) => match getO fs f with
    | some (off, size, agg) => match partL agg size cs.toList off with
      | some r => some (.v r)
      | none => none
    | none => none
  | _, _ => none

noncomputable def extractV (x : SV) (i : Nat) : Option SV :=
  match x with
  | .v (.tuple vs) => match getO vs.toList i with
    | some r => some (.v r)
    | none => none
  | _ => none

def svCells : SV → Option (List Value)
  | .v x => some x.cells.toList
  | .lit b => some [.bool b]
  | .adr a => some [.pointer (some a)]
  | _ => none

/-- a part laid into cells -/
noncomputable def fillL (place : Nat → Option (Nat × Nat)) : List Value → List (Nat × SV) → Option (List Value)
  | cs, [] => some cs
  | cs, (i, x) :: rest =>
    match place i, svCells x with
    | some (off, size), some vs =>
      bif Nat.beq vs.length size && Nat.ble (off + size) cs.length then fillL place (writeL cs off vs) rest else none
    | _, _ => none

noncomputable def buildV (t : TypeId) (parts : List (Nat × SV)) : Option SV :=
  match tdD tb t, zeroD tb t with
  | .struct fs, some z =>
    match fillL (fun i => match getO fs i with
      | some (off, size, _) => some (off, size)
      | none => none) z parts with
    | some cs => some (.v (.agg ⟨cs⟩))
    | none => none
  | .array _ n, some z =>
    match fillL (fun i => some (i * n, n)) z parts with
    | some cs => some (.v (.agg ⟨cs⟩))
    | none => none
  | _, _ => none

noncomputable def ifaceV (t : TypeId) (x : SV) : Option SV :=
  match tdD tb t with
  | .other | .func => none
  | .iface => none
  | _ => match x.val? with
    | some v => some (.v (.iface t v))
    | none => none

def allV : List SV → Option (List Value)
  | [] => some []
  | x :: xs => match x.val?, allV xs with
    | some v, some vs => some (v :: vs)
    | _, _ => none

noncomputable def lenV (t : TypeId) (x : SV) : Option SV :=
  match tdD tb t, x with
  | .str, .v (.string s) => some (.v (.int .i64 s.size))
  | .slice _, .v (.slice _ n _) => some (.v (.int .i64 n))
  | .array n _, _ => some (.v (.int .i64 n))
  | _, _ => none

def minV : List SV → Option SV
  | [.v (.int k x), .v (.int _ y)] => some (.v (.int k (if y < x then y else x)))
  | _ => none
def maxV : List SV → Option SV
  | [.v (.int k x), .v (.int _ y)] => some (.v (.int k (if x < y then y else x)))
  | _ => none

noncomputable def pureV (ρ : Operand → SV) (o : Oper) : Option SV :=
  match o.op with
  | .move x | .assign x => some (ρ x)
  | .pick c a b => pickV (ρ c) (ρ a) (ρ b)
  | .nilCheck x => match ρ x with
    | .own d f => some (.own d f)
    | .adr a => some (.adr a)
    | _ => none
  | .binOp op t x y _ => binV tb op t (ρ x) (ρ y)
  | .unOp op _ x => unV op (ρ x)
  | .convert s d x => convV tb s d (ρ x)
  | .fieldAddr s x f => match fieldOff tb s f, ρ x with
    | some n, .own d off => some (.own d (off + n))
    | some n, .adr a => some (.adr (a.add n))
    | _, _ => none
  | .field t x f => fieldV tb t (ρ x) f
  | .extract t i => extractV (ρ t) i
  | .build t parts => buildV tb t (parts.toList.map fun p => (p.1, ρ p.2))
  | .makeInterface t x => ifaceV tb t (ρ x)
  | .makeFunc fn first cap => match allV (first.toList.map ρ), allV (cap.toList.map ρ) with
    | some a, some b => some (.v (.func fn ⟨a⟩ ⟨b⟩))
    | _, _ => none
  | .call { callee := .builtin .len, args, argTypes } => match args.toList, argTypes.toList with
    | [x], [t] => lenV tb t (ρ x)
    | _, _ => none
  | .call { callee := .builtin .min, args, .. } => minV (args.toList.map ρ)
  | .call { callee := .builtin .max, args, .. } => maxV (args.toList.map ρ)
  | _ => none

/-! ### Operations that compute, under a condition -/
inductive Ob where
  | nn (p : Option Addr)
  | ix (a : Option Addr) (len : Nat) (i : Int) (sz : Nat)
  | si (s : ByteArray) (i : Int)
  | req (p : Prop) (x : Value)

def Ob.W (o : Ob) (κ : SV → W) : W :=
  match o with
  | .nn p => WNonNil p fun a => κ (.adr a)
  | .ix a len i sz => WIndex a len i fun x => κ (.adr (x.add (i.toNat * sz)))
  | .si s i => WByte s i fun c => κ (.v (.int .u8 c.toNat))
  | .req p x => WReq p (κ (.v x))

def Ob.yields (o : Ob) (v : SV) : Prop :=
  match o with
  | .nn p => ∃ a, p = some a ∧ v = .adr a
  | .ix a len i sz => ∃ x, a = some x ∧ 0 ≤ i ∧ i < (len : Int) ∧ v = .adr (x.add (i.toNat * sz))
  | .si s i => ∃ c, 0 ≤ i ∧ s[i.toNat]? = some c ∧ v = .v (.int .u8 c.toNat)
  | .req p x => p ∧ v = .v x

def divOb (op : BinOp) (k : IntKind) (x y : Int) : Option Ob :=
  match op with
  | .quo => some (.req (y ≠ 0) (.int k (k.wrap (x.tdiv y))))
  | .rem => some (.req (y ≠ 0) (.int k (x.tmod y)))
  | _ => none

def shiftOb (op : BinOp) (k : IntKind) (x y : Int) : Option Ob :=
  match op with
  | .shl => some (.req (0 ≤ y) (.int k (k.wrap (x * 2 ^ (min y.toNat k.bits)))))
  | .shr => some (.req (0 ≤ y) (.int k (x.fdiv (2 ^ (min y.toNat k.bits)))))
  | _ => none

def binOb (op : BinOp) (x y : SV) : Option Ob :=
  match x, y with
  | .v (.int k a), .v (.int k' b) => match shiftOb op k a b with
    | some o => some o
    | none => bif kindEq k k' then divOb op k a b else none
  | .v (.string a), .v (.string b) => match op with
    | .add => some (.req (((a.size + b.size : Nat) : Int) ≤ IntKind.i64.max) (.string (a ++ b)))
    | _ => none
  | _, _ => none

def bnd (x : Option SV) (d : Int) : Option Int :=
  match x with
  | none => some d
  | some (.v (.int _ n)) => some n
  | _ => none

noncomputable def sliceOb (t : TypeId) (x : SV) (lo hi : Option SV) : Option Ob :=
  match tdD tb t, x with
  | .str, .v (.string s) =>
    match bnd lo 0, bnd hi s.size with
    | some l, some h => some (.req (0 ≤ l ∧ l ≤ h ∧ h ≤ (s.size : Int)) (.string (s.extract l.toNat h.toNat)))
    | _, _ => none
  | .slice e, .v (.slice a n c) =>
    match known tb e, bnd lo 0, bnd hi n with
    | true, some l, some h => some (.req (0 ≤ l ∧ l ≤ h ∧ h ≤ (c : Int))
        (.slice (if c = l.toNat then a else a.map (·.add (l.toNat * sizeD tb e))) (h.toNat - l.toNat) (c - l.toNat)))
    | _, _, _ => none
  | _, _ => none

noncomputable def obV (ρ : Operand → SV) (o : Oper) : Option Ob :=
  match o.op with
  | .nilCheck x => match ρ x with
    | .v (.pointer p) => some (.nn p)
    | _ => none
  | .indexAddr t x i => match tdD tb t, ρ x, ρ i with
    | .slice e, .v (.slice a n _), .v (.int _ j) => bif known tb e then some (.ix a n j (sizeD tb e)) else none
    | .array n sz, .adr a, .v (.int _ j) => some (.ix (some a) n j sz)
    | _, _, _ => none
  | .index t x i => match tdD tb t, ρ x, ρ i with
    | .str, .v (.string s), .v (.int _ j) => some (.si s j)
    | _, _, _ => none
  | .binOp op _ x y _ => binOb op (ρ x) (ρ y)
  | .slice t x lo hi none => sliceOb tb t (ρ x) (lo.map ρ) (hi.map ρ)
  | _ => none

/-! ### Operations on memory; calls -/
noncomputable def ownGet (own : Own) (d off n : Nat) (agg : Bool) : Option SV :=
  match own d with
  | none => none
  | some cs => bif agg then
      match ((cs.drop off).take n).foldr (fun x r => match x, r with
        | some v, some l => some (v :: l)
        | _, _ => none) (some []) with
      | some l => bif Nat.beq l.length n then some (.v (.agg ⟨l⟩)) else none
      | none => none
    else match getO cs off with
      | some (some x) => some (.v x)
      | _ => none

noncomputable def ownPut (own : Own) (d off : Nat) (vs : List Value) : Option Own :=
  match own d with
  | none => none
  | some cs => bif Nat.ble (off + vs.length) cs.length then
      some fun x => bif Nat.beq x d then some (cs.take off ++ vs.map some ++ cs.drop (off + vs.length)) else own x
    else none

def ownNew (own : Own) (d : Nat) (vs : List Value) : Own := fun x => bif Nat.beq x d then some (vs.map some) else own x

noncomputable def anew (tm : List SV) (own : Own) (d : Nat) : Bool :=
  (own d).isNone && tm.all fun x => match x with
    | .own e _ => !Nat.beq e d
    | _ => true

def callArgs (f : SV) (args : List SV) : Option (FuncId × Array Value) :=
  match f, allV args with
  | .v (.func (.func g) first cap), some vs => some (g, ⟨first.toList ++ vs ++ cap.toList⟩)
  | _, _ => none

noncomputable def opened (t : TypeId) (κ : SV → W) (v : Value) : W :=
  match shD tb t with
  | some sh => WOpen sh (sh.cur fun x => κ (.v (sh.val x))) v
  | none => κ (.v v)

def isConstO : Operand → Bool
  | .const _ => true
  | _ => false

def binP (c : Bool) (op : BinOp) (t : TypeId) (a b : Value) : Sem Value := do
  eqGuard op t (bif c then .const .nilIface else .tmp 0) (.tmp 0) a b
  binOp op t a b

def opt2 (a b : Option Value) (k : Value → Value → W) : W :=
  match a, b with
  | some x, some y => k x y
  | _, _ => WFalse

/-- An operation: what it yields, and the private blocks behind it. -/
noncomputable def opW (Q : Ending → W) (esc : List Nat) (st : St) (o : Oper) (κ : SV → Own → W) : W :=
  match pureV tb st.ev o with
  | some v => κ v st.own
  | none =>
  match obV tb st.ev o with
  | some ob => ob.W fun v => κ v st.own
  | none =>
  match o.op, o.dst with
  | .alloc e, some d => match (bif known tb e then zeroD tb e else none) with
    | some z => bif mem d esc then WNew z e fun b => κ (.adr ⟨b, 0, none⟩) st.own
        else bif anew st.tm st.own d then κ (.own d 0) (ownNew st.own d z) else WFalse
    | none => WFalse
  | .box e x, some d => match svCells (st.ev x) with
    | some z => bif mem d esc then WNew z e fun b => κ (.adr ⟨b, 0, none⟩) st.own
        else bif anew st.tm st.own d then κ (.own d 0) (ownNew st.own d z) else WFalse
    | none => WFalse
  | .buildSlice t n parts, _ => match tdD tb t with
    | .slice e => match zeroD tb e with
      | some z => bif known tb e && Nat.ble (n * sizeD tb e) 1000 && Nat.beq z.length (sizeD tb e) && Nat.ble 1 (sizeD tb e) then
          match fillL (fun i => some (i * sizeD tb e, sizeD tb e)) ((List.replicate n z).flatten) (parts.toList.map fun p => (p.1, st.ev p.2)) with
          | some cs => WNew cs e fun b => κ (.v (.slice (some ⟨b, 0, none⟩) n n)) st.own
          | none => WFalse
        else WFalse
      | none => WFalse
    | _ => WFalse
  | .load t a, _ => bif !known tb t then WFalse else match st.ev a with
    | .own d off => match ownGet st.own d off (sizeD tb t) (isAggD tb t) with
      | some v => κ v st.own
      | none => WFalse
    | .adr ad => match sh1D tb t with
      | some sh => WLoad ad sh (sh.cur fun x => κ (.v (sh.val x)) st.own)
      | none => WFalse
    | .v (.pointer p) => match sh1D tb t with
      | some sh => WNonNil p fun ad => WLoad ad sh (sh.cur fun x => κ (.v (sh.val x)) st.own)
      | none => WFalse
    | _ => WFalse
  | .store t a x, _ => match svCells (st.ev x) with
    | some vs => bif Nat.beq vs.length (sizeD tb t) && vs.all Value.oneCell' && known tb t then
        match st.ev a with
        | .own d off => bif mem d st.fo then WFalse else match ownPut st.own d off vs with
          | some own' => κ .junk own'
          | none => WFalse
        | .adr ad => bif Nat.ble 1 vs.length then WStore ad vs (κ .junk st.own) else WFalse
        | .v (.pointer p) => bif Nat.ble 1 vs.length then WNonNil p fun ad => WStore ad vs (κ .junk st.own) else WFalse
        | _ => WFalse
      else WFalse
    | none => WFalse
  | .binOp op t x y _, _ => opt2 (st.ev x).val? (st.ev y).val? fun a b => WPrim P (binP (isConstO x || isConstO y) op t a b) (opened tb o.type fun v => κ v st.own)
  | .convert s d x, _ => opt2 (st.ev x).val? (st.ev x).val? fun a _ => WPrim P (Go.convert s d a) (opened tb o.type fun v => κ v st.own)
  | .makeMap t none, _ => WPrim P (Instr.makeMap t none) (opened tb o.type fun v => κ v st.own)
  | .lookup t x i ok, _ => opt2 (st.ev x).val? (st.ev i).val? fun a b => WPrim P (Instr.lookup t a b ok) (opened tb o.type fun v => κ v st.own)
  | .mapUpdate t m k x, _ => opt2 (st.ev m).val? (st.ev k).val? fun a b => opt2 (st.ev x).val? (st.ev x).val? fun c _ => WPrimU P (Instr.mapUpdate t a b c) (κ .junk st.own)
  | .makeSlice t l c, _ => opt2 (st.ev l).val? (st.ev c).val? fun a b => WPrim P (Instr.makeSlice t a b) (opened tb o.type fun v => κ v st.own)
  | .slice t x lo hi mx, _ => match (st.ev x).val?, lo.map fun y => (st.ev y).val?, hi.map fun y => (st.ev y).val?, mx.map fun y => (st.ev y).val? with
    | some a, some (some l), some (some h), some (some m) => WPrim P (Instr.sliceAt t a (some l) (some h) (some m)) (opened tb o.type fun v => κ v st.own)
    | _, _, _, _ => WFalse
  | .typeAssert x t u ok, _ => opt2 (st.ev x).val? (st.ev x).val? fun a _ => WPrim P (Instr.typeAssert a t u ok) (opened tb o.type fun v => κ v st.own)
  | .range t x, _ => opt2 (st.ev x).val? (st.ev x).val? fun a _ => WPrim P (Instr.range t a) (fun v => κ (.v v) st.own)
  | .next x s, _ => opt2 (st.ev x).val? (st.ev x).val? fun a _ => WPrim P (Instr.next a s o.type) (fun v => κ (.v v) st.own)
  | .panic x, _ => match (st.ev x).val? with
    | some (.iface t v) => Q (.panicked [{ v := .iface t v, recovered := false }])
    | _ => WFalse
  | .call { callee := .value f, args, .. }, _ => match callArgs (st.ev f) (args.toList.map st.ev) with
    | some (g, vs) => WCall P Q g vs (opened tb o.type fun v => κ v st.own)
    | none => WFalse
  | .call { callee := .builtin b, args, argTypes }, _ => match allV (args.toList.map st.ev) with
    | some vs => match b with
      | .append => WPrim P (Builtin.append_ argTypes o.type ⟨vs⟩) (opened tb o.type fun v => κ v st.own)
      | .copy => WPrim P (Builtin.copy_ argTypes o.type ⟨vs⟩) (opened tb o.type fun v => κ v st.own)
      | .clear => WPrim P (Builtin.clear_ argTypes o.type ⟨vs⟩) (opened tb o.type fun v => κ v st.own)
      | .cap => WPrim P (Builtin.cap_ argTypes o.type ⟨vs⟩) (opened tb o.type fun v => κ v st.own)
      | .len => WPrim P (Builtin.len_ argTypes o.type ⟨vs⟩) (opened tb o.type fun v => κ v st.own)
      | _ => WFalse
    | none => WFalse
  | _, _ => WFalse

/-! ### Regions -/
noncomputable def isGuard (ops : List Oper) (i : Nat) : Bool := ops.any fun o => match o.guard with
  | some (j, _) => Nat.beq j i
  | none => false

inductive GS where
  | run | skip | bad

noncomputable def guardD (ops : List Oper) (st : St) (o : Oper) : GS :=
  match o.guard with
  | none => .run
  | some (j, want) => match getO ops j with
    | some g => match g.dst with
      | some d => match getL .junk st.tm d with
        | .lit b => bif b == want then .run else .skip
        | .v (.tuple _) => .skip
        | _ => .bad
      | none => .bad
    | none => .bad

noncomputable def putG (g : Bool) (st : St) (dst : Option Nat) (v : SV) (κ : St → W) : W :=
  bif g then match v with
    | .v (.bool b) => WIf b (st.put dst (.lit true) κ) (st.put dst (.lit false) κ)
    | .lit b => st.put dst (.lit b) κ
    | _ => WFalse
  else st.put dst v κ

noncomputable def stepW (Q : Ending → W) (esc : List Nat) (ops : List Oper) (i : Nat) (o : Oper) (st : St) (κ : St → W) : W :=
  match guardD ops st o with
  | .run => opW P tb Q esc st o fun v own => putG (isGuard ops i) { st with own := own } o.dst v κ
  | .skip => st.put o.dst (.v undef) κ
  | .bad => WFalse

noncomputable def seqW (Q : Ending → W) (esc : List Nat) (ops : List Oper) (rest : List Oper) : Nat → St → (St → W) → W :=
  List.rec (motive := fun _ => Nat → St → (St → W) → W) (fun _ st κ => κ st)
    (fun o _ ih i st κ => stepW P tb Q esc ops i o st fun st' => ih (i + 1) st' κ) rest

/-- a region of operations that only compute: no ways part, its tests are joined -/
def orB : SV → SV → Bool → Option SV
  | .lit true, .lit true, _ => some (.lit true)
  | .lit false, .lit false, _ => some (.lit false)
  | .lit true, .lit false, b => some (.v (.bool b))
  | .lit false, .lit true, b => some (.v (.bool (!b)))
  | .lit true, .v (.bool y), b => some (.v (.bool (b || y)))
  | .lit false, .v (.bool y), b => some (.v (.bool (!b && y)))
  | .v (.bool x), .lit true, b => some (.v (.bool (!b || x)))
  | .v (.bool x), .lit false, b => some (.v (.bool (b && x)))
  | .v (.bool x), .v (.bool y), b => some (.v (.bool (cond b x y)))
  | _, _, _ => none

noncomputable def mergeV (b : Bool) (x y : SV) : SV :=
  match orB x y b with
  | some v => v
  | none => .junk

noncomputable def mergeL {α : Type} (b : Bool) (ds : List (Option Nat)) (tm x y : List SV) (k : List SV → α) : α :=
  List.rec (motive := fun _ => List SV → α) k
    (fun d _ ih tm => match d with
      | none => ih tm
      | some d => setK tm d (mergeV b (getL .junk x d) (getL .junk y d)) ih) ds tm

noncomputable def purV (st : St) (o : Oper) : Option SV :=
  match pureV tb st.ev o with
  | some v => some v
  | none => match o.op with
    | .load t a => bif !known tb t then none else match st.ev a with
      | .own e off => ownGet st.own e off (sizeD tb t) (isAggD tb t)
      | _ => none
    | _ => none

/-- a list, parted behind the pick that settles the test in slot 'd' -/
noncomputable def splitP (d : Nat) (l : List Oper) : List Oper × List Oper :=
  List.rec (motive := fun _ => List Oper × List Oper) ([], [])
    (fun o rest ih => match o.op with
      | .pick (.tmp c) _ _ => bif Nat.beq c d then ([o], rest) else (o :: ih.1, ih.2)
      | _ => (o :: ih.1, ih.2)) l

noncomputable def purR (ops : List Oper) (fuel : Nat) : List Oper → Nat → St → Option (List SV) :=
  Nat.rec (motive := fun _ => List Oper → Nat → St → Option (List SV)) (fun _ _ _ => none)
    (fun _ ih seg i st =>
      match seg with
      | [] => some st.tm
      | o :: rest =>
      match o.dst with
      | none => none
      | some d =>
      bif !okW st.fr d then none else
      match guardD ops st o with
      | .bad => none
      | .skip => setK st.tm d (.v undef) fun l => ih rest (i + 1) { st with tm := l }
      | .run =>
        match purV tb st o with
        | none => none
        | some v =>
          bif isGuard ops i then match v with
            | .v (.bool b) => match splitP d rest with
              | (seg, rest') =>
              match setK st.tm d (.lit true) fun l => ih seg (i + 1) { st with tm := l }, setK st.tm d (.lit false) fun l => ih seg (i + 1) { st with tm := l } with
              | some x, some y => mergeL b (some d :: seg.map (·.dst)) st.tm x y fun tm => ih rest' (i + 1 + seg.length) { st with tm := tm }
              | _, _ => none
            | .lit b => setK st.tm d (.lit b) fun l => ih rest (i + 1) { st with tm := l }
            | _ => none
          else setK st.tm d v fun l => ih rest (i + 1) { st with tm := l }) fuel

def normK : List SV → (List SV → W) → W
  | [], k => k []
  | .v x :: xs, k => normK xs fun l => k (.v x :: l)
  | .lit x :: xs, k => normK xs fun l => k (.lit x :: l)
  | .own d x :: xs, k => normK xs fun l => k (.own d x :: l)
  | .adr a :: xs, k => normK xs fun l => k (.adr a :: l)
  | .junk :: xs, k => normK xs fun l => k (.junk :: l)

/-! ### Regions that draw their order -/
noncomputable def depsD (o : Oper) : List Nat := o.after.toList.filterMap fun e => bif Region.binds .any e then some e.on else none

noncomputable def readyD (ops : List Oper) (rem : List Nat) (i : Nat) : Bool :=
  match getO ops i with
  | some o => (depsD o).all fun d => !mem d rem && Nat.blt d ops.length
  | none => false

/-- is 'a' sure to come before 'b'? -/
noncomputable def beforeD (ops : List Oper) : Nat → Nat → Nat → Bool
  | 0, _, _ => false
  | n + 1, a, b => match getO ops b with
    | some o => (depsD o).any fun d => Nat.beq d a || beforeD ops n a d
    | none => false

noncomputable def looksD (ops : List Oper) (o : Oper) : List Nat :=
  (o.op.operands.toList.filterMap fun | .tmp t => some t | _ => none) ++
  (match o.guard with
    | some (j, _) => match getO ops j with
      | some g => g.dst.toList
      | none => []
    | none => [])

/-- nobody who may still come ahead of 'i' touches what it reads or writes -/
noncomputable def apartD (ops : List Oper) (rem : List Nat) (i : Nat) (o : Oper) : Bool :=
  rem.all fun j => Nat.beq i j || beforeD ops ops.length i j || match getO ops j with
    | some p => (match o.dst with
        | some d => !mem d (looksD ops p) && !(match p.dst with | some e => Nat.beq d e | none => false)
        | none => true) &&
      (match p.dst with
        | some e => !mem e (looksD ops o)
        | none => true)
    | none => false

def isStore : Op → Bool
  | .store .. => true
  | _ => false

/-- what stood in an operation's slot is no private address -/
noncomputable def oldD (st : St) (o : Oper) : Bool :=
  match o.dst with
  | some d => match getL .junk st.tm d with
    | .own _ _ => false
    | _ => true
  | none => true

noncomputable def quietD (esc : List Nat) (ops : List Oper) (rem : List Nat) (st : St) (i : Nat) : Bool :=
  match getO ops i with
  | none => false
  | some o =>
    readyD ops rem i && apartD ops rem i o && oldD st o &&
    match guardD ops st o with
    | .bad => false
    | .skip => true
    | .run =>
      (pureV tb st.ev o).isSome || (obV tb st.ev o).isSome ||
      (match o.op, o.dst with
        | .alloc _, some d => !mem d esc
        | .box _ _, some d => !mem d esc
        | .load _ a, _ => match st.ev a with
          | .own _ _ => rem.all fun j => Nat.beq i j || beforeD ops ops.length i j || (match getO ops j with
            | some p => !isStore p.op
            | none => true)
          | .adr _ => true
          | _ => false
        | _, _ => false)

def firstD (p : Nat → Bool) : List Nat → Option Nat
  | [] => none
  | x :: xs => bif p x then some x else firstD p xs

def eraseD (i : Nat) : List Nat → List Nat
  | [] => []
  | x :: xs => bif Nat.beq x i then xs else x :: eraseD i xs

def allW (f : Nat → W) : List Nat → W
  | [] => WFalse
  | [x] => f x
  | x :: xs => WAnd (f x) (allW f xs)

abbrev Held := List (Nat × Addr × List Value)

noncomputable def heldFor (ops : List Oper) (j : Nat) (h : Held) : List (Addr × List Value) :=
  h.filterMap fun x => bif beforeD ops ops.length x.1 j then none else some x.2

noncomputable def heldW (l : List (Addr × List Value)) (k : W) : W :=
  match l with
  | [] => k
  | l => WHeld l k

/-- a quiet operation, taken first; a load is held -/
noncomputable def quietW (Q : Ending → W) (esc : List Nat) (ops : List Oper) (i : Nat) (o : Oper) (st : St) (h : Held) (κ : St → Held → W) : W :=
  match guardD ops st o, o.op with
  | .run, .load t a => bif !known tb t then WFalse else match st.ev a with
    | .adr ad => match sh1D tb t with
      | some sh => WLoad ad sh (sh.cur fun x => putG (isGuard ops i) st o.dst (.v (sh.val x)) fun st' => κ st' ((i, ad, sh.cells x) :: h))
      | none => WFalse
    | _ => stepW P tb Q esc ops i o st fun st' => κ st' h
  | _, _ => stepW P tb Q esc ops i o st fun st' => κ st' h

noncomputable def anyW (Q : Ending → W) (esc : List Nat) (ops : List Oper) (κ : St → W) : Nat → List Nat → St → Held → W
  | 0, rem, st, _ => match rem with
    | [] => κ st
    | _ => WFalse
  | n + 1, rem, st, h =>
    match rem with
    | [] => κ st
    | _ =>
      match firstD (quietD tb esc ops rem st) rem with
      | some i => match getO ops i with
        | some o => quietW P tb Q esc ops i o st h fun st' h' => anyW Q esc ops κ n (eraseD i rem) st' h'
        | none => WFalse
      | none => allW (fun i => match getO ops i with
        | some o => stepW P tb Q esc ops i o st fun st' => heldW (heldFor ops i h) (anyW Q esc ops κ n (eraseD i rem) st' h)
        | none => WFalse) (rem.filter (readyD ops rem))

def hasGuard (ops : List Oper) : Bool := ops.any fun o => o.guard.isSome

noncomputable def regionW (Q : Ending → W) (esc : List Nat) (ops : List Oper) (draw : Bool) (st : St) (κ : St → W) : W :=
  bif draw then anyW P tb Q esc ops κ (ops.length + 1) (List.range ops.length) st []
  else bif hasGuard ops then match purR tb ops (ops.length + 1) ops 0 st with
    | some tm => normK tm fun l => κ { st with tm := l }
    | none => seqW P tb Q esc ops ops 0 st κ
  else seqW P tb Q esc ops ops 0 st κ

/-! ### Code -/
structure Loop where
  blk : Nat
  slots : List (Nat × Lf)
  junk : List Nat
  own : List (Nat × List (Option Lf))

def Lf.get (x : Lf) (s : SV) : Option x.Ty :=
  match x, s with
  | .i k, .v (.int k' n) => bif kindEq k k' then some n else none
  | .b, .v (.bool q) => some q
  | .b, .lit q => some q
  | .s, .v (.string q) => some q
  | .p, .v (.pointer q) => some q
  | .p, .adr a => some (some a)
  | .sl, .v (.slice a n c) => some (a, n, c)
  | .m, .v (.map r) => some r
  | .any, .v x => some x
  | _, _ => none

def slotTys (l : List (Nat × Lf)) : List Lf := l.map (·.2)

noncomputable def getSlots : (l : List (Nat × Lf)) → List SV → Option (Tys (slotTys l))
  | [], _ => some ()
  | (d, x) :: l, tm => match x.get (getL .junk tm d), getSlots l tm with
    | some a, some b => some (a, b)
    | _, _ => none

def setSlots : (l : List (Nat × Lf)) → Tys (slotTys l) → List SV → List SV
  | [], _, tm => tm
  | (d, x) :: l, t, tm => setSlots l t.2 (tm.set d (.v (x.val t.1)))

def junkSlots : List Nat → List SV → List SV
  | [], tm => tm
  | d :: l, tm => junkSlots l (tm.set d .junk)

def cellTys : List (Option Lf) → List Lf
  | [] => []
  | none :: l => cellTys l
  | some x :: l => x :: cellTys l

def getCells : (l : List (Option Lf)) → List (Option Value) → Option (Tys (cellTys l))
  | [], [] => some ()
  | none :: l, _ :: cs => getCells l cs
  | some x :: l, some c :: cs => match x.get (.v c), getCells l cs with
    | some a, some b => some (a, b)
    | _, _ => none
  | _, _ => none

def mkCells : (l : List (Option Lf)) → Tys (cellTys l) → List (Option Value)
  | [], _ => []
  | none :: l, t => none :: mkCells l t
  | some x :: l, t => some (x.val t.1) :: mkCells l t.2

def OwnTy : List (Nat × List (Option Lf)) → Type
  | [] => Unit
  | (_, c) :: l => Tys (cellTys c) × OwnTy l

noncomputable def getOwn : (l : List (Nat × List (Option Lf))) → Own → Option (OwnTy l)
  | [], _ => some ()
  | (d, c) :: l, own => match own d with
    | some cs => match getCells c cs, getOwn l own with
      | some a, some b => some (a, b)
      | _, _ => none
    | none => none

def setOwn : (l : List (Nat × List (Option Lf))) → OwnTy l → Own → Own
  | [], _, own => own
  | (d, c) :: l, t, own => setOwn l t.2 fun x => bif Nat.beq x d then some (mkCells c t.1) else own x

noncomputable def Loop.Ty (l : Loop) : Type := Tys (slotTys l.slots) × OwnTy l.own

noncomputable def Loop.get (l : Loop) (st : St) : Option l.Ty :=
  match getSlots l.slots st.tm, getOwn l.own st.own with
  | some a, some b => some (a, b)
  | _, _ => none

noncomputable def Loop.frOk (l : Loop) (fr : Option (List Nat)) : Bool :=
  l.slots.all (fun x => okW fr x.1) && l.junk.all (fun d => okW fr d)

noncomputable def Loop.foOk (l : Loop) (fo : List Nat) : Bool := l.own.all fun x => !mem x.1 fo

/-- nothing may be written but what the loop, or the piece, names -/
noncomputable def Loop.freeze (l : Loop) (st : St) (names : List Nat) : St :=
  { st with fr := some (l.slots.map (·.1) ++ l.junk), fo := st.fo ++ names.filter fun d => (st.own d).isSome && !(l.own.any fun x => Nat.beq x.1 d) }

noncomputable def Loop.head (l : Loop) (st : St) (x : l.Ty) (k : St → W) : W :=
  normK (setSlots l.slots x.1 (junkSlots l.junk st.tm)) fun tm => k { st with tm := tm, own := setOwn l.own x.2 fun d => bif mem d st.fo then st.own d else none }

structure Hints where
  esc : List Nat
  loops : List Loop
  joins : List Loop
  names : List Nat

def findLoop (b : Nat) : List Loop → Option Loop
  | [] => none
  | l :: ls => bif Nat.beq l.blk b then some l else findLoop b ls

/-- the number of the region with which a code begins -/
def firstR : Code → Option Nat
  | .region id _ _ => some id
  | .seq a _ => firstR a
  | .block _ a => firstR a
  | .loop a => firstR a
  | _ => none

noncomputable def joinOf (hs : Hints) (c : Code) : Option Loop :=
  match hs.joins with
  | [] => none
  | js => match firstR c with
    | some r => findLoop r js
    | none => none

def St.back (st : St) (old : St) : St := { st with fr := old.fr, fo := old.fo }

noncomputable def codeW (Q : Ending → W) (hs : Hints) (blk : Nat) : Code → St → (Exit → St → W) → W
  | .skip, st, k => k .normal st
  | .region _ ops draw, st, k => regionW P tb Q hs.esc ops.toList draw st fun st' => k .normal st'
  | .seq a b, st, k => match joinOf hs b with
    | none => codeW Q hs blk a st fun e st' => match e with
      | .normal => codeW Q hs blk b st' k
      | e => k e st'
    | some l => bif l.frOk st.fr && l.foOk st.fo then
        WJoin (fun J => codeW Q hs blk a (l.freeze st hs.names) fun e st' => match e with
          | .normal => match l.get st' with
            | some x => J x
            | none => WFalse
          | e => k e (st'.back st))
        (fun x => l.head (l.freeze st hs.names) x fun st' => codeW Q hs blk b (st'.back st) k)
      else WFalse
  | .cond c a b, st, k => match st.ev c with
    | .lit t => bif t then codeW Q hs blk a st k else codeW Q hs blk b st k
    | .v (.bool t) => WIf t (st.refine c (.lit true) fun st' => codeW Q hs blk a st' k) (st.refine c (.lit false) fun st' => codeW Q hs blk b st' k)
    | _ => WFalse
  | .block id c, st, k => codeW Q hs id c st fun e st' => match e with
    | .exit j => bif Nat.beq j id then k .normal st' else k (.exit j) st'
    | e => k e st'
  | .loop c, st, k => match findLoop blk hs.loops with
    | some l => bif l.frOk st.fr && l.foOk st.fo then match l.get st with
      | some x₀ => WLoop x₀ fun x again => l.head (l.freeze st hs.names) x fun st' =>
          codeW Q hs blk c st' fun e st'' => match e with
            | .normal => match l.get st'' with
              | some x' => again x'
              | none => WFalse
            | e => k e (st''.back st)
      | none => WFalse
      else WFalse
    | none => WFalse
  | .exit id, st, k => k (.exit id) st
  | .ret, st, k => k .ret st
  | _, _, _ => WFalse

noncomputable def resV (st : St) : ResultVar → Option Value
  | .tmp t => (getL .junk st.tm t).val?
  | .cell a t => bif !known tb t then none else match getL .junk st.tm a with
    | .own d off => match ownGet st.own d off (sizeD tb t) (isAggD tb t) with
      | some v => v.val?
      | none => none
    | _ => none

noncomputable def resVs (st : St) : List ResultVar → Option (List Value)
  | [] => some []
  | r :: rs => match resV tb st r, resVs st rs with
    | some v, some vs => some (v :: vs)
    | _, _ => none

noncomputable def retW (Q : Ending → W) (fn : Func) (st : St) : W :=
  match resVs tb st fn.results.toList with
  | some [v] => Q (.returned v)
  | some vs => Q (.returned (.tuple ⟨vs⟩))
  | none => WFalse

noncomputable def startD (args : List SV) (n : Nat) : St :=
  { tm := args ++ List.replicate (n - args.length) .junk, own := fun _ => none, fr := none, fo := [] }

/-- The weakest precondition of a function that defers nothing. -/
noncomputable def funW (Q : Ending → W) (hs : Hints) (fn : Func) (args : List SV) : W :=
  match fn.body with
  | some c => codeW P tb Q hs 0 c (startD args fn.ntmps) fun e st => match e with
    | .normal | .ret => retW tb Q fn st
    | _ => WFalse
  | none => WFalse

def adr2 (p q : SV) (K : Addr → Addr → W) : W :=
  match p, q with
  | .adr a, .adr b => K a b
  | _, _ => WFalse

/-- The weakest precondition of a function that defers one closure, which recovers a stop: 'r1', 'r2' are the slots of its results' cells, 'd' that of the closure. -/
noncomputable def funD (Q : Ending → W) (hs : Hints) (fn : Func) (g : FuncId) (r1 r2 d : Nat) (ok : List Nat) (args : List SV) : W :=
  match fn.body with
  | some (.seq A (.seq B (.seq _ C))) => codeW P tb Q hs 0 A (startD args fn.ntmps) fun e st => match e with
    | .normal => codeW P tb Q hs 0 B st fun e st => adr2 (getL .junk st.tm r1) (getL .junk st.tm r2) fun a b => match e with
        | .normal => setK st.tm d (.v (.func (.func g) #[] #[.pointer (some a), .pointer (some b)])) fun tm =>
            codeW P tb (WRec Q a b) hs 0 C { st with tm := tm, fr := some ok } fun e _ => match e with
              | .normal | .ret => WRet Q a b
              | _ => WFalse
        | .ret => WRet Q a b
        | _ => WFalse
    | _ => WFalse
  | _ => WFalse

/-- A closure that begins with 'recover', which hands back 'r'. -/
noncomputable def cloW (Q : Ending → W) (hs : Hints) (fn : Func) (r : SV) (d : Nat) (args : List SV) : W :=
  match fn.body with
  | some (.seq (.region _ ops _) C) => seqW P tb (fun _ => WFalse) hs.esc ops.toList (ops.toList.drop 1) 1 { startD args fn.ntmps with tm := (startD args fn.ntmps).tm.set d r } fun st =>
      codeW P tb (fun _ => WFalse) hs 0 C st fun e _ => match e with
        | .normal | .ret => Q (.returned (.tuple #[]))
        | _ => WFalse
  | _ => WFalse
end
end Go.Den
