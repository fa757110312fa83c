/-
  Preconditions of functions, as the generator wrote them.
-/
import Derived.Test.YtmidcnfnmnhifaaGreatZTie
namespace Go.Proofs.YtmidcnfnmnhifaaGreat
set_option linter.unusedSectionVars false
set_option linter.unusedSimpArgs false
set_option linter.unusedVariables false
open Go Go.Den
set_option linter.unusedVariables false

/-- ast.inner -/
def W212 (Q : Ending → W) (a0_0 : Int) (a0_1 : ByteArray) (a0_2 : Int) (a0_3 : Int) (a0_4 : Int) (a0_5a : Option Addr) (a0_5n : Nat) (a0_5c : Nat) : W :=
  WIf (a0_0 == 4) (Q (.returned (.slice none 0 0)))
  (Q (.returned (.slice a0_5a a0_5n a0_5c)))

def h212 : Hints := ⟨[], [], [], [1]⟩
theorem tie212 (Q : Ending → W) (a0_0 : Int) (a0_1 : ByteArray) (a0_2 : Int) (a0_3 : Int) (a0_4 : Int) (a0_5a : Option Addr) (a0_5n : Nat) (a0_5c : Nat) : funW Tryz.prog tab Q h212 Tryz.f212 [.v (.agg ⟨[(.int .i64 a0_0), (.string a0_1), (.int .i64 a0_2), (.int .i64 a0_3), (.int .i64 a0_4), (.slice a0_5a a0_5n a0_5c)]⟩)] = W212 Q a0_0 a0_1 a0_2 a0_3 a0_4 a0_5a a0_5n a0_5c := by kernel_rfl

theorem spec212 {Q : Ending → W} {a0_0 : Int} {a0_1 : ByteArray} {a0_2 : Int} {a0_3 : Int} {a0_4 : Int} {a0_5a : Option Addr} {a0_5n : Nat} {a0_5c : Nat} {H : HP} (h : W212 Q a0_0 a0_1 a0_2 a0_3 a0_4 a0_5a a0_5n a0_5c H) : Go.Den.Spec Tryz.prog 212 #[(.agg ⟨[(.int .i64 a0_0), (.string a0_1), (.int .i64 a0_2), (.int .i64 a0_3), (.int .i64 a0_4), (.slice a0_5a a0_5n a0_5c)]⟩)] H Q :=
  specOf (fn := Tryz.f212) (hs := h212) (args := [.v (.agg ⟨[(.int .i64 a0_0), (.string a0_1), (.int .i64 a0_2), (.int .i64 a0_3), (.int .i64 a0_4), (.slice a0_5a a0_5n a0_5c)]⟩)]) (by kernel_rfl) (by kernel_rfl) (by kernel_rfl) rfl (by rw [tie212]; exact h)

/-- ast.Depth -/
def W143 (Q : Ending → W) (a0_0 : Int) (a0_1 : ByteArray) (a0_2 : Int) (a0_3 : Int) (a0_4 : Int) (a0_5a : Option Addr) (a0_5n : Nat) (a0_5c : Nat) : W :=
  WCall Tryz.prog Q 212 #[(.agg #[(.int .i64 a0_0), (.string a0_1), (.int .i64 a0_2), (.int .i64 a0_3), (.int .i64 a0_4), (.slice a0_5a a0_5n a0_5c)])] (WOpen (.one (.l .sl)) fun (x1 : Option Go.Addr) (x1_1 : Nat) (x1_2 : Nat) =>
  WLoop (σ := ((Int × (Int × Unit)) × Unit)) ((0, (0, ())), ()) fun x2 again2 =>
  WIf (decide ((x2.1.2.1 : Int) < (x1_1 : Int))) (WIndex x1 x1_1 (x2.1.2.1 : Int) fun q3 =>
   WLoad (Addr.add q3 ((Int.toNat (x2.1.2.1 : Int)) * 6)) (.agg [(.i .i64), .s, (.i .i64), (.i .i64), (.i .i64), .sl]) fun (x4 : Int) (x4_1 : ByteArray) (x4_2 : Int) (x4_3 : Int) (x4_4 : Int) (x4_5 : Option Go.Addr) (x4_6 : Nat) (x4_7 : Nat) =>
   WCall Tryz.prog Q 143 #[(.agg #[(.int .i64 x4), (.string x4_1), (.int .i64 x4_2), (.int .i64 x4_3), (.int .i64 x4_4), (.slice x4_5 x4_6 x4_7)])] (WOpen (.one (.l (.i .i64))) fun (x5 : Int) =>
   again2 (((if ((x2.1.1 : Int) < x5) then x5 else (x2.1.1 : Int)), ((IntKind.wrap .i64 ((x2.1.2.1 : Int) + 1)), ())), ())))
  (Q (.returned (.int .i64 (IntKind.wrap .i64 ((x2.1.1 : Int) + 1))))))

def h143 : Hints := ⟨[], [⟨0, [(3, .i .i64), (9, .i .i64)], [5, 10, 11, 12, 13, 14, 15, 16, 17], []⟩], [], [1, 5]⟩
theorem tie143 (Q : Ending → W) (a0_0 : Int) (a0_1 : ByteArray) (a0_2 : Int) (a0_3 : Int) (a0_4 : Int) (a0_5a : Option Addr) (a0_5n : Nat) (a0_5c : Nat) : funW Tryz.prog tab Q h143 Tryz.f143 [.v (.agg ⟨[(.int .i64 a0_0), (.string a0_1), (.int .i64 a0_2), (.int .i64 a0_3), (.int .i64 a0_4), (.slice a0_5a a0_5n a0_5c)]⟩)] = W143 Q a0_0 a0_1 a0_2 a0_3 a0_4 a0_5a a0_5n a0_5c := by kernel_rfl

theorem spec143 {Q : Ending → W} {a0_0 : Int} {a0_1 : ByteArray} {a0_2 : Int} {a0_3 : Int} {a0_4 : Int} {a0_5a : Option Addr} {a0_5n : Nat} {a0_5c : Nat} {H : HP} (h : W143 Q a0_0 a0_1 a0_2 a0_3 a0_4 a0_5a a0_5n a0_5c H) : Go.Den.Spec Tryz.prog 143 #[(.agg ⟨[(.int .i64 a0_0), (.string a0_1), (.int .i64 a0_2), (.int .i64 a0_3), (.int .i64 a0_4), (.slice a0_5a a0_5n a0_5c)]⟩)] H Q :=
  specOf (fn := Tryz.f143) (hs := h143) (args := [.v (.agg ⟨[(.int .i64 a0_0), (.string a0_1), (.int .i64 a0_2), (.int .i64 a0_3), (.int .i64 a0_4), (.slice a0_5a a0_5n a0_5c)]⟩)]) (by kernel_rfl) (by kernel_rfl) (by kernel_rfl) rfl (by rw [tie143]; exact h)

/-- ast.Size -/
def W144 (Q : Ending → W) (a0_0 : Int) (a0_1 : ByteArray) (a0_2 : Int) (a0_3 : Int) (a0_4 : Int) (a0_5a : Option Addr) (a0_5n : Nat) (a0_5c : Nat) : W :=
  WCall Tryz.prog Q 212 #[(.agg #[(.int .i64 a0_0), (.string a0_1), (.int .i64 a0_2), (.int .i64 a0_3), (.int .i64 a0_4), (.slice a0_5a a0_5n a0_5c)])] (WOpen (.one (.l .sl)) fun (x1 : Option Go.Addr) (x1_1 : Nat) (x1_2 : Nat) =>
  WLoop (σ := ((Int × (Int × Unit)) × Unit)) ((1, (0, ())), ()) fun x2 again2 =>
  WIf (decide ((x2.1.2.1 : Int) < (x1_1 : Int))) (WIndex x1 x1_1 (x2.1.2.1 : Int) fun q3 =>
   WLoad (Addr.add q3 ((Int.toNat (x2.1.2.1 : Int)) * 6)) (.agg [(.i .i64), .s, (.i .i64), (.i .i64), (.i .i64), .sl]) fun (x4 : Int) (x4_1 : ByteArray) (x4_2 : Int) (x4_3 : Int) (x4_4 : Int) (x4_5 : Option Go.Addr) (x4_6 : Nat) (x4_7 : Nat) =>
   WCall Tryz.prog Q 144 #[(.agg #[(.int .i64 x4), (.string x4_1), (.int .i64 x4_2), (.int .i64 x4_3), (.int .i64 x4_4), (.slice x4_5 x4_6 x4_7)])] (WOpen (.one (.l (.i .i64))) fun (x5 : Int) =>
   again2 (((IntKind.wrap .i64 ((x2.1.1 : Int) + x5)), ((IntKind.wrap .i64 ((x2.1.2.1 : Int) + 1)), ())), ())))
  (Q (.returned (.int .i64 (x2.1.1 : Int)))))

def h144 : Hints := ⟨[], [⟨0, [(3, .i .i64), (9, .i .i64)], [5, 10, 11, 12, 13, 14, 15, 16, 17], []⟩], [], [1, 5]⟩
theorem tie144 (Q : Ending → W) (a0_0 : Int) (a0_1 : ByteArray) (a0_2 : Int) (a0_3 : Int) (a0_4 : Int) (a0_5a : Option Addr) (a0_5n : Nat) (a0_5c : Nat) : funW Tryz.prog tab Q h144 Tryz.f144 [.v (.agg ⟨[(.int .i64 a0_0), (.string a0_1), (.int .i64 a0_2), (.int .i64 a0_3), (.int .i64 a0_4), (.slice a0_5a a0_5n a0_5c)]⟩)] = W144 Q a0_0 a0_1 a0_2 a0_3 a0_4 a0_5a a0_5n a0_5c := by kernel_rfl

theorem spec144 {Q : Ending → W} {a0_0 : Int} {a0_1 : ByteArray} {a0_2 : Int} {a0_3 : Int} {a0_4 : Int} {a0_5a : Option Addr} {a0_5n : Nat} {a0_5c : Nat} {H : HP} (h : W144 Q a0_0 a0_1 a0_2 a0_3 a0_4 a0_5a a0_5n a0_5c H) : Go.Den.Spec Tryz.prog 144 #[(.agg ⟨[(.int .i64 a0_0), (.string a0_1), (.int .i64 a0_2), (.int .i64 a0_3), (.int .i64 a0_4), (.slice a0_5a a0_5n a0_5c)]⟩)] H Q :=
  specOf (fn := Tryz.f144) (hs := h144) (args := [.v (.agg ⟨[(.int .i64 a0_0), (.string a0_1), (.int .i64 a0_2), (.int .i64 a0_3), (.int .i64 a0_4), (.slice a0_5a a0_5n a0_5c)]⟩)]) (by kernel_rfl) (by kernel_rfl) (by kernel_rfl) rfl (by rw [tie144]; exact h)

/-- ast.Kids -/
def W100 (Q : Ending → W) (a0 : Int) : W :=
  WJoin (σ := (Unit × Unit)) (fun again1 =>
   WIf (a0 == 1) (Q (.returned (.int .i64 0)))
   (WIf (a0 == 2) (Q (.returned (.int .i64 0)))
    (WIf (a0 == 3) (Q (.returned (.int .i64 0)))
     (WIf (a0 == 5) (Q (.returned (.int .i64 0)))
      (WIf (a0 == 6) (Q (.returned (.int .i64 0)))
       (WIf (a0 == 7) (Q (.returned (.int .i64 0)))
        (WIf (a0 == 13) (Q (.returned (.int .i64 0)))
         (WIf (a0 == 21) (Q (.returned (.int .i64 0)))
          (WIf (a0 == 11) (Q (.returned (.int .i64 1)))
           (WIf (a0 == 12) (Q (.returned (.int .i64 1)))
            (WIf (a0 == 18) (Q (.returned (.int .i64 1)))
             (WIf (a0 == 25) (Q (.returned (.int .i64 1)))
              (WIf (a0 == 22) (Q (.returned (.int .i64 1)))
               (WIf (a0 == 23) (Q (.returned (.int .i64 1)))
                (WIf (a0 == 8) (Q (.returned (.int .i64 2)))
                 (WIf (a0 == 9) (Q (.returned (.int .i64 2)))
                  (WIf (a0 == 10) (Q (.returned (.int .i64 2)))
                   (WIf (a0 == 14) (Q (.returned (.int .i64 2)))
                    (WIf (a0 == 15) (Q (.returned (.int .i64 2)))
                     (WIf (a0 == 16) (Q (.returned (.int .i64 2)))
                      (WIf (a0 == 17) (Q (.returned (.int .i64 2)))
                       (WIf (a0 == 19) (Q (.returned (.int .i64 2)))
                        (WIf (a0 == 20) (Q (.returned (.int .i64 2)))
                         (WIf (a0 == 24) (Q (.returned (.int .i64 2)))
                          (WIf (a0 == 4) (Q (.returned (.int .i64 (-1))))
                           (again1 ((), ())))))))))))))))))))))))))))
  (fun x1 =>
   Q (.returned (.int .i64 (-2))))

def h100 : Hints := ⟨[], [], [⟨31, [], [2, 3, 4, 5, 6, 7, 8, 9, 10, 11, 12, 13, 14, 15, 16, 17, 18, 19, 20, 21, 22, 23, 24, 25, 26, 27, 28, 29, 30, 31, 32], []⟩], []⟩
theorem tie100 (Q : Ending → W) (a0 : Int) : funW Tryz.prog tab Q h100 Tryz.f100 [.v (.int .i64 a0)] = W100 Q a0 := by kernel_rfl

theorem spec100 {Q : Ending → W} {a0 : Int} {H : HP} (h : W100 Q a0 H) : Go.Den.Spec Tryz.prog 100 #[(.int .i64 a0)] H Q :=
  specOf (fn := Tryz.f100) (hs := h100) (args := [.v (.int .i64 a0)]) (by kernel_rfl) (by kernel_rfl) (by kernel_rfl) rfl (by rw [tie100]; exact h)

/-- slices.IndexFunc[[]api.Expr,api.Expr] -/
def W203 (Q : Ending → W) (a0a : Option Addr) (a0n : Nat) (a0c : Nat) (a1g : FuncId) (a1c : List Value) : W :=
  WLoop (σ := ((Int × Unit) × Unit)) ((0, ()), ()) fun x1 again1 =>
  WIf (decide ((x1.1.1 : Int) < (a0n : Int))) (WIndex a0a a0n (x1.1.1 : Int) fun q2 =>
   WLoad (Addr.add q2 ((Int.toNat (x1.1.1 : Int)) * 6)) (.agg [(.i .i64), .s, (.i .i64), (.i .i64), (.i .i64), .sl]) fun (x3 : Int) (x3_1 : ByteArray) (x3_2 : Int) (x3_3 : Int) (x3_4 : Int) (x3_5 : Option Go.Addr) (x3_6 : Nat) (x3_7 : Nat) =>
   WCall Tryz.prog Q a1g ⟨[(.agg #[(.int .i64 x3), (.string x3_1), (.int .i64 x3_2), (.int .i64 x3_3), (.int .i64 x3_4), (.slice x3_5 x3_6 x3_7)])] ++ a1c⟩ (WOpen (.one (.l .b)) fun (x4 : Bool) =>
   WIf x4 (Q (.returned (.int .i64 (x1.1.1 : Int))))
   (again1 (((IntKind.wrap .i64 ((x1.1.1 : Int) + 1)), ()), ()))))
  (Q (.returned (.int .i64 (-1))))

def h203 : Hints := ⟨[], [⟨0, [(8, .i .i64)], [4, 5, 9, 10, 11, 12, 13, 14, 15, 16, 17, 18], []⟩], [], []⟩
theorem tie203 (Q : Ending → W) (a0a : Option Addr) (a0n : Nat) (a0c : Nat) (a1g : FuncId) (a1c : List Value) : funW Tryz.prog tab Q h203 Tryz.f203 [.v (.slice a0a a0n a0c), .v (.func (.func a1g) #[] ⟨a1c⟩)] = W203 Q a0a a0n a0c a1g a1c := by kernel_rfl

theorem spec203 {Q : Ending → W} {a0a : Option Addr} {a0n : Nat} {a0c : Nat} {a1g : FuncId} {a1c : List Value} {H : HP} (h : W203 Q a0a a0n a0c a1g a1c H) : Go.Den.Spec Tryz.prog 203 #[(.slice a0a a0n a0c), (.func (.func a1g) #[] ⟨a1c⟩)] H Q :=
  specOf (fn := Tryz.f203) (hs := h203) (args := [.v (.slice a0a a0n a0c), .v (.func (.func a1g) #[] ⟨a1c⟩)]) (by kernel_rfl) (by kernel_rfl) (by kernel_rfl) rfl (by rw [tie203]; exact h)

/-- slices.ContainsFunc[[]api.Expr,api.Expr] -/
def W132 (Q : Ending → W) (a0a : Option Addr) (a0n : Nat) (a0c : Nat) (a1g : FuncId) (a1c : List Value) : W :=
  WCall Tryz.prog Q 203 #[(.slice a0a a0n a0c), (.func (.func a1g) #[] ⟨[] ++ a1c⟩)] (WOpen (.one (.l (.i .i64))) fun (x1 : Int) =>
  Q (.returned (.bool (decide (x1 ≥ 0)))))

def h132 : Hints := ⟨[], [], [], []⟩
theorem tie132 (Q : Ending → W) (a0a : Option Addr) (a0n : Nat) (a0c : Nat) (a1g : FuncId) (a1c : List Value) : funW Tryz.prog tab Q h132 Tryz.f132 [.v (.slice a0a a0n a0c), .v (.func (.func a1g) #[] ⟨a1c⟩)] = W132 Q a0a a0n a0c a1g a1c := by kernel_rfl

theorem spec132 {Q : Ending → W} {a0a : Option Addr} {a0n : Nat} {a0c : Nat} {a1g : FuncId} {a1c : List Value} {H : HP} (h : W132 Q a0a a0n a0c a1g a1c H) : Go.Den.Spec Tryz.prog 132 #[(.slice a0a a0n a0c), (.func (.func a1g) #[] ⟨a1c⟩)] H Q :=
  specOf (fn := Tryz.f132) (hs := h132) (args := [.v (.slice a0a a0n a0c), .v (.func (.func a1g) #[] ⟨a1c⟩)]) (by kernel_rfl) (by kernel_rfl) (by kernel_rfl) rfl (by rw [tie132]; exact h)

/-- internal/stringslite.IndexByte -/
def W285 (Q : Ending → W) (a0 : ByteArray) (a1 : Int) : W :=
  WCall Tryz.prog Q 299 #[(.string a0), (.int .u8 a1)] (WOpen (.one (.l (.i .i64))) fun (x1 : Int) =>
  Q (.returned (.int .i64 x1)))

def h285 : Hints := ⟨[], [], [], []⟩
theorem tie285 (Q : Ending → W) (a0 : ByteArray) (a1 : Int) : funW Tryz.prog tab Q h285 Tryz.f285 [.v (.string a0), .v (.int .u8 a1)] = W285 Q a0 a1 := by kernel_rfl

theorem spec285 {Q : Ending → W} {a0 : ByteArray} {a1 : Int} {H : HP} (h : W285 Q a0 a1 H) : Go.Den.Spec Tryz.prog 285 #[(.string a0), (.int .u8 a1)] H Q :=
  specOf (fn := Tryz.f285) (hs := h285) (args := [.v (.string a0), .v (.int .u8 a1)]) (by kernel_rfl) (by kernel_rfl) (by kernel_rfl) rfl (by rw [tie285]; exact h)

/-- strings.IndexByte -/
def W276 (Q : Ending → W) (a0 : ByteArray) (a1 : Int) : W :=
  WCall Tryz.prog Q 285 #[(.string a0), (.int .u8 a1)] (WOpen (.one (.l (.i .i64))) fun (x1 : Int) =>
  Q (.returned (.int .i64 x1)))

def h276 : Hints := ⟨[], [], [], []⟩
theorem tie276 (Q : Ending → W) (a0 : ByteArray) (a1 : Int) : funW Tryz.prog tab Q h276 Tryz.f276 [.v (.string a0), .v (.int .u8 a1)] = W276 Q a0 a1 := by kernel_rfl

theorem spec276 {Q : Ending → W} {a0 : ByteArray} {a1 : Int} {H : HP} (h : W276 Q a0 a1 H) : Go.Den.Spec Tryz.prog 276 #[(.string a0), (.int .u8 a1)] H Q :=
  specOf (fn := Tryz.f276) (hs := h276) (args := [.v (.string a0), .v (.int .u8 a1)]) (by kernel_rfl) (by kernel_rfl) (by kernel_rfl) rfl (by rw [tie276]; exact h)

/-- lex.Plain -/
def W253 (Q : Ending → W) (a0 : ByteArray) : W :=
  WIf (decide ((((ByteArray.size a0) : Nat) : Int) ≤ 32)) (WCall Tryz.prog Q 276 #[(.string a0), (.int .u8 34)] (WOpen (.one (.l (.i .i64))) fun (x1 : Int) =>
   WIf (decide (x1 < 0)) (WCall Tryz.prog Q 276 #[(.string a0), (.int .u8 10)] (WOpen (.one (.l (.i .i64))) fun (x2 : Int) =>
    Q (.returned (.bool (decide (x2 < 0))))))
   (Q (.returned (.bool false)))))
  (Q (.returned (.bool false)))

def h253 : Hints := ⟨[], [], [], []⟩
theorem tie253 (Q : Ending → W) (a0 : ByteArray) : funW Tryz.prog tab Q h253 Tryz.f253 [.v (.string a0)] = W253 Q a0 := by kernel_rfl

theorem spec253 {Q : Ending → W} {a0 : ByteArray} {H : HP} (h : W253 Q a0 H) : Go.Den.Spec Tryz.prog 253 #[(.string a0)] H Q :=
  specOf (fn := Tryz.f253) (hs := h253) (args := [.v (.string a0)]) (by kernel_rfl) (by kernel_rfl) (by kernel_rfl) rfl (by rw [tie253]; exact h)

/-- lex.letter -/
def W277 (Q : Ending → W) (a0 : Int) : W :=
  Q (.returned (.bool (((decide ((IntKind.wrap .u8 (((BitVec.toNat ((BitVec.ofInt (IntKind.bits .u8) a0) ||| (BitVec.ofInt (IntKind.bits .u8) 32))) : Nat) : Int)) ≥ 97)) && (decide ((IntKind.wrap .u8 (((BitVec.toNat ((BitVec.ofInt (IntKind.bits .u8) a0) ||| (BitVec.ofInt (IntKind.bits .u8) 32))) : Nat) : Int)) ≤ 122))) || (a0 == 95))))

def h277 : Hints := ⟨[], [], [], []⟩
theorem tie277 (Q : Ending → W) (a0 : Int) : funW Tryz.prog tab Q h277 Tryz.f277 [.v (.int .u8 a0)] = W277 Q a0 := by kernel_rfl

theorem spec277 {Q : Ending → W} {a0 : Int} {H : HP} (h : W277 Q a0 H) : Go.Den.Spec Tryz.prog 277 #[(.int .u8 a0)] H Q :=
  specOf (fn := Tryz.f277) (hs := h277) (args := [.v (.int .u8 a0)]) (by kernel_rfl) (by kernel_rfl) (by kernel_rfl) rfl (by rw [tie277]; exact h)

/-- lex.digit -/
def W278 (Q : Ending → W) (a0 : Int) : W :=
  Q (.returned (.bool ((decide (a0 ≥ 48)) && (decide (a0 ≤ 57)))))

def h278 : Hints := ⟨[], [], [], []⟩
theorem tie278 (Q : Ending → W) (a0 : Int) : funW Tryz.prog tab Q h278 Tryz.f278 [.v (.int .u8 a0)] = W278 Q a0 := by kernel_rfl

theorem spec278 {Q : Ending → W} {a0 : Int} {H : HP} (h : W278 Q a0 H) : Go.Den.Spec Tryz.prog 278 #[(.int .u8 a0)] H Q :=
  specOf (fn := Tryz.f278) (hs := h278) (args := [.v (.int .u8 a0)]) (by kernel_rfl) (by kernel_rfl) (by kernel_rfl) rfl (by rw [tie278]; exact h)

/-- lex.Name -/
def W254 (Q : Ending → W) (a0 : ByteArray) : W :=
  WLoop (σ := ((Int × Unit) × Unit)) ((0, ()), ()) fun x1 again1 =>
  WIf (decide ((x1.1.1 : Int) < (((ByteArray.size a0) : Nat) : Int))) (WByte a0 (x1.1.1 : Int) fun y2 =>
   WCall Tryz.prog Q 277 #[(.int .u8 (((UInt8.toNat y2) : Nat) : Int))] (WOpen (.one (.l .b)) fun (x3 : Bool) =>
   WIf (!x3) (WIf ((x1.1.1 : Int) == 0) (Q (.returned (.bool false)))
    (WByte a0 (x1.1.1 : Int) fun y4 =>
     WCall Tryz.prog Q 278 #[(.int .u8 (((UInt8.toNat y4) : Nat) : Int))] (WOpen (.one (.l .b)) fun (x5 : Bool) =>
     WIf (!x5) (Q (.returned (.bool false)))
     (again1 (((IntKind.wrap .i64 ((x1.1.1 : Int) + 1)), ()), ())))))
   (again1 (((IntKind.wrap .i64 ((x1.1.1 : Int) + 1)), ()), ()))))
  (Q (.returned (.bool ((!((ByteArray.toList a0) == (ByteArray.toList (ByteArray.mk #[])))) && (decide ((((ByteArray.size a0) : Nat) : Int) ≤ 16))))))

def h254 : Hints := ⟨[], [⟨0, [(6, .i .i64)], [2, 3, 7, 8, 9, 10, 11, 12, 13, 14, 15, 16, 17, 18, 19, 20, 21, 22, 23, 24, 25], []⟩], [], []⟩
theorem tie254 (Q : Ending → W) (a0 : ByteArray) : funW Tryz.prog tab Q h254 Tryz.f254 [.v (.string a0)] = W254 Q a0 := by kernel_rfl

theorem spec254 {Q : Ending → W} {a0 : ByteArray} {H : HP} (h : W254 Q a0 H) : Go.Den.Spec Tryz.prog 254 #[(.string a0)] H Q :=
  specOf (fn := Tryz.f254) (hs := h254) (args := [.v (.string a0)]) (by kernel_rfl) (by kernel_rfl) (by kernel_rfl) rfl (by rw [tie254]; exact h)

/-- ast.span -/
def W255 (Q : Ending → W) (a0_0 : Int) (a0_1 : ByteArray) (a0_2 : Int) (a0_3 : Int) (a0_4 : Int) (a0_5a : Option Addr) (a0_5n : Nat) (a0_5c : Nat) : W :=
  Q (.returned (.bool ((decide (a0_3 ≥ 0)) && ((decide (a0_4 ≥ a0_3)) || (a0_4 == (-1))))))

def h255 : Hints := ⟨[], [], [], [1]⟩
theorem tie255 (Q : Ending → W) (a0_0 : Int) (a0_1 : ByteArray) (a0_2 : Int) (a0_3 : Int) (a0_4 : Int) (a0_5a : Option Addr) (a0_5n : Nat) (a0_5c : Nat) : funW Tryz.prog tab Q h255 Tryz.f255 [.v (.agg ⟨[(.int .i64 a0_0), (.string a0_1), (.int .i64 a0_2), (.int .i64 a0_3), (.int .i64 a0_4), (.slice a0_5a a0_5n a0_5c)]⟩)] = W255 Q a0_0 a0_1 a0_2 a0_3 a0_4 a0_5a a0_5n a0_5c := by kernel_rfl

theorem spec255 {Q : Ending → W} {a0_0 : Int} {a0_1 : ByteArray} {a0_2 : Int} {a0_3 : Int} {a0_4 : Int} {a0_5a : Option Addr} {a0_5n : Nat} {a0_5c : Nat} {H : HP} (h : W255 Q a0_0 a0_1 a0_2 a0_3 a0_4 a0_5a a0_5n a0_5c H) : Go.Den.Spec Tryz.prog 255 #[(.agg ⟨[(.int .i64 a0_0), (.string a0_1), (.int .i64 a0_2), (.int .i64 a0_3), (.int .i64 a0_4), (.slice a0_5a a0_5n a0_5c)]⟩)] H Q :=
  specOf (fn := Tryz.f255) (hs := h255) (args := [.v (.agg ⟨[(.int .i64 a0_0), (.string a0_1), (.int .i64 a0_2), (.int .i64 a0_3), (.int .i64 a0_4), (.slice a0_5a a0_5n a0_5c)]⟩)]) (by kernel_rfl) (by kernel_rfl) (by kernel_rfl) rfl (by rw [tie255]; exact h)

/-- ast.own -/
def W213 (Q : Ending → W) (a0_0 : Int) (a0_1 : ByteArray) (a0_2 : Int) (a0_3 : Int) (a0_4 : Int) (a0_5a : Option Addr) (a0_5n : Nat) (a0_5c : Nat) : W :=
  WIf (a0_0 == 1) (Q (.returned (.bool (((((ByteArray.toList a0_1) == (ByteArray.toList (ByteArray.mk #[]))) && (decide (a0_2 ≥ 0))) && (a0_3 == 0)) && (a0_4 == 0)))))
  (WIf (a0_0 == 2) (Q (.returned (.bool (((((ByteArray.toList a0_1) == (ByteArray.toList (ByteArray.mk #[]))) && ((a0_2 == 0) || (a0_2 == 1))) && (a0_3 == 0)) && (a0_4 == 0)))))
   (WIf (a0_0 == 3) (WCall Tryz.prog Q 253 #[(.string a0_1)] (WOpen (.one (.l .b)) fun (x1 : Bool) =>
     Q (.returned (.bool (((x1 && (a0_2 == 0)) && (a0_3 == 0)) && (a0_4 == 0))))))
    (WIf (a0_0 == 13) (WCall Tryz.prog Q 254 #[(.string a0_1)] (WOpen (.one (.l .b)) fun (x2 : Bool) =>
      Q (.returned (.bool (((x2 && (a0_2 == 0)) && (a0_3 == 0)) && (decide (a0_4 ≥ 0)))))))
     (WIf (a0_0 == 5) (WCall Tryz.prog Q 254 #[(.string a0_1)] (WOpen (.one (.l .b)) fun (x3 : Bool) =>
       Q (.returned (.bool (((x3 && (a0_2 == 0)) && (a0_3 == 0)) && (a0_4 == 0))))))
      (WIf (a0_0 == 6) (WCall Tryz.prog Q 254 #[(.string a0_1)] (WOpen (.one (.l .b)) fun (x4 : Bool) =>
        Q (.returned (.bool (((x4 && (a0_2 == 0)) && (a0_3 == 0)) && (a0_4 == 0))))))
       (WIf (a0_0 == 21) (WCall Tryz.prog Q 254 #[(.string a0_1)] (WOpen (.one (.l .b)) fun (x5 : Bool) =>
         Q (.returned (.bool (((x5 && (a0_2 == 0)) && (a0_3 == 0)) && (a0_4 == 0))))))
        (WIf (a0_0 == 22) (WCall Tryz.prog Q 255 #[(.agg #[(.int .i64 a0_0), (.string a0_1), (.int .i64 a0_2), (.int .i64 a0_3), (.int .i64 a0_4), (.slice a0_5a a0_5n a0_5c)])] (WOpen (.one (.l .b)) fun (x6 : Bool) =>
          Q (.returned (.bool ((((ByteArray.toList a0_1) == (ByteArray.toList (ByteArray.mk #[]))) && (a0_2 == 0)) && x6)))))
         (WIf (a0_0 == 23) (WCall Tryz.prog Q 255 #[(.agg #[(.int .i64 a0_0), (.string a0_1), (.int .i64 a0_2), (.int .i64 a0_3), (.int .i64 a0_4), (.slice a0_5a a0_5n a0_5c)])] (WOpen (.one (.l .b)) fun (x7 : Bool) =>
           Q (.returned (.bool ((((ByteArray.toList a0_1) == (ByteArray.toList (ByteArray.mk #[]))) && (a0_2 == 0)) && x7)))))
          (WIf (a0_0 == 24) (WCall Tryz.prog Q 255 #[(.agg #[(.int .i64 a0_0), (.string a0_1), (.int .i64 a0_2), (.int .i64 a0_3), (.int .i64 a0_4), (.slice a0_5a a0_5n a0_5c)])] (WOpen (.one (.l .b)) fun (x8 : Bool) =>
            Q (.returned (.bool ((((ByteArray.toList a0_1) == (ByteArray.toList (ByteArray.mk #[]))) && (a0_2 == 0)) && x8)))))
           (Q (.returned (.bool (((((ByteArray.toList a0_1) == (ByteArray.toList (ByteArray.mk #[]))) && (a0_2 == 0)) && (a0_3 == 0)) && (a0_4 == 0))))))))))))))

def h213 : Hints := ⟨[], [], [], [1]⟩
theorem tie213 (Q : Ending → W) (a0_0 : Int) (a0_1 : ByteArray) (a0_2 : Int) (a0_3 : Int) (a0_4 : Int) (a0_5a : Option Addr) (a0_5n : Nat) (a0_5c : Nat) : funW Tryz.prog tab Q h213 Tryz.f213 [.v (.agg ⟨[(.int .i64 a0_0), (.string a0_1), (.int .i64 a0_2), (.int .i64 a0_3), (.int .i64 a0_4), (.slice a0_5a a0_5n a0_5c)]⟩)] = W213 Q a0_0 a0_1 a0_2 a0_3 a0_4 a0_5a a0_5n a0_5c := by kernel_rfl

theorem spec213 {Q : Ending → W} {a0_0 : Int} {a0_1 : ByteArray} {a0_2 : Int} {a0_3 : Int} {a0_4 : Int} {a0_5a : Option Addr} {a0_5n : Nat} {a0_5c : Nat} {H : HP} (h : W213 Q a0_0 a0_1 a0_2 a0_3 a0_4 a0_5a a0_5n a0_5c H) : Go.Den.Spec Tryz.prog 213 #[(.agg ⟨[(.int .i64 a0_0), (.string a0_1), (.int .i64 a0_2), (.int .i64 a0_3), (.int .i64 a0_4), (.slice a0_5a a0_5n a0_5c)]⟩)] H Q :=
  specOf (fn := Tryz.f213) (hs := h213) (args := [.v (.agg ⟨[(.int .i64 a0_0), (.string a0_1), (.int .i64 a0_2), (.int .i64 a0_3), (.int .i64 a0_4), (.slice a0_5a a0_5n a0_5c)]⟩)]) (by kernel_rfl) (by kernel_rfl) (by kernel_rfl) rfl (by rw [tie213]; exact h)

/-- ast.texts -/
def W214 (Q : Ending → W) (a0a : Option Addr) (a0n : Nat) (a0c : Nat) : W :=
  WLoop (σ := ((Int × Unit) × Unit)) ((0, ()), ()) fun x1 again1 =>
  WIf (decide ((x1.1.1 : Int) < (a0n : Int))) (WIndex a0a a0n (x1.1.1 : Int) fun q2 =>
   WLoad (Addr.add q2 ((Int.toNat (x1.1.1 : Int)) * 6)) (.agg [(.i .i64), .s, (.i .i64), (.i .i64), (.i .i64), .sl]) fun (x3 : Int) (x3_1 : ByteArray) (x3_2 : Int) (x3_3 : Int) (x3_4 : Int) (x3_5 : Option Go.Addr) (x3_6 : Nat) (x3_7 : Nat) =>
   WIf (x3 != 3) (Q (.returned (.bool false)))
   (WCall Tryz.prog Q 145 #[(.agg #[(.int .i64 x3), (.string x3_1), (.int .i64 x3_2), (.int .i64 x3_3), (.int .i64 x3_4), (.slice x3_5 x3_6 x3_7)])] (WOpen (.one (.l .b)) fun (x4 : Bool) =>
    WIf (!x4) (Q (.returned (.bool false)))
    (WIf (decide ((x1.1.1 : Int) > 0)) (WIndex a0a a0n (IntKind.wrap .i64 ((x1.1.1 : Int) - 1)) fun q5 =>
      WLoad (Addr.add (Addr.add q5 ((Int.toNat (IntKind.wrap .i64 ((x1.1.1 : Int) - 1))) * 6)) 1) (.l .s) fun (x6 : ByteArray) =>
      WIf ((Go.Op.bytesLess (ByteArray.toList x3_1) (ByteArray.toList x6)) || ((ByteArray.toList x3_1) == (ByteArray.toList x6))) (Q (.returned (.bool false)))
      (again1 (((IntKind.wrap .i64 ((x1.1.1 : Int) + 1)), ()), ())))
     (again1 (((IntKind.wrap .i64 ((x1.1.1 : Int) + 1)), ()), ()))))))
  (Q (.returned (.bool (decide ((a0n : Int) ≤ 8)))))

def h214 : Hints := ⟨[], [⟨0, [(7, .i .i64)], [2, 3, 4, 8, 9, 10, 11, 12, 13, 14, 15, 16, 17, 18, 19, 20, 21, 22, 23, 24, 25, 26, 27, 28, 29, 30, 31, 32, 33, 34, 35], []⟩], [], [4]⟩
theorem tie214 (Q : Ending → W) (a0a : Option Addr) (a0n : Nat) (a0c : Nat) : funW Tryz.prog tab Q h214 Tryz.f214 [.v (.slice a0a a0n a0c)] = W214 Q a0a a0n a0c := by kernel_rfl

theorem spec214 {Q : Ending → W} {a0a : Option Addr} {a0n : Nat} {a0c : Nat} {H : HP} (h : W214 Q a0a a0n a0c H) : Go.Den.Spec Tryz.prog 214 #[(.slice a0a a0n a0c)] H Q :=
  specOf (fn := Tryz.f214) (hs := h214) (args := [.v (.slice a0a a0n a0c)]) (by kernel_rfl) (by kernel_rfl) (by kernel_rfl) rfl (by rw [tie214]; exact h)

/-- ast.may -/
def W145 (Q : Ending → W) (a0_0 : Int) (a0_1 : ByteArray) (a0_2 : Int) (a0_3 : Int) (a0_4 : Int) (a0_5a : Option Addr) (a0_5n : Nat) (a0_5c : Nat) : W :=
  WIf (a0_0 == 4) (WCall Tryz.prog Q 213 #[(.agg #[(.int .i64 a0_0), (.string a0_1), (.int .i64 a0_2), (.int .i64 a0_3), (.int .i64 a0_4), (.slice a0_5a a0_5n a0_5c)])] (WOpen (.one (.l .b)) fun (x1 : Bool) =>
   WIf x1 (WCall Tryz.prog Q 214 #[(.slice a0_5a a0_5n a0_5c)] (WOpen (.one (.l .b)) fun (x2 : Bool) =>
    Q (.returned (.bool x2))))
   (Q (.returned (.bool false)))))
  (WCall Tryz.prog Q 100 #[(.int .i64 a0_0)] (WOpen (.one (.l (.i .i64))) fun (x3 : Int) =>
   WIf (x3 == (a0_5n : Int)) (WCall Tryz.prog Q 213 #[(.agg #[(.int .i64 a0_0), (.string a0_1), (.int .i64 a0_2), (.int .i64 a0_3), (.int .i64 a0_4), (.slice a0_5a a0_5n a0_5c)])] (WOpen (.one (.l .b)) fun (x4 : Bool) =>
    WIf x4 (WCall Tryz.prog Q 132 #[(.slice a0_5a a0_5n a0_5c), (.func (.func 215) #[] #[])] (WOpen (.one (.l .b)) fun (x5 : Bool) =>
     Q (.returned (.bool (!x5)))))
    (Q (.returned (.bool false)))))
   (Q (.returned (.bool false)))))

def h145 : Hints := ⟨[], [], [], [1]⟩
theorem tie145 (Q : Ending → W) (a0_0 : Int) (a0_1 : ByteArray) (a0_2 : Int) (a0_3 : Int) (a0_4 : Int) (a0_5a : Option Addr) (a0_5n : Nat) (a0_5c : Nat) : funW Tryz.prog tab Q h145 Tryz.f145 [.v (.agg ⟨[(.int .i64 a0_0), (.string a0_1), (.int .i64 a0_2), (.int .i64 a0_3), (.int .i64 a0_4), (.slice a0_5a a0_5n a0_5c)]⟩)] = W145 Q a0_0 a0_1 a0_2 a0_3 a0_4 a0_5a a0_5n a0_5c := by kernel_rfl

theorem spec145 {Q : Ending → W} {a0_0 : Int} {a0_1 : ByteArray} {a0_2 : Int} {a0_3 : Int} {a0_4 : Int} {a0_5a : Option Addr} {a0_5n : Nat} {a0_5c : Nat} {H : HP} (h : W145 Q a0_0 a0_1 a0_2 a0_3 a0_4 a0_5a a0_5n a0_5c H) : Go.Den.Spec Tryz.prog 145 #[(.agg ⟨[(.int .i64 a0_0), (.string a0_1), (.int .i64 a0_2), (.int .i64 a0_3), (.int .i64 a0_4), (.slice a0_5a a0_5n a0_5c)]⟩)] H Q :=
  specOf (fn := Tryz.f145) (hs := h145) (args := [.v (.agg ⟨[(.int .i64 a0_0), (.string a0_1), (.int .i64 a0_2), (.int .i64 a0_3), (.int .i64 a0_4), (.slice a0_5a a0_5n a0_5c)]⟩)]) (by kernel_rfl) (by kernel_rfl) (by kernel_rfl) rfl (by rw [tie145]; exact h)

/-- ast.Check -/
def W79 (Q : Ending → W) (a0_0 : Int) (a0_1 : ByteArray) (a0_2 : Int) (a0_3 : Int) (a0_4 : Int) (a0_5a : Option Addr) (a0_5n : Nat) (a0_5c : Nat) : W :=
  WCall Tryz.prog Q 143 #[(.agg #[(.int .i64 a0_0), (.string a0_1), (.int .i64 a0_2), (.int .i64 a0_3), (.int .i64 a0_4), (.slice a0_5a a0_5n a0_5c)])] (WOpen (.one (.l (.i .i64))) fun (x1 : Int) =>
  WIf (decide (x1 > 12)) (Q (.returned (.int .i64 32)))
  (WCall Tryz.prog Q 144 #[(.agg #[(.int .i64 a0_0), (.string a0_1), (.int .i64 a0_2), (.int .i64 a0_3), (.int .i64 a0_4), (.slice a0_5a a0_5n a0_5c)])] (WOpen (.one (.l (.i .i64))) fun (x2 : Int) =>
   WIf (decide (x2 > 64)) (Q (.returned (.int .i64 3)))
   (WCall Tryz.prog Q 145 #[(.agg #[(.int .i64 a0_0), (.string a0_1), (.int .i64 a0_2), (.int .i64 a0_3), (.int .i64 a0_4), (.slice a0_5a a0_5n a0_5c)])] (WOpen (.one (.l .b)) fun (x3 : Bool) =>
    WIf (!x3) (Q (.returned (.int .i64 12)))
    (Q (.returned (.int .i64 0))))))))

def h79 : Hints := ⟨[], [], [], [1]⟩
theorem tie79 (Q : Ending → W) (a0_0 : Int) (a0_1 : ByteArray) (a0_2 : Int) (a0_3 : Int) (a0_4 : Int) (a0_5a : Option Addr) (a0_5n : Nat) (a0_5c : Nat) : funW Tryz.prog tab Q h79 Tryz.f79 [.v (.agg ⟨[(.int .i64 a0_0), (.string a0_1), (.int .i64 a0_2), (.int .i64 a0_3), (.int .i64 a0_4), (.slice a0_5a a0_5n a0_5c)]⟩)] = W79 Q a0_0 a0_1 a0_2 a0_3 a0_4 a0_5a a0_5n a0_5c := by kernel_rfl

theorem spec79 {Q : Ending → W} {a0_0 : Int} {a0_1 : ByteArray} {a0_2 : Int} {a0_3 : Int} {a0_4 : Int} {a0_5a : Option Addr} {a0_5n : Nat} {a0_5c : Nat} {H : HP} (h : W79 Q a0_0 a0_1 a0_2 a0_3 a0_4 a0_5a a0_5n a0_5c H) : Go.Den.Spec Tryz.prog 79 #[(.agg ⟨[(.int .i64 a0_0), (.string a0_1), (.int .i64 a0_2), (.int .i64 a0_3), (.int .i64 a0_4), (.slice a0_5a a0_5n a0_5c)]⟩)] H Q :=
  specOf (fn := Tryz.f79) (hs := h79) (args := [.v (.agg ⟨[(.int .i64 a0_0), (.string a0_1), (.int .i64 a0_2), (.int .i64 a0_3), (.int .i64 a0_4), (.slice a0_5a a0_5n a0_5c)]⟩)]) (by kernel_rfl) (by kernel_rfl) (by kernel_rfl) rfl (by rw [tie79]; exact h)

/-- window.start -/
def W216 (Q : Ending → W) (a0 : Int) (a1 : Int) : W :=
  WIf (a1 != (-1)) (Q (.returned (.agg #[(.bool true), (.int .i64 (if (a0 < 0) then 0 else a0)), (.int .i64 (if (a1 < (if (a0 < 0) then 0 else a0)) then (if (a0 < 0) then 0 else a0) else a1)), (.int .i64 0), (.slice none 0 0)])))
  (Q (.returned (.agg #[(.bool true), (.int .i64 (if (a0 < 0) then 0 else a0)), (.int .i64 a1), (.int .i64 0), (.slice none 0 0)])))

def h216 : Hints := ⟨[], [], [], [4]⟩
theorem tie216 (Q : Ending → W) (a0 : Int) (a1 : Int) : funW Tryz.prog tab Q h216 Tryz.f216 [.v (.int .i64 a0), .v (.int .i64 a1)] = W216 Q a0 a1 := by kernel_rfl

theorem spec216 {Q : Ending → W} {a0 : Int} {a1 : Int} {H : HP} (h : W216 Q a0 a1 H) : Go.Den.Spec Tryz.prog 216 #[(.int .i64 a0), (.int .i64 a1)] H Q :=
  specOf (fn := Tryz.f216) (hs := h216) (args := [.v (.int .i64 a0), .v (.int .i64 a1)]) (by kernel_rfl) (by kernel_rfl) (by kernel_rfl) rfl (by rw [tie216]; exact h)

/-- window.NewOnce -/
def W146 (Q : Ending → W) (a0 : Int) (a1 : Int) : W :=
  WCall Tryz.prog Q 216 #[(.int .i64 a0), (.int .i64 a1)] (WOpen (.one (.agg [.b, (.i .i64), (.i .i64), (.i .i64), .sl])) fun (x1 : Bool) (x1_1 : Int) (x1_2 : Int) (x1_3 : Int) (x1_4 : Option Go.Addr) (x1_5 : Nat) (x1_6 : Nat) =>
  WNew [(.bool x1), (.int .i64 x1_1), (.int .i64 x1_2), (.int .i64 x1_3), (.slice x1_4 x1_5 x1_6)] 259 fun z2 =>
  Q (.returned (.pointer (some ⟨z2, 0, none⟩))))

def h146 : Hints := ⟨[9], [], [], []⟩
theorem tie146 (Q : Ending → W) (a0 : Int) (a1 : Int) : funW Tryz.prog tab Q h146 Tryz.f146 [.v (.int .i64 a0), .v (.int .i64 a1)] = W146 Q a0 a1 := by kernel_rfl

theorem spec146 {Q : Ending → W} {a0 : Int} {a1 : Int} {H : HP} (h : W146 Q a0 a1 H) : Go.Den.Spec Tryz.prog 146 #[(.int .i64 a0), (.int .i64 a1)] H Q :=
  specOf (fn := Tryz.f146) (hs := h146) (args := [.v (.int .i64 a0), .v (.int .i64 a1)]) (by kernel_rfl) (by kernel_rfl) (by kernel_rfl) rfl (by rw [tie146]; exact h)

/-- window.NewSince -/
def W147 (Q : Ending → W) (a0 : Int) (a1 : Int) : W :=
  WCall Tryz.prog Q 216 #[(.int .i64 a0), (.int .i64 a1)] (WOpen (.one (.agg [.b, (.i .i64), (.i .i64), (.i .i64), .sl])) fun (x1 : Bool) (x1_1 : Int) (x1_2 : Int) (x1_3 : Int) (x1_4 : Option Go.Addr) (x1_5 : Nat) (x1_6 : Nat) =>
  WNew [(.bool x1), (.int .i64 x1_1), (.int .i64 x1_2), (.int .i64 x1_3), (.slice x1_4 x1_5 x1_6)] 260 fun z2 =>
  Q (.returned (.pointer (some ⟨z2, 0, none⟩))))

def h147 : Hints := ⟨[9], [], [], []⟩
theorem tie147 (Q : Ending → W) (a0 : Int) (a1 : Int) : funW Tryz.prog tab Q h147 Tryz.f147 [.v (.int .i64 a0), .v (.int .i64 a1)] = W147 Q a0 a1 := by kernel_rfl

theorem spec147 {Q : Ending → W} {a0 : Int} {a1 : Int} {H : HP} (h : W147 Q a0 a1 H) : Go.Den.Spec Tryz.prog 147 #[(.int .i64 a0), (.int .i64 a1)] H Q :=
  specOf (fn := Tryz.f147) (hs := h147) (args := [.v (.int .i64 a0), .v (.int .i64 a1)]) (by kernel_rfl) (by kernel_rfl) (by kernel_rfl) rfl (by rw [tie147]; exact h)

/-- tally.New -/
def W148 (Q : Ending → W) (a0 : Int) : W :=
  WNew [(.bool true), (.int .i64 (if (a0 < 0) then 0 else a0)), (.int .i64 0), (.slice none 0 0)] 262 fun z1 =>
  Q (.returned (.pointer (some ⟨z1, 0, none⟩)))

def h148 : Hints := ⟨[6], [], [], []⟩
theorem tie148 (Q : Ending → W) (a0 : Int) : funW Tryz.prog tab Q h148 Tryz.f148 [.v (.int .i64 a0)] = W148 Q a0 := by kernel_rfl

theorem spec148 {Q : Ending → W} {a0 : Int} {H : HP} (h : W148 Q a0 H) : Go.Den.Spec Tryz.prog 148 #[(.int .i64 a0)] H Q :=
  specOf (fn := Tryz.f148) (hs := h148) (args := [.v (.int .i64 a0)]) (by kernel_rfl) (by kernel_rfl) (by kernel_rfl) rfl (by rw [tie148]; exact h)

/-- monitor.grow -/
def W80 (Q : Ending → W) (a0_0 : Int) (a0_1 : ByteArray) (a0_2 : Int) (a0_3 : Int) (a0_4 : Int) (a0_5a : Option Addr) (a0_5n : Nat) (a0_5c : Nat) : W :=
  WNew [(.int .i64 a0_0), (.string a0_1), (.int .i64 a0_2), (.int .i64 a0_3), (.int .i64 a0_4), (.slice a0_5a a0_5n a0_5c), (.slice none 0 0), (.pointer none), (.pointer none), (.pointer none), (.bool false)] 165 fun z1 =>
  WLoop (σ := ((Int × Unit) × Unit)) ((0, ()), ()) fun x2 again2 =>
  WIf (decide ((x2.1.1 : Int) < (a0_5n : Int))) (WIndex a0_5a a0_5n (x2.1.1 : Int) fun q3 =>
   WLoad (Addr.add q3 ((Int.toNat (x2.1.1 : Int)) * 6)) (.agg [(.i .i64), .s, (.i .i64), (.i .i64), (.i .i64), .sl]) fun (x4 : Int) (x4_1 : ByteArray) (x4_2 : Int) (x4_3 : Int) (x4_4 : Int) (x4_5 : Option Go.Addr) (x4_6 : Nat) (x4_7 : Nat) =>
   WLoad (Addr.add ⟨z1, 0, none⟩ 6) (.l .sl) fun (x5 : Option Go.Addr) (x5_1 : Nat) (x5_2 : Nat) =>
   WCall Tryz.prog Q 80 #[(.agg #[(.int .i64 x4), (.string x4_1), (.int .i64 x4_2), (.int .i64 x4_3), (.int .i64 x4_4), (.slice x4_5 x4_6 x4_7)])] (WOpen (.one (.l .p)) fun (x6 : Option Go.Addr) =>
   WHeld [((Addr.add ⟨z1, 0, none⟩ 6), [(.slice x5 x5_1 x5_2)])] <|
   WNew [(.pointer x6)] 64 fun z7 =>
   WHeld [((Addr.add ⟨z1, 0, none⟩ 6), [(.slice x5 x5_1 x5_2)])] <|
   WPrim Tryz.prog (Builtin.append_ #[160, 160] 160 #[(.slice x5 x5_1 x5_2), (.slice (some ⟨z7, 0, none⟩) 1 1)]) (WOpen (.one (.l .sl)) fun (x8 : Option Go.Addr) (x8_1 : Nat) (x8_2 : Nat) =>
   WStore (Addr.add ⟨z1, 0, none⟩ 6) [(.slice x8 x8_1 x8_2)] <|
   again2 (((IntKind.wrap .i64 ((x2.1.1 : Int) + 1)), ()), ()))))
  (WIf (a0_0 == 22) (WCall Tryz.prog Q 146 #[(.int .i64 a0_3), (.int .i64 a0_4)] (WOpen (.one (.l .p)) fun (x9 : Option Go.Addr) =>
    WStore (Addr.add ⟨z1, 0, none⟩ 7) [(.pointer x9)] <|
    Q (.returned (.pointer (some ⟨z1, 0, none⟩)))))
   (WIf (a0_0 == 23) (WCall Tryz.prog Q 146 #[(.int .i64 a0_3), (.int .i64 a0_4)] (WOpen (.one (.l .p)) fun (x10 : Option Go.Addr) =>
     WStore (Addr.add ⟨z1, 0, none⟩ 7) [(.pointer x10)] <|
     Q (.returned (.pointer (some ⟨z1, 0, none⟩)))))
    (WIf (a0_0 == 24) (WCall Tryz.prog Q 147 #[(.int .i64 a0_3), (.int .i64 a0_4)] (WOpen (.one (.l .p)) fun (x11 : Option Go.Addr) =>
      WStore (Addr.add ⟨z1, 0, none⟩ 8) [(.pointer x11)] <|
      Q (.returned (.pointer (some ⟨z1, 0, none⟩)))))
     (WIf (a0_0 == 13) (WCall Tryz.prog Q 148 #[(.int .i64 a0_4)] (WOpen (.one (.l .p)) fun (x12 : Option Go.Addr) =>
       WStore (Addr.add ⟨z1, 0, none⟩ 9) [(.pointer x12)] <|
       Q (.returned (.pointer (some ⟨z1, 0, none⟩)))))
      (Q (.returned (.pointer (some ⟨z1, 0, none⟩))))))))

def h80 : Hints := ⟨[8], [⟨0, [(12, .i .i64)], [5, 13, 14, 15, 16, 17, 18, 19, 20, 21, 22, 23, 24, 25, 26, 27], []⟩], [], [1, 5]⟩
theorem tie80 (Q : Ending → W) (a0_0 : Int) (a0_1 : ByteArray) (a0_2 : Int) (a0_3 : Int) (a0_4 : Int) (a0_5a : Option Addr) (a0_5n : Nat) (a0_5c : Nat) : funW Tryz.prog tab Q h80 Tryz.f80 [.v (.agg ⟨[(.int .i64 a0_0), (.string a0_1), (.int .i64 a0_2), (.int .i64 a0_3), (.int .i64 a0_4), (.slice a0_5a a0_5n a0_5c)]⟩)] = W80 Q a0_0 a0_1 a0_2 a0_3 a0_4 a0_5a a0_5n a0_5c := by kernel_rfl

theorem spec80 {Q : Ending → W} {a0_0 : Int} {a0_1 : ByteArray} {a0_2 : Int} {a0_3 : Int} {a0_4 : Int} {a0_5a : Option Addr} {a0_5n : Nat} {a0_5c : Nat} {H : HP} (h : W80 Q a0_0 a0_1 a0_2 a0_3 a0_4 a0_5a a0_5n a0_5c H) : Go.Den.Spec Tryz.prog 80 #[(.agg ⟨[(.int .i64 a0_0), (.string a0_1), (.int .i64 a0_2), (.int .i64 a0_3), (.int .i64 a0_4), (.slice a0_5a a0_5n a0_5c)]⟩)] H Q :=
  specOf (fn := Tryz.f80) (hs := h80) (args := [.v (.agg ⟨[(.int .i64 a0_0), (.string a0_1), (.int .i64 a0_2), (.int .i64 a0_3), (.int .i64 a0_4), (.slice a0_5a a0_5n a0_5c)]⟩)]) (by kernel_rfl) (by kernel_rfl) (by kernel_rfl) rfl (by rw [tie80]; exact h)

/-- ast.Clone -/
def W81 (Q : Ending → W) (a0_0 : Int) (a0_1 : ByteArray) (a0_2 : Int) (a0_3 : Int) (a0_4 : Int) (a0_5a : Option Addr) (a0_5n : Nat) (a0_5c : Nat) : W :=
  WLoop (σ := (((Option Go.Addr × (Nat × Nat)) × (Int × Unit)) × Unit)) (((none, (0, 0)), (0, ())), ()) fun x1 again1 =>
  WIf (decide ((x1.1.2.1 : Int) < (a0_5n : Int))) (WIndex a0_5a a0_5n (x1.1.2.1 : Int) fun q2 =>
   WLoad (Addr.add q2 ((Int.toNat (x1.1.2.1 : Int)) * 6)) (.agg [(.i .i64), .s, (.i .i64), (.i .i64), (.i .i64), .sl]) fun (x3 : Int) (x3_1 : ByteArray) (x3_2 : Int) (x3_3 : Int) (x3_4 : Int) (x3_5 : Option Go.Addr) (x3_6 : Nat) (x3_7 : Nat) =>
   WCall Tryz.prog Q 81 #[(.agg #[(.int .i64 x3), (.string x3_1), (.int .i64 x3_2), (.int .i64 x3_3), (.int .i64 x3_4), (.slice x3_5 x3_6 x3_7)])] (WOpen (.one (.agg [(.i .i64), .s, (.i .i64), (.i .i64), (.i .i64), .sl])) fun (x4 : Int) (x4_1 : ByteArray) (x4_2 : Int) (x4_3 : Int) (x4_4 : Int) (x4_5 : Option Go.Addr) (x4_6 : Nat) (x4_7 : Nat) =>
   WNew [(.int .i64 x4), (.string x4_1), (.int .i64 x4_2), (.int .i64 x4_3), (.int .i64 x4_4), (.slice x4_5 x4_6 x4_7)] 24 fun z5 =>
   WPrim Tryz.prog (Builtin.append_ #[22, 22] 22 #[(.slice (x1.1.1.1 : Option Go.Addr) (x1.1.1.2.1 : Nat) (x1.1.1.2.2 : Nat)), (.slice (some ⟨z5, 0, none⟩) 1 1)]) (WOpen (.one (.l .sl)) fun (x6 : Option Go.Addr) (x6_1 : Nat) (x6_2 : Nat) =>
   again1 (((x6, (x6_1, x6_2)), ((IntKind.wrap .i64 ((x1.1.2.1 : Int) + 1)), ())), ()))))
  (Q (.returned (.agg #[(.int .i64 a0_0), (.string a0_1), (.int .i64 a0_2), (.int .i64 a0_3), (.int .i64 a0_4), (.slice (x1.1.1.1 : Option Go.Addr) (x1.1.1.2.1 : Nat) (x1.1.1.2.2 : Nat))])))

def h81 : Hints := ⟨[], [⟨0, [(3, .sl), (9, .i .i64)], [5, 10, 11, 12, 13, 14, 15, 16, 17, 18], []⟩], [], [1, 2, 5]⟩
theorem tie81 (Q : Ending → W) (a0_0 : Int) (a0_1 : ByteArray) (a0_2 : Int) (a0_3 : Int) (a0_4 : Int) (a0_5a : Option Addr) (a0_5n : Nat) (a0_5c : Nat) : funW Tryz.prog tab Q h81 Tryz.f81 [.v (.agg ⟨[(.int .i64 a0_0), (.string a0_1), (.int .i64 a0_2), (.int .i64 a0_3), (.int .i64 a0_4), (.slice a0_5a a0_5n a0_5c)]⟩)] = W81 Q a0_0 a0_1 a0_2 a0_3 a0_4 a0_5a a0_5n a0_5c := by kernel_rfl

theorem spec81 {Q : Ending → W} {a0_0 : Int} {a0_1 : ByteArray} {a0_2 : Int} {a0_3 : Int} {a0_4 : Int} {a0_5a : Option Addr} {a0_5n : Nat} {a0_5c : Nat} {H : HP} (h : W81 Q a0_0 a0_1 a0_2 a0_3 a0_4 a0_5a a0_5n a0_5c H) : Go.Den.Spec Tryz.prog 81 #[(.agg ⟨[(.int .i64 a0_0), (.string a0_1), (.int .i64 a0_2), (.int .i64 a0_3), (.int .i64 a0_4), (.slice a0_5a a0_5n a0_5c)]⟩)] H Q :=
  specOf (fn := Tryz.f81) (hs := h81) (args := [.v (.agg ⟨[(.int .i64 a0_0), (.string a0_1), (.int .i64 a0_2), (.int .i64 a0_3), (.int .i64 a0_4), (.slice a0_5a a0_5n a0_5c)]⟩)]) (by kernel_rfl) (by kernel_rfl) (by kernel_rfl) rfl (by rw [tie81]; exact h)

/-- monitor.New -/
def W22 (Q : Ending → W) (a0_0 : Int) (a0_1 : ByteArray) (a0_2 : Int) (a0_3 : Int) (a0_4 : Int) (a0_5a : Option Addr) (a0_5n : Nat) (a0_5c : Nat) : W :=
  WCall Tryz.prog Q 79 #[(.agg #[(.int .i64 a0_0), (.string a0_1), (.int .i64 a0_2), (.int .i64 a0_3), (.int .i64 a0_4), (.slice a0_5a a0_5n a0_5c)])] (WOpen (.one (.l (.i .i64))) fun (x1 : Int) =>
  WIf (x1 != 0) (Q (.returned (.pointer none)))
  (WCall Tryz.prog Q 81 #[(.agg #[(.int .i64 a0_0), (.string a0_1), (.int .i64 a0_2), (.int .i64 a0_3), (.int .i64 a0_4), (.slice a0_5a a0_5n a0_5c)])] (WOpen (.one (.agg [(.i .i64), .s, (.i .i64), (.i .i64), (.i .i64), .sl])) fun (x2 : Int) (x2_1 : ByteArray) (x2_2 : Int) (x2_3 : Int) (x2_4 : Int) (x2_5 : Option Go.Addr) (x2_6 : Nat) (x2_7 : Nat) =>
   WCall Tryz.prog Q 80 #[(.agg #[(.int .i64 x2), (.string x2_1), (.int .i64 x2_2), (.int .i64 x2_3), (.int .i64 x2_4), (.slice x2_5 x2_6 x2_7)])] (WOpen (.one (.l .p)) fun (x3 : Option Go.Addr) =>
   WNew [(.pointer x3), (.int .i64 0)] 66 fun z4 =>
   Q (.returned (.pointer (some ⟨z4, 0, none⟩)))))))

def h22 : Hints := ⟨[10], [], [], [1]⟩
theorem tie22 (Q : Ending → W) (a0_0 : Int) (a0_1 : ByteArray) (a0_2 : Int) (a0_3 : Int) (a0_4 : Int) (a0_5a : Option Addr) (a0_5n : Nat) (a0_5c : Nat) : funW Tryz.prog tab Q h22 Tryz.f22 [.v (.agg ⟨[(.int .i64 a0_0), (.string a0_1), (.int .i64 a0_2), (.int .i64 a0_3), (.int .i64 a0_4), (.slice a0_5a a0_5n a0_5c)]⟩)] = W22 Q a0_0 a0_1 a0_2 a0_3 a0_4 a0_5a a0_5n a0_5c := by kernel_rfl

theorem spec22 {Q : Ending → W} {a0_0 : Int} {a0_1 : ByteArray} {a0_2 : Int} {a0_3 : Int} {a0_4 : Int} {a0_5a : Option Addr} {a0_5n : Nat} {a0_5c : Nat} {H : HP} (h : W22 Q a0_0 a0_1 a0_2 a0_3 a0_4 a0_5a a0_5n a0_5c H) : Go.Den.Spec Tryz.prog 22 #[(.agg ⟨[(.int .i64 a0_0), (.string a0_1), (.int .i64 a0_2), (.int .i64 a0_3), (.int .i64 a0_4), (.slice a0_5a a0_5n a0_5c)]⟩)] H Q :=
  specOf (fn := Tryz.f22) (hs := h22) (args := [.v (.agg ⟨[(.int .i64 a0_0), (.string a0_1), (.int .i64 a0_2), (.int .i64 a0_3), (.int .i64 a0_4), (.slice a0_5a a0_5n a0_5c)]⟩)]) (by kernel_rfl) (by kernel_rfl) (by kernel_rfl) rfl (by rw [tie22]; exact h)

/-- store.New -/
def W23 (Q : Ending → W) (a0a : Option Addr) (a0n : Nat) (a0c : Nat) : W :=
  WPrim Tryz.prog (Instr.makeMap 110 none) (WOpen (.one (.l .m)) fun (x1 : Option Nat) =>
  WPrim Tryz.prog (Instr.makeMap 111 none) (WOpen (.one (.l .m)) fun (x2 : Option Nat) =>
  WNew [(.map x1), (.map x2)] 113 fun z3 =>
  WLoop (σ := ((Int × Unit) × Unit)) ((0, ()), ()) fun x4 again4 =>
  WIf (decide ((x4.1.1 : Int) < (a0n : Int))) (WIndex a0a a0n (x4.1.1 : Int) fun q5 =>
   WLoad (Addr.add q5 ((Int.toNat (x4.1.1 : Int)) * 2)) (.agg [.s, (.i .i64)]) fun (x6 : ByteArray) (x6_1 : Int) =>
   WLoad (Addr.add ⟨z3, 0, none⟩ 0) (.l .m) fun (x7 : Option Nat) =>
   WPrim Tryz.prog (Instr.lookup 110 (.map x7) (.string x6) true) (WOpen (.tup [(.l (.i .i64)), (.l .b)]) fun (x8 : Int) (x8_1 : Bool) =>
   WIf (((!x8_1) && (decide (x6_1 ≥ 1))) && (decide (x6_1 ≤ 4))) (WLoad (Addr.add ⟨z3, 0, none⟩ 0) (.l .m) fun (x9 : Option Nat) =>
    WPrimU Tryz.prog (Instr.mapUpdate 110 (.map x9) (.string x6) (.int .i64 x6_1)) <|
    again4 (((IntKind.wrap .i64 ((x4.1.1 : Int) + 1)), ()), ()))
   (again4 (((IntKind.wrap .i64 ((x4.1.1 : Int) + 1)), ()), ()))))
  (Q (.returned (.pointer (some ⟨z3, 0, none⟩))))))

def h23 : Hints := ⟨[11], [⟨0, [(14, .i .i64)], [5, 6, 7, 15, 16, 17, 18, 19, 20, 21, 22, 23, 24, 25, 26, 27, 28, 29, 30, 31, 32, 33, 34, 35, 36, 37, 38, 39, 40, 41, 42, 43, 44, 45, 46, 47, 48], []⟩], [], [5]⟩
theorem tie23 (Q : Ending → W) (a0a : Option Addr) (a0n : Nat) (a0c : Nat) : funW Tryz.prog tab Q h23 Tryz.f23 [.v (.slice a0a a0n a0c)] = W23 Q a0a a0n a0c := by kernel_rfl

theorem spec23 {Q : Ending → W} {a0a : Option Addr} {a0n : Nat} {a0c : Nat} {H : HP} (h : W23 Q a0a a0n a0c H) : Go.Den.Spec Tryz.prog 23 #[(.slice a0a a0n a0c)] H Q :=
  specOf (fn := Tryz.f23) (hs := h23) (args := [.v (.slice a0a a0n a0c)]) (by kernel_rfl) (by kernel_rfl) (by kernel_rfl) rfl (by rw [tie23]; exact h)

/-- (*monitor.Monitor).is -/
def W89 (Q : Ending → W) (a0 : Option Addr) : W :=
  WIf (!(Option.isNone a0)) (WNonNil a0 fun q1 =>
   WLoad (Addr.add q1 0) (.l .p) fun (x2 : Option Go.Addr) =>
   Q (.returned (.bool (!(Option.isNone x2)))))
  (Q (.returned (.bool false)))

def h89 : Hints := ⟨[], [], [], []⟩
theorem tie89 (Q : Ending → W) (a0 : Option Addr) : funW Tryz.prog tab Q h89 Tryz.f89 [.v (.pointer a0)] = W89 Q a0 := by kernel_rfl

theorem spec89 {Q : Ending → W} {a0 : Option Addr} {H : HP} (h : W89 Q a0 H) : Go.Den.Spec Tryz.prog 89 #[(.pointer a0)] H Q :=
  specOf (fn := Tryz.f89) (hs := h89) (args := [.v (.pointer a0)]) (by kernel_rfl) (by kernel_rfl) (by kernel_rfl) rfl (by rw [tie89]; exact h)

/-- monitor.need -/
def W159 (Q : Ending → W) (a0 : Bool) (a1 : Int) : W :=
  WIf (!a0) (Q (.panicked [⟨(.iface 149 (.agg #[(.int .i64 a1)])), false, false⟩]))
  (Q (.returned (.tuple #[])))

def h159 : Hints := ⟨[], [], [], []⟩
theorem tie159 (Q : Ending → W) (a0 : Bool) (a1 : Int) : funW Tryz.prog tab Q h159 Tryz.f159 [.v (.bool a0), .v (.int .i64 a1)] = W159 Q a0 a1 := by kernel_rfl

theorem spec159 {Q : Ending → W} {a0 : Bool} {a1 : Int} {H : HP} (h : W159 Q a0 a1 H) : Go.Den.Spec Tryz.prog 159 #[(.bool a0), (.int .i64 a1)] H Q :=
  specOf (fn := Tryz.f159) (hs := h159) (args := [.v (.bool a0), .v (.int .i64 a1)]) (by kernel_rfl) (by kernel_rfl) (by kernel_rfl) rfl (by rw [tie159]; exact h)

/-- num.Neg -/
def W160 (Q : Ending → W) (a0 : Int) : W :=
  WIf (a0 == (-9223372036854775808)) (Q (.returned (.tuple #[(.int .i64 0), (.bool false)])))
  (Q (.returned (.tuple #[(.int .i64 (IntKind.wrap .i64 ((0 : Int) - a0))), (.bool true)])))

def h160 : Hints := ⟨[], [], [], []⟩
theorem tie160 (Q : Ending → W) (a0 : Int) : funW Tryz.prog tab Q h160 Tryz.f160 [.v (.int .i64 a0)] = W160 Q a0 := by kernel_rfl

theorem spec160 {Q : Ending → W} {a0 : Int} {H : HP} (h : W160 Q a0 H) : Go.Den.Spec Tryz.prog 160 #[(.int .i64 a0)] H Q :=
  specOf (fn := Tryz.f160) (hs := h160) (args := [.v (.int .i64 a0)]) (by kernel_rfl) (by kernel_rfl) (by kernel_rfl) rfl (by rw [tie160]; exact h)

/-- value.Int -/
def W161 (Q : Ending → W) (a0 : Int) : W :=
  Q (.returned (.agg #[(.int .i64 1), (.int .i64 a0), (.string (ByteArray.mk #[])), (.slice none 0 0)]))

def h161 : Hints := ⟨[], [], [], [2]⟩
theorem tie161 (Q : Ending → W) (a0 : Int) : funW Tryz.prog tab Q h161 Tryz.f161 [.v (.int .i64 a0)] = W161 Q a0 := by kernel_rfl

theorem spec161 {Q : Ending → W} {a0 : Int} {H : HP} (h : W161 Q a0 H) : Go.Den.Spec Tryz.prog 161 #[(.int .i64 a0)] H Q :=
  specOf (fn := Tryz.f161) (hs := h161) (args := [.v (.int .i64 a0)]) (by kernel_rfl) (by kernel_rfl) (by kernel_rfl) rfl (by rw [tie161]; exact h)

/-- value.Size -/
def W162 (Q : Ending → W) (a0_0 : Int) (a0_1 : Int) (a0_2 : ByteArray) (a0_3a : Option Addr) (a0_3n : Nat) (a0_3c : Nat) : W :=
  WIf (a0_0 == 3) (Q (.returned (.int .i64 (((ByteArray.size a0_2) : Nat) : Int))))
  (WIf (a0_0 == 4) (Q (.returned (.int .i64 (a0_3n : Int))))
   (Q (.returned (.int .i64 0))))

def h162 : Hints := ⟨[], [], [], [1]⟩
theorem tie162 (Q : Ending → W) (a0_0 : Int) (a0_1 : Int) (a0_2 : ByteArray) (a0_3a : Option Addr) (a0_3n : Nat) (a0_3c : Nat) : funW Tryz.prog tab Q h162 Tryz.f162 [.v (.agg ⟨[(.int .i64 a0_0), (.int .i64 a0_1), (.string a0_2), (.slice a0_3a a0_3n a0_3c)]⟩)] = W162 Q a0_0 a0_1 a0_2 a0_3a a0_3n a0_3c := by kernel_rfl

theorem spec162 {Q : Ending → W} {a0_0 : Int} {a0_1 : Int} {a0_2 : ByteArray} {a0_3a : Option Addr} {a0_3n : Nat} {a0_3c : Nat} {H : HP} (h : W162 Q a0_0 a0_1 a0_2 a0_3a a0_3n a0_3c H) : Go.Den.Spec Tryz.prog 162 #[(.agg ⟨[(.int .i64 a0_0), (.int .i64 a0_1), (.string a0_2), (.slice a0_3a a0_3n a0_3c)]⟩)] H Q :=
  specOf (fn := Tryz.f162) (hs := h162) (args := [.v (.agg ⟨[(.int .i64 a0_0), (.int .i64 a0_1), (.string a0_2), (.slice a0_3a a0_3n a0_3c)]⟩)]) (by kernel_rfl) (by kernel_rfl) (by kernel_rfl) rfl (by rw [tie162]; exact h)

/-- monitor.truth -/
def W163 (Q : Ending → W) (a0_0 : Int) (a0_1 : Int) (a0_2 : ByteArray) (a0_3a : Option Addr) (a0_3n : Nat) (a0_3c : Nat) : W :=
  WCall Tryz.prog Q 159 #[(.bool (a0_0 == 2)), (.int .i64 31)] (WOpen (.tup []) <|
  Q (.returned (.bool (a0_1 == 1))))

def h163 : Hints := ⟨[], [], [], [1]⟩
theorem tie163 (Q : Ending → W) (a0_0 : Int) (a0_1 : Int) (a0_2 : ByteArray) (a0_3a : Option Addr) (a0_3n : Nat) (a0_3c : Nat) : funW Tryz.prog tab Q h163 Tryz.f163 [.v (.agg ⟨[(.int .i64 a0_0), (.int .i64 a0_1), (.string a0_2), (.slice a0_3a a0_3n a0_3c)]⟩)] = W163 Q a0_0 a0_1 a0_2 a0_3a a0_3n a0_3c := by kernel_rfl

theorem spec163 {Q : Ending → W} {a0_0 : Int} {a0_1 : Int} {a0_2 : ByteArray} {a0_3a : Option Addr} {a0_3n : Nat} {a0_3c : Nat} {H : HP} (h : W163 Q a0_0 a0_1 a0_2 a0_3a a0_3n a0_3c H) : Go.Den.Spec Tryz.prog 163 #[(.agg ⟨[(.int .i64 a0_0), (.int .i64 a0_1), (.string a0_2), (.slice a0_3a a0_3n a0_3c)]⟩)] H Q :=
  specOf (fn := Tryz.f163) (hs := h163) (args := [.v (.agg ⟨[(.int .i64 a0_0), (.int .i64 a0_1), (.string a0_2), (.slice a0_3a a0_3n a0_3c)]⟩)]) (by kernel_rfl) (by kernel_rfl) (by kernel_rfl) rfl (by rw [tie163]; exact h)

/-- value.Bool -/
def W164 (Q : Ending → W) (a0 : Bool) : W :=
  WIf a0 (Q (.returned (.agg #[(.int .i64 2), (.int .i64 1), (.string (ByteArray.mk #[])), (.slice none 0 0)])))
  (Q (.returned (.agg #[(.int .i64 2), (.int .i64 0), (.string (ByteArray.mk #[])), (.slice none 0 0)])))

def h164 : Hints := ⟨[], [], [], [2, 3]⟩
theorem tie164 (Q : Ending → W) (a0 : Bool) : funW Tryz.prog tab Q h164 Tryz.f164 [.v (.bool a0)] = W164 Q a0 := by kernel_rfl

theorem spec164 {Q : Ending → W} {a0 : Bool} {H : HP} (h : W164 Q a0 H) : Go.Den.Spec Tryz.prog 164 #[(.bool a0)] H Q :=
  specOf (fn := Tryz.f164) (hs := h164) (args := [.v (.bool a0)]) (by kernel_rfl) (by kernel_rfl) (by kernel_rfl) rfl (by rw [tie164]; exact h)

/-- (*window.Once).Step -/
def W165 (Q : Ending → W) (a0 : Option Addr) (a1 : Int) (a2 : Bool) : W :=
  WIf (Option.isNone a0) (Q (.returned (.bool false)))
  (WNonNil a0 fun q1 =>
   WLoad (Addr.add (Addr.add q1 0) 0) (.l .b) fun (x2 : Bool) =>
   WIf (!x2) (Q (.returned (.bool false)))
   (WNonNil a0 fun q3 =>
    WCall Tryz.prog Q 220 #[(.pointer (some (Addr.add q3 0))), (.int .i64 a1)] (WOpen (.one (.l (.i .i64))) fun (x4 : Int) =>
    WIf a2 (WNonNil a0 fun q5 =>
     WCall Tryz.prog Q 221 #[(.pointer (some (Addr.add q5 0)))] (WOpen (.tup []) <|
     WNonNil a0 fun q7 =>
     WCall Tryz.prog Q 222 #[(.pointer (some (Addr.add q7 0)))] (WOpen (.one (.l .b)) fun (x8 : Bool) =>
     Q (.returned (.bool x8)))))
    (WNonNil a0 fun q9 =>
     WCall Tryz.prog Q 222 #[(.pointer (some (Addr.add q9 0)))] (WOpen (.one (.l .b)) fun (x10 : Bool) =>
     Q (.returned (.bool x10)))))))

def h165 : Hints := ⟨[], [], [], []⟩
theorem tie165 (Q : Ending → W) (a0 : Option Addr) (a1 : Int) (a2 : Bool) : funW Tryz.prog tab Q h165 Tryz.f165 [.v (.pointer a0), .v (.int .i64 a1), .v (.bool a2)] = W165 Q a0 a1 a2 := by kernel_rfl

theorem spec165 {Q : Ending → W} {a0 : Option Addr} {a1 : Int} {a2 : Bool} {H : HP} (h : W165 Q a0 a1 a2 H) : Go.Den.Spec Tryz.prog 165 #[(.pointer a0), (.int .i64 a1), (.bool a2)] H Q :=
  specOf (fn := Tryz.f165) (hs := h165) (args := [.v (.pointer a0), .v (.int .i64 a1), .v (.bool a2)]) (by kernel_rfl) (by kernel_rfl) (by kernel_rfl) rfl (by rw [tie165]; exact h)

/-- (monitor.eye).single -/
def W102 (Q : Ending → W) (a0_0 : Option Addr) (a0_1 : Int) (a0_2 : ByteArray) (a0_3 : ByteArray) (a0_4 : ByteArray) (a1 : Option Addr) (a2_0 : Int) (a2_1 : Int) (a2_2 : ByteArray) (a2_3a : Option Addr) (a2_3n : Nat) (a2_3c : Nat) : W :=
  WNonNil a1 fun q1 =>
  WLoad (Addr.add (Addr.add q1 0) 0) (.l (.i .i64)) fun (x2 : Int) =>
  WIf (x2 == 11) (WCall Tryz.prog Q 159 #[(.bool (a2_0 == 1)), (.int .i64 31)] (WOpen (.tup []) <|
   WCall Tryz.prog Q 160 #[(.int .i64 a2_1)] (WOpen (.tup [(.l (.i .i64)), (.l .b)]) fun (x4 : Int) (x4_1 : Bool) =>
   WCall Tryz.prog Q 159 #[(.bool x4_1), (.int .i64 30)] (WOpen (.tup []) <|
   WCall Tryz.prog Q 161 #[(.int .i64 x4)] (WOpen (.one (.agg [(.i .i64), (.i .i64), .s, .sl])) fun (x6 : Int) (x6_1 : Int) (x6_2 : ByteArray) (x6_3 : Option Go.Addr) (x6_4 : Nat) (x6_5 : Nat) =>
   Q (.returned (.agg #[(.int .i64 x6), (.int .i64 x6_1), (.string x6_2), (.slice x6_3 x6_4 x6_5)])))))))
  (WIf (x2 == 12) (WIf (a2_0 == 3) (WCall Tryz.prog Q 159 #[(.bool true), (.int .i64 31)] (WOpen (.tup []) <|
     WCall Tryz.prog Q 162 #[(.agg #[(.int .i64 a2_0), (.int .i64 a2_1), (.string a2_2), (.slice a2_3a a2_3n a2_3c)])] (WOpen (.one (.l (.i .i64))) fun (x8 : Int) =>
     WCall Tryz.prog Q 161 #[(.int .i64 x8)] (WOpen (.one (.agg [(.i .i64), (.i .i64), .s, .sl])) fun (x9 : Int) (x9_1 : Int) (x9_2 : ByteArray) (x9_3 : Option Go.Addr) (x9_4 : Nat) (x9_5 : Nat) =>
     Q (.returned (.agg #[(.int .i64 x9), (.int .i64 x9_1), (.string x9_2), (.slice x9_3 x9_4 x9_5)]))))))
    (WCall Tryz.prog Q 159 #[(.bool (a2_0 == 4)), (.int .i64 31)] (WOpen (.tup []) <|
     WCall Tryz.prog Q 162 #[(.agg #[(.int .i64 a2_0), (.int .i64 a2_1), (.string a2_2), (.slice a2_3a a2_3n a2_3c)])] (WOpen (.one (.l (.i .i64))) fun (x11 : Int) =>
     WCall Tryz.prog Q 161 #[(.int .i64 x11)] (WOpen (.one (.agg [(.i .i64), (.i .i64), .s, .sl])) fun (x12 : Int) (x12_1 : Int) (x12_2 : ByteArray) (x12_3 : Option Go.Addr) (x12_4 : Nat) (x12_5 : Nat) =>
     Q (.returned (.agg #[(.int .i64 x12), (.int .i64 x12_1), (.string x12_2), (.slice x12_3 x12_4 x12_5)])))))))
   (WCall Tryz.prog Q 163 #[(.agg #[(.int .i64 a2_0), (.int .i64 a2_1), (.string a2_2), (.slice a2_3a a2_3n a2_3c)])] (WOpen (.one (.l .b)) fun (x13 : Bool) =>
    WNonNil a1 fun q14 =>
    WLoad (Addr.add (Addr.add q14 0) 0) (.l (.i .i64)) fun (x15 : Int) =>
    WIf (x15 == 18) (WCall Tryz.prog Q 164 #[(.bool (!x13))] (WOpen (.one (.agg [(.i .i64), (.i .i64), .s, .sl])) fun (x16 : Int) (x16_1 : Int) (x16_2 : ByteArray) (x16_3 : Option Go.Addr) (x16_4 : Nat) (x16_5 : Nat) =>
     Q (.returned (.agg #[(.int .i64 x16), (.int .i64 x16_1), (.string x16_2), (.slice x16_3 x16_4 x16_5)]))))
    (WIf (x15 == 22) (WNonNil a1 fun q17 =>
      WLoad (Addr.add q17 7) (.l .p) fun (x18 : Option Go.Addr) =>
      WCall Tryz.prog Q 165 #[(.pointer x18), (.int .i64 a0_1), (.bool x13)] (WOpen (.one (.l .b)) fun (x19 : Bool) =>
      WCall Tryz.prog Q 164 #[(.bool x19)] (WOpen (.one (.agg [(.i .i64), (.i .i64), .s, .sl])) fun (x20 : Int) (x20_1 : Int) (x20_2 : ByteArray) (x20_3 : Option Go.Addr) (x20_4 : Nat) (x20_5 : Nat) =>
      Q (.returned (.agg #[(.int .i64 x20), (.int .i64 x20_1), (.string x20_2), (.slice x20_3 x20_4 x20_5)])))))
     (WIf (x15 == 23) (WNonNil a1 fun q21 =>
       WLoad (Addr.add q21 7) (.l .p) fun (x22 : Option Go.Addr) =>
       WCall Tryz.prog Q 165 #[(.pointer x22), (.int .i64 a0_1), (.bool (!x13))] (WOpen (.one (.l .b)) fun (x23 : Bool) =>
       WCall Tryz.prog Q 164 #[(.bool (!x23))] (WOpen (.one (.agg [(.i .i64), (.i .i64), .s, .sl])) fun (x24 : Int) (x24_1 : Int) (x24_2 : ByteArray) (x24_3 : Option Go.Addr) (x24_4 : Nat) (x24_5 : Nat) =>
       Q (.returned (.agg #[(.int .i64 x24), (.int .i64 x24_1), (.string x24_2), (.slice x24_3 x24_4 x24_5)])))))
      (WNonNil a1 fun q25 =>
       WLoad (Addr.add q25 10) (.l .b) fun (x26 : Bool) =>
       WNonNil a1 fun q27 =>
       WStore (Addr.add q27 10) [(.bool x13)] <|
       WCall Tryz.prog Q 164 #[(.bool x26)] (WOpen (.one (.agg [(.i .i64), (.i .i64), .s, .sl])) fun (x28 : Int) (x28_1 : Int) (x28_2 : ByteArray) (x28_3 : Option Go.Addr) (x28_4 : Nat) (x28_5 : Nat) =>
       Q (.returned (.agg #[(.int .i64 x28), (.int .i64 x28_1), (.string x28_2), (.slice x28_3 x28_4 x28_5)])))))))))

def h102 : Hints := ⟨[], [], [], [3, 5, 6]⟩
theorem tie102 (Q : Ending → W) (a0_0 : Option Addr) (a0_1 : Int) (a0_2 : ByteArray) (a0_3 : ByteArray) (a0_4 : ByteArray) (a1 : Option Addr) (a2_0 : Int) (a2_1 : Int) (a2_2 : ByteArray) (a2_3a : Option Addr) (a2_3n : Nat) (a2_3c : Nat) : funW Tryz.prog tab Q h102 Tryz.f102 [.v (.agg ⟨[(.pointer a0_0), (.int .i64 a0_1), (.string a0_2), (.string a0_3), (.string a0_4)]⟩), .v (.pointer a1), .v (.agg ⟨[(.int .i64 a2_0), (.int .i64 a2_1), (.string a2_2), (.slice a2_3a a2_3n a2_3c)]⟩)] = W102 Q a0_0 a0_1 a0_2 a0_3 a0_4 a1 a2_0 a2_1 a2_2 a2_3a a2_3n a2_3c := by kernel_rfl

theorem spec102 {Q : Ending → W} {a0_0 : Option Addr} {a0_1 : Int} {a0_2 : ByteArray} {a0_3 : ByteArray} {a0_4 : ByteArray} {a1 : Option Addr} {a2_0 : Int} {a2_1 : Int} {a2_2 : ByteArray} {a2_3a : Option Addr} {a2_3n : Nat} {a2_3c : Nat} {H : HP} (h : W102 Q a0_0 a0_1 a0_2 a0_3 a0_4 a1 a2_0 a2_1 a2_2 a2_3a a2_3n a2_3c H) : Go.Den.Spec Tryz.prog 102 #[(.agg ⟨[(.pointer a0_0), (.int .i64 a0_1), (.string a0_2), (.string a0_3), (.string a0_4)]⟩), (.pointer a1), (.agg ⟨[(.int .i64 a2_0), (.int .i64 a2_1), (.string a2_2), (.slice a2_3a a2_3n a2_3c)]⟩)] H Q :=
  specOf (fn := Tryz.f102) (hs := h102) (args := [.v (.agg ⟨[(.pointer a0_0), (.int .i64 a0_1), (.string a0_2), (.string a0_3), (.string a0_4)]⟩), .v (.pointer a1), .v (.agg ⟨[(.int .i64 a2_0), (.int .i64 a2_1), (.string a2_2), (.slice a2_3a a2_3n a2_3c)]⟩)]) (by kernel_rfl) (by kernel_rfl) (by kernel_rfl) rfl (by rw [tie102]; exact h)

/-- num.Add -/
def W223 (Q : Ending → W) (a0 : Int) (a1 : Int) : W :=
  WIf (((decide (a0 < 0)) == (decide (a1 < 0))) && (!((decide ((IntKind.wrap .i64 (a0 + a1)) < 0)) == (decide (a0 < 0))))) (Q (.returned (.tuple #[(.int .i64 0), (.bool false)])))
  (Q (.returned (.tuple #[(.int .i64 (IntKind.wrap .i64 (a0 + a1))), (.bool true)])))

def h223 : Hints := ⟨[], [], [], []⟩
theorem tie223 (Q : Ending → W) (a0 : Int) (a1 : Int) : funW Tryz.prog tab Q h223 Tryz.f223 [.v (.int .i64 a0), .v (.int .i64 a1)] = W223 Q a0 a1 := by kernel_rfl

theorem spec223 {Q : Ending → W} {a0 : Int} {a1 : Int} {H : HP} (h : W223 Q a0 a1 H) : Go.Den.Spec Tryz.prog 223 #[(.int .i64 a0), (.int .i64 a1)] H Q :=
  specOf (fn := Tryz.f223) (hs := h223) (args := [.v (.int .i64 a0), .v (.int .i64 a1)]) (by kernel_rfl) (by kernel_rfl) (by kernel_rfl) rfl (by rw [tie223]; exact h)

/-- num.Sub -/
def W224 (Q : Ending → W) (a0 : Int) (a1 : Int) : W :=
  WIf ((!((decide (a0 < 0)) == (decide (a1 < 0)))) && (!((decide ((IntKind.wrap .i64 (a0 - a1)) < 0)) == (decide (a0 < 0))))) (Q (.returned (.tuple #[(.int .i64 0), (.bool false)])))
  (Q (.returned (.tuple #[(.int .i64 (IntKind.wrap .i64 (a0 - a1))), (.bool true)])))

def h224 : Hints := ⟨[], [], [], []⟩
theorem tie224 (Q : Ending → W) (a0 : Int) (a1 : Int) : funW Tryz.prog tab Q h224 Tryz.f224 [.v (.int .i64 a0), .v (.int .i64 a1)] = W224 Q a0 a1 := by kernel_rfl

theorem spec224 {Q : Ending → W} {a0 : Int} {a1 : Int} {H : HP} (h : W224 Q a0 a1 H) : Go.Den.Spec Tryz.prog 224 #[(.int .i64 a0), (.int .i64 a1)] H Q :=
  specOf (fn := Tryz.f224) (hs := h224) (args := [.v (.int .i64 a0), .v (.int .i64 a1)]) (by kernel_rfl) (by kernel_rfl) (by kernel_rfl) rfl (by rw [tie224]; exact h)

/-- math/bits.Mul64 -/
def W258 (Q : Ending → W) (a0 : Int) (a1 : Int) : W :=
  WReq ((0 : Int) ≤ 32) <|
  WReq ((0 : Int) ≤ 32) <|
  WReq ((0 : Int) ≤ 32) <|
  WReq ((0 : Int) ≤ 32) <|
  WReq ((0 : Int) ≤ 32) <|
  Q (.returned (.tuple #[(.int .u64 (IntKind.wrap .u64 ((IntKind.wrap .u64 ((IntKind.wrap .u64 ((Int.fdiv a0 4294967296) * (Int.fdiv a1 4294967296))) + (Int.fdiv (IntKind.wrap .u64 ((IntKind.wrap .u64 ((Int.fdiv a0 4294967296) * (IntKind.wrap .u64 (((BitVec.toNat ((BitVec.ofInt (IntKind.bits .u64) a1) &&& (BitVec.ofInt (IntKind.bits .u64) 4294967295))) : Nat) : Int)))) + (Int.fdiv (IntKind.wrap .u64 ((IntKind.wrap .u64 (((BitVec.toNat ((BitVec.ofInt (IntKind.bits .u64) a0) &&& (BitVec.ofInt (IntKind.bits .u64) 4294967295))) : Nat) : Int)) * (IntKind.wrap .u64 (((BitVec.toNat ((BitVec.ofInt (IntKind.bits .u64) a1) &&& (BitVec.ofInt (IntKind.bits .u64) 4294967295))) : Nat) : Int)))) 4294967296))) 4294967296))) + (Int.fdiv (IntKind.wrap .u64 ((IntKind.wrap .u64 (((BitVec.toNat ((BitVec.ofInt (IntKind.bits .u64) (IntKind.wrap .u64 ((IntKind.wrap .u64 ((Int.fdiv a0 4294967296) * (IntKind.wrap .u64 (((BitVec.toNat ((BitVec.ofInt (IntKind.bits .u64) a1) &&& (BitVec.ofInt (IntKind.bits .u64) 4294967295))) : Nat) : Int)))) + (Int.fdiv (IntKind.wrap .u64 ((IntKind.wrap .u64 (((BitVec.toNat ((BitVec.ofInt (IntKind.bits .u64) a0) &&& (BitVec.ofInt (IntKind.bits .u64) 4294967295))) : Nat) : Int)) * (IntKind.wrap .u64 (((BitVec.toNat ((BitVec.ofInt (IntKind.bits .u64) a1) &&& (BitVec.ofInt (IntKind.bits .u64) 4294967295))) : Nat) : Int)))) 4294967296)))) &&& (BitVec.ofInt (IntKind.bits .u64) 4294967295))) : Nat) : Int)) + (IntKind.wrap .u64 ((IntKind.wrap .u64 (((BitVec.toNat ((BitVec.ofInt (IntKind.bits .u64) a0) &&& (BitVec.ofInt (IntKind.bits .u64) 4294967295))) : Nat) : Int)) * (Int.fdiv a1 4294967296))))) 4294967296)))), (.int .u64 (IntKind.wrap .u64 (a0 * a1)))]))

def h258 : Hints := ⟨[], [], [], []⟩
theorem tie258 (Q : Ending → W) (a0 : Int) (a1 : Int) : funW Tryz.prog tab Q h258 Tryz.f258 [.v (.int .u64 a0), .v (.int .u64 a1)] = W258 Q a0 a1 := by kernel_rfl

theorem spec258 {Q : Ending → W} {a0 : Int} {a1 : Int} {H : HP} (h : W258 Q a0 a1 H) : Go.Den.Spec Tryz.prog 258 #[(.int .u64 a0), (.int .u64 a1)] H Q :=
  specOf (fn := Tryz.f258) (hs := h258) (args := [.v (.int .u64 a0), .v (.int .u64 a1)]) (by kernel_rfl) (by kernel_rfl) (by kernel_rfl) rfl (by rw [tie258]; exact h)

/-- num.size -/
def W259 (Q : Ending → W) (a0 : Int) : W :=
  WIf (decide (a0 < 0)) (Q (.returned (.int .u64 (IntKind.wrap .u64 ((0 : Int) - (IntKind.wrap .u64 a0))))))
  (Q (.returned (.int .u64 (IntKind.wrap .u64 a0))))

def h259 : Hints := ⟨[], [], [], []⟩
theorem tie259 (Q : Ending → W) (a0 : Int) : funW Tryz.prog tab Q h259 Tryz.f259 [.v (.int .i64 a0)] = W259 Q a0 := by kernel_rfl

theorem spec259 {Q : Ending → W} {a0 : Int} {H : HP} (h : W259 Q a0 H) : Go.Den.Spec Tryz.prog 259 #[(.int .i64 a0)] H Q :=
  specOf (fn := Tryz.f259) (hs := h259) (args := [.v (.int .i64 a0)]) (by kernel_rfl) (by kernel_rfl) (by kernel_rfl) rfl (by rw [tie259]; exact h)

/-- num.Mul -/
def W225 (Q : Ending → W) (a0 : Int) (a1 : Int) : W :=
  WCall Tryz.prog Q 259 #[(.int .i64 a0)] (WOpen (.one (.l (.i .u64))) fun (x1 : Int) =>
  WCall Tryz.prog Q 259 #[(.int .i64 a1)] (WOpen (.one (.l (.i .u64))) fun (x2 : Int) =>
  WCall Tryz.prog Q 258 #[(.int .u64 x1), (.int .u64 x2)] (WOpen (.tup [(.l (.i .u64)), (.l (.i .u64))]) fun (x3 : Int) (x3_1 : Int) =>
  WIf (decide (x3 > 0)) (Q (.returned (.tuple #[(.int .i64 0), (.bool false)])))
  (WIf ((!(!((decide (a0 < 0)) == (decide (a1 < 0))))) && (decide (x3_1 > 9223372036854775807))) (Q (.returned (.tuple #[(.int .i64 0), (.bool false)])))
   (WIf (decide (x3_1 > 9223372036854775808)) (Q (.returned (.tuple #[(.int .i64 0), (.bool false)])))
    (WIf (!((decide (a0 < 0)) == (decide (a1 < 0)))) (Q (.returned (.tuple #[(.int .i64 (IntKind.wrap .i64 (IntKind.wrap .u64 ((0 : Int) - x3_1)))), (.bool true)])))
     (Q (.returned (.tuple #[(.int .i64 (IntKind.wrap .i64 x3_1)), (.bool true)])))))))))

def h225 : Hints := ⟨[], [], [], []⟩
theorem tie225 (Q : Ending → W) (a0 : Int) (a1 : Int) : funW Tryz.prog tab Q h225 Tryz.f225 [.v (.int .i64 a0), .v (.int .i64 a1)] = W225 Q a0 a1 := by kernel_rfl

theorem spec225 {Q : Ending → W} {a0 : Int} {a1 : Int} {H : HP} (h : W225 Q a0 a1 H) : Go.Den.Spec Tryz.prog 225 #[(.int .i64 a0), (.int .i64 a1)] H Q :=
  specOf (fn := Tryz.f225) (hs := h225) (args := [.v (.int .i64 a0), .v (.int .i64 a1)]) (by kernel_rfl) (by kernel_rfl) (by kernel_rfl) rfl (by rw [tie225]; exact h)

/-- monitor.number -/
def W166 (Q : Ending → W) (a0 : Int) (a1_0 : Int) (a1_1 : Int) (a1_2 : ByteArray) (a1_3a : Option Addr) (a1_3n : Nat) (a1_3c : Nat) (a2_0 : Int) (a2_1 : Int) (a2_2 : ByteArray) (a2_3a : Option Addr) (a2_3n : Nat) (a2_3c : Nat) : W :=
  WIf (a1_0 == 1) (WCall Tryz.prog Q 159 #[(.bool (a2_0 == 1)), (.int .i64 31)] (WOpen (.tup []) <|
   WIf (a0 == 8) (WCall Tryz.prog Q 223 #[(.int .i64 a1_1), (.int .i64 a2_1)] (WOpen (.tup [(.l (.i .i64)), (.l .b)]) fun (x2 : Int) (x2_1 : Bool) =>
    WCall Tryz.prog Q 159 #[(.bool x2_1), (.int .i64 30)] (WOpen (.tup []) <|
    WCall Tryz.prog Q 161 #[(.int .i64 x2)] (WOpen (.one (.agg [(.i .i64), (.i .i64), .s, .sl])) fun (x4 : Int) (x4_1 : Int) (x4_2 : ByteArray) (x4_3 : Option Go.Addr) (x4_4 : Nat) (x4_5 : Nat) =>
    Q (.returned (.agg #[(.int .i64 x4), (.int .i64 x4_1), (.string x4_2), (.slice x4_3 x4_4 x4_5)]))))))
   (WIf (a0 == 9) (WCall Tryz.prog Q 224 #[(.int .i64 a1_1), (.int .i64 a2_1)] (WOpen (.tup [(.l (.i .i64)), (.l .b)]) fun (x5 : Int) (x5_1 : Bool) =>
     WCall Tryz.prog Q 159 #[(.bool x5_1), (.int .i64 30)] (WOpen (.tup []) <|
     WCall Tryz.prog Q 161 #[(.int .i64 x5)] (WOpen (.one (.agg [(.i .i64), (.i .i64), .s, .sl])) fun (x7 : Int) (x7_1 : Int) (x7_2 : ByteArray) (x7_3 : Option Go.Addr) (x7_4 : Nat) (x7_5 : Nat) =>
     Q (.returned (.agg #[(.int .i64 x7), (.int .i64 x7_1), (.string x7_2), (.slice x7_3 x7_4 x7_5)]))))))
    (WCall Tryz.prog Q 225 #[(.int .i64 a1_1), (.int .i64 a2_1)] (WOpen (.tup [(.l (.i .i64)), (.l .b)]) fun (x8 : Int) (x8_1 : Bool) =>
     WCall Tryz.prog Q 159 #[(.bool x8_1), (.int .i64 30)] (WOpen (.tup []) <|
     WCall Tryz.prog Q 161 #[(.int .i64 x8)] (WOpen (.one (.agg [(.i .i64), (.i .i64), .s, .sl])) fun (x10 : Int) (x10_1 : Int) (x10_2 : ByteArray) (x10_3 : Option Go.Addr) (x10_4 : Nat) (x10_5 : Nat) =>
     Q (.returned (.agg #[(.int .i64 x10), (.int .i64 x10_1), (.string x10_2), (.slice x10_3 x10_4 x10_5)])))))))))
  (WCall Tryz.prog Q 159 #[(.bool false), (.int .i64 31)] (WOpen (.tup []) <|
   WIf (a0 == 8) (WCall Tryz.prog Q 223 #[(.int .i64 a1_1), (.int .i64 a2_1)] (WOpen (.tup [(.l (.i .i64)), (.l .b)]) fun (x12 : Int) (x12_1 : Bool) =>
    WCall Tryz.prog Q 159 #[(.bool x12_1), (.int .i64 30)] (WOpen (.tup []) <|
    WCall Tryz.prog Q 161 #[(.int .i64 x12)] (WOpen (.one (.agg [(.i .i64), (.i .i64), .s, .sl])) fun (x14 : Int) (x14_1 : Int) (x14_2 : ByteArray) (x14_3 : Option Go.Addr) (x14_4 : Nat) (x14_5 : Nat) =>
    Q (.returned (.agg #[(.int .i64 x14), (.int .i64 x14_1), (.string x14_2), (.slice x14_3 x14_4 x14_5)]))))))
   (WIf (a0 == 9) (WCall Tryz.prog Q 224 #[(.int .i64 a1_1), (.int .i64 a2_1)] (WOpen (.tup [(.l (.i .i64)), (.l .b)]) fun (x15 : Int) (x15_1 : Bool) =>
     WCall Tryz.prog Q 159 #[(.bool x15_1), (.int .i64 30)] (WOpen (.tup []) <|
     WCall Tryz.prog Q 161 #[(.int .i64 x15)] (WOpen (.one (.agg [(.i .i64), (.i .i64), .s, .sl])) fun (x17 : Int) (x17_1 : Int) (x17_2 : ByteArray) (x17_3 : Option Go.Addr) (x17_4 : Nat) (x17_5 : Nat) =>
     Q (.returned (.agg #[(.int .i64 x17), (.int .i64 x17_1), (.string x17_2), (.slice x17_3 x17_4 x17_5)]))))))
    (WCall Tryz.prog Q 225 #[(.int .i64 a1_1), (.int .i64 a2_1)] (WOpen (.tup [(.l (.i .i64)), (.l .b)]) fun (x18 : Int) (x18_1 : Bool) =>
     WCall Tryz.prog Q 159 #[(.bool x18_1), (.int .i64 30)] (WOpen (.tup []) <|
     WCall Tryz.prog Q 161 #[(.int .i64 x18)] (WOpen (.one (.agg [(.i .i64), (.i .i64), .s, .sl])) fun (x20 : Int) (x20_1 : Int) (x20_2 : ByteArray) (x20_3 : Option Go.Addr) (x20_4 : Nat) (x20_5 : Nat) =>
     Q (.returned (.agg #[(.int .i64 x20), (.int .i64 x20_1), (.string x20_2), (.slice x20_3 x20_4 x20_5)])))))))))

def h166 : Hints := ⟨[], [], [], [4, 5, 6]⟩
theorem tie166 (Q : Ending → W) (a0 : Int) (a1_0 : Int) (a1_1 : Int) (a1_2 : ByteArray) (a1_3a : Option Addr) (a1_3n : Nat) (a1_3c : Nat) (a2_0 : Int) (a2_1 : Int) (a2_2 : ByteArray) (a2_3a : Option Addr) (a2_3n : Nat) (a2_3c : Nat) : funW Tryz.prog tab Q h166 Tryz.f166 [.v (.int .i64 a0), .v (.agg ⟨[(.int .i64 a1_0), (.int .i64 a1_1), (.string a1_2), (.slice a1_3a a1_3n a1_3c)]⟩), .v (.agg ⟨[(.int .i64 a2_0), (.int .i64 a2_1), (.string a2_2), (.slice a2_3a a2_3n a2_3c)]⟩)] = W166 Q a0 a1_0 a1_1 a1_2 a1_3a a1_3n a1_3c a2_0 a2_1 a2_2 a2_3a a2_3n a2_3c := by kernel_rfl

theorem spec166 {Q : Ending → W} {a0 : Int} {a1_0 : Int} {a1_1 : Int} {a1_2 : ByteArray} {a1_3a : Option Addr} {a1_3n : Nat} {a1_3c : Nat} {a2_0 : Int} {a2_1 : Int} {a2_2 : ByteArray} {a2_3a : Option Addr} {a2_3n : Nat} {a2_3c : Nat} {H : HP} (h : W166 Q a0 a1_0 a1_1 a1_2 a1_3a a1_3n a1_3c a2_0 a2_1 a2_2 a2_3a a2_3n a2_3c H) : Go.Den.Spec Tryz.prog 166 #[(.int .i64 a0), (.agg ⟨[(.int .i64 a1_0), (.int .i64 a1_1), (.string a1_2), (.slice a1_3a a1_3n a1_3c)]⟩), (.agg ⟨[(.int .i64 a2_0), (.int .i64 a2_1), (.string a2_2), (.slice a2_3a a2_3n a2_3c)]⟩)] H Q :=
  specOf (fn := Tryz.f166) (hs := h166) (args := [.v (.int .i64 a0), .v (.agg ⟨[(.int .i64 a1_0), (.int .i64 a1_1), (.string a1_2), (.slice a1_3a a1_3n a1_3c)]⟩), .v (.agg ⟨[(.int .i64 a2_0), (.int .i64 a2_1), (.string a2_2), (.slice a2_3a a2_3n a2_3c)]⟩)]) (by kernel_rfl) (by kernel_rfl) (by kernel_rfl) rfl (by rw [tie166]; exact h)

/-- cmp.Or[int] -/
def W226 (Q : Ending → W) (a0a : Option Addr) (a0n : Nat) (a0c : Nat) : W :=
  WLoop (σ := ((Int × Unit) × Unit)) ((0, ()), ()) fun x1 again1 =>
  WIf (decide ((x1.1.1 : Int) < (a0n : Int))) (WIndex a0a a0n (x1.1.1 : Int) fun q2 =>
   WLoad (Addr.add q2 ((Int.toNat (x1.1.1 : Int)) * 1)) (.l (.i .i64)) fun (x3 : Int) =>
   WIf (x3 != 0) (Q (.returned (.int .i64 x3)))
   (again1 (((IntKind.wrap .i64 ((x1.1.1 : Int) + 1)), ()), ())))
  (Q (.returned (.int .i64 0)))

def h226 : Hints := ⟨[], [⟨0, [(8, .i .i64)], [2, 5, 9, 10, 11, 12, 13, 14, 15, 16], []⟩], [], []⟩
theorem tie226 (Q : Ending → W) (a0a : Option Addr) (a0n : Nat) (a0c : Nat) : funW Tryz.prog tab Q h226 Tryz.f226 [.v (.slice a0a a0n a0c)] = W226 Q a0a a0n a0c := by kernel_rfl

theorem spec226 {Q : Ending → W} {a0a : Option Addr} {a0n : Nat} {a0c : Nat} {H : HP} (h : W226 Q a0a a0n a0c H) : Go.Den.Spec Tryz.prog 226 #[(.slice a0a a0n a0c)] H Q :=
  specOf (fn := Tryz.f226) (hs := h226) (args := [.v (.slice a0a a0n a0c)]) (by kernel_rfl) (by kernel_rfl) (by kernel_rfl) rfl (by rw [tie226]; exact h)

/-- bound.Longest$1 -/
def W87 (Q : Ending → W) (a0_0 : Int) (a0_1 : ByteArray) (a0_2 : Int) (a0_3 : Int) (a0_4 : Int) (a0_5a : Option Addr) (a0_5n : Nat) (a0_5c : Nat) (p0 : Addr) : W :=
  WCall Tryz.prog Q 88 #[(.int .i64 a0_0)] (WOpen (.one (.l .b)) fun (x1 : Bool) =>
  WIf x1 (WLoad p0 (.l (.i .i64)) fun (x2 : Int) =>
   WStore p0 [(.int .i64 (if (x2 < a0_4) then a0_4 else x2))] <|
   Q (.returned (.tuple #[])))
  (Q (.returned (.tuple #[]))))

def h87 : Hints := ⟨[], [], [], [2]⟩
theorem tie87 (Q : Ending → W) (a0_0 : Int) (a0_1 : ByteArray) (a0_2 : Int) (a0_3 : Int) (a0_4 : Int) (a0_5a : Option Addr) (a0_5n : Nat) (a0_5c : Nat) (p0 : Addr) : funW Tryz.prog tab Q h87 Tryz.f87 [.v (.agg ⟨[(.int .i64 a0_0), (.string a0_1), (.int .i64 a0_2), (.int .i64 a0_3), (.int .i64 a0_4), (.slice a0_5a a0_5n a0_5c)]⟩), (.adr p0)] = W87 Q a0_0 a0_1 a0_2 a0_3 a0_4 a0_5a a0_5n a0_5c p0 := by kernel_rfl

theorem spec87 {Q : Ending → W} {a0_0 : Int} {a0_1 : ByteArray} {a0_2 : Int} {a0_3 : Int} {a0_4 : Int} {a0_5a : Option Addr} {a0_5n : Nat} {a0_5c : Nat} {p0 : Addr} {H : HP} (h : W87 Q a0_0 a0_1 a0_2 a0_3 a0_4 a0_5a a0_5n a0_5c p0 H) : Go.Den.Spec Tryz.prog 87 #[(.agg ⟨[(.int .i64 a0_0), (.string a0_1), (.int .i64 a0_2), (.int .i64 a0_3), (.int .i64 a0_4), (.slice a0_5a a0_5n a0_5c)]⟩), (.pointer (some p0))] H Q :=
  specOf (fn := Tryz.f87) (hs := h87) (args := [.v (.agg ⟨[(.int .i64 a0_0), (.string a0_1), (.int .i64 a0_2), (.int .i64 a0_3), (.int .i64 a0_4), (.slice a0_5a a0_5n a0_5c)]⟩), (.adr p0)]) (by kernel_rfl) (by kernel_rfl) (by kernel_rfl) rfl (by rw [tie87]; exact h)

/-- bound.looks -/
def W88 (Q : Ending → W) (a0 : Int) : W :=
  WIf (a0 == 22) (Q (.returned (.bool true)))
  (WIf (a0 == 23) (Q (.returned (.bool true)))
   (WIf (a0 == 24) (Q (.returned (.bool true)))
    (WIf (a0 == 13) (Q (.returned (.bool true)))
     (WIf (a0 == 25) (Q (.returned (.bool true)))
      (Q (.returned (.bool false)))))))

def h88 : Hints := ⟨[], [], [], []⟩
theorem tie88 (Q : Ending → W) (a0 : Int) : funW Tryz.prog tab Q h88 Tryz.f88 [.v (.int .i64 a0)] = W88 Q a0 := by kernel_rfl

theorem spec88 {Q : Ending → W} {a0 : Int} {H : HP} (h : W88 Q a0 H) : Go.Den.Spec Tryz.prog 88 #[(.int .i64 a0)] H Q :=
  specOf (fn := Tryz.f88) (hs := h88) (args := [.v (.int .i64 a0)]) (by kernel_rfl) (by kernel_rfl) (by kernel_rfl) rfl (by rw [tie88]; exact h)

/-- bound.Cells$1 -/
def W153 (Q : Ending → W) (a0_0 : Int) (a0_1 : ByteArray) (a0_2 : Int) (a0_3 : Int) (a0_4 : Int) (a0_5a : Option Addr) (a0_5n : Nat) (a0_5c : Nat) (p0 : Addr) : W :=
  WCall Tryz.prog Q 88 #[(.int .i64 a0_0)] (WOpen (.one (.l .b)) fun (x1 : Bool) =>
  WIf x1 (WLoad p0 (.l (.i .i64)) fun (x2 : Int) =>
   WStore p0 [(.int .i64 (IntKind.wrap .i64 (x2 + 1)))] <|
   Q (.returned (.tuple #[])))
  (Q (.returned (.tuple #[]))))

def h153 : Hints := ⟨[], [], [], [2]⟩
theorem tie153 (Q : Ending → W) (a0_0 : Int) (a0_1 : ByteArray) (a0_2 : Int) (a0_3 : Int) (a0_4 : Int) (a0_5a : Option Addr) (a0_5n : Nat) (a0_5c : Nat) (p0 : Addr) : funW Tryz.prog tab Q h153 Tryz.f153 [.v (.agg ⟨[(.int .i64 a0_0), (.string a0_1), (.int .i64 a0_2), (.int .i64 a0_3), (.int .i64 a0_4), (.slice a0_5a a0_5n a0_5c)]⟩), (.adr p0)] = W153 Q a0_0 a0_1 a0_2 a0_3 a0_4 a0_5a a0_5n a0_5c p0 := by kernel_rfl

theorem spec153 {Q : Ending → W} {a0_0 : Int} {a0_1 : ByteArray} {a0_2 : Int} {a0_3 : Int} {a0_4 : Int} {a0_5a : Option Addr} {a0_5n : Nat} {a0_5c : Nat} {p0 : Addr} {H : HP} (h : W153 Q a0_0 a0_1 a0_2 a0_3 a0_4 a0_5a a0_5n a0_5c p0 H) : Go.Den.Spec Tryz.prog 153 #[(.agg ⟨[(.int .i64 a0_0), (.string a0_1), (.int .i64 a0_2), (.int .i64 a0_3), (.int .i64 a0_4), (.slice a0_5a a0_5n a0_5c)]⟩), (.pointer (some p0))] H Q :=
  specOf (fn := Tryz.f153) (hs := h153) (args := [.v (.agg ⟨[(.int .i64 a0_0), (.string a0_1), (.int .i64 a0_2), (.int .i64 a0_3), (.int .i64 a0_4), (.slice a0_5a a0_5n a0_5c)]⟩), (.adr p0)]) (by kernel_rfl) (by kernel_rfl) (by kernel_rfl) rfl (by rw [tie153]; exact h)

/-- ast.may$1 -/
def W215 (Q : Ending → W) (a0_0 : Int) (a0_1 : ByteArray) (a0_2 : Int) (a0_3 : Int) (a0_4 : Int) (a0_5a : Option Addr) (a0_5n : Nat) (a0_5c : Nat) : W :=
  WCall Tryz.prog Q 145 #[(.agg #[(.int .i64 a0_0), (.string a0_1), (.int .i64 a0_2), (.int .i64 a0_3), (.int .i64 a0_4), (.slice a0_5a a0_5n a0_5c)])] (WOpen (.one (.l .b)) fun (x1 : Bool) =>
  Q (.returned (.bool (!x1))))

def h215 : Hints := ⟨[], [], [], [1]⟩
theorem tie215 (Q : Ending → W) (a0_0 : Int) (a0_1 : ByteArray) (a0_2 : Int) (a0_3 : Int) (a0_4 : Int) (a0_5a : Option Addr) (a0_5n : Nat) (a0_5c : Nat) : funW Tryz.prog tab Q h215 Tryz.f215 [.v (.agg ⟨[(.int .i64 a0_0), (.string a0_1), (.int .i64 a0_2), (.int .i64 a0_3), (.int .i64 a0_4), (.slice a0_5a a0_5n a0_5c)]⟩)] = W215 Q a0_0 a0_1 a0_2 a0_3 a0_4 a0_5a a0_5n a0_5c := by kernel_rfl

theorem spec215 {Q : Ending → W} {a0_0 : Int} {a0_1 : ByteArray} {a0_2 : Int} {a0_3 : Int} {a0_4 : Int} {a0_5a : Option Addr} {a0_5n : Nat} {a0_5c : Nat} {H : HP} (h : W215 Q a0_0 a0_1 a0_2 a0_3 a0_4 a0_5a a0_5n a0_5c H) : Go.Den.Spec Tryz.prog 215 #[(.agg ⟨[(.int .i64 a0_0), (.string a0_1), (.int .i64 a0_2), (.int .i64 a0_3), (.int .i64 a0_4), (.slice a0_5a a0_5n a0_5c)]⟩)] H Q :=
  specOf (fn := Tryz.f215) (hs := h215) (args := [.v (.agg ⟨[(.int .i64 a0_0), (.string a0_1), (.int .i64 a0_2), (.int .i64 a0_3), (.int .i64 a0_4), (.slice a0_5a a0_5n a0_5c)]⟩)]) (by kernel_rfl) (by kernel_rfl) (by kernel_rfl) rfl (by rw [tie215]; exact h)

/-- (*window.span).clone -/
def W218 (Q : Ending → W) (a0 : Option Addr) : W :=
  WNonNil a0 fun q1 =>
  WLoad q1 (.agg [.b, (.i .i64), (.i .i64), (.i .i64), .sl]) fun (x2 : Bool) (x2_1 : Int) (x2_2 : Int) (x2_3 : Int) (x2_4 : Option Go.Addr) (x2_5 : Nat) (x2_6 : Nat) =>
  WNonNil a0 fun q3 =>
  WCall Tryz.prog Q 219 #[(.pointer (some (Addr.add q3 4)))] (WOpen (.one (.l .p)) fun (x4 : Option Go.Addr) =>
  WNonNil x4 fun q5 =>
  WLoad q5 (.agg [.sl]) fun (x6 : Option Go.Addr) (x6_1 : Nat) (x6_2 : Nat) =>
  Q (.returned (.agg #[(.bool x2), (.int .i64 x2_1), (.int .i64 x2_2), (.int .i64 x2_3), (.slice x6 x6_1 x6_2)])))

def h218 : Hints := ⟨[], [], [], [2, 3]⟩
theorem tie218 (Q : Ending → W) (a0 : Option Addr) : funW Tryz.prog tab Q h218 Tryz.f218 [.v (.pointer a0)] = W218 Q a0 := by kernel_rfl

theorem spec218 {Q : Ending → W} {a0 : Option Addr} {H : HP} (h : W218 Q a0 H) : Go.Den.Spec Tryz.prog 218 #[(.pointer a0)] H Q :=
  specOf (fn := Tryz.f218) (hs := h218) (args := [.v (.pointer a0)]) (by kernel_rfl) (by kernel_rfl) (by kernel_rfl) rfl (by rw [tie218]; exact h)

/-- (*window.span).come -/
def W220 (Q : Ending → W) (a0 : Option Addr) (a1 : Int) : W :=
  WNonNil a0 fun q1 =>
  WLoad (Addr.add q1 3) (.l (.i .i64)) fun (x2 : Int) =>
  WNonNil a0 fun q3 =>
  WStore (Addr.add q3 3) [(.int .i64 (if (x2 < a1) then a1 else x2))] <|
  WNonNil a0 fun q4 =>
  WLoad (Addr.add q4 2) (.l (.i .i64)) fun (x5 : Int) =>
  WIf (x5 != (-1)) (WNonNil a0 fun q6 =>
   WNonNil a0 fun q7 =>
   WLoad (Addr.add q7 3) (.l (.i .i64)) fun (x8 : Int) =>
   WNonNil a0 fun q9 =>
   WLoad (Addr.add q9 2) (.l (.i .i64)) fun (x10 : Int) =>
   WCall Tryz.prog Q 234 #[(.pointer (some (Addr.add q6 4))), (.int .i64 (IntKind.wrap .i64 (x8 - x10)))] (WOpen (.one (.l (.i .i64))) fun (x11 : Int) =>
   WNonNil a0 fun q12 =>
   WLoad (Addr.add q12 3) (.l (.i .i64)) fun (x13 : Int) =>
   Q (.returned (.int .i64 x13))))
  (WNonNil a0 fun q14 =>
   WLoad (Addr.add q14 3) (.l (.i .i64)) fun (x15 : Int) =>
   Q (.returned (.int .i64 x15)))

def h220 : Hints := ⟨[], [], [], []⟩
theorem tie220 (Q : Ending → W) (a0 : Option Addr) (a1 : Int) : funW Tryz.prog tab Q h220 Tryz.f220 [.v (.pointer a0), .v (.int .i64 a1)] = W220 Q a0 a1 := by kernel_rfl

theorem spec220 {Q : Ending → W} {a0 : Option Addr} {a1 : Int} {H : HP} (h : W220 Q a0 a1 H) : Go.Den.Spec Tryz.prog 220 #[(.pointer a0), (.int .i64 a1)] H Q :=
  specOf (fn := Tryz.f220) (hs := h220) (args := [.v (.pointer a0), .v (.int .i64 a1)]) (by kernel_rfl) (by kernel_rfl) (by kernel_rfl) rfl (by rw [tie220]; exact h)

/-- (*window.span).put -/
def W221 (Q : Ending → W) (a0 : Option Addr) : W :=
  WNonNil a0 fun q1 =>
  WLoad (Addr.add q1 2) (.l (.i .i64)) fun (x2 : Int) =>
  WIf (x2 != (-1)) (WNonNil a0 fun q3 =>
   WNonNil a0 fun q4 =>
   WLoad (Addr.add q4 3) (.l (.i .i64)) fun (x5 : Int) =>
   WCall Tryz.prog Q 235 #[(.pointer (some (Addr.add q3 4))), (.int .i64 x5)] (WOpen (.one (.l .b)) fun (x6 : Bool) =>
   Q (.returned (.tuple #[]))))
  (WNonNil a0 fun q7 =>
   WCall Tryz.prog Q 217 #[(.pointer (some (Addr.add q7 4)))] (WOpen (.one (.l (.i .i64))) fun (x8 : Int) =>
   WIf (x8 == 0) (WNonNil a0 fun q9 =>
    WNonNil a0 fun q10 =>
    WLoad (Addr.add q10 3) (.l (.i .i64)) fun (x11 : Int) =>
    WCall Tryz.prog Q 235 #[(.pointer (some (Addr.add q9 4))), (.int .i64 x11)] (WOpen (.one (.l .b)) fun (x12 : Bool) =>
    Q (.returned (.tuple #[]))))
   (Q (.returned (.tuple #[])))))

def h221 : Hints := ⟨[], [], [], []⟩
theorem tie221 (Q : Ending → W) (a0 : Option Addr) : funW Tryz.prog tab Q h221 Tryz.f221 [.v (.pointer a0)] = W221 Q a0 := by kernel_rfl

theorem spec221 {Q : Ending → W} {a0 : Option Addr} {H : HP} (h : W221 Q a0 H) : Go.Den.Spec Tryz.prog 221 #[(.pointer a0)] H Q :=
  specOf (fn := Tryz.f221) (hs := h221) (args := [.v (.pointer a0)]) (by kernel_rfl) (by kernel_rfl) (by kernel_rfl) rfl (by rw [tie221]; exact h)

/-- (*window.span).was -/
def W222 (Q : Ending → W) (a0 : Option Addr) : W :=
  WNonNil a0 fun q1 =>
  WCall Tryz.prog Q 257 #[(.pointer (some (Addr.add q1 4)))] (WOpen (.tup [(.agg [(.i .i64), (.i .i64)]), (.l .b)]) fun (x2 : Int) (x2_1 : Int) (x2_2 : Bool) =>
  WIf x2_2 (WNonNil a0 fun q3 =>
   WLoad (Addr.add q3 3) (.l (.i .i64)) fun (x4 : Int) =>
   WNonNil a0 fun q5 =>
   WLoad (Addr.add q5 1) (.l (.i .i64)) fun (x6 : Int) =>
   Q (.returned (.bool (decide (x2 ≤ (IntKind.wrap .i64 (x4 - x6)))))))
  (Q (.returned (.bool false))))

def h222 : Hints := ⟨[], [], [], [3]⟩
theorem tie222 (Q : Ending → W) (a0 : Option Addr) : funW Tryz.prog tab Q h222 Tryz.f222 [.v (.pointer a0)] = W222 Q a0 := by kernel_rfl

theorem spec222 {Q : Ending → W} {a0 : Option Addr} {H : HP} (h : W222 Q a0 H) : Go.Den.Spec Tryz.prog 222 #[(.pointer a0)] H Q :=
  specOf (fn := Tryz.f222) (hs := h222) (args := [.v (.pointer a0)]) (by kernel_rfl) (by kernel_rfl) (by kernel_rfl) rfl (by rw [tie222]; exact h)

/-- (*deque.Deque).First -/
def W257 (Q : Ending → W) (a0 : Option Addr) : W :=
  WCall Tryz.prog Q 217 #[(.pointer a0)] (WOpen (.one (.l (.i .i64))) fun (x1 : Int) =>
  WIf (x1 == 0) (Q (.returned (.tuple #[(.agg #[(.int .i64 0), (.int .i64 0)]), (.bool false)])))
  (WNonNil a0 fun q2 =>
   WLoad (Addr.add q2 0) (.l .sl) fun (x3 : Option Go.Addr) (x3_1 : Nat) (x3_2 : Nat) =>
   WIndex x3 x3_1 0 fun q4 =>
   WLoad (Addr.add q4 0) (.agg [(.i .i64), (.i .i64)]) fun (x5 : Int) (x5_1 : Int) =>
   Q (.returned (.tuple #[(.agg #[(.int .i64 x5), (.int .i64 x5_1)]), (.bool true)]))))

def h257 : Hints := ⟨[], [], [], [2]⟩
theorem tie257 (Q : Ending → W) (a0 : Option Addr) : funW Tryz.prog tab Q h257 Tryz.f257 [.v (.pointer a0)] = W257 Q a0 := by kernel_rfl

theorem spec257 {Q : Ending → W} {a0 : Option Addr} {H : HP} (h : W257 Q a0 H) : Go.Den.Spec Tryz.prog 257 #[(.pointer a0)] H Q :=
  specOf (fn := Tryz.f257) (hs := h257) (args := [.v (.pointer a0)]) (by kernel_rfl) (by kernel_rfl) (by kernel_rfl) rfl (by rw [tie257]; exact h)

/-- cmp.isNaN[int] -/
def W260 (Q : Ending → W) (a0 : Int) : W :=
  Q (.returned (.bool (a0 != a0)))

def h260 : Hints := ⟨[], [], [], []⟩
theorem tie260 (Q : Ending → W) (a0 : Int) : funW Tryz.prog tab Q h260 Tryz.f260 [.v (.int .i64 a0)] = W260 Q a0 := by kernel_rfl

theorem spec260 {Q : Ending → W} {a0 : Int} {H : HP} (h : W260 Q a0 H) : Go.Den.Spec Tryz.prog 260 #[(.int .i64 a0)] H Q :=
  specOf (fn := Tryz.f260) (hs := h260) (args := [.v (.int .i64 a0)]) (by kernel_rfl) (by kernel_rfl) (by kernel_rfl) rfl (by rw [tie260]; exact h)

/-- cmp.Compare[int] -/
def W227 (Q : Ending → W) (a0 : Int) (a1 : Int) : W :=
  WCall Tryz.prog Q 260 #[(.int .i64 a0)] (WOpen (.one (.l .b)) fun (x1 : Bool) =>
  WCall Tryz.prog Q 260 #[(.int .i64 a1)] (WOpen (.one (.l .b)) fun (x2 : Bool) =>
  WIf x1 (WIf x2 (Q (.returned (.int .i64 0)))
   (Q (.returned (.int .i64 (-1)))))
  (WIf x2 (Q (.returned (.int .i64 1)))
   (WIf (decide (a0 < a1)) (Q (.returned (.int .i64 (-1))))
    (WIf (decide (a0 > a1)) (Q (.returned (.int .i64 1)))
     (Q (.returned (.int .i64 0))))))))

def h227 : Hints := ⟨[], [], [], []⟩
theorem tie227 (Q : Ending → W) (a0 : Int) (a1 : Int) : funW Tryz.prog tab Q h227 Tryz.f227 [.v (.int .i64 a0), .v (.int .i64 a1)] = W227 Q a0 a1 := by kernel_rfl

theorem spec227 {Q : Ending → W} {a0 : Int} {a1 : Int} {H : HP} (h : W227 Q a0 a1 H) : Go.Den.Spec Tryz.prog 227 #[(.int .i64 a0), (.int .i64 a1)] H Q :=
  specOf (fn := Tryz.f227) (hs := h227) (args := [.v (.int .i64 a0), .v (.int .i64 a1)]) (by kernel_rfl) (by kernel_rfl) (by kernel_rfl) rfl (by rw [tie227]; exact h)

/-- cmp.isNaN[int64] -/
def W261 (Q : Ending → W) (a0 : Int) : W :=
  Q (.returned (.bool (a0 != a0)))

def h261 : Hints := ⟨[], [], [], []⟩
theorem tie261 (Q : Ending → W) (a0 : Int) : funW Tryz.prog tab Q h261 Tryz.f261 [.v (.int .i64 a0)] = W261 Q a0 := by kernel_rfl

theorem spec261 {Q : Ending → W} {a0 : Int} {H : HP} (h : W261 Q a0 H) : Go.Den.Spec Tryz.prog 261 #[(.int .i64 a0)] H Q :=
  specOf (fn := Tryz.f261) (hs := h261) (args := [.v (.int .i64 a0)]) (by kernel_rfl) (by kernel_rfl) (by kernel_rfl) rfl (by rw [tie261]; exact h)

/-- cmp.Compare[int64] -/
def W228 (Q : Ending → W) (a0 : Int) (a1 : Int) : W :=
  WCall Tryz.prog Q 261 #[(.int .i64 a0)] (WOpen (.one (.l .b)) fun (x1 : Bool) =>
  WCall Tryz.prog Q 261 #[(.int .i64 a1)] (WOpen (.one (.l .b)) fun (x2 : Bool) =>
  WIf x1 (WIf x2 (Q (.returned (.int .i64 0)))
   (Q (.returned (.int .i64 (-1)))))
  (WIf x2 (Q (.returned (.int .i64 1)))
   (WIf (decide (a0 < a1)) (Q (.returned (.int .i64 (-1))))
    (WIf (decide (a0 > a1)) (Q (.returned (.int .i64 1)))
     (Q (.returned (.int .i64 0))))))))

def h228 : Hints := ⟨[], [], [], []⟩
theorem tie228 (Q : Ending → W) (a0 : Int) (a1 : Int) : funW Tryz.prog tab Q h228 Tryz.f228 [.v (.int .i64 a0), .v (.int .i64 a1)] = W228 Q a0 a1 := by kernel_rfl

theorem spec228 {Q : Ending → W} {a0 : Int} {a1 : Int} {H : HP} (h : W228 Q a0 a1 H) : Go.Den.Spec Tryz.prog 228 #[(.int .i64 a0), (.int .i64 a1)] H Q :=
  specOf (fn := Tryz.f228) (hs := h228) (args := [.v (.int .i64 a0), .v (.int .i64 a1)]) (by kernel_rfl) (by kernel_rfl) (by kernel_rfl) rfl (by rw [tie228]; exact h)

/-- cmp.isNaN[string] -/
def W262 (Q : Ending → W) (a0 : ByteArray) : W :=
  Q (.returned (.bool (!((ByteArray.toList a0) == (ByteArray.toList a0)))))

def h262 : Hints := ⟨[], [], [], []⟩
theorem tie262 (Q : Ending → W) (a0 : ByteArray) : funW Tryz.prog tab Q h262 Tryz.f262 [.v (.string a0)] = W262 Q a0 := by kernel_rfl

theorem spec262 {Q : Ending → W} {a0 : ByteArray} {H : HP} (h : W262 Q a0 H) : Go.Den.Spec Tryz.prog 262 #[(.string a0)] H Q :=
  specOf (fn := Tryz.f262) (hs := h262) (args := [.v (.string a0)]) (by kernel_rfl) (by kernel_rfl) (by kernel_rfl) rfl (by rw [tie262]; exact h)

/-- cmp.Compare[string] -/
def W229 (Q : Ending → W) (a0 : ByteArray) (a1 : ByteArray) : W :=
  WCall Tryz.prog Q 262 #[(.string a0)] (WOpen (.one (.l .b)) fun (x1 : Bool) =>
  WCall Tryz.prog Q 262 #[(.string a1)] (WOpen (.one (.l .b)) fun (x2 : Bool) =>
  WIf x1 (WIf x2 (Q (.returned (.int .i64 0)))
   (Q (.returned (.int .i64 (-1)))))
  (WIf x2 (Q (.returned (.int .i64 1)))
   (WIf (Go.Op.bytesLess (ByteArray.toList a0) (ByteArray.toList a1)) (Q (.returned (.int .i64 (-1))))
    (WIf (!((Go.Op.bytesLess (ByteArray.toList a0) (ByteArray.toList a1)) || ((ByteArray.toList a0) == (ByteArray.toList a1)))) (Q (.returned (.int .i64 1)))
     (Q (.returned (.int .i64 0))))))))

def h229 : Hints := ⟨[], [], [], []⟩
theorem tie229 (Q : Ending → W) (a0 : ByteArray) (a1 : ByteArray) : funW Tryz.prog tab Q h229 Tryz.f229 [.v (.string a0), .v (.string a1)] = W229 Q a0 a1 := by kernel_rfl

theorem spec229 {Q : Ending → W} {a0 : ByteArray} {a1 : ByteArray} {H : HP} (h : W229 Q a0 a1 H) : Go.Den.Spec Tryz.prog 229 #[(.string a0), (.string a1)] H Q :=
  specOf (fn := Tryz.f229) (hs := h229) (args := [.v (.string a0), .v (.string a1)]) (by kernel_rfl) (by kernel_rfl) (by kernel_rfl) rfl (by rw [tie229]; exact h)

/-- slices.Compare[[]string,string] -/
def W230 (Q : Ending → W) (a0a : Option Addr) (a0n : Nat) (a0c : Nat) (a1a : Option Addr) (a1n : Nat) (a1c : Nat) : W :=
  WLoop (σ := ((Int × Unit) × Unit)) ((0, ()), ()) fun x1 again1 =>
  WIf (decide ((x1.1.1 : Int) < (a0n : Int))) (WIndex a0a a0n (x1.1.1 : Int) fun q2 =>
   WLoad (Addr.add q2 ((Int.toNat (x1.1.1 : Int)) * 1)) (.l .s) fun (x3 : ByteArray) =>
   WIf (decide ((x1.1.1 : Int) ≥ (a1n : Int))) (Q (.returned (.int .i64 1)))
   (WIndex a1a a1n (x1.1.1 : Int) fun q4 =>
    WLoad (Addr.add q4 ((Int.toNat (x1.1.1 : Int)) * 1)) (.l .s) fun (x5 : ByteArray) =>
    WCall Tryz.prog Q 229 #[(.string x3), (.string x5)] (WOpen (.one (.l (.i .i64))) fun (x6 : Int) =>
    WIf (x6 != 0) (Q (.returned (.int .i64 x6)))
    (again1 (((IntKind.wrap .i64 ((x1.1.1 : Int) + 1)), ()), ())))))
  (WIf (decide ((a0n : Int) < (a1n : Int))) (Q (.returned (.int .i64 (-1))))
   (Q (.returned (.int .i64 0))))

def h230 : Hints := ⟨[], [⟨0, [(11, .i .i64)], [4, 5, 6, 7, 8, 12, 13, 14, 15, 16, 17, 18, 19, 20, 21, 22, 23, 24, 25, 26, 27, 28, 29, 30], []⟩], [], []⟩
theorem tie230 (Q : Ending → W) (a0a : Option Addr) (a0n : Nat) (a0c : Nat) (a1a : Option Addr) (a1n : Nat) (a1c : Nat) : funW Tryz.prog tab Q h230 Tryz.f230 [.v (.slice a0a a0n a0c), .v (.slice a1a a1n a1c)] = W230 Q a0a a0n a0c a1a a1n a1c := by kernel_rfl

theorem spec230 {Q : Ending → W} {a0a : Option Addr} {a0n : Nat} {a0c : Nat} {a1a : Option Addr} {a1n : Nat} {a1c : Nat} {H : HP} (h : W230 Q a0a a0n a0c a1a a1n a1c H) : Go.Den.Spec Tryz.prog 230 #[(.slice a0a a0n a0c), (.slice a1a a1n a1c)] H Q :=
  specOf (fn := Tryz.f230) (hs := h230) (args := [.v (.slice a0a a0n a0c), .v (.slice a1a a1n a1c)]) (by kernel_rfl) (by kernel_rfl) (by kernel_rfl) rfl (by rw [tie230]; exact h)

/-- value.Cmp -/
def W168 (Q : Ending → W) (a0_0 : Int) (a0_1 : Int) (a0_2 : ByteArray) (a0_3a : Option Addr) (a0_3n : Nat) (a0_3c : Nat) (a1_0 : Int) (a1_1 : Int) (a1_2 : ByteArray) (a1_3a : Option Addr) (a1_3n : Nat) (a1_3c : Nat) : W :=
  WCall Tryz.prog Q 227 #[(.int .i64 a0_0), (.int .i64 a1_0)] (WOpen (.one (.l (.i .i64))) fun (x1 : Int) =>
  WCall Tryz.prog Q 228 #[(.int .i64 a0_1), (.int .i64 a1_1)] (WOpen (.one (.l (.i .i64))) fun (x2 : Int) =>
  WCall Tryz.prog Q 229 #[(.string a0_2), (.string a1_2)] (WOpen (.one (.l (.i .i64))) fun (x3 : Int) =>
  WCall Tryz.prog Q 230 #[(.slice a0_3a a0_3n a0_3c), (.slice a1_3a a1_3n a1_3c)] (WOpen (.one (.l (.i .i64))) fun (x4 : Int) =>
  WNew [(.int .i64 x1), (.int .i64 x2), (.int .i64 x3), (.int .i64 x4)] 3 fun z5 =>
  WCall Tryz.prog Q 226 #[(.slice (some ⟨z5, 0, none⟩) 4 4)] (WOpen (.one (.l (.i .i64))) fun (x6 : Int) =>
  Q (.returned (.int .i64 x6)))))))

def h168 : Hints := ⟨[], [], [], [2, 3]⟩
theorem tie168 (Q : Ending → W) (a0_0 : Int) (a0_1 : Int) (a0_2 : ByteArray) (a0_3a : Option Addr) (a0_3n : Nat) (a0_3c : Nat) (a1_0 : Int) (a1_1 : Int) (a1_2 : ByteArray) (a1_3a : Option Addr) (a1_3n : Nat) (a1_3c : Nat) : funW Tryz.prog tab Q h168 Tryz.f168 [.v (.agg ⟨[(.int .i64 a0_0), (.int .i64 a0_1), (.string a0_2), (.slice a0_3a a0_3n a0_3c)]⟩), .v (.agg ⟨[(.int .i64 a1_0), (.int .i64 a1_1), (.string a1_2), (.slice a1_3a a1_3n a1_3c)]⟩)] = W168 Q a0_0 a0_1 a0_2 a0_3a a0_3n a0_3c a1_0 a1_1 a1_2 a1_3a a1_3n a1_3c := by kernel_rfl

theorem spec168 {Q : Ending → W} {a0_0 : Int} {a0_1 : Int} {a0_2 : ByteArray} {a0_3a : Option Addr} {a0_3n : Nat} {a0_3c : Nat} {a1_0 : Int} {a1_1 : Int} {a1_2 : ByteArray} {a1_3a : Option Addr} {a1_3n : Nat} {a1_3c : Nat} {H : HP} (h : W168 Q a0_0 a0_1 a0_2 a0_3a a0_3n a0_3c a1_0 a1_1 a1_2 a1_3a a1_3n a1_3c H) : Go.Den.Spec Tryz.prog 168 #[(.agg ⟨[(.int .i64 a0_0), (.int .i64 a0_1), (.string a0_2), (.slice a0_3a a0_3n a0_3c)]⟩), (.agg ⟨[(.int .i64 a1_0), (.int .i64 a1_1), (.string a1_2), (.slice a1_3a a1_3n a1_3c)]⟩)] H Q :=
  specOf (fn := Tryz.f168) (hs := h168) (args := [.v (.agg ⟨[(.int .i64 a0_0), (.int .i64 a0_1), (.string a0_2), (.slice a0_3a a0_3n a0_3c)]⟩), .v (.agg ⟨[(.int .i64 a1_0), (.int .i64 a1_1), (.string a1_2), (.slice a1_3a a1_3n a1_3c)]⟩)]) (by kernel_rfl) (by kernel_rfl) (by kernel_rfl) rfl (by rw [tie168]; exact h)

/-- value.Same -/
def W167 (Q : Ending → W) (a0_0 : Int) (a0_1 : Int) (a0_2 : ByteArray) (a0_3a : Option Addr) (a0_3n : Nat) (a0_3c : Nat) (a1_0 : Int) (a1_1 : Int) (a1_2 : ByteArray) (a1_3a : Option Addr) (a1_3n : Nat) (a1_3c : Nat) : W :=
  WCall Tryz.prog Q 168 #[(.agg #[(.int .i64 a0_0), (.int .i64 a0_1), (.string a0_2), (.slice a0_3a a0_3n a0_3c)]), (.agg #[(.int .i64 a1_0), (.int .i64 a1_1), (.string a1_2), (.slice a1_3a a1_3n a1_3c)])] (WOpen (.one (.l (.i .i64))) fun (x1 : Int) =>
  Q (.returned (.bool (x1 == 0))))

def h167 : Hints := ⟨[], [], [], [2, 3]⟩
theorem tie167 (Q : Ending → W) (a0_0 : Int) (a0_1 : Int) (a0_2 : ByteArray) (a0_3a : Option Addr) (a0_3n : Nat) (a0_3c : Nat) (a1_0 : Int) (a1_1 : Int) (a1_2 : ByteArray) (a1_3a : Option Addr) (a1_3n : Nat) (a1_3c : Nat) : funW Tryz.prog tab Q h167 Tryz.f167 [.v (.agg ⟨[(.int .i64 a0_0), (.int .i64 a0_1), (.string a0_2), (.slice a0_3a a0_3n a0_3c)]⟩), .v (.agg ⟨[(.int .i64 a1_0), (.int .i64 a1_1), (.string a1_2), (.slice a1_3a a1_3n a1_3c)]⟩)] = W167 Q a0_0 a0_1 a0_2 a0_3a a0_3n a0_3c a1_0 a1_1 a1_2 a1_3a a1_3n a1_3c := by kernel_rfl

theorem spec167 {Q : Ending → W} {a0_0 : Int} {a0_1 : Int} {a0_2 : ByteArray} {a0_3a : Option Addr} {a0_3n : Nat} {a0_3c : Nat} {a1_0 : Int} {a1_1 : Int} {a1_2 : ByteArray} {a1_3a : Option Addr} {a1_3n : Nat} {a1_3c : Nat} {H : HP} (h : W167 Q a0_0 a0_1 a0_2 a0_3a a0_3n a0_3c a1_0 a1_1 a1_2 a1_3a a1_3n a1_3c H) : Go.Den.Spec Tryz.prog 167 #[(.agg ⟨[(.int .i64 a0_0), (.int .i64 a0_1), (.string a0_2), (.slice a0_3a a0_3n a0_3c)]⟩), (.agg ⟨[(.int .i64 a1_0), (.int .i64 a1_1), (.string a1_2), (.slice a1_3a a1_3n a1_3c)]⟩)] H Q :=
  specOf (fn := Tryz.f167) (hs := h167) (args := [.v (.agg ⟨[(.int .i64 a0_0), (.int .i64 a0_1), (.string a0_2), (.slice a0_3a a0_3n a0_3c)]⟩), .v (.agg ⟨[(.int .i64 a1_0), (.int .i64 a1_1), (.string a1_2), (.slice a1_3a a1_3n a1_3c)]⟩)]) (by kernel_rfl) (by kernel_rfl) (by kernel_rfl) rfl (by rw [tie167]; exact h)

/-- slices.Index[[]string,string] -/
def W263 (Q : Ending → W) (a0a : Option Addr) (a0n : Nat) (a0c : Nat) (a1 : ByteArray) : W :=
  WLoop (σ := ((Int × Unit) × Unit)) ((0, ()), ()) fun x1 again1 =>
  WIf (decide ((x1.1.1 : Int) < (a0n : Int))) (WIndex a0a a0n (x1.1.1 : Int) fun q2 =>
   WLoad (Addr.add q2 ((Int.toNat (x1.1.1 : Int)) * 1)) (.l .s) fun (x3 : ByteArray) =>
   WIf ((ByteArray.toList a1) == (ByteArray.toList x3)) (Q (.returned (.int .i64 (x1.1.1 : Int))))
   (again1 (((IntKind.wrap .i64 ((x1.1.1 : Int) + 1)), ()), ())))
  (Q (.returned (.int .i64 (-1))))

def h263 : Hints := ⟨[], [⟨0, [(8, .i .i64)], [4, 5, 9, 10, 11, 12, 13, 14, 15, 16, 17, 18], []⟩], [], []⟩
theorem tie263 (Q : Ending → W) (a0a : Option Addr) (a0n : Nat) (a0c : Nat) (a1 : ByteArray) : funW Tryz.prog tab Q h263 Tryz.f263 [.v (.slice a0a a0n a0c), .v (.string a1)] = W263 Q a0a a0n a0c a1 := by kernel_rfl

theorem spec263 {Q : Ending → W} {a0a : Option Addr} {a0n : Nat} {a0c : Nat} {a1 : ByteArray} {H : HP} (h : W263 Q a0a a0n a0c a1 H) : Go.Den.Spec Tryz.prog 263 #[(.slice a0a a0n a0c), (.string a1)] H Q :=
  specOf (fn := Tryz.f263) (hs := h263) (args := [.v (.slice a0a a0n a0c), .v (.string a1)]) (by kernel_rfl) (by kernel_rfl) (by kernel_rfl) rfl (by rw [tie263]; exact h)

/-- slices.Contains[[]string,string] -/
def W231 (Q : Ending → W) (a0a : Option Addr) (a0n : Nat) (a0c : Nat) (a1 : ByteArray) : W :=
  WCall Tryz.prog Q 263 #[(.slice a0a a0n a0c), (.string a1)] (WOpen (.one (.l (.i .i64))) fun (x1 : Int) =>
  Q (.returned (.bool (decide (x1 ≥ 0)))))

def h231 : Hints := ⟨[], [], [], []⟩
theorem tie231 (Q : Ending → W) (a0a : Option Addr) (a0n : Nat) (a0c : Nat) (a1 : ByteArray) : funW Tryz.prog tab Q h231 Tryz.f231 [.v (.slice a0a a0n a0c), .v (.string a1)] = W231 Q a0a a0n a0c a1 := by kernel_rfl

theorem spec231 {Q : Ending → W} {a0a : Option Addr} {a0n : Nat} {a0c : Nat} {a1 : ByteArray} {H : HP} (h : W231 Q a0a a0n a0c a1 H) : Go.Den.Spec Tryz.prog 231 #[(.slice a0a a0n a0c), (.string a1)] H Q :=
  specOf (fn := Tryz.f231) (hs := h231) (args := [.v (.slice a0a a0n a0c), .v (.string a1)]) (by kernel_rfl) (by kernel_rfl) (by kernel_rfl) rfl (by rw [tie231]; exact h)

/-- value.Has -/
def W169 (Q : Ending → W) (a0_0 : Int) (a0_1 : Int) (a0_2 : ByteArray) (a0_3a : Option Addr) (a0_3n : Nat) (a0_3c : Nat) (a1 : ByteArray) : W :=
  WCall Tryz.prog Q 231 #[(.slice a0_3a a0_3n a0_3c), (.string a1)] (WOpen (.one (.l .b)) fun (x1 : Bool) =>
  Q (.returned (.bool x1)))

def h169 : Hints := ⟨[], [], [], [2]⟩
theorem tie169 (Q : Ending → W) (a0_0 : Int) (a0_1 : Int) (a0_2 : ByteArray) (a0_3a : Option Addr) (a0_3n : Nat) (a0_3c : Nat) (a1 : ByteArray) : funW Tryz.prog tab Q h169 Tryz.f169 [.v (.agg ⟨[(.int .i64 a0_0), (.int .i64 a0_1), (.string a0_2), (.slice a0_3a a0_3n a0_3c)]⟩), .v (.string a1)] = W169 Q a0_0 a0_1 a0_2 a0_3a a0_3n a0_3c a1 := by kernel_rfl

theorem spec169 {Q : Ending → W} {a0_0 : Int} {a0_1 : Int} {a0_2 : ByteArray} {a0_3a : Option Addr} {a0_3n : Nat} {a0_3c : Nat} {a1 : ByteArray} {H : HP} (h : W169 Q a0_0 a0_1 a0_2 a0_3a a0_3n a0_3c a1 H) : Go.Den.Spec Tryz.prog 169 #[(.agg ⟨[(.int .i64 a0_0), (.int .i64 a0_1), (.string a0_2), (.slice a0_3a a0_3n a0_3c)]⟩), (.string a1)] H Q :=
  specOf (fn := Tryz.f169) (hs := h169) (args := [.v (.agg ⟨[(.int .i64 a0_0), (.int .i64 a0_1), (.string a0_2), (.slice a0_3a a0_3n a0_3c)]⟩), .v (.string a1)]) (by kernel_rfl) (by kernel_rfl) (by kernel_rfl) rfl (by rw [tie169]; exact h)

/-- (*deque.Deque).Clear -/
def W232 (Q : Ending → W) (a0 : Option Addr) : W :=
  WIf (!(Option.isNone a0)) (WNonNil a0 fun q1 =>
   WStore (Addr.add q1 0) [(.slice none 0 0)] <|
   Q (.returned (.tuple #[])))
  (Q (.returned (.tuple #[])))

def h232 : Hints := ⟨[], [], [], []⟩
theorem tie232 (Q : Ending → W) (a0 : Option Addr) : funW Tryz.prog tab Q h232 Tryz.f232 [.v (.pointer a0)] = W232 Q a0 := by kernel_rfl

theorem spec232 {Q : Ending → W} {a0 : Option Addr} {H : HP} (h : W232 Q a0 H) : Go.Den.Spec Tryz.prog 232 #[(.pointer a0)] H Q :=
  specOf (fn := Tryz.f232) (hs := h232) (args := [.v (.pointer a0)]) (by kernel_rfl) (by kernel_rfl) (by kernel_rfl) rfl (by rw [tie232]; exact h)

/-- (*window.Since).Step -/
def W170 (Q : Ending → W) (a0 : Option Addr) (a1 : Int) (a2 : Bool) (a3 : Bool) : W :=
  WIf (Option.isNone a0) (Q (.returned (.bool false)))
  (WNonNil a0 fun q1 =>
   WLoad (Addr.add (Addr.add q1 0) 0) (.l .b) fun (x2 : Bool) =>
   WIf (!x2) (Q (.returned (.bool false)))
   (WNonNil a0 fun q3 =>
    WCall Tryz.prog Q 220 #[(.pointer (some (Addr.add q3 0))), (.int .i64 a1)] (WOpen (.one (.l (.i .i64))) fun (x4 : Int) =>
    WIf (!a2) (WNonNil a0 fun q5 =>
     WCall Tryz.prog Q 232 #[(.pointer (some (Addr.add (Addr.add q5 0) 4)))] (WOpen (.tup []) <|
     WIf a3 (WNonNil a0 fun q7 =>
      WCall Tryz.prog Q 221 #[(.pointer (some (Addr.add q7 0)))] (WOpen (.tup []) <|
      WNonNil a0 fun q9 =>
      WCall Tryz.prog Q 222 #[(.pointer (some (Addr.add q9 0)))] (WOpen (.one (.l .b)) fun (x10 : Bool) =>
      Q (.returned (.bool x10)))))
     (WNonNil a0 fun q11 =>
      WCall Tryz.prog Q 222 #[(.pointer (some (Addr.add q11 0)))] (WOpen (.one (.l .b)) fun (x12 : Bool) =>
      Q (.returned (.bool x12))))))
    (WIf a3 (WNonNil a0 fun q13 =>
      WCall Tryz.prog Q 221 #[(.pointer (some (Addr.add q13 0)))] (WOpen (.tup []) <|
      WNonNil a0 fun q15 =>
      WCall Tryz.prog Q 222 #[(.pointer (some (Addr.add q15 0)))] (WOpen (.one (.l .b)) fun (x16 : Bool) =>
      Q (.returned (.bool x16)))))
     (WNonNil a0 fun q17 =>
      WCall Tryz.prog Q 222 #[(.pointer (some (Addr.add q17 0)))] (WOpen (.one (.l .b)) fun (x18 : Bool) =>
      Q (.returned (.bool x18))))))))

def h170 : Hints := ⟨[], [], [], []⟩
theorem tie170 (Q : Ending → W) (a0 : Option Addr) (a1 : Int) (a2 : Bool) (a3 : Bool) : funW Tryz.prog tab Q h170 Tryz.f170 [.v (.pointer a0), .v (.int .i64 a1), .v (.bool a2), .v (.bool a3)] = W170 Q a0 a1 a2 a3 := by kernel_rfl

theorem spec170 {Q : Ending → W} {a0 : Option Addr} {a1 : Int} {a2 : Bool} {a3 : Bool} {H : HP} (h : W170 Q a0 a1 a2 a3 H) : Go.Den.Spec Tryz.prog 170 #[(.pointer a0), (.int .i64 a1), (.bool a2), (.bool a3)] H Q :=
  specOf (fn := Tryz.f170) (hs := h170) (args := [.v (.pointer a0), .v (.int .i64 a1), .v (.bool a2), .v (.bool a3)]) (by kernel_rfl) (by kernel_rfl) (by kernel_rfl) rfl (by rw [tie170]; exact h)

/-- (monitor.eye).pair -/
def W103 (Q : Ending → W) (a0_0 : Option Addr) (a0_1 : Int) (a0_2 : ByteArray) (a0_3 : ByteArray) (a0_4 : ByteArray) (a1 : Option Addr) (a2_0 : Int) (a2_1 : Int) (a2_2 : ByteArray) (a2_3a : Option Addr) (a2_3n : Nat) (a2_3c : Nat) (a3_0 : Int) (a3_1 : Int) (a3_2 : ByteArray) (a3_3a : Option Addr) (a3_3n : Nat) (a3_3c : Nat) : W :=
  WJoin (σ := (Unit × ((Int × (Int × (ByteArray × ((Option Go.Addr × (Nat × Nat)) × Unit)))) × Unit))) (fun again1 =>
   WNonNil a1 fun q2 =>
   WLoad (Addr.add (Addr.add q2 0) 0) (.l (.i .i64)) fun (x3 : Int) =>
   WIf (x3 == 8) (WNonNil a1 fun q4 =>
    WLoad (Addr.add (Addr.add q4 0) 0) (.l (.i .i64)) fun (x5 : Int) =>
    WCall Tryz.prog Q 166 #[(.int .i64 x5), (.agg #[(.int .i64 a2_0), (.int .i64 a2_1), (.string a2_2), (.slice a2_3a a2_3n a2_3c)]), (.agg #[(.int .i64 a3_0), (.int .i64 a3_1), (.string a3_2), (.slice a3_3a a3_3n a3_3c)])] (WOpen (.one (.agg [(.i .i64), (.i .i64), .s, .sl])) fun (x6 : Int) (x6_1 : Int) (x6_2 : ByteArray) (x6_3 : Option Go.Addr) (x6_4 : Nat) (x6_5 : Nat) =>
    Q (.returned (.agg #[(.int .i64 x6), (.int .i64 x6_1), (.string x6_2), (.slice x6_3 x6_4 x6_5)]))))
   (WIf (x3 == 9) (WNonNil a1 fun q7 =>
     WLoad (Addr.add (Addr.add q7 0) 0) (.l (.i .i64)) fun (x8 : Int) =>
     WCall Tryz.prog Q 166 #[(.int .i64 x8), (.agg #[(.int .i64 a2_0), (.int .i64 a2_1), (.string a2_2), (.slice a2_3a a2_3n a2_3c)]), (.agg #[(.int .i64 a3_0), (.int .i64 a3_1), (.string a3_2), (.slice a3_3a a3_3n a3_3c)])] (WOpen (.one (.agg [(.i .i64), (.i .i64), .s, .sl])) fun (x9 : Int) (x9_1 : Int) (x9_2 : ByteArray) (x9_3 : Option Go.Addr) (x9_4 : Nat) (x9_5 : Nat) =>
     Q (.returned (.agg #[(.int .i64 x9), (.int .i64 x9_1), (.string x9_2), (.slice x9_3 x9_4 x9_5)]))))
    (WIf (x3 == 10) (WNonNil a1 fun q10 =>
      WLoad (Addr.add (Addr.add q10 0) 0) (.l (.i .i64)) fun (x11 : Int) =>
      WCall Tryz.prog Q 166 #[(.int .i64 x11), (.agg #[(.int .i64 a2_0), (.int .i64 a2_1), (.string a2_2), (.slice a2_3a a2_3n a2_3c)]), (.agg #[(.int .i64 a3_0), (.int .i64 a3_1), (.string a3_2), (.slice a3_3a a3_3n a3_3c)])] (WOpen (.one (.agg [(.i .i64), (.i .i64), .s, .sl])) fun (x12 : Int) (x12_1 : Int) (x12_2 : ByteArray) (x12_3 : Option Go.Addr) (x12_4 : Nat) (x12_5 : Nat) =>
      Q (.returned (.agg #[(.int .i64 x12), (.int .i64 x12_1), (.string x12_2), (.slice x12_3 x12_4 x12_5)]))))
     (WIf (x3 == 14) (WCall Tryz.prog Q 159 #[(.bool (a2_0 == a3_0)), (.int .i64 31)] (WOpen (.tup []) <|
       WCall Tryz.prog Q 167 #[(.agg #[(.int .i64 a2_0), (.int .i64 a2_1), (.string a2_2), (.slice a2_3a a2_3n a2_3c)]), (.agg #[(.int .i64 a3_0), (.int .i64 a3_1), (.string a3_2), (.slice a3_3a a3_3n a3_3c)])] (WOpen (.one (.l .b)) fun (x14 : Bool) =>
       WCall Tryz.prog Q 164 #[(.bool x14)] (WOpen (.one (.agg [(.i .i64), (.i .i64), .s, .sl])) fun (x15 : Int) (x15_1 : Int) (x15_2 : ByteArray) (x15_3 : Option Go.Addr) (x15_4 : Nat) (x15_5 : Nat) =>
       Q (.returned (.agg #[(.int .i64 x15), (.int .i64 x15_1), (.string x15_2), (.slice x15_3 x15_4 x15_5)]))))))
      (WIf (x3 == 15) (WIf (a2_0 == a3_0) (WIf (a2_0 == 1) (WCall Tryz.prog Q 159 #[(.bool true), (.int .i64 31)] (WOpen (.tup []) <|
          WCall Tryz.prog Q 168 #[(.agg #[(.int .i64 a2_0), (.int .i64 a2_1), (.string a2_2), (.slice a2_3a a2_3n a2_3c)]), (.agg #[(.int .i64 a3_0), (.int .i64 a3_1), (.string a3_2), (.slice a3_3a a3_3n a3_3c)])] (WOpen (.one (.l (.i .i64))) fun (x17 : Int) =>
          WIf (decide (x17 < 0)) (WCall Tryz.prog Q 164 #[(.bool true)] (WOpen (.one (.agg [(.i .i64), (.i .i64), .s, .sl])) fun (x18 : Int) (x18_1 : Int) (x18_2 : ByteArray) (x18_3 : Option Go.Addr) (x18_4 : Nat) (x18_5 : Nat) =>
           Q (.returned (.agg #[(.int .i64 x18), (.int .i64 x18_1), (.string x18_2), (.slice x18_3 x18_4 x18_5)]))))
          (WIf (x17 == 0) (WNonNil a1 fun q19 =>
            WLoad (Addr.add (Addr.add q19 0) 0) (.l (.i .i64)) fun (x20 : Int) =>
            WCall Tryz.prog Q 164 #[(.bool (x20 == 16))] (WOpen (.one (.agg [(.i .i64), (.i .i64), .s, .sl])) fun (x21 : Int) (x21_1 : Int) (x21_2 : ByteArray) (x21_3 : Option Go.Addr) (x21_4 : Nat) (x21_5 : Nat) =>
            Q (.returned (.agg #[(.int .i64 x21), (.int .i64 x21_1), (.string x21_2), (.slice x21_3 x21_4 x21_5)]))))
           (WCall Tryz.prog Q 164 #[(.bool false)] (WOpen (.one (.agg [(.i .i64), (.i .i64), .s, .sl])) fun (x22 : Int) (x22_1 : Int) (x22_2 : ByteArray) (x22_3 : Option Go.Addr) (x22_4 : Nat) (x22_5 : Nat) =>
            Q (.returned (.agg #[(.int .i64 x22), (.int .i64 x22_1), (.string x22_2), (.slice x22_3 x22_4 x22_5)]))))))))
         (WCall Tryz.prog Q 159 #[(.bool (a2_0 == 3)), (.int .i64 31)] (WOpen (.tup []) <|
          WCall Tryz.prog Q 168 #[(.agg #[(.int .i64 a2_0), (.int .i64 a2_1), (.string a2_2), (.slice a2_3a a2_3n a2_3c)]), (.agg #[(.int .i64 a3_0), (.int .i64 a3_1), (.string a3_2), (.slice a3_3a a3_3n a3_3c)])] (WOpen (.one (.l (.i .i64))) fun (x24 : Int) =>
          WIf (decide (x24 < 0)) (WCall Tryz.prog Q 164 #[(.bool true)] (WOpen (.one (.agg [(.i .i64), (.i .i64), .s, .sl])) fun (x25 : Int) (x25_1 : Int) (x25_2 : ByteArray) (x25_3 : Option Go.Addr) (x25_4 : Nat) (x25_5 : Nat) =>
           Q (.returned (.agg #[(.int .i64 x25), (.int .i64 x25_1), (.string x25_2), (.slice x25_3 x25_4 x25_5)]))))
          (WIf (x24 == 0) (WNonNil a1 fun q26 =>
            WLoad (Addr.add (Addr.add q26 0) 0) (.l (.i .i64)) fun (x27 : Int) =>
            WCall Tryz.prog Q 164 #[(.bool (x27 == 16))] (WOpen (.one (.agg [(.i .i64), (.i .i64), .s, .sl])) fun (x28 : Int) (x28_1 : Int) (x28_2 : ByteArray) (x28_3 : Option Go.Addr) (x28_4 : Nat) (x28_5 : Nat) =>
            Q (.returned (.agg #[(.int .i64 x28), (.int .i64 x28_1), (.string x28_2), (.slice x28_3 x28_4 x28_5)]))))
           (WCall Tryz.prog Q 164 #[(.bool false)] (WOpen (.one (.agg [(.i .i64), (.i .i64), .s, .sl])) fun (x29 : Int) (x29_1 : Int) (x29_2 : ByteArray) (x29_3 : Option Go.Addr) (x29_4 : Nat) (x29_5 : Nat) =>
            Q (.returned (.agg #[(.int .i64 x29), (.int .i64 x29_1), (.string x29_2), (.slice x29_3 x29_4 x29_5)])))))))))
        (WCall Tryz.prog Q 159 #[(.bool false), (.int .i64 31)] (WOpen (.tup []) <|
         WCall Tryz.prog Q 168 #[(.agg #[(.int .i64 a2_0), (.int .i64 a2_1), (.string a2_2), (.slice a2_3a a2_3n a2_3c)]), (.agg #[(.int .i64 a3_0), (.int .i64 a3_1), (.string a3_2), (.slice a3_3a a3_3n a3_3c)])] (WOpen (.one (.l (.i .i64))) fun (x31 : Int) =>
         WIf (decide (x31 < 0)) (WCall Tryz.prog Q 164 #[(.bool true)] (WOpen (.one (.agg [(.i .i64), (.i .i64), .s, .sl])) fun (x32 : Int) (x32_1 : Int) (x32_2 : ByteArray) (x32_3 : Option Go.Addr) (x32_4 : Nat) (x32_5 : Nat) =>
          Q (.returned (.agg #[(.int .i64 x32), (.int .i64 x32_1), (.string x32_2), (.slice x32_3 x32_4 x32_5)]))))
         (WIf (x31 == 0) (WNonNil a1 fun q33 =>
           WLoad (Addr.add (Addr.add q33 0) 0) (.l (.i .i64)) fun (x34 : Int) =>
           WCall Tryz.prog Q 164 #[(.bool (x34 == 16))] (WOpen (.one (.agg [(.i .i64), (.i .i64), .s, .sl])) fun (x35 : Int) (x35_1 : Int) (x35_2 : ByteArray) (x35_3 : Option Go.Addr) (x35_4 : Nat) (x35_5 : Nat) =>
           Q (.returned (.agg #[(.int .i64 x35), (.int .i64 x35_1), (.string x35_2), (.slice x35_3 x35_4 x35_5)]))))
          (WCall Tryz.prog Q 164 #[(.bool false)] (WOpen (.one (.agg [(.i .i64), (.i .i64), .s, .sl])) fun (x36 : Int) (x36_1 : Int) (x36_2 : ByteArray) (x36_3 : Option Go.Addr) (x36_4 : Nat) (x36_5 : Nat) =>
           Q (.returned (.agg #[(.int .i64 x36), (.int .i64 x36_1), (.string x36_2), (.slice x36_3 x36_4 x36_5)])))))))))
       (WIf (x3 == 16) (WIf (a2_0 == a3_0) (WIf (a2_0 == 1) (WCall Tryz.prog Q 159 #[(.bool true), (.int .i64 31)] (WOpen (.tup []) <|
           WCall Tryz.prog Q 168 #[(.agg #[(.int .i64 a2_0), (.int .i64 a2_1), (.string a2_2), (.slice a2_3a a2_3n a2_3c)]), (.agg #[(.int .i64 a3_0), (.int .i64 a3_1), (.string a3_2), (.slice a3_3a a3_3n a3_3c)])] (WOpen (.one (.l (.i .i64))) fun (x38 : Int) =>
           WIf (decide (x38 < 0)) (WCall Tryz.prog Q 164 #[(.bool true)] (WOpen (.one (.agg [(.i .i64), (.i .i64), .s, .sl])) fun (x39 : Int) (x39_1 : Int) (x39_2 : ByteArray) (x39_3 : Option Go.Addr) (x39_4 : Nat) (x39_5 : Nat) =>
            Q (.returned (.agg #[(.int .i64 x39), (.int .i64 x39_1), (.string x39_2), (.slice x39_3 x39_4 x39_5)]))))
           (WIf (x38 == 0) (WNonNil a1 fun q40 =>
             WLoad (Addr.add (Addr.add q40 0) 0) (.l (.i .i64)) fun (x41 : Int) =>
             WCall Tryz.prog Q 164 #[(.bool (x41 == 16))] (WOpen (.one (.agg [(.i .i64), (.i .i64), .s, .sl])) fun (x42 : Int) (x42_1 : Int) (x42_2 : ByteArray) (x42_3 : Option Go.Addr) (x42_4 : Nat) (x42_5 : Nat) =>
             Q (.returned (.agg #[(.int .i64 x42), (.int .i64 x42_1), (.string x42_2), (.slice x42_3 x42_4 x42_5)]))))
            (WCall Tryz.prog Q 164 #[(.bool false)] (WOpen (.one (.agg [(.i .i64), (.i .i64), .s, .sl])) fun (x43 : Int) (x43_1 : Int) (x43_2 : ByteArray) (x43_3 : Option Go.Addr) (x43_4 : Nat) (x43_5 : Nat) =>
             Q (.returned (.agg #[(.int .i64 x43), (.int .i64 x43_1), (.string x43_2), (.slice x43_3 x43_4 x43_5)]))))))))
          (WCall Tryz.prog Q 159 #[(.bool (a2_0 == 3)), (.int .i64 31)] (WOpen (.tup []) <|
           WCall Tryz.prog Q 168 #[(.agg #[(.int .i64 a2_0), (.int .i64 a2_1), (.string a2_2), (.slice a2_3a a2_3n a2_3c)]), (.agg #[(.int .i64 a3_0), (.int .i64 a3_1), (.string a3_2), (.slice a3_3a a3_3n a3_3c)])] (WOpen (.one (.l (.i .i64))) fun (x45 : Int) =>
           WIf (decide (x45 < 0)) (WCall Tryz.prog Q 164 #[(.bool true)] (WOpen (.one (.agg [(.i .i64), (.i .i64), .s, .sl])) fun (x46 : Int) (x46_1 : Int) (x46_2 : ByteArray) (x46_3 : Option Go.Addr) (x46_4 : Nat) (x46_5 : Nat) =>
            Q (.returned (.agg #[(.int .i64 x46), (.int .i64 x46_1), (.string x46_2), (.slice x46_3 x46_4 x46_5)]))))
           (WIf (x45 == 0) (WNonNil a1 fun q47 =>
             WLoad (Addr.add (Addr.add q47 0) 0) (.l (.i .i64)) fun (x48 : Int) =>
             WCall Tryz.prog Q 164 #[(.bool (x48 == 16))] (WOpen (.one (.agg [(.i .i64), (.i .i64), .s, .sl])) fun (x49 : Int) (x49_1 : Int) (x49_2 : ByteArray) (x49_3 : Option Go.Addr) (x49_4 : Nat) (x49_5 : Nat) =>
             Q (.returned (.agg #[(.int .i64 x49), (.int .i64 x49_1), (.string x49_2), (.slice x49_3 x49_4 x49_5)]))))
            (WCall Tryz.prog Q 164 #[(.bool false)] (WOpen (.one (.agg [(.i .i64), (.i .i64), .s, .sl])) fun (x50 : Int) (x50_1 : Int) (x50_2 : ByteArray) (x50_3 : Option Go.Addr) (x50_4 : Nat) (x50_5 : Nat) =>
             Q (.returned (.agg #[(.int .i64 x50), (.int .i64 x50_1), (.string x50_2), (.slice x50_3 x50_4 x50_5)])))))))))
         (WCall Tryz.prog Q 159 #[(.bool false), (.int .i64 31)] (WOpen (.tup []) <|
          WCall Tryz.prog Q 168 #[(.agg #[(.int .i64 a2_0), (.int .i64 a2_1), (.string a2_2), (.slice a2_3a a2_3n a2_3c)]), (.agg #[(.int .i64 a3_0), (.int .i64 a3_1), (.string a3_2), (.slice a3_3a a3_3n a3_3c)])] (WOpen (.one (.l (.i .i64))) fun (x52 : Int) =>
          WIf (decide (x52 < 0)) (WCall Tryz.prog Q 164 #[(.bool true)] (WOpen (.one (.agg [(.i .i64), (.i .i64), .s, .sl])) fun (x53 : Int) (x53_1 : Int) (x53_2 : ByteArray) (x53_3 : Option Go.Addr) (x53_4 : Nat) (x53_5 : Nat) =>
           Q (.returned (.agg #[(.int .i64 x53), (.int .i64 x53_1), (.string x53_2), (.slice x53_3 x53_4 x53_5)]))))
          (WIf (x52 == 0) (WNonNil a1 fun q54 =>
            WLoad (Addr.add (Addr.add q54 0) 0) (.l (.i .i64)) fun (x55 : Int) =>
            WCall Tryz.prog Q 164 #[(.bool (x55 == 16))] (WOpen (.one (.agg [(.i .i64), (.i .i64), .s, .sl])) fun (x56 : Int) (x56_1 : Int) (x56_2 : ByteArray) (x56_3 : Option Go.Addr) (x56_4 : Nat) (x56_5 : Nat) =>
            Q (.returned (.agg #[(.int .i64 x56), (.int .i64 x56_1), (.string x56_2), (.slice x56_3 x56_4 x56_5)]))))
           (WCall Tryz.prog Q 164 #[(.bool false)] (WOpen (.one (.agg [(.i .i64), (.i .i64), .s, .sl])) fun (x57 : Int) (x57_1 : Int) (x57_2 : ByteArray) (x57_3 : Option Go.Addr) (x57_4 : Nat) (x57_5 : Nat) =>
            Q (.returned (.agg #[(.int .i64 x57), (.int .i64 x57_1), (.string x57_2), (.slice x57_3 x57_4 x57_5)])))))))))
        (WIf (x3 == 17) (WIf (a2_0 == 3) (WCall Tryz.prog Q 159 #[(.bool (a3_0 == 4)), (.int .i64 31)] (WOpen (.tup []) <|
           WCall Tryz.prog Q 169 #[(.agg #[(.int .i64 a3_0), (.int .i64 a3_1), (.string a3_2), (.slice a3_3a a3_3n a3_3c)]), (.string a2_2)] (WOpen (.one (.l .b)) fun (x59 : Bool) =>
           WCall Tryz.prog Q 164 #[(.bool x59)] (WOpen (.one (.agg [(.i .i64), (.i .i64), .s, .sl])) fun (x60 : Int) (x60_1 : Int) (x60_2 : ByteArray) (x60_3 : Option Go.Addr) (x60_4 : Nat) (x60_5 : Nat) =>
           Q (.returned (.agg #[(.int .i64 x60), (.int .i64 x60_1), (.string x60_2), (.slice x60_3 x60_4 x60_5)]))))))
          (WCall Tryz.prog Q 159 #[(.bool false), (.int .i64 31)] (WOpen (.tup []) <|
           WCall Tryz.prog Q 169 #[(.agg #[(.int .i64 a3_0), (.int .i64 a3_1), (.string a3_2), (.slice a3_3a a3_3n a3_3c)]), (.string a2_2)] (WOpen (.one (.l .b)) fun (x62 : Bool) =>
           WCall Tryz.prog Q 164 #[(.bool x62)] (WOpen (.one (.agg [(.i .i64), (.i .i64), .s, .sl])) fun (x63 : Int) (x63_1 : Int) (x63_2 : ByteArray) (x63_3 : Option Go.Addr) (x63_4 : Nat) (x63_5 : Nat) =>
           Q (.returned (.agg #[(.int .i64 x63), (.int .i64 x63_1), (.string x63_2), (.slice x63_3 x63_4 x63_5)])))))))
         (again1 ((), ((0, (0, ((ByteArray.mk #[]), ((none, (0, 0)), ())))), ()))))))))))
  (fun x1 =>
   WCall Tryz.prog Q 163 #[(.agg #[(.int .i64 a2_0), (.int .i64 a2_1), (.string a2_2), (.slice a2_3a a2_3n a2_3c)])] (WOpen (.one (.l .b)) fun (x64 : Bool) =>
   WCall Tryz.prog Q 163 #[(.agg #[(.int .i64 a3_0), (.int .i64 a3_1), (.string a3_2), (.slice a3_3a a3_3n a3_3c)])] (WOpen (.one (.l .b)) fun (x65 : Bool) =>
   WNonNil a1 fun q66 =>
   WLoad (Addr.add (Addr.add q66 0) 0) (.l (.i .i64)) fun (x67 : Int) =>
   WIf (x67 == 19) (WIf x64 (WCall Tryz.prog Q 164 #[(.bool x65)] (WOpen (.one (.agg [(.i .i64), (.i .i64), .s, .sl])) fun (x68 : Int) (x68_1 : Int) (x68_2 : ByteArray) (x68_3 : Option Go.Addr) (x68_4 : Nat) (x68_5 : Nat) =>
     Q (.returned (.agg #[(.int .i64 x68), (.int .i64 x68_1), (.string x68_2), (.slice x68_3 x68_4 x68_5)]))))
    (WCall Tryz.prog Q 164 #[(.bool false)] (WOpen (.one (.agg [(.i .i64), (.i .i64), .s, .sl])) fun (x69 : Int) (x69_1 : Int) (x69_2 : ByteArray) (x69_3 : Option Go.Addr) (x69_4 : Nat) (x69_5 : Nat) =>
     Q (.returned (.agg #[(.int .i64 x69), (.int .i64 x69_1), (.string x69_2), (.slice x69_3 x69_4 x69_5)])))))
   (WIf (x67 == 20) (WIf x64 (WCall Tryz.prog Q 164 #[(.bool true)] (WOpen (.one (.agg [(.i .i64), (.i .i64), .s, .sl])) fun (x70 : Int) (x70_1 : Int) (x70_2 : ByteArray) (x70_3 : Option Go.Addr) (x70_4 : Nat) (x70_5 : Nat) =>
      Q (.returned (.agg #[(.int .i64 x70), (.int .i64 x70_1), (.string x70_2), (.slice x70_3 x70_4 x70_5)]))))
     (WCall Tryz.prog Q 164 #[(.bool x65)] (WOpen (.one (.agg [(.i .i64), (.i .i64), .s, .sl])) fun (x71 : Int) (x71_1 : Int) (x71_2 : ByteArray) (x71_3 : Option Go.Addr) (x71_4 : Nat) (x71_5 : Nat) =>
      Q (.returned (.agg #[(.int .i64 x71), (.int .i64 x71_1), (.string x71_2), (.slice x71_3 x71_4 x71_5)])))))
    (WNonNil a1 fun q72 =>
     WLoad (Addr.add q72 8) (.l .p) fun (x73 : Option Go.Addr) =>
     WCall Tryz.prog Q 170 #[(.pointer x73), (.int .i64 a0_1), (.bool x64), (.bool x65)] (WOpen (.one (.l .b)) fun (x74 : Bool) =>
     WCall Tryz.prog Q 164 #[(.bool x74)] (WOpen (.one (.agg [(.i .i64), (.i .i64), .s, .sl])) fun (x75 : Int) (x75_1 : Int) (x75_2 : ByteArray) (x75_3 : Option Go.Addr) (x75_4 : Nat) (x75_5 : Nat) =>
     Q (.returned (.agg #[(.int .i64 x75), (.int .i64 x75_1), (.string x75_2), (.slice x75_3 x75_4 x75_5)])))))))))

def h103 : Hints := ⟨[], [], [⟨17, [], [9, 12, 13, 14, 15, 16, 17, 18, 19, 20, 21, 22, 23, 24, 25, 26, 27, 28, 29, 30, 31, 32, 33, 34, 35, 36, 37, 38, 39, 40, 41, 42, 43, 44, 45, 46, 47, 48, 49, 50, 51, 52, 53, 54, 55, 56, 57, 58, 59, 60, 61, 62, 63, 64, 65, 66, 67, 68, 69, 70, 71, 72, 73, 74, 75, 76, 77, 78, 79, 80, 81, 82, 83, 84, 85, 86, 87, 88, 89, 90, 91, 92, 93], [(8, [some (.i .i64), some (.i .i64), some (.s), some (.sl)])]⟩], [4, 6, 7, 8]⟩
theorem tie103 (Q : Ending → W) (a0_0 : Option Addr) (a0_1 : Int) (a0_2 : ByteArray) (a0_3 : ByteArray) (a0_4 : ByteArray) (a1 : Option Addr) (a2_0 : Int) (a2_1 : Int) (a2_2 : ByteArray) (a2_3a : Option Addr) (a2_3n : Nat) (a2_3c : Nat) (a3_0 : Int) (a3_1 : Int) (a3_2 : ByteArray) (a3_3a : Option Addr) (a3_3n : Nat) (a3_3c : Nat) : funW Tryz.prog tab Q h103 Tryz.f103 [.v (.agg ⟨[(.pointer a0_0), (.int .i64 a0_1), (.string a0_2), (.string a0_3), (.string a0_4)]⟩), .v (.pointer a1), .v (.agg ⟨[(.int .i64 a2_0), (.int .i64 a2_1), (.string a2_2), (.slice a2_3a a2_3n a2_3c)]⟩), .v (.agg ⟨[(.int .i64 a3_0), (.int .i64 a3_1), (.string a3_2), (.slice a3_3a a3_3n a3_3c)]⟩)] = W103 Q a0_0 a0_1 a0_2 a0_3 a0_4 a1 a2_0 a2_1 a2_2 a2_3a a2_3n a2_3c a3_0 a3_1 a3_2 a3_3a a3_3n a3_3c := by kernel_rfl

theorem spec103 {Q : Ending → W} {a0_0 : Option Addr} {a0_1 : Int} {a0_2 : ByteArray} {a0_3 : ByteArray} {a0_4 : ByteArray} {a1 : Option Addr} {a2_0 : Int} {a2_1 : Int} {a2_2 : ByteArray} {a2_3a : Option Addr} {a2_3n : Nat} {a2_3c : Nat} {a3_0 : Int} {a3_1 : Int} {a3_2 : ByteArray} {a3_3a : Option Addr} {a3_3n : Nat} {a3_3c : Nat} {H : HP} (h : W103 Q a0_0 a0_1 a0_2 a0_3 a0_4 a1 a2_0 a2_1 a2_2 a2_3a a2_3n a2_3c a3_0 a3_1 a3_2 a3_3a a3_3n a3_3c H) : Go.Den.Spec Tryz.prog 103 #[(.agg ⟨[(.pointer a0_0), (.int .i64 a0_1), (.string a0_2), (.string a0_3), (.string a0_4)]⟩), (.pointer a1), (.agg ⟨[(.int .i64 a2_0), (.int .i64 a2_1), (.string a2_2), (.slice a2_3a a2_3n a2_3c)]⟩), (.agg ⟨[(.int .i64 a3_0), (.int .i64 a3_1), (.string a3_2), (.slice a3_3a a3_3n a3_3c)]⟩)] H Q :=
  specOf (fn := Tryz.f103) (hs := h103) (args := [.v (.agg ⟨[(.pointer a0_0), (.int .i64 a0_1), (.string a0_2), (.string a0_3), (.string a0_4)]⟩), .v (.pointer a1), .v (.agg ⟨[(.int .i64 a2_0), (.int .i64 a2_1), (.string a2_2), (.slice a2_3a a2_3n a2_3c)]⟩), .v (.agg ⟨[(.int .i64 a3_0), (.int .i64 a3_1), (.string a3_2), (.slice a3_3a a3_3n a3_3c)]⟩)]) (by kernel_rfl) (by kernel_rfl) (by kernel_rfl) rfl (by rw [tie103]; exact h)

/-- value.Text -/
def W171 (Q : Ending → W) (a0 : ByteArray) : W :=
  Q (.returned (.agg #[(.int .i64 3), (.int .i64 0), (.string a0), (.slice none 0 0)]))

def h171 : Hints := ⟨[], [], [], [2]⟩
theorem tie171 (Q : Ending → W) (a0 : ByteArray) : funW Tryz.prog tab Q h171 Tryz.f171 [.v (.string a0)] = W171 Q a0 := by kernel_rfl

theorem spec171 {Q : Ending → W} {a0 : ByteArray} {H : HP} (h : W171 Q a0 H) : Go.Den.Spec Tryz.prog 171 #[(.string a0)] H Q :=
  specOf (fn := Tryz.f171) (hs := h171) (args := [.v (.string a0)]) (by kernel_rfl) (by kernel_rfl) (by kernel_rfl) rfl (by rw [tie171]; exact h)

/-- slices.Clone[[]string,string] -/
def W193 (Q : Ending → W) (a0a : Option Addr) (a0n : Nat) (a0c : Nat) : W :=
  WIf (Option.isNone a0a) (Q (.returned (.slice none 0 0)))
  (WNew [] 9 fun z1 =>
   WPrim Tryz.prog (Builtin.append_ #[36, 36] 36 #[(.slice (some ⟨z1, 0, none⟩) 0 0), (.slice a0a a0n a0c)]) (WOpen (.one (.l .sl)) fun (x2 : Option Go.Addr) (x2_1 : Nat) (x2_2 : Nat) =>
   Q (.returned (.slice x2 x2_1 x2_2))))

def h193 : Hints := ⟨[], [], [], []⟩
theorem tie193 (Q : Ending → W) (a0a : Option Addr) (a0n : Nat) (a0c : Nat) : funW Tryz.prog tab Q h193 Tryz.f193 [.v (.slice a0a a0n a0c)] = W193 Q a0a a0n a0c := by kernel_rfl

theorem spec193 {Q : Ending → W} {a0a : Option Addr} {a0n : Nat} {a0c : Nat} {H : HP} (h : W193 Q a0a a0n a0c H) : Go.Den.Spec Tryz.prog 193 #[(.slice a0a a0n a0c)] H Q :=
  specOf (fn := Tryz.f193) (hs := h193) (args := [.v (.slice a0a a0n a0c)]) (by kernel_rfl) (by kernel_rfl) (by kernel_rfl) rfl (by rw [tie193]; exact h)

/-- slices.Sort[[]string,string] -/
def W264 (Q : Ending → W) (a0a : Option Addr) (a0n : Nat) (a0c : Nat) : W :=
  WCall Tryz.prog Q 281 #[(.int .u64 (IntKind.wrap .u64 (a0n : Int)))] (WOpen (.one (.l (.i .i64))) fun (x1 : Int) =>
  WCall Tryz.prog Q 280 #[(.slice a0a a0n a0c), (.int .i64 0), (.int .i64 (a0n : Int)), (.int .i64 x1)] (WOpen (.tup []) <|
  Q (.returned (.tuple #[]))))

def h264 : Hints := ⟨[], [], [], []⟩
theorem tie264 (Q : Ending → W) (a0a : Option Addr) (a0n : Nat) (a0c : Nat) : funW Tryz.prog tab Q h264 Tryz.f264 [.v (.slice a0a a0n a0c)] = W264 Q a0a a0n a0c := by kernel_rfl

theorem spec264 {Q : Ending → W} {a0a : Option Addr} {a0n : Nat} {a0c : Nat} {H : HP} (h : W264 Q a0a a0n a0c H) : Go.Den.Spec Tryz.prog 264 #[(.slice a0a a0n a0c)] H Q :=
  specOf (fn := Tryz.f264) (hs := h264) (args := [.v (.slice a0a a0n a0c)]) (by kernel_rfl) (by kernel_rfl) (by kernel_rfl) rfl (by rw [tie264]; exact h)

/-- slices.Compact[[]string,string] -/
def W265 (Q : Ending → W) (a0a : Option Addr) (a0n : Nat) (a0c : Nat) : W :=
  WIf (decide ((a0n : Int) < 2)) (Q (.returned (.slice a0a a0n a0c)))
  (WLoop (σ := ((Int × Unit) × Unit)) ((1, ()), ()) fun x1 again1 =>
   WIf (decide ((x1.1.1 : Int) < (a0n : Int))) (WIndex a0a a0n (x1.1.1 : Int) fun q2 =>
    WLoad (Addr.add q2 ((Int.toNat (x1.1.1 : Int)) * 1)) (.l .s) fun (x3 : ByteArray) =>
    WIndex a0a a0n (IntKind.wrap .i64 ((x1.1.1 : Int) - 1)) fun q4 =>
    WLoad (Addr.add q4 ((Int.toNat (IntKind.wrap .i64 ((x1.1.1 : Int) - 1))) * 1)) (.l .s) fun (x5 : ByteArray) =>
    WIf ((ByteArray.toList x3) == (ByteArray.toList x5)) (WReq (((0 : Int) ≤ (x1.1.1 : Int)) ∧ (((x1.1.1 : Int) ≤ (a0n : Int)) ∧ ((a0n : Int) ≤ (a0c : Int)))) <|
     WLoop (σ := ((Int × (Int × Unit)) × Unit)) (((x1.1.1 : Int), (1, ())), ()) fun x6 again6 =>
     WIf (decide ((x6.1.2.1 : Int) < ((((Int.toNat (a0n : Int)) - (Int.toNat (x1.1.1 : Int))) : Nat) : Int))) (WIndex (if (a0c = (Int.toNat (x1.1.1 : Int))) then a0a else (Option.map (fun x => (Addr.add x ((Int.toNat (x1.1.1 : Int)) * 1))) a0a)) ((Int.toNat (a0n : Int)) - (Int.toNat (x1.1.1 : Int))) (x6.1.2.1 : Int) fun q7 =>
      WLoad (Addr.add q7 ((Int.toNat (x6.1.2.1 : Int)) * 1)) (.l .s) fun (x8 : ByteArray) =>
      WIndex (if (a0c = (Int.toNat (x1.1.1 : Int))) then a0a else (Option.map (fun x => (Addr.add x ((Int.toNat (x1.1.1 : Int)) * 1))) a0a)) ((Int.toNat (a0n : Int)) - (Int.toNat (x1.1.1 : Int))) (IntKind.wrap .i64 ((x6.1.2.1 : Int) - 1)) fun q9 =>
      WLoad (Addr.add q9 ((Int.toNat (IntKind.wrap .i64 ((x6.1.2.1 : Int) - 1))) * 1)) (.l .s) fun (x10 : ByteArray) =>
      WIf (!((ByteArray.toList x8) == (ByteArray.toList x10))) (WIndex (if (a0c = (Int.toNat (x1.1.1 : Int))) then a0a else (Option.map (fun x => (Addr.add x ((Int.toNat (x1.1.1 : Int)) * 1))) a0a)) ((Int.toNat (a0n : Int)) - (Int.toNat (x1.1.1 : Int))) (x6.1.2.1 : Int) fun q11 =>
       WLoad (Addr.add q11 ((Int.toNat (x6.1.2.1 : Int)) * 1)) (.l .s) fun (x12 : ByteArray) =>
       WIndex a0a a0n (x6.1.1 : Int) fun q13 =>
       WStore (Addr.add q13 ((Int.toNat (x6.1.1 : Int)) * 1)) [(.string x12)] <|
       again6 (((IntKind.wrap .i64 ((x6.1.1 : Int) + 1)), ((IntKind.wrap .i64 ((x6.1.2.1 : Int) + 1)), ())), ()))
      (again6 (((x6.1.1 : Int), ((IntKind.wrap .i64 ((x6.1.2.1 : Int) + 1)), ())), ())))
     (WReq (((0 : Int) ≤ (x6.1.1 : Int)) ∧ (((x6.1.1 : Int) ≤ (a0n : Int)) ∧ ((a0n : Int) ≤ (a0c : Int)))) <|
      WPrim Tryz.prog (Builtin.clear_ #[36] 0 #[(.slice (if (a0c = (Int.toNat (x6.1.1 : Int))) then a0a else (Option.map (fun x => (Addr.add x ((Int.toNat (x6.1.1 : Int)) * 1))) a0a)) ((Int.toNat (a0n : Int)) - (Int.toNat (x6.1.1 : Int))) (a0c - (Int.toNat (x6.1.1 : Int))))]) (WOpen (.tup []) <|
      WReq (((0 : Int) ≤ 0) ∧ (((0 : Int) ≤ (x6.1.1 : Int)) ∧ ((x6.1.1 : Int) ≤ (a0c : Int)))) <|
      Q (.returned (.slice (if (a0c = 0) then a0a else (Option.map (fun x => (Addr.add x 0)) a0a)) ((Int.toNat (x6.1.1 : Int)) - 0) (a0c - 0))))))
    (again1 (((IntKind.wrap .i64 ((x1.1.1 : Int) + 1)), ()), ())))
   (Q (.returned (.slice a0a a0n a0c))))

def h265 : Hints := ⟨[], [⟨2, [(3, .i .i64), (5, .i .i64)], [29, 30, 31, 32, 33, 34, 35, 36, 37, 38, 39, 40, 41, 42, 43, 44, 45, 46, 47, 48, 49, 50, 51, 52, 53], []⟩, ⟨0, [(3, .i .i64)], [2, 4, 5, 10, 11, 12, 13, 14, 15, 16, 17, 18, 19, 20, 21, 22, 23, 24, 25, 26, 27, 28, 29, 30, 31, 32, 33, 34, 35, 36, 37, 38, 39, 40, 41, 42, 43, 44, 45, 46, 47, 48, 49, 50, 51, 52, 53, 54, 55, 56, 57, 58, 59], []⟩], [], []⟩
theorem tie265 (Q : Ending → W) (a0a : Option Addr) (a0n : Nat) (a0c : Nat) : funW Tryz.prog tab Q h265 Tryz.f265 [.v (.slice a0a a0n a0c)] = W265 Q a0a a0n a0c := by kernel_rfl

theorem spec265 {Q : Ending → W} {a0a : Option Addr} {a0n : Nat} {a0c : Nat} {H : HP} (h : W265 Q a0a a0n a0c H) : Go.Den.Spec Tryz.prog 265 #[(.slice a0a a0n a0c)] H Q :=
  specOf (fn := Tryz.f265) (hs := h265) (args := [.v (.slice a0a a0n a0c)]) (by kernel_rfl) (by kernel_rfl) (by kernel_rfl) rfl (by rw [tie265]; exact h)

/-- value.Set -/
def W233 (Q : Ending → W) (a0a : Option Addr) (a0n : Nat) (a0c : Nat) : W :=
  WCall Tryz.prog Q 193 #[(.slice a0a a0n a0c)] (WOpen (.one (.l .sl)) fun (x1 : Option Go.Addr) (x1_1 : Nat) (x1_2 : Nat) =>
  WCall Tryz.prog Q 264 #[(.slice x1 x1_1 x1_2)] (WOpen (.tup []) <|
  WCall Tryz.prog Q 265 #[(.slice x1 x1_1 x1_2)] (WOpen (.one (.l .sl)) fun (x3 : Option Go.Addr) (x3_1 : Nat) (x3_2 : Nat) =>
  Q (.returned (.agg #[(.int .i64 4), (.int .i64 0), (.string (ByteArray.mk #[])), (.slice x3 x3_1 x3_2)])))))

def h233 : Hints := ⟨[], [], [], [2]⟩
theorem tie233 (Q : Ending → W) (a0a : Option Addr) (a0n : Nat) (a0c : Nat) : funW Tryz.prog tab Q h233 Tryz.f233 [.v (.slice a0a a0n a0c)] = W233 Q a0a a0n a0c := by kernel_rfl

theorem spec233 {Q : Ending → W} {a0a : Option Addr} {a0n : Nat} {a0c : Nat} {H : HP} (h : W233 Q a0a a0n a0c H) : Go.Den.Spec Tryz.prog 233 #[(.slice a0a a0n a0c)] H Q :=
  specOf (fn := Tryz.f233) (hs := h233) (args := [.v (.slice a0a a0n a0c)]) (by kernel_rfl) (by kernel_rfl) (by kernel_rfl) rfl (by rw [tie233]; exact h)

/-- monitor.set -/
def W172 (Q : Ending → W) (a0_0 : Int) (a0_1 : ByteArray) (a0_2 : Int) (a0_3 : Int) (a0_4 : Int) (a0_5a : Option Addr) (a0_5n : Nat) (a0_5c : Nat) : W :=
  WLoop (σ := (((Option Go.Addr × (Nat × Nat)) × (Int × Unit)) × Unit)) (((none, (0, 0)), (0, ())), ()) fun x1 again1 =>
  WIf (decide ((x1.1.2.1 : Int) < (a0_5n : Int))) (WIndex a0_5a a0_5n (x1.1.2.1 : Int) fun q2 =>
   WLoad (Addr.add q2 ((Int.toNat (x1.1.2.1 : Int)) * 6)) (.agg [(.i .i64), .s, (.i .i64), (.i .i64), (.i .i64), .sl]) fun (x3 : Int) (x3_1 : ByteArray) (x3_2 : Int) (x3_3 : Int) (x3_4 : Int) (x3_5 : Option Go.Addr) (x3_6 : Nat) (x3_7 : Nat) =>
   WNew [(.string x3_1)] 9 fun z4 =>
   WPrim Tryz.prog (Builtin.append_ #[36, 36] 36 #[(.slice (x1.1.1.1 : Option Go.Addr) (x1.1.1.2.1 : Nat) (x1.1.1.2.2 : Nat)), (.slice (some ⟨z4, 0, none⟩) 1 1)]) (WOpen (.one (.l .sl)) fun (x5 : Option Go.Addr) (x5_1 : Nat) (x5_2 : Nat) =>
   again1 (((x5, (x5_1, x5_2)), ((IntKind.wrap .i64 ((x1.1.2.1 : Int) + 1)), ())), ())))
  (WCall Tryz.prog Q 233 #[(.slice (x1.1.1.1 : Option Go.Addr) (x1.1.1.2.1 : Nat) (x1.1.1.2.2 : Nat))] (WOpen (.one (.agg [(.i .i64), (.i .i64), .s, .sl])) fun (x6 : Int) (x6_1 : Int) (x6_2 : ByteArray) (x6_3 : Option Go.Addr) (x6_4 : Nat) (x6_5 : Nat) =>
   Q (.returned (.agg #[(.int .i64 x6), (.int .i64 x6_1), (.string x6_2), (.slice x6_3 x6_4 x6_5)]))))

def h172 : Hints := ⟨[], [⟨0, [(3, .sl), (9, .i .i64)], [5, 10, 11, 12, 13, 14, 15, 16, 17, 18], []⟩], [], [1, 2, 5]⟩
theorem tie172 (Q : Ending → W) (a0_0 : Int) (a0_1 : ByteArray) (a0_2 : Int) (a0_3 : Int) (a0_4 : Int) (a0_5a : Option Addr) (a0_5n : Nat) (a0_5c : Nat) : funW Tryz.prog tab Q h172 Tryz.f172 [.v (.agg ⟨[(.int .i64 a0_0), (.string a0_1), (.int .i64 a0_2), (.int .i64 a0_3), (.int .i64 a0_4), (.slice a0_5a a0_5n a0_5c)]⟩)] = W172 Q a0_0 a0_1 a0_2 a0_3 a0_4 a0_5a a0_5n a0_5c := by kernel_rfl

theorem spec172 {Q : Ending → W} {a0_0 : Int} {a0_1 : ByteArray} {a0_2 : Int} {a0_3 : Int} {a0_4 : Int} {a0_5a : Option Addr} {a0_5n : Nat} {a0_5c : Nat} {H : HP} (h : W172 Q a0_0 a0_1 a0_2 a0_3 a0_4 a0_5a a0_5n a0_5c H) : Go.Den.Spec Tryz.prog 172 #[(.agg ⟨[(.int .i64 a0_0), (.string a0_1), (.int .i64 a0_2), (.int .i64 a0_3), (.int .i64 a0_4), (.slice a0_5a a0_5n a0_5c)]⟩)] H Q :=
  specOf (fn := Tryz.f172) (hs := h172) (args := [.v (.agg ⟨[(.int .i64 a0_0), (.string a0_1), (.int .i64 a0_2), (.int .i64 a0_3), (.int .i64 a0_4), (.slice a0_5a a0_5n a0_5c)]⟩)]) (by kernel_rfl) (by kernel_rfl) (by kernel_rfl) rfl (by rw [tie172]; exact h)

/-- (*store.Store).is -/
def W113 (Q : Ending → W) (a0 : Option Addr) : W :=
  WIf (!(Option.isNone a0)) (WNonNil a0 fun q1 =>
   WLoad (Addr.add q1 0) (.l .m) fun (x2 : Option Nat) =>
   Q (.returned (.bool (!(Option.isNone x2)))))
  (Q (.returned (.bool false)))

def h113 : Hints := ⟨[], [], [], []⟩
theorem tie113 (Q : Ending → W) (a0 : Option Addr) : funW Tryz.prog tab Q h113 Tryz.f113 [.v (.pointer a0)] = W113 Q a0 := by kernel_rfl

theorem spec113 {Q : Ending → W} {a0 : Option Addr} {H : HP} (h : W113 Q a0 H) : Go.Den.Spec Tryz.prog 113 #[(.pointer a0)] H Q :=
  specOf (fn := Tryz.f113) (hs := h113) (args := [.v (.pointer a0)]) (by kernel_rfl) (by kernel_rfl) (by kernel_rfl) rfl (by rw [tie113]; exact h)

/-- (*store.Store).Kind -/
def W112 (Q : Ending → W) (a0 : Option Addr) (a1 : ByteArray) : W :=
  WCall Tryz.prog Q 113 #[(.pointer a0)] (WOpen (.one (.l .b)) fun (x1 : Bool) =>
  WIf (!x1) (Q (.returned (.int .i64 0)))
  (WNonNil a0 fun q2 =>
   WLoad (Addr.add q2 0) (.l .m) fun (x3 : Option Nat) =>
   WPrim Tryz.prog (Instr.lookup 110 (.map x3) (.string a1) false) (WOpen (.one (.l (.i .i64))) fun (x4 : Int) =>
   Q (.returned (.int .i64 x4)))))

def h112 : Hints := ⟨[], [], [], []⟩
theorem tie112 (Q : Ending → W) (a0 : Option Addr) (a1 : ByteArray) : funW Tryz.prog tab Q h112 Tryz.f112 [.v (.pointer a0), .v (.string a1)] = W112 Q a0 a1 := by kernel_rfl

theorem spec112 {Q : Ending → W} {a0 : Option Addr} {a1 : ByteArray} {H : HP} (h : W112 Q a0 a1 H) : Go.Den.Spec Tryz.prog 112 #[(.pointer a0), (.string a1)] H Q :=
  specOf (fn := Tryz.f112) (hs := h112) (args := [.v (.pointer a0), .v (.string a1)]) (by kernel_rfl) (by kernel_rfl) (by kernel_rfl) rfl (by rw [tie112]; exact h)

/-- store.own -/
def W115 (Q : Ending → W) (a0_0 : Int) (a0_1 : Int) (a0_2 : ByteArray) (a0_3a : Option Addr) (a0_3n : Nat) (a0_3c : Nat) : W :=
  WCall Tryz.prog Q 193 #[(.slice a0_3a a0_3n a0_3c)] (WOpen (.one (.l .sl)) fun (x1 : Option Go.Addr) (x1_1 : Nat) (x1_2 : Nat) =>
  Q (.returned (.agg #[(.int .i64 a0_0), (.int .i64 a0_1), (.string a0_2), (.slice x1 x1_1 x1_2)])))

def h115 : Hints := ⟨[], [], [], [1, 2]⟩
theorem tie115 (Q : Ending → W) (a0_0 : Int) (a0_1 : Int) (a0_2 : ByteArray) (a0_3a : Option Addr) (a0_3n : Nat) (a0_3c : Nat) : funW Tryz.prog tab Q h115 Tryz.f115 [.v (.agg ⟨[(.int .i64 a0_0), (.int .i64 a0_1), (.string a0_2), (.slice a0_3a a0_3n a0_3c)]⟩)] = W115 Q a0_0 a0_1 a0_2 a0_3a a0_3n a0_3c := by kernel_rfl

theorem spec115 {Q : Ending → W} {a0_0 : Int} {a0_1 : Int} {a0_2 : ByteArray} {a0_3a : Option Addr} {a0_3n : Nat} {a0_3c : Nat} {H : HP} (h : W115 Q a0_0 a0_1 a0_2 a0_3a a0_3n a0_3c H) : Go.Den.Spec Tryz.prog 115 #[(.agg ⟨[(.int .i64 a0_0), (.int .i64 a0_1), (.string a0_2), (.slice a0_3a a0_3n a0_3c)]⟩)] H Q :=
  specOf (fn := Tryz.f115) (hs := h115) (args := [.v (.agg ⟨[(.int .i64 a0_0), (.int .i64 a0_1), (.string a0_2), (.slice a0_3a a0_3n a0_3c)]⟩)]) (by kernel_rfl) (by kernel_rfl) (by kernel_rfl) rfl (by rw [tie115]; exact h)

/-- value.Zero -/
def W122 (Q : Ending → W) (a0 : Int) : W :=
  WIf ((decide (a0 < 1)) || (decide (a0 > 4))) (Q (.returned (.agg #[(.int .i64 0), (.int .i64 0), (.string (ByteArray.mk #[])), (.slice none 0 0)])))
  (Q (.returned (.agg #[(.int .i64 a0), (.int .i64 0), (.string (ByteArray.mk #[])), (.slice none 0 0)])))

def h122 : Hints := ⟨[], [], [], [2]⟩
theorem tie122 (Q : Ending → W) (a0 : Int) : funW Tryz.prog tab Q h122 Tryz.f122 [.v (.int .i64 a0)] = W122 Q a0 := by kernel_rfl

theorem spec122 {Q : Ending → W} {a0 : Int} {H : HP} (h : W122 Q a0 H) : Go.Den.Spec Tryz.prog 122 #[(.int .i64 a0)] H Q :=
  specOf (fn := Tryz.f122) (hs := h122) (args := [.v (.int .i64 a0)]) (by kernel_rfl) (by kernel_rfl) (by kernel_rfl) rfl (by rw [tie122]; exact h)

/-- (*store.Store).Get -/
def W59 (Q : Ending → W) (a0 : Option Addr) (a1 : ByteArray) (a2 : ByteArray) : W :=
  WCall Tryz.prog Q 112 #[(.pointer a0), (.string a2)] (WOpen (.one (.l (.i .i64))) fun (x1 : Int) =>
  WIf (x1 == 0) (Q (.returned (.tuple #[(.agg #[(.int .i64 0), (.int .i64 0), (.string (ByteArray.mk #[])), (.slice none 0 0)]), (.bool false)])))
  (WNonNil a0 fun q2 =>
   WLoad (Addr.add q2 1) (.l .m) fun (x3 : Option Nat) =>
   WPrim Tryz.prog (Instr.lookup 111 (.map x3) (.agg #[(.string a1), (.string a2)]) true) (WOpen (.tup [(.agg [(.i .i64), (.i .i64), .s, .sl]), (.l .b)]) fun (x4 : Int) (x4_1 : Int) (x4_2 : ByteArray) (x4_3 : Option Go.Addr) (x4_4 : Nat) (x4_5 : Nat) (x4_6 : Bool) =>
   WIf x4_6 (WCall Tryz.prog Q 115 #[(.agg #[(.int .i64 x4), (.int .i64 x4_1), (.string x4_2), (.slice x4_3 x4_4 x4_5)])] (WOpen (.one (.agg [(.i .i64), (.i .i64), .s, .sl])) fun (x5 : Int) (x5_1 : Int) (x5_2 : ByteArray) (x5_3 : Option Go.Addr) (x5_4 : Nat) (x5_5 : Nat) =>
    Q (.returned (.tuple #[(.agg #[(.int .i64 x5), (.int .i64 x5_1), (.string x5_2), (.slice x5_3 x5_4 x5_5)]), (.bool true)]))))
   (WCall Tryz.prog Q 122 #[(.int .i64 x1)] (WOpen (.one (.agg [(.i .i64), (.i .i64), .s, .sl])) fun (x6 : Int) (x6_1 : Int) (x6_2 : ByteArray) (x6_3 : Option Go.Addr) (x6_4 : Nat) (x6_5 : Nat) =>
    Q (.returned (.tuple #[(.agg #[(.int .i64 x6), (.int .i64 x6_1), (.string x6_2), (.slice x6_3 x6_4 x6_5)]), (.bool true)])))))))

def h59 : Hints := ⟨[], [], [], [6, 9]⟩
theorem tie59 (Q : Ending → W) (a0 : Option Addr) (a1 : ByteArray) (a2 : ByteArray) : funW Tryz.prog tab Q h59 Tryz.f59 [.v (.pointer a0), .v (.string a1), .v (.string a2)] = W59 Q a0 a1 a2 := by kernel_rfl

theorem spec59 {Q : Ending → W} {a0 : Option Addr} {a1 : ByteArray} {a2 : ByteArray} {H : HP} (h : W59 Q a0 a1 a2 H) : Go.Den.Spec Tryz.prog 59 #[(.pointer a0), (.string a1), (.string a2)] H Q :=
  specOf (fn := Tryz.f59) (hs := h59) (args := [.v (.pointer a0), .v (.string a1), .v (.string a2)]) (by kernel_rfl) (by kernel_rfl) (by kernel_rfl) rfl (by rw [tie59]; exact h)

/-- (monitor.eye).attribute -/
def W173 (Q : Ending → W) (a0_0 : Option Addr) (a0_1 : Int) (a0_2 : ByteArray) (a0_3 : ByteArray) (a0_4 : ByteArray) (a1_0 : Int) (a1_1 : ByteArray) (a1_2 : Int) (a1_3 : Int) (a1_4 : Int) (a1_5a : Option Addr) (a1_5n : Nat) (a1_5c : Nat) : W :=
  WIf (a1_0 == 5) (WCall Tryz.prog Q 59 #[(.pointer a0_0), (.string a0_3), (.string a1_1)] (WOpen (.tup [(.agg [(.i .i64), (.i .i64), .s, .sl]), (.l .b)]) fun (x1 : Int) (x1_1 : Int) (x1_2 : ByteArray) (x1_3 : Option Go.Addr) (x1_4 : Nat) (x1_5 : Nat) (x1_6 : Bool) =>
   WCall Tryz.prog Q 159 #[(.bool x1_6), (.int .i64 14)] (WOpen (.tup []) <|
   Q (.returned (.agg #[(.int .i64 x1), (.int .i64 x1_1), (.string x1_2), (.slice x1_3 x1_4 x1_5)])))))
  (WCall Tryz.prog Q 59 #[(.pointer a0_0), (.string a0_4), (.string a1_1)] (WOpen (.tup [(.agg [(.i .i64), (.i .i64), .s, .sl]), (.l .b)]) fun (x3 : Int) (x3_1 : Int) (x3_2 : ByteArray) (x3_3 : Option Go.Addr) (x3_4 : Nat) (x3_5 : Nat) (x3_6 : Bool) =>
   WCall Tryz.prog Q 159 #[(.bool x3_6), (.int .i64 14)] (WOpen (.tup []) <|
   Q (.returned (.agg #[(.int .i64 x3), (.int .i64 x3_1), (.string x3_2), (.slice x3_3 x3_4 x3_5)])))))

def h173 : Hints := ⟨[], [], [], [2, 3, 4, 6]⟩
theorem tie173 (Q : Ending → W) (a0_0 : Option Addr) (a0_1 : Int) (a0_2 : ByteArray) (a0_3 : ByteArray) (a0_4 : ByteArray) (a1_0 : Int) (a1_1 : ByteArray) (a1_2 : Int) (a1_3 : Int) (a1_4 : Int) (a1_5a : Option Addr) (a1_5n : Nat) (a1_5c : Nat) : funW Tryz.prog tab Q h173 Tryz.f173 [.v (.agg ⟨[(.pointer a0_0), (.int .i64 a0_1), (.string a0_2), (.string a0_3), (.string a0_4)]⟩), .v (.agg ⟨[(.int .i64 a1_0), (.string a1_1), (.int .i64 a1_2), (.int .i64 a1_3), (.int .i64 a1_4), (.slice a1_5a a1_5n a1_5c)]⟩)] = W173 Q a0_0 a0_1 a0_2 a0_3 a0_4 a1_0 a1_1 a1_2 a1_3 a1_4 a1_5a a1_5n a1_5c := by kernel_rfl

theorem spec173 {Q : Ending → W} {a0_0 : Option Addr} {a0_1 : Int} {a0_2 : ByteArray} {a0_3 : ByteArray} {a0_4 : ByteArray} {a1_0 : Int} {a1_1 : ByteArray} {a1_2 : Int} {a1_3 : Int} {a1_4 : Int} {a1_5a : Option Addr} {a1_5n : Nat} {a1_5c : Nat} {H : HP} (h : W173 Q a0_0 a0_1 a0_2 a0_3 a0_4 a1_0 a1_1 a1_2 a1_3 a1_4 a1_5a a1_5n a1_5c H) : Go.Den.Spec Tryz.prog 173 #[(.agg ⟨[(.pointer a0_0), (.int .i64 a0_1), (.string a0_2), (.string a0_3), (.string a0_4)]⟩), (.agg ⟨[(.int .i64 a1_0), (.string a1_1), (.int .i64 a1_2), (.int .i64 a1_3), (.int .i64 a1_4), (.slice a1_5a a1_5n a1_5c)]⟩)] H Q :=
  specOf (fn := Tryz.f173) (hs := h173) (args := [.v (.agg ⟨[(.pointer a0_0), (.int .i64 a0_1), (.string a0_2), (.string a0_3), (.string a0_4)]⟩), .v (.agg ⟨[(.int .i64 a1_0), (.string a1_1), (.int .i64 a1_2), (.int .i64 a1_3), (.int .i64 a1_4), (.slice a1_5a a1_5n a1_5c)]⟩)]) (by kernel_rfl) (by kernel_rfl) (by kernel_rfl) rfl (by rw [tie173]; exact h)

/-- (*deque.Deque).Len -/
def W217 (Q : Ending → W) (a0 : Option Addr) : W :=
  WIf (Option.isNone a0) (Q (.returned (.int .i64 0)))
  (WNonNil a0 fun q1 =>
   WLoad (Addr.add q1 0) (.l .sl) fun (x2 : Option Go.Addr) (x2_1 : Nat) (x2_2 : Nat) =>
   Q (.returned (.int .i64 (x2_1 : Int))))

def h217 : Hints := ⟨[], [], [], []⟩
theorem tie217 (Q : Ending → W) (a0 : Option Addr) : funW Tryz.prog tab Q h217 Tryz.f217 [.v (.pointer a0)] = W217 Q a0 := by kernel_rfl

theorem spec217 {Q : Ending → W} {a0 : Option Addr} {H : HP} (h : W217 Q a0 H) : Go.Den.Spec Tryz.prog 217 #[(.pointer a0)] H Q :=
  specOf (fn := Tryz.f217) (hs := h217) (args := [.v (.pointer a0)]) (by kernel_rfl) (by kernel_rfl) (by kernel_rfl) rfl (by rw [tie217]; exact h)

/-- slices.Delete[[]deque.Cell,deque.Cell] -/
def W266 (Q : Ending → W) (a0a : Option Addr) (a0n : Nat) (a0c : Nat) (a1 : Int) (a2 : Int) : W :=
  WPrim Tryz.prog (Instr.sliceAt 252 (.slice a0a a0n a0c) (some (.int .i64 a1)) (some (.int .i64 a2)) (some (.int .i64 (a0n : Int)))) (WOpen (.one (.l .sl)) fun (x1 : Option Go.Addr) (x1_1 : Nat) (x1_2 : Nat) =>
  WIf (a1 == a2) (Q (.returned (.slice a0a a0n a0c)))
  (WReq (((0 : Int) ≤ 0) ∧ (((0 : Int) ≤ a1) ∧ (a1 ≤ (a0c : Int)))) <|
   WReq (((0 : Int) ≤ a2) ∧ ((a2 ≤ (a0n : Int)) ∧ ((a0n : Int) ≤ (a0c : Int)))) <|
   WPrim Tryz.prog (Builtin.append_ #[252, 252] 252 #[(.slice (if (a0c = 0) then a0a else (Option.map (fun x => (Addr.add x 0)) a0a)) ((Int.toNat a1) - 0) (a0c - 0)), (.slice (if (a0c = (Int.toNat a2)) then a0a else (Option.map (fun x => (Addr.add x ((Int.toNat a2) * 2))) a0a)) ((Int.toNat (a0n : Int)) - (Int.toNat a2)) (a0c - (Int.toNat a2)))]) (WOpen (.one (.l .sl)) fun (x2 : Option Go.Addr) (x2_1 : Nat) (x2_2 : Nat) =>
   WReq (((0 : Int) ≤ (x2_1 : Int)) ∧ (((x2_1 : Int) ≤ (a0n : Int)) ∧ ((a0n : Int) ≤ (x2_2 : Int)))) <|
   WPrim Tryz.prog (Builtin.clear_ #[252] 0 #[(.slice (if (x2_2 = (Int.toNat (x2_1 : Int))) then x2 else (Option.map (fun x => (Addr.add x ((Int.toNat (x2_1 : Int)) * 2))) x2)) ((Int.toNat (a0n : Int)) - (Int.toNat (x2_1 : Int))) (x2_2 - (Int.toNat (x2_1 : Int))))]) (WOpen (.tup []) <|
   Q (.returned (.slice x2 x2_1 x2_2))))))

def h266 : Hints := ⟨[], [], [], []⟩
theorem tie266 (Q : Ending → W) (a0a : Option Addr) (a0n : Nat) (a0c : Nat) (a1 : Int) (a2 : Int) : funW Tryz.prog tab Q h266 Tryz.f266 [.v (.slice a0a a0n a0c), .v (.int .i64 a1), .v (.int .i64 a2)] = W266 Q a0a a0n a0c a1 a2 := by kernel_rfl

theorem spec266 {Q : Ending → W} {a0a : Option Addr} {a0n : Nat} {a0c : Nat} {a1 : Int} {a2 : Int} {H : HP} (h : W266 Q a0a a0n a0c a1 a2 H) : Go.Den.Spec Tryz.prog 266 #[(.slice a0a a0n a0c), (.int .i64 a1), (.int .i64 a2)] H Q :=
  specOf (fn := Tryz.f266) (hs := h266) (args := [.v (.slice a0a a0n a0c), .v (.int .i64 a1), .v (.int .i64 a2)]) (by kernel_rfl) (by kernel_rfl) (by kernel_rfl) rfl (by rw [tie266]; exact h)

/-- (*deque.Deque).Prune -/
def W234 (Q : Ending → W) (a0 : Option Addr) (a1 : Int) : W :=
  WLoop (σ := ((Int × Unit) × Unit)) ((0, ()), ()) fun x1 again1 =>
  WCall Tryz.prog Q 217 #[(.pointer a0)] (WOpen (.one (.l (.i .i64))) fun (x2 : Int) =>
  WIf (decide ((x1.1.1 : Int) < x2)) (WNonNil a0 fun q3 =>
   WLoad (Addr.add q3 0) (.l .sl) fun (x4 : Option Go.Addr) (x4_1 : Nat) (x4_2 : Nat) =>
   WIndex x4 x4_1 (x1.1.1 : Int) fun q5 =>
   WLoad (Addr.add (Addr.add q5 ((Int.toNat (x1.1.1 : Int)) * 2)) 0) (.l (.i .i64)) fun (x6 : Int) =>
   WIf (decide (x6 < a1)) (again1 (((IntKind.wrap .i64 ((x1.1.1 : Int) + 1)), ()), ()))
   (WIf (decide ((x1.1.1 : Int) > 0)) (WNonNil a0 fun q7 =>
     WLoad (Addr.add q7 0) (.l .sl) fun (x8 : Option Go.Addr) (x8_1 : Nat) (x8_2 : Nat) =>
     WCall Tryz.prog Q 266 #[(.slice x8 x8_1 x8_2), (.int .i64 0), (.int .i64 (x1.1.1 : Int))] (WOpen (.one (.l .sl)) fun (x9 : Option Go.Addr) (x9_1 : Nat) (x9_2 : Nat) =>
     WNonNil a0 fun q10 =>
     WStore (Addr.add q10 0) [(.slice x9 x9_1 x9_2)] <|
     Q (.returned (.int .i64 (x1.1.1 : Int)))))
    (Q (.returned (.int .i64 (x1.1.1 : Int))))))
  (WIf (decide ((x1.1.1 : Int) > 0)) (WNonNil a0 fun q11 =>
    WLoad (Addr.add q11 0) (.l .sl) fun (x12 : Option Go.Addr) (x12_1 : Nat) (x12_2 : Nat) =>
    WCall Tryz.prog Q 266 #[(.slice x12 x12_1 x12_2), (.int .i64 0), (.int .i64 (x1.1.1 : Int))] (WOpen (.one (.l .sl)) fun (x13 : Option Go.Addr) (x13_1 : Nat) (x13_2 : Nat) =>
    WNonNil a0 fun q14 =>
    WStore (Addr.add q14 0) [(.slice x13 x13_1 x13_2)] <|
    Q (.returned (.int .i64 (x1.1.1 : Int)))))
   (Q (.returned (.int .i64 (x1.1.1 : Int))))))

def h234 : Hints := ⟨[], [⟨0, [(5, .i .i64)], [6, 7, 8, 9, 10, 11, 12, 13, 14, 15, 16, 17, 18, 19, 20, 21, 22, 23], []⟩], [], []⟩
theorem tie234 (Q : Ending → W) (a0 : Option Addr) (a1 : Int) : funW Tryz.prog tab Q h234 Tryz.f234 [.v (.pointer a0), .v (.int .i64 a1)] = W234 Q a0 a1 := by kernel_rfl

theorem spec234 {Q : Ending → W} {a0 : Option Addr} {a1 : Int} {H : HP} (h : W234 Q a0 a1 H) : Go.Den.Spec Tryz.prog 234 #[(.pointer a0), (.int .i64 a1)] H Q :=
  specOf (fn := Tryz.f234) (hs := h234) (args := [.v (.pointer a0), .v (.int .i64 a1)]) (by kernel_rfl) (by kernel_rfl) (by kernel_rfl) rfl (by rw [tie234]; exact h)

/-- (*deque.Deque).Last -/
def W267 (Q : Ending → W) (a0 : Option Addr) : W :=
  WCall Tryz.prog Q 217 #[(.pointer a0)] (WOpen (.one (.l (.i .i64))) fun (x1 : Int) =>
  WIf (x1 == 0) (Q (.returned (.tuple #[(.agg #[(.int .i64 0), (.int .i64 0)]), (.bool false)])))
  (WNonNil a0 fun q2 =>
   WLoad (Addr.add q2 0) (.l .sl) fun (x3 : Option Go.Addr) (x3_1 : Nat) (x3_2 : Nat) =>
   WNonNil a0 fun q4 =>
   WLoad (Addr.add q4 0) (.l .sl) fun (x5 : Option Go.Addr) (x5_1 : Nat) (x5_2 : Nat) =>
   WIndex x3 x3_1 (IntKind.wrap .i64 ((x5_1 : Int) - 1)) fun q6 =>
   WLoad (Addr.add q6 ((Int.toNat (IntKind.wrap .i64 ((x5_1 : Int) - 1))) * 2)) (.agg [(.i .i64), (.i .i64)]) fun (x7 : Int) (x7_1 : Int) =>
   Q (.returned (.tuple #[(.agg #[(.int .i64 x7), (.int .i64 x7_1)]), (.bool true)]))))

def h267 : Hints := ⟨[], [], [], [2]⟩
theorem tie267 (Q : Ending → W) (a0 : Option Addr) : funW Tryz.prog tab Q h267 Tryz.f267 [.v (.pointer a0)] = W267 Q a0 := by kernel_rfl

theorem spec267 {Q : Ending → W} {a0 : Option Addr} {H : HP} (h : W267 Q a0 H) : Go.Den.Spec Tryz.prog 267 #[(.pointer a0)] H Q :=
  specOf (fn := Tryz.f267) (hs := h267) (args := [.v (.pointer a0)]) (by kernel_rfl) (by kernel_rfl) (by kernel_rfl) rfl (by rw [tie267]; exact h)

/-- (*deque.Deque).Push -/
def W235 (Q : Ending → W) (a0 : Option Addr) (a1 : Int) : W :=
  WCall Tryz.prog Q 267 #[(.pointer a0)] (WOpen (.tup [(.agg [(.i .i64), (.i .i64)]), (.l .b)]) fun (x1 : Int) (x1_1 : Int) (x1_2 : Bool) =>
  WIf ((Option.isNone a0) || (x1_2 && (decide (a1 < x1)))) (Q (.returned (.bool false)))
  (WIf (x1_2 && (a1 == x1)) (WNonNil a0 fun q2 =>
    WLoad (Addr.add q2 0) (.l .sl) fun (x3 : Option Go.Addr) (x3_1 : Nat) (x3_2 : Nat) =>
    WNonNil a0 fun q4 =>
    WLoad (Addr.add q4 0) (.l .sl) fun (x5 : Option Go.Addr) (x5_1 : Nat) (x5_2 : Nat) =>
    WIndex x3 x3_1 (IntKind.wrap .i64 ((x5_1 : Int) - 1)) fun q6 =>
    WStore (Addr.add (Addr.add q6 ((Int.toNat (IntKind.wrap .i64 ((x5_1 : Int) - 1))) * 2)) 1) [(.int .i64 (if ((32768 : Int) < (IntKind.wrap .i64 (x1_1 + 1))) then 32768 else (IntKind.wrap .i64 (x1_1 + 1))))] <|
    Q (.returned (.bool true)))
   (WNonNil a0 fun q7 =>
    WLoad (Addr.add q7 0) (.l .sl) fun (x8 : Option Go.Addr) (x8_1 : Nat) (x8_2 : Nat) =>
    WNew [(.int .i64 a1), (.int .i64 1)] 292 fun z9 =>
    WPrim Tryz.prog (Builtin.append_ #[252, 252] 252 #[(.slice x8 x8_1 x8_2), (.slice (some ⟨z9, 0, none⟩) 1 1)]) (WOpen (.one (.l .sl)) fun (x10 : Option Go.Addr) (x10_1 : Nat) (x10_2 : Nat) =>
    WNonNil a0 fun q11 =>
    WStore (Addr.add q11 0) [(.slice x10 x10_1 x10_2)] <|
    Q (.returned (.bool true))))))

def h235 : Hints := ⟨[], [], [], [5]⟩
theorem tie235 (Q : Ending → W) (a0 : Option Addr) (a1 : Int) : funW Tryz.prog tab Q h235 Tryz.f235 [.v (.pointer a0), .v (.int .i64 a1)] = W235 Q a0 a1 := by kernel_rfl

theorem spec235 {Q : Ending → W} {a0 : Option Addr} {a1 : Int} {H : HP} (h : W235 Q a0 a1 H) : Go.Den.Spec Tryz.prog 235 #[(.pointer a0), (.int .i64 a1)] H Q :=
  specOf (fn := Tryz.f235) (hs := h235) (args := [.v (.pointer a0), .v (.int .i64 a1)]) (by kernel_rfl) (by kernel_rfl) (by kernel_rfl) rfl (by rw [tie235]; exact h)

/-- slices.Clone[[]deque.Cell,deque.Cell] -/
def W279 (Q : Ending → W) (a0a : Option Addr) (a0n : Nat) (a0c : Nat) : W :=
  WIf (Option.isNone a0a) (Q (.returned (.slice none 0 0)))
  (WNew [] 292 fun z1 =>
   WPrim Tryz.prog (Builtin.append_ #[252, 252] 252 #[(.slice (some ⟨z1, 0, none⟩) 0 0), (.slice a0a a0n a0c)]) (WOpen (.one (.l .sl)) fun (x2 : Option Go.Addr) (x2_1 : Nat) (x2_2 : Nat) =>
   Q (.returned (.slice x2 x2_1 x2_2))))

def h279 : Hints := ⟨[], [], [], []⟩
theorem tie279 (Q : Ending → W) (a0a : Option Addr) (a0n : Nat) (a0c : Nat) : funW Tryz.prog tab Q h279 Tryz.f279 [.v (.slice a0a a0n a0c)] = W279 Q a0a a0n a0c := by kernel_rfl

theorem spec279 {Q : Ending → W} {a0a : Option Addr} {a0n : Nat} {a0c : Nat} {H : HP} (h : W279 Q a0a a0n a0c H) : Go.Den.Spec Tryz.prog 279 #[(.slice a0a a0n a0c)] H Q :=
  specOf (fn := Tryz.f279) (hs := h279) (args := [.v (.slice a0a a0n a0c)]) (by kernel_rfl) (by kernel_rfl) (by kernel_rfl) rfl (by rw [tie279]; exact h)

/-- (*deque.Deque).All -/
def W256 (Q : Ending → W) (a0 : Option Addr) : W :=
  WIf (Option.isNone a0) (Q (.returned (.slice none 0 0)))
  (WNonNil a0 fun q1 =>
   WLoad (Addr.add q1 0) (.l .sl) fun (x2 : Option Go.Addr) (x2_1 : Nat) (x2_2 : Nat) =>
   WCall Tryz.prog Q 279 #[(.slice x2 x2_1 x2_2)] (WOpen (.one (.l .sl)) fun (x3 : Option Go.Addr) (x3_1 : Nat) (x3_2 : Nat) =>
   Q (.returned (.slice x3 x3_1 x3_2))))

def h256 : Hints := ⟨[], [], [], []⟩
theorem tie256 (Q : Ending → W) (a0 : Option Addr) : funW Tryz.prog tab Q h256 Tryz.f256 [.v (.pointer a0)] = W256 Q a0 := by kernel_rfl

theorem spec256 {Q : Ending → W} {a0 : Option Addr} {H : HP} (h : W256 Q a0 H) : Go.Den.Spec Tryz.prog 256 #[(.pointer a0)] H Q :=
  specOf (fn := Tryz.f256) (hs := h256) (args := [.v (.pointer a0)]) (by kernel_rfl) (by kernel_rfl) (by kernel_rfl) rfl (by rw [tie256]; exact h)

/-- (*deque.Deque).Sum -/
def W236 (Q : Ending → W) (a0 : Option Addr) : W :=
  WCall Tryz.prog Q 256 #[(.pointer a0)] (WOpen (.one (.l .sl)) fun (x1 : Option Go.Addr) (x1_1 : Nat) (x1_2 : Nat) =>
  WLoop (σ := ((Int × (Int × Unit)) × Unit)) ((0, (0, ())), ()) fun x2 again2 =>
  WIf (decide ((x2.1.2.1 : Int) < (x1_1 : Int))) (WIndex x1 x1_1 (x2.1.2.1 : Int) fun q3 =>
   WLoad (Addr.add q3 ((Int.toNat (x2.1.2.1 : Int)) * 2)) (.agg [(.i .i64), (.i .i64)]) fun (x4 : Int) (x4_1 : Int) =>
   again2 (((IntKind.wrap .i64 ((x2.1.1 : Int) + x4_1)), ((IntKind.wrap .i64 ((x2.1.2.1 : Int) + 1)), ())), ()))
  (Q (.returned (.int .i64 (x2.1.1 : Int)))))

def h236 : Hints := ⟨[], [⟨0, [(3, .i .i64), (9, .i .i64)], [5, 10, 11, 12, 13, 14, 15, 16, 17], []⟩], [], [5]⟩
theorem tie236 (Q : Ending → W) (a0 : Option Addr) : funW Tryz.prog tab Q h236 Tryz.f236 [.v (.pointer a0)] = W236 Q a0 := by kernel_rfl

theorem spec236 {Q : Ending → W} {a0 : Option Addr} {H : HP} (h : W236 Q a0 H) : Go.Den.Spec Tryz.prog 236 #[(.pointer a0)] H Q :=
  specOf (fn := Tryz.f236) (hs := h236) (args := [.v (.pointer a0)]) (by kernel_rfl) (by kernel_rfl) (by kernel_rfl) rfl (by rw [tie236]; exact h)

/-- (*tally.Tally).Step -/
def W174 (Q : Ending → W) (a0 : Option Addr) (a1 : Int) (a2 : Bool) : W :=
  WIf (Option.isNone a0) (Q (.returned (.int .i64 0)))
  (WNonNil a0 fun q1 =>
   WLoad (Addr.add q1 0) (.l .b) fun (x2 : Bool) =>
   WIf (!x2) (Q (.returned (.int .i64 0)))
   (WNonNil a0 fun q3 =>
    WLoad (Addr.add q3 2) (.l (.i .i64)) fun (x4 : Int) =>
    WNonNil a0 fun q5 =>
    WStore (Addr.add q5 2) [(.int .i64 (if (x4 < a1) then a1 else x4))] <|
    WNonNil a0 fun q6 =>
    WNonNil a0 fun q7 =>
    WLoad (Addr.add q7 2) (.l (.i .i64)) fun (x8 : Int) =>
    WNonNil a0 fun q9 =>
    WLoad (Addr.add q9 1) (.l (.i .i64)) fun (x10 : Int) =>
    WCall Tryz.prog Q 234 #[(.pointer (some (Addr.add q6 3))), (.int .i64 (IntKind.wrap .i64 (x8 - x10)))] (WOpen (.one (.l (.i .i64))) fun (x11 : Int) =>
    WIf a2 (WNonNil a0 fun q12 =>
     WNonNil a0 fun q13 =>
     WLoad (Addr.add q13 2) (.l (.i .i64)) fun (x14 : Int) =>
     WCall Tryz.prog Q 235 #[(.pointer (some (Addr.add q12 3))), (.int .i64 x14)] (WOpen (.one (.l .b)) fun (x15 : Bool) =>
     WNonNil a0 fun q16 =>
     WCall Tryz.prog Q 236 #[(.pointer (some (Addr.add q16 3)))] (WOpen (.one (.l (.i .i64))) fun (x17 : Int) =>
     Q (.returned (.int .i64 x17)))))
    (WNonNil a0 fun q18 =>
     WCall Tryz.prog Q 236 #[(.pointer (some (Addr.add q18 3)))] (WOpen (.one (.l (.i .i64))) fun (x19 : Int) =>
     Q (.returned (.int .i64 x19)))))))

def h174 : Hints := ⟨[], [], [], []⟩
theorem tie174 (Q : Ending → W) (a0 : Option Addr) (a1 : Int) (a2 : Bool) : funW Tryz.prog tab Q h174 Tryz.f174 [.v (.pointer a0), .v (.int .i64 a1), .v (.bool a2)] = W174 Q a0 a1 a2 := by kernel_rfl

theorem spec174 {Q : Ending → W} {a0 : Option Addr} {a1 : Int} {a2 : Bool} {H : HP} (h : W174 Q a0 a1 a2 H) : Go.Den.Spec Tryz.prog 174 #[(.pointer a0), (.int .i64 a1), (.bool a2)] H Q :=
  specOf (fn := Tryz.f174) (hs := h174) (args := [.v (.pointer a0), .v (.int .i64 a1), .v (.bool a2)]) (by kernel_rfl) (by kernel_rfl) (by kernel_rfl) rfl (by rw [tie174]; exact h)

end Go.Proofs.YtmidcnfnmnhifaaGreat
