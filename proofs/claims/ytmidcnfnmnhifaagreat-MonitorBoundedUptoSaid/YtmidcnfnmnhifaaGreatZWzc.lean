/-
  Preconditions of functions, as the generator wrote them.
-/
import Derived.Test.YtmidcnfnmnhifaaGreatZTie
namespace Go.Proofs.YtmidcnfnmnhifaaGreat
set_option linter.unusedSectionVars false
set_option linter.unusedSimpArgs false
set_option linter.unusedVariables false
open Go Go.Den
set_option linter.unusedVariables false

/-- (*monitor.node).clone -/
def W97 (Q : Ending → W) (a0 : Option Addr) : W :=
  WNonNil a0 fun q1 =>
  WLoad q1 (.agg [(.i .i64), .s, (.i .i64), (.i .i64), (.i .i64), .sl, .sl, .p, .p, .p, .b]) fun (x2 : Int) (x2_1 : ByteArray) (x2_2 : Int) (x2_3 : Int) (x2_4 : Int) (x2_5 : Option Go.Addr) (x2_6 : Nat) (x2_7 : Nat) (x2_8 : Option Go.Addr) (x2_9 : Nat) (x2_10 : Nat) (x2_11 : Option Go.Addr) (x2_12 : Option Go.Addr) (x2_13 : Option Go.Addr) (x2_14 : Bool) =>
  WNew [(.int .i64 0), (.string (ByteArray.mk #[])), (.int .i64 0), (.int .i64 0), (.int .i64 0), (.slice none 0 0), (.slice none 0 0), (.pointer none), (.pointer none), (.pointer none), (.bool false)] 165 fun z3 =>
  WStore ⟨z3, 0, none⟩ [(.int .i64 x2), (.string x2_1), (.int .i64 x2_2), (.int .i64 x2_3), (.int .i64 x2_4), (.slice x2_5 x2_6 x2_7), (.slice x2_8 x2_9 x2_10), (.pointer x2_11), (.pointer x2_12), (.pointer x2_13), (.bool x2_14)] <|
  WStore (Addr.add ⟨z3, 0, none⟩ 6) [(.slice none 0 0)] <|
  WNonNil a0 fun q4 =>
  WLoad (Addr.add q4 6) (.l .sl) fun (x5 : Option Go.Addr) (x5_1 : Nat) (x5_2 : Nat) =>
  WLoop (σ := ((Int × Unit) × Unit)) ((0, ()), ()) fun x6 again6 =>
  WIf (decide ((x6.1.1 : Int) < (x5_1 : Int))) (WIndex x5 x5_1 (x6.1.1 : Int) fun q7 =>
   WLoad (Addr.add q7 ((Int.toNat (x6.1.1 : Int)) * 1)) (.l .p) fun (x8 : Option Go.Addr) =>
   WLoad (Addr.add ⟨z3, 0, none⟩ 6) (.l .sl) fun (x9 : Option Go.Addr) (x9_1 : Nat) (x9_2 : Nat) =>
   WCall Tryz.prog Q 97 #[(.pointer x8)] (WOpen (.one (.l .p)) fun (x10 : Option Go.Addr) =>
   WHeld [((Addr.add ⟨z3, 0, none⟩ 6), [(.slice x9 x9_1 x9_2)])] <|
   WNew [(.pointer x10)] 64 fun z11 =>
   WHeld [((Addr.add ⟨z3, 0, none⟩ 6), [(.slice x9 x9_1 x9_2)])] <|
   WPrim Tryz.prog (Builtin.append_ #[160, 160] 160 #[(.slice x9 x9_1 x9_2), (.slice (some ⟨z11, 0, none⟩) 1 1)]) (WOpen (.one (.l .sl)) fun (x12 : Option Go.Addr) (x12_1 : Nat) (x12_2 : Nat) =>
   WStore (Addr.add ⟨z3, 0, none⟩ 6) [(.slice x12 x12_1 x12_2)] <|
   again6 (((IntKind.wrap .i64 ((x6.1.1 : Int) + 1)), ()), ()))))
  (WNonNil a0 fun q13 =>
   WLoad (Addr.add q13 7) (.l .p) fun (x14 : Option Go.Addr) =>
   WNonNil a0 fun q15 =>
   WLoad (Addr.add q15 8) (.l .p) fun (x16 : Option Go.Addr) =>
   WNonNil a0 fun q17 =>
   WLoad (Addr.add q17 9) (.l .p) fun (x18 : Option Go.Addr) =>
   WCall Tryz.prog Q 156 #[(.pointer x14)] (WOpen (.one (.l .p)) fun (x19 : Option Go.Addr) =>
   WHeld [((Addr.add q17 9), [(.pointer x18)]), ((Addr.add q15 8), [(.pointer x16)])] <|
   WCall Tryz.prog Q 157 #[(.pointer x16)] (WOpen (.one (.l .p)) fun (x20 : Option Go.Addr) =>
   WHeld [((Addr.add q17 9), [(.pointer x18)])] <|
   WCall Tryz.prog Q 158 #[(.pointer x18)] (WOpen (.one (.l .p)) fun (x21 : Option Go.Addr) =>
   WStore (Addr.add ⟨z3, 0, none⟩ 7) [(.pointer x19)] <|
   WStore (Addr.add ⟨z3, 0, none⟩ 8) [(.pointer x20)] <|
   WStore (Addr.add ⟨z3, 0, none⟩ 9) [(.pointer x21)] <|
   Q (.returned (.pointer (some ⟨z3, 0, none⟩)))))))

def h97 : Hints := ⟨[3], [⟨0, [(15, .i .i64)], [5, 16, 17, 18, 19, 20, 21, 22, 23, 24, 25, 26], []⟩], [], []⟩
theorem tie97 (Q : Ending → W) (a0 : Option Addr) : funW Tryz.prog tab Q h97 Tryz.f97 [.v (.pointer a0)] = W97 Q a0 := by kernel_rfl

theorem spec97 {Q : Ending → W} {a0 : Option Addr} {H : HP} (h : W97 Q a0 H) : Go.Den.Spec Tryz.prog 97 #[(.pointer a0)] H Q :=
  specOf (fn := Tryz.f97) (hs := h97) (args := [.v (.pointer a0)]) (by kernel_rfl) (by kernel_rfl) (by kernel_rfl) rfl (by rw [tie97]; exact h)

/-- (*monitor.Monitor).Clone -/
def W36 (Q : Ending → W) (a0 : Option Addr) : W :=
  WCall Tryz.prog Q 89 #[(.pointer a0)] (WOpen (.one (.l .b)) fun (x1 : Bool) =>
  WIf (!x1) (Q (.returned (.pointer none)))
  (WNonNil a0 fun q2 =>
   WLoad (Addr.add q2 0) (.l .p) fun (x3 : Option Go.Addr) =>
   WNonNil a0 fun q4 =>
   WLoad (Addr.add q4 1) (.l (.i .i64)) fun (x5 : Int) =>
   WCall Tryz.prog Q 97 #[(.pointer x3)] (WOpen (.one (.l .p)) fun (x6 : Option Go.Addr) =>
   WHeld [((Addr.add q4 1), [(.int .i64 x5)])] <|
   WNew [(.pointer x6), (.int .i64 x5)] 66 fun z7 =>
   Q (.returned (.pointer (some ⟨z7, 0, none⟩))))))

def h36 : Hints := ⟨[16], [], [], []⟩
theorem tie36 (Q : Ending → W) (a0 : Option Addr) : funW Tryz.prog tab Q h36 Tryz.f36 [.v (.pointer a0)] = W36 Q a0 := by kernel_rfl

theorem spec36 {Q : Ending → W} {a0 : Option Addr} {H : HP} (h : W36 Q a0 H) : Go.Den.Spec Tryz.prog 36 #[(.pointer a0)] H Q :=
  specOf (fn := Tryz.f36) (hs := h36) (args := [.v (.pointer a0)]) (by kernel_rfl) (by kernel_rfl) (by kernel_rfl) rfl (by rw [tie36]; exact h)

/-- beadlelaw18.MonitorClones -/
def W5 (Q : Ending → W) (a0_0 : Int) (a0_1 : ByteArray) (a0_2 : Int) (a0_3 : Int) (a0_4 : Int) (a0_5a : Option Addr) (a0_5n : Nat) (a0_5c : Nat) (a1a : Option Addr) (a1n : Nat) (a1c : Nat) (a2a : Option Addr) (a2n : Nat) (a2c : Nat) (a3a : Option Addr) (a3n : Nat) (a3c : Nat) (a4a : Option Addr) (a4n : Nat) (a4c : Nat) : W :=
  WCall Tryz.prog Q 21 #[] (WOpen (.one (.l .b)) fun (x1 : Bool) =>
  WIf (!x1) (Q (.returned (.bool false)))
  (WCall Tryz.prog Q 22 #[(.agg #[(.int .i64 a0_0), (.string a0_1), (.int .i64 a0_2), (.int .i64 a0_3), (.int .i64 a0_4), (.slice a0_5a a0_5n a0_5c)])] (WOpen (.one (.l .p)) fun (x2 : Option Go.Addr) =>
   WCall Tryz.prog Q 22 #[(.agg #[(.int .i64 a0_0), (.string a0_1), (.int .i64 a0_2), (.int .i64 a0_3), (.int .i64 a0_4), (.slice a0_5a a0_5n a0_5c)])] (WOpen (.one (.l .p)) fun (x3 : Option Go.Addr) =>
   WCall Tryz.prog Q 23 #[(.slice a1a a1n a1c)] (WOpen (.one (.l .p)) fun (x4 : Option Go.Addr) =>
   WCall Tryz.prog Q 26 #[(.slice a2a a2n a2c), (.int .i64 15)] (WOpen (.one (.l .sl)) fun (x5 : Option Go.Addr) (x5_1 : Nat) (x5_2 : Nat) =>
   WCall Tryz.prog Q 26 #[(.slice a3a a3n a3c), (.int .i64 15)] (WOpen (.one (.l .sl)) fun (x6 : Option Go.Addr) (x6_1 : Nat) (x6_2 : Nat) =>
   WCall Tryz.prog Q 26 #[(.slice a4a a4n a4c), (.int .i64 15)] (WOpen (.one (.l .sl)) fun (x7 : Option Go.Addr) (x7_1 : Nat) (x7_2 : Nat) =>
   WLoop (σ := ((Int × Unit) × Unit)) ((0, ()), ()) fun x8 again8 =>
   WIf (decide ((x8.1.1 : Int) < (x5_1 : Int))) (WIndex x5 x5_1 (x8.1.1 : Int) fun q9 =>
    WLoad (Addr.add q9 ((Int.toNat (x8.1.1 : Int)) * 10)) (.agg [(.i .i64), .s, .s, .s, .s, .s, (.i .i64), (.i .i64), .s, .sl]) fun (x10 : Int) (x10_1 : ByteArray) (x10_2 : ByteArray) (x10_3 : ByteArray) (x10_4 : ByteArray) (x10_5 : ByteArray) (x10_6 : Int) (x10_7 : Int) (x10_8 : ByteArray) (x10_9 : Option Go.Addr) (x10_10 : Nat) (x10_11 : Nat) =>
    WCall Tryz.prog Q 28 #[(.agg #[(.int .i64 x10), (.string x10_1), (.string x10_2), (.string x10_3), (.string x10_4), (.string x10_5), (.int .i64 x10_6), (.int .i64 x10_7), (.string x10_8), (.slice x10_9 x10_10 x10_11)])] (WOpen (.one (.agg [(.i .i64), .s, .s, .s])) fun (x11 : Int) (x11_1 : ByteArray) (x11_2 : ByteArray) (x11_3 : ByteArray) =>
    WCall Tryz.prog Q 27 #[(.pointer x2), (.pointer x4), (.agg #[(.int .i64 x11), (.string x11_1), (.string x11_2), (.string x11_3)])] (WOpen (.tup [(.agg [(.i .i64), (.i .i64), .s, .sl]), (.l (.i .i64))]) fun (x12 : Int) (x12_1 : Int) (x12_2 : ByteArray) (x12_3 : Option Go.Addr) (x12_4 : Nat) (x12_5 : Nat) (x12_6 : Int) =>
    WIndex x5 x5_1 (x8.1.1 : Int) fun q13 =>
    WLoad (Addr.add q13 ((Int.toNat (x8.1.1 : Int)) * 10)) (.agg [(.i .i64), .s, .s, .s, .s, .s, (.i .i64), (.i .i64), .s, .sl]) fun (x14 : Int) (x14_1 : ByteArray) (x14_2 : ByteArray) (x14_3 : ByteArray) (x14_4 : ByteArray) (x14_5 : ByteArray) (x14_6 : Int) (x14_7 : Int) (x14_8 : ByteArray) (x14_9 : Option Go.Addr) (x14_10 : Nat) (x14_11 : Nat) =>
    WCall Tryz.prog Q 28 #[(.agg #[(.int .i64 x14), (.string x14_1), (.string x14_2), (.string x14_3), (.string x14_4), (.string x14_5), (.int .i64 x14_6), (.int .i64 x14_7), (.string x14_8), (.slice x14_9 x14_10 x14_11)])] (WOpen (.one (.agg [(.i .i64), .s, .s, .s])) fun (x15 : Int) (x15_1 : ByteArray) (x15_2 : ByteArray) (x15_3 : ByteArray) =>
    WCall Tryz.prog Q 27 #[(.pointer x3), (.pointer x4), (.agg #[(.int .i64 x15), (.string x15_1), (.string x15_2), (.string x15_3)])] (WOpen (.tup [(.agg [(.i .i64), (.i .i64), .s, .sl]), (.l (.i .i64))]) fun (x16 : Int) (x16_1 : Int) (x16_2 : ByteArray) (x16_3 : Option Go.Addr) (x16_4 : Nat) (x16_5 : Nat) (x16_6 : Int) =>
    WIf (x12_6 != x16_6) (Q (.returned (.bool false)))
    (WIf (x12_6 != 0) (Q (.returned (.bool true)))
     (again8 (((IntKind.wrap .i64 ((x8.1.1 : Int) + 1)), ()), ()))))))))
   (WCall Tryz.prog Q 36 #[(.pointer x2)] (WOpen (.one (.l .p)) fun (x17 : Option Go.Addr) =>
    WLoop (σ := ((Int × Unit) × Unit)) ((0, ()), ()) fun x18 again18 =>
    WIf (decide ((x18.1.1 : Int) < (x6_1 : Int))) (WIndex x6 x6_1 (x18.1.1 : Int) fun q19 =>
     WLoad (Addr.add q19 ((Int.toNat (x18.1.1 : Int)) * 10)) (.agg [(.i .i64), .s, .s, .s, .s, .s, (.i .i64), (.i .i64), .s, .sl]) fun (x20 : Int) (x20_1 : ByteArray) (x20_2 : ByteArray) (x20_3 : ByteArray) (x20_4 : ByteArray) (x20_5 : ByteArray) (x20_6 : Int) (x20_7 : Int) (x20_8 : ByteArray) (x20_9 : Option Go.Addr) (x20_10 : Nat) (x20_11 : Nat) =>
     WCall Tryz.prog Q 28 #[(.agg #[(.int .i64 x20), (.string x20_1), (.string x20_2), (.string x20_3), (.string x20_4), (.string x20_5), (.int .i64 x20_6), (.int .i64 x20_7), (.string x20_8), (.slice x20_9 x20_10 x20_11)])] (WOpen (.one (.agg [(.i .i64), .s, .s, .s])) fun (x21 : Int) (x21_1 : ByteArray) (x21_2 : ByteArray) (x21_3 : ByteArray) =>
     WCall Tryz.prog Q 27 #[(.pointer x2), (.pointer x4), (.agg #[(.int .i64 x21), (.string x21_1), (.string x21_2), (.string x21_3)])] (WOpen (.tup [(.agg [(.i .i64), (.i .i64), .s, .sl]), (.l (.i .i64))]) fun (x22 : Int) (x22_1 : Int) (x22_2 : ByteArray) (x22_3 : Option Go.Addr) (x22_4 : Nat) (x22_5 : Nat) (x22_6 : Int) =>
     again18 (((IntKind.wrap .i64 ((x18.1.1 : Int) + 1)), ()), ()))))
    (WLoop (σ := ((Int × Unit) × Unit)) ((0, ()), ()) fun x23 again23 =>
     WIf (decide ((x23.1.1 : Int) < (x7_1 : Int))) (WIndex x7 x7_1 (x23.1.1 : Int) fun q24 =>
      WLoad (Addr.add q24 ((Int.toNat (x23.1.1 : Int)) * 10)) (.agg [(.i .i64), .s, .s, .s, .s, .s, (.i .i64), (.i .i64), .s, .sl]) fun (x25 : Int) (x25_1 : ByteArray) (x25_2 : ByteArray) (x25_3 : ByteArray) (x25_4 : ByteArray) (x25_5 : ByteArray) (x25_6 : Int) (x25_7 : Int) (x25_8 : ByteArray) (x25_9 : Option Go.Addr) (x25_10 : Nat) (x25_11 : Nat) =>
      WCall Tryz.prog Q 28 #[(.agg #[(.int .i64 x25), (.string x25_1), (.string x25_2), (.string x25_3), (.string x25_4), (.string x25_5), (.int .i64 x25_6), (.int .i64 x25_7), (.string x25_8), (.slice x25_9 x25_10 x25_11)])] (WOpen (.one (.agg [(.i .i64), .s, .s, .s])) fun (x26 : Int) (x26_1 : ByteArray) (x26_2 : ByteArray) (x26_3 : ByteArray) =>
      WCall Tryz.prog Q 27 #[(.pointer x17), (.pointer x4), (.agg #[(.int .i64 x26), (.string x26_1), (.string x26_2), (.string x26_3)])] (WOpen (.tup [(.agg [(.i .i64), (.i .i64), .s, .sl]), (.l (.i .i64))]) fun (x27 : Int) (x27_1 : Int) (x27_2 : ByteArray) (x27_3 : Option Go.Addr) (x27_4 : Nat) (x27_5 : Nat) (x27_6 : Int) =>
      WIndex x7 x7_1 (x23.1.1 : Int) fun q28 =>
      WLoad (Addr.add q28 ((Int.toNat (x23.1.1 : Int)) * 10)) (.agg [(.i .i64), .s, .s, .s, .s, .s, (.i .i64), (.i .i64), .s, .sl]) fun (x29 : Int) (x29_1 : ByteArray) (x29_2 : ByteArray) (x29_3 : ByteArray) (x29_4 : ByteArray) (x29_5 : ByteArray) (x29_6 : Int) (x29_7 : Int) (x29_8 : ByteArray) (x29_9 : Option Go.Addr) (x29_10 : Nat) (x29_11 : Nat) =>
      WCall Tryz.prog Q 28 #[(.agg #[(.int .i64 x29), (.string x29_1), (.string x29_2), (.string x29_3), (.string x29_4), (.string x29_5), (.int .i64 x29_6), (.int .i64 x29_7), (.string x29_8), (.slice x29_9 x29_10 x29_11)])] (WOpen (.one (.agg [(.i .i64), .s, .s, .s])) fun (x30 : Int) (x30_1 : ByteArray) (x30_2 : ByteArray) (x30_3 : ByteArray) =>
      WCall Tryz.prog Q 27 #[(.pointer x3), (.pointer x4), (.agg #[(.int .i64 x30), (.string x30_1), (.string x30_2), (.string x30_3)])] (WOpen (.tup [(.agg [(.i .i64), (.i .i64), .s, .sl]), (.l (.i .i64))]) fun (x31 : Int) (x31_1 : Int) (x31_2 : ByteArray) (x31_3 : Option Go.Addr) (x31_4 : Nat) (x31_5 : Nat) (x31_6 : Int) =>
      WIf (x27_6 != x31_6) (Q (.returned (.bool false)))
      (WCall Tryz.prog Q 34 #[(.agg #[(.int .i64 x27), (.int .i64 x27_1), (.string x27_2), (.slice x27_3 x27_4 x27_5)]), (.agg #[(.int .i64 x31), (.int .i64 x31_1), (.string x31_2), (.slice x31_3 x31_4 x31_5)])] (WOpen (.one (.l .b)) fun (x32 : Bool) =>
       WIf (!x32) (Q (.returned (.bool false)))
       (WIf (x27_6 == 0) (WCall Tryz.prog Q 29 #[(.pointer x17)] (WOpen (.one (.l (.i .i64))) fun (x33 : Int) =>
         WCall Tryz.prog Q 29 #[(.pointer x3)] (WOpen (.one (.l (.i .i64))) fun (x34 : Int) =>
         WIf (x33 != x34) (Q (.returned (.bool false)))
         (WIf (x27_6 != 0) (Q (.returned (.bool true)))
          (again23 (((IntKind.wrap .i64 ((x23.1.1 : Int) + 1)), ()), ()))))))
        (WIf (x27_6 != 0) (Q (.returned (.bool true)))
         (again23 (((IntKind.wrap .i64 ((x23.1.1 : Int) + 1)), ()), ())))))))))))
     (Q (.returned (.bool true))))))))))))))

def h5 : Hints := ⟨[], [⟨4, [(21, .i .i64)], [10, 22, 23, 24, 25, 89, 90, 91, 92, 93, 94, 95, 96, 97, 98, 99, 100, 101, 102, 103, 104, 105, 106, 107, 108, 109, 110, 111, 112, 113, 114, 115, 116, 117, 118, 119, 120, 121, 122, 123, 124, 125, 126, 127, 128, 129, 130, 131, 132, 133, 134, 135, 136, 137, 138], []⟩, ⟨2, [(20, .i .i64)], [75, 76, 77, 78, 79, 80, 81, 82, 83, 84, 85, 86, 87, 88], []⟩, ⟨0, [(14, .i .i64)], [10, 15, 16, 17, 18, 40, 41, 42, 43, 44, 45, 46, 47, 48, 49, 50, 51, 52, 53, 54, 55, 56, 57, 58, 59, 60, 61, 62, 63, 64, 65, 66, 67, 68, 69, 70, 71, 72], []⟩], [], [5, 15, 17, 22, 24]⟩
theorem tie5 (Q : Ending → W) (a0_0 : Int) (a0_1 : ByteArray) (a0_2 : Int) (a0_3 : Int) (a0_4 : Int) (a0_5a : Option Addr) (a0_5n : Nat) (a0_5c : Nat) (a1a : Option Addr) (a1n : Nat) (a1c : Nat) (a2a : Option Addr) (a2n : Nat) (a2c : Nat) (a3a : Option Addr) (a3n : Nat) (a3c : Nat) (a4a : Option Addr) (a4n : Nat) (a4c : Nat) : funW Tryz.prog tab Q h5 Tryz.f5 [.v (.agg ⟨[(.int .i64 a0_0), (.string a0_1), (.int .i64 a0_2), (.int .i64 a0_3), (.int .i64 a0_4), (.slice a0_5a a0_5n a0_5c)]⟩), .v (.slice a1a a1n a1c), .v (.slice a2a a2n a2c), .v (.slice a3a a3n a3c), .v (.slice a4a a4n a4c)] = W5 Q a0_0 a0_1 a0_2 a0_3 a0_4 a0_5a a0_5n a0_5c a1a a1n a1c a2a a2n a2c a3a a3n a3c a4a a4n a4c := by kernel_rfl

theorem spec5 {Q : Ending → W} {a0_0 : Int} {a0_1 : ByteArray} {a0_2 : Int} {a0_3 : Int} {a0_4 : Int} {a0_5a : Option Addr} {a0_5n : Nat} {a0_5c : Nat} {a1a : Option Addr} {a1n : Nat} {a1c : Nat} {a2a : Option Addr} {a2n : Nat} {a2c : Nat} {a3a : Option Addr} {a3n : Nat} {a3c : Nat} {a4a : Option Addr} {a4n : Nat} {a4c : Nat} {H : HP} (h : W5 Q a0_0 a0_1 a0_2 a0_3 a0_4 a0_5a a0_5n a0_5c a1a a1n a1c a2a a2n a2c a3a a3n a3c a4a a4n a4c H) : Go.Den.Spec Tryz.prog 5 #[(.agg ⟨[(.int .i64 a0_0), (.string a0_1), (.int .i64 a0_2), (.int .i64 a0_3), (.int .i64 a0_4), (.slice a0_5a a0_5n a0_5c)]⟩), (.slice a1a a1n a1c), (.slice a2a a2n a2c), (.slice a3a a3n a3c), (.slice a4a a4n a4c)] H Q :=
  specOf (fn := Tryz.f5) (hs := h5) (args := [.v (.agg ⟨[(.int .i64 a0_0), (.string a0_1), (.int .i64 a0_2), (.int .i64 a0_3), (.int .i64 a0_4), (.slice a0_5a a0_5n a0_5c)]⟩), .v (.slice a1a a1n a1c), .v (.slice a2a a2n a2c), .v (.slice a3a a3n a3c), .v (.slice a4a a4n a4c)]) (by kernel_rfl) (by kernel_rfl) (by kernel_rfl) rfl (by rw [tie5]; exact h)

/-- beadlelaw18.MonitorNobody -/
def W6 (Q : Ending → W) (a0_0 : Int) (a0_1 : ByteArray) (a0_2 : ByteArray) (a0_3 : ByteArray) (a0_4 : ByteArray) (a0_5 : ByteArray) (a0_6 : Int) (a0_7 : Int) (a0_8 : ByteArray) (a0_9a : Option Addr) (a0_9n : Nat) (a0_9c : Nat) : W :=
  WCall Tryz.prog Q 21 #[] (WOpen (.one (.l .b)) fun (x1 : Bool) =>
  WIf (!x1) (Q (.returned (.bool false)))
  (WNew [(.pointer none), (.int .i64 0)] 66 fun z2 =>
   WCall Tryz.prog Q 23 #[(.slice none 0 0)] (WOpen (.one (.l .p)) fun (x3 : Option Go.Addr) =>
   WCall Tryz.prog Q 28 #[(.agg #[(.int .i64 a0_0), (.string a0_1), (.string a0_2), (.string a0_3), (.string a0_4), (.string a0_5), (.int .i64 a0_6), (.int .i64 a0_7), (.string a0_8), (.slice a0_9a a0_9n a0_9c)])] (WOpen (.one (.agg [(.i .i64), .s, .s, .s])) fun (x4 : Int) (x4_1 : ByteArray) (x4_2 : ByteArray) (x4_3 : ByteArray) =>
   WCall Tryz.prog Q 27 #[(.pointer none), (.pointer x3), (.agg #[(.int .i64 x4), (.string x4_1), (.string x4_2), (.string x4_3)])] (WOpen (.tup [(.agg [(.i .i64), (.i .i64), .s, .sl]), (.l (.i .i64))]) fun (x5 : Int) (x5_1 : Int) (x5_2 : ByteArray) (x5_3 : Option Go.Addr) (x5_4 : Nat) (x5_5 : Nat) (x5_6 : Int) =>
   WCall Tryz.prog Q 23 #[(.slice none 0 0)] (WOpen (.one (.l .p)) fun (x6 : Option Go.Addr) =>
   WCall Tryz.prog Q 28 #[(.agg #[(.int .i64 a0_0), (.string a0_1), (.string a0_2), (.string a0_3), (.string a0_4), (.string a0_5), (.int .i64 a0_6), (.int .i64 a0_7), (.string a0_8), (.slice a0_9a a0_9n a0_9c)])] (WOpen (.one (.agg [(.i .i64), .s, .s, .s])) fun (x7 : Int) (x7_1 : ByteArray) (x7_2 : ByteArray) (x7_3 : ByteArray) =>
   WCall Tryz.prog Q 27 #[(.pointer (some ⟨z2, 0, none⟩)), (.pointer x6), (.agg #[(.int .i64 x7), (.string x7_1), (.string x7_2), (.string x7_3)])] (WOpen (.tup [(.agg [(.i .i64), (.i .i64), .s, .sl]), (.l (.i .i64))]) fun (x8 : Int) (x8_1 : Int) (x8_2 : ByteArray) (x8_3 : Option Go.Addr) (x8_4 : Nat) (x8_5 : Nat) (x8_6 : Int) =>
   WIf (x5_6 == 9) (WIf (x8_6 == 9) (WCall Tryz.prog Q 34 #[(.agg #[(.int .i64 x5), (.int .i64 x5_1), (.string x5_2), (.slice x5_3 x5_4 x5_5)]), (.agg #[(.int .i64 x8), (.int .i64 x8_1), (.string x8_2), (.slice x8_3 x8_4 x8_5)])] (WOpen (.one (.l .b)) fun (x9 : Bool) =>
     WIf x9 (WCall Tryz.prog Q 34 #[(.agg #[(.int .i64 x5), (.int .i64 x5_1), (.string x5_2), (.slice x5_3 x5_4 x5_5)]), (.agg #[(.int .i64 0), (.int .i64 0), (.string (ByteArray.mk #[])), (.slice none 0 0)])] (WOpen (.one (.l .b)) fun (x10 : Bool) =>
      WIf x10 (WCall Tryz.prog Q 29 #[(.pointer none)] (WOpen (.one (.l (.i .i64))) fun (x11 : Int) =>
       WIf (x11 == 0) (WCall Tryz.prog Q 29 #[(.pointer (some ⟨z2, 0, none⟩))] (WOpen (.one (.l (.i .i64))) fun (x12 : Int) =>
        WIf (x12 == 0) (WCall Tryz.prog Q 36 #[(.pointer none)] (WOpen (.one (.l .p)) fun (x13 : Option Go.Addr) =>
         WIf (Option.isNone x13) (WCall Tryz.prog Q 36 #[(.pointer (some ⟨z2, 0, none⟩))] (WOpen (.one (.l .p)) fun (x14 : Option Go.Addr) =>
          Q (.returned (.bool (Option.isNone x14)))))
         (Q (.returned (.bool false)))))
        (Q (.returned (.bool false)))))
       (Q (.returned (.bool false)))))
      (Q (.returned (.bool false)))))
     (Q (.returned (.bool false)))))
    (Q (.returned (.bool false))))
   (Q (.returned (.bool false)))))))))))

def h6 : Hints := ⟨[12], [], [], [1, 5, 7]⟩
theorem tie6 (Q : Ending → W) (a0_0 : Int) (a0_1 : ByteArray) (a0_2 : ByteArray) (a0_3 : ByteArray) (a0_4 : ByteArray) (a0_5 : ByteArray) (a0_6 : Int) (a0_7 : Int) (a0_8 : ByteArray) (a0_9a : Option Addr) (a0_9n : Nat) (a0_9c : Nat) : funW Tryz.prog tab Q h6 Tryz.f6 [.v (.agg ⟨[(.int .i64 a0_0), (.string a0_1), (.string a0_2), (.string a0_3), (.string a0_4), (.string a0_5), (.int .i64 a0_6), (.int .i64 a0_7), (.string a0_8), (.slice a0_9a a0_9n a0_9c)]⟩)] = W6 Q a0_0 a0_1 a0_2 a0_3 a0_4 a0_5 a0_6 a0_7 a0_8 a0_9a a0_9n a0_9c := by kernel_rfl

theorem spec6 {Q : Ending → W} {a0_0 : Int} {a0_1 : ByteArray} {a0_2 : ByteArray} {a0_3 : ByteArray} {a0_4 : ByteArray} {a0_5 : ByteArray} {a0_6 : Int} {a0_7 : Int} {a0_8 : ByteArray} {a0_9a : Option Addr} {a0_9n : Nat} {a0_9c : Nat} {H : HP} (h : W6 Q a0_0 a0_1 a0_2 a0_3 a0_4 a0_5 a0_6 a0_7 a0_8 a0_9a a0_9n a0_9c H) : Go.Den.Spec Tryz.prog 6 #[(.agg ⟨[(.int .i64 a0_0), (.string a0_1), (.string a0_2), (.string a0_3), (.string a0_4), (.string a0_5), (.int .i64 a0_6), (.int .i64 a0_7), (.string a0_8), (.slice a0_9a a0_9n a0_9c)]⟩)] H Q :=
  specOf (fn := Tryz.f6) (hs := h6) (args := [.v (.agg ⟨[(.int .i64 a0_0), (.string a0_1), (.string a0_2), (.string a0_3), (.string a0_4), (.string a0_5), (.int .i64 a0_6), (.int .i64 a0_7), (.string a0_8), (.slice a0_9a a0_9n a0_9c)]⟩)]) (by kernel_rfl) (by kernel_rfl) (by kernel_rfl) rfl (by rw [tie6]; exact h)

/-- beadlelaw18.MonitorPlain -/
def W7 (Q : Ending → W) (a0_0 : Int) (a0_1 : ByteArray) (a0_2 : Int) (a0_3 : Int) (a0_4 : Int) (a0_5a : Option Addr) (a0_5n : Nat) (a0_5c : Nat) (a1a : Option Addr) (a1n : Nat) (a1c : Nat) (a2a : Option Addr) (a2n : Nat) (a2c : Nat) (a3_0 : Int) (a3_1 : ByteArray) (a3_2 : ByteArray) (a3_3 : ByteArray) (a3_4 : ByteArray) (a3_5 : ByteArray) (a3_6 : Int) (a3_7 : Int) (a3_8 : ByteArray) (a3_9a : Option Addr) (a3_9n : Nat) (a3_9c : Nat) : W :=
  WCall Tryz.prog Q 21 #[] (WOpen (.one (.l .b)) fun (x1 : Bool) =>
  WIf (!x1) (Q (.returned (.bool false)))
  (WCall Tryz.prog Q 24 #[(.agg #[(.int .i64 a0_0), (.string a0_1), (.int .i64 a0_2), (.int .i64 a0_3), (.int .i64 a0_4), (.slice a0_5a a0_5n a0_5c)])] (WOpen (.one (.l (.i .i64))) fun (x2 : Int) =>
   WIf (x2 != 0) (Q (.returned (.bool true)))
   (WLoop (σ := ((Int × Unit) × Unit)) ((0, ()), ()) fun x3 again3 =>
    WIf (decide ((x3.1.1 : Int) < (a1n : Int))) (WIndex a1a a1n (x3.1.1 : Int) fun q4 =>
     WLoad (Addr.add q4 ((Int.toNat (x3.1.1 : Int)) * 4)) (.agg [(.i .i64), (.i .i64), .s, .sl]) fun (x5 : Int) (x5_1 : Int) (x5_2 : ByteArray) (x5_3 : Option Go.Addr) (x5_4 : Nat) (x5_5 : Nat) =>
     WCall Tryz.prog Q 37 #[(.agg #[(.int .i64 x5), (.int .i64 x5_1), (.string x5_2), (.slice x5_3 x5_4 x5_5)])] (WOpen (.one (.l (.i .i64))) fun (x6 : Int) =>
     WIf (x6 != 0) (Q (.returned (.bool true)))
     (again3 (((IntKind.wrap .i64 ((x3.1.1 : Int) + 1)), ()), ()))))
    (WCall Tryz.prog Q 23 #[(.slice a2a a2n a2c)] (WOpen (.one (.l .p)) fun (x7 : Option Go.Addr) =>
     WCall Tryz.prog Q 31 #[(.pointer x7), (.agg #[(.slice a2a a2n a2c), (.slice none 0 0)]), (.agg #[(.int .i64 a3_0), (.string a3_1), (.string a3_2), (.string a3_3), (.string a3_4), (.string a3_5), (.int .i64 a3_6), (.int .i64 a3_7), (.string a3_8), (.slice a3_9a a3_9n a3_9c)])] (WOpen (.one (.agg [.sl, .sl])) fun (x8 : Option Go.Addr) (x8_1 : Nat) (x8_2 : Nat) (x8_3 : Option Go.Addr) (x8_4 : Nat) (x8_5 : Nat) =>
     WCall Tryz.prog Q 28 #[(.agg #[(.int .i64 a3_0), (.string a3_1), (.string a3_2), (.string a3_3), (.string a3_4), (.string a3_5), (.int .i64 a3_6), (.int .i64 a3_7), (.string a3_8), (.slice a3_9a a3_9n a3_9c)])] (WOpen (.one (.agg [(.i .i64), .s, .s, .s])) fun (x9 : Int) (x9_1 : ByteArray) (x9_2 : ByteArray) (x9_3 : ByteArray) =>
     WCall Tryz.prog Q 38 #[(.agg #[(.int .i64 a0_0), (.string a0_1), (.int .i64 a0_2), (.int .i64 a0_3), (.int .i64 a0_4), (.slice a0_5a a0_5n a0_5c)]), (.slice a1a a1n a1c), (.pointer x7), (.agg #[(.int .i64 x9), (.string x9_1), (.string x9_2), (.string x9_3)])] (WOpen (.tup [(.agg [(.i .i64), (.i .i64), .s, .sl]), (.l (.i .i64))]) fun (x10 : Int) (x10_1 : Int) (x10_2 : ByteArray) (x10_3 : Option Go.Addr) (x10_4 : Nat) (x10_5 : Nat) (x10_6 : Int) =>
     WCall Tryz.prog Q 39 #[(.int .i64 a0_0)] (WOpen (.one (.l .b)) fun (x11 : Bool) =>
     WIf x11 (WIf (x10_6 == 9) (WCall Tryz.prog Q 34 #[(.agg #[(.int .i64 x10), (.int .i64 x10_1), (.string x10_2), (.slice x10_3 x10_4 x10_5)]), (.agg #[(.int .i64 0), (.int .i64 0), (.string (ByteArray.mk #[])), (.slice none 0 0)])] (WOpen (.one (.l .b)) fun (x12 : Bool) =>
       Q (.returned (.bool x12))))
      (Q (.returned (.bool false))))
     (WCall Tryz.prog Q 40 #[(.int .i64 a0_0)] (WOpen (.one (.l (.i .i64))) fun (x13 : Int) =>
      WIf ((a1n : Int) != (if (x13 < 0) then 0 else x13)) (WIf (x10_6 == 9) (WCall Tryz.prog Q 34 #[(.agg #[(.int .i64 x10), (.int .i64 x10_1), (.string x10_2), (.slice x10_3 x10_4 x10_5)]), (.agg #[(.int .i64 0), (.int .i64 0), (.string (ByteArray.mk #[])), (.slice none 0 0)])] (WOpen (.one (.l .b)) fun (x14 : Bool) =>
        Q (.returned (.bool x14))))
       (Q (.returned (.bool false))))
      (WCall Tryz.prog Q 32 #[(.agg #[(.slice x8 x8_1 x8_2), (.slice x8_3 x8_4 x8_5)]), (.agg #[(.int .i64 a3_0), (.string a3_1), (.string a3_2), (.string a3_3), (.string a3_4), (.string a3_5), (.int .i64 a3_6), (.int .i64 a3_7), (.string a3_8), (.slice a3_9a a3_9n a3_9c)])] (WOpen (.one (.agg [(.i .i64), .s, .s, .s, .sl, .sl])) fun (x15 : Int) (x15_1 : ByteArray) (x15_2 : ByteArray) (x15_3 : ByteArray) (x15_4 : Option Go.Addr) (x15_5 : Nat) (x15_6 : Nat) (x15_7 : Option Go.Addr) (x15_8 : Nat) (x15_9 : Nat) =>
       WCall Tryz.prog Q 41 #[(.agg #[(.int .i64 a0_0), (.string a0_1), (.int .i64 a0_2), (.int .i64 a0_3), (.int .i64 a0_4), (.slice a0_5a a0_5n a0_5c)]), (.slice a1a a1n a1c), (.agg #[(.int .i64 x15), (.string x15_1), (.string x15_2), (.string x15_3), (.slice x15_4 x15_5 x15_6), (.slice x15_7 x15_8 x15_9)]), (.int .i64 (if (a3_0 < 0) then 0 else a3_0))] (WOpen (.one (.agg [(.i .i64), (.i .i64), .s, .sl, (.i .i64)])) fun (x16 : Int) (x16_1 : Int) (x16_2 : ByteArray) (x16_3 : Option Go.Addr) (x16_4 : Nat) (x16_5 : Nat) (x16_6 : Int) =>
       WIf (x10_6 == x16_6) (WCall Tryz.prog Q 34 #[(.agg #[(.int .i64 x10), (.int .i64 x10_1), (.string x10_2), (.slice x10_3 x10_4 x10_5)]), (.agg #[(.int .i64 x16), (.int .i64 x16_1), (.string x16_2), (.slice x16_3 x16_4 x16_5)])] (WOpen (.one (.l .b)) fun (x17 : Bool) =>
        Q (.returned (.bool x17))))
       (Q (.returned (.bool false))))))))))))))))))

def h7 : Hints := ⟨[], [⟨0, [(9, .i .i64)], [8, 20, 21, 22, 23, 24, 25, 26, 27, 28, 29, 30, 31], []⟩], [], [4, 7, 11, 12, 14]⟩
theorem tie7 (Q : Ending → W) (a0_0 : Int) (a0_1 : ByteArray) (a0_2 : Int) (a0_3 : Int) (a0_4 : Int) (a0_5a : Option Addr) (a0_5n : Nat) (a0_5c : Nat) (a1a : Option Addr) (a1n : Nat) (a1c : Nat) (a2a : Option Addr) (a2n : Nat) (a2c : Nat) (a3_0 : Int) (a3_1 : ByteArray) (a3_2 : ByteArray) (a3_3 : ByteArray) (a3_4 : ByteArray) (a3_5 : ByteArray) (a3_6 : Int) (a3_7 : Int) (a3_8 : ByteArray) (a3_9a : Option Addr) (a3_9n : Nat) (a3_9c : Nat) : funW Tryz.prog tab Q h7 Tryz.f7 [.v (.agg ⟨[(.int .i64 a0_0), (.string a0_1), (.int .i64 a0_2), (.int .i64 a0_3), (.int .i64 a0_4), (.slice a0_5a a0_5n a0_5c)]⟩), .v (.slice a1a a1n a1c), .v (.slice a2a a2n a2c), .v (.agg ⟨[(.int .i64 a3_0), (.string a3_1), (.string a3_2), (.string a3_3), (.string a3_4), (.string a3_5), (.int .i64 a3_6), (.int .i64 a3_7), (.string a3_8), (.slice a3_9a a3_9n a3_9c)]⟩)] = W7 Q a0_0 a0_1 a0_2 a0_3 a0_4 a0_5a a0_5n a0_5c a1a a1n a1c a2a a2n a2c a3_0 a3_1 a3_2 a3_3 a3_4 a3_5 a3_6 a3_7 a3_8 a3_9a a3_9n a3_9c := by kernel_rfl

theorem spec7 {Q : Ending → W} {a0_0 : Int} {a0_1 : ByteArray} {a0_2 : Int} {a0_3 : Int} {a0_4 : Int} {a0_5a : Option Addr} {a0_5n : Nat} {a0_5c : Nat} {a1a : Option Addr} {a1n : Nat} {a1c : Nat} {a2a : Option Addr} {a2n : Nat} {a2c : Nat} {a3_0 : Int} {a3_1 : ByteArray} {a3_2 : ByteArray} {a3_3 : ByteArray} {a3_4 : ByteArray} {a3_5 : ByteArray} {a3_6 : Int} {a3_7 : Int} {a3_8 : ByteArray} {a3_9a : Option Addr} {a3_9n : Nat} {a3_9c : Nat} {H : HP} (h : W7 Q a0_0 a0_1 a0_2 a0_3 a0_4 a0_5a a0_5n a0_5c a1a a1n a1c a2a a2n a2c a3_0 a3_1 a3_2 a3_3 a3_4 a3_5 a3_6 a3_7 a3_8 a3_9a a3_9n a3_9c H) : Go.Den.Spec Tryz.prog 7 #[(.agg ⟨[(.int .i64 a0_0), (.string a0_1), (.int .i64 a0_2), (.int .i64 a0_3), (.int .i64 a0_4), (.slice a0_5a a0_5n a0_5c)]⟩), (.slice a1a a1n a1c), (.slice a2a a2n a2c), (.agg ⟨[(.int .i64 a3_0), (.string a3_1), (.string a3_2), (.string a3_3), (.string a3_4), (.string a3_5), (.int .i64 a3_6), (.int .i64 a3_7), (.string a3_8), (.slice a3_9a a3_9n a3_9c)]⟩)] H Q :=
  specOf (fn := Tryz.f7) (hs := h7) (args := [.v (.agg ⟨[(.int .i64 a0_0), (.string a0_1), (.int .i64 a0_2), (.int .i64 a0_3), (.int .i64 a0_4), (.slice a0_5a a0_5n a0_5c)]⟩), .v (.slice a1a a1n a1c), .v (.slice a2a a2n a2c), .v (.agg ⟨[(.int .i64 a3_0), (.string a3_1), (.string a3_2), (.string a3_3), (.string a3_4), (.string a3_5), (.int .i64 a3_6), (.int .i64 a3_7), (.string a3_8), (.slice a3_9a a3_9n a3_9c)]⟩)]) (by kernel_rfl) (by kernel_rfl) (by kernel_rfl) rfl (by rw [tie7]; exact h)

end Go.Proofs.YtmidcnfnmnhifaaGreat
