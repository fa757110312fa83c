/-
  Preconditions of functions, as the generator wrote them.
-/
import Derived.Test.YtmidcnfnmnhifaaGreatZTie
namespace Go.Proofs.YtmidcnfnmnhifaaGreat
set_option linter.unusedSectionVars false
set_option linter.unusedSimpArgs false
set_option linter.unusedVariables false
open Go Go.Den
set_option linter.unusedVariables false

/-- (monitor.eye).leaf -/
def W104 (Q : Ending → W) (a0_0 : Option Addr) (a0_1 : Int) (a0_2 : ByteArray) (a0_3 : ByteArray) (a0_4 : ByteArray) (a1 : Option Addr) : W :=
  WNonNil a1 fun q1 =>
  WLoad (Addr.add q1 0) (.agg [(.i .i64), .s, (.i .i64), (.i .i64), (.i .i64), .sl]) fun (x2 : Int) (x2_1 : ByteArray) (x2_2 : Int) (x2_3 : Int) (x2_4 : Int) (x2_5 : Option Go.Addr) (x2_6 : Nat) (x2_7 : Nat) =>
  WIf (x2 == 2) (WCall Tryz.prog Q 164 #[(.bool (x2_2 == 1))] (WOpen (.one (.agg [(.i .i64), (.i .i64), .s, .sl])) fun (x3 : Int) (x3_1 : Int) (x3_2 : ByteArray) (x3_3 : Option Go.Addr) (x3_4 : Nat) (x3_5 : Nat) =>
   Q (.returned (.agg #[(.int .i64 x3), (.int .i64 x3_1), (.string x3_2), (.slice x3_3 x3_4 x3_5)]))))
  (WIf (x2 == 3) (WCall Tryz.prog Q 171 #[(.string x2_1)] (WOpen (.one (.agg [(.i .i64), (.i .i64), .s, .sl])) fun (x4 : Int) (x4_1 : Int) (x4_2 : ByteArray) (x4_3 : Option Go.Addr) (x4_4 : Nat) (x4_5 : Nat) =>
    Q (.returned (.agg #[(.int .i64 x4), (.int .i64 x4_1), (.string x4_2), (.slice x4_3 x4_4 x4_5)]))))
   (WIf (x2 == 4) (WCall Tryz.prog Q 172 #[(.agg #[(.int .i64 x2), (.string x2_1), (.int .i64 x2_2), (.int .i64 x2_3), (.int .i64 x2_4), (.slice x2_5 x2_6 x2_7)])] (WOpen (.one (.agg [(.i .i64), (.i .i64), .s, .sl])) fun (x5 : Int) (x5_1 : Int) (x5_2 : ByteArray) (x5_3 : Option Go.Addr) (x5_4 : Nat) (x5_5 : Nat) =>
     Q (.returned (.agg #[(.int .i64 x5), (.int .i64 x5_1), (.string x5_2), (.slice x5_3 x5_4 x5_5)]))))
    (WIf (x2 == 5) (WCall Tryz.prog Q 173 #[(.agg #[(.pointer a0_0), (.int .i64 a0_1), (.string a0_2), (.string a0_3), (.string a0_4)]), (.agg #[(.int .i64 x2), (.string x2_1), (.int .i64 x2_2), (.int .i64 x2_3), (.int .i64 x2_4), (.slice x2_5 x2_6 x2_7)])] (WOpen (.one (.agg [(.i .i64), (.i .i64), .s, .sl])) fun (x6 : Int) (x6_1 : Int) (x6_2 : ByteArray) (x6_3 : Option Go.Addr) (x6_4 : Nat) (x6_5 : Nat) =>
      Q (.returned (.agg #[(.int .i64 x6), (.int .i64 x6_1), (.string x6_2), (.slice x6_3 x6_4 x6_5)]))))
     (WIf (x2 == 6) (WCall Tryz.prog Q 173 #[(.agg #[(.pointer a0_0), (.int .i64 a0_1), (.string a0_2), (.string a0_3), (.string a0_4)]), (.agg #[(.int .i64 x2), (.string x2_1), (.int .i64 x2_2), (.int .i64 x2_3), (.int .i64 x2_4), (.slice x2_5 x2_6 x2_7)])] (WOpen (.one (.agg [(.i .i64), (.i .i64), .s, .sl])) fun (x7 : Int) (x7_1 : Int) (x7_2 : ByteArray) (x7_3 : Option Go.Addr) (x7_4 : Nat) (x7_5 : Nat) =>
       Q (.returned (.agg #[(.int .i64 x7), (.int .i64 x7_1), (.string x7_2), (.slice x7_3 x7_4 x7_5)]))))
      (WIf (x2 == 7) (WCall Tryz.prog Q 161 #[(.int .i64 a0_1)] (WOpen (.one (.agg [(.i .i64), (.i .i64), .s, .sl])) fun (x8 : Int) (x8_1 : Int) (x8_2 : ByteArray) (x8_3 : Option Go.Addr) (x8_4 : Nat) (x8_5 : Nat) =>
        Q (.returned (.agg #[(.int .i64 x8), (.int .i64 x8_1), (.string x8_2), (.slice x8_3 x8_4 x8_5)]))))
       (WIf (x2 == 21) (WIf (!((ByteArray.toList a0_2) == (ByteArray.toList (ByteArray.mk #[])))) (WCall Tryz.prog Q 164 #[(.bool ((ByteArray.toList a0_2) == (ByteArray.toList x2_1)))] (WOpen (.one (.agg [(.i .i64), (.i .i64), .s, .sl])) fun (x9 : Int) (x9_1 : Int) (x9_2 : ByteArray) (x9_3 : Option Go.Addr) (x9_4 : Nat) (x9_5 : Nat) =>
          Q (.returned (.agg #[(.int .i64 x9), (.int .i64 x9_1), (.string x9_2), (.slice x9_3 x9_4 x9_5)]))))
         (WCall Tryz.prog Q 164 #[(.bool false)] (WOpen (.one (.agg [(.i .i64), (.i .i64), .s, .sl])) fun (x10 : Int) (x10_1 : Int) (x10_2 : ByteArray) (x10_3 : Option Go.Addr) (x10_4 : Nat) (x10_5 : Nat) =>
          Q (.returned (.agg #[(.int .i64 x10), (.int .i64 x10_1), (.string x10_2), (.slice x10_3 x10_4 x10_5)])))))
        (WIf (x2 == 13) (WNonNil a1 fun q11 =>
          WLoad (Addr.add q11 9) (.l .p) fun (x12 : Option Go.Addr) =>
          WIf (!((ByteArray.toList a0_2) == (ByteArray.toList (ByteArray.mk #[])))) (WCall Tryz.prog Q 174 #[(.pointer x12), (.int .i64 a0_1), (.bool ((ByteArray.toList a0_2) == (ByteArray.toList x2_1)))] (WOpen (.one (.l (.i .i64))) fun (x13 : Int) =>
           WCall Tryz.prog Q 161 #[(.int .i64 x13)] (WOpen (.one (.agg [(.i .i64), (.i .i64), .s, .sl])) fun (x14 : Int) (x14_1 : Int) (x14_2 : ByteArray) (x14_3 : Option Go.Addr) (x14_4 : Nat) (x14_5 : Nat) =>
           Q (.returned (.agg #[(.int .i64 x14), (.int .i64 x14_1), (.string x14_2), (.slice x14_3 x14_4 x14_5)])))))
          (WCall Tryz.prog Q 174 #[(.pointer x12), (.int .i64 a0_1), (.bool false)] (WOpen (.one (.l (.i .i64))) fun (x15 : Int) =>
           WCall Tryz.prog Q 161 #[(.int .i64 x15)] (WOpen (.one (.agg [(.i .i64), (.i .i64), .s, .sl])) fun (x16 : Int) (x16_1 : Int) (x16_2 : ByteArray) (x16_3 : Option Go.Addr) (x16_4 : Nat) (x16_5 : Nat) =>
           Q (.returned (.agg #[(.int .i64 x16), (.int .i64 x16_1), (.string x16_2), (.slice x16_3 x16_4 x16_5)]))))))
         (WCall Tryz.prog Q 161 #[(.int .i64 x2_2)] (WOpen (.one (.agg [(.i .i64), (.i .i64), .s, .sl])) fun (x17 : Int) (x17_1 : Int) (x17_2 : ByteArray) (x17_3 : Option Go.Addr) (x17_4 : Nat) (x17_5 : Nat) =>
          Q (.returned (.agg #[(.int .i64 x17), (.int .i64 x17_1), (.string x17_2), (.slice x17_3 x17_4 x17_5)])))))))))))

def h104 : Hints := ⟨[], [], [], [2, 4, 5]⟩
theorem tie104 (Q : Ending → W) (a0_0 : Option Addr) (a0_1 : Int) (a0_2 : ByteArray) (a0_3 : ByteArray) (a0_4 : ByteArray) (a1 : Option Addr) : funW Tryz.prog tab Q h104 Tryz.f104 [.v (.agg ⟨[(.pointer a0_0), (.int .i64 a0_1), (.string a0_2), (.string a0_3), (.string a0_4)]⟩), .v (.pointer a1)] = W104 Q a0_0 a0_1 a0_2 a0_3 a0_4 a1 := by kernel_rfl

theorem spec104 {Q : Ending → W} {a0_0 : Option Addr} {a0_1 : Int} {a0_2 : ByteArray} {a0_3 : ByteArray} {a0_4 : ByteArray} {a1 : Option Addr} {H : HP} (h : W104 Q a0_0 a0_1 a0_2 a0_3 a0_4 a1 H) : Go.Den.Spec Tryz.prog 104 #[(.agg ⟨[(.pointer a0_0), (.int .i64 a0_1), (.string a0_2), (.string a0_3), (.string a0_4)]⟩), (.pointer a1)] H Q :=
  specOf (fn := Tryz.f104) (hs := h104) (args := [.v (.agg ⟨[(.pointer a0_0), (.int .i64 a0_1), (.string a0_2), (.string a0_3), (.string a0_4)]⟩), .v (.pointer a1)]) (by kernel_rfl) (by kernel_rfl) (by kernel_rfl) rfl (by rw [tie104]; exact h)

/-- (monitor.eye).eval -/
def W91 (Q : Ending → W) (a0_0 : Option Addr) (a0_1 : Int) (a0_2 : ByteArray) (a0_3 : ByteArray) (a0_4 : ByteArray) (a1 : Option Addr) : W :=
  WNonNil a1 fun q1 =>
  WLoad (Addr.add (Addr.add q1 0) 0) (.l (.i .i64)) fun (x2 : Int) =>
  WCall Tryz.prog Q 100 #[(.int .i64 x2)] (WOpen (.one (.l (.i .i64))) fun (x3 : Int) =>
  WIf (decide (x3 < 1)) (WCall Tryz.prog Q 104 #[(.agg #[(.pointer a0_0), (.int .i64 a0_1), (.string a0_2), (.string a0_3), (.string a0_4)]), (.pointer a1)] (WOpen (.one (.agg [(.i .i64), (.i .i64), .s, .sl])) fun (x4 : Int) (x4_1 : Int) (x4_2 : ByteArray) (x4_3 : Option Go.Addr) (x4_4 : Nat) (x4_5 : Nat) =>
   Q (.returned (.agg #[(.int .i64 x4), (.int .i64 x4_1), (.string x4_2), (.slice x4_3 x4_4 x4_5)]))))
  (WNonNil a1 fun q5 =>
   WLoad (Addr.add q5 6) (.l .sl) fun (x6 : Option Go.Addr) (x6_1 : Nat) (x6_2 : Nat) =>
   WIndex x6 x6_1 0 fun q7 =>
   WLoad (Addr.add q7 0) (.l .p) fun (x8 : Option Go.Addr) =>
   WCall Tryz.prog Q 91 #[(.agg #[(.pointer a0_0), (.int .i64 a0_1), (.string a0_2), (.string a0_3), (.string a0_4)]), (.pointer x8)] (WOpen (.one (.agg [(.i .i64), (.i .i64), .s, .sl])) fun (x9 : Int) (x9_1 : Int) (x9_2 : ByteArray) (x9_3 : Option Go.Addr) (x9_4 : Nat) (x9_5 : Nat) =>
   WNonNil a1 fun q10 =>
   WLoad (Addr.add q10 6) (.l .sl) fun (x11 : Option Go.Addr) (x11_1 : Nat) (x11_2 : Nat) =>
   WIf ((x11_1 : Int) == 1) (WCall Tryz.prog Q 102 #[(.agg #[(.pointer a0_0), (.int .i64 a0_1), (.string a0_2), (.string a0_3), (.string a0_4)]), (.pointer a1), (.agg #[(.int .i64 x9), (.int .i64 x9_1), (.string x9_2), (.slice x9_3 x9_4 x9_5)])] (WOpen (.one (.agg [(.i .i64), (.i .i64), .s, .sl])) fun (x12 : Int) (x12_1 : Int) (x12_2 : ByteArray) (x12_3 : Option Go.Addr) (x12_4 : Nat) (x12_5 : Nat) =>
    Q (.returned (.agg #[(.int .i64 x12), (.int .i64 x12_1), (.string x12_2), (.slice x12_3 x12_4 x12_5)]))))
   (WNonNil a1 fun q13 =>
    WLoad (Addr.add q13 6) (.l .sl) fun (x14 : Option Go.Addr) (x14_1 : Nat) (x14_2 : Nat) =>
    WIndex x14 x14_1 1 fun q15 =>
    WLoad (Addr.add q15 1) (.l .p) fun (x16 : Option Go.Addr) =>
    WCall Tryz.prog Q 91 #[(.agg #[(.pointer a0_0), (.int .i64 a0_1), (.string a0_2), (.string a0_3), (.string a0_4)]), (.pointer x16)] (WOpen (.one (.agg [(.i .i64), (.i .i64), .s, .sl])) fun (x17 : Int) (x17_1 : Int) (x17_2 : ByteArray) (x17_3 : Option Go.Addr) (x17_4 : Nat) (x17_5 : Nat) =>
    WCall Tryz.prog Q 103 #[(.agg #[(.pointer a0_0), (.int .i64 a0_1), (.string a0_2), (.string a0_3), (.string a0_4)]), (.pointer a1), (.agg #[(.int .i64 x9), (.int .i64 x9_1), (.string x9_2), (.slice x9_3 x9_4 x9_5)]), (.agg #[(.int .i64 x17), (.int .i64 x17_1), (.string x17_2), (.slice x17_3 x17_4 x17_5)])] (WOpen (.one (.agg [(.i .i64), (.i .i64), .s, .sl])) fun (x18 : Int) (x18_1 : Int) (x18_2 : ByteArray) (x18_3 : Option Go.Addr) (x18_4 : Nat) (x18_5 : Nat) =>
    Q (.returned (.agg #[(.int .i64 x18), (.int .i64 x18_1), (.string x18_2), (.slice x18_3 x18_4 x18_5)]))))))))

def h91 : Hints := ⟨[], [], [], [2, 4, 5]⟩
theorem tie91 (Q : Ending → W) (a0_0 : Option Addr) (a0_1 : Int) (a0_2 : ByteArray) (a0_3 : ByteArray) (a0_4 : ByteArray) (a1 : Option Addr) : funW Tryz.prog tab Q h91 Tryz.f91 [.v (.agg ⟨[(.pointer a0_0), (.int .i64 a0_1), (.string a0_2), (.string a0_3), (.string a0_4)]⟩), .v (.pointer a1)] = W91 Q a0_0 a0_1 a0_2 a0_3 a0_4 a1 := by kernel_rfl

theorem spec91 {Q : Ending → W} {a0_0 : Option Addr} {a0_1 : Int} {a0_2 : ByteArray} {a0_3 : ByteArray} {a0_4 : ByteArray} {a1 : Option Addr} {H : HP} (h : W91 Q a0_0 a0_1 a0_2 a0_3 a0_4 a1 H) : Go.Den.Spec Tryz.prog 91 #[(.agg ⟨[(.pointer a0_0), (.int .i64 a0_1), (.string a0_2), (.string a0_3), (.string a0_4)]⟩), (.pointer a1)] H Q :=
  specOf (fn := Tryz.f91) (hs := h91) (args := [.v (.agg ⟨[(.pointer a0_0), (.int .i64 a0_1), (.string a0_2), (.string a0_3), (.string a0_4)]⟩), .v (.pointer a1)]) (by kernel_rfl) (by kernel_rfl) (by kernel_rfl) rfl (by rw [tie91]; exact h)

/-- (*window.Once).Cells -/
def W150 (Q : Ending → W) (a0 : Option Addr) : W :=
  WIf (Option.isNone a0) (Q (.returned (.int .i64 0)))
  (WNonNil a0 fun q1 =>
   WCall Tryz.prog Q 217 #[(.pointer (some (Addr.add (Addr.add q1 0) 4)))] (WOpen (.one (.l (.i .i64))) fun (x2 : Int) =>
   Q (.returned (.int .i64 x2))))

def h150 : Hints := ⟨[], [], [], []⟩
theorem tie150 (Q : Ending → W) (a0 : Option Addr) : funW Tryz.prog tab Q h150 Tryz.f150 [.v (.pointer a0)] = W150 Q a0 := by kernel_rfl

theorem spec150 {Q : Ending → W} {a0 : Option Addr} {H : HP} (h : W150 Q a0 H) : Go.Den.Spec Tryz.prog 150 #[(.pointer a0)] H Q :=
  specOf (fn := Tryz.f150) (hs := h150) (args := [.v (.pointer a0)]) (by kernel_rfl) (by kernel_rfl) (by kernel_rfl) rfl (by rw [tie150]; exact h)

/-- (*window.Since).Cells -/
def W151 (Q : Ending → W) (a0 : Option Addr) : W :=
  WIf (Option.isNone a0) (Q (.returned (.int .i64 0)))
  (WNonNil a0 fun q1 =>
   WCall Tryz.prog Q 217 #[(.pointer (some (Addr.add (Addr.add q1 0) 4)))] (WOpen (.one (.l (.i .i64))) fun (x2 : Int) =>
   Q (.returned (.int .i64 x2))))

def h151 : Hints := ⟨[], [], [], []⟩
theorem tie151 (Q : Ending → W) (a0 : Option Addr) : funW Tryz.prog tab Q h151 Tryz.f151 [.v (.pointer a0)] = W151 Q a0 := by kernel_rfl

theorem spec151 {Q : Ending → W} {a0 : Option Addr} {H : HP} (h : W151 Q a0 H) : Go.Den.Spec Tryz.prog 151 #[(.pointer a0)] H Q :=
  specOf (fn := Tryz.f151) (hs := h151) (args := [.v (.pointer a0)]) (by kernel_rfl) (by kernel_rfl) (by kernel_rfl) rfl (by rw [tie151]; exact h)

/-- (*tally.Tally).Cells -/
def W152 (Q : Ending → W) (a0 : Option Addr) : W :=
  WIf (Option.isNone a0) (Q (.returned (.int .i64 0)))
  (WNonNil a0 fun q1 =>
   WCall Tryz.prog Q 217 #[(.pointer (some (Addr.add q1 3)))] (WOpen (.one (.l (.i .i64))) fun (x2 : Int) =>
   Q (.returned (.int .i64 x2))))

def h152 : Hints := ⟨[], [], [], []⟩
theorem tie152 (Q : Ending → W) (a0 : Option Addr) : funW Tryz.prog tab Q h152 Tryz.f152 [.v (.pointer a0)] = W152 Q a0 := by kernel_rfl

theorem spec152 {Q : Ending → W} {a0 : Option Addr} {H : HP} (h : W152 Q a0 H) : Go.Den.Spec Tryz.prog 152 #[(.pointer a0)] H Q :=
  specOf (fn := Tryz.f152) (hs := h152) (args := [.v (.pointer a0)]) (by kernel_rfl) (by kernel_rfl) (by kernel_rfl) rfl (by rw [tie152]; exact h)

/-- (*monitor.node).cells -/
def W92 (Q : Ending → W) (a0 : Option Addr) : W :=
  WNonNil a0 fun q1 =>
  WLoad (Addr.add q1 7) (.l .p) fun (x2 : Option Go.Addr) =>
  WNonNil a0 fun q3 =>
  WLoad (Addr.add q3 8) (.l .p) fun (x4 : Option Go.Addr) =>
  WNonNil a0 fun q5 =>
  WLoad (Addr.add q5 9) (.l .p) fun (x6 : Option Go.Addr) =>
  WCall Tryz.prog Q 150 #[(.pointer x2)] (WOpen (.one (.l (.i .i64))) fun (x7 : Int) =>
  WHeld [((Addr.add q5 9), [(.pointer x6)]), ((Addr.add q3 8), [(.pointer x4)])] <|
  WCall Tryz.prog Q 151 #[(.pointer x4)] (WOpen (.one (.l (.i .i64))) fun (x8 : Int) =>
  WHeld [((Addr.add q5 9), [(.pointer x6)])] <|
  WCall Tryz.prog Q 152 #[(.pointer x6)] (WOpen (.one (.l (.i .i64))) fun (x9 : Int) =>
  WNonNil a0 fun q10 =>
  WLoad (Addr.add (Addr.add q10 0) 0) (.l (.i .i64)) fun (x11 : Int) =>
  WIf (x11 == 25) (WNonNil a0 fun q12 =>
   WLoad (Addr.add q12 6) (.l .sl) fun (x13 : Option Go.Addr) (x13_1 : Nat) (x13_2 : Nat) =>
   WLoop (σ := ((Int × (Int × Unit)) × Unit)) (((IntKind.wrap .i64 ((IntKind.wrap .i64 ((IntKind.wrap .i64 (x7 + x8)) + x9)) + 1)), (0, ())), ()) fun x14 again14 =>
   WIf (decide ((x14.1.2.1 : Int) < (x13_1 : Int))) (WIndex x13 x13_1 (x14.1.2.1 : Int) fun q15 =>
    WLoad (Addr.add q15 ((Int.toNat (x14.1.2.1 : Int)) * 1)) (.l .p) fun (x16 : Option Go.Addr) =>
    WCall Tryz.prog Q 92 #[(.pointer x16)] (WOpen (.one (.l (.i .i64))) fun (x17 : Int) =>
    again14 (((IntKind.wrap .i64 ((x14.1.1 : Int) + x17)), ((IntKind.wrap .i64 ((x14.1.2.1 : Int) + 1)), ())), ())))
   (Q (.returned (.int .i64 (x14.1.1 : Int)))))
  (WNonNil a0 fun q18 =>
   WLoad (Addr.add q18 6) (.l .sl) fun (x19 : Option Go.Addr) (x19_1 : Nat) (x19_2 : Nat) =>
   WLoop (σ := ((Int × (Int × Unit)) × Unit)) (((IntKind.wrap .i64 ((IntKind.wrap .i64 (x7 + x8)) + x9)), (0, ())), ()) fun x20 again20 =>
   WIf (decide ((x20.1.2.1 : Int) < (x19_1 : Int))) (WIndex x19 x19_1 (x20.1.2.1 : Int) fun q21 =>
    WLoad (Addr.add q21 ((Int.toNat (x20.1.2.1 : Int)) * 1)) (.l .p) fun (x22 : Option Go.Addr) =>
    WCall Tryz.prog Q 92 #[(.pointer x22)] (WOpen (.one (.l (.i .i64))) fun (x23 : Int) =>
    again20 (((IntKind.wrap .i64 ((x20.1.1 : Int) + x23)), ((IntKind.wrap .i64 ((x20.1.2.1 : Int) + 1)), ())), ())))
   (Q (.returned (.int .i64 (x20.1.1 : Int))))))))

def h92 : Hints := ⟨[], [⟨0, [(3, .i .i64), (36, .i .i64)], [5, 37, 38, 39, 40, 41, 42, 43, 44], []⟩], [], []⟩
theorem tie92 (Q : Ending → W) (a0 : Option Addr) : funW Tryz.prog tab Q h92 Tryz.f92 [.v (.pointer a0)] = W92 Q a0 := by kernel_rfl

theorem spec92 {Q : Ending → W} {a0 : Option Addr} {H : HP} (h : W92 Q a0 H) : Go.Den.Spec Tryz.prog 92 #[(.pointer a0)] H Q :=
  specOf (fn := Tryz.f92) (hs := h92) (args := [.v (.pointer a0)]) (by kernel_rfl) (by kernel_rfl) (by kernel_rfl) rfl (by rw [tie92]; exact h)

/-- (*monitor.Monitor).Cells -/
def W29 (Q : Ending → W) (a0 : Option Addr) : W :=
  WCall Tryz.prog Q 89 #[(.pointer a0)] (WOpen (.one (.l .b)) fun (x1 : Bool) =>
  WIf (!x1) (Q (.returned (.int .i64 0)))
  (WNonNil a0 fun q2 =>
   WLoad (Addr.add q2 0) (.l .p) fun (x3 : Option Go.Addr) =>
   WCall Tryz.prog Q 92 #[(.pointer x3)] (WOpen (.one (.l (.i .i64))) fun (x4 : Int) =>
   Q (.returned (.int .i64 x4)))))

def h29 : Hints := ⟨[], [], [], []⟩
theorem tie29 (Q : Ending → W) (a0 : Option Addr) : funW Tryz.prog tab Q h29 Tryz.f29 [.v (.pointer a0)] = W29 Q a0 := by kernel_rfl

theorem spec29 {Q : Ending → W} {a0 : Option Addr} {H : HP} (h : W29 Q a0 H) : Go.Den.Spec Tryz.prog 29 #[(.pointer a0)] H Q :=
  specOf (fn := Tryz.f29) (hs := h29) (args := [.v (.pointer a0)]) (by kernel_rfl) (by kernel_rfl) (by kernel_rfl) rfl (by rw [tie29]; exact h)

/-- beadlelaw18.alive -/
def W21 (Q : Ending → W)  : W :=
  WNew [(.int .i64 21), (.string (ByteArray.mk #[97])), (.int .i64 0), (.int .i64 0), (.int .i64 0), (.slice none 0 0)] 24 fun z1 =>
  WCall Tryz.prog Q 22 #[(.agg #[(.int .i64 25), (.string (ByteArray.mk #[])), (.int .i64 0), (.int .i64 0), (.int .i64 0), (.slice (some ⟨z1, 0, none⟩) 1 1)])] (WOpen (.one (.l .p)) fun (x2 : Option Go.Addr) =>
  WCall Tryz.prog Q 23 #[(.slice none 0 0)] (WOpen (.one (.l .p)) fun (x3 : Option Go.Addr) =>
  WCall Tryz.prog Q 27 #[(.pointer x2), (.pointer x3), (.agg #[(.int .i64 0), (.string (ByteArray.mk #[97])), (.string (ByteArray.mk #[])), (.string (ByteArray.mk #[]))])] (WOpen (.tup [(.agg [(.i .i64), (.i .i64), .s, .sl]), (.l (.i .i64))]) fun (x4 : Int) (x4_1 : Int) (x4_2 : ByteArray) (x4_3 : Option Go.Addr) (x4_4 : Nat) (x4_5 : Nat) (x4_6 : Int) =>
  WCall Tryz.prog Q 27 #[(.pointer x2), (.pointer x3), (.agg #[(.int .i64 1), (.string (ByteArray.mk #[])), (.string (ByteArray.mk #[])), (.string (ByteArray.mk #[]))])] (WOpen (.tup [(.agg [(.i .i64), (.i .i64), .s, .sl]), (.l (.i .i64))]) fun (x5 : Int) (x5_1 : Int) (x5_2 : ByteArray) (x5_3 : Option Go.Addr) (x5_4 : Nat) (x5_5 : Nat) (x5_6 : Int) =>
  WIf (x4_6 == 0) (WIf (x5_6 == 0) (WIf (x4 == 2) (WIf (x4_1 == 0) (WIf (x5_1 == 1) (WCall Tryz.prog Q 29 #[(.pointer x2)] (WOpen (.one (.l (.i .i64))) fun (x6 : Int) =>
       Q (.returned (.bool (x6 == 1)))))
      (Q (.returned (.bool false))))
     (Q (.returned (.bool false))))
    (Q (.returned (.bool false))))
   (Q (.returned (.bool false))))
  (Q (.returned (.bool false)))))))

def h21 : Hints := ⟨[], [], [], [3, 5]⟩
theorem tie21 (Q : Ending → W)  : funW Tryz.prog tab Q h21 Tryz.f21 [] = W21 Q  := by kernel_rfl

theorem spec21 {Q : Ending → W}  {H : HP} (h : W21 Q  H) : Go.Den.Spec Tryz.prog 21 #[] H Q :=
  specOf (fn := Tryz.f21) (hs := h21) (args := []) (by kernel_rfl) (by kernel_rfl) (by kernel_rfl) rfl (by rw [tie21]; exact h)

/-- beadleref07.Kids -/
def W40 (Q : Ending → W) (a0 : Int) : W :=
  WIf ((decide (a0 < 1)) || (decide (a0 > 25))) (Q (.returned (.int .i64 (-2))))
  (WIf (a0 == 4) (Q (.returned (.int .i64 (-1))))
   (WIf (((decide (a0 ≤ 7)) || (a0 == 13)) || (a0 == 21)) (Q (.returned (.int .i64 0)))
    (WIf ((((((a0 == 11) || (a0 == 12)) || (a0 == 18)) || (a0 == 25)) || (a0 == 22)) || (a0 == 23)) (Q (.returned (.int .i64 1)))
     (Q (.returned (.int .i64 2))))))

def h40 : Hints := ⟨[], [], [], []⟩
theorem tie40 (Q : Ending → W) (a0 : Int) : funW Tryz.prog tab Q h40 Tryz.f40 [.v (.int .i64 a0)] = W40 Q a0 := by kernel_rfl

theorem spec40 {Q : Ending → W} {a0 : Int} {H : HP} (h : W40 Q a0 H) : Go.Den.Spec Tryz.prog 40 #[(.int .i64 a0)] H Q :=
  specOf (fn := Tryz.f40) (hs := h40) (args := [.v (.int .i64 a0)]) (by kernel_rfl) (by kernel_rfl) (by kernel_rfl) rfl (by rw [tie40]; exact h)

/-- beadleref07.Depth -/
def W82 (Q : Ending → W) (a0_0 : Int) (a0_1 : ByteArray) (a0_2 : Int) (a0_3 : Int) (a0_4 : Int) (a0_5a : Option Addr) (a0_5n : Nat) (a0_5c : Nat) : W :=
  WIf (a0_0 == 4) (Q (.returned (.int .i64 1)))
  (WLoop (σ := ((Int × (Int × Unit)) × Unit)) ((0, (0, ())), ()) fun x1 again1 =>
   WIf (decide ((x1.1.2.1 : Int) < (a0_5n : Int))) (WIndex a0_5a a0_5n (x1.1.2.1 : Int) fun q2 =>
    WLoad (Addr.add q2 ((Int.toNat (x1.1.2.1 : Int)) * 6)) (.agg [(.i .i64), .s, (.i .i64), (.i .i64), (.i .i64), .sl]) fun (x3 : Int) (x3_1 : ByteArray) (x3_2 : Int) (x3_3 : Int) (x3_4 : Int) (x3_5 : Option Go.Addr) (x3_6 : Nat) (x3_7 : Nat) =>
    WCall Tryz.prog Q 82 #[(.agg #[(.int .i64 x3), (.string x3_1), (.int .i64 x3_2), (.int .i64 x3_3), (.int .i64 x3_4), (.slice x3_5 x3_6 x3_7)])] (WOpen (.one (.l (.i .i64))) fun (x4 : Int) =>
    WIf (decide (x4 > (x1.1.1 : Int))) (again1 ((x4, ((IntKind.wrap .i64 ((x1.1.2.1 : Int) + 1)), ())), ()))
    (again1 (((x1.1.1 : Int), ((IntKind.wrap .i64 ((x1.1.2.1 : Int) + 1)), ())), ()))))
   (Q (.returned (.int .i64 (IntKind.wrap .i64 ((x1.1.1 : Int) + 1))))))

def h82 : Hints := ⟨[], [⟨0, [(3, .i .i64), (4, .i .i64)], [5, 9, 10, 11, 12, 13, 14, 15, 16, 17, 18, 19, 20, 21, 22, 23, 24, 25], []⟩], [], [1]⟩
theorem tie82 (Q : Ending → W) (a0_0 : Int) (a0_1 : ByteArray) (a0_2 : Int) (a0_3 : Int) (a0_4 : Int) (a0_5a : Option Addr) (a0_5n : Nat) (a0_5c : Nat) : funW Tryz.prog tab Q h82 Tryz.f82 [.v (.agg ⟨[(.int .i64 a0_0), (.string a0_1), (.int .i64 a0_2), (.int .i64 a0_3), (.int .i64 a0_4), (.slice a0_5a a0_5n a0_5c)]⟩)] = W82 Q a0_0 a0_1 a0_2 a0_3 a0_4 a0_5a a0_5n a0_5c := by kernel_rfl

theorem spec82 {Q : Ending → W} {a0_0 : Int} {a0_1 : ByteArray} {a0_2 : Int} {a0_3 : Int} {a0_4 : Int} {a0_5a : Option Addr} {a0_5n : Nat} {a0_5c : Nat} {H : HP} (h : W82 Q a0_0 a0_1 a0_2 a0_3 a0_4 a0_5a a0_5n a0_5c H) : Go.Den.Spec Tryz.prog 82 #[(.agg ⟨[(.int .i64 a0_0), (.string a0_1), (.int .i64 a0_2), (.int .i64 a0_3), (.int .i64 a0_4), (.slice a0_5a a0_5n a0_5c)]⟩)] H Q :=
  specOf (fn := Tryz.f82) (hs := h82) (args := [.v (.agg ⟨[(.int .i64 a0_0), (.string a0_1), (.int .i64 a0_2), (.int .i64 a0_3), (.int .i64 a0_4), (.slice a0_5a a0_5n a0_5c)]⟩)]) (by kernel_rfl) (by kernel_rfl) (by kernel_rfl) rfl (by rw [tie82]; exact h)

/-- beadleref07.All -/
def W83 (Q : Ending → W) (a0_0 : Int) (a0_1 : ByteArray) (a0_2 : Int) (a0_3 : Int) (a0_4 : Int) (a0_5a : Option Addr) (a0_5n : Nat) (a0_5c : Nat) : W :=
  WNew [(.int .i64 a0_0), (.string a0_1), (.int .i64 a0_2), (.int .i64 a0_3), (.int .i64 a0_4), (.slice a0_5a a0_5n a0_5c)] 24 fun z1 =>
  WIf (a0_0 == 4) (Q (.returned (.slice (some ⟨z1, 0, none⟩) 1 1)))
  (WLoop (σ := (((Option Go.Addr × (Nat × Nat)) × (Int × Unit)) × Unit)) ((((some ⟨z1, 0, none⟩), (1, 1)), (0, ())), ()) fun x2 again2 =>
   WIf (decide ((x2.1.2.1 : Int) < (a0_5n : Int))) (WIndex a0_5a a0_5n (x2.1.2.1 : Int) fun q3 =>
    WLoad (Addr.add q3 ((Int.toNat (x2.1.2.1 : Int)) * 6)) (.agg [(.i .i64), .s, (.i .i64), (.i .i64), (.i .i64), .sl]) fun (x4 : Int) (x4_1 : ByteArray) (x4_2 : Int) (x4_3 : Int) (x4_4 : Int) (x4_5 : Option Go.Addr) (x4_6 : Nat) (x4_7 : Nat) =>
    WCall Tryz.prog Q 83 #[(.agg #[(.int .i64 x4), (.string x4_1), (.int .i64 x4_2), (.int .i64 x4_3), (.int .i64 x4_4), (.slice x4_5 x4_6 x4_7)])] (WOpen (.one (.l .sl)) fun (x5 : Option Go.Addr) (x5_1 : Nat) (x5_2 : Nat) =>
    WPrim Tryz.prog (Builtin.append_ #[22, 22] 22 #[(.slice (x2.1.1.1 : Option Go.Addr) (x2.1.1.2.1 : Nat) (x2.1.1.2.2 : Nat)), (.slice x5 x5_1 x5_2)]) (WOpen (.one (.l .sl)) fun (x6 : Option Go.Addr) (x6_1 : Nat) (x6_2 : Nat) =>
    again2 (((x6, (x6_1, x6_2)), ((IntKind.wrap .i64 ((x2.1.2.1 : Int) + 1)), ())), ()))))
   (Q (.returned (.slice (x2.1.1.1 : Option Go.Addr) (x2.1.1.2.1 : Nat) (x2.1.1.2.2 : Nat)))))

def h83 : Hints := ⟨[], [⟨0, [(3, .sl), (4, .i .i64)], [11, 12, 13, 14, 15, 16, 17, 18, 19, 20, 21, 22, 23, 24, 25], []⟩], [], [1]⟩
theorem tie83 (Q : Ending → W) (a0_0 : Int) (a0_1 : ByteArray) (a0_2 : Int) (a0_3 : Int) (a0_4 : Int) (a0_5a : Option Addr) (a0_5n : Nat) (a0_5c : Nat) : funW Tryz.prog tab Q h83 Tryz.f83 [.v (.agg ⟨[(.int .i64 a0_0), (.string a0_1), (.int .i64 a0_2), (.int .i64 a0_3), (.int .i64 a0_4), (.slice a0_5a a0_5n a0_5c)]⟩)] = W83 Q a0_0 a0_1 a0_2 a0_3 a0_4 a0_5a a0_5n a0_5c := by kernel_rfl

theorem spec83 {Q : Ending → W} {a0_0 : Int} {a0_1 : ByteArray} {a0_2 : Int} {a0_3 : Int} {a0_4 : Int} {a0_5a : Option Addr} {a0_5n : Nat} {a0_5c : Nat} {H : HP} (h : W83 Q a0_0 a0_1 a0_2 a0_3 a0_4 a0_5a a0_5n a0_5c H) : Go.Den.Spec Tryz.prog 83 #[(.agg ⟨[(.int .i64 a0_0), (.string a0_1), (.int .i64 a0_2), (.int .i64 a0_3), (.int .i64 a0_4), (.slice a0_5a a0_5n a0_5c)]⟩)] H Q :=
  specOf (fn := Tryz.f83) (hs := h83) (args := [.v (.agg ⟨[(.int .i64 a0_0), (.string a0_1), (.int .i64 a0_2), (.int .i64 a0_3), (.int .i64 a0_4), (.slice a0_5a a0_5n a0_5c)]⟩)]) (by kernel_rfl) (by kernel_rfl) (by kernel_rfl) rfl (by rw [tie83]; exact h)

/-- beadleref06.Plain -/
def W149 (Q : Ending → W) (a0 : ByteArray) : W :=
  WIf (decide ((((ByteArray.size a0) : Nat) : Int) > 32)) (Q (.returned (.bool false)))
  (WLoop (σ := ((Int × Unit) × Unit)) ((0, ()), ()) fun x1 again1 =>
   WIf (decide ((x1.1.1 : Int) < (((ByteArray.size a0) : Nat) : Int))) (WByte a0 (x1.1.1 : Int) fun y2 =>
    WIf ((((UInt8.toNat y2) : Nat) : Int) == 34) (Q (.returned (.bool false)))
    (WByte a0 (x1.1.1 : Int) fun y3 =>
     WIf ((((UInt8.toNat y3) : Nat) : Int) == 10) (Q (.returned (.bool false)))
     (again1 (((IntKind.wrap .i64 ((x1.1.1 : Int) + 1)), ()), ()))))
   (Q (.returned (.bool true))))

def h149 : Hints := ⟨[], [⟨0, [(3, .i .i64)], [2, 7, 8, 9, 10, 11, 12, 13, 14, 15, 16, 17, 18, 19, 20, 21, 22], []⟩], [], []⟩
theorem tie149 (Q : Ending → W) (a0 : ByteArray) : funW Tryz.prog tab Q h149 Tryz.f149 [.v (.string a0)] = W149 Q a0 := by kernel_rfl

theorem spec149 {Q : Ending → W} {a0 : ByteArray} {H : HP} (h : W149 Q a0 H) : Go.Den.Spec Tryz.prog 149 #[(.string a0)] H Q :=
  specOf (fn := Tryz.f149) (hs := h149) (args := [.v (.string a0)]) (by kernel_rfl) (by kernel_rfl) (by kernel_rfl) rfl (by rw [tie149]; exact h)

/-- beadleref07.set -/
def W84 (Q : Ending → W) (a0_0 : Int) (a0_1 : ByteArray) (a0_2 : Int) (a0_3 : Int) (a0_4 : Int) (a0_5a : Option Addr) (a0_5n : Nat) (a0_5c : Nat) : W :=
  WIf (decide ((a0_5n : Int) > 8)) (Q (.returned (.bool false)))
  (WLoop (σ := ((Int × Unit) × Unit)) ((0, ()), ()) fun x1 again1 =>
   WIf (decide ((x1.1.1 : Int) < (a0_5n : Int))) (WIndex a0_5a a0_5n (x1.1.1 : Int) fun q2 =>
    WLoad (Addr.add q2 ((Int.toNat (x1.1.1 : Int)) * 6)) (.agg [(.i .i64), .s, (.i .i64), (.i .i64), (.i .i64), .sl]) fun (x3 : Int) (x3_1 : ByteArray) (x3_2 : Int) (x3_3 : Int) (x3_4 : Int) (x3_5 : Option Go.Addr) (x3_6 : Nat) (x3_7 : Nat) =>
    WIf (x3 != 3) (Q (.returned (.bool false)))
    (WIf (decide ((x3_6 : Int) > 0)) (Q (.returned (.bool false)))
     (WIf (x3_2 != 0) (Q (.returned (.bool false)))
      (WIf (x3_3 != 0) (Q (.returned (.bool false)))
       (WIf (x3_4 != 0) (Q (.returned (.bool false)))
        (WCall Tryz.prog Q 149 #[(.string x3_1)] (WOpen (.one (.l .b)) fun (x4 : Bool) =>
         WIf (!x4) (Q (.returned (.bool false)))
         (WIf (decide ((x1.1.1 : Int) > 0)) (WIndex a0_5a a0_5n (IntKind.wrap .i64 ((x1.1.1 : Int) - 1)) fun q5 =>
           WLoad (Addr.add (Addr.add q5 ((Int.toNat (IntKind.wrap .i64 ((x1.1.1 : Int) - 1))) * 6)) 1) (.l .s) fun (x6 : ByteArray) =>
           WIf ((Go.Op.bytesLess (ByteArray.toList x3_1) (ByteArray.toList x6)) || ((ByteArray.toList x3_1) == (ByteArray.toList x6))) (Q (.returned (.bool false)))
           (again1 (((IntKind.wrap .i64 ((x1.1.1 : Int) + 1)), ()), ())))
          (again1 (((IntKind.wrap .i64 ((x1.1.1 : Int) + 1)), ()), ()))))))))))
   (Q (.returned (.bool true))))

def h84 : Hints := ⟨[], [⟨0, [(3, .i .i64)], [2, 4, 9, 10, 11, 12, 13, 14, 15, 16, 17, 18, 19, 20, 21, 22, 23, 24, 25, 26, 27, 28, 29, 30, 31, 32, 33, 34, 35, 36, 37, 38, 39, 40, 41, 42, 43, 44, 45, 46, 47, 48, 49, 50, 51, 52, 53, 54, 55, 56, 57, 58, 59, 60, 61, 62, 63, 64], []⟩], [], [1, 4]⟩
theorem tie84 (Q : Ending → W) (a0_0 : Int) (a0_1 : ByteArray) (a0_2 : Int) (a0_3 : Int) (a0_4 : Int) (a0_5a : Option Addr) (a0_5n : Nat) (a0_5c : Nat) : funW Tryz.prog tab Q h84 Tryz.f84 [.v (.agg ⟨[(.int .i64 a0_0), (.string a0_1), (.int .i64 a0_2), (.int .i64 a0_3), (.int .i64 a0_4), (.slice a0_5a a0_5n a0_5c)]⟩)] = W84 Q a0_0 a0_1 a0_2 a0_3 a0_4 a0_5a a0_5n a0_5c := by kernel_rfl

theorem spec84 {Q : Ending → W} {a0_0 : Int} {a0_1 : ByteArray} {a0_2 : Int} {a0_3 : Int} {a0_4 : Int} {a0_5a : Option Addr} {a0_5n : Nat} {a0_5c : Nat} {H : HP} (h : W84 Q a0_0 a0_1 a0_2 a0_3 a0_4 a0_5a a0_5n a0_5c H) : Go.Den.Spec Tryz.prog 84 #[(.agg ⟨[(.int .i64 a0_0), (.string a0_1), (.int .i64 a0_2), (.int .i64 a0_3), (.int .i64 a0_4), (.slice a0_5a a0_5n a0_5c)]⟩)] H Q :=
  specOf (fn := Tryz.f84) (hs := h84) (args := [.v (.agg ⟨[(.int .i64 a0_0), (.string a0_1), (.int .i64 a0_2), (.int .i64 a0_3), (.int .i64 a0_4), (.slice a0_5a a0_5n a0_5c)]⟩)]) (by kernel_rfl) (by kernel_rfl) (by kernel_rfl) rfl (by rw [tie84]; exact h)

/-- beadleref06.head -/
def W188 (Q : Ending → W) (a0 : Int) : W :=
  Q (.returned (.bool ((((decide (a0 ≥ 97)) && (decide (a0 ≤ 122))) || ((decide (a0 ≥ 65)) && (decide (a0 ≤ 90)))) || (a0 == 95))))

def h188 : Hints := ⟨[], [], [], []⟩
theorem tie188 (Q : Ending → W) (a0 : Int) : funW Tryz.prog tab Q h188 Tryz.f188 [.v (.int .u8 a0)] = W188 Q a0 := by kernel_rfl

theorem spec188 {Q : Ending → W} {a0 : Int} {H : HP} (h : W188 Q a0 H) : Go.Den.Spec Tryz.prog 188 #[(.int .u8 a0)] H Q :=
  specOf (fn := Tryz.f188) (hs := h188) (args := [.v (.int .u8 a0)]) (by kernel_rfl) (by kernel_rfl) (by kernel_rfl) rfl (by rw [tie188]; exact h)

/-- beadleref06.tail -/
def W189 (Q : Ending → W) (a0 : Int) : W :=
  WCall Tryz.prog Q 188 #[(.int .u8 a0)] (WOpen (.one (.l .b)) fun (x1 : Bool) =>
  WIf x1 (Q (.returned (.bool true)))
  (WIf (decide (a0 ≥ 48)) (Q (.returned (.bool (decide (a0 ≤ 57)))))
   (Q (.returned (.bool false)))))

def h189 : Hints := ⟨[], [], [], []⟩
theorem tie189 (Q : Ending → W) (a0 : Int) : funW Tryz.prog tab Q h189 Tryz.f189 [.v (.int .u8 a0)] = W189 Q a0 := by kernel_rfl

theorem spec189 {Q : Ending → W} {a0 : Int} {H : HP} (h : W189 Q a0 H) : Go.Den.Spec Tryz.prog 189 #[(.int .u8 a0)] H Q :=
  specOf (fn := Tryz.f189) (hs := h189) (args := [.v (.int .u8 a0)]) (by kernel_rfl) (by kernel_rfl) (by kernel_rfl) rfl (by rw [tie189]; exact h)

/-- beadleref06.Name -/
def W110 (Q : Ending → W) (a0 : ByteArray) : W :=
  WIf ((ByteArray.toList a0) == (ByteArray.toList (ByteArray.mk #[]))) (Q (.returned (.bool false)))
  (WIf (decide ((((ByteArray.size a0) : Nat) : Int) > 16)) (Q (.returned (.bool false)))
   (WByte a0 0 fun y1 =>
    WCall Tryz.prog Q 188 #[(.int .u8 (((UInt8.toNat y1) : Nat) : Int))] (WOpen (.one (.l .b)) fun (x2 : Bool) =>
    WIf (!x2) (Q (.returned (.bool false)))
    (WLoop (σ := ((Int × Unit) × Unit)) ((1, ()), ()) fun x3 again3 =>
     WIf (decide ((x3.1.1 : Int) < (((ByteArray.size a0) : Nat) : Int))) (WByte a0 (x3.1.1 : Int) fun y4 =>
      WCall Tryz.prog Q 189 #[(.int .u8 (((UInt8.toNat y4) : Nat) : Int))] (WOpen (.one (.l .b)) fun (x5 : Bool) =>
      WIf (!x5) (Q (.returned (.bool false)))
      (again3 (((IntKind.wrap .i64 ((x3.1.1 : Int) + 1)), ()), ()))))
     (Q (.returned (.bool true)))))))

def h110 : Hints := ⟨[], [⟨0, [(3, .i .i64)], [2, 17, 18, 19, 20, 21, 22, 23, 24, 25, 26, 27], []⟩], [], []⟩
theorem tie110 (Q : Ending → W) (a0 : ByteArray) : funW Tryz.prog tab Q h110 Tryz.f110 [.v (.string a0)] = W110 Q a0 := by kernel_rfl

theorem spec110 {Q : Ending → W} {a0 : ByteArray} {H : HP} (h : W110 Q a0 H) : Go.Den.Spec Tryz.prog 110 #[(.string a0)] H Q :=
  specOf (fn := Tryz.f110) (hs := h110) (args := [.v (.string a0)]) (by kernel_rfl) (by kernel_rfl) (by kernel_rfl) rfl (by rw [tie110]; exact h)

/-- beadleref07.fits -/
def W85 (Q : Ending → W) (a0_0 : Int) (a0_1 : ByteArray) (a0_2 : Int) (a0_3 : Int) (a0_4 : Int) (a0_5a : Option Addr) (a0_5n : Nat) (a0_5c : Nat) : W :=
  WJoin (σ := (Unit × Unit)) (fun again1 =>
   WIf (a0_0 == 3) (WCall Tryz.prog Q 149 #[(.string a0_1)] (WOpen (.one (.l .b)) fun (x2 : Bool) =>
    WIf (!x2) (Q (.returned (.bool false)))
    (again1 ((), ()))))
   (again1 ((), ())))
  (fun x1 =>
   WJoin (σ := (Unit × Unit)) (fun again3 =>
    WIf ((((a0_0 == 5) || (a0_0 == 6)) || (a0_0 == 13)) || (a0_0 == 21)) (WCall Tryz.prog Q 110 #[(.string a0_1)] (WOpen (.one (.l .b)) fun (x4 : Bool) =>
     WIf (!x4) (Q (.returned (.bool false)))
     (WIf (!((((a0_0 == 5) || (a0_0 == 6)) || (a0_0 == 13)) || (a0_0 == 21))) (WIf (a0_0 != 3) (WIf (!((ByteArray.toList a0_1) == (ByteArray.toList (ByteArray.mk #[])))) (Q (.returned (.bool false)))
        (again3 ((), ())))
       (again3 ((), ())))
      (again3 ((), ())))))
    (WIf (!((((a0_0 == 5) || (a0_0 == 6)) || (a0_0 == 13)) || (a0_0 == 21))) (WIf (a0_0 != 3) (WIf (!((ByteArray.toList a0_1) == (ByteArray.toList (ByteArray.mk #[])))) (Q (.returned (.bool false)))
       (again3 ((), ())))
      (again3 ((), ())))
     (again3 ((), ()))))
   (fun x3 =>
    WIf ((((a0_0 == 1) && (decide (a0_2 < 0))) || (((a0_0 == 2) && (a0_2 != 0)) && (a0_2 != 1))) || (((a0_0 != 1) && (a0_0 != 2)) && (a0_2 != 0))) (Q (.returned (.bool false)))
    (WIf (((a0_0 == 22) || (a0_0 == 23)) || (a0_0 == 24)) (Q (.returned (.bool ((decide (a0_3 ≥ 0)) && ((a0_4 == (-1)) || (decide (a0_4 ≥ a0_3)))))))
     (WIf (a0_0 == 13) (Q (.returned (.bool ((a0_3 == 0) && (decide (a0_4 ≥ 0))))))
      (Q (.returned (.bool ((a0_3 == 0) && (a0_4 == 0)))))))))

def h85 : Hints := ⟨[], [], [⟨7, [], [2, 29, 30, 31, 32, 33, 34, 35, 36, 37, 38, 39, 40, 41, 42, 43, 44, 45, 46, 47, 48], []⟩, ⟨4, [], [2, 7, 8, 9, 10, 11, 12, 13, 14], []⟩], [1]⟩
theorem tie85 (Q : Ending → W) (a0_0 : Int) (a0_1 : ByteArray) (a0_2 : Int) (a0_3 : Int) (a0_4 : Int) (a0_5a : Option Addr) (a0_5n : Nat) (a0_5c : Nat) : funW Tryz.prog tab Q h85 Tryz.f85 [.v (.agg ⟨[(.int .i64 a0_0), (.string a0_1), (.int .i64 a0_2), (.int .i64 a0_3), (.int .i64 a0_4), (.slice a0_5a a0_5n a0_5c)]⟩)] = W85 Q a0_0 a0_1 a0_2 a0_3 a0_4 a0_5a a0_5n a0_5c := by kernel_rfl

theorem spec85 {Q : Ending → W} {a0_0 : Int} {a0_1 : ByteArray} {a0_2 : Int} {a0_3 : Int} {a0_4 : Int} {a0_5a : Option Addr} {a0_5n : Nat} {a0_5c : Nat} {H : HP} (h : W85 Q a0_0 a0_1 a0_2 a0_3 a0_4 a0_5a a0_5n a0_5c H) : Go.Den.Spec Tryz.prog 85 #[(.agg ⟨[(.int .i64 a0_0), (.string a0_1), (.int .i64 a0_2), (.int .i64 a0_3), (.int .i64 a0_4), (.slice a0_5a a0_5n a0_5c)]⟩)] H Q :=
  specOf (fn := Tryz.f85) (hs := h85) (args := [.v (.agg ⟨[(.int .i64 a0_0), (.string a0_1), (.int .i64 a0_2), (.int .i64 a0_3), (.int .i64 a0_4), (.slice a0_5a a0_5n a0_5c)]⟩)]) (by kernel_rfl) (by kernel_rfl) (by kernel_rfl) rfl (by rw [tie85]; exact h)

/-- beadleref07.Check -/
def W24 (Q : Ending → W) (a0_0 : Int) (a0_1 : ByteArray) (a0_2 : Int) (a0_3 : Int) (a0_4 : Int) (a0_5a : Option Addr) (a0_5n : Nat) (a0_5c : Nat) : W :=
  WCall Tryz.prog Q 82 #[(.agg #[(.int .i64 a0_0), (.string a0_1), (.int .i64 a0_2), (.int .i64 a0_3), (.int .i64 a0_4), (.slice a0_5a a0_5n a0_5c)])] (WOpen (.one (.l (.i .i64))) fun (x1 : Int) =>
  WIf (decide (x1 > 12)) (Q (.returned (.int .i64 32)))
  (WCall Tryz.prog Q 83 #[(.agg #[(.int .i64 a0_0), (.string a0_1), (.int .i64 a0_2), (.int .i64 a0_3), (.int .i64 a0_4), (.slice a0_5a a0_5n a0_5c)])] (WOpen (.one (.l .sl)) fun (x2 : Option Go.Addr) (x2_1 : Nat) (x2_2 : Nat) =>
   WIf (decide ((x2_1 : Int) > 64)) (Q (.returned (.int .i64 3)))
   (WLoop (σ := ((Int × Unit) × Unit)) ((0, ()), ()) fun x3 again3 =>
    WIf (decide ((x3.1.1 : Int) < (x2_1 : Int))) (WIndex x2 x2_1 (x3.1.1 : Int) fun q4 =>
     WLoad (Addr.add (Addr.add q4 ((Int.toNat (x3.1.1 : Int)) * 6)) 0) (.l (.i .i64)) fun (x5 : Int) =>
     WCall Tryz.prog Q 40 #[(.int .i64 x5)] (WOpen (.one (.l (.i .i64))) fun (x6 : Int) =>
     WIf (x6 == (-2)) (Q (.returned (.int .i64 12)))
     (WIf (decide (x6 ≥ 0)) (WIndex x2 x2_1 (x3.1.1 : Int) fun q7 =>
       WLoad (Addr.add (Addr.add q7 ((Int.toNat (x3.1.1 : Int)) * 6)) 5) (.l .sl) fun (x8 : Option Go.Addr) (x8_1 : Nat) (x8_2 : Nat) =>
       WIf ((x8_1 : Int) != x6) (Q (.returned (.int .i64 12)))
       (WIf (x6 == (-1)) (WIndex x2 x2_1 (x3.1.1 : Int) fun q9 =>
         WLoad (Addr.add q9 ((Int.toNat (x3.1.1 : Int)) * 6)) (.agg [(.i .i64), .s, (.i .i64), (.i .i64), (.i .i64), .sl]) fun (x10 : Int) (x10_1 : ByteArray) (x10_2 : Int) (x10_3 : Int) (x10_4 : Int) (x10_5 : Option Go.Addr) (x10_6 : Nat) (x10_7 : Nat) =>
         WCall Tryz.prog Q 84 #[(.agg #[(.int .i64 x10), (.string x10_1), (.int .i64 x10_2), (.int .i64 x10_3), (.int .i64 x10_4), (.slice x10_5 x10_6 x10_7)])] (WOpen (.one (.l .b)) fun (x11 : Bool) =>
         WIf (!x11) (Q (.returned (.int .i64 12)))
         (WIndex x2 x2_1 (x3.1.1 : Int) fun q12 =>
          WLoad (Addr.add q12 ((Int.toNat (x3.1.1 : Int)) * 6)) (.agg [(.i .i64), .s, (.i .i64), (.i .i64), (.i .i64), .sl]) fun (x13 : Int) (x13_1 : ByteArray) (x13_2 : Int) (x13_3 : Int) (x13_4 : Int) (x13_5 : Option Go.Addr) (x13_6 : Nat) (x13_7 : Nat) =>
          WCall Tryz.prog Q 85 #[(.agg #[(.int .i64 x13), (.string x13_1), (.int .i64 x13_2), (.int .i64 x13_3), (.int .i64 x13_4), (.slice x13_5 x13_6 x13_7)])] (WOpen (.one (.l .b)) fun (x14 : Bool) =>
          WIf (!x14) (Q (.returned (.int .i64 12)))
          (again3 (((IntKind.wrap .i64 ((x3.1.1 : Int) + 1)), ()), ()))))))
        (WIndex x2 x2_1 (x3.1.1 : Int) fun q15 =>
         WLoad (Addr.add q15 ((Int.toNat (x3.1.1 : Int)) * 6)) (.agg [(.i .i64), .s, (.i .i64), (.i .i64), (.i .i64), .sl]) fun (x16 : Int) (x16_1 : ByteArray) (x16_2 : Int) (x16_3 : Int) (x16_4 : Int) (x16_5 : Option Go.Addr) (x16_6 : Nat) (x16_7 : Nat) =>
         WCall Tryz.prog Q 85 #[(.agg #[(.int .i64 x16), (.string x16_1), (.int .i64 x16_2), (.int .i64 x16_3), (.int .i64 x16_4), (.slice x16_5 x16_6 x16_7)])] (WOpen (.one (.l .b)) fun (x17 : Bool) =>
         WIf (!x17) (Q (.returned (.int .i64 12)))
         (again3 (((IntKind.wrap .i64 ((x3.1.1 : Int) + 1)), ()), ()))))))
      (WIf (x6 == (-1)) (WIndex x2 x2_1 (x3.1.1 : Int) fun q18 =>
        WLoad (Addr.add q18 ((Int.toNat (x3.1.1 : Int)) * 6)) (.agg [(.i .i64), .s, (.i .i64), (.i .i64), (.i .i64), .sl]) fun (x19 : Int) (x19_1 : ByteArray) (x19_2 : Int) (x19_3 : Int) (x19_4 : Int) (x19_5 : Option Go.Addr) (x19_6 : Nat) (x19_7 : Nat) =>
        WCall Tryz.prog Q 84 #[(.agg #[(.int .i64 x19), (.string x19_1), (.int .i64 x19_2), (.int .i64 x19_3), (.int .i64 x19_4), (.slice x19_5 x19_6 x19_7)])] (WOpen (.one (.l .b)) fun (x20 : Bool) =>
        WIf (!x20) (Q (.returned (.int .i64 12)))
        (WIndex x2 x2_1 (x3.1.1 : Int) fun q21 =>
         WLoad (Addr.add q21 ((Int.toNat (x3.1.1 : Int)) * 6)) (.agg [(.i .i64), .s, (.i .i64), (.i .i64), (.i .i64), .sl]) fun (x22 : Int) (x22_1 : ByteArray) (x22_2 : Int) (x22_3 : Int) (x22_4 : Int) (x22_5 : Option Go.Addr) (x22_6 : Nat) (x22_7 : Nat) =>
         WCall Tryz.prog Q 85 #[(.agg #[(.int .i64 x22), (.string x22_1), (.int .i64 x22_2), (.int .i64 x22_3), (.int .i64 x22_4), (.slice x22_5 x22_6 x22_7)])] (WOpen (.one (.l .b)) fun (x23 : Bool) =>
         WIf (!x23) (Q (.returned (.int .i64 12)))
         (again3 (((IntKind.wrap .i64 ((x3.1.1 : Int) + 1)), ()), ()))))))
       (WIndex x2 x2_1 (x3.1.1 : Int) fun q24 =>
        WLoad (Addr.add q24 ((Int.toNat (x3.1.1 : Int)) * 6)) (.agg [(.i .i64), .s, (.i .i64), (.i .i64), (.i .i64), .sl]) fun (x25 : Int) (x25_1 : ByteArray) (x25_2 : Int) (x25_3 : Int) (x25_4 : Int) (x25_5 : Option Go.Addr) (x25_6 : Nat) (x25_7 : Nat) =>
        WCall Tryz.prog Q 85 #[(.agg #[(.int .i64 x25), (.string x25_1), (.int .i64 x25_2), (.int .i64 x25_3), (.int .i64 x25_4), (.slice x25_5 x25_6 x25_7)])] (WOpen (.one (.l .b)) fun (x26 : Bool) =>
        WIf (!x26) (Q (.returned (.int .i64 12)))
        (again3 (((IntKind.wrap .i64 ((x3.1.1 : Int) + 1)), ()), ()))))))))
    (Q (.returned (.int .i64 0)))))))

def h24 : Hints := ⟨[], [⟨0, [(4, .i .i64)], [2, 5, 14, 15, 16, 17, 18, 19, 20, 21, 22, 23, 24, 25, 26, 27, 28, 29, 30, 31, 32, 33, 34, 35, 36, 37, 38, 39, 40, 41, 42, 43, 44, 45, 46, 47, 48, 49, 50, 51, 52, 53, 54, 55, 56, 57, 58, 59, 60, 61], []⟩], [], [1]⟩
theorem tie24 (Q : Ending → W) (a0_0 : Int) (a0_1 : ByteArray) (a0_2 : Int) (a0_3 : Int) (a0_4 : Int) (a0_5a : Option Addr) (a0_5n : Nat) (a0_5c : Nat) : funW Tryz.prog tab Q h24 Tryz.f24 [.v (.agg ⟨[(.int .i64 a0_0), (.string a0_1), (.int .i64 a0_2), (.int .i64 a0_3), (.int .i64 a0_4), (.slice a0_5a a0_5n a0_5c)]⟩)] = W24 Q a0_0 a0_1 a0_2 a0_3 a0_4 a0_5a a0_5n a0_5c := by kernel_rfl

theorem spec24 {Q : Ending → W} {a0_0 : Int} {a0_1 : ByteArray} {a0_2 : Int} {a0_3 : Int} {a0_4 : Int} {a0_5a : Option Addr} {a0_5n : Nat} {a0_5c : Nat} {H : HP} (h : W24 Q a0_0 a0_1 a0_2 a0_3 a0_4 a0_5a a0_5n a0_5c H) : Go.Den.Spec Tryz.prog 24 #[(.agg ⟨[(.int .i64 a0_0), (.string a0_1), (.int .i64 a0_2), (.int .i64 a0_3), (.int .i64 a0_4), (.slice a0_5a a0_5n a0_5c)]⟩)] H Q :=
  specOf (fn := Tryz.f24) (hs := h24) (args := [.v (.agg ⟨[(.int .i64 a0_0), (.string a0_1), (.int .i64 a0_2), (.int .i64 a0_3), (.int .i64 a0_4), (.slice a0_5a a0_5n a0_5c)]⟩)]) (by kernel_rfl) (by kernel_rfl) (by kernel_rfl) rfl (by rw [tie24]; exact h)

/-- bound.walk -/
def W86 (Q : Ending → W) (a0_0 : Int) (a0_1 : ByteArray) (a0_2 : Int) (a0_3 : Int) (a0_4 : Int) (a0_5a : Option Addr) (a0_5n : Nat) (a0_5c : Nat) (a1g : FuncId) (a1c : List Value) : W :=
  WCall Tryz.prog Q a1g ⟨[(.agg #[(.int .i64 a0_0), (.string a0_1), (.int .i64 a0_2), (.int .i64 a0_3), (.int .i64 a0_4), (.slice a0_5a a0_5n a0_5c)])] ++ a1c⟩ (WOpen (.tup []) <|
  WIf (a0_0 == 4) (Q (.returned (.tuple #[])))
  (WLoop (σ := ((Int × Unit) × Unit)) ((0, ()), ()) fun x2 again2 =>
   WIf (decide ((x2.1.1 : Int) < (a0_5n : Int))) (WIndex a0_5a a0_5n (x2.1.1 : Int) fun q3 =>
    WLoad (Addr.add q3 ((Int.toNat (x2.1.1 : Int)) * 6)) (.agg [(.i .i64), .s, (.i .i64), (.i .i64), (.i .i64), .sl]) fun (x4 : Int) (x4_1 : ByteArray) (x4_2 : Int) (x4_3 : Int) (x4_4 : Int) (x4_5 : Option Go.Addr) (x4_6 : Nat) (x4_7 : Nat) =>
    WCall Tryz.prog Q 86 #[(.agg #[(.int .i64 x4), (.string x4_1), (.int .i64 x4_2), (.int .i64 x4_3), (.int .i64 x4_4), (.slice x4_5 x4_6 x4_7)]), (.func (.func a1g) #[] ⟨[] ++ a1c⟩)] (WOpen (.tup []) <|
    again2 (((IntKind.wrap .i64 ((x2.1.1 : Int) + 1)), ()), ())))
   (Q (.returned (.tuple #[])))))

def h86 : Hints := ⟨[], [⟨0, [(15, .i .i64)], [5, 16, 17, 18, 19, 20, 21, 22], []⟩], [], [2, 5]⟩
theorem tie86 (Q : Ending → W) (a0_0 : Int) (a0_1 : ByteArray) (a0_2 : Int) (a0_3 : Int) (a0_4 : Int) (a0_5a : Option Addr) (a0_5n : Nat) (a0_5c : Nat) (a1g : FuncId) (a1c : List Value) : funW Tryz.prog tab Q h86 Tryz.f86 [.v (.agg ⟨[(.int .i64 a0_0), (.string a0_1), (.int .i64 a0_2), (.int .i64 a0_3), (.int .i64 a0_4), (.slice a0_5a a0_5n a0_5c)]⟩), .v (.func (.func a1g) #[] ⟨a1c⟩)] = W86 Q a0_0 a0_1 a0_2 a0_3 a0_4 a0_5a a0_5n a0_5c a1g a1c := by kernel_rfl

theorem spec86 {Q : Ending → W} {a0_0 : Int} {a0_1 : ByteArray} {a0_2 : Int} {a0_3 : Int} {a0_4 : Int} {a0_5a : Option Addr} {a0_5n : Nat} {a0_5c : Nat} {a1g : FuncId} {a1c : List Value} {H : HP} (h : W86 Q a0_0 a0_1 a0_2 a0_3 a0_4 a0_5a a0_5n a0_5c a1g a1c H) : Go.Den.Spec Tryz.prog 86 #[(.agg ⟨[(.int .i64 a0_0), (.string a0_1), (.int .i64 a0_2), (.int .i64 a0_3), (.int .i64 a0_4), (.slice a0_5a a0_5n a0_5c)]⟩), (.func (.func a1g) #[] ⟨a1c⟩)] H Q :=
  specOf (fn := Tryz.f86) (hs := h86) (args := [.v (.agg ⟨[(.int .i64 a0_0), (.string a0_1), (.int .i64 a0_2), (.int .i64 a0_3), (.int .i64 a0_4), (.slice a0_5a a0_5n a0_5c)]⟩), .v (.func (.func a1g) #[] ⟨a1c⟩)]) (by kernel_rfl) (by kernel_rfl) (by kernel_rfl) rfl (by rw [tie86]; exact h)

/-- bound.Longest -/
def W25 (Q : Ending → W) (a0_0 : Int) (a0_1 : ByteArray) (a0_2 : Int) (a0_3 : Int) (a0_4 : Int) (a0_5a : Option Addr) (a0_5n : Nat) (a0_5c : Nat) : W :=
  WNew [(.int .i64 0)] 2 fun z1 =>
  WStore ⟨z1, 0, none⟩ [(.int .i64 0)] <|
  WCall Tryz.prog Q 86 #[(.agg #[(.int .i64 a0_0), (.string a0_1), (.int .i64 a0_2), (.int .i64 a0_3), (.int .i64 a0_4), (.slice a0_5a a0_5n a0_5c)]), (.func (.func 87) #[] #[(.pointer (some ⟨z1, 0, none⟩))])] (WOpen (.tup []) <|
  WLoad ⟨z1, 0, none⟩ (.l (.i .i64)) fun (x3 : Int) =>
  Q (.returned (.int .i64 x3)))

def h25 : Hints := ⟨[3], [], [], [1]⟩
theorem tie25 (Q : Ending → W) (a0_0 : Int) (a0_1 : ByteArray) (a0_2 : Int) (a0_3 : Int) (a0_4 : Int) (a0_5a : Option Addr) (a0_5n : Nat) (a0_5c : Nat) : funW Tryz.prog tab Q h25 Tryz.f25 [.v (.agg ⟨[(.int .i64 a0_0), (.string a0_1), (.int .i64 a0_2), (.int .i64 a0_3), (.int .i64 a0_4), (.slice a0_5a a0_5n a0_5c)]⟩)] = W25 Q a0_0 a0_1 a0_2 a0_3 a0_4 a0_5a a0_5n a0_5c := by kernel_rfl

theorem spec25 {Q : Ending → W} {a0_0 : Int} {a0_1 : ByteArray} {a0_2 : Int} {a0_3 : Int} {a0_4 : Int} {a0_5a : Option Addr} {a0_5n : Nat} {a0_5c : Nat} {H : HP} (h : W25 Q a0_0 a0_1 a0_2 a0_3 a0_4 a0_5a a0_5n a0_5c H) : Go.Den.Spec Tryz.prog 25 #[(.agg ⟨[(.int .i64 a0_0), (.string a0_1), (.int .i64 a0_2), (.int .i64 a0_3), (.int .i64 a0_4), (.slice a0_5a a0_5n a0_5c)]⟩)] H Q :=
  specOf (fn := Tryz.f25) (hs := h25) (args := [.v (.agg ⟨[(.int .i64 a0_0), (.string a0_1), (.int .i64 a0_2), (.int .i64 a0_3), (.int .i64 a0_4), (.slice a0_5a a0_5n a0_5c)]⟩)]) (by kernel_rfl) (by kernel_rfl) (by kernel_rfl) rfl (by rw [tie25]; exact h)

/-- beadleplain.Few -/
def W26 (Q : Ending → W) (a0a : Option Addr) (a0n : Nat) (a0c : Nat) (a1 : Int) : W :=
  WIf (decide ((a0n : Int) > a1)) (WReq (((0 : Int) ≤ 0) ∧ (((0 : Int) ≤ a1) ∧ (a1 ≤ (a0c : Int)))) <|
   Q (.returned (.slice (if (a0c = 0) then a0a else (Option.map (fun x => (Addr.add x 0)) a0a)) ((Int.toNat a1) - 0) (a0c - 0))))
  (Q (.returned (.slice a0a a0n a0c)))

def h26 : Hints := ⟨[], [], [], []⟩
theorem tie26 (Q : Ending → W) (a0a : Option Addr) (a0n : Nat) (a0c : Nat) (a1 : Int) : funW Tryz.prog tab Q h26 Tryz.f26 [.v (.slice a0a a0n a0c), .v (.int .i64 a1)] = W26 Q a0a a0n a0c a1 := by kernel_rfl

theorem spec26 {Q : Ending → W} {a0a : Option Addr} {a0n : Nat} {a0c : Nat} {a1 : Int} {H : HP} (h : W26 Q a0a a0n a0c a1 H) : Go.Den.Spec Tryz.prog 26 #[(.slice a0a a0n a0c), (.int .i64 a1)] H Q :=
  specOf (fn := Tryz.f26) (hs := h26) (args := [.v (.slice a0a a0n a0c), .v (.int .i64 a1)]) (by kernel_rfl) (by kernel_rfl) (by kernel_rfl) rfl (by rw [tie26]; exact h)

/-- beadlelaw18.moment -/
def W28 (Q : Ending → W) (a0_0 : Int) (a0_1 : ByteArray) (a0_2 : ByteArray) (a0_3 : ByteArray) (a0_4 : ByteArray) (a0_5 : ByteArray) (a0_6 : Int) (a0_7 : Int) (a0_8 : ByteArray) (a0_9a : Option Addr) (a0_9n : Nat) (a0_9c : Nat) : W :=
  Q (.returned (.agg #[(.int .i64 a0_0), (.string a0_1), (.string a0_2), (.string a0_3)]))

def h28 : Hints := ⟨[], [], [], [1, 2]⟩
theorem tie28 (Q : Ending → W) (a0_0 : Int) (a0_1 : ByteArray) (a0_2 : ByteArray) (a0_3 : ByteArray) (a0_4 : ByteArray) (a0_5 : ByteArray) (a0_6 : Int) (a0_7 : Int) (a0_8 : ByteArray) (a0_9a : Option Addr) (a0_9n : Nat) (a0_9c : Nat) : funW Tryz.prog tab Q h28 Tryz.f28 [.v (.agg ⟨[(.int .i64 a0_0), (.string a0_1), (.string a0_2), (.string a0_3), (.string a0_4), (.string a0_5), (.int .i64 a0_6), (.int .i64 a0_7), (.string a0_8), (.slice a0_9a a0_9n a0_9c)]⟩)] = W28 Q a0_0 a0_1 a0_2 a0_3 a0_4 a0_5 a0_6 a0_7 a0_8 a0_9a a0_9n a0_9c := by kernel_rfl

theorem spec28 {Q : Ending → W} {a0_0 : Int} {a0_1 : ByteArray} {a0_2 : ByteArray} {a0_3 : ByteArray} {a0_4 : ByteArray} {a0_5 : ByteArray} {a0_6 : Int} {a0_7 : Int} {a0_8 : ByteArray} {a0_9a : Option Addr} {a0_9n : Nat} {a0_9c : Nat} {H : HP} (h : W28 Q a0_0 a0_1 a0_2 a0_3 a0_4 a0_5 a0_6 a0_7 a0_8 a0_9a a0_9n a0_9c H) : Go.Den.Spec Tryz.prog 28 #[(.agg ⟨[(.int .i64 a0_0), (.string a0_1), (.string a0_2), (.string a0_3), (.string a0_4), (.string a0_5), (.int .i64 a0_6), (.int .i64 a0_7), (.string a0_8), (.slice a0_9a a0_9n a0_9c)]⟩)] H Q :=
  specOf (fn := Tryz.f28) (hs := h28) (args := [.v (.agg ⟨[(.int .i64 a0_0), (.string a0_1), (.string a0_2), (.string a0_3), (.string a0_4), (.string a0_5), (.int .i64 a0_6), (.int .i64 a0_7), (.string a0_8), (.slice a0_9a a0_9n a0_9c)]⟩)]) (by kernel_rfl) (by kernel_rfl) (by kernel_rfl) rfl (by rw [tie28]; exact h)

/-- bound.Cells -/
def W93 (Q : Ending → W) (a0_0 : Int) (a0_1 : ByteArray) (a0_2 : Int) (a0_3 : Int) (a0_4 : Int) (a0_5a : Option Addr) (a0_5n : Nat) (a0_5c : Nat) : W :=
  WNew [(.int .i64 0)] 3 fun z1 =>
  WStore ⟨z1, 0, none⟩ [(.int .i64 0)] <|
  WCall Tryz.prog Q 86 #[(.agg #[(.int .i64 a0_0), (.string a0_1), (.int .i64 a0_2), (.int .i64 a0_3), (.int .i64 a0_4), (.slice a0_5a a0_5n a0_5c)]), (.func (.func 153) #[] #[(.pointer (some ⟨z1, 0, none⟩))])] (WOpen (.tup []) <|
  WLoad ⟨z1, 0, none⟩ (.l (.i .i64)) fun (x3 : Int) =>
  Q (.returned (.int .i64 x3)))

def h93 : Hints := ⟨[3], [], [], [1]⟩
theorem tie93 (Q : Ending → W) (a0_0 : Int) (a0_1 : ByteArray) (a0_2 : Int) (a0_3 : Int) (a0_4 : Int) (a0_5a : Option Addr) (a0_5n : Nat) (a0_5c : Nat) : funW Tryz.prog tab Q h93 Tryz.f93 [.v (.agg ⟨[(.int .i64 a0_0), (.string a0_1), (.int .i64 a0_2), (.int .i64 a0_3), (.int .i64 a0_4), (.slice a0_5a a0_5n a0_5c)]⟩)] = W93 Q a0_0 a0_1 a0_2 a0_3 a0_4 a0_5a a0_5n a0_5c := by kernel_rfl

theorem spec93 {Q : Ending → W} {a0_0 : Int} {a0_1 : ByteArray} {a0_2 : Int} {a0_3 : Int} {a0_4 : Int} {a0_5a : Option Addr} {a0_5n : Nat} {a0_5c : Nat} {H : HP} (h : W93 Q a0_0 a0_1 a0_2 a0_3 a0_4 a0_5a a0_5n a0_5c H) : Go.Den.Spec Tryz.prog 93 #[(.agg ⟨[(.int .i64 a0_0), (.string a0_1), (.int .i64 a0_2), (.int .i64 a0_3), (.int .i64 a0_4), (.slice a0_5a a0_5n a0_5c)]⟩)] H Q :=
  specOf (fn := Tryz.f93) (hs := h93) (args := [.v (.agg ⟨[(.int .i64 a0_0), (.string a0_1), (.int .i64 a0_2), (.int .i64 a0_3), (.int .i64 a0_4), (.slice a0_5a a0_5n a0_5c)]⟩)]) (by kernel_rfl) (by kernel_rfl) (by kernel_rfl) rfl (by rw [tie93]; exact h)

/-- bound.Most -/
def W30 (Q : Ending → W) (a0_0 : Int) (a0_1 : ByteArray) (a0_2 : Int) (a0_3 : Int) (a0_4 : Int) (a0_5a : Option Addr) (a0_5n : Nat) (a0_5c : Nat) (a1 : Int) : W :=
  WCall Tryz.prog Q 93 #[(.agg #[(.int .i64 a0_0), (.string a0_1), (.int .i64 a0_2), (.int .i64 a0_3), (.int .i64 a0_4), (.slice a0_5a a0_5n a0_5c)])] (WOpen (.one (.l (.i .i64))) fun (x1 : Int) =>
  Q (.returned (.int .i64 (IntKind.wrap .i64 (x1 * (IntKind.wrap .i64 ((if ((32768 : Int) < (if (a1 < 0) then 0 else a1)) then 32768 else (if (a1 < 0) then 0 else a1)) + 1)))))))

def h30 : Hints := ⟨[], [], [], [2]⟩
theorem tie30 (Q : Ending → W) (a0_0 : Int) (a0_1 : ByteArray) (a0_2 : Int) (a0_3 : Int) (a0_4 : Int) (a0_5a : Option Addr) (a0_5n : Nat) (a0_5c : Nat) (a1 : Int) : funW Tryz.prog tab Q h30 Tryz.f30 [.v (.agg ⟨[(.int .i64 a0_0), (.string a0_1), (.int .i64 a0_2), (.int .i64 a0_3), (.int .i64 a0_4), (.slice a0_5a a0_5n a0_5c)]⟩), .v (.int .i64 a1)] = W30 Q a0_0 a0_1 a0_2 a0_3 a0_4 a0_5a a0_5n a0_5c a1 := by kernel_rfl

theorem spec30 {Q : Ending → W} {a0_0 : Int} {a0_1 : ByteArray} {a0_2 : Int} {a0_3 : Int} {a0_4 : Int} {a0_5a : Option Addr} {a0_5n : Nat} {a0_5c : Nat} {a1 : Int} {H : HP} (h : W30 Q a0_0 a0_1 a0_2 a0_3 a0_4 a0_5a a0_5n a0_5c a1 H) : Go.Den.Spec Tryz.prog 30 #[(.agg ⟨[(.int .i64 a0_0), (.string a0_1), (.int .i64 a0_2), (.int .i64 a0_3), (.int .i64 a0_4), (.slice a0_5a a0_5n a0_5c)]⟩), (.int .i64 a1)] H Q :=
  specOf (fn := Tryz.f30) (hs := h30) (args := [.v (.agg ⟨[(.int .i64 a0_0), (.string a0_1), (.int .i64 a0_2), (.int .i64 a0_3), (.int .i64 a0_4), (.slice a0_5a a0_5n a0_5c)]⟩), .v (.int .i64 a1)]) (by kernel_rfl) (by kernel_rfl) (by kernel_rfl) rfl (by rw [tie30]; exact h)

/-- beadlelaw18.MonitorBounded -/
def W3 (Q : Ending → W) (a0_0 : Int) (a0_1 : ByteArray) (a0_2 : Int) (a0_3 : Int) (a0_4 : Int) (a0_5a : Option Addr) (a0_5n : Nat) (a0_5c : Nat) (a1a : Option Addr) (a1n : Nat) (a1c : Nat) (a2a : Option Addr) (a2n : Nat) (a2c : Nat) : W :=
  WCall Tryz.prog Q 21 #[] (WOpen (.one (.l .b)) fun (x1 : Bool) =>
  WIf (!x1) (Q (.returned (.bool false)))
  (WCall Tryz.prog Q 22 #[(.agg #[(.int .i64 a0_0), (.string a0_1), (.int .i64 a0_2), (.int .i64 a0_3), (.int .i64 a0_4), (.slice a0_5a a0_5n a0_5c)])] (WOpen (.one (.l .p)) fun (x2 : Option Go.Addr) =>
   WCall Tryz.prog Q 23 #[(.slice a1a a1n a1c)] (WOpen (.one (.l .p)) fun (x3 : Option Go.Addr) =>
   WIf (Option.isNone x2) (WCall Tryz.prog Q 24 #[(.agg #[(.int .i64 a0_0), (.string a0_1), (.int .i64 a0_2), (.int .i64 a0_3), (.int .i64 a0_4), (.slice a0_5a a0_5n a0_5c)])] (WOpen (.one (.l (.i .i64))) fun (x4 : Int) =>
    Q (.returned (.bool (x4 != 0)))))
   (WCall Tryz.prog Q 25 #[(.agg #[(.int .i64 a0_0), (.string a0_1), (.int .i64 a0_2), (.int .i64 a0_3), (.int .i64 a0_4), (.slice a0_5a a0_5n a0_5c)])] (WOpen (.one (.l (.i .i64))) fun (x5 : Int) =>
    WCall Tryz.prog Q 26 #[(.slice a2a a2n a2c), (.int .i64 40)] (WOpen (.one (.l .sl)) fun (x6 : Option Go.Addr) (x6_1 : Nat) (x6_2 : Nat) =>
    WLoop (σ := (((Option Go.Addr × (Nat × Nat)) × (Int × (Int × Unit))) × Unit)) (((none, (0, 0)), (0, (0, ()))), ()) fun x7 again7 =>
    WIf (decide ((x7.1.2.2.1 : Int) < (x6_1 : Int))) (WIndex x6 x6_1 (x7.1.2.2.1 : Int) fun q8 =>
     WLoad (Addr.add q8 ((Int.toNat (x7.1.2.2.1 : Int)) * 10)) (.agg [(.i .i64), .s, .s, .s, .s, .s, (.i .i64), (.i .i64), .s, .sl]) fun (x9 : Int) (x9_1 : ByteArray) (x9_2 : ByteArray) (x9_3 : ByteArray) (x9_4 : ByteArray) (x9_5 : ByteArray) (x9_6 : Int) (x9_7 : Int) (x9_8 : ByteArray) (x9_9 : Option Go.Addr) (x9_10 : Nat) (x9_11 : Nat) =>
     WCall Tryz.prog Q 28 #[(.agg #[(.int .i64 x9), (.string x9_1), (.string x9_2), (.string x9_3), (.string x9_4), (.string x9_5), (.int .i64 x9_6), (.int .i64 x9_7), (.string x9_8), (.slice x9_9 x9_10 x9_11)])] (WOpen (.one (.agg [(.i .i64), .s, .s, .s])) fun (x10 : Int) (x10_1 : ByteArray) (x10_2 : ByteArray) (x10_3 : ByteArray) =>
     WCall Tryz.prog Q 27 #[(.pointer x2), (.pointer x3), (.agg #[(.int .i64 x10), (.string x10_1), (.string x10_2), (.string x10_3)])] (WOpen (.tup [(.agg [(.i .i64), (.i .i64), .s, .sl]), (.l (.i .i64))]) fun (x11 : Int) (x11_1 : Int) (x11_2 : ByteArray) (x11_3 : Option Go.Addr) (x11_4 : Nat) (x11_5 : Nat) (x11_6 : Int) =>
     WIf (x11_6 != 0) (Q (.returned (.bool true)))
     (WJoin (σ := (((Option Go.Addr × (Nat × Nat)) × (Int × Unit)) × Unit)) (fun again12 =>
       WIndex x6 x6_1 (x7.1.2.2.1 : Int) fun q13 =>
       WLoad (Addr.add (Addr.add q13 ((Int.toNat (x7.1.2.2.1 : Int)) * 10)) 0) (.l (.i .i64)) fun (x14 : Int) =>
       WIf ((((x7.1.1.2.1 : Nat) : Nat) : Int) == 0) (WNew [(.int .i64 (if ((x7.1.2.1 : Int) < x14) then x14 else (x7.1.2.1 : Int)))] 2 fun z15 =>
        WPrim Tryz.prog (Builtin.append_ #[34, 34] 34 #[(.slice (x7.1.1.1 : Option Go.Addr) (x7.1.1.2.1 : Nat) (x7.1.1.2.2 : Nat)), (.slice (some ⟨z15, 0, none⟩) 1 1)]) (WOpen (.one (.l .sl)) fun (x16 : Option Go.Addr) (x16_1 : Nat) (x16_2 : Nat) =>
        again12 (((x16, (x16_1, x16_2)), ((if ((x7.1.2.1 : Int) < x14) then x14 else (x7.1.2.1 : Int)), ())), ())))
       (WIndex (x7.1.1.1 : Option Go.Addr) (x7.1.1.2.1 : Nat) (IntKind.wrap .i64 ((((x7.1.1.2.1 : Nat) : Nat) : Int) - 1)) fun q17 =>
        WLoad (Addr.add q17 ((Int.toNat (IntKind.wrap .i64 ((((x7.1.1.2.1 : Nat) : Nat) : Int) - 1))) * 1)) (.l (.i .i64)) fun (x18 : Int) =>
        WIf (x18 != (if ((x7.1.2.1 : Int) < x14) then x14 else (x7.1.2.1 : Int))) (WNew [(.int .i64 (if ((x7.1.2.1 : Int) < x14) then x14 else (x7.1.2.1 : Int)))] 2 fun z19 =>
         WPrim Tryz.prog (Builtin.append_ #[34, 34] 34 #[(.slice (x7.1.1.1 : Option Go.Addr) (x7.1.1.2.1 : Nat) (x7.1.1.2.2 : Nat)), (.slice (some ⟨z19, 0, none⟩) 1 1)]) (WOpen (.one (.l .sl)) fun (x20 : Option Go.Addr) (x20_1 : Nat) (x20_2 : Nat) =>
         again12 (((x20, (x20_1, x20_2)), ((if ((x7.1.2.1 : Int) < x14) then x14 else (x7.1.2.1 : Int)), ())), ())))
        (again12 ((((x7.1.1.1 : Option Go.Addr), ((x7.1.1.2.1 : Nat), (x7.1.1.2.2 : Nat))), ((if ((x7.1.2.1 : Int) < x14) then x14 else (x7.1.2.1 : Int)), ())), ()))))
      (fun x12 =>
       WLoop (σ := ((Int × (Int × Unit)) × Unit)) ((0, (0, ())), ()) fun x21 again21 =>
       WIf (decide ((x21.1.2.1 : Int) < (((x12.1.1.2.1 : Nat) : Nat) : Int))) (WIndex (x12.1.1.1 : Option Go.Addr) (x12.1.1.2.1 : Nat) (x21.1.2.1 : Int) fun q22 =>
        WLoad (Addr.add q22 ((Int.toNat (x21.1.2.1 : Int)) * 1)) (.l (.i .i64)) fun (x23 : Int) =>
        WIf (decide ((IntKind.wrap .i64 ((x12.1.2.1 : Int) - x23)) ≤ x5)) (again21 (((IntKind.wrap .i64 ((x21.1.1 : Int) + 1)), ((IntKind.wrap .i64 ((x21.1.2.1 : Int) + 1)), ())), ()))
        (again21 (((x21.1.1 : Int), ((IntKind.wrap .i64 ((x21.1.2.1 : Int) + 1)), ())), ())))
       (WCall Tryz.prog Q 29 #[(.pointer x2)] (WOpen (.one (.l (.i .i64))) fun (x24 : Int) =>
        WCall Tryz.prog Q 30 #[(.agg #[(.int .i64 a0_0), (.string a0_1), (.int .i64 a0_2), (.int .i64 a0_3), (.int .i64 a0_4), (.slice a0_5a a0_5n a0_5c)]), (.int .i64 (x21.1.1 : Int))] (WOpen (.one (.l (.i .i64))) fun (x25 : Int) =>
        WIf (decide (x24 > x25)) (Q (.returned (.bool false)))
        (again7 ((((x12.1.1.1 : Option Go.Addr), ((x12.1.1.2.1 : Nat), (x12.1.1.2.2 : Nat))), ((x12.1.2.1 : Int), ((IntKind.wrap .i64 ((x7.1.2.2.1 : Int) + 1)), ()))), ()))))))))))
    (Q (.returned (.bool true))))))))))

def h3 : Hints := ⟨[], [⟨2, [(15, .i .i64), (16, .i .i64)], [75, 76, 77, 78, 79, 80, 81, 82, 83, 84, 85, 86, 87, 88, 89, 90], []⟩, ⟨0, [(10, .sl), (11, .i .i64), (12, .i .i64)], [6, 13, 14, 15, 16, 32, 33, 34, 35, 36, 37, 38, 39, 40, 41, 42, 43, 44, 45, 46, 47, 48, 49, 50, 51, 52, 53, 54, 55, 56, 57, 58, 59, 60, 61, 62, 63, 64, 65, 66, 67, 68, 69, 70, 71, 72, 73, 74, 75, 76, 77, 78, 79, 80, 81, 82, 83, 84, 85, 86, 87, 88, 89, 90, 91, 92, 93, 94, 95, 96], []⟩], [⟨19, [(10, .sl), (11, .i .i64)], [51, 52, 53, 54, 55, 56, 57, 58, 59, 60, 61, 62, 63, 64, 65, 66, 67, 68, 69, 70, 71, 72, 73, 74], []⟩], [3, 13]⟩
theorem tie3 (Q : Ending → W) (a0_0 : Int) (a0_1 : ByteArray) (a0_2 : Int) (a0_3 : Int) (a0_4 : Int) (a0_5a : Option Addr) (a0_5n : Nat) (a0_5c : Nat) (a1a : Option Addr) (a1n : Nat) (a1c : Nat) (a2a : Option Addr) (a2n : Nat) (a2c : Nat) : funW Tryz.prog tab Q h3 Tryz.f3 [.v (.agg ⟨[(.int .i64 a0_0), (.string a0_1), (.int .i64 a0_2), (.int .i64 a0_3), (.int .i64 a0_4), (.slice a0_5a a0_5n a0_5c)]⟩), .v (.slice a1a a1n a1c), .v (.slice a2a a2n a2c)] = W3 Q a0_0 a0_1 a0_2 a0_3 a0_4 a0_5a a0_5n a0_5c a1a a1n a1c a2a a2n a2c := by kernel_rfl

theorem spec3 {Q : Ending → W} {a0_0 : Int} {a0_1 : ByteArray} {a0_2 : Int} {a0_3 : Int} {a0_4 : Int} {a0_5a : Option Addr} {a0_5n : Nat} {a0_5c : Nat} {a1a : Option Addr} {a1n : Nat} {a1c : Nat} {a2a : Option Addr} {a2n : Nat} {a2c : Nat} {H : HP} (h : W3 Q a0_0 a0_1 a0_2 a0_3 a0_4 a0_5a a0_5n a0_5c a1a a1n a1c a2a a2n a2c H) : Go.Den.Spec Tryz.prog 3 #[(.agg ⟨[(.int .i64 a0_0), (.string a0_1), (.int .i64 a0_2), (.int .i64 a0_3), (.int .i64 a0_4), (.slice a0_5a a0_5n a0_5c)]⟩), (.slice a1a a1n a1c), (.slice a2a a2n a2c)] H Q :=
  specOf (fn := Tryz.f3) (hs := h3) (args := [.v (.agg ⟨[(.int .i64 a0_0), (.string a0_1), (.int .i64 a0_2), (.int .i64 a0_3), (.int .i64 a0_4), (.slice a0_5a a0_5n a0_5c)]⟩), .v (.slice a1a a1n a1c), .v (.slice a2a a2n a2c)]) (by kernel_rfl) (by kernel_rfl) (by kernel_rfl) rfl (by rw [tie3]; exact h)

/-- value.long -/
def W190 (Q : Ending → W) (a0 : ByteArray) : W :=
  Q (.returned (.bool (decide ((((ByteArray.size a0) : Nat) : Int) > 32))))

def h190 : Hints := ⟨[], [], [], []⟩
theorem tie190 (Q : Ending → W) (a0 : ByteArray) : funW Tryz.prog tab Q h190 Tryz.f190 [.v (.string a0)] = W190 Q a0 := by kernel_rfl

theorem spec190 {Q : Ending → W} {a0 : ByteArray} {H : HP} (h : W190 Q a0 H) : Go.Den.Spec Tryz.prog 190 #[(.string a0)] H Q :=
  specOf (fn := Tryz.f190) (hs := h190) (args := [.v (.string a0)]) (by kernel_rfl) (by kernel_rfl) (by kernel_rfl) rfl (by rw [tie190]; exact h)

/-- slices.IndexFunc[[]string,string] -/
def W244 (Q : Ending → W) (a0a : Option Addr) (a0n : Nat) (a0c : Nat) (a1g : FuncId) (a1c : List Value) : W :=
  WLoop (σ := ((Int × Unit) × Unit)) ((0, ()), ()) fun x1 again1 =>
  WIf (decide ((x1.1.1 : Int) < (a0n : Int))) (WIndex a0a a0n (x1.1.1 : Int) fun q2 =>
   WLoad (Addr.add q2 ((Int.toNat (x1.1.1 : Int)) * 1)) (.l .s) fun (x3 : ByteArray) =>
   WCall Tryz.prog Q a1g ⟨[(.string x3)] ++ a1c⟩ (WOpen (.one (.l .b)) fun (x4 : Bool) =>
   WIf x4 (Q (.returned (.int .i64 (x1.1.1 : Int))))
   (again1 (((IntKind.wrap .i64 ((x1.1.1 : Int) + 1)), ()), ()))))
  (Q (.returned (.int .i64 (-1))))

def h244 : Hints := ⟨[], [⟨0, [(8, .i .i64)], [4, 5, 9, 10, 11, 12, 13, 14, 15, 16, 17, 18], []⟩], [], []⟩
theorem tie244 (Q : Ending → W) (a0a : Option Addr) (a0n : Nat) (a0c : Nat) (a1g : FuncId) (a1c : List Value) : funW Tryz.prog tab Q h244 Tryz.f244 [.v (.slice a0a a0n a0c), .v (.func (.func a1g) #[] ⟨a1c⟩)] = W244 Q a0a a0n a0c a1g a1c := by kernel_rfl

theorem spec244 {Q : Ending → W} {a0a : Option Addr} {a0n : Nat} {a0c : Nat} {a1g : FuncId} {a1c : List Value} {H : HP} (h : W244 Q a0a a0n a0c a1g a1c H) : Go.Den.Spec Tryz.prog 244 #[(.slice a0a a0n a0c), (.func (.func a1g) #[] ⟨a1c⟩)] H Q :=
  specOf (fn := Tryz.f244) (hs := h244) (args := [.v (.slice a0a a0n a0c), .v (.func (.func a1g) #[] ⟨a1c⟩)]) (by kernel_rfl) (by kernel_rfl) (by kernel_rfl) rfl (by rw [tie244]; exact h)

/-- slices.ContainsFunc[[]string,string] -/
def W191 (Q : Ending → W) (a0a : Option Addr) (a0n : Nat) (a0c : Nat) (a1g : FuncId) (a1c : List Value) : W :=
  WCall Tryz.prog Q 244 #[(.slice a0a a0n a0c), (.func (.func a1g) #[] ⟨[] ++ a1c⟩)] (WOpen (.one (.l (.i .i64))) fun (x1 : Int) =>
  Q (.returned (.bool (decide (x1 ≥ 0)))))

def h191 : Hints := ⟨[], [], [], []⟩
theorem tie191 (Q : Ending → W) (a0a : Option Addr) (a0n : Nat) (a0c : Nat) (a1g : FuncId) (a1c : List Value) : funW Tryz.prog tab Q h191 Tryz.f191 [.v (.slice a0a a0n a0c), .v (.func (.func a1g) #[] ⟨a1c⟩)] = W191 Q a0a a0n a0c a1g a1c := by kernel_rfl

theorem spec191 {Q : Ending → W} {a0a : Option Addr} {a0n : Nat} {a0c : Nat} {a1g : FuncId} {a1c : List Value} {H : HP} (h : W191 Q a0a a0n a0c a1g a1c H) : Go.Den.Spec Tryz.prog 191 #[(.slice a0a a0n a0c), (.func (.func a1g) #[] ⟨a1c⟩)] H Q :=
  specOf (fn := Tryz.f191) (hs := h191) (args := [.v (.slice a0a a0n a0c), .v (.func (.func a1g) #[] ⟨a1c⟩)]) (by kernel_rfl) (by kernel_rfl) (by kernel_rfl) rfl (by rw [tie191]; exact h)

/-- value.rises -/
def W245 (Q : Ending → W) (a0a : Option Addr) (a0n : Nat) (a0c : Nat) : W :=
  WLoop (σ := ((Int × Unit) × Unit)) ((1, ()), ()) fun x1 again1 =>
  WIf (decide ((x1.1.1 : Int) < (a0n : Int))) (WIndex a0a a0n (x1.1.1 : Int) fun q2 =>
   WLoad (Addr.add q2 ((Int.toNat (x1.1.1 : Int)) * 1)) (.l .s) fun (x3 : ByteArray) =>
   WIndex a0a a0n (IntKind.wrap .i64 ((x1.1.1 : Int) - 1)) fun q4 =>
   WLoad (Addr.add q4 ((Int.toNat (IntKind.wrap .i64 ((x1.1.1 : Int) - 1))) * 1)) (.l .s) fun (x5 : ByteArray) =>
   WIf ((Go.Op.bytesLess (ByteArray.toList x3) (ByteArray.toList x5)) || ((ByteArray.toList x3) == (ByteArray.toList x5))) (Q (.returned (.bool false)))
   (again1 (((IntKind.wrap .i64 ((x1.1.1 : Int) + 1)), ()), ())))
  (Q (.returned (.bool true)))

def h245 : Hints := ⟨[], [⟨0, [(3, .i .i64)], [2, 4, 5, 6, 7, 8, 9, 10, 11, 12, 13, 14, 15, 16, 17, 18, 19], []⟩], [], []⟩
theorem tie245 (Q : Ending → W) (a0a : Option Addr) (a0n : Nat) (a0c : Nat) : funW Tryz.prog tab Q h245 Tryz.f245 [.v (.slice a0a a0n a0c)] = W245 Q a0a a0n a0c := by kernel_rfl

theorem spec245 {Q : Ending → W} {a0a : Option Addr} {a0n : Nat} {a0c : Nat} {H : HP} (h : W245 Q a0a a0n a0c H) : Go.Den.Spec Tryz.prog 245 #[(.slice a0a a0n a0c)] H Q :=
  specOf (fn := Tryz.f245) (hs := h245) (args := [.v (.slice a0a a0n a0c)]) (by kernel_rfl) (by kernel_rfl) (by kernel_rfl) rfl (by rw [tie245]; exact h)

/-- value.odd -/
def W192 (Q : Ending → W) (a0_0 : Int) (a0_1 : Int) (a0_2 : ByteArray) (a0_3a : Option Addr) (a0_3n : Nat) (a0_3c : Nat) : W :=
  WIf (!((a0_0 == 1) || ((a0_0 == 2) && ((a0_1 == 0) || (a0_1 == 1))))) (WIf (a0_1 != 0) (Q (.returned (.bool true)))
   (WIf (a0_0 != 3) (WIf (!((ByteArray.toList a0_2) == (ByteArray.toList (ByteArray.mk #[])))) (Q (.returned (.bool true)))
     (WIf (a0_0 != 4) (WIf (decide ((a0_3n : Int) > 0)) (Q (.returned (.bool true)))
       (WCall Tryz.prog Q 245 #[(.slice a0_3a a0_3n a0_3c)] (WOpen (.one (.l .b)) fun (x1 : Bool) =>
        Q (.returned (.bool (!x1))))))
      (WCall Tryz.prog Q 245 #[(.slice a0_3a a0_3n a0_3c)] (WOpen (.one (.l .b)) fun (x2 : Bool) =>
       Q (.returned (.bool (!x2)))))))
    (WIf (a0_0 != 4) (WIf (decide ((a0_3n : Int) > 0)) (Q (.returned (.bool true)))
      (WCall Tryz.prog Q 245 #[(.slice a0_3a a0_3n a0_3c)] (WOpen (.one (.l .b)) fun (x3 : Bool) =>
       Q (.returned (.bool (!x3))))))
     (WCall Tryz.prog Q 245 #[(.slice a0_3a a0_3n a0_3c)] (WOpen (.one (.l .b)) fun (x4 : Bool) =>
      Q (.returned (.bool (!x4))))))))
  (WIf (a0_0 != 3) (WIf (!((ByteArray.toList a0_2) == (ByteArray.toList (ByteArray.mk #[])))) (Q (.returned (.bool true)))
    (WIf (a0_0 != 4) (WIf (decide ((a0_3n : Int) > 0)) (Q (.returned (.bool true)))
      (WCall Tryz.prog Q 245 #[(.slice a0_3a a0_3n a0_3c)] (WOpen (.one (.l .b)) fun (x5 : Bool) =>
       Q (.returned (.bool (!x5))))))
     (WCall Tryz.prog Q 245 #[(.slice a0_3a a0_3n a0_3c)] (WOpen (.one (.l .b)) fun (x6 : Bool) =>
      Q (.returned (.bool (!x6)))))))
   (WIf (a0_0 != 4) (WIf (decide ((a0_3n : Int) > 0)) (Q (.returned (.bool true)))
     (WCall Tryz.prog Q 245 #[(.slice a0_3a a0_3n a0_3c)] (WOpen (.one (.l .b)) fun (x7 : Bool) =>
      Q (.returned (.bool (!x7))))))
    (WCall Tryz.prog Q 245 #[(.slice a0_3a a0_3n a0_3c)] (WOpen (.one (.l .b)) fun (x8 : Bool) =>
     Q (.returned (.bool (!x8)))))))

def h192 : Hints := ⟨[], [], [], [1]⟩
theorem tie192 (Q : Ending → W) (a0_0 : Int) (a0_1 : Int) (a0_2 : ByteArray) (a0_3a : Option Addr) (a0_3n : Nat) (a0_3c : Nat) : funW Tryz.prog tab Q h192 Tryz.f192 [.v (.agg ⟨[(.int .i64 a0_0), (.int .i64 a0_1), (.string a0_2), (.slice a0_3a a0_3n a0_3c)]⟩)] = W192 Q a0_0 a0_1 a0_2 a0_3a a0_3n a0_3c := by kernel_rfl

theorem spec192 {Q : Ending → W} {a0_0 : Int} {a0_1 : Int} {a0_2 : ByteArray} {a0_3a : Option Addr} {a0_3n : Nat} {a0_3c : Nat} {H : HP} (h : W192 Q a0_0 a0_1 a0_2 a0_3a a0_3n a0_3c H) : Go.Den.Spec Tryz.prog 192 #[(.agg ⟨[(.int .i64 a0_0), (.int .i64 a0_1), (.string a0_2), (.slice a0_3a a0_3n a0_3c)]⟩)] H Q :=
  specOf (fn := Tryz.f192) (hs := h192) (args := [.v (.agg ⟨[(.int .i64 a0_0), (.int .i64 a0_1), (.string a0_2), (.slice a0_3a a0_3n a0_3c)]⟩)]) (by kernel_rfl) (by kernel_rfl) (by kernel_rfl) rfl (by rw [tie192]; exact h)

/-- value.Check -/
def W114 (Q : Ending → W) (a0_0 : Int) (a0_1 : Int) (a0_2 : ByteArray) (a0_3a : Option Addr) (a0_3n : Nat) (a0_3c : Nat) : W :=
  WIf ((decide (a0_0 < 1)) || (decide (a0_0 > 4))) (Q (.returned (.int .i64 12)))
  (WCall Tryz.prog Q 190 #[(.string a0_2)] (WOpen (.one (.l .b)) fun (x1 : Bool) =>
   WIf x1 (Q (.returned (.int .i64 5)))
   (WCall Tryz.prog Q 191 #[(.slice a0_3a a0_3n a0_3c), (.func (.func 190) #[] #[])] (WOpen (.one (.l .b)) fun (x2 : Bool) =>
    WIf x2 (Q (.returned (.int .i64 5)))
    (WIf (decide ((a0_3n : Int) > 8)) (Q (.returned (.int .i64 3)))
     (WCall Tryz.prog Q 192 #[(.agg #[(.int .i64 a0_0), (.int .i64 a0_1), (.string a0_2), (.slice a0_3a a0_3n a0_3c)])] (WOpen (.one (.l .b)) fun (x3 : Bool) =>
      WIf x3 (Q (.returned (.int .i64 4)))
      (Q (.returned (.int .i64 0))))))))))

def h114 : Hints := ⟨[], [], [], [1]⟩
theorem tie114 (Q : Ending → W) (a0_0 : Int) (a0_1 : Int) (a0_2 : ByteArray) (a0_3a : Option Addr) (a0_3n : Nat) (a0_3c : Nat) : funW Tryz.prog tab Q h114 Tryz.f114 [.v (.agg ⟨[(.int .i64 a0_0), (.int .i64 a0_1), (.string a0_2), (.slice a0_3a a0_3n a0_3c)]⟩)] = W114 Q a0_0 a0_1 a0_2 a0_3a a0_3n a0_3c := by kernel_rfl

theorem spec114 {Q : Ending → W} {a0_0 : Int} {a0_1 : Int} {a0_2 : ByteArray} {a0_3a : Option Addr} {a0_3n : Nat} {a0_3c : Nat} {H : HP} (h : W114 Q a0_0 a0_1 a0_2 a0_3a a0_3n a0_3c H) : Go.Den.Spec Tryz.prog 114 #[(.agg ⟨[(.int .i64 a0_0), (.int .i64 a0_1), (.string a0_2), (.slice a0_3a a0_3n a0_3c)]⟩)] H Q :=
  specOf (fn := Tryz.f114) (hs := h114) (args := [.v (.agg ⟨[(.int .i64 a0_0), (.int .i64 a0_1), (.string a0_2), (.slice a0_3a a0_3n a0_3c)]⟩)]) (by kernel_rfl) (by kernel_rfl) (by kernel_rfl) rfl (by rw [tie114]; exact h)

/-- (*store.Store).Set -/
def W50 (Q : Ending → W) (a0 : Option Addr) (a1 : ByteArray) (a2 : ByteArray) (a3_0 : Int) (a3_1 : Int) (a3_2 : ByteArray) (a3_3a : Option Addr) (a3_3n : Nat) (a3_3c : Nat) : W :=
  WCall Tryz.prog Q 112 #[(.pointer a0), (.string a2)] (WOpen (.one (.l (.i .i64))) fun (x1 : Int) =>
  WCall Tryz.prog Q 113 #[(.pointer a0)] (WOpen (.one (.l .b)) fun (x2 : Bool) =>
  WIf (!x2) (Q (.returned (.int .i64 9)))
  (WIf (x1 == 0) (Q (.returned (.int .i64 14)))
   (WIf (x1 != a3_0) (Q (.returned (.int .i64 31)))
    (WCall Tryz.prog Q 114 #[(.agg #[(.int .i64 a3_0), (.int .i64 a3_1), (.string a3_2), (.slice a3_3a a3_3n a3_3c)])] (WOpen (.one (.l (.i .i64))) fun (x3 : Int) =>
     WIf (x3 != 0) (Q (.returned (.int .i64 x3)))
     (WNonNil a0 fun q4 =>
      WLoad (Addr.add q4 1) (.l .m) fun (x5 : Option Nat) =>
      WCall Tryz.prog Q 115 #[(.agg #[(.int .i64 a3_0), (.int .i64 a3_1), (.string a3_2), (.slice a3_3a a3_3n a3_3c)])] (WOpen (.one (.agg [(.i .i64), (.i .i64), .s, .sl])) fun (x6 : Int) (x6_1 : Int) (x6_2 : ByteArray) (x6_3 : Option Go.Addr) (x6_4 : Nat) (x6_5 : Nat) =>
      WHeld [((Addr.add q4 1), [(.map x5)])] <|
      WPrimU Tryz.prog (Instr.mapUpdate 111 (.map x5) (.agg #[(.string a1), (.string a2)]) (.agg #[(.int .i64 x6), (.int .i64 x6_1), (.string x6_2), (.slice x6_3 x6_4 x6_5)])) <|
      Q (.returned (.int .i64 0))))))))))

def h50 : Hints := ⟨[], [], [], [7]⟩
theorem tie50 (Q : Ending → W) (a0 : Option Addr) (a1 : ByteArray) (a2 : ByteArray) (a3_0 : Int) (a3_1 : Int) (a3_2 : ByteArray) (a3_3a : Option Addr) (a3_3n : Nat) (a3_3c : Nat) : funW Tryz.prog tab Q h50 Tryz.f50 [.v (.pointer a0), .v (.string a1), .v (.string a2), .v (.agg ⟨[(.int .i64 a3_0), (.int .i64 a3_1), (.string a3_2), (.slice a3_3a a3_3n a3_3c)]⟩)] = W50 Q a0 a1 a2 a3_0 a3_1 a3_2 a3_3a a3_3n a3_3c := by kernel_rfl

theorem spec50 {Q : Ending → W} {a0 : Option Addr} {a1 : ByteArray} {a2 : ByteArray} {a3_0 : Int} {a3_1 : Int} {a3_2 : ByteArray} {a3_3a : Option Addr} {a3_3n : Nat} {a3_3c : Nat} {H : HP} (h : W50 Q a0 a1 a2 a3_0 a3_1 a3_2 a3_3a a3_3n a3_3c H) : Go.Den.Spec Tryz.prog 50 #[(.pointer a0), (.string a1), (.string a2), (.agg ⟨[(.int .i64 a3_0), (.int .i64 a3_1), (.string a3_2), (.slice a3_3a a3_3n a3_3c)]⟩)] H Q :=
  specOf (fn := Tryz.f50) (hs := h50) (args := [.v (.pointer a0), .v (.string a1), .v (.string a2), .v (.agg ⟨[(.int .i64 a3_0), (.int .i64 a3_1), (.string a3_2), (.slice a3_3a a3_3n a3_3c)]⟩)]) (by kernel_rfl) (by kernel_rfl) (by kernel_rfl) rfl (by rw [tie50]; exact h)

/-- beadleref05.Set -/
def W63 (Q : Ending → W) (a0_0a : Option Addr) (a0_0n : Nat) (a0_0c : Nat) (a0_1a : Option Addr) (a0_1n : Nat) (a0_1c : Nat) (a1 : ByteArray) (a2 : ByteArray) (a3_0 : Int) (a3_1 : Int) (a3_2 : ByteArray) (a3_3a : Option Addr) (a3_3n : Nat) (a3_3c : Nat) : W :=
  WCall Tryz.prog Q 127 #[(.agg #[(.slice a0_0a a0_0n a0_0c), (.slice a0_1a a0_1n a0_1c)]), (.string a2)] (WOpen (.one (.l (.i .i64))) fun (x1 : Int) =>
  WIf (x1 == 0) (Q (.returned (.tuple #[(.agg #[(.slice a0_0a a0_0n a0_0c), (.slice a0_1a a0_1n a0_1c)]), (.int .i64 14)])))
  (WIf (x1 != a3_0) (Q (.returned (.tuple #[(.agg #[(.slice a0_0a a0_0n a0_0c), (.slice a0_1a a0_1n a0_1c)]), (.int .i64 31)])))
   (WCall Tryz.prog Q 37 #[(.agg #[(.int .i64 a3_0), (.int .i64 a3_1), (.string a3_2), (.slice a3_3a a3_3n a3_3c)])] (WOpen (.one (.l (.i .i64))) fun (x2 : Int) =>
    WIf (x2 != 0) (Q (.returned (.tuple #[(.agg #[(.slice a0_0a a0_0n a0_0c), (.slice a0_1a a0_1n a0_1c)]), (.int .i64 x2)])))
    (WLoop (σ := (((Option Go.Addr × (Nat × Nat)) × (Int × Unit)) × Unit)) (((none, (0, 0)), (0, ())), ()) fun x3 again3 =>
     WIf (decide ((x3.1.2.1 : Int) < (a0_1n : Int))) (WIndex a0_1a a0_1n (x3.1.2.1 : Int) fun q4 =>
      WLoad (Addr.add (Addr.add q4 ((Int.toNat (x3.1.2.1 : Int)) * 6)) 0) (.l .s) fun (x5 : ByteArray) =>
      WIf (!((ByteArray.toList x5) == (ByteArray.toList a1))) (WIndex a0_1a a0_1n (x3.1.2.1 : Int) fun q6 =>
       WLoad (Addr.add q6 ((Int.toNat (x3.1.2.1 : Int)) * 6)) (.agg [.s, .s, (.i .i64), (.i .i64), .s, .sl]) fun (x7 : ByteArray) (x7_1 : ByteArray) (x7_2 : Int) (x7_3 : Int) (x7_4 : ByteArray) (x7_5 : Option Go.Addr) (x7_6 : Nat) (x7_7 : Nat) =>
       WNew [(.string x7), (.string x7_1), (.int .i64 x7_2), (.int .i64 x7_3), (.string x7_4), (.slice x7_5 x7_6 x7_7)] 198 fun z8 =>
       WPrim Tryz.prog (Builtin.append_ #[50, 50] 50 #[(.slice (x3.1.1.1 : Option Go.Addr) (x3.1.1.2.1 : Nat) (x3.1.1.2.2 : Nat)), (.slice (some ⟨z8, 0, none⟩) 1 1)]) (WOpen (.one (.l .sl)) fun (x9 : Option Go.Addr) (x9_1 : Nat) (x9_2 : Nat) =>
       again3 (((x9, (x9_1, x9_2)), ((IntKind.wrap .i64 ((x3.1.2.1 : Int) + 1)), ())), ())))
      (WIndex a0_1a a0_1n (x3.1.2.1 : Int) fun q10 =>
       WLoad (Addr.add (Addr.add q10 ((Int.toNat (x3.1.2.1 : Int)) * 6)) 1) (.l .s) fun (x11 : ByteArray) =>
       WIf (!((ByteArray.toList x11) == (ByteArray.toList a2))) (WIndex a0_1a a0_1n (x3.1.2.1 : Int) fun q12 =>
        WLoad (Addr.add q12 ((Int.toNat (x3.1.2.1 : Int)) * 6)) (.agg [.s, .s, (.i .i64), (.i .i64), .s, .sl]) fun (x13 : ByteArray) (x13_1 : ByteArray) (x13_2 : Int) (x13_3 : Int) (x13_4 : ByteArray) (x13_5 : Option Go.Addr) (x13_6 : Nat) (x13_7 : Nat) =>
        WNew [(.string x13), (.string x13_1), (.int .i64 x13_2), (.int .i64 x13_3), (.string x13_4), (.slice x13_5 x13_6 x13_7)] 198 fun z14 =>
        WPrim Tryz.prog (Builtin.append_ #[50, 50] 50 #[(.slice (x3.1.1.1 : Option Go.Addr) (x3.1.1.2.1 : Nat) (x3.1.1.2.2 : Nat)), (.slice (some ⟨z14, 0, none⟩) 1 1)]) (WOpen (.one (.l .sl)) fun (x15 : Option Go.Addr) (x15_1 : Nat) (x15_2 : Nat) =>
        again3 (((x15, (x15_1, x15_2)), ((IntKind.wrap .i64 ((x3.1.2.1 : Int) + 1)), ())), ())))
       (again3 ((((x3.1.1.1 : Option Go.Addr), ((x3.1.1.2.1 : Nat), (x3.1.1.2.2 : Nat))), ((IntKind.wrap .i64 ((x3.1.2.1 : Int) + 1)), ())), ()))))
     (WNew [(.string a1), (.string a2), (.int .i64 a3_0), (.int .i64 a3_1), (.string a3_2), (.slice a3_3a a3_3n a3_3c)] 198 fun z16 =>
      WPrim Tryz.prog (Builtin.append_ #[50, 50] 50 #[(.slice (x3.1.1.1 : Option Go.Addr) (x3.1.1.2.1 : Nat) (x3.1.1.2.2 : Nat)), (.slice (some ⟨z16, 0, none⟩) 1 1)]) (WOpen (.one (.l .sl)) fun (x17 : Option Go.Addr) (x17_1 : Nat) (x17_2 : Nat) =>
      Q (.returned (.tuple #[(.agg #[(.slice a0_0a a0_0n a0_0c), (.slice x17 x17_1 x17_2)]), (.int .i64 0)])))))))))

def h63 : Hints := ⟨[], [⟨0, [(12, .sl), (13, .i .i64)], [31, 32, 33, 34, 35, 36, 37, 38, 39, 40, 41, 42, 43, 44, 45, 46, 47, 48, 49, 50, 51, 52, 53, 54, 55, 56, 57, 58, 59, 60, 61, 62, 63], []⟩], [], [4, 7, 8]⟩
theorem tie63 (Q : Ending → W) (a0_0a : Option Addr) (a0_0n : Nat) (a0_0c : Nat) (a0_1a : Option Addr) (a0_1n : Nat) (a0_1c : Nat) (a1 : ByteArray) (a2 : ByteArray) (a3_0 : Int) (a3_1 : Int) (a3_2 : ByteArray) (a3_3a : Option Addr) (a3_3n : Nat) (a3_3c : Nat) : funW Tryz.prog tab Q h63 Tryz.f63 [.v (.agg ⟨[(.slice a0_0a a0_0n a0_0c), (.slice a0_1a a0_1n a0_1c)]⟩), .v (.string a1), .v (.string a2), .v (.agg ⟨[(.int .i64 a3_0), (.int .i64 a3_1), (.string a3_2), (.slice a3_3a a3_3n a3_3c)]⟩)] = W63 Q a0_0a a0_0n a0_0c a0_1a a0_1n a0_1c a1 a2 a3_0 a3_1 a3_2 a3_3a a3_3n a3_3c := by kernel_rfl

theorem spec63 {Q : Ending → W} {a0_0a : Option Addr} {a0_0n : Nat} {a0_0c : Nat} {a0_1a : Option Addr} {a0_1n : Nat} {a0_1c : Nat} {a1 : ByteArray} {a2 : ByteArray} {a3_0 : Int} {a3_1 : Int} {a3_2 : ByteArray} {a3_3a : Option Addr} {a3_3n : Nat} {a3_3c : Nat} {H : HP} (h : W63 Q a0_0a a0_0n a0_0c a0_1a a0_1n a0_1c a1 a2 a3_0 a3_1 a3_2 a3_3a a3_3n a3_3c H) : Go.Den.Spec Tryz.prog 63 #[(.agg ⟨[(.slice a0_0a a0_0n a0_0c), (.slice a0_1a a0_1n a0_1c)]⟩), (.string a1), (.string a2), (.agg ⟨[(.int .i64 a3_0), (.int .i64 a3_1), (.string a3_2), (.slice a3_3a a3_3n a3_3c)]⟩)] H Q :=
  specOf (fn := Tryz.f63) (hs := h63) (args := [.v (.agg ⟨[(.slice a0_0a a0_0n a0_0c), (.slice a0_1a a0_1n a0_1c)]⟩), .v (.string a1), .v (.string a2), .v (.agg ⟨[(.int .i64 a3_0), (.int .i64 a3_1), (.string a3_2), (.slice a3_3a a3_3n a3_3c)]⟩)]) (by kernel_rfl) (by kernel_rfl) (by kernel_rfl) rfl (by rw [tie63]; exact h)

/-- beadlelaw18.set -/
def W31 (Q : Ending → W) (a0 : Option Addr) (a1_0a : Option Addr) (a1_0n : Nat) (a1_0c : Nat) (a1_1a : Option Addr) (a1_1n : Nat) (a1_1c : Nat) (a2_0 : Int) (a2_1 : ByteArray) (a2_2 : ByteArray) (a2_3 : ByteArray) (a2_4 : ByteArray) (a2_5 : ByteArray) (a2_6 : Int) (a2_7 : Int) (a2_8 : ByteArray) (a2_9a : Option Addr) (a2_9n : Nat) (a2_9c : Nat) : W :=
  WCall Tryz.prog Q 50 #[(.pointer a0), (.string a2_4), (.string a2_5), (.agg #[(.int .i64 a2_6), (.int .i64 a2_7), (.string a2_8), (.slice a2_9a a2_9n a2_9c)])] (WOpen (.one (.l (.i .i64))) fun (x1 : Int) =>
  WCall Tryz.prog Q 63 #[(.agg #[(.slice a1_0a a1_0n a1_0c), (.slice a1_1a a1_1n a1_1c)]), (.string a2_4), (.string a2_5), (.agg #[(.int .i64 a2_6), (.int .i64 a2_7), (.string a2_8), (.slice a2_9a a2_9n a2_9c)])] (WOpen (.tup [(.agg [.sl, .sl]), (.l (.i .i64))]) fun (x2 : Option Go.Addr) (x2_1 : Nat) (x2_2 : Nat) (x2_3 : Option Go.Addr) (x2_4 : Nat) (x2_5 : Nat) (x2_6 : Int) =>
  Q (.returned (.agg #[(.slice x2 x2_1 x2_2), (.slice x2_3 x2_4 x2_5)]))))

def h31 : Hints := ⟨[], [], [], [4, 5, 6, 7]⟩
theorem tie31 (Q : Ending → W) (a0 : Option Addr) (a1_0a : Option Addr) (a1_0n : Nat) (a1_0c : Nat) (a1_1a : Option Addr) (a1_1n : Nat) (a1_1c : Nat) (a2_0 : Int) (a2_1 : ByteArray) (a2_2 : ByteArray) (a2_3 : ByteArray) (a2_4 : ByteArray) (a2_5 : ByteArray) (a2_6 : Int) (a2_7 : Int) (a2_8 : ByteArray) (a2_9a : Option Addr) (a2_9n : Nat) (a2_9c : Nat) : funW Tryz.prog tab Q h31 Tryz.f31 [.v (.pointer a0), .v (.agg ⟨[(.slice a1_0a a1_0n a1_0c), (.slice a1_1a a1_1n a1_1c)]⟩), .v (.agg ⟨[(.int .i64 a2_0), (.string a2_1), (.string a2_2), (.string a2_3), (.string a2_4), (.string a2_5), (.int .i64 a2_6), (.int .i64 a2_7), (.string a2_8), (.slice a2_9a a2_9n a2_9c)]⟩)] = W31 Q a0 a1_0a a1_0n a1_0c a1_1a a1_1n a1_1c a2_0 a2_1 a2_2 a2_3 a2_4 a2_5 a2_6 a2_7 a2_8 a2_9a a2_9n a2_9c := by kernel_rfl

theorem spec31 {Q : Ending → W} {a0 : Option Addr} {a1_0a : Option Addr} {a1_0n : Nat} {a1_0c : Nat} {a1_1a : Option Addr} {a1_1n : Nat} {a1_1c : Nat} {a2_0 : Int} {a2_1 : ByteArray} {a2_2 : ByteArray} {a2_3 : ByteArray} {a2_4 : ByteArray} {a2_5 : ByteArray} {a2_6 : Int} {a2_7 : Int} {a2_8 : ByteArray} {a2_9a : Option Addr} {a2_9n : Nat} {a2_9c : Nat} {H : HP} (h : W31 Q a0 a1_0a a1_0n a1_0c a1_1a a1_1n a1_1c a2_0 a2_1 a2_2 a2_3 a2_4 a2_5 a2_6 a2_7 a2_8 a2_9a a2_9n a2_9c H) : Go.Den.Spec Tryz.prog 31 #[(.pointer a0), (.agg ⟨[(.slice a1_0a a1_0n a1_0c), (.slice a1_1a a1_1n a1_1c)]⟩), (.agg ⟨[(.int .i64 a2_0), (.string a2_1), (.string a2_2), (.string a2_3), (.string a2_4), (.string a2_5), (.int .i64 a2_6), (.int .i64 a2_7), (.string a2_8), (.slice a2_9a a2_9n a2_9c)]⟩)] H Q :=
  specOf (fn := Tryz.f31) (hs := h31) (args := [.v (.pointer a0), .v (.agg ⟨[(.slice a1_0a a1_0n a1_0c), (.slice a1_1a a1_1n a1_1c)]⟩), .v (.agg ⟨[(.int .i64 a2_0), (.string a2_1), (.string a2_2), (.string a2_3), (.string a2_4), (.string a2_5), (.int .i64 a2_6), (.int .i64 a2_7), (.string a2_8), (.slice a2_9a a2_9n a2_9c)]⟩)]) (by kernel_rfl) (by kernel_rfl) (by kernel_rfl) rfl (by rw [tie31]; exact h)

/-- beadlelaw18.point -/
def W32 (Q : Ending → W) (a0_0a : Option Addr) (a0_0n : Nat) (a0_0c : Nat) (a0_1a : Option Addr) (a0_1n : Nat) (a0_1c : Nat) (a1_0 : Int) (a1_1 : ByteArray) (a1_2 : ByteArray) (a1_3 : ByteArray) (a1_4 : ByteArray) (a1_5 : ByteArray) (a1_6 : Int) (a1_7 : Int) (a1_8 : ByteArray) (a1_9a : Option Addr) (a1_9n : Nat) (a1_9c : Nat) : W :=
  Q (.returned (.agg #[(.int .i64 a1_0), (.string a1_1), (.string a1_2), (.string a1_3), (.slice a0_0a a0_0n a0_0c), (.slice a0_1a a0_1n a0_1c)]))

def h32 : Hints := ⟨[], [], [], [2, 3, 4]⟩
theorem tie32 (Q : Ending → W) (a0_0a : Option Addr) (a0_0n : Nat) (a0_0c : Nat) (a0_1a : Option Addr) (a0_1n : Nat) (a0_1c : Nat) (a1_0 : Int) (a1_1 : ByteArray) (a1_2 : ByteArray) (a1_3 : ByteArray) (a1_4 : ByteArray) (a1_5 : ByteArray) (a1_6 : Int) (a1_7 : Int) (a1_8 : ByteArray) (a1_9a : Option Addr) (a1_9n : Nat) (a1_9c : Nat) : funW Tryz.prog tab Q h32 Tryz.f32 [.v (.agg ⟨[(.slice a0_0a a0_0n a0_0c), (.slice a0_1a a0_1n a0_1c)]⟩), .v (.agg ⟨[(.int .i64 a1_0), (.string a1_1), (.string a1_2), (.string a1_3), (.string a1_4), (.string a1_5), (.int .i64 a1_6), (.int .i64 a1_7), (.string a1_8), (.slice a1_9a a1_9n a1_9c)]⟩)] = W32 Q a0_0a a0_0n a0_0c a0_1a a0_1n a0_1c a1_0 a1_1 a1_2 a1_3 a1_4 a1_5 a1_6 a1_7 a1_8 a1_9a a1_9n a1_9c := by kernel_rfl

theorem spec32 {Q : Ending → W} {a0_0a : Option Addr} {a0_0n : Nat} {a0_0c : Nat} {a0_1a : Option Addr} {a0_1n : Nat} {a0_1c : Nat} {a1_0 : Int} {a1_1 : ByteArray} {a1_2 : ByteArray} {a1_3 : ByteArray} {a1_4 : ByteArray} {a1_5 : ByteArray} {a1_6 : Int} {a1_7 : Int} {a1_8 : ByteArray} {a1_9a : Option Addr} {a1_9n : Nat} {a1_9c : Nat} {H : HP} (h : W32 Q a0_0a a0_0n a0_0c a0_1a a0_1n a0_1c a1_0 a1_1 a1_2 a1_3 a1_4 a1_5 a1_6 a1_7 a1_8 a1_9a a1_9n a1_9c H) : Go.Den.Spec Tryz.prog 32 #[(.agg ⟨[(.slice a0_0a a0_0n a0_0c), (.slice a0_1a a0_1n a0_1c)]⟩), (.agg ⟨[(.int .i64 a1_0), (.string a1_1), (.string a1_2), (.string a1_3), (.string a1_4), (.string a1_5), (.int .i64 a1_6), (.int .i64 a1_7), (.string a1_8), (.slice a1_9a a1_9n a1_9c)]⟩)] H Q :=
  specOf (fn := Tryz.f32) (hs := h32) (args := [.v (.agg ⟨[(.slice a0_0a a0_0n a0_0c), (.slice a0_1a a0_1n a0_1c)]⟩), .v (.agg ⟨[(.int .i64 a1_0), (.string a1_1), (.string a1_2), (.string a1_3), (.string a1_4), (.string a1_5), (.int .i64 a1_6), (.int .i64 a1_7), (.string a1_8), (.slice a1_9a a1_9n a1_9c)]⟩)]) (by kernel_rfl) (by kernel_rfl) (by kernel_rfl) rfl (by rw [tie32]; exact h)

/-- beadleref07.Looks -/
def W39 (Q : Ending → W) (a0 : Int) : W :=
  Q (.returned (.bool (((((a0 == 22) || (a0 == 23)) || (a0 == 24)) || (a0 == 25)) || (a0 == 13))))

def h39 : Hints := ⟨[], [], [], []⟩
theorem tie39 (Q : Ending → W) (a0 : Int) : funW Tryz.prog tab Q h39 Tryz.f39 [.v (.int .i64 a0)] = W39 Q a0 := by kernel_rfl

theorem spec39 {Q : Ending → W} {a0 : Int} {H : HP} (h : W39 Q a0 H) : Go.Den.Spec Tryz.prog 39 #[(.int .i64 a0)] H Q :=
  specOf (fn := Tryz.f39) (hs := h39) (args := [.v (.int .i64 a0)]) (by kernel_rfl) (by kernel_rfl) (by kernel_rfl) rfl (by rw [tie39]; exact h)

/-- beadlelaw19.TruthTells -/
def W8 (Q : Ending → W) (a0_0 : Int) (a0_1 : ByteArray) (a0_2 : Int) (a0_3 : Int) (a0_4 : Int) (a0_5a : Option Addr) (a0_5n : Nat) (a0_5c : Nat) (a1a : Option Addr) (a1n : Nat) (a1c : Nat) (a2a : Option Addr) (a2n : Nat) (a2c : Nat) (a3 : Int) : W :=
  WCall Tryz.prog Q 42 #[] (WOpen (.one (.l .b)) fun (x1 : Bool) =>
  WIf (!x1) (Q (.returned (.bool false)))
  (WCall Tryz.prog Q 26 #[(.slice a2a a2n a2c), (.int .i64 14)] (WOpen (.one (.l .sl)) fun (x2 : Option Go.Addr) (x2_1 : Nat) (x2_2 : Nat) =>
   WCall Tryz.prog Q 43 #[(.slice a1a a1n a1c), (.slice x2 x2_1 x2_2)] (WOpen (.tup [(.l .sl), (.l .sl)]) fun (x3 : Option Go.Addr) (x3_1 : Nat) (x3_2 : Nat) (x3_3 : Option Go.Addr) (x3_4 : Nat) (x3_5 : Nat) =>
   WCall Tryz.prog Q 44 #[(.agg #[(.int .i64 a0_0), (.string a0_1), (.int .i64 a0_2), (.int .i64 a0_3), (.int .i64 a0_4), (.slice a0_5a a0_5n a0_5c)]), (.slice x3 x3_1 x3_2), (.int .i64 a3)] (WOpen (.tup [(.agg [(.i .i64), (.i .i64), .s, .sl]), (.l (.i .i64))]) fun (x4 : Int) (x4_1 : Int) (x4_2 : ByteArray) (x4_3 : Option Go.Addr) (x4_4 : Nat) (x4_5 : Nat) (x4_6 : Int) =>
   WCall Tryz.prog Q 24 #[(.agg #[(.int .i64 a0_0), (.string a0_1), (.int .i64 a0_2), (.int .i64 a0_3), (.int .i64 a0_4), (.slice a0_5a a0_5n a0_5c)])] (WOpen (.one (.l (.i .i64))) fun (x5 : Int) =>
   WIf (x5 != 0) (WIf (x4_6 == 9) (WCall Tryz.prog Q 34 #[(.agg #[(.int .i64 x4), (.int .i64 x4_1), (.string x4_2), (.slice x4_3 x4_4 x4_5)]), (.agg #[(.int .i64 0), (.int .i64 0), (.string (ByteArray.mk #[])), (.slice none 0 0)])] (WOpen (.one (.l .b)) fun (x6 : Bool) =>
     Q (.returned (.bool x6))))
    (Q (.returned (.bool false))))
   (WIf (decide (a3 < 0)) (WIf (x4_6 == 9) (WCall Tryz.prog Q 34 #[(.agg #[(.int .i64 x4), (.int .i64 x4_1), (.string x4_2), (.slice x4_3 x4_4 x4_5)]), (.agg #[(.int .i64 0), (.int .i64 0), (.string (ByteArray.mk #[])), (.slice none 0 0)])] (WOpen (.one (.l .b)) fun (x7 : Bool) =>
      Q (.returned (.bool x7))))
     (Q (.returned (.bool false))))
    (WIf (decide (a3 ≥ (x2_1 : Int))) (WIf (x4_6 == 9) (WCall Tryz.prog Q 34 #[(.agg #[(.int .i64 x4), (.int .i64 x4_1), (.string x4_2), (.slice x4_3 x4_4 x4_5)]), (.agg #[(.int .i64 0), (.int .i64 0), (.string (ByteArray.mk #[])), (.slice none 0 0)])] (WOpen (.one (.l .b)) fun (x8 : Bool) =>
       Q (.returned (.bool x8))))
      (Q (.returned (.bool false))))
     (WReq (((0 : Int) ≤ 0) ∧ (((0 : Int) ≤ (IntKind.wrap .i64 (a3 + 1))) ∧ ((IntKind.wrap .i64 (a3 + 1)) ≤ (x3_5 : Int)))) <|
      WCall Tryz.prog Q 33 #[(.agg #[(.int .i64 a0_0), (.string a0_1), (.int .i64 a0_2), (.int .i64 a0_3), (.int .i64 a0_4), (.slice a0_5a a0_5n a0_5c)]), (.slice (if (x3_5 = 0) then x3_3 else (Option.map (fun x => (Addr.add x 0)) x3_3)) ((Int.toNat (IntKind.wrap .i64 (a3 + 1))) - 0) (x3_5 - 0))] (WOpen (.tup [(.agg [(.i .i64), (.i .i64), .s, .sl]), (.l (.i .i64))]) fun (x9 : Int) (x9_1 : Int) (x9_2 : ByteArray) (x9_3 : Option Go.Addr) (x9_4 : Nat) (x9_5 : Nat) (x9_6 : Int) =>
      WIf (x4_6 == x9_6) (WCall Tryz.prog Q 34 #[(.agg #[(.int .i64 x4), (.int .i64 x4_1), (.string x4_2), (.slice x4_3 x4_4 x4_5)]), (.agg #[(.int .i64 x9), (.int .i64 x9_1), (.string x9_2), (.slice x9_3 x9_4 x9_5)])] (WOpen (.one (.l .b)) fun (x10 : Bool) =>
       Q (.returned (.bool x10))))
      (Q (.returned (.bool false)))))))))))))

def h8 : Hints := ⟨[], [], [], [4, 11, 13]⟩
theorem tie8 (Q : Ending → W) (a0_0 : Int) (a0_1 : ByteArray) (a0_2 : Int) (a0_3 : Int) (a0_4 : Int) (a0_5a : Option Addr) (a0_5n : Nat) (a0_5c : Nat) (a1a : Option Addr) (a1n : Nat) (a1c : Nat) (a2a : Option Addr) (a2n : Nat) (a2c : Nat) (a3 : Int) : funW Tryz.prog tab Q h8 Tryz.f8 [.v (.agg ⟨[(.int .i64 a0_0), (.string a0_1), (.int .i64 a0_2), (.int .i64 a0_3), (.int .i64 a0_4), (.slice a0_5a a0_5n a0_5c)]⟩), .v (.slice a1a a1n a1c), .v (.slice a2a a2n a2c), .v (.int .i64 a3)] = W8 Q a0_0 a0_1 a0_2 a0_3 a0_4 a0_5a a0_5n a0_5c a1a a1n a1c a2a a2n a2c a3 := by kernel_rfl

theorem spec8 {Q : Ending → W} {a0_0 : Int} {a0_1 : ByteArray} {a0_2 : Int} {a0_3 : Int} {a0_4 : Int} {a0_5a : Option Addr} {a0_5n : Nat} {a0_5c : Nat} {a1a : Option Addr} {a1n : Nat} {a1c : Nat} {a2a : Option Addr} {a2n : Nat} {a2c : Nat} {a3 : Int} {H : HP} (h : W8 Q a0_0 a0_1 a0_2 a0_3 a0_4 a0_5a a0_5n a0_5c a1a a1n a1c a2a a2n a2c a3 H) : Go.Den.Spec Tryz.prog 8 #[(.agg ⟨[(.int .i64 a0_0), (.string a0_1), (.int .i64 a0_2), (.int .i64 a0_3), (.int .i64 a0_4), (.slice a0_5a a0_5n a0_5c)]⟩), (.slice a1a a1n a1c), (.slice a2a a2n a2c), (.int .i64 a3)] H Q :=
  specOf (fn := Tryz.f8) (hs := h8) (args := [.v (.agg ⟨[(.int .i64 a0_0), (.string a0_1), (.int .i64 a0_2), (.int .i64 a0_3), (.int .i64 a0_4), (.slice a0_5a a0_5n a0_5c)]⟩), .v (.slice a1a a1n a1c), .v (.slice a2a a2n a2c), .v (.int .i64 a3)]) (by kernel_rfl) (by kernel_rfl) (by kernel_rfl) rfl (by rw [tie8]; exact h)

/-- beadlelaw19.TruthLast -/
def W9 (Q : Ending → W) (a0_0 : Int) (a0_1 : ByteArray) (a0_2 : Int) (a0_3 : Int) (a0_4 : Int) (a0_5a : Option Addr) (a0_5n : Nat) (a0_5c : Nat) (a1a : Option Addr) (a1n : Nat) (a1c : Nat) (a2a : Option Addr) (a2n : Nat) (a2c : Nat) : W :=
  WCall Tryz.prog Q 42 #[] (WOpen (.one (.l .b)) fun (x1 : Bool) =>
  WIf (!x1) (Q (.returned (.bool false)))
  (WCall Tryz.prog Q 26 #[(.slice a2a a2n a2c), (.int .i64 12)] (WOpen (.one (.l .sl)) fun (x2 : Option Go.Addr) (x2_1 : Nat) (x2_2 : Nat) =>
   WCall Tryz.prog Q 43 #[(.slice a1a a1n a1c), (.slice x2 x2_1 x2_2)] (WOpen (.tup [(.l .sl), (.l .sl)]) fun (x3 : Option Go.Addr) (x3_1 : Nat) (x3_2 : Nat) (x3_3 : Option Go.Addr) (x3_4 : Nat) (x3_5 : Nat) =>
   WLoop (σ := ((Int × Unit) × Unit)) ((0, ()), ()) fun x4 again4 =>
   WIf (decide ((x4.1.1 : Int) < (x2_1 : Int))) (WCall Tryz.prog Q 44 #[(.agg #[(.int .i64 a0_0), (.string a0_1), (.int .i64 a0_2), (.int .i64 a0_3), (.int .i64 a0_4), (.slice a0_5a a0_5n a0_5c)]), (.slice x3 x3_1 x3_2), (.int .i64 (x4.1.1 : Int))] (WOpen (.tup [(.agg [(.i .i64), (.i .i64), .s, .sl]), (.l (.i .i64))]) fun (x5 : Int) (x5_1 : Int) (x5_2 : ByteArray) (x5_3 : Option Go.Addr) (x5_4 : Nat) (x5_5 : Nat) (x5_6 : Int) =>
    WReq (((0 : Int) ≤ 0) ∧ (((0 : Int) ≤ (IntKind.wrap .i64 ((x4.1.1 : Int) + 1))) ∧ ((IntKind.wrap .i64 ((x4.1.1 : Int) + 1)) ≤ (x3_2 : Int)))) <|
    WCall Tryz.prog Q 45 #[(.agg #[(.int .i64 a0_0), (.string a0_1), (.int .i64 a0_2), (.int .i64 a0_3), (.int .i64 a0_4), (.slice a0_5a a0_5n a0_5c)]), (.slice (if (x3_2 = 0) then x3 else (Option.map (fun x => (Addr.add x 0)) x3)) ((Int.toNat (IntKind.wrap .i64 ((x4.1.1 : Int) + 1))) - 0) (x3_2 - 0))] (WOpen (.tup [(.agg [(.i .i64), (.i .i64), .s, .sl]), (.l (.i .i64))]) fun (x6 : Int) (x6_1 : Int) (x6_2 : ByteArray) (x6_3 : Option Go.Addr) (x6_4 : Nat) (x6_5 : Nat) (x6_6 : Int) =>
    WIf (x5_6 != x6_6) (Q (.returned (.bool false)))
    (WCall Tryz.prog Q 34 #[(.agg #[(.int .i64 x5), (.int .i64 x5_1), (.string x5_2), (.slice x5_3 x5_4 x5_5)]), (.agg #[(.int .i64 x6), (.int .i64 x6_1), (.string x6_2), (.slice x6_3 x6_4 x6_5)])] (WOpen (.one (.l .b)) fun (x7 : Bool) =>
     WIf (!x7) (Q (.returned (.bool false)))
     (again4 (((IntKind.wrap .i64 ((x4.1.1 : Int) + 1)), ()), ())))))))
   (WCall Tryz.prog Q 45 #[(.agg #[(.int .i64 a0_0), (.string a0_1), (.int .i64 a0_2), (.int .i64 a0_3), (.int .i64 a0_4), (.slice a0_5a a0_5n a0_5c)]), (.slice none 0 0)] (WOpen (.tup [(.agg [(.i .i64), (.i .i64), .s, .sl]), (.l (.i .i64))]) fun (x8 : Int) (x8_1 : Int) (x8_2 : ByteArray) (x8_3 : Option Go.Addr) (x8_4 : Nat) (x8_5 : Nat) (x8_6 : Int) =>
    Q (.returned (.bool (x8_6 == 9)))))))))

def h9 : Hints := ⟨[], [⟨0, [(9, .i .i64)], [6, 10, 11, 12, 13, 26, 27, 28, 29, 30, 31, 32, 33, 34, 35, 36, 37, 38, 39, 40, 41, 42, 43, 44, 45, 46, 47, 48, 49, 50, 51, 52, 53, 54, 55, 56], []⟩], [], [3, 10, 12, 14]⟩
theorem tie9 (Q : Ending → W) (a0_0 : Int) (a0_1 : ByteArray) (a0_2 : Int) (a0_3 : Int) (a0_4 : Int) (a0_5a : Option Addr) (a0_5n : Nat) (a0_5c : Nat) (a1a : Option Addr) (a1n : Nat) (a1c : Nat) (a2a : Option Addr) (a2n : Nat) (a2c : Nat) : funW Tryz.prog tab Q h9 Tryz.f9 [.v (.agg ⟨[(.int .i64 a0_0), (.string a0_1), (.int .i64 a0_2), (.int .i64 a0_3), (.int .i64 a0_4), (.slice a0_5a a0_5n a0_5c)]⟩), .v (.slice a1a a1n a1c), .v (.slice a2a a2n a2c)] = W9 Q a0_0 a0_1 a0_2 a0_3 a0_4 a0_5a a0_5n a0_5c a1a a1n a1c a2a a2n a2c := by kernel_rfl

theorem spec9 {Q : Ending → W} {a0_0 : Int} {a0_1 : ByteArray} {a0_2 : Int} {a0_3 : Int} {a0_4 : Int} {a0_5a : Option Addr} {a0_5n : Nat} {a0_5c : Nat} {a1a : Option Addr} {a1n : Nat} {a1c : Nat} {a2a : Option Addr} {a2n : Nat} {a2c : Nat} {H : HP} (h : W9 Q a0_0 a0_1 a0_2 a0_3 a0_4 a0_5a a0_5n a0_5c a1a a1n a1c a2a a2n a2c H) : Go.Den.Spec Tryz.prog 9 #[(.agg ⟨[(.int .i64 a0_0), (.string a0_1), (.int .i64 a0_2), (.int .i64 a0_3), (.int .i64 a0_4), (.slice a0_5a a0_5n a0_5c)]⟩), (.slice a1a a1n a1c), (.slice a2a a2n a2c)] H Q :=
  specOf (fn := Tryz.f9) (hs := h9) (args := [.v (.agg ⟨[(.int .i64 a0_0), (.string a0_1), (.int .i64 a0_2), (.int .i64 a0_3), (.int .i64 a0_4), (.slice a0_5a a0_5n a0_5c)]⟩), .v (.slice a1a a1n a1c), .v (.slice a2a a2n a2c)]) (by kernel_rfl) (by kernel_rfl) (by kernel_rfl) rfl (by rw [tie9]; exact h)

/-- beadlelaw19.TruthTimes -/
def W10 (Q : Ending → W) (a0a : Option Addr) (a0n : Nat) (a0c : Nat) : W :=
  WCall Tryz.prog Q 42 #[] (WOpen (.one (.l .b)) fun (x1 : Bool) =>
  WIf (!x1) (Q (.returned (.bool false)))
  (WCall Tryz.prog Q 26 #[(.slice a0a a0n a0c), (.int .i64 60)] (WOpen (.one (.l .sl)) fun (x2 : Option Go.Addr) (x2_1 : Nat) (x2_2 : Nat) =>
   WCall Tryz.prog Q 43 #[(.slice none 0 0), (.slice x2 x2_1 x2_2)] (WOpen (.tup [(.l .sl), (.l .sl)]) fun (x3 : Option Go.Addr) (x3_1 : Nat) (x3_2 : Nat) (x3_3 : Option Go.Addr) (x3_4 : Nat) (x3_5 : Nat) =>
   WCall Tryz.prog Q 46 #[(.slice x3 x3_1 x3_2)] (WOpen (.one (.l .sl)) fun (x4 : Option Go.Addr) (x4_1 : Nat) (x4_2 : Nat) =>
   WCall Tryz.prog Q 47 #[(.slice x3_3 x3_4 x3_5)] (WOpen (.one (.l .sl)) fun (x5 : Option Go.Addr) (x5_1 : Nat) (x5_2 : Nat) =>
   WIf ((x4_1 : Int) != (x2_1 : Int)) (Q (.returned (.bool false)))
   (WLoop (σ := ((Int × Unit) × Unit)) ((0, ()), ()) fun x6 again6 =>
    WIf (decide ((x6.1.1 : Int) < (x2_1 : Int))) (WIndex x4 x4_1 (x6.1.1 : Int) fun q7 =>
     WLoad (Addr.add q7 ((Int.toNat (x6.1.1 : Int)) * 1)) (.l (.i .i64)) fun (x8 : Int) =>
     WIndex x5 x5_1 (x6.1.1 : Int) fun q9 =>
     WLoad (Addr.add q9 ((Int.toNat (x6.1.1 : Int)) * 1)) (.l (.i .i64)) fun (x10 : Int) =>
     WIf (x8 != x10) (Q (.returned (.bool false)))
     (WIndex x4 x4_1 (x6.1.1 : Int) fun q11 =>
      WLoad (Addr.add q11 ((Int.toNat (x6.1.1 : Int)) * 1)) (.l (.i .i64)) fun (x12 : Int) =>
      WIf (decide (x12 < 0)) (Q (.returned (.bool false)))
      (WIf (decide ((x6.1.1 : Int) > 0)) (WIndex x4 x4_1 (x6.1.1 : Int) fun q13 =>
        WLoad (Addr.add q13 ((Int.toNat (x6.1.1 : Int)) * 1)) (.l (.i .i64)) fun (x14 : Int) =>
        WIndex x4 x4_1 (IntKind.wrap .i64 ((x6.1.1 : Int) - 1)) fun q15 =>
        WLoad (Addr.add q15 ((Int.toNat (IntKind.wrap .i64 ((x6.1.1 : Int) - 1))) * 1)) (.l (.i .i64)) fun (x16 : Int) =>
        WIf (decide (x14 < x16)) (Q (.returned (.bool false)))
        (again6 (((IntKind.wrap .i64 ((x6.1.1 : Int) + 1)), ()), ())))
       (again6 (((IntKind.wrap .i64 ((x6.1.1 : Int) + 1)), ()), ())))))
    (Q (.returned (.bool true))))))))))

def h10 : Hints := ⟨[], [⟨0, [(7, .i .i64)], [2, 26, 27, 28, 29, 30, 31, 32, 33, 34, 35, 36, 37, 38, 39, 40, 41, 42, 43, 44, 45, 46, 47, 48, 49, 50, 51, 52, 53, 54, 55, 56, 57, 58, 59, 60, 61, 62, 63], []⟩], [], []⟩
theorem tie10 (Q : Ending → W) (a0a : Option Addr) (a0n : Nat) (a0c : Nat) : funW Tryz.prog tab Q h10 Tryz.f10 [.v (.slice a0a a0n a0c)] = W10 Q a0a a0n a0c := by kernel_rfl

theorem spec10 {Q : Ending → W} {a0a : Option Addr} {a0n : Nat} {a0c : Nat} {H : HP} (h : W10 Q a0a a0n a0c H) : Go.Den.Spec Tryz.prog 10 #[(.slice a0a a0n a0c)] H Q :=
  specOf (fn := Tryz.f10) (hs := h10) (args := [.v (.slice a0a a0n a0c)]) (by kernel_rfl) (by kernel_rfl) (by kernel_rfl) rfl (by rw [tie10]; exact h)

/-- beadlelaw20.UpdateChecks -/
def W13 (Q : Ending → W) (a0a : Option Addr) (a0n : Nat) (a0c : Nat) (a1a : Option Addr) (a1n : Nat) (a1c : Nat) : W :=
  WCall Tryz.prog Q 51 #[] (WOpen (.one (.l .b)) fun (x1 : Bool) =>
  WIf x1 (WCall Tryz.prog Q 52 #[(.slice a0a a0n a0c), (.slice a1a a1n a1c)] (WOpen (.one (.l (.i .i64))) fun (x2 : Int) =>
   WCall Tryz.prog Q 53 #[(.slice a0a a0n a0c), (.slice a1a a1n a1c)] (WOpen (.one (.l (.i .i64))) fun (x3 : Int) =>
   Q (.returned (.bool (x2 == x3))))))
  (Q (.returned (.bool false))))

def h13 : Hints := ⟨[], [], [], []⟩
theorem tie13 (Q : Ending → W) (a0a : Option Addr) (a0n : Nat) (a0c : Nat) (a1a : Option Addr) (a1n : Nat) (a1c : Nat) : funW Tryz.prog tab Q h13 Tryz.f13 [.v (.slice a0a a0n a0c), .v (.slice a1a a1n a1c)] = W13 Q a0a a0n a0c a1a a1n a1c := by kernel_rfl

theorem spec13 {Q : Ending → W} {a0a : Option Addr} {a0n : Nat} {a0c : Nat} {a1a : Option Addr} {a1n : Nat} {a1c : Nat} {H : HP} (h : W13 Q a0a a0n a0c a1a a1n a1c H) : Go.Den.Spec Tryz.prog 13 #[(.slice a0a a0n a0c), (.slice a1a a1n a1c)] H Q :=
  specOf (fn := Tryz.f13) (hs := h13) (args := [.v (.slice a0a a0n a0c), .v (.slice a1a a1n a1c)]) (by kernel_rfl) (by kernel_rfl) (by kernel_rfl) rfl (by rw [tie13]; exact h)

/-- beadlelaw20.UpdateTouches -/
def W14 (Q : Ending → W) (a0a : Option Addr) (a0n : Nat) (a0c : Nat) (a1a : Option Addr) (a1n : Nat) (a1c : Nat) (a2a : Option Addr) (a2n : Nat) (a2c : Nat) (a3_0 : Int) (a3_1 : ByteArray) (a3_2 : ByteArray) (a3_3 : ByteArray) (a3_4 : ByteArray) (a3_5 : ByteArray) (a3_6 : Int) (a3_7 : Int) (a3_8 : ByteArray) (a3_9a : Option Addr) (a3_9n : Nat) (a3_9c : Nat) : W :=
  WCall Tryz.prog Q 51 #[] (WOpen (.one (.l .b)) fun (x1 : Bool) =>
  WIf (!x1) (Q (.returned (.bool false)))
  (WCall Tryz.prog Q 54 #[(.slice a2a a2n a2c)] (WOpen (.one (.l .sl)) fun (x2 : Option Go.Addr) (x2_1 : Nat) (x2_2 : Nat) =>
   WCall Tryz.prog Q 56 #[(.agg #[(.int .i64 a3_0), (.string a3_1), (.string a3_2), (.string a3_3), (.string a3_4), (.string a3_5), (.int .i64 a3_6), (.int .i64 a3_7), (.string a3_8), (.slice a3_9a a3_9n a3_9c)])] (WOpen (.one (.agg [(.i .i64), .s, .s, .s])) fun (x3 : Int) (x3_1 : ByteArray) (x3_2 : ByteArray) (x3_3 : ByteArray) =>
   WCall Tryz.prog Q 55 #[(.slice x2 x2_1 x2_2), (.agg #[(.int .i64 x3), (.string x3_1), (.string x3_2), (.string x3_3)])] (WOpen (.one (.l .sl)) fun (x4 : Option Go.Addr) (x4_1 : Nat) (x4_2 : Nat) =>
   WLoop (σ := ((Int × (Int × Unit)) × Unit)) ((0, (0, ())), ()) fun x5 again5 =>
   WIf (decide ((x5.1.2.1 : Int) < (x2_1 : Int))) (WIndex x2 x2_1 (x5.1.2.1 : Int) fun q6 =>
    WLoad (Addr.add (Addr.add q6 ((Int.toNat (x5.1.2.1 : Int)) * 8)) 1) (.l .s) fun (x7 : ByteArray) =>
    WNew [(.string (ByteArray.mk #[])), (.string (ByteArray.mk #[]))] 102 fun z8 =>
    WHeld [((Addr.add (Addr.add q6 ((Int.toNat (x5.1.2.1 : Int)) * 8)) 1), [(.string x7)])] <|
    WStore ⟨z8, 0, none⟩ [(.string a3_3), (.string x7)] <|
    WJoin (σ := (Unit × Unit)) (fun again9 =>
     WIndex x2 x2_1 (x5.1.2.1 : Int) fun q10 =>
     WLoad (Addr.add (Addr.add q10 ((Int.toNat (x5.1.2.1 : Int)) * 8)) 0) (.l (.i .i64)) fun (x11 : Int) =>
     WIf (x11 == 5) (WIndex (some ⟨z8, 0, none⟩) 2 0 fun q12 =>
      WStore (Addr.add q12 0) [(.string a3_2)] <|
      again9 ((), ()))
     (again9 ((), ())))
    (fun x9 =>
     WLoop (σ := ((Bool × (Int × Unit)) × Unit)) ((false, (0, ())), ()) fun x13 again13 =>
     WIf ((decide ((x13.1.2.1 : Int) < (x5.1.1 : Int))) && (decide ((x13.1.2.1 : Int) < (x4_1 : Int)))) (WIf (x13.1.1 : Bool) (again13 ((true, ((IntKind.wrap .i64 ((x13.1.2.1 : Int) + 1)), ())), ()))
      (WIndex x4 x4_1 (x13.1.2.1 : Int) fun q14 =>
       WLoad (Addr.add q14 ((Int.toNat (x13.1.2.1 : Int)) * 2)) (.agg [.s, .s]) fun (x15 : ByteArray) (x15_1 : ByteArray) =>
       WLoad ⟨z8, 0, none⟩ (.agg [.s, .s]) fun (x16 : ByteArray) (x16_1 : ByteArray) =>
       WPrim Tryz.prog (binP false .eql 102 (.agg #[(.string x15), (.string x15_1)]) (.agg #[(.string x16), (.string x16_1)])) (WOpen (.one (.l .b)) fun (x17 : Bool) =>
       again13 ((x17, ((IntKind.wrap .i64 ((x13.1.2.1 : Int) + 1)), ())), ()))))
     (WIf (x13.1.1 : Bool) (again5 (((x5.1.1 : Int), ((IntKind.wrap .i64 ((x5.1.2.1 : Int) + 1)), ())), ()))
      (WIf (decide ((x5.1.1 : Int) ≥ (x4_1 : Int))) (Q (.returned (.bool false)))
       (WIndex x4 x4_1 (x5.1.1 : Int) fun q18 =>
        WLoad (Addr.add q18 ((Int.toNat (x5.1.1 : Int)) * 2)) (.agg [.s, .s]) fun (x19 : ByteArray) (x19_1 : ByteArray) =>
        WLoad ⟨z8, 0, none⟩ (.agg [.s, .s]) fun (x20 : ByteArray) (x20_1 : ByteArray) =>
        WPrim Tryz.prog (binP false .neq 102 (.agg #[(.string x19), (.string x19_1)]) (.agg #[(.string x20), (.string x20_1)])) (WOpen (.one (.l .b)) fun (x21 : Bool) =>
        WIf x21 (Q (.returned (.bool false)))
        (again5 (((IntKind.wrap .i64 ((x5.1.1 : Int) + 1)), ((IntKind.wrap .i64 ((x5.1.2.1 : Int) + 1)), ())), ()))))))))
   (WCall Tryz.prog Q 57 #[(.slice a0a a0n a0c), (.slice a1a a1n a1c)] (WOpen (.tup [(.l .p), (.agg [.sl, .sl])]) fun (x22 : Option Go.Addr) (x22_1 : Option Go.Addr) (x22_2 : Nat) (x22_3 : Nat) (x22_4 : Option Go.Addr) (x22_5 : Nat) (x22_6 : Nat) =>
    WCall Tryz.prog Q 56 #[(.agg #[(.int .i64 a3_0), (.string a3_1), (.string a3_2), (.string a3_3), (.string a3_4), (.string a3_5), (.int .i64 a3_6), (.int .i64 a3_7), (.string a3_8), (.slice a3_9a a3_9n a3_9c)])] (WOpen (.one (.agg [(.i .i64), .s, .s, .s])) fun (x23 : Int) (x23_1 : ByteArray) (x23_2 : ByteArray) (x23_3 : ByteArray) =>
    WCall Tryz.prog Q 58 #[(.pointer x22), (.slice x2 x2_1 x2_2), (.agg #[(.int .i64 x23), (.string x23_1), (.string x23_2), (.string x23_3)])] (WOpen (.tup [(.l .p), (.l (.i .i64))]) fun (x24 : Option Go.Addr) (x24_1 : Int) =>
    WCall Tryz.prog Q 59 #[(.pointer x22), (.string a3_4), (.string a3_5)] (WOpen (.tup [(.agg [(.i .i64), (.i .i64), .s, .sl]), (.l .b)]) fun (x25 : Int) (x25_1 : Int) (x25_2 : ByteArray) (x25_3 : Option Go.Addr) (x25_4 : Nat) (x25_5 : Nat) (x25_6 : Bool) =>
    WCall Tryz.prog Q 59 #[(.pointer x24), (.string a3_4), (.string a3_5)] (WOpen (.tup [(.agg [(.i .i64), (.i .i64), .s, .sl]), (.l .b)]) fun (x26 : Int) (x26_1 : Int) (x26_2 : ByteArray) (x26_3 : Option Go.Addr) (x26_4 : Nat) (x26_5 : Nat) (x26_6 : Bool) =>
    WLoop (σ := ((Bool × (Int × Unit)) × Unit)) ((x25_6, (0, ())), ()) fun x27 again27 =>
    WIf (decide ((x27.1.2.1 : Int) < (x4_1 : Int))) (WIf (x27.1.1 : Bool) (WIndex x4 x4_1 (x27.1.2.1 : Int) fun q28 =>
      WLoad (Addr.add q28 ((Int.toNat (x27.1.2.1 : Int)) * 2)) (.agg [.s, .s]) fun (x29 : ByteArray) (x29_1 : ByteArray) =>
      WPrim Tryz.prog (binP false .neq 102 (.agg #[(.string x29), (.string x29_1)]) (.agg #[(.string a3_4), (.string a3_5)])) (WOpen (.one (.l .b)) fun (x30 : Bool) =>
      again27 ((x30, ((IntKind.wrap .i64 ((x27.1.2.1 : Int) + 1)), ())), ())))
     (again27 ((false, ((IntKind.wrap .i64 ((x27.1.2.1 : Int) + 1)), ())), ())))
    (WIf ((x5.1.1 : Int) == (x4_1 : Int)) (WIf (x24_1 != 0) (Q (.returned (.bool true)))
      (WIf (!(x27.1.1 : Bool)) (Q (.returned (.bool true)))
       (WIf x26_6 (WCall Tryz.prog Q 34 #[(.agg #[(.int .i64 x25), (.int .i64 x25_1), (.string x25_2), (.slice x25_3 x25_4 x25_5)]), (.agg #[(.int .i64 x26), (.int .i64 x26_1), (.string x26_2), (.slice x26_3 x26_4 x26_5)])] (WOpen (.one (.l .b)) fun (x31 : Bool) =>
         Q (.returned (.bool x31))))
        (Q (.returned (.bool false))))))
     (Q (.returned (.bool false)))))))))))))))

def h14 : Hints := ⟨[12], [⟨4, [(20, .b), (23, .i .i64)], [122, 123, 124, 125, 126, 127, 128, 129, 130, 131, 132, 133, 134, 135, 136, 137, 138, 139, 140], []⟩, ⟨2, [(13, .b), (14, .i .i64)], [55, 56, 57, 58, 59, 60, 61, 62, 63, 64, 65, 66, 67, 68, 69, 70, 71, 72, 73, 74], []⟩, ⟨0, [(10, .i .i64), (11, .i .i64)], [8, 12, 13, 14, 32, 33, 34, 35, 36, 37, 38, 39, 40, 41, 42, 43, 44, 45, 46, 47, 48, 49, 50, 51, 52, 53, 54, 55, 56, 57, 58, 59, 60, 61, 62, 63, 64, 65, 66, 67, 68, 69, 70, 71, 72, 73, 74, 75, 76, 77, 78, 79, 80, 81, 82, 83, 84, 85, 86, 87, 88, 89], []⟩], [⟨11, [], [46, 47, 48, 49, 50, 51, 52, 53, 54], []⟩], [7, 16, 19, 21]⟩
theorem tie14 (Q : Ending → W) (a0a : Option Addr) (a0n : Nat) (a0c : Nat) (a1a : Option Addr) (a1n : Nat) (a1c : Nat) (a2a : Option Addr) (a2n : Nat) (a2c : Nat) (a3_0 : Int) (a3_1 : ByteArray) (a3_2 : ByteArray) (a3_3 : ByteArray) (a3_4 : ByteArray) (a3_5 : ByteArray) (a3_6 : Int) (a3_7 : Int) (a3_8 : ByteArray) (a3_9a : Option Addr) (a3_9n : Nat) (a3_9c : Nat) : funW Tryz.prog tab Q h14 Tryz.f14 [.v (.slice a0a a0n a0c), .v (.slice a1a a1n a1c), .v (.slice a2a a2n a2c), .v (.agg ⟨[(.int .i64 a3_0), (.string a3_1), (.string a3_2), (.string a3_3), (.string a3_4), (.string a3_5), (.int .i64 a3_6), (.int .i64 a3_7), (.string a3_8), (.slice a3_9a a3_9n a3_9c)]⟩)] = W14 Q a0a a0n a0c a1a a1n a1c a2a a2n a2c a3_0 a3_1 a3_2 a3_3 a3_4 a3_5 a3_6 a3_7 a3_8 a3_9a a3_9n a3_9c := by kernel_rfl

theorem spec14 {Q : Ending → W} {a0a : Option Addr} {a0n : Nat} {a0c : Nat} {a1a : Option Addr} {a1n : Nat} {a1c : Nat} {a2a : Option Addr} {a2n : Nat} {a2c : Nat} {a3_0 : Int} {a3_1 : ByteArray} {a3_2 : ByteArray} {a3_3 : ByteArray} {a3_4 : ByteArray} {a3_5 : ByteArray} {a3_6 : Int} {a3_7 : Int} {a3_8 : ByteArray} {a3_9a : Option Addr} {a3_9n : Nat} {a3_9c : Nat} {H : HP} (h : W14 Q a0a a0n a0c a1a a1n a1c a2a a2n a2c a3_0 a3_1 a3_2 a3_3 a3_4 a3_5 a3_6 a3_7 a3_8 a3_9a a3_9n a3_9c H) : Go.Den.Spec Tryz.prog 14 #[(.slice a0a a0n a0c), (.slice a1a a1n a1c), (.slice a2a a2n a2c), (.agg ⟨[(.int .i64 a3_0), (.string a3_1), (.string a3_2), (.string a3_3), (.string a3_4), (.string a3_5), (.int .i64 a3_6), (.int .i64 a3_7), (.string a3_8), (.slice a3_9a a3_9n a3_9c)]⟩)] H Q :=
  specOf (fn := Tryz.f14) (hs := h14) (args := [.v (.slice a0a a0n a0c), .v (.slice a1a a1n a1c), .v (.slice a2a a2n a2c), .v (.agg ⟨[(.int .i64 a3_0), (.string a3_1), (.string a3_2), (.string a3_3), (.string a3_4), (.string a3_5), (.int .i64 a3_6), (.int .i64 a3_7), (.string a3_8), (.slice a3_9a a3_9n a3_9c)]⟩)]) (by kernel_rfl) (by kernel_rfl) (by kernel_rfl) rfl (by rw [tie14]; exact h)

/-- beadlelaw20.UpdateSplits -/
def W16 (Q : Ending → W) (a0a : Option Addr) (a0n : Nat) (a0c : Nat) (a1a : Option Addr) (a1n : Nat) (a1c : Nat) (a2a : Option Addr) (a2n : Nat) (a2c : Nat) (a3a : Option Addr) (a3n : Nat) (a3c : Nat) (a4_0 : Int) (a4_1 : ByteArray) (a4_2 : ByteArray) (a4_3 : ByteArray) (a4_4 : ByteArray) (a4_5 : ByteArray) (a4_6 : Int) (a4_7 : Int) (a4_8 : ByteArray) (a4_9a : Option Addr) (a4_9n : Nat) (a4_9c : Nat) : W :=
  WCall Tryz.prog Q 51 #[] (WOpen (.one (.l .b)) fun (x1 : Bool) =>
  WIf (!x1) (Q (.returned (.bool false)))
  (WCall Tryz.prog Q 54 #[(.slice a2a a2n a2c)] (WOpen (.one (.l .sl)) fun (x2 : Option Go.Addr) (x2_1 : Nat) (x2_2 : Nat) =>
   WCall Tryz.prog Q 54 #[(.slice a3a a3n a3c)] (WOpen (.one (.l .sl)) fun (x3 : Option Go.Addr) (x3_1 : Nat) (x3_2 : Nat) =>
   WCall Tryz.prog Q 57 #[(.slice a0a a0n a0c), (.slice a1a a1n a1c)] (WOpen (.tup [(.l .p), (.agg [.sl, .sl])]) fun (x4 : Option Go.Addr) (x4_1 : Option Go.Addr) (x4_2 : Nat) (x4_3 : Nat) (x4_4 : Option Go.Addr) (x4_5 : Nat) (x4_6 : Nat) =>
   WPrim Tryz.prog (Builtin.append_ #[92, 92] 92 #[(.slice none 0 0), (.slice x2 x2_1 x2_2)]) (WOpen (.one (.l .sl)) fun (x5 : Option Go.Addr) (x5_1 : Nat) (x5_2 : Nat) =>
   WPrim Tryz.prog (Builtin.append_ #[92, 92] 92 #[(.slice x5 x5_1 x5_2), (.slice x3 x3_1 x3_2)]) (WOpen (.one (.l .sl)) fun (x6 : Option Go.Addr) (x6_1 : Nat) (x6_2 : Nat) =>
   WCall Tryz.prog Q 56 #[(.agg #[(.int .i64 a4_0), (.string a4_1), (.string a4_2), (.string a4_3), (.string a4_4), (.string a4_5), (.int .i64 a4_6), (.int .i64 a4_7), (.string a4_8), (.slice a4_9a a4_9n a4_9c)])] (WOpen (.one (.agg [(.i .i64), .s, .s, .s])) fun (x7 : Int) (x7_1 : ByteArray) (x7_2 : ByteArray) (x7_3 : ByteArray) =>
   WCall Tryz.prog Q 58 #[(.pointer x4), (.slice x6 x6_1 x6_2), (.agg #[(.int .i64 x7), (.string x7_1), (.string x7_2), (.string x7_3)])] (WOpen (.tup [(.l .p), (.l (.i .i64))]) fun (x8 : Option Go.Addr) (x8_1 : Int) =>
   WCall Tryz.prog Q 56 #[(.agg #[(.int .i64 a4_0), (.string a4_1), (.string a4_2), (.string a4_3), (.string a4_4), (.string a4_5), (.int .i64 a4_6), (.int .i64 a4_7), (.string a4_8), (.slice a4_9a a4_9n a4_9c)])] (WOpen (.one (.agg [(.i .i64), .s, .s, .s])) fun (x9 : Int) (x9_1 : ByteArray) (x9_2 : ByteArray) (x9_3 : ByteArray) =>
   WCall Tryz.prog Q 58 #[(.pointer x4), (.slice x2 x2_1 x2_2), (.agg #[(.int .i64 x9), (.string x9_1), (.string x9_2), (.string x9_3)])] (WOpen (.tup [(.l .p), (.l (.i .i64))]) fun (x10 : Option Go.Addr) (x10_1 : Int) =>
   WIf (x10_1 != 0) (Q (.returned (.bool ((x8_1 == x10_1) && (Option.isNone x8)))))
   (WCall Tryz.prog Q 56 #[(.agg #[(.int .i64 a4_0), (.string a4_1), (.string a4_2), (.string a4_3), (.string a4_4), (.string a4_5), (.int .i64 a4_6), (.int .i64 a4_7), (.string a4_8), (.slice a4_9a a4_9n a4_9c)])] (WOpen (.one (.agg [(.i .i64), .s, .s, .s])) fun (x11 : Int) (x11_1 : ByteArray) (x11_2 : ByteArray) (x11_3 : ByteArray) =>
    WCall Tryz.prog Q 58 #[(.pointer x10), (.slice x3 x3_1 x3_2), (.agg #[(.int .i64 x11), (.string x11_1), (.string x11_2), (.string x11_3)])] (WOpen (.tup [(.l .p), (.l (.i .i64))]) fun (x12 : Option Go.Addr) (x12_1 : Int) =>
    WIf (x12_1 != 0) (Q (.returned (.bool ((x8_1 == x12_1) && (Option.isNone x8)))))
    (WJoin (σ := (Unit × Unit)) (fun again13 =>
      WIf (x8_1 != 0) (Q (.returned (.bool false)))
      (WCall Tryz.prog Q 60 #[(.pointer x8)] (WOpen (.one (.l (.i .i64))) fun (x14 : Int) =>
       WCall Tryz.prog Q 60 #[(.pointer x12)] (WOpen (.one (.l (.i .i64))) fun (x15 : Int) =>
       WIf (x14 != x15) (Q (.returned (.bool false)))
       (again13 ((), ()))))))
     (fun x13 =>
      WCall Tryz.prog Q 56 #[(.agg #[(.int .i64 a4_0), (.string a4_1), (.string a4_2), (.string a4_3), (.string a4_4), (.string a4_5), (.int .i64 a4_6), (.int .i64 a4_7), (.string a4_8), (.slice a4_9a a4_9n a4_9c)])] (WOpen (.one (.agg [(.i .i64), .s, .s, .s])) fun (x16 : Int) (x16_1 : ByteArray) (x16_2 : ByteArray) (x16_3 : ByteArray) =>
      WCall Tryz.prog Q 55 #[(.slice x6 x6_1 x6_2), (.agg #[(.int .i64 x16), (.string x16_1), (.string x16_2), (.string x16_3)])] (WOpen (.one (.l .sl)) fun (x17 : Option Go.Addr) (x17_1 : Nat) (x17_2 : Nat) =>
      WLoop (σ := ((Int × Unit) × Unit)) ((0, ()), ()) fun x18 again18 =>
      WIf (decide ((x18.1.1 : Int) < (x17_1 : Int))) (WIndex x17 x17_1 (x18.1.1 : Int) fun q19 =>
       WIndex (some (Addr.add q19 ((Int.toNat (x18.1.1 : Int)) * 2))) 2 0 fun q20 =>
       WLoad (Addr.add q20 0) (.l .s) fun (x21 : ByteArray) =>
       WIndex x17 x17_1 (x18.1.1 : Int) fun q22 =>
       WIndex (some (Addr.add q22 ((Int.toNat (x18.1.1 : Int)) * 2))) 2 1 fun q23 =>
       WLoad (Addr.add q23 1) (.l .s) fun (x24 : ByteArray) =>
       WCall Tryz.prog Q 59 #[(.pointer x8), (.string x21), (.string x24)] (WOpen (.tup [(.agg [(.i .i64), (.i .i64), .s, .sl]), (.l .b)]) fun (x25 : Int) (x25_1 : Int) (x25_2 : ByteArray) (x25_3 : Option Go.Addr) (x25_4 : Nat) (x25_5 : Nat) (x25_6 : Bool) =>
       WIndex x17 x17_1 (x18.1.1 : Int) fun q26 =>
       WIndex (some (Addr.add q26 ((Int.toNat (x18.1.1 : Int)) * 2))) 2 0 fun q27 =>
       WLoad (Addr.add q27 0) (.l .s) fun (x28 : ByteArray) =>
       WIndex x17 x17_1 (x18.1.1 : Int) fun q29 =>
       WIndex (some (Addr.add q29 ((Int.toNat (x18.1.1 : Int)) * 2))) 2 1 fun q30 =>
       WLoad (Addr.add q30 1) (.l .s) fun (x31 : ByteArray) =>
       WCall Tryz.prog Q 59 #[(.pointer x12), (.string x28), (.string x31)] (WOpen (.tup [(.agg [(.i .i64), (.i .i64), .s, .sl]), (.l .b)]) fun (x32 : Int) (x32_1 : Int) (x32_2 : ByteArray) (x32_3 : Option Go.Addr) (x32_4 : Nat) (x32_5 : Nat) (x32_6 : Bool) =>
       WIf (!(x25_6 == x32_6)) (Q (.returned (.bool false)))
       (WCall Tryz.prog Q 34 #[(.agg #[(.int .i64 x25), (.int .i64 x25_1), (.string x25_2), (.slice x25_3 x25_4 x25_5)]), (.agg #[(.int .i64 x32), (.int .i64 x32_1), (.string x32_2), (.slice x32_3 x32_4 x32_5)])] (WOpen (.one (.l .b)) fun (x33 : Bool) =>
        WIf (!x33) (Q (.returned (.bool false)))
        (again18 (((IntKind.wrap .i64 ((x18.1.1 : Int) + 1)), ()), ())))))))
      (Q (.returned (.bool true)))))))))))))))))))))

def h16 : Hints := ⟨[], [⟨0, [(21, .i .i64)], [10, 22, 23, 24, 25, 99, 100, 101, 102, 103, 104, 105, 106, 107, 108, 109, 110, 111, 112, 113, 114, 115, 116, 117, 118, 119, 120, 121, 122, 123, 124, 125, 126, 127, 128, 129, 130, 131, 132, 133, 134, 135, 136, 137, 138, 139, 140, 141, 142, 143], []⟩], [⟨17, [], [10, 86, 87, 88, 89, 90, 91, 92, 93, 94], []⟩], [9, 12, 22, 24]⟩
theorem tie16 (Q : Ending → W) (a0a : Option Addr) (a0n : Nat) (a0c : Nat) (a1a : Option Addr) (a1n : Nat) (a1c : Nat) (a2a : Option Addr) (a2n : Nat) (a2c : Nat) (a3a : Option Addr) (a3n : Nat) (a3c : Nat) (a4_0 : Int) (a4_1 : ByteArray) (a4_2 : ByteArray) (a4_3 : ByteArray) (a4_4 : ByteArray) (a4_5 : ByteArray) (a4_6 : Int) (a4_7 : Int) (a4_8 : ByteArray) (a4_9a : Option Addr) (a4_9n : Nat) (a4_9c : Nat) : funW Tryz.prog tab Q h16 Tryz.f16 [.v (.slice a0a a0n a0c), .v (.slice a1a a1n a1c), .v (.slice a2a a2n a2c), .v (.slice a3a a3n a3c), .v (.agg ⟨[(.int .i64 a4_0), (.string a4_1), (.string a4_2), (.string a4_3), (.string a4_4), (.string a4_5), (.int .i64 a4_6), (.int .i64 a4_7), (.string a4_8), (.slice a4_9a a4_9n a4_9c)]⟩)] = W16 Q a0a a0n a0c a1a a1n a1c a2a a2n a2c a3a a3n a3c a4_0 a4_1 a4_2 a4_3 a4_4 a4_5 a4_6 a4_7 a4_8 a4_9a a4_9n a4_9c := by kernel_rfl

theorem spec16 {Q : Ending → W} {a0a : Option Addr} {a0n : Nat} {a0c : Nat} {a1a : Option Addr} {a1n : Nat} {a1c : Nat} {a2a : Option Addr} {a2n : Nat} {a2c : Nat} {a3a : Option Addr} {a3n : Nat} {a3c : Nat} {a4_0 : Int} {a4_1 : ByteArray} {a4_2 : ByteArray} {a4_3 : ByteArray} {a4_4 : ByteArray} {a4_5 : ByteArray} {a4_6 : Int} {a4_7 : Int} {a4_8 : ByteArray} {a4_9a : Option Addr} {a4_9n : Nat} {a4_9c : Nat} {H : HP} (h : W16 Q a0a a0n a0c a1a a1n a1c a2a a2n a2c a3a a3n a3c a4_0 a4_1 a4_2 a4_3 a4_4 a4_5 a4_6 a4_7 a4_8 a4_9a a4_9n a4_9c H) : Go.Den.Spec Tryz.prog 16 #[(.slice a0a a0n a0c), (.slice a1a a1n a1c), (.slice a2a a2n a2c), (.slice a3a a3n a3c), (.agg ⟨[(.int .i64 a4_0), (.string a4_1), (.string a4_2), (.string a4_3), (.string a4_4), (.string a4_5), (.int .i64 a4_6), (.int .i64 a4_7), (.string a4_8), (.slice a4_9a a4_9n a4_9c)]⟩)] H Q :=
  specOf (fn := Tryz.f16) (hs := h16) (args := [.v (.slice a0a a0n a0c), .v (.slice a1a a1n a1c), .v (.slice a2a a2n a2c), .v (.slice a3a a3n a3c), .v (.agg ⟨[(.int .i64 a4_0), (.string a4_1), (.string a4_2), (.string a4_3), (.string a4_4), (.string a4_5), (.int .i64 a4_6), (.int .i64 a4_7), (.string a4_8), (.slice a4_9a a4_9n a4_9c)]⟩)]) (by kernel_rfl) (by kernel_rfl) (by kernel_rfl) rfl (by rw [tie16]; exact h)

/-- slices.pdqsortOrdered[string] -/
def W280 (Q : Ending → W) (a0a : Option Addr) (a0n : Nat) (a0c : Nat) (a1 : Int) (a2 : Int) (a3 : Int) : W :=
  WLoop (σ := ((Int × (Int × (Int × (Bool × (Bool × Unit))))) × Unit)) ((a1, (a2, (a3, (true, (true, ()))))), ()) fun x1 again1 =>
  WIf (decide ((IntKind.wrap .i64 ((x1.1.2.1 : Int) - (x1.1.1 : Int))) ≤ 12)) (WCall Tryz.prog Q 286 #[(.slice a0a a0n a0c), (.int .i64 (x1.1.1 : Int)), (.int .i64 (x1.1.2.1 : Int))] (WOpen (.tup []) <|
   Q (.returned (.tuple #[]))))
  (WIf ((x1.1.2.2.1 : Int) == 0) (WCall Tryz.prog Q 287 #[(.slice a0a a0n a0c), (.int .i64 (x1.1.1 : Int)), (.int .i64 (x1.1.2.1 : Int))] (WOpen (.tup []) <|
    Q (.returned (.tuple #[]))))
   (WJoin (σ := ((Int × Unit) × Unit)) (fun again4 =>
     WIf (!(x1.1.2.2.2.1 : Bool)) (WCall Tryz.prog Q 288 #[(.slice a0a a0n a0c), (.int .i64 (x1.1.1 : Int)), (.int .i64 (x1.1.2.1 : Int))] (WOpen (.tup []) <|
      again4 (((IntKind.wrap .i64 ((x1.1.2.2.1 : Int) - 1)), ()), ())))
     (again4 (((x1.1.2.2.1 : Int), ()), ())))
    (fun x4 =>
     WCall Tryz.prog Q 289 #[(.slice a0a a0n a0c), (.int .i64 (x1.1.1 : Int)), (.int .i64 (x1.1.2.1 : Int))] (WOpen (.tup [(.l (.i .i64)), (.l (.i .i64))]) fun (x6 : Int) (x6_1 : Int) =>
     WJoin (σ := ((Int × (Int × Unit)) × Unit)) (fun again7 =>
      WIf (x6_1 == 2) (WCall Tryz.prog Q 290 #[(.slice a0a a0n a0c), (.int .i64 (x1.1.1 : Int)), (.int .i64 (x1.1.2.1 : Int))] (WOpen (.tup []) <|
       again7 (((IntKind.wrap .i64 ((IntKind.wrap .i64 ((x1.1.2.1 : Int) - 1)) - (IntKind.wrap .i64 (x6 - (x1.1.1 : Int))))), (1, ())), ())))
      (again7 ((x6, (x6_1, ())), ())))
     (fun x7 =>
      WJoin (σ := (Unit × Unit)) (fun again9 =>
       WIf (((x1.1.2.2.2.1 : Bool) && (x1.1.2.2.2.2.1 : Bool)) && ((x7.1.2.1 : Int) == 1)) (WCall Tryz.prog Q 291 #[(.slice a0a a0n a0c), (.int .i64 (x1.1.1 : Int)), (.int .i64 (x1.1.2.1 : Int))] (WOpen (.one (.l .b)) fun (x10 : Bool) =>
        WIf x10 (Q (.returned (.tuple #[])))
        (again9 ((), ()))))
       (again9 ((), ())))
      (fun x9 =>
       WIf (decide ((x1.1.1 : Int) > 0)) (WIndex a0a a0n (IntKind.wrap .i64 ((x1.1.1 : Int) - 1)) fun q11 =>
        WLoad (Addr.add q11 ((Int.toNat (IntKind.wrap .i64 ((x1.1.1 : Int) - 1))) * 1)) (.l .s) fun (x12 : ByteArray) =>
        WIndex a0a a0n (x7.1.1 : Int) fun q13 =>
        WLoad (Addr.add q13 ((Int.toNat (x7.1.1 : Int)) * 1)) (.l .s) fun (x14 : ByteArray) =>
        WCall Tryz.prog Q 292 #[(.string x12), (.string x14)] (WOpen (.one (.l .b)) fun (x15 : Bool) =>
        WIf (!x15) (WCall Tryz.prog Q 293 #[(.slice a0a a0n a0c), (.int .i64 (x1.1.1 : Int)), (.int .i64 (x1.1.2.1 : Int)), (.int .i64 (x7.1.1 : Int))] (WOpen (.one (.l (.i .i64))) fun (x16 : Int) =>
         again1 ((x16, ((x1.1.2.1 : Int), ((x4.1.1 : Int), ((x1.1.2.2.2.1 : Bool), ((x1.1.2.2.2.2.1 : Bool), ()))))), ())))
        (WCall Tryz.prog Q 294 #[(.slice a0a a0n a0c), (.int .i64 (x1.1.1 : Int)), (.int .i64 (x1.1.2.1 : Int)), (.int .i64 (x7.1.1 : Int))] (WOpen (.tup [(.l (.i .i64)), (.l .b)]) fun (x17 : Int) (x17_1 : Bool) =>
         WReq ((8 : Int) ≠ 0) <|
         WIf (decide ((IntKind.wrap .i64 (x17 - (x1.1.1 : Int))) < (IntKind.wrap .i64 ((x1.1.2.1 : Int) - x17)))) (WCall Tryz.prog Q 280 #[(.slice a0a a0n a0c), (.int .i64 (x1.1.1 : Int)), (.int .i64 x17), (.int .i64 (x4.1.1 : Int))] (WOpen (.tup []) <|
          again1 (((IntKind.wrap .i64 (x17 + 1)), ((x1.1.2.1 : Int), ((x4.1.1 : Int), ((decide ((IntKind.wrap .i64 (x17 - (x1.1.1 : Int))) ≥ (IntKind.wrap .i64 (Int.tdiv (IntKind.wrap .i64 ((x1.1.2.1 : Int) - (x1.1.1 : Int))) 8)))), (x17_1, ()))))), ())))
         (WCall Tryz.prog Q 280 #[(.slice a0a a0n a0c), (.int .i64 (IntKind.wrap .i64 (x17 + 1))), (.int .i64 (x1.1.2.1 : Int)), (.int .i64 (x4.1.1 : Int))] (WOpen (.tup []) <|
          again1 (((x1.1.1 : Int), (x17, ((x4.1.1 : Int), ((decide ((IntKind.wrap .i64 ((x1.1.2.1 : Int) - x17)) ≥ (IntKind.wrap .i64 (Int.tdiv (IntKind.wrap .i64 ((x1.1.2.1 : Int) - (x1.1.1 : Int))) 8)))), (x17_1, ()))))), ())))))))
       (WCall Tryz.prog Q 294 #[(.slice a0a a0n a0c), (.int .i64 (x1.1.1 : Int)), (.int .i64 (x1.1.2.1 : Int)), (.int .i64 (x7.1.1 : Int))] (WOpen (.tup [(.l (.i .i64)), (.l .b)]) fun (x20 : Int) (x20_1 : Bool) =>
        WReq ((8 : Int) ≠ 0) <|
        WIf (decide ((IntKind.wrap .i64 (x20 - (x1.1.1 : Int))) < (IntKind.wrap .i64 ((x1.1.2.1 : Int) - x20)))) (WCall Tryz.prog Q 280 #[(.slice a0a a0n a0c), (.int .i64 (x1.1.1 : Int)), (.int .i64 x20), (.int .i64 (x4.1.1 : Int))] (WOpen (.tup []) <|
         again1 (((IntKind.wrap .i64 (x20 + 1)), ((x1.1.2.1 : Int), ((x4.1.1 : Int), ((decide ((IntKind.wrap .i64 (x20 - (x1.1.1 : Int))) ≥ (IntKind.wrap .i64 (Int.tdiv (IntKind.wrap .i64 ((x1.1.2.1 : Int) - (x1.1.1 : Int))) 8)))), (x20_1, ()))))), ())))
        (WCall Tryz.prog Q 280 #[(.slice a0a a0n a0c), (.int .i64 (IntKind.wrap .i64 (x20 + 1))), (.int .i64 (x1.1.2.1 : Int)), (.int .i64 (x4.1.1 : Int))] (WOpen (.tup []) <|
         again1 (((x1.1.1 : Int), (x20, ((x4.1.1 : Int), ((decide ((IntKind.wrap .i64 ((x1.1.2.1 : Int) - x20)) ≥ (IntKind.wrap .i64 (Int.tdiv (IntKind.wrap .i64 ((x1.1.2.1 : Int) - (x1.1.1 : Int))) 8)))), (x20_1, ()))))), ())))))))))))

def h280 : Hints := ⟨[], [⟨0, [(1, .i .i64), (2, .i .i64), (3, .i .i64), (8, .b), (9, .b)], [10, 11, 12, 13, 14, 15, 16, 17, 18, 19, 20, 21, 22, 23, 24, 25, 26, 27, 28, 29, 30, 31, 32, 33, 34, 35, 36, 37, 38, 39, 40, 41, 42, 43, 44, 45, 46, 47, 48, 49, 50, 51, 52, 53, 54, 55, 56, 57, 58, 59, 60, 61, 62, 63, 64, 65, 66, 67, 68, 69, 70, 71, 72, 73, 74, 75, 76, 77, 78, 79, 80, 81, 82, 83, 84, 85, 86, 87, 88, 89, 90, 91, 92, 93, 94, 95, 96, 97, 98, 99, 100, 101, 102, 103, 104, 105, 106, 107, 108, 109, 110, 111, 112, 113, 114, 115, 116, 117, 118, 119, 120, 121, 122, 123, 124, 125, 126, 127, 128, 129, 130, 131, 132, 133], []⟩], [⟨17, [], [61, 62, 63, 64, 65, 66, 67, 68, 69, 70, 71, 72], []⟩, ⟨15, [(11, .i .i64), (12, .i .i64)], [49, 50, 51, 52, 53, 54, 55, 56, 57, 58, 59, 60], []⟩, ⟨10, [(3, .i .i64)], [34, 35, 36, 37, 38, 39, 40, 41], []⟩], []⟩
theorem tie280 (Q : Ending → W) (a0a : Option Addr) (a0n : Nat) (a0c : Nat) (a1 : Int) (a2 : Int) (a3 : Int) : funW Tryz.prog tab Q h280 Tryz.f280 [.v (.slice a0a a0n a0c), .v (.int .i64 a1), .v (.int .i64 a2), .v (.int .i64 a3)] = W280 Q a0a a0n a0c a1 a2 a3 := by kernel_rfl

theorem spec280 {Q : Ending → W} {a0a : Option Addr} {a0n : Nat} {a0c : Nat} {a1 : Int} {a2 : Int} {a3 : Int} {H : HP} (h : W280 Q a0a a0n a0c a1 a2 a3 H) : Go.Den.Spec Tryz.prog 280 #[(.slice a0a a0n a0c), (.int .i64 a1), (.int .i64 a2), (.int .i64 a3)] H Q :=
  specOf (fn := Tryz.f280) (hs := h280) (args := [.v (.slice a0a a0n a0c), .v (.int .i64 a1), .v (.int .i64 a2), .v (.int .i64 a3)]) (by kernel_rfl) (by kernel_rfl) (by kernel_rfl) rfl (by rw [tie280]; exact h)

/-- math/bits.Len -/
def W281 (Q : Ending → W) (a0 : Int) : W :=
  WCall Tryz.prog Q 296 #[(.int .u64 a0)] (WOpen (.one (.l (.i .i64))) fun (x1 : Int) =>
  Q (.returned (.int .i64 x1)))

def h281 : Hints := ⟨[], [], [], []⟩
theorem tie281 (Q : Ending → W) (a0 : Int) : funW Tryz.prog tab Q h281 Tryz.f281 [.v (.int .u64 a0)] = W281 Q a0 := by kernel_rfl

theorem spec281 {Q : Ending → W} {a0 : Int} {H : HP} (h : W281 Q a0 H) : Go.Den.Spec Tryz.prog 281 #[(.int .u64 a0)] H Q :=
  specOf (fn := Tryz.f281) (hs := h281) (args := [.v (.int .u64 a0)]) (by kernel_rfl) (by kernel_rfl) (by kernel_rfl) rfl (by rw [tie281]; exact h)

/-- slices.insertionSortOrdered[string] -/
def W286 (Q : Ending → W) (a0a : Option Addr) (a0n : Nat) (a0c : Nat) (a1 : Int) (a2 : Int) : W :=
  WLoop (σ := ((Int × Unit) × Unit)) (((IntKind.wrap .i64 (a1 + 1)), ()), ()) fun x1 again1 =>
  WIf (decide ((x1.1.1 : Int) < a2)) (WLoop (σ := ((Int × Unit) × Unit)) (((x1.1.1 : Int), ()), ()) fun x2 again2 =>
   WIf (decide ((x2.1.1 : Int) > a1)) (WIndex a0a a0n (x2.1.1 : Int) fun q3 =>
    WLoad (Addr.add q3 ((Int.toNat (x2.1.1 : Int)) * 1)) (.l .s) fun (x4 : ByteArray) =>
    WIndex a0a a0n (IntKind.wrap .i64 ((x2.1.1 : Int) - 1)) fun q5 =>
    WLoad (Addr.add q5 ((Int.toNat (IntKind.wrap .i64 ((x2.1.1 : Int) - 1))) * 1)) (.l .s) fun (x6 : ByteArray) =>
    WCall Tryz.prog Q 292 #[(.string x4), (.string x6)] (WOpen (.one (.l .b)) fun (x7 : Bool) =>
    WIf x7 (WIndex a0a a0n (IntKind.wrap .i64 ((x2.1.1 : Int) - 1)) fun q8 =>
     WLoad (Addr.add q8 ((Int.toNat (IntKind.wrap .i64 ((x2.1.1 : Int) - 1))) * 1)) (.l .s) fun (x9 : ByteArray) =>
     WIndex a0a a0n (x2.1.1 : Int) fun q10 =>
     WLoad (Addr.add q10 ((Int.toNat (x2.1.1 : Int)) * 1)) (.l .s) fun (x11 : ByteArray) =>
     WIndex a0a a0n (x2.1.1 : Int) fun q12 =>
     WStore (Addr.add q12 ((Int.toNat (x2.1.1 : Int)) * 1)) [(.string x9)] <|
     WIndex a0a a0n (IntKind.wrap .i64 ((x2.1.1 : Int) - 1)) fun q13 =>
     WStore (Addr.add q13 ((Int.toNat (IntKind.wrap .i64 ((x2.1.1 : Int) - 1))) * 1)) [(.string x11)] <|
     again2 (((IntKind.wrap .i64 ((x2.1.1 : Int) - 1)), ()), ()))
    (again1 (((IntKind.wrap .i64 ((x1.1.1 : Int) + 1)), ()), ()))))
   (again1 (((IntKind.wrap .i64 ((x1.1.1 : Int) + 1)), ()), ())))
  (Q (.returned (.tuple #[])))

def h286 : Hints := ⟨[], [⟨2, [(7, .i .i64)], [16, 17, 18, 19, 20, 21, 22, 23, 24, 25, 26, 27, 28, 29, 30, 31, 32, 33, 34, 35, 36, 37, 38, 39, 40, 41, 42, 43, 44, 45, 46, 47, 48], []⟩, ⟨0, [(6, .i .i64)], [7, 10, 11, 12, 13, 14, 15, 16, 17, 18, 19, 20, 21, 22, 23, 24, 25, 26, 27, 28, 29, 30, 31, 32, 33, 34, 35, 36, 37, 38, 39, 40, 41, 42, 43, 44, 45, 46, 47, 48], []⟩], [], []⟩
theorem tie286 (Q : Ending → W) (a0a : Option Addr) (a0n : Nat) (a0c : Nat) (a1 : Int) (a2 : Int) : funW Tryz.prog tab Q h286 Tryz.f286 [.v (.slice a0a a0n a0c), .v (.int .i64 a1), .v (.int .i64 a2)] = W286 Q a0a a0n a0c a1 a2 := by kernel_rfl

theorem spec286 {Q : Ending → W} {a0a : Option Addr} {a0n : Nat} {a0c : Nat} {a1 : Int} {a2 : Int} {H : HP} (h : W286 Q a0a a0n a0c a1 a2 H) : Go.Den.Spec Tryz.prog 286 #[(.slice a0a a0n a0c), (.int .i64 a1), (.int .i64 a2)] H Q :=
  specOf (fn := Tryz.f286) (hs := h286) (args := [.v (.slice a0a a0n a0c), .v (.int .i64 a1), .v (.int .i64 a2)]) (by kernel_rfl) (by kernel_rfl) (by kernel_rfl) rfl (by rw [tie286]; exact h)

/-- cmp.Less[string] -/
def W292 (Q : Ending → W) (a0 : ByteArray) (a1 : ByteArray) : W :=
  WCall Tryz.prog Q 262 #[(.string a0)] (WOpen (.one (.l .b)) fun (x1 : Bool) =>
  WIf x1 (WCall Tryz.prog Q 262 #[(.string a1)] (WOpen (.one (.l .b)) fun (x2 : Bool) =>
   WIf (!x2) (Q (.returned (.bool true)))
   (Q (.returned (.bool (Go.Op.bytesLess (ByteArray.toList a0) (ByteArray.toList a1)))))))
  (Q (.returned (.bool (Go.Op.bytesLess (ByteArray.toList a0) (ByteArray.toList a1))))))

def h292 : Hints := ⟨[], [], [], []⟩
theorem tie292 (Q : Ending → W) (a0 : ByteArray) (a1 : ByteArray) : funW Tryz.prog tab Q h292 Tryz.f292 [.v (.string a0), .v (.string a1)] = W292 Q a0 a1 := by kernel_rfl

theorem spec292 {Q : Ending → W} {a0 : ByteArray} {a1 : ByteArray} {H : HP} (h : W292 Q a0 a1 H) : Go.Den.Spec Tryz.prog 292 #[(.string a0), (.string a1)] H Q :=
  specOf (fn := Tryz.f292) (hs := h292) (args := [.v (.string a0), .v (.string a1)]) (by kernel_rfl) (by kernel_rfl) (by kernel_rfl) rfl (by rw [tie292]; exact h)

/-- math/bits.Len64 -/
def W296 (Q : Ending → W) (a0 : Int) : W :=
  WIf (decide (a0 ≥ 4294967296)) (WReq ((0 : Int) ≤ 32) <|
   WIf (decide ((Int.fdiv a0 4294967296) ≥ 65536)) (WReq ((0 : Int) ≤ 16) <|
    WIf (decide ((Int.fdiv (Int.fdiv a0 4294967296) 65536) ≥ 256)) (WReq ((0 : Int) ≤ 8) <|
     WByte (ByteArray.mk #[0, 1, 2, 2, 3, 3, 3, 3, 4, 4, 4, 4, 4, 4, 4, 4, 5, 5, 5, 5, 5, 5, 5, 5, 5, 5, 5, 5, 5, 5, 5, 5, 6, 6, 6, 6, 6, 6, 6, 6, 6, 6, 6, 6, 6, 6, 6, 6, 6, 6, 6, 6, 6, 6, 6, 6, 6, 6, 6, 6, 6, 6, 6, 6, 7, 7, 7, 7, 7, 7, 7, 7, 7, 7, 7, 7, 7, 7, 7, 7, 7, 7, 7, 7, 7, 7, 7, 7, 7, 7, 7, 7, 7, 7, 7, 7, 7, 7, 7, 7, 7, 7, 7, 7, 7, 7, 7, 7, 7, 7, 7, 7, 7, 7, 7, 7, 7, 7, 7, 7, 7, 7, 7, 7, 7, 7, 7, 7, 8, 8, 8, 8, 8, 8, 8, 8, 8, 8, 8, 8, 8, 8, 8, 8, 8, 8, 8, 8, 8, 8, 8, 8, 8, 8, 8, 8, 8, 8, 8, 8, 8, 8, 8, 8, 8, 8, 8, 8, 8, 8, 8, 8, 8, 8, 8, 8, 8, 8, 8, 8, 8, 8, 8, 8, 8, 8, 8, 8, 8, 8, 8, 8, 8, 8, 8, 8, 8, 8, 8, 8, 8, 8, 8, 8, 8, 8, 8, 8, 8, 8, 8, 8, 8, 8, 8, 8, 8, 8, 8, 8, 8, 8, 8, 8, 8, 8, 8, 8, 8, 8, 8, 8, 8, 8, 8, 8, 8, 8, 8, 8, 8, 8, 8, 8, 8, 8, 8, 8, 8, 8, 8, 8, 8, 8, 8, 8]) (IntKind.wrap .u8 (Int.fdiv (Int.fdiv (Int.fdiv a0 4294967296) 65536) 256)) fun y1 =>
     Q (.returned (.int .i64 (IntKind.wrap .i64 ((56 : Int) + (IntKind.wrap .i64 (((UInt8.toNat y1) : Nat) : Int)))))))
    (WByte (ByteArray.mk #[0, 1, 2, 2, 3, 3, 3, 3, 4, 4, 4, 4, 4, 4, 4, 4, 5, 5, 5, 5, 5, 5, 5, 5, 5, 5, 5, 5, 5, 5, 5, 5, 6, 6, 6, 6, 6, 6, 6, 6, 6, 6, 6, 6, 6, 6, 6, 6, 6, 6, 6, 6, 6, 6, 6, 6, 6, 6, 6, 6, 6, 6, 6, 6, 7, 7, 7, 7, 7, 7, 7, 7, 7, 7, 7, 7, 7, 7, 7, 7, 7, 7, 7, 7, 7, 7, 7, 7, 7, 7, 7, 7, 7, 7, 7, 7, 7, 7, 7, 7, 7, 7, 7, 7, 7, 7, 7, 7, 7, 7, 7, 7, 7, 7, 7, 7, 7, 7, 7, 7, 7, 7, 7, 7, 7, 7, 7, 7, 8, 8, 8, 8, 8, 8, 8, 8, 8, 8, 8, 8, 8, 8, 8, 8, 8, 8, 8, 8, 8, 8, 8, 8, 8, 8, 8, 8, 8, 8, 8, 8, 8, 8, 8, 8, 8, 8, 8, 8, 8, 8, 8, 8, 8, 8, 8, 8, 8, 8, 8, 8, 8, 8, 8, 8, 8, 8, 8, 8, 8, 8, 8, 8, 8, 8, 8, 8, 8, 8, 8, 8, 8, 8, 8, 8, 8, 8, 8, 8, 8, 8, 8, 8, 8, 8, 8, 8, 8, 8, 8, 8, 8, 8, 8, 8, 8, 8, 8, 8, 8, 8, 8, 8, 8, 8, 8, 8, 8, 8, 8, 8, 8, 8, 8, 8, 8, 8, 8, 8, 8, 8, 8, 8, 8, 8, 8, 8]) (IntKind.wrap .u8 (Int.fdiv (Int.fdiv a0 4294967296) 65536)) fun y2 =>
     Q (.returned (.int .i64 (IntKind.wrap .i64 ((48 : Int) + (IntKind.wrap .i64 (((UInt8.toNat y2) : Nat) : Int))))))))
   (WIf (decide ((Int.fdiv a0 4294967296) ≥ 256)) (WReq ((0 : Int) ≤ 8) <|
     WByte (ByteArray.mk #[0, 1, 2, 2, 3, 3, 3, 3, 4, 4, 4, 4, 4, 4, 4, 4, 5, 5, 5, 5, 5, 5, 5, 5, 5, 5, 5, 5, 5, 5, 5, 5, 6, 6, 6, 6, 6, 6, 6, 6, 6, 6, 6, 6, 6, 6, 6, 6, 6, 6, 6, 6, 6, 6, 6, 6, 6, 6, 6, 6, 6, 6, 6, 6, 7, 7, 7, 7, 7, 7, 7, 7, 7, 7, 7, 7, 7, 7, 7, 7, 7, 7, 7, 7, 7, 7, 7, 7, 7, 7, 7, 7, 7, 7, 7, 7, 7, 7, 7, 7, 7, 7, 7, 7, 7, 7, 7, 7, 7, 7, 7, 7, 7, 7, 7, 7, 7, 7, 7, 7, 7, 7, 7, 7, 7, 7, 7, 7, 8, 8, 8, 8, 8, 8, 8, 8, 8, 8, 8, 8, 8, 8, 8, 8, 8, 8, 8, 8, 8, 8, 8, 8, 8, 8, 8, 8, 8, 8, 8, 8, 8, 8, 8, 8, 8, 8, 8, 8, 8, 8, 8, 8, 8, 8, 8, 8, 8, 8, 8, 8, 8, 8, 8, 8, 8, 8, 8, 8, 8, 8, 8, 8, 8, 8, 8, 8, 8, 8, 8, 8, 8, 8, 8, 8, 8, 8, 8, 8, 8, 8, 8, 8, 8, 8, 8, 8, 8, 8, 8, 8, 8, 8, 8, 8, 8, 8, 8, 8, 8, 8, 8, 8, 8, 8, 8, 8, 8, 8, 8, 8, 8, 8, 8, 8, 8, 8, 8, 8, 8, 8, 8, 8, 8, 8, 8, 8]) (IntKind.wrap .u8 (Int.fdiv (Int.fdiv a0 4294967296) 256)) fun y3 =>
     Q (.returned (.int .i64 (IntKind.wrap .i64 ((40 : Int) + (IntKind.wrap .i64 (((UInt8.toNat y3) : Nat) : Int)))))))
    (WByte (ByteArray.mk #[0, 1, 2, 2, 3, 3, 3, 3, 4, 4, 4, 4, 4, 4, 4, 4, 5, 5, 5, 5, 5, 5, 5, 5, 5, 5, 5, 5, 5, 5, 5, 5, 6, 6, 6, 6, 6, 6, 6, 6, 6, 6, 6, 6, 6, 6, 6, 6, 6, 6, 6, 6, 6, 6, 6, 6, 6, 6, 6, 6, 6, 6, 6, 6, 7, 7, 7, 7, 7, 7, 7, 7, 7, 7, 7, 7, 7, 7, 7, 7, 7, 7, 7, 7, 7, 7, 7, 7, 7, 7, 7, 7, 7, 7, 7, 7, 7, 7, 7, 7, 7, 7, 7, 7, 7, 7, 7, 7, 7, 7, 7, 7, 7, 7, 7, 7, 7, 7, 7, 7, 7, 7, 7, 7, 7, 7, 7, 7, 8, 8, 8, 8, 8, 8, 8, 8, 8, 8, 8, 8, 8, 8, 8, 8, 8, 8, 8, 8, 8, 8, 8, 8, 8, 8, 8, 8, 8, 8, 8, 8, 8, 8, 8, 8, 8, 8, 8, 8, 8, 8, 8, 8, 8, 8, 8, 8, 8, 8, 8, 8, 8, 8, 8, 8, 8, 8, 8, 8, 8, 8, 8, 8, 8, 8, 8, 8, 8, 8, 8, 8, 8, 8, 8, 8, 8, 8, 8, 8, 8, 8, 8, 8, 8, 8, 8, 8, 8, 8, 8, 8, 8, 8, 8, 8, 8, 8, 8, 8, 8, 8, 8, 8, 8, 8, 8, 8, 8, 8, 8, 8, 8, 8, 8, 8, 8, 8, 8, 8, 8, 8, 8, 8, 8, 8, 8, 8]) (IntKind.wrap .u8 (Int.fdiv a0 4294967296)) fun y4 =>
     Q (.returned (.int .i64 (IntKind.wrap .i64 ((32 : Int) + (IntKind.wrap .i64 (((UInt8.toNat y4) : Nat) : Int)))))))))
  (WIf (decide (a0 ≥ 65536)) (WReq ((0 : Int) ≤ 16) <|
    WIf (decide ((Int.fdiv a0 65536) ≥ 256)) (WReq ((0 : Int) ≤ 8) <|
     WByte (ByteArray.mk #[0, 1, 2, 2, 3, 3, 3, 3, 4, 4, 4, 4, 4, 4, 4, 4, 5, 5, 5, 5, 5, 5, 5, 5, 5, 5, 5, 5, 5, 5, 5, 5, 6, 6, 6, 6, 6, 6, 6, 6, 6, 6, 6, 6, 6, 6, 6, 6, 6, 6, 6, 6, 6, 6, 6, 6, 6, 6, 6, 6, 6, 6, 6, 6, 7, 7, 7, 7, 7, 7, 7, 7, 7, 7, 7, 7, 7, 7, 7, 7, 7, 7, 7, 7, 7, 7, 7, 7, 7, 7, 7, 7, 7, 7, 7, 7, 7, 7, 7, 7, 7, 7, 7, 7, 7, 7, 7, 7, 7, 7, 7, 7, 7, 7, 7, 7, 7, 7, 7, 7, 7, 7, 7, 7, 7, 7, 7, 7, 8, 8, 8, 8, 8, 8, 8, 8, 8, 8, 8, 8, 8, 8, 8, 8, 8, 8, 8, 8, 8, 8, 8, 8, 8, 8, 8, 8, 8, 8, 8, 8, 8, 8, 8, 8, 8, 8, 8, 8, 8, 8, 8, 8, 8, 8, 8, 8, 8, 8, 8, 8, 8, 8, 8, 8, 8, 8, 8, 8, 8, 8, 8, 8, 8, 8, 8, 8, 8, 8, 8, 8, 8, 8, 8, 8, 8, 8, 8, 8, 8, 8, 8, 8, 8, 8, 8, 8, 8, 8, 8, 8, 8, 8, 8, 8, 8, 8, 8, 8, 8, 8, 8, 8, 8, 8, 8, 8, 8, 8, 8, 8, 8, 8, 8, 8, 8, 8, 8, 8, 8, 8, 8, 8, 8, 8, 8, 8]) (IntKind.wrap .u8 (Int.fdiv (Int.fdiv a0 65536) 256)) fun y5 =>
     Q (.returned (.int .i64 (IntKind.wrap .i64 ((24 : Int) + (IntKind.wrap .i64 (((UInt8.toNat y5) : Nat) : Int)))))))
    (WByte (ByteArray.mk #[0, 1, 2, 2, 3, 3, 3, 3, 4, 4, 4, 4, 4, 4, 4, 4, 5, 5, 5, 5, 5, 5, 5, 5, 5, 5, 5, 5, 5, 5, 5, 5, 6, 6, 6, 6, 6, 6, 6, 6, 6, 6, 6, 6, 6, 6, 6, 6, 6, 6, 6, 6, 6, 6, 6, 6, 6, 6, 6, 6, 6, 6, 6, 6, 7, 7, 7, 7, 7, 7, 7, 7, 7, 7, 7, 7, 7, 7, 7, 7, 7, 7, 7, 7, 7, 7, 7, 7, 7, 7, 7, 7, 7, 7, 7, 7, 7, 7, 7, 7, 7, 7, 7, 7, 7, 7, 7, 7, 7, 7, 7, 7, 7, 7, 7, 7, 7, 7, 7, 7, 7, 7, 7, 7, 7, 7, 7, 7, 8, 8, 8, 8, 8, 8, 8, 8, 8, 8, 8, 8, 8, 8, 8, 8, 8, 8, 8, 8, 8, 8, 8, 8, 8, 8, 8, 8, 8, 8, 8, 8, 8, 8, 8, 8, 8, 8, 8, 8, 8, 8, 8, 8, 8, 8, 8, 8, 8, 8, 8, 8, 8, 8, 8, 8, 8, 8, 8, 8, 8, 8, 8, 8, 8, 8, 8, 8, 8, 8, 8, 8, 8, 8, 8, 8, 8, 8, 8, 8, 8, 8, 8, 8, 8, 8, 8, 8, 8, 8, 8, 8, 8, 8, 8, 8, 8, 8, 8, 8, 8, 8, 8, 8, 8, 8, 8, 8, 8, 8, 8, 8, 8, 8, 8, 8, 8, 8, 8, 8, 8, 8, 8, 8, 8, 8, 8, 8]) (IntKind.wrap .u8 (Int.fdiv a0 65536)) fun y6 =>
     Q (.returned (.int .i64 (IntKind.wrap .i64 ((16 : Int) + (IntKind.wrap .i64 (((UInt8.toNat y6) : Nat) : Int))))))))
   (WIf (decide (a0 ≥ 256)) (WReq ((0 : Int) ≤ 8) <|
     WByte (ByteArray.mk #[0, 1, 2, 2, 3, 3, 3, 3, 4, 4, 4, 4, 4, 4, 4, 4, 5, 5, 5, 5, 5, 5, 5, 5, 5, 5, 5, 5, 5, 5, 5, 5, 6, 6, 6, 6, 6, 6, 6, 6, 6, 6, 6, 6, 6, 6, 6, 6, 6, 6, 6, 6, 6, 6, 6, 6, 6, 6, 6, 6, 6, 6, 6, 6, 7, 7, 7, 7, 7, 7, 7, 7, 7, 7, 7, 7, 7, 7, 7, 7, 7, 7, 7, 7, 7, 7, 7, 7, 7, 7, 7, 7, 7, 7, 7, 7, 7, 7, 7, 7, 7, 7, 7, 7, 7, 7, 7, 7, 7, 7, 7, 7, 7, 7, 7, 7, 7, 7, 7, 7, 7, 7, 7, 7, 7, 7, 7, 7, 8, 8, 8, 8, 8, 8, 8, 8, 8, 8, 8, 8, 8, 8, 8, 8, 8, 8, 8, 8, 8, 8, 8, 8, 8, 8, 8, 8, 8, 8, 8, 8, 8, 8, 8, 8, 8, 8, 8, 8, 8, 8, 8, 8, 8, 8, 8, 8, 8, 8, 8, 8, 8, 8, 8, 8, 8, 8, 8, 8, 8, 8, 8, 8, 8, 8, 8, 8, 8, 8, 8, 8, 8, 8, 8, 8, 8, 8, 8, 8, 8, 8, 8, 8, 8, 8, 8, 8, 8, 8, 8, 8, 8, 8, 8, 8, 8, 8, 8, 8, 8, 8, 8, 8, 8, 8, 8, 8, 8, 8, 8, 8, 8, 8, 8, 8, 8, 8, 8, 8, 8, 8, 8, 8, 8, 8, 8, 8]) (IntKind.wrap .u8 (Int.fdiv a0 256)) fun y7 =>
     Q (.returned (.int .i64 (IntKind.wrap .i64 ((8 : Int) + (IntKind.wrap .i64 (((UInt8.toNat y7) : Nat) : Int)))))))
    (WByte (ByteArray.mk #[0, 1, 2, 2, 3, 3, 3, 3, 4, 4, 4, 4, 4, 4, 4, 4, 5, 5, 5, 5, 5, 5, 5, 5, 5, 5, 5, 5, 5, 5, 5, 5, 6, 6, 6, 6, 6, 6, 6, 6, 6, 6, 6, 6, 6, 6, 6, 6, 6, 6, 6, 6, 6, 6, 6, 6, 6, 6, 6, 6, 6, 6, 6, 6, 7, 7, 7, 7, 7, 7, 7, 7, 7, 7, 7, 7, 7, 7, 7, 7, 7, 7, 7, 7, 7, 7, 7, 7, 7, 7, 7, 7, 7, 7, 7, 7, 7, 7, 7, 7, 7, 7, 7, 7, 7, 7, 7, 7, 7, 7, 7, 7, 7, 7, 7, 7, 7, 7, 7, 7, 7, 7, 7, 7, 7, 7, 7, 7, 8, 8, 8, 8, 8, 8, 8, 8, 8, 8, 8, 8, 8, 8, 8, 8, 8, 8, 8, 8, 8, 8, 8, 8, 8, 8, 8, 8, 8, 8, 8, 8, 8, 8, 8, 8, 8, 8, 8, 8, 8, 8, 8, 8, 8, 8, 8, 8, 8, 8, 8, 8, 8, 8, 8, 8, 8, 8, 8, 8, 8, 8, 8, 8, 8, 8, 8, 8, 8, 8, 8, 8, 8, 8, 8, 8, 8, 8, 8, 8, 8, 8, 8, 8, 8, 8, 8, 8, 8, 8, 8, 8, 8, 8, 8, 8, 8, 8, 8, 8, 8, 8, 8, 8, 8, 8, 8, 8, 8, 8, 8, 8, 8, 8, 8, 8, 8, 8, 8, 8, 8, 8, 8, 8, 8, 8, 8, 8]) (IntKind.wrap .u8 a0) fun y8 =>
     Q (.returned (.int .i64 (IntKind.wrap .i64 ((0 : Int) + (IntKind.wrap .i64 (((UInt8.toNat y8) : Nat) : Int)))))))))

def h296 : Hints := ⟨[], [], [], []⟩
theorem tie296 (Q : Ending → W) (a0 : Int) : funW Tryz.prog tab Q h296 Tryz.f296 [.v (.int .u64 a0)] = W296 Q a0 := by kernel_rfl

theorem spec296 {Q : Ending → W} {a0 : Int} {H : HP} (h : W296 Q a0 H) : Go.Den.Spec Tryz.prog 296 #[(.int .u64 a0)] H Q :=
  specOf (fn := Tryz.f296) (hs := h296) (args := [.v (.int .u64 a0)]) (by kernel_rfl) (by kernel_rfl) (by kernel_rfl) rfl (by rw [tie296]; exact h)

/-- beadleplain.Texts -/
def W94 (Q : Ending → W) (a0a : Option Addr) (a0n : Nat) (a0c : Nat) (a1a : Option Addr) (a1n : Nat) (a1c : Nat) : W :=
  WIf ((a0n : Int) != (a1n : Int)) (Q (.returned (.bool false)))
  (WLoop (σ := ((Int × Unit) × Unit)) ((0, ()), ()) fun x1 again1 =>
   WIf (decide ((x1.1.1 : Int) < (a0n : Int))) (WIndex a0a a0n (x1.1.1 : Int) fun q2 =>
    WLoad (Addr.add q2 ((Int.toNat (x1.1.1 : Int)) * 1)) (.l .s) fun (x3 : ByteArray) =>
    WIndex a1a a1n (x1.1.1 : Int) fun q4 =>
    WLoad (Addr.add q4 ((Int.toNat (x1.1.1 : Int)) * 1)) (.l .s) fun (x5 : ByteArray) =>
    WIf (!((ByteArray.toList x3) == (ByteArray.toList x5))) (Q (.returned (.bool false)))
    (again1 (((IntKind.wrap .i64 ((x1.1.1 : Int) + 1)), ()), ())))
   (Q (.returned (.bool true))))

def h94 : Hints := ⟨[], [⟨0, [(5, .i .i64)], [4, 11, 12, 13, 14, 15, 16, 17, 18, 19, 20, 21, 22, 23, 24, 25], []⟩], [], []⟩
theorem tie94 (Q : Ending → W) (a0a : Option Addr) (a0n : Nat) (a0c : Nat) (a1a : Option Addr) (a1n : Nat) (a1c : Nat) : funW Tryz.prog tab Q h94 Tryz.f94 [.v (.slice a0a a0n a0c), .v (.slice a1a a1n a1c)] = W94 Q a0a a0n a0c a1a a1n a1c := by kernel_rfl

theorem spec94 {Q : Ending → W} {a0a : Option Addr} {a0n : Nat} {a0c : Nat} {a1a : Option Addr} {a1n : Nat} {a1c : Nat} {H : HP} (h : W94 Q a0a a0n a0c a1a a1n a1c H) : Go.Den.Spec Tryz.prog 94 #[(.slice a0a a0n a0c), (.slice a1a a1n a1c)] H Q :=
  specOf (fn := Tryz.f94) (hs := h94) (args := [.v (.slice a0a a0n a0c), .v (.slice a1a a1n a1c)]) (by kernel_rfl) (by kernel_rfl) (by kernel_rfl) rfl (by rw [tie94]; exact h)

/-- beadleplain.Value -/
def W34 (Q : Ending → W) (a0_0 : Int) (a0_1 : Int) (a0_2 : ByteArray) (a0_3a : Option Addr) (a0_3n : Nat) (a0_3c : Nat) (a1_0 : Int) (a1_1 : Int) (a1_2 : ByteArray) (a1_3a : Option Addr) (a1_3n : Nat) (a1_3c : Nat) : W :=
  WIf (a0_0 == a1_0) (WIf (a0_1 == a1_1) (WIf ((ByteArray.toList a0_2) == (ByteArray.toList a1_2)) (WCall Tryz.prog Q 94 #[(.slice a0_3a a0_3n a0_3c), (.slice a1_3a a1_3n a1_3c)] (WOpen (.one (.l .b)) fun (x1 : Bool) =>
     Q (.returned (.bool x1))))
    (Q (.returned (.bool false))))
   (Q (.returned (.bool false))))
  (Q (.returned (.bool false)))

def h34 : Hints := ⟨[], [], [], [2, 3]⟩
theorem tie34 (Q : Ending → W) (a0_0 : Int) (a0_1 : Int) (a0_2 : ByteArray) (a0_3a : Option Addr) (a0_3n : Nat) (a0_3c : Nat) (a1_0 : Int) (a1_1 : Int) (a1_2 : ByteArray) (a1_3a : Option Addr) (a1_3n : Nat) (a1_3c : Nat) : funW Tryz.prog tab Q h34 Tryz.f34 [.v (.agg ⟨[(.int .i64 a0_0), (.int .i64 a0_1), (.string a0_2), (.slice a0_3a a0_3n a0_3c)]⟩), .v (.agg ⟨[(.int .i64 a1_0), (.int .i64 a1_1), (.string a1_2), (.slice a1_3a a1_3n a1_3c)]⟩)] = W34 Q a0_0 a0_1 a0_2 a0_3a a0_3n a0_3c a1_0 a1_1 a1_2 a1_3a a1_3n a1_3c := by kernel_rfl

theorem spec34 {Q : Ending → W} {a0_0 : Int} {a0_1 : Int} {a0_2 : ByteArray} {a0_3a : Option Addr} {a0_3n : Nat} {a0_3c : Nat} {a1_0 : Int} {a1_1 : Int} {a1_2 : ByteArray} {a1_3a : Option Addr} {a1_3n : Nat} {a1_3c : Nat} {H : HP} (h : W34 Q a0_0 a0_1 a0_2 a0_3a a0_3n a0_3c a1_0 a1_1 a1_2 a1_3a a1_3n a1_3c H) : Go.Den.Spec Tryz.prog 34 #[(.agg ⟨[(.int .i64 a0_0), (.int .i64 a0_1), (.string a0_2), (.slice a0_3a a0_3n a0_3c)]⟩), (.agg ⟨[(.int .i64 a1_0), (.int .i64 a1_1), (.string a1_2), (.slice a1_3a a1_3n a1_3c)]⟩)] H Q :=
  specOf (fn := Tryz.f34) (hs := h34) (args := [.v (.agg ⟨[(.int .i64 a0_0), (.int .i64 a0_1), (.string a0_2), (.slice a0_3a a0_3n a0_3c)]⟩), .v (.agg ⟨[(.int .i64 a1_0), (.int .i64 a1_1), (.string a1_2), (.slice a1_3a a1_3n a1_3c)]⟩)]) (by kernel_rfl) (by kernel_rfl) (by kernel_rfl) rfl (by rw [tie34]; exact h)

/-- beadlelaw18.MonitorTells -/
def W4 (Q : Ending → W) (a0_0 : Int) (a0_1 : ByteArray) (a0_2 : Int) (a0_3 : Int) (a0_4 : Int) (a0_5a : Option Addr) (a0_5n : Nat) (a0_5c : Nat) (a1a : Option Addr) (a1n : Nat) (a1c : Nat) (a2a : Option Addr) (a2n : Nat) (a2c : Nat) : W :=
  WCall Tryz.prog Q 21 #[] (WOpen (.one (.l .b)) fun (x1 : Bool) =>
  WIf (!x1) (Q (.returned (.bool false)))
  (WCall Tryz.prog Q 22 #[(.agg #[(.int .i64 a0_0), (.string a0_1), (.int .i64 a0_2), (.int .i64 a0_3), (.int .i64 a0_4), (.slice a0_5a a0_5n a0_5c)])] (WOpen (.one (.l .p)) fun (x2 : Option Go.Addr) =>
   WCall Tryz.prog Q 24 #[(.agg #[(.int .i64 a0_0), (.string a0_1), (.int .i64 a0_2), (.int .i64 a0_3), (.int .i64 a0_4), (.slice a0_5a a0_5n a0_5c)])] (WOpen (.one (.l (.i .i64))) fun (x3 : Int) =>
   WIf (x3 != 0) (Q (.returned (.bool (Option.isNone x2))))
   (WCall Tryz.prog Q 23 #[(.slice a1a a1n a1c)] (WOpen (.one (.l .p)) fun (x4 : Option Go.Addr) =>
    WCall Tryz.prog Q 26 #[(.slice a2a a2n a2c), (.int .i64 14)] (WOpen (.one (.l .sl)) fun (x5 : Option Go.Addr) (x5_1 : Nat) (x5_2 : Nat) =>
    WLoop (σ := (((Option Go.Addr × (Nat × Nat)) × (Int × Unit)) × (((Option Go.Addr × (Nat × Nat)) × ((Option Go.Addr × (Nat × Nat)) × Unit)) × Unit))) (((none, (0, 0)), (0, ())), (((a1a, (a1n, a1c)), ((none, (0, 0)), ())), ())) fun x6 again6 =>
    WIf (decide ((x6.1.2.1 : Int) < (x5_1 : Int))) (WIndex x5 x5_1 (x6.1.2.1 : Int) fun q7 =>
     WLoad (Addr.add q7 ((Int.toNat (x6.1.2.1 : Int)) * 10)) (.agg [(.i .i64), .s, .s, .s, .s, .s, (.i .i64), (.i .i64), .s, .sl]) fun (x8 : Int) (x8_1 : ByteArray) (x8_2 : ByteArray) (x8_3 : ByteArray) (x8_4 : ByteArray) (x8_5 : ByteArray) (x8_6 : Int) (x8_7 : Int) (x8_8 : ByteArray) (x8_9 : Option Go.Addr) (x8_10 : Nat) (x8_11 : Nat) =>
     WCall Tryz.prog Q 31 #[(.pointer x4), (.agg #[(.slice (x6.2.1.1.1 : Option Go.Addr) (x6.2.1.1.2.1 : Nat) (x6.2.1.1.2.2 : Nat)), (.slice (x6.2.1.2.1.1 : Option Go.Addr) (x6.2.1.2.1.2.1 : Nat) (x6.2.1.2.1.2.2 : Nat))]), (.agg #[(.int .i64 x8), (.string x8_1), (.string x8_2), (.string x8_3), (.string x8_4), (.string x8_5), (.int .i64 x8_6), (.int .i64 x8_7), (.string x8_8), (.slice x8_9 x8_10 x8_11)])] (WOpen (.one (.agg [.sl, .sl])) fun (x9 : Option Go.Addr) (x9_1 : Nat) (x9_2 : Nat) (x9_3 : Option Go.Addr) (x9_4 : Nat) (x9_5 : Nat) =>
     WIndex x5 x5_1 (x6.1.2.1 : Int) fun q10 =>
     WLoad (Addr.add q10 ((Int.toNat (x6.1.2.1 : Int)) * 10)) (.agg [(.i .i64), .s, .s, .s, .s, .s, (.i .i64), (.i .i64), .s, .sl]) fun (x11 : Int) (x11_1 : ByteArray) (x11_2 : ByteArray) (x11_3 : ByteArray) (x11_4 : ByteArray) (x11_5 : ByteArray) (x11_6 : Int) (x11_7 : Int) (x11_8 : ByteArray) (x11_9 : Option Go.Addr) (x11_10 : Nat) (x11_11 : Nat) =>
     WCall Tryz.prog Q 32 #[(.agg #[(.slice x9 x9_1 x9_2), (.slice x9_3 x9_4 x9_5)]), (.agg #[(.int .i64 x11), (.string x11_1), (.string x11_2), (.string x11_3), (.string x11_4), (.string x11_5), (.int .i64 x11_6), (.int .i64 x11_7), (.string x11_8), (.slice x11_9 x11_10 x11_11)])] (WOpen (.one (.agg [(.i .i64), .s, .s, .s, .sl, .sl])) fun (x12 : Int) (x12_1 : ByteArray) (x12_2 : ByteArray) (x12_3 : ByteArray) (x12_4 : Option Go.Addr) (x12_5 : Nat) (x12_6 : Nat) (x12_7 : Option Go.Addr) (x12_8 : Nat) (x12_9 : Nat) =>
     WNew [(.int .i64 x12), (.string x12_1), (.string x12_2), (.string x12_3), (.slice x12_4 x12_5 x12_6), (.slice x12_7 x12_8 x12_9)] 56 fun z13 =>
     WPrim Tryz.prog (Builtin.append_ #[53, 53] 53 #[(.slice (x6.1.1.1 : Option Go.Addr) (x6.1.1.2.1 : Nat) (x6.1.1.2.2 : Nat)), (.slice (some ⟨z13, 0, none⟩) 1 1)]) (WOpen (.one (.l .sl)) fun (x14 : Option Go.Addr) (x14_1 : Nat) (x14_2 : Nat) =>
     WIndex x5 x5_1 (x6.1.2.1 : Int) fun q15 =>
     WLoad (Addr.add q15 ((Int.toNat (x6.1.2.1 : Int)) * 10)) (.agg [(.i .i64), .s, .s, .s, .s, .s, (.i .i64), (.i .i64), .s, .sl]) fun (x16 : Int) (x16_1 : ByteArray) (x16_2 : ByteArray) (x16_3 : ByteArray) (x16_4 : ByteArray) (x16_5 : ByteArray) (x16_6 : Int) (x16_7 : Int) (x16_8 : ByteArray) (x16_9 : Option Go.Addr) (x16_10 : Nat) (x16_11 : Nat) =>
     WCall Tryz.prog Q 28 #[(.agg #[(.int .i64 x16), (.string x16_1), (.string x16_2), (.string x16_3), (.string x16_4), (.string x16_5), (.int .i64 x16_6), (.int .i64 x16_7), (.string x16_8), (.slice x16_9 x16_10 x16_11)])] (WOpen (.one (.agg [(.i .i64), .s, .s, .s])) fun (x17 : Int) (x17_1 : ByteArray) (x17_2 : ByteArray) (x17_3 : ByteArray) =>
     WCall Tryz.prog Q 27 #[(.pointer x2), (.pointer x4), (.agg #[(.int .i64 x17), (.string x17_1), (.string x17_2), (.string x17_3)])] (WOpen (.tup [(.agg [(.i .i64), (.i .i64), .s, .sl]), (.l (.i .i64))]) fun (x18 : Int) (x18_1 : Int) (x18_2 : ByteArray) (x18_3 : Option Go.Addr) (x18_4 : Nat) (x18_5 : Nat) (x18_6 : Int) =>
     WCall Tryz.prog Q 33 #[(.agg #[(.int .i64 a0_0), (.string a0_1), (.int .i64 a0_2), (.int .i64 a0_3), (.int .i64 a0_4), (.slice a0_5a a0_5n a0_5c)]), (.slice x14 x14_1 x14_2)] (WOpen (.tup [(.agg [(.i .i64), (.i .i64), .s, .sl]), (.l (.i .i64))]) fun (x19 : Int) (x19_1 : Int) (x19_2 : ByteArray) (x19_3 : Option Go.Addr) (x19_4 : Nat) (x19_5 : Nat) (x19_6 : Int) =>
     WIf (x18_6 != x19_6) (Q (.returned (.bool false)))
     (WCall Tryz.prog Q 34 #[(.agg #[(.int .i64 x18), (.int .i64 x18_1), (.string x18_2), (.slice x18_3 x18_4 x18_5)]), (.agg #[(.int .i64 x19), (.int .i64 x19_1), (.string x19_2), (.slice x19_3 x19_4 x19_5)])] (WOpen (.one (.l .b)) fun (x20 : Bool) =>
      WIf (!x20) (Q (.returned (.bool false)))
      (WIf (x19_6 != 0) (Q (.returned (.bool true)))
       (WCall Tryz.prog Q 29 #[(.pointer x2)] (WOpen (.one (.l (.i .i64))) fun (x21 : Int) =>
        WCall Tryz.prog Q 35 #[(.agg #[(.int .i64 a0_0), (.string a0_1), (.int .i64 a0_2), (.int .i64 a0_3), (.int .i64 a0_4), (.slice a0_5a a0_5n a0_5c)]), (.slice x14 x14_1 x14_2)] (WOpen (.one (.l (.i .i64))) fun (x22 : Int) =>
        WIf (x21 != x22) (Q (.returned (.bool false)))
        (again6 (((x14, (x14_1, x14_2)), ((IntKind.wrap .i64 ((x6.1.2.1 : Int) + 1)), ())), (((x9, (x9_1, x9_2)), ((x9_3, (x9_4, x9_5)), ())), ()))))))))))))))))
    (WIf (decide ((x5_1 : Int) > 0)) (Q (.returned (.bool true)))
     (WCall Tryz.prog Q 29 #[(.pointer x2)] (WOpen (.one (.l (.i .i64))) fun (x23 : Int) =>
      WCall Tryz.prog Q 35 #[(.agg #[(.int .i64 a0_0), (.string a0_1), (.int .i64 a0_2), (.int .i64 a0_3), (.int .i64 a0_4), (.slice a0_5a a0_5n a0_5c)]), (.slice none 0 0)] (WOpen (.one (.l (.i .i64))) fun (x24 : Int) =>
      Q (.returned (.bool (x23 == x24))))))))))))))

def h4 : Hints := ⟨[], [⟨0, [(10, .sl), (11, .i .i64)], [6, 12, 13, 14, 15, 31, 32, 33, 34, 35, 36, 37, 38, 39, 40, 41, 42, 43, 44, 45, 46, 47, 48, 49, 50, 51, 52, 53, 54, 55, 56, 57, 58, 59, 60, 61, 62, 63, 64, 65, 66, 67, 68, 69, 70, 71, 72, 73, 74, 75, 76, 77, 78, 79, 80, 81, 82, 83, 84, 85, 86], [(9, [some (.sl), some (.sl)])]⟩], [], [3, 9, 12, 14]⟩
theorem tie4 (Q : Ending → W) (a0_0 : Int) (a0_1 : ByteArray) (a0_2 : Int) (a0_3 : Int) (a0_4 : Int) (a0_5a : Option Addr) (a0_5n : Nat) (a0_5c : Nat) (a1a : Option Addr) (a1n : Nat) (a1c : Nat) (a2a : Option Addr) (a2n : Nat) (a2c : Nat) : funW Tryz.prog tab Q h4 Tryz.f4 [.v (.agg ⟨[(.int .i64 a0_0), (.string a0_1), (.int .i64 a0_2), (.int .i64 a0_3), (.int .i64 a0_4), (.slice a0_5a a0_5n a0_5c)]⟩), .v (.slice a1a a1n a1c), .v (.slice a2a a2n a2c)] = W4 Q a0_0 a0_1 a0_2 a0_3 a0_4 a0_5a a0_5n a0_5c a1a a1n a1c a2a a2n a2c := by kernel_rfl

theorem spec4 {Q : Ending → W} {a0_0 : Int} {a0_1 : ByteArray} {a0_2 : Int} {a0_3 : Int} {a0_4 : Int} {a0_5a : Option Addr} {a0_5n : Nat} {a0_5c : Nat} {a1a : Option Addr} {a1n : Nat} {a1c : Nat} {a2a : Option Addr} {a2n : Nat} {a2c : Nat} {H : HP} (h : W4 Q a0_0 a0_1 a0_2 a0_3 a0_4 a0_5a a0_5n a0_5c a1a a1n a1c a2a a2n a2c H) : Go.Den.Spec Tryz.prog 4 #[(.agg ⟨[(.int .i64 a0_0), (.string a0_1), (.int .i64 a0_2), (.int .i64 a0_3), (.int .i64 a0_4), (.slice a0_5a a0_5n a0_5c)]⟩), (.slice a1a a1n a1c), (.slice a2a a2n a2c)] H Q :=
  specOf (fn := Tryz.f4) (hs := h4) (args := [.v (.agg ⟨[(.int .i64 a0_0), (.string a0_1), (.int .i64 a0_2), (.int .i64 a0_3), (.int .i64 a0_4), (.slice a0_5a a0_5n a0_5c)]⟩), .v (.slice a1a a1n a1c), .v (.slice a2a a2n a2c)]) (by kernel_rfl) (by kernel_rfl) (by kernel_rfl) rfl (by rw [tie4]; exact h)

/-- (*window.Once).Clone -/
def W156 (Q : Ending → W) (a0 : Option Addr) : W :=
  WIf (Option.isNone a0) (Q (.returned (.pointer none)))
  (WNonNil a0 fun q1 =>
   WLoad (Addr.add (Addr.add q1 0) 0) (.l .b) fun (x2 : Bool) =>
   WIf (!x2) (Q (.returned (.pointer none)))
   (WNonNil a0 fun q3 =>
    WCall Tryz.prog Q 218 #[(.pointer (some (Addr.add q3 0)))] (WOpen (.one (.agg [.b, (.i .i64), (.i .i64), (.i .i64), .sl])) fun (x4 : Bool) (x4_1 : Int) (x4_2 : Int) (x4_3 : Int) (x4_4 : Option Go.Addr) (x4_5 : Nat) (x4_6 : Nat) =>
    WNew [(.bool x4), (.int .i64 x4_1), (.int .i64 x4_2), (.int .i64 x4_3), (.slice x4_4 x4_5 x4_6)] 259 fun z5 =>
    Q (.returned (.pointer (some ⟨z5, 0, none⟩))))))

def h156 : Hints := ⟨[18], [], [], []⟩
theorem tie156 (Q : Ending → W) (a0 : Option Addr) : funW Tryz.prog tab Q h156 Tryz.f156 [.v (.pointer a0)] = W156 Q a0 := by kernel_rfl

theorem spec156 {Q : Ending → W} {a0 : Option Addr} {H : HP} (h : W156 Q a0 H) : Go.Den.Spec Tryz.prog 156 #[(.pointer a0)] H Q :=
  specOf (fn := Tryz.f156) (hs := h156) (args := [.v (.pointer a0)]) (by kernel_rfl) (by kernel_rfl) (by kernel_rfl) rfl (by rw [tie156]; exact h)

/-- (*window.Since).Clone -/
def W157 (Q : Ending → W) (a0 : Option Addr) : W :=
  WIf (Option.isNone a0) (Q (.returned (.pointer none)))
  (WNonNil a0 fun q1 =>
   WLoad (Addr.add (Addr.add q1 0) 0) (.l .b) fun (x2 : Bool) =>
   WIf (!x2) (Q (.returned (.pointer none)))
   (WNonNil a0 fun q3 =>
    WCall Tryz.prog Q 218 #[(.pointer (some (Addr.add q3 0)))] (WOpen (.one (.agg [.b, (.i .i64), (.i .i64), (.i .i64), .sl])) fun (x4 : Bool) (x4_1 : Int) (x4_2 : Int) (x4_3 : Int) (x4_4 : Option Go.Addr) (x4_5 : Nat) (x4_6 : Nat) =>
    WNew [(.bool x4), (.int .i64 x4_1), (.int .i64 x4_2), (.int .i64 x4_3), (.slice x4_4 x4_5 x4_6)] 260 fun z5 =>
    Q (.returned (.pointer (some ⟨z5, 0, none⟩))))))

def h157 : Hints := ⟨[18], [], [], []⟩
theorem tie157 (Q : Ending → W) (a0 : Option Addr) : funW Tryz.prog tab Q h157 Tryz.f157 [.v (.pointer a0)] = W157 Q a0 := by kernel_rfl

theorem spec157 {Q : Ending → W} {a0 : Option Addr} {H : HP} (h : W157 Q a0 H) : Go.Den.Spec Tryz.prog 157 #[(.pointer a0)] H Q :=
  specOf (fn := Tryz.f157) (hs := h157) (args := [.v (.pointer a0)]) (by kernel_rfl) (by kernel_rfl) (by kernel_rfl) rfl (by rw [tie157]; exact h)

/-- (*deque.Deque).Clone -/
def W219 (Q : Ending → W) (a0 : Option Addr) : W :=
  WIf (Option.isNone a0) (Q (.returned (.pointer none)))
  (WCall Tryz.prog Q 256 #[(.pointer a0)] (WOpen (.one (.l .sl)) fun (x1 : Option Go.Addr) (x1_1 : Nat) (x1_2 : Nat) =>
   WNew [(.slice x1 x1_1 x1_2)] 254 fun z2 =>
   Q (.returned (.pointer (some ⟨z2, 0, none⟩)))))

def h219 : Hints := ⟨[8], [], [], []⟩
theorem tie219 (Q : Ending → W) (a0 : Option Addr) : funW Tryz.prog tab Q h219 Tryz.f219 [.v (.pointer a0)] = W219 Q a0 := by kernel_rfl

theorem spec219 {Q : Ending → W} {a0 : Option Addr} {H : HP} (h : W219 Q a0 H) : Go.Den.Spec Tryz.prog 219 #[(.pointer a0)] H Q :=
  specOf (fn := Tryz.f219) (hs := h219) (args := [.v (.pointer a0)]) (by kernel_rfl) (by kernel_rfl) (by kernel_rfl) rfl (by rw [tie219]; exact h)

/-- (*tally.Tally).Clone -/
def W158 (Q : Ending → W) (a0 : Option Addr) : W :=
  WIf (Option.isNone a0) (Q (.returned (.pointer none)))
  (WNonNil a0 fun q1 =>
   WLoad (Addr.add q1 0) (.l .b) fun (x2 : Bool) =>
   WIf (!x2) (Q (.returned (.pointer none)))
   (WNonNil a0 fun q3 =>
    WLoad q3 (.agg [.b, (.i .i64), (.i .i64), .sl]) fun (x4 : Bool) (x4_1 : Int) (x4_2 : Int) (x4_3 : Option Go.Addr) (x4_4 : Nat) (x4_5 : Nat) =>
    WNew [(.bool false), (.int .i64 0), (.int .i64 0), (.slice none 0 0)] 262 fun z5 =>
    WStore ⟨z5, 0, none⟩ [(.bool x4), (.int .i64 x4_1), (.int .i64 x4_2), (.slice x4_3 x4_4 x4_5)] <|
    WNonNil a0 fun q6 =>
    WCall Tryz.prog Q 219 #[(.pointer (some (Addr.add q6 3)))] (WOpen (.one (.l .p)) fun (x7 : Option Go.Addr) =>
    WNonNil x7 fun q8 =>
    WLoad q8 (.agg [.sl]) fun (x9 : Option Go.Addr) (x9_1 : Nat) (x9_2 : Nat) =>
    WStore (Addr.add ⟨z5, 0, none⟩ 3) [(.slice x9 x9_1 x9_2)] <|
    Q (.returned (.pointer (some ⟨z5, 0, none⟩))))))

def h158 : Hints := ⟨[3], [], [], []⟩
theorem tie158 (Q : Ending → W) (a0 : Option Addr) : funW Tryz.prog tab Q h158 Tryz.f158 [.v (.pointer a0)] = W158 Q a0 := by kernel_rfl

theorem spec158 {Q : Ending → W} {a0 : Option Addr} {H : HP} (h : W158 Q a0 H) : Go.Den.Spec Tryz.prog 158 #[(.pointer a0)] H Q :=
  specOf (fn := Tryz.f158) (hs := h158) (args := [.v (.pointer a0)]) (by kernel_rfl) (by kernel_rfl) (by kernel_rfl) rfl (by rw [tie158]; exact h)

end Go.Proofs.YtmidcnfnmnhifaaGreat
