/-
  Preconditions of functions, as the generator wrote them.
-/
import Derived.Test.YtmidcnfnmnhifaaGreatZTie
namespace Go.Proofs.YtmidcnfnmnhifaaGreat
set_option linter.unusedSectionVars false
set_option linter.unusedSimpArgs false
set_option linter.unusedVariables false
open Go Go.Den
set_option linter.unusedVariables false

/-- (monitor.eye).leaf -/
def W104 (Q : Ending → W) (a0_0 : Option Addr) (a0_1 : Int) (a0_2 : ByteArray) (a0_3 : ByteArray) (a0_4 : ByteArray) (a1 : Option Addr) : W :=
  WNonNil a1 fun q1 =>
  WLoad (Addr.add q1 0) (.agg [(.i .i64), .s, (.i .i64), (.i .i64), (.i .i64), .sl]) fun (x2 : Int) (x2_1 : ByteArray) (x2_2 : Int) (x2_3 : Int) (x2_4 : Int) (x2_5 : Option Go.Addr) (x2_6 : Nat) (x2_7 : Nat) =>
  WIf (x2 == 2) (WCall Tryz.prog Q 164 #[(.bool (x2_2 == 1))] (WOpen (.one (.agg [(.i .i64), (.i .i64), .s, .sl])) fun (x3 : Int) (x3_1 : Int) (x3_2 : ByteArray) (x3_3 : Option Go.Addr) (x3_4 : Nat) (x3_5 : Nat) =>
   Q (.returned (.agg #[(.int .i64 x3), (.int .i64 x3_1), (.string x3_2), (.slice x3_3 x3_4 x3_5)]))))
  (WIf (x2 == 3) (WCall Tryz.prog Q 171 #[(.string x2_1)] (WOpen (.one (.agg [(.i .i64), (.i .i64), .s, .sl])) fun (x4 : Int) (x4_1 : Int) (x4_2 : ByteArray) (x4_3 : Option Go.Addr) (x4_4 : Nat) (x4_5 : Nat) =>
    Q (.returned (.agg #[(.int .i64 x4), (.int .i64 x4_1), (.string x4_2), (.slice x4_3 x4_4 x4_5)]))))
   (WIf (x2 == 4) (WCall Tryz.prog Q 172 #[(.agg #[(.int .i64 x2), (.string x2_1), (.int .i64 x2_2), (.int .i64 x2_3), (.int .i64 x2_4), (.slice x2_5 x2_6 x2_7)])] (WOpen (.one (.agg [(.i .i64), (.i .i64), .s, .sl])) fun (x5 : Int) (x5_1 : Int) (x5_2 : ByteArray) (x5_3 : Option Go.Addr) (x5_4 : Nat) (x5_5 : Nat) =>
     Q (.returned (.agg #[(.int .i64 x5), (.int .i64 x5_1), (.string x5_2), (.slice x5_3 x5_4 x5_5)]))))
    (WIf (x2 == 5) (WCall Tryz.prog Q 173 #[(.agg #[(.pointer a0_0), (.int .i64 a0_1), (.string a0_2), (.string a0_3), (.string a0_4)]), (.agg #[(.int .i64 x2), (.string x2_1), (.int .i64 x2_2), (.int .i64 x2_3), (.int .i64 x2_4), (.slice x2_5 x2_6 x2_7)])] (WOpen (.one (.agg [(.i .i64), (.i .i64), .s, .sl])) fun (x6 : Int) (x6_1 : Int) (x6_2 : ByteArray) (x6_3 : Option Go.Addr) (x6_4 : Nat) (x6_5 : Nat) =>
      Q (.returned (.agg #[(.int .i64 x6), (.int .i64 x6_1), (.string x6_2), (.slice x6_3 x6_4 x6_5)]))))
     (WIf (x2 == 6) (WCall Tryz.prog Q 173 #[(.agg #[(.pointer a0_0), (.int .i64 a0_1), (.string a0_2), (.string a0_3), (.string a0_4)]), (.agg #[(.int .i64 x2), (.string x2_1), (.int .i64 x2_2), (.int .i64 x2_3), (.int .i64 x2_4), (.slice x2_5 x2_6 x2_7)])] (WOpen (.one (.agg [(.i .i64), (.i .i64), .s, .sl])) fun (x7 : Int) (x7_1 : Int) (x7_2 : ByteArray) (x7_3 : Option Go.Addr) (x7_4 : Nat) (x7_5 : Nat) =>
       Q (.returned (.agg #[(.int .i64 x7), (.int .i64 x7_1), (.string x7_2), (.slice x7_3 x7_4 x7_5)]))))
      (WIf (x2 == 7) (WCall Tryz.prog Q 161 #[(.int .i64 a0_1)] (WOpen (.one (.agg [(.i .i64), (.i .i64), .s, .sl])) fun (x8 : Int) (x8_1 : Int) (x8_2 : ByteArray) (x8_3 : Option Go.Addr) (x8_4 : Nat) (x8_5 : Nat) =>
        Q (.returned (.agg #[(.int .i64 x8), (.int .i64 x8_1), (.string x8_2), (.slice x8_3 x8_4 x8_5)]))))
       (WIf (x2 == 21) (WIf (!((ByteArray.toList a0_2) == (ByteArray.toList (ByteArray.mk #[])))) (WCall Tryz.prog Q 164 #[(.bool ((ByteArray.toList a0_2) == (ByteArray.toList x2_1)))] (WOpen (.one (.agg [(.i .i64), (.i .i64), .s, .sl])) fun (x9 : Int) (x9_1 : Int) (x9_2 : ByteArray) (x9_3 : Option Go.Addr) (x9_4 : Nat) (x9_5 : Nat) =>
          Q (.returned (.agg #[(.int .i64 x9), (.int .i64 x9_1), (.string x9_2), (.slice x9_3 x9_4 x9_5)]))))
         (WCall Tryz.prog Q 164 #[(.bool false)] (WOpen (.one (.agg [(.i .i64), (.i .i64), .s, .sl])) fun (x10 : Int) (x10_1 : Int) (x10_2 : ByteArray) (x10_3 : Option Go.Addr) (x10_4 : Nat) (x10_5 : Nat) =>
          Q (.returned (.agg #[(.int .i64 x10), (.int .i64 x10_1), (.string x10_2), (.slice x10_3 x10_4 x10_5)])))))
        (WIf (x2 == 13) (WNonNil a1 fun q11 =>
          WLoad (Addr.add q11 9) (.l .p) fun (x12 : Option Go.Addr) =>
          WIf (!((ByteArray.toList a0_2) == (ByteArray.toList (ByteArray.mk #[])))) (WCall Tryz.prog Q 174 #[(.pointer x12), (.int .i64 a0_1), (.bool ((ByteArray.toList a0_2) == (ByteArray.toList x2_1)))] (WOpen (.one (.l (.i .i64))) fun (x13 : Int) =>
           WCall Tryz.prog Q 161 #[(.int .i64 x13)] (WOpen (.one (.agg [(.i .i64), (.i .i64), .s, .sl])) fun (x14 : Int) (x14_1 : Int) (x14_2 : ByteArray) (x14_3 : Option Go.Addr) (x14_4 : Nat) (x14_5 : Nat) =>
           Q (.returned (.agg #[(.int .i64 x14), (.int .i64 x14_1), (.string x14_2), (.slice x14_3 x14_4 x14_5)])))))
          (WCall Tryz.prog Q 174 #[(.pointer x12), (.int .i64 a0_1), (.bool false)] (WOpen (.one (.l (.i .i64))) fun (x15 : Int) =>
           WCall Tryz.prog Q 161 #[(.int .i64 x15)] (WOpen (.one (.agg [(.i .i64), (.i .i64), .s, .sl])) fun (x16 : Int) (x16_1 : Int) (x16_2 : ByteArray) (x16_3 : Option Go.Addr) (x16_4 : Nat) (x16_5 : Nat) =>
           Q (.returned (.agg #[(.int .i64 x16), (.int .i64 x16_1), (.string x16_2), (.slice x16_3 x16_4 x16_5)]))))))
         (WCall Tryz.prog Q 161 #[(.int .i64 x2_2)] (WOpen (.one (.agg [(.i .i64), (.i .i64), .s, .sl])) fun (x17 : Int) (x17_1 : Int) (x17_2 : ByteArray) (x17_3 : Option Go.Addr) (x17_4 : Nat) (x17_5 : Nat) =>
          Q (.returned (.agg #[(.int .i64 x17), (.int .i64 x17_1), (.string x17_2), (.slice x17_3 x17_4 x17_5)])))))))))))

def h104 : Hints := ⟨[], [], [], [2, 4, 5]⟩
theorem tie104 (Q : Ending → W) (a0_0 : Option Addr) (a0_1 : Int) (a0_2 : ByteArray) (a0_3 : ByteArray) (a0_4 : ByteArray) (a1 : Option Addr) : funW Tryz.prog tab Q h104 Tryz.f104 [.v (.agg ⟨[(.pointer a0_0), (.int .i64 a0_1), (.string a0_2), (.string a0_3), (.string a0_4)]⟩), .v (.pointer a1)] = W104 Q a0_0 a0_1 a0_2 a0_3 a0_4 a1 := by kernel_rfl

theorem spec104 {Q : Ending → W} {a0_0 : Option Addr} {a0_1 : Int} {a0_2 : ByteArray} {a0_3 : ByteArray} {a0_4 : ByteArray} {a1 : Option Addr} {H : HP} (h : W104 Q a0_0 a0_1 a0_2 a0_3 a0_4 a1 H) : Go.Den.Spec Tryz.prog 104 #[(.agg ⟨[(.pointer a0_0), (.int .i64 a0_1), (.string a0_2), (.string a0_3), (.string a0_4)]⟩), (.pointer a1)] H Q :=
  specOf (fn := Tryz.f104) (hs := h104) (args := [.v (.agg ⟨[(.pointer a0_0), (.int .i64 a0_1), (.string a0_2), (.string a0_3), (.string a0_4)]⟩), .v (.pointer a1)]) (by kernel_rfl) (by kernel_rfl) (by kernel_rfl) rfl (by rw [tie104]; exact h)

/-- (monitor.eye).eval -/
def W91 (Q : Ending → W) (a0_0 : Option Addr) (a0_1 : Int) (a0_2 : ByteArray) (a0_3 : ByteArray) (a0_4 : ByteArray) (a1 : Option Addr) : W :=
  WNonNil a1 fun q1 =>
  WLoad (Addr.add (Addr.add q1 0) 0) (.l (.i .i64)) fun (x2 : Int) =>
  WCall Tryz.prog Q 100 #[(.int .i64 x2)] (WOpen (.one (.l (.i .i64))) fun (x3 : Int) =>
  WIf (decide (x3 < 1)) (WCall Tryz.prog Q 104 #[(.agg #[(.pointer a0_0), (.int .i64 a0_1), (.string a0_2), (.string a0_3), (.string a0_4)]), (.pointer a1)] (WOpen (.one (.agg [(.i .i64), (.i .i64), .s, .sl])) fun (x4 : Int) (x4_1 : Int) (x4_2 : ByteArray) (x4_3 : Option Go.Addr) (x4_4 : Nat) (x4_5 : Nat) =>
   Q (.returned (.agg #[(.int .i64 x4), (.int .i64 x4_1), (.string x4_2), (.slice x4_3 x4_4 x4_5)]))))
  (WNonNil a1 fun q5 =>
   WLoad (Addr.add q5 6) (.l .sl) fun (x6 : Option Go.Addr) (x6_1 : Nat) (x6_2 : Nat) =>
   WIndex x6 x6_1 0 fun q7 =>
   WLoad (Addr.add q7 0) (.l .p) fun (x8 : Option Go.Addr) =>
   WCall Tryz.prog Q 91 #[(.agg #[(.pointer a0_0), (.int .i64 a0_1), (.string a0_2), (.string a0_3), (.string a0_4)]), (.pointer x8)] (WOpen (.one (.agg [(.i .i64), (.i .i64), .s, .sl])) fun (x9 : Int) (x9_1 : Int) (x9_2 : ByteArray) (x9_3 : Option Go.Addr) (x9_4 : Nat) (x9_5 : Nat) =>
   WNonNil a1 fun q10 =>
   WLoad (Addr.add q10 6) (.l .sl) fun (x11 : Option Go.Addr) (x11_1 : Nat) (x11_2 : Nat) =>
   WIf ((x11_1 : Int) == 1) (WCall Tryz.prog Q 102 #[(.agg #[(.pointer a0_0), (.int .i64 a0_1), (.string a0_2), (.string a0_3), (.string a0_4)]), (.pointer a1), (.agg #[(.int .i64 x9), (.int .i64 x9_1), (.string x9_2), (.slice x9_3 x9_4 x9_5)])] (WOpen (.one (.agg [(.i .i64), (.i .i64), .s, .sl])) fun (x12 : Int) (x12_1 : Int) (x12_2 : ByteArray) (x12_3 : Option Go.Addr) (x12_4 : Nat) (x12_5 : Nat) =>
    Q (.returned (.agg #[(.int .i64 x12), (.int .i64 x12_1), (.string x12_2), (.slice x12_3 x12_4 x12_5)]))))
   (WNonNil a1 fun q13 =>
    WLoad (Addr.add q13 6) (.l .sl) fun (x14 : Option Go.Addr) (x14_1 : Nat) (x14_2 : Nat) =>
    WIndex x14 x14_1 1 fun q15 =>
    WLoad (Addr.add q15 1) (.l .p) fun (x16 : Option Go.Addr) =>
    WCall Tryz.prog Q 91 #[(.agg #[(.pointer a0_0), (.int .i64 a0_1), (.string a0_2), (.string a0_3), (.string a0_4)]), (.pointer x16)] (WOpen (.one (.agg [(.i .i64), (.i .i64), .s, .sl])) fun (x17 : Int) (x17_1 : Int) (x17_2 : ByteArray) (x17_3 : Option Go.Addr) (x17_4 : Nat) (x17_5 : Nat) =>
    WCall Tryz.prog Q 103 #[(.agg #[(.pointer a0_0), (.int .i64 a0_1), (.string a0_2), (.string a0_3), (.string a0_4)]), (.pointer a1), (.agg #[(.int .i64 x9), (.int .i64 x9_1), (.string x9_2), (.slice x9_3 x9_4 x9_5)]), (.agg #[(.int .i64 x17), (.int .i64 x17_1), (.string x17_2), (.slice x17_3 x17_4 x17_5)])] (WOpen (.one (.agg [(.i .i64), (.i .i64), .s, .sl])) fun (x18 : Int) (x18_1 : Int) (x18_2 : ByteArray) (x18_3 : Option Go.Addr) (x18_4 : Nat) (x18_5 : Nat) =>
    Q (.returned (.agg #[(.int .i64 x18), (.int .i64 x18_1), (.string x18_2), (.slice x18_3 x18_4 x18_5)]))))))))

def h91 : Hints := ⟨[], [], [], [2, 4, 5]⟩
theorem tie91 (Q : Ending → W) (a0_0 : Option Addr) (a0_1 : Int) (a0_2 : ByteArray) (a0_3 : ByteArray) (a0_4 : ByteArray) (a1 : Option Addr) : funW Tryz.prog tab Q h91 Tryz.f91 [.v (.agg ⟨[(.pointer a0_0), (.int .i64 a0_1), (.string a0_2), (.string a0_3), (.string a0_4)]⟩), .v (.pointer a1)] = W91 Q a0_0 a0_1 a0_2 a0_3 a0_4 a1 := by kernel_rfl

theorem spec91 {Q : Ending → W} {a0_0 : Option Addr} {a0_1 : Int} {a0_2 : ByteArray} {a0_3 : ByteArray} {a0_4 : ByteArray} {a1 : Option Addr} {H : HP} (h : W91 Q a0_0 a0_1 a0_2 a0_3 a0_4 a1 H) : Go.Den.Spec Tryz.prog 91 #[(.agg ⟨[(.pointer a0_0), (.int .i64 a0_1), (.string a0_2), (.string a0_3), (.string a0_4)]⟩), (.pointer a1)] H Q :=
  specOf (fn := Tryz.f91) (hs := h91) (args := [.v (.agg ⟨[(.pointer a0_0), (.int .i64 a0_1), (.string a0_2), (.string a0_3), (.string a0_4)]⟩), .v (.pointer a1)]) (by kernel_rfl) (by kernel_rfl) (by kernel_rfl) rfl (by rw [tie91]; exact h)

/-- (*window.Once).Cells -/
def W150 (Q : Ending → W) (a0 : Option Addr) : W :=
  WIf (Option.isNone a0) (Q (.returned (.int .i64 0)))
  (WNonNil a0 fun q1 =>
   WCall Tryz.prog Q 217 #[(.pointer (some (Addr.add (Addr.add q1 0) 4)))] (WOpen (.one (.l (.i .i64))) fun (x2 : Int) =>
   Q (.returned (.int .i64 x2))))

def h150 : Hints := ⟨[], [], [], []⟩
theorem tie150 (Q : Ending → W) (a0 : Option Addr) : funW Tryz.prog tab Q h150 Tryz.f150 [.v (.pointer a0)] = W150 Q a0 := by kernel_rfl

theorem spec150 {Q : Ending → W} {a0 : Option Addr} {H : HP} (h : W150 Q a0 H) : Go.Den.Spec Tryz.prog 150 #[(.pointer a0)] H Q :=
  specOf (fn := Tryz.f150) (hs := h150) (args := [.v (.pointer a0)]) (by kernel_rfl) (by kernel_rfl) (by kernel_rfl) rfl (by rw [tie150]; exact h)

/-- (*window.Since).Cells -/
def W151 (Q : Ending → W) (a0 : Option Addr) : W :=
  WIf (Option.isNone a0) (Q (.returned (.int .i64 0)))
  (WNonNil a0 fun q1 =>
   WCall Tryz.prog Q 217 #[(.pointer (some (Addr.add (Addr.add q1 0) 4)))] (WOpen (.one (.l (.i .i64))) fun (x2 : Int) =>
   Q (.returned (.int .i64 x2))))

def h151 : Hints := ⟨[], [], [], []⟩
theorem tie151 (Q : Ending → W) (a0 : Option Addr) : funW Tryz.prog tab Q h151 Tryz.f151 [.v (.pointer a0)] = W151 Q a0 := by kernel_rfl

theorem spec151 {Q : Ending → W} {a0 : Option Addr} {H : HP} (h : W151 Q a0 H) : Go.Den.Spec Tryz.prog 151 #[(.pointer a0)] H Q :=
  specOf (fn := Tryz.f151) (hs := h151) (args := [.v (.pointer a0)]) (by kernel_rfl) (by kernel_rfl) (by kernel_rfl) rfl (by rw [tie151]; exact h)

/-- (*tally.Tally).Cells -/
def W152 (Q : Ending → W) (a0 : Option Addr) : W :=
  WIf (Option.isNone a0) (Q (.returned (.int .i64 0)))
  (WNonNil a0 fun q1 =>
   WCall Tryz.prog Q 217 #[(.pointer (some (Addr.add q1 3)))] (WOpen (.one (.l (.i .i64))) fun (x2 : Int) =>
   Q (.returned (.int .i64 x2))))

def h152 : Hints := ⟨[], [], [], []⟩
theorem tie152 (Q : Ending → W) (a0 : Option Addr) : funW Tryz.prog tab Q h152 Tryz.f152 [.v (.pointer a0)] = W152 Q a0 := by kernel_rfl

theorem spec152 {Q : Ending → W} {a0 : Option Addr} {H : HP} (h : W152 Q a0 H) : Go.Den.Spec Tryz.prog 152 #[(.pointer a0)] H Q :=
  specOf (fn := Tryz.f152) (hs := h152) (args := [.v (.pointer a0)]) (by kernel_rfl) (by kernel_rfl) (by kernel_rfl) rfl (by rw [tie152]; exact h)

/-- (*monitor.node).cells -/
def W92 (Q : Ending → W) (a0 : Option Addr) : W :=
  WNonNil a0 fun q1 =>
  WLoad (Addr.add q1 7) (.l .p) fun (x2 : Option Go.Addr) =>
  WNonNil a0 fun q3 =>
  WLoad (Addr.add q3 8) (.l .p) fun (x4 : Option Go.Addr) =>
  WNonNil a0 fun q5 =>
  WLoad (Addr.add q5 9) (.l .p) fun (x6 : Option Go.Addr) =>
  WCall Tryz.prog Q 150 #[(.pointer x2)] (WOpen (.one (.l (.i .i64))) fun (x7 : Int) =>
  WHeld [((Addr.add q5 9), [(.pointer x6)]), ((Addr.add q3 8), [(.pointer x4)])] <|
  WCall Tryz.prog Q 151 #[(.pointer x4)] (WOpen (.one (.l (.i .i64))) fun (x8 : Int) =>
  WHeld [((Addr.add q5 9), [(.pointer x6)])] <|
  WCall Tryz.prog Q 152 #[(.pointer x6)] (WOpen (.one (.l (.i .i64))) fun (x9 : Int) =>
  WNonNil a0 fun q10 =>
  WLoad (Addr.add (Addr.add q10 0) 0) (.l (.i .i64)) fun (x11 : Int) =>
  WIf (x11 == 25) (WNonNil a0 fun q12 =>
   WLoad (Addr.add q12 6) (.l .sl) fun (x13 : Option Go.Addr) (x13_1 : Nat) (x13_2 : Nat) =>
   WLoop (σ := ((Int × (Int × Unit)) × Unit)) (((IntKind.wrap .i64 ((IntKind.wrap .i64 ((IntKind.wrap .i64 (x7 + x8)) + x9)) + 1)), (0, ())), ()) fun x14 again14 =>
   WIf (decide ((x14.1.2.1 : Int) < (x13_1 : Int))) (WIndex x13 x13_1 (x14.1.2.1 : Int) fun q15 =>
    WLoad (Addr.add q15 ((Int.toNat (x14.1.2.1 : Int)) * 1)) (.l .p) fun (x16 : Option Go.Addr) =>
    WCall Tryz.prog Q 92 #[(.pointer x16)] (WOpen (.one (.l (.i .i64))) fun (x17 : Int) =>
    again14 (((IntKind.wrap .i64 ((x14.1.1 : Int) + x17)), ((IntKind.wrap .i64 ((x14.1.2.1 : Int) + 1)), ())), ())))
   (Q (.returned (.int .i64 (x14.1.1 : Int)))))
  (WNonNil a0 fun q18 =>
   WLoad (Addr.add q18 6) (.l .sl) fun (x19 : Option Go.Addr) (x19_1 : Nat) (x19_2 : Nat) =>
   WLoop (σ := ((Int × (Int × Unit)) × Unit)) (((IntKind.wrap .i64 ((IntKind.wrap .i64 (x7 + x8)) + x9)), (0, ())), ()) fun x20 again20 =>
   WIf (decide ((x20.1.2.1 : Int) < (x19_1 : Int))) (WIndex x19 x19_1 (x20.1.2.1 : Int) fun q21 =>
    WLoad (Addr.add q21 ((Int.toNat (x20.1.2.1 : Int)) * 1)) (.l .p) fun (x22 : Option Go.Addr) =>
    WCall Tryz.prog Q 92 #[(.pointer x22)] (WOpen (.one (.l (.i .i64))) fun (x23 : Int) =>
    again20 (((IntKind.wrap .i64 ((x20.1.1 : Int) + x23)), ((IntKind.wrap .i64 ((x20.1.2.1 : Int) + 1)), ())), ())))
   (Q (.returned (.int .i64 (x20.1.1 : Int))))))))

def h92 : Hints := ⟨[], [⟨0, [(3, .i .i64), (36, .i .i64)], [5, 37, 38, 39, 40, 41, 42, 43, 44], []⟩], [], []⟩
theorem tie92 (Q : Ending → W) (a0 : Option Addr) : funW Tryz.prog tab Q h92 Tryz.f92 [.v (.pointer a0)] = W92 Q a0 := by kernel_rfl

theorem spec92 {Q : Ending → W} {a0 : Option Addr} {H : HP} (h : W92 Q a0 H) : Go.Den.Spec Tryz.prog 92 #[(.pointer a0)] H Q :=
  specOf (fn := Tryz.f92) (hs := h92) (args := [.v (.pointer a0)]) (by kernel_rfl) (by kernel_rfl) (by kernel_rfl) rfl (by rw [tie92]; exact h)

/-- (*monitor.Monitor).Cells -/
def W29 (Q : Ending → W) (a0 : Option Addr) : W :=
  WCall Tryz.prog Q 89 #[(.pointer a0)] (WOpen (.one (.l .b)) fun (x1 : Bool) =>
  WIf (!x1) (Q (.returned (.int .i64 0)))
  (WNonNil a0 fun q2 =>
   WLoad (Addr.add q2 0) (.l .p) fun (x3 : Option Go.Addr) =>
   WCall Tryz.prog Q 92 #[(.pointer x3)] (WOpen (.one (.l (.i .i64))) fun (x4 : Int) =>
   Q (.returned (.int .i64 x4)))))

def h29 : Hints := ⟨[], [], [], []⟩
theorem tie29 (Q : Ending → W) (a0 : Option Addr) : funW Tryz.prog tab Q h29 Tryz.f29 [.v (.pointer a0)] = W29 Q a0 := by kernel_rfl

theorem spec29 {Q : Ending → W} {a0 : Option Addr} {H : HP} (h : W29 Q a0 H) : Go.Den.Spec Tryz.prog 29 #[(.pointer a0)] H Q :=
  specOf (fn := Tryz.f29) (hs := h29) (args := [.v (.pointer a0)]) (by kernel_rfl) (by kernel_rfl) (by kernel_rfl) rfl (by rw [tie29]; exact h)

/-- beadlelaw18.alive -/
def W21 (Q : Ending → W)  : W :=
  WNew [(.int .i64 21), (.string (ByteArray.mk #[97])), (.int .i64 0), (.int .i64 0), (.int .i64 0), (.slice none 0 0)] 24 fun z1 =>
  WCall Tryz.prog Q 22 #[(.agg #[(.int .i64 25), (.string (ByteArray.mk #[])), (.int .i64 0), (.int .i64 0), (.int .i64 0), (.slice (some ⟨z1, 0, none⟩) 1 1)])] (WOpen (.one (.l .p)) fun (x2 : Option Go.Addr) =>
  WCall Tryz.prog Q 23 #[(.slice none 0 0)] (WOpen (.one (.l .p)) fun (x3 : Option Go.Addr) =>
  WCall Tryz.prog Q 27 #[(.pointer x2), (.pointer x3), (.agg #[(.int .i64 0), (.string (ByteArray.mk #[97])), (.string (ByteArray.mk #[])), (.string (ByteArray.mk #[]))])] (WOpen (.tup [(.agg [(.i .i64), (.i .i64), .s, .sl]), (.l (.i .i64))]) fun (x4 : Int) (x4_1 : Int) (x4_2 : ByteArray) (x4_3 : Option Go.Addr) (x4_4 : Nat) (x4_5 : Nat) (x4_6 : Int) =>
  WCall Tryz.prog Q 27 #[(.pointer x2), (.pointer x3), (.agg #[(.int .i64 1), (.string (ByteArray.mk #[])), (.string (ByteArray.mk #[])), (.string (ByteArray.mk #[]))])] (WOpen (.tup [(.agg [(.i .i64), (.i .i64), .s, .sl]), (.l (.i .i64))]) fun (x5 : Int) (x5_1 : Int) (x5_2 : ByteArray) (x5_3 : Option Go.Addr) (x5_4 : Nat) (x5_5 : Nat) (x5_6 : Int) =>
  WIf (x4_6 == 0) (WIf (x5_6 == 0) (WIf (x4 == 2) (WIf (x4_1 == 0) (WIf (x5_1 == 1) (WCall Tryz.prog Q 29 #[(.pointer x2)] (WOpen (.one (.l (.i .i64))) fun (x6 : Int) =>
       Q (.returned (.bool (x6 == 1)))))
      (Q (.returned (.bool false))))
     (Q (.returned (.bool false))))
    (Q (.returned (.bool false))))
   (Q (.returned (.bool false))))
  (Q (.returned (.bool false)))))))

def h21 : Hints := ⟨[], [], [], [3, 5]⟩
theorem tie21 (Q : Ending → W)  : funW Tryz.prog tab Q h21 Tryz.f21 [] = W21 Q  := by kernel_rfl

theorem spec21 {Q : Ending → W}  {H : HP} (h : W21 Q  H) : Go.Den.Spec Tryz.prog 21 #[] H Q :=
  specOf (fn := Tryz.f21) (hs := h21) (args := []) (by kernel_rfl) (by kernel_rfl) (by kernel_rfl) rfl (by rw [tie21]; exact h)

/-- beadleref07.Check -/
def W24 (Q : Ending → W) (a0_0 : Int) (a0_1 : ByteArray) (a0_2 : Int) (a0_3 : Int) (a0_4 : Int) (a0_5a : Option Addr) (a0_5n : Nat) (a0_5c : Nat) : W :=
  WCall Tryz.prog Q 82 #[(.agg #[(.int .i64 a0_0), (.string a0_1), (.int .i64 a0_2), (.int .i64 a0_3), (.int .i64 a0_4), (.slice a0_5a a0_5n a0_5c)])] (WOpen (.one (.l (.i .i64))) fun (x1 : Int) =>
  WIf (decide (x1 > 12)) (Q (.returned (.int .i64 32)))
  (WCall Tryz.prog Q 83 #[(.agg #[(.int .i64 a0_0), (.string a0_1), (.int .i64 a0_2), (.int .i64 a0_3), (.int .i64 a0_4), (.slice a0_5a a0_5n a0_5c)])] (WOpen (.one (.l .sl)) fun (x2 : Option Go.Addr) (x2_1 : Nat) (x2_2 : Nat) =>
   WIf (decide ((x2_1 : Int) > 64)) (Q (.returned (.int .i64 3)))
   (WLoop (σ := ((Int × Unit) × Unit)) ((0, ()), ()) fun x3 again3 =>
    WIf (decide ((x3.1.1 : Int) < (x2_1 : Int))) (WIndex x2 x2_1 (x3.1.1 : Int) fun q4 =>
     WLoad (Addr.add (Addr.add q4 ((Int.toNat (x3.1.1 : Int)) * 6)) 0) (.l (.i .i64)) fun (x5 : Int) =>
     WCall Tryz.prog Q 40 #[(.int .i64 x5)] (WOpen (.one (.l (.i .i64))) fun (x6 : Int) =>
     WIf (x6 == (-2)) (Q (.returned (.int .i64 12)))
     (WIf (decide (x6 ≥ 0)) (WIndex x2 x2_1 (x3.1.1 : Int) fun q7 =>
       WLoad (Addr.add (Addr.add q7 ((Int.toNat (x3.1.1 : Int)) * 6)) 5) (.l .sl) fun (x8 : Option Go.Addr) (x8_1 : Nat) (x8_2 : Nat) =>
       WIf ((x8_1 : Int) != x6) (Q (.returned (.int .i64 12)))
       (WIf (x6 == (-1)) (WIndex x2 x2_1 (x3.1.1 : Int) fun q9 =>
         WLoad (Addr.add q9 ((Int.toNat (x3.1.1 : Int)) * 6)) (.agg [(.i .i64), .s, (.i .i64), (.i .i64), (.i .i64), .sl]) fun (x10 : Int) (x10_1 : ByteArray) (x10_2 : Int) (x10_3 : Int) (x10_4 : Int) (x10_5 : Option Go.Addr) (x10_6 : Nat) (x10_7 : Nat) =>
         WCall Tryz.prog Q 84 #[(.agg #[(.int .i64 x10), (.string x10_1), (.int .i64 x10_2), (.int .i64 x10_3), (.int .i64 x10_4), (.slice x10_5 x10_6 x10_7)])] (WOpen (.one (.l .b)) fun (x11 : Bool) =>
         WIf (!x11) (Q (.returned (.int .i64 12)))
         (WIndex x2 x2_1 (x3.1.1 : Int) fun q12 =>
          WLoad (Addr.add q12 ((Int.toNat (x3.1.1 : Int)) * 6)) (.agg [(.i .i64), .s, (.i .i64), (.i .i64), (.i .i64), .sl]) fun (x13 : Int) (x13_1 : ByteArray) (x13_2 : Int) (x13_3 : Int) (x13_4 : Int) (x13_5 : Option Go.Addr) (x13_6 : Nat) (x13_7 : Nat) =>
          WCall Tryz.prog Q 85 #[(.agg #[(.int .i64 x13), (.string x13_1), (.int .i64 x13_2), (.int .i64 x13_3), (.int .i64 x13_4), (.slice x13_5 x13_6 x13_7)])] (WOpen (.one (.l .b)) fun (x14 : Bool) =>
          WIf (!x14) (Q (.returned (.int .i64 12)))
          (again3 (((IntKind.wrap .i64 ((x3.1.1 : Int) + 1)), ()), ()))))))
        (WIndex x2 x2_1 (x3.1.1 : Int) fun q15 =>
         WLoad (Addr.add q15 ((Int.toNat (x3.1.1 : Int)) * 6)) (.agg [(.i .i64), .s, (.i .i64), (.i .i64), (.i .i64), .sl]) fun (x16 : Int) (x16_1 : ByteArray) (x16_2 : Int) (x16_3 : Int) (x16_4 : Int) (x16_5 : Option Go.Addr) (x16_6 : Nat) (x16_7 : Nat) =>
         WCall Tryz.prog Q 85 #[(.agg #[(.int .i64 x16), (.string x16_1), (.int .i64 x16_2), (.int .i64 x16_3), (.int .i64 x16_4), (.slice x16_5 x16_6 x16_7)])] (WOpen (.one (.l .b)) fun (x17 : Bool) =>
         WIf (!x17) (Q (.returned (.int .i64 12)))
         (again3 (((IntKind.wrap .i64 ((x3.1.1 : Int) + 1)), ()), ()))))))
      (WIf (x6 == (-1)) (WIndex x2 x2_1 (x3.1.1 : Int) fun q18 =>
        WLoad (Addr.add q18 ((Int.toNat (x3.1.1 : Int)) * 6)) (.agg [(.i .i64), .s, (.i .i64), (.i .i64), (.i .i64), .sl]) fun (x19 : Int) (x19_1 : ByteArray) (x19_2 : Int) (x19_3 : Int) (x19_4 : Int) (x19_5 : Option Go.Addr) (x19_6 : Nat) (x19_7 : Nat) =>
        WCall Tryz.prog Q 84 #[(.agg #[(.int .i64 x19), (.string x19_1), (.int .i64 x19_2), (.int .i64 x19_3), (.int .i64 x19_4), (.slice x19_5 x19_6 x19_7)])] (WOpen (.one (.l .b)) fun (x20 : Bool) =>
        WIf (!x20) (Q (.returned (.int .i64 12)))
        (WIndex x2 x2_1 (x3.1.1 : Int) fun q21 =>
         WLoad (Addr.add q21 ((Int.toNat (x3.1.1 : Int)) * 6)) (.agg [(.i .i64), .s, (.i .i64), (.i .i64), (.i .i64), .sl]) fun (x22 : Int) (x22_1 : ByteArray) (x22_2 : Int) (x22_3 : Int) (x22_4 : Int) (x22_5 : Option Go.Addr) (x22_6 : Nat) (x22_7 : Nat) =>
         WCall Tryz.prog Q 85 #[(.agg #[(.int .i64 x22), (.string x22_1), (.int .i64 x22_2), (.int .i64 x22_3), (.int .i64 x22_4), (.slice x22_5 x22_6 x22_7)])] (WOpen (.one (.l .b)) fun (x23 : Bool) =>
         WIf (!x23) (Q (.returned (.int .i64 12)))
         (again3 (((IntKind.wrap .i64 ((x3.1.1 : Int) + 1)), ()), ()))))))
       (WIndex x2 x2_1 (x3.1.1 : Int) fun q24 =>
        WLoad (Addr.add q24 ((Int.toNat (x3.1.1 : Int)) * 6)) (.agg [(.i .i64), .s, (.i .i64), (.i .i64), (.i .i64), .sl]) fun (x25 : Int) (x25_1 : ByteArray) (x25_2 : Int) (x25_3 : Int) (x25_4 : Int) (x25_5 : Option Go.Addr) (x25_6 : Nat) (x25_7 : Nat) =>
        WCall Tryz.prog Q 85 #[(.agg #[(.int .i64 x25), (.string x25_1), (.int .i64 x25_2), (.int .i64 x25_3), (.int .i64 x25_4), (.slice x25_5 x25_6 x25_7)])] (WOpen (.one (.l .b)) fun (x26 : Bool) =>
        WIf (!x26) (Q (.returned (.int .i64 12)))
        (again3 (((IntKind.wrap .i64 ((x3.1.1 : Int) + 1)), ()), ()))))))))
    (Q (.returned (.int .i64 0)))))))

def h24 : Hints := ⟨[], [⟨0, [(4, .i .i64)], [2, 5, 14, 15, 16, 17, 18, 19, 20, 21, 22, 23, 24, 25, 26, 27, 28, 29, 30, 31, 32, 33, 34, 35, 36, 37, 38, 39, 40, 41, 42, 43, 44, 45, 46, 47, 48, 49, 50, 51, 52, 53, 54, 55, 56, 57, 58, 59, 60, 61], []⟩], [], [1]⟩
theorem tie24 (Q : Ending → W) (a0_0 : Int) (a0_1 : ByteArray) (a0_2 : Int) (a0_3 : Int) (a0_4 : Int) (a0_5a : Option Addr) (a0_5n : Nat) (a0_5c : Nat) : funW Tryz.prog tab Q h24 Tryz.f24 [.v (.agg ⟨[(.int .i64 a0_0), (.string a0_1), (.int .i64 a0_2), (.int .i64 a0_3), (.int .i64 a0_4), (.slice a0_5a a0_5n a0_5c)]⟩)] = W24 Q a0_0 a0_1 a0_2 a0_3 a0_4 a0_5a a0_5n a0_5c := by kernel_rfl

theorem spec24 {Q : Ending → W} {a0_0 : Int} {a0_1 : ByteArray} {a0_2 : Int} {a0_3 : Int} {a0_4 : Int} {a0_5a : Option Addr} {a0_5n : Nat} {a0_5c : Nat} {H : HP} (h : W24 Q a0_0 a0_1 a0_2 a0_3 a0_4 a0_5a a0_5n a0_5c H) : Go.Den.Spec Tryz.prog 24 #[(.agg ⟨[(.int .i64 a0_0), (.string a0_1), (.int .i64 a0_2), (.int .i64 a0_3), (.int .i64 a0_4), (.slice a0_5a a0_5n a0_5c)]⟩)] H Q :=
  specOf (fn := Tryz.f24) (hs := h24) (args := [.v (.agg ⟨[(.int .i64 a0_0), (.string a0_1), (.int .i64 a0_2), (.int .i64 a0_3), (.int .i64 a0_4), (.slice a0_5a a0_5n a0_5c)]⟩)]) (by kernel_rfl) (by kernel_rfl) (by kernel_rfl) rfl (by rw [tie24]; exact h)

/-- bound.Longest -/
def W25 (Q : Ending → W) (a0_0 : Int) (a0_1 : ByteArray) (a0_2 : Int) (a0_3 : Int) (a0_4 : Int) (a0_5a : Option Addr) (a0_5n : Nat) (a0_5c : Nat) : W :=
  WNew [(.int .i64 0)] 2 fun z1 =>
  WStore ⟨z1, 0, none⟩ [(.int .i64 0)] <|
  WCall Tryz.prog Q 86 #[(.agg #[(.int .i64 a0_0), (.string a0_1), (.int .i64 a0_2), (.int .i64 a0_3), (.int .i64 a0_4), (.slice a0_5a a0_5n a0_5c)]), (.func (.func 87) #[] #[(.pointer (some ⟨z1, 0, none⟩))])] (WOpen (.tup []) <|
  WLoad ⟨z1, 0, none⟩ (.l (.i .i64)) fun (x3 : Int) =>
  Q (.returned (.int .i64 x3)))

def h25 : Hints := ⟨[3], [], [], [1]⟩
theorem tie25 (Q : Ending → W) (a0_0 : Int) (a0_1 : ByteArray) (a0_2 : Int) (a0_3 : Int) (a0_4 : Int) (a0_5a : Option Addr) (a0_5n : Nat) (a0_5c : Nat) : funW Tryz.prog tab Q h25 Tryz.f25 [.v (.agg ⟨[(.int .i64 a0_0), (.string a0_1), (.int .i64 a0_2), (.int .i64 a0_3), (.int .i64 a0_4), (.slice a0_5a a0_5n a0_5c)]⟩)] = W25 Q a0_0 a0_1 a0_2 a0_3 a0_4 a0_5a a0_5n a0_5c := by kernel_rfl

theorem spec25 {Q : Ending → W} {a0_0 : Int} {a0_1 : ByteArray} {a0_2 : Int} {a0_3 : Int} {a0_4 : Int} {a0_5a : Option Addr} {a0_5n : Nat} {a0_5c : Nat} {H : HP} (h : W25 Q a0_0 a0_1 a0_2 a0_3 a0_4 a0_5a a0_5n a0_5c H) : Go.Den.Spec Tryz.prog 25 #[(.agg ⟨[(.int .i64 a0_0), (.string a0_1), (.int .i64 a0_2), (.int .i64 a0_3), (.int .i64 a0_4), (.slice a0_5a a0_5n a0_5c)]⟩)] H Q :=
  specOf (fn := Tryz.f25) (hs := h25) (args := [.v (.agg ⟨[(.int .i64 a0_0), (.string a0_1), (.int .i64 a0_2), (.int .i64 a0_3), (.int .i64 a0_4), (.slice a0_5a a0_5n a0_5c)]⟩)]) (by kernel_rfl) (by kernel_rfl) (by kernel_rfl) rfl (by rw [tie25]; exact h)

/-- beadlelaw18.moment -/
def W28 (Q : Ending → W) (a0_0 : Int) (a0_1 : ByteArray) (a0_2 : ByteArray) (a0_3 : ByteArray) (a0_4 : ByteArray) (a0_5 : ByteArray) (a0_6 : Int) (a0_7 : Int) (a0_8 : ByteArray) (a0_9a : Option Addr) (a0_9n : Nat) (a0_9c : Nat) : W :=
  Q (.returned (.agg #[(.int .i64 a0_0), (.string a0_1), (.string a0_2), (.string a0_3)]))

def h28 : Hints := ⟨[], [], [], [1, 2]⟩
theorem tie28 (Q : Ending → W) (a0_0 : Int) (a0_1 : ByteArray) (a0_2 : ByteArray) (a0_3 : ByteArray) (a0_4 : ByteArray) (a0_5 : ByteArray) (a0_6 : Int) (a0_7 : Int) (a0_8 : ByteArray) (a0_9a : Option Addr) (a0_9n : Nat) (a0_9c : Nat) : funW Tryz.prog tab Q h28 Tryz.f28 [.v (.agg ⟨[(.int .i64 a0_0), (.string a0_1), (.string a0_2), (.string a0_3), (.string a0_4), (.string a0_5), (.int .i64 a0_6), (.int .i64 a0_7), (.string a0_8), (.slice a0_9a a0_9n a0_9c)]⟩)] = W28 Q a0_0 a0_1 a0_2 a0_3 a0_4 a0_5 a0_6 a0_7 a0_8 a0_9a a0_9n a0_9c := by kernel_rfl

theorem spec28 {Q : Ending → W} {a0_0 : Int} {a0_1 : ByteArray} {a0_2 : ByteArray} {a0_3 : ByteArray} {a0_4 : ByteArray} {a0_5 : ByteArray} {a0_6 : Int} {a0_7 : Int} {a0_8 : ByteArray} {a0_9a : Option Addr} {a0_9n : Nat} {a0_9c : Nat} {H : HP} (h : W28 Q a0_0 a0_1 a0_2 a0_3 a0_4 a0_5 a0_6 a0_7 a0_8 a0_9a a0_9n a0_9c H) : Go.Den.Spec Tryz.prog 28 #[(.agg ⟨[(.int .i64 a0_0), (.string a0_1), (.string a0_2), (.string a0_3), (.string a0_4), (.string a0_5), (.int .i64 a0_6), (.int .i64 a0_7), (.string a0_8), (.slice a0_9a a0_9n a0_9c)]⟩)] H Q :=
  specOf (fn := Tryz.f28) (hs := h28) (args := [.v (.agg ⟨[(.int .i64 a0_0), (.string a0_1), (.string a0_2), (.string a0_3), (.string a0_4), (.string a0_5), (.int .i64 a0_6), (.int .i64 a0_7), (.string a0_8), (.slice a0_9a a0_9n a0_9c)]⟩)]) (by kernel_rfl) (by kernel_rfl) (by kernel_rfl) rfl (by rw [tie28]; exact h)

/-- beadlelaw18.MonitorBounded -/
def W3 (Q : Ending → W) (a0_0 : Int) (a0_1 : ByteArray) (a0_2 : Int) (a0_3 : Int) (a0_4 : Int) (a0_5a : Option Addr) (a0_5n : Nat) (a0_5c : Nat) (a1a : Option Addr) (a1n : Nat) (a1c : Nat) (a2a : Option Addr) (a2n : Nat) (a2c : Nat) : W :=
  WCall Tryz.prog Q 21 #[] (WOpen (.one (.l .b)) fun (x1 : Bool) =>
  WIf (!x1) (Q (.returned (.bool false)))
  (WCall Tryz.prog Q 22 #[(.agg #[(.int .i64 a0_0), (.string a0_1), (.int .i64 a0_2), (.int .i64 a0_3), (.int .i64 a0_4), (.slice a0_5a a0_5n a0_5c)])] (WOpen (.one (.l .p)) fun (x2 : Option Go.Addr) =>
   WCall Tryz.prog Q 23 #[(.slice a1a a1n a1c)] (WOpen (.one (.l .p)) fun (x3 : Option Go.Addr) =>
   WIf (Option.isNone x2) (WCall Tryz.prog Q 24 #[(.agg #[(.int .i64 a0_0), (.string a0_1), (.int .i64 a0_2), (.int .i64 a0_3), (.int .i64 a0_4), (.slice a0_5a a0_5n a0_5c)])] (WOpen (.one (.l (.i .i64))) fun (x4 : Int) =>
    Q (.returned (.bool (x4 != 0)))))
   (WCall Tryz.prog Q 25 #[(.agg #[(.int .i64 a0_0), (.string a0_1), (.int .i64 a0_2), (.int .i64 a0_3), (.int .i64 a0_4), (.slice a0_5a a0_5n a0_5c)])] (WOpen (.one (.l (.i .i64))) fun (x5 : Int) =>
    WCall Tryz.prog Q 26 #[(.slice a2a a2n a2c), (.int .i64 40)] (WOpen (.one (.l .sl)) fun (x6 : Option Go.Addr) (x6_1 : Nat) (x6_2 : Nat) =>
    WLoop (σ := (((Option Go.Addr × (Nat × Nat)) × (Int × (Int × Unit))) × Unit)) (((none, (0, 0)), (0, (0, ()))), ()) fun x7 again7 =>
    WIf (decide ((x7.1.2.2.1 : Int) < (x6_1 : Int))) (WIndex x6 x6_1 (x7.1.2.2.1 : Int) fun q8 =>
     WLoad (Addr.add q8 ((Int.toNat (x7.1.2.2.1 : Int)) * 10)) (.agg [(.i .i64), .s, .s, .s, .s, .s, (.i .i64), (.i .i64), .s, .sl]) fun (x9 : Int) (x9_1 : ByteArray) (x9_2 : ByteArray) (x9_3 : ByteArray) (x9_4 : ByteArray) (x9_5 : ByteArray) (x9_6 : Int) (x9_7 : Int) (x9_8 : ByteArray) (x9_9 : Option Go.Addr) (x9_10 : Nat) (x9_11 : Nat) =>
     WCall Tryz.prog Q 28 #[(.agg #[(.int .i64 x9), (.string x9_1), (.string x9_2), (.string x9_3), (.string x9_4), (.string x9_5), (.int .i64 x9_6), (.int .i64 x9_7), (.string x9_8), (.slice x9_9 x9_10 x9_11)])] (WOpen (.one (.agg [(.i .i64), .s, .s, .s])) fun (x10 : Int) (x10_1 : ByteArray) (x10_2 : ByteArray) (x10_3 : ByteArray) =>
     WCall Tryz.prog Q 27 #[(.pointer x2), (.pointer x3), (.agg #[(.int .i64 x10), (.string x10_1), (.string x10_2), (.string x10_3)])] (WOpen (.tup [(.agg [(.i .i64), (.i .i64), .s, .sl]), (.l (.i .i64))]) fun (x11 : Int) (x11_1 : Int) (x11_2 : ByteArray) (x11_3 : Option Go.Addr) (x11_4 : Nat) (x11_5 : Nat) (x11_6 : Int) =>
     WIf (x11_6 != 0) (Q (.returned (.bool true)))
     (WJoin (σ := (((Option Go.Addr × (Nat × Nat)) × (Int × Unit)) × Unit)) (fun again12 =>
       WIndex x6 x6_1 (x7.1.2.2.1 : Int) fun q13 =>
       WLoad (Addr.add (Addr.add q13 ((Int.toNat (x7.1.2.2.1 : Int)) * 10)) 0) (.l (.i .i64)) fun (x14 : Int) =>
       WIf ((((x7.1.1.2.1 : Nat) : Nat) : Int) == 0) (WNew [(.int .i64 (if ((x7.1.2.1 : Int) < x14) then x14 else (x7.1.2.1 : Int)))] 2 fun z15 =>
        WPrim Tryz.prog (Builtin.append_ #[34, 34] 34 #[(.slice (x7.1.1.1 : Option Go.Addr) (x7.1.1.2.1 : Nat) (x7.1.1.2.2 : Nat)), (.slice (some ⟨z15, 0, none⟩) 1 1)]) (WOpen (.one (.l .sl)) fun (x16 : Option Go.Addr) (x16_1 : Nat) (x16_2 : Nat) =>
        again12 (((x16, (x16_1, x16_2)), ((if ((x7.1.2.1 : Int) < x14) then x14 else (x7.1.2.1 : Int)), ())), ())))
       (WIndex (x7.1.1.1 : Option Go.Addr) (x7.1.1.2.1 : Nat) (IntKind.wrap .i64 ((((x7.1.1.2.1 : Nat) : Nat) : Int) - 1)) fun q17 =>
        WLoad (Addr.add q17 ((Int.toNat (IntKind.wrap .i64 ((((x7.1.1.2.1 : Nat) : Nat) : Int) - 1))) * 1)) (.l (.i .i64)) fun (x18 : Int) =>
        WIf (x18 != (if ((x7.1.2.1 : Int) < x14) then x14 else (x7.1.2.1 : Int))) (WNew [(.int .i64 (if ((x7.1.2.1 : Int) < x14) then x14 else (x7.1.2.1 : Int)))] 2 fun z19 =>
         WPrim Tryz.prog (Builtin.append_ #[34, 34] 34 #[(.slice (x7.1.1.1 : Option Go.Addr) (x7.1.1.2.1 : Nat) (x7.1.1.2.2 : Nat)), (.slice (some ⟨z19, 0, none⟩) 1 1)]) (WOpen (.one (.l .sl)) fun (x20 : Option Go.Addr) (x20_1 : Nat) (x20_2 : Nat) =>
         again12 (((x20, (x20_1, x20_2)), ((if ((x7.1.2.1 : Int) < x14) then x14 else (x7.1.2.1 : Int)), ())), ())))
        (again12 ((((x7.1.1.1 : Option Go.Addr), ((x7.1.1.2.1 : Nat), (x7.1.1.2.2 : Nat))), ((if ((x7.1.2.1 : Int) < x14) then x14 else (x7.1.2.1 : Int)), ())), ()))))
      (fun x12 =>
       WLoop (σ := ((Int × (Int × Unit)) × Unit)) ((0, (0, ())), ()) fun x21 again21 =>
       WIf (decide ((x21.1.2.1 : Int) < (((x12.1.1.2.1 : Nat) : Nat) : Int))) (WIndex (x12.1.1.1 : Option Go.Addr) (x12.1.1.2.1 : Nat) (x21.1.2.1 : Int) fun q22 =>
        WLoad (Addr.add q22 ((Int.toNat (x21.1.2.1 : Int)) * 1)) (.l (.i .i64)) fun (x23 : Int) =>
        WIf (decide ((IntKind.wrap .i64 ((x12.1.2.1 : Int) - x23)) ≤ x5)) (again21 (((IntKind.wrap .i64 ((x21.1.1 : Int) + 1)), ((IntKind.wrap .i64 ((x21.1.2.1 : Int) + 1)), ())), ()))
        (again21 (((x21.1.1 : Int), ((IntKind.wrap .i64 ((x21.1.2.1 : Int) + 1)), ())), ())))
       (WCall Tryz.prog Q 29 #[(.pointer x2)] (WOpen (.one (.l (.i .i64))) fun (x24 : Int) =>
        WCall Tryz.prog Q 30 #[(.agg #[(.int .i64 a0_0), (.string a0_1), (.int .i64 a0_2), (.int .i64 a0_3), (.int .i64 a0_4), (.slice a0_5a a0_5n a0_5c)]), (.int .i64 (x21.1.1 : Int))] (WOpen (.one (.l (.i .i64))) fun (x25 : Int) =>
        WIf (decide (x24 > x25)) (Q (.returned (.bool false)))
        (again7 ((((x12.1.1.1 : Option Go.Addr), ((x12.1.1.2.1 : Nat), (x12.1.1.2.2 : Nat))), ((x12.1.2.1 : Int), ((IntKind.wrap .i64 ((x7.1.2.2.1 : Int) + 1)), ()))), ()))))))))))
    (Q (.returned (.bool true))))))))))

def h3 : Hints := ⟨[], [⟨2, [(15, .i .i64), (16, .i .i64)], [75, 76, 77, 78, 79, 80, 81, 82, 83, 84, 85, 86, 87, 88, 89, 90], []⟩, ⟨0, [(10, .sl), (11, .i .i64), (12, .i .i64)], [6, 13, 14, 15, 16, 32, 33, 34, 35, 36, 37, 38, 39, 40, 41, 42, 43, 44, 45, 46, 47, 48, 49, 50, 51, 52, 53, 54, 55, 56, 57, 58, 59, 60, 61, 62, 63, 64, 65, 66, 67, 68, 69, 70, 71, 72, 73, 74, 75, 76, 77, 78, 79, 80, 81, 82, 83, 84, 85, 86, 87, 88, 89, 90, 91, 92, 93, 94, 95, 96], []⟩], [⟨19, [(10, .sl), (11, .i .i64)], [51, 52, 53, 54, 55, 56, 57, 58, 59, 60, 61, 62, 63, 64, 65, 66, 67, 68, 69, 70, 71, 72, 73, 74], []⟩], [3, 13]⟩
theorem tie3 (Q : Ending → W) (a0_0 : Int) (a0_1 : ByteArray) (a0_2 : Int) (a0_3 : Int) (a0_4 : Int) (a0_5a : Option Addr) (a0_5n : Nat) (a0_5c : Nat) (a1a : Option Addr) (a1n : Nat) (a1c : Nat) (a2a : Option Addr) (a2n : Nat) (a2c : Nat) : funW Tryz.prog tab Q h3 Tryz.f3 [.v (.agg ⟨[(.int .i64 a0_0), (.string a0_1), (.int .i64 a0_2), (.int .i64 a0_3), (.int .i64 a0_4), (.slice a0_5a a0_5n a0_5c)]⟩), .v (.slice a1a a1n a1c), .v (.slice a2a a2n a2c)] = W3 Q a0_0 a0_1 a0_2 a0_3 a0_4 a0_5a a0_5n a0_5c a1a a1n a1c a2a a2n a2c := by kernel_rfl

theorem spec3 {Q : Ending → W} {a0_0 : Int} {a0_1 : ByteArray} {a0_2 : Int} {a0_3 : Int} {a0_4 : Int} {a0_5a : Option Addr} {a0_5n : Nat} {a0_5c : Nat} {a1a : Option Addr} {a1n : Nat} {a1c : Nat} {a2a : Option Addr} {a2n : Nat} {a2c : Nat} {H : HP} (h : W3 Q a0_0 a0_1 a0_2 a0_3 a0_4 a0_5a a0_5n a0_5c a1a a1n a1c a2a a2n a2c H) : Go.Den.Spec Tryz.prog 3 #[(.agg ⟨[(.int .i64 a0_0), (.string a0_1), (.int .i64 a0_2), (.int .i64 a0_3), (.int .i64 a0_4), (.slice a0_5a a0_5n a0_5c)]⟩), (.slice a1a a1n a1c), (.slice a2a a2n a2c)] H Q :=
  specOf (fn := Tryz.f3) (hs := h3) (args := [.v (.agg ⟨[(.int .i64 a0_0), (.string a0_1), (.int .i64 a0_2), (.int .i64 a0_3), (.int .i64 a0_4), (.slice a0_5a a0_5n a0_5c)]⟩), .v (.slice a1a a1n a1c), .v (.slice a2a a2n a2c)]) (by kernel_rfl) (by kernel_rfl) (by kernel_rfl) rfl (by rw [tie3]; exact h)

/-- value.long -/
def W190 (Q : Ending → W) (a0 : ByteArray) : W :=
  Q (.returned (.bool (decide ((((ByteArray.size a0) : Nat) : Int) > 32))))

def h190 : Hints := ⟨[], [], [], []⟩
theorem tie190 (Q : Ending → W) (a0 : ByteArray) : funW Tryz.prog tab Q h190 Tryz.f190 [.v (.string a0)] = W190 Q a0 := by kernel_rfl

theorem spec190 {Q : Ending → W} {a0 : ByteArray} {H : HP} (h : W190 Q a0 H) : Go.Den.Spec Tryz.prog 190 #[(.string a0)] H Q :=
  specOf (fn := Tryz.f190) (hs := h190) (args := [.v (.string a0)]) (by kernel_rfl) (by kernel_rfl) (by kernel_rfl) rfl (by rw [tie190]; exact h)

/-- slices.IndexFunc[[]string,string] -/
def W244 (Q : Ending → W) (a0a : Option Addr) (a0n : Nat) (a0c : Nat) (a1g : FuncId) (a1c : List Value) : W :=
  WLoop (σ := ((Int × Unit) × Unit)) ((0, ()), ()) fun x1 again1 =>
  WIf (decide ((x1.1.1 : Int) < (a0n : Int))) (WIndex a0a a0n (x1.1.1 : Int) fun q2 =>
   WLoad (Addr.add q2 ((Int.toNat (x1.1.1 : Int)) * 1)) (.l .s) fun (x3 : ByteArray) =>
   WCall Tryz.prog Q a1g ⟨[(.string x3)] ++ a1c⟩ (WOpen (.one (.l .b)) fun (x4 : Bool) =>
   WIf x4 (Q (.returned (.int .i64 (x1.1.1 : Int))))
   (again1 (((IntKind.wrap .i64 ((x1.1.1 : Int) + 1)), ()), ()))))
  (Q (.returned (.int .i64 (-1))))

def h244 : Hints := ⟨[], [⟨0, [(8, .i .i64)], [4, 5, 9, 10, 11, 12, 13, 14, 15, 16, 17, 18], []⟩], [], []⟩
theorem tie244 (Q : Ending → W) (a0a : Option Addr) (a0n : Nat) (a0c : Nat) (a1g : FuncId) (a1c : List Value) : funW Tryz.prog tab Q h244 Tryz.f244 [.v (.slice a0a a0n a0c), .v (.func (.func a1g) #[] ⟨a1c⟩)] = W244 Q a0a a0n a0c a1g a1c := by kernel_rfl

theorem spec244 {Q : Ending → W} {a0a : Option Addr} {a0n : Nat} {a0c : Nat} {a1g : FuncId} {a1c : List Value} {H : HP} (h : W244 Q a0a a0n a0c a1g a1c H) : Go.Den.Spec Tryz.prog 244 #[(.slice a0a a0n a0c), (.func (.func a1g) #[] ⟨a1c⟩)] H Q :=
  specOf (fn := Tryz.f244) (hs := h244) (args := [.v (.slice a0a a0n a0c), .v (.func (.func a1g) #[] ⟨a1c⟩)]) (by kernel_rfl) (by kernel_rfl) (by kernel_rfl) rfl (by rw [tie244]; exact h)

/-- slices.ContainsFunc[[]string,string] -/
def W191 (Q : Ending → W) (a0a : Option Addr) (a0n : Nat) (a0c : Nat) (a1g : FuncId) (a1c : List Value) : W :=
  WCall Tryz.prog Q 244 #[(.slice a0a a0n a0c), (.func (.func a1g) #[] ⟨[] ++ a1c⟩)] (WOpen (.one (.l (.i .i64))) fun (x1 : Int) =>
  Q (.returned (.bool (decide (x1 ≥ 0)))))

def h191 : Hints := ⟨[], [], [], []⟩
theorem tie191 (Q : Ending → W) (a0a : Option Addr) (a0n : Nat) (a0c : Nat) (a1g : FuncId) (a1c : List Value) : funW Tryz.prog tab Q h191 Tryz.f191 [.v (.slice a0a a0n a0c), .v (.func (.func a1g) #[] ⟨a1c⟩)] = W191 Q a0a a0n a0c a1g a1c := by kernel_rfl

theorem spec191 {Q : Ending → W} {a0a : Option Addr} {a0n : Nat} {a0c : Nat} {a1g : FuncId} {a1c : List Value} {H : HP} (h : W191 Q a0a a0n a0c a1g a1c H) : Go.Den.Spec Tryz.prog 191 #[(.slice a0a a0n a0c), (.func (.func a1g) #[] ⟨a1c⟩)] H Q :=
  specOf (fn := Tryz.f191) (hs := h191) (args := [.v (.slice a0a a0n a0c), .v (.func (.func a1g) #[] ⟨a1c⟩)]) (by kernel_rfl) (by kernel_rfl) (by kernel_rfl) rfl (by rw [tie191]; exact h)

/-- value.rises -/
def W245 (Q : Ending → W) (a0a : Option Addr) (a0n : Nat) (a0c : Nat) : W :=
  WLoop (σ := ((Int × Unit) × Unit)) ((1, ()), ()) fun x1 again1 =>
  WIf (decide ((x1.1.1 : Int) < (a0n : Int))) (WIndex a0a a0n (x1.1.1 : Int) fun q2 =>
   WLoad (Addr.add q2 ((Int.toNat (x1.1.1 : Int)) * 1)) (.l .s) fun (x3 : ByteArray) =>
   WIndex a0a a0n (IntKind.wrap .i64 ((x1.1.1 : Int) - 1)) fun q4 =>
   WLoad (Addr.add q4 ((Int.toNat (IntKind.wrap .i64 ((x1.1.1 : Int) - 1))) * 1)) (.l .s) fun (x5 : ByteArray) =>
   WIf ((Go.Op.bytesLess (ByteArray.toList x3) (ByteArray.toList x5)) || ((ByteArray.toList x3) == (ByteArray.toList x5))) (Q (.returned (.bool false)))
   (again1 (((IntKind.wrap .i64 ((x1.1.1 : Int) + 1)), ()), ())))
  (Q (.returned (.bool true)))

def h245 : Hints := ⟨[], [⟨0, [(3, .i .i64)], [2, 4, 5, 6, 7, 8, 9, 10, 11, 12, 13, 14, 15, 16, 17, 18, 19], []⟩], [], []⟩
theorem tie245 (Q : Ending → W) (a0a : Option Addr) (a0n : Nat) (a0c : Nat) : funW Tryz.prog tab Q h245 Tryz.f245 [.v (.slice a0a a0n a0c)] = W245 Q a0a a0n a0c := by kernel_rfl

theorem spec245 {Q : Ending → W} {a0a : Option Addr} {a0n : Nat} {a0c : Nat} {H : HP} (h : W245 Q a0a a0n a0c H) : Go.Den.Spec Tryz.prog 245 #[(.slice a0a a0n a0c)] H Q :=
  specOf (fn := Tryz.f245) (hs := h245) (args := [.v (.slice a0a a0n a0c)]) (by kernel_rfl) (by kernel_rfl) (by kernel_rfl) rfl (by rw [tie245]; exact h)

/-- value.odd -/
def W192 (Q : Ending → W) (a0_0 : Int) (a0_1 : Int) (a0_2 : ByteArray) (a0_3a : Option Addr) (a0_3n : Nat) (a0_3c : Nat) : W :=
  WIf (!((a0_0 == 1) || ((a0_0 == 2) && ((a0_1 == 0) || (a0_1 == 1))))) (WIf (a0_1 != 0) (Q (.returned (.bool true)))
   (WIf (a0_0 != 3) (WIf (!((ByteArray.toList a0_2) == (ByteArray.toList (ByteArray.mk #[])))) (Q (.returned (.bool true)))
     (WIf (a0_0 != 4) (WIf (decide ((a0_3n : Int) > 0)) (Q (.returned (.bool true)))
       (WCall Tryz.prog Q 245 #[(.slice a0_3a a0_3n a0_3c)] (WOpen (.one (.l .b)) fun (x1 : Bool) =>
        Q (.returned (.bool (!x1))))))
      (WCall Tryz.prog Q 245 #[(.slice a0_3a a0_3n a0_3c)] (WOpen (.one (.l .b)) fun (x2 : Bool) =>
       Q (.returned (.bool (!x2)))))))
    (WIf (a0_0 != 4) (WIf (decide ((a0_3n : Int) > 0)) (Q (.returned (.bool true)))
      (WCall Tryz.prog Q 245 #[(.slice a0_3a a0_3n a0_3c)] (WOpen (.one (.l .b)) fun (x3 : Bool) =>
       Q (.returned (.bool (!x3))))))
     (WCall Tryz.prog Q 245 #[(.slice a0_3a a0_3n a0_3c)] (WOpen (.one (.l .b)) fun (x4 : Bool) =>
      Q (.returned (.bool (!x4))))))))
  (WIf (a0_0 != 3) (WIf (!((ByteArray.toList a0_2) == (ByteArray.toList (ByteArray.mk #[])))) (Q (.returned (.bool true)))
    (WIf (a0_0 != 4) (WIf (decide ((a0_3n : Int) > 0)) (Q (.returned (.bool true)))
      (WCall Tryz.prog Q 245 #[(.slice a0_3a a0_3n a0_3c)] (WOpen (.one (.l .b)) fun (x5 : Bool) =>
       Q (.returned (.bool (!x5))))))
     (WCall Tryz.prog Q 245 #[(.slice a0_3a a0_3n a0_3c)] (WOpen (.one (.l .b)) fun (x6 : Bool) =>
      Q (.returned (.bool (!x6)))))))
   (WIf (a0_0 != 4) (WIf (decide ((a0_3n : Int) > 0)) (Q (.returned (.bool true)))
     (WCall Tryz.prog Q 245 #[(.slice a0_3a a0_3n a0_3c)] (WOpen (.one (.l .b)) fun (x7 : Bool) =>
      Q (.returned (.bool (!x7))))))
    (WCall Tryz.prog Q 245 #[(.slice a0_3a a0_3n a0_3c)] (WOpen (.one (.l .b)) fun (x8 : Bool) =>
     Q (.returned (.bool (!x8)))))))

def h192 : Hints := ⟨[], [], [], [1]⟩
theorem tie192 (Q : Ending → W) (a0_0 : Int) (a0_1 : Int) (a0_2 : ByteArray) (a0_3a : Option Addr) (a0_3n : Nat) (a0_3c : Nat) : funW Tryz.prog tab Q h192 Tryz.f192 [.v (.agg ⟨[(.int .i64 a0_0), (.int .i64 a0_1), (.string a0_2), (.slice a0_3a a0_3n a0_3c)]⟩)] = W192 Q a0_0 a0_1 a0_2 a0_3a a0_3n a0_3c := by kernel_rfl

theorem spec192 {Q : Ending → W} {a0_0 : Int} {a0_1 : Int} {a0_2 : ByteArray} {a0_3a : Option Addr} {a0_3n : Nat} {a0_3c : Nat} {H : HP} (h : W192 Q a0_0 a0_1 a0_2 a0_3a a0_3n a0_3c H) : Go.Den.Spec Tryz.prog 192 #[(.agg ⟨[(.int .i64 a0_0), (.int .i64 a0_1), (.string a0_2), (.slice a0_3a a0_3n a0_3c)]⟩)] H Q :=
  specOf (fn := Tryz.f192) (hs := h192) (args := [.v (.agg ⟨[(.int .i64 a0_0), (.int .i64 a0_1), (.string a0_2), (.slice a0_3a a0_3n a0_3c)]⟩)]) (by kernel_rfl) (by kernel_rfl) (by kernel_rfl) rfl (by rw [tie192]; exact h)

/-- value.Check -/
def W114 (Q : Ending → W) (a0_0 : Int) (a0_1 : Int) (a0_2 : ByteArray) (a0_3a : Option Addr) (a0_3n : Nat) (a0_3c : Nat) : W :=
  WIf ((decide (a0_0 < 1)) || (decide (a0_0 > 4))) (Q (.returned (.int .i64 12)))
  (WCall Tryz.prog Q 190 #[(.string a0_2)] (WOpen (.one (.l .b)) fun (x1 : Bool) =>
   WIf x1 (Q (.returned (.int .i64 5)))
   (WCall Tryz.prog Q 191 #[(.slice a0_3a a0_3n a0_3c), (.func (.func 190) #[] #[])] (WOpen (.one (.l .b)) fun (x2 : Bool) =>
    WIf x2 (Q (.returned (.int .i64 5)))
    (WIf (decide ((a0_3n : Int) > 8)) (Q (.returned (.int .i64 3)))
     (WCall Tryz.prog Q 192 #[(.agg #[(.int .i64 a0_0), (.int .i64 a0_1), (.string a0_2), (.slice a0_3a a0_3n a0_3c)])] (WOpen (.one (.l .b)) fun (x3 : Bool) =>
      WIf x3 (Q (.returned (.int .i64 4)))
      (Q (.returned (.int .i64 0))))))))))

def h114 : Hints := ⟨[], [], [], [1]⟩
theorem tie114 (Q : Ending → W) (a0_0 : Int) (a0_1 : Int) (a0_2 : ByteArray) (a0_3a : Option Addr) (a0_3n : Nat) (a0_3c : Nat) : funW Tryz.prog tab Q h114 Tryz.f114 [.v (.agg ⟨[(.int .i64 a0_0), (.int .i64 a0_1), (.string a0_2), (.slice a0_3a a0_3n a0_3c)]⟩)] = W114 Q a0_0 a0_1 a0_2 a0_3a a0_3n a0_3c := by kernel_rfl

theorem spec114 {Q : Ending → W} {a0_0 : Int} {a0_1 : Int} {a0_2 : ByteArray} {a0_3a : Option Addr} {a0_3n : Nat} {a0_3c : Nat} {H : HP} (h : W114 Q a0_0 a0_1 a0_2 a0_3a a0_3n a0_3c H) : Go.Den.Spec Tryz.prog 114 #[(.agg ⟨[(.int .i64 a0_0), (.int .i64 a0_1), (.string a0_2), (.slice a0_3a a0_3n a0_3c)]⟩)] H Q :=
  specOf (fn := Tryz.f114) (hs := h114) (args := [.v (.agg ⟨[(.int .i64 a0_0), (.int .i64 a0_1), (.string a0_2), (.slice a0_3a a0_3n a0_3c)]⟩)]) (by kernel_rfl) (by kernel_rfl) (by kernel_rfl) rfl (by rw [tie114]; exact h)

/-- (*store.Store).Set -/
def W50 (Q : Ending → W) (a0 : Option Addr) (a1 : ByteArray) (a2 : ByteArray) (a3_0 : Int) (a3_1 : Int) (a3_2 : ByteArray) (a3_3a : Option Addr) (a3_3n : Nat) (a3_3c : Nat) : W :=
  WCall Tryz.prog Q 112 #[(.pointer a0), (.string a2)] (WOpen (.one (.l (.i .i64))) fun (x1 : Int) =>
  WCall Tryz.prog Q 113 #[(.pointer a0)] (WOpen (.one (.l .b)) fun (x2 : Bool) =>
  WIf (!x2) (Q (.returned (.int .i64 9)))
  (WIf (x1 == 0) (Q (.returned (.int .i64 14)))
   (WIf (x1 != a3_0) (Q (.returned (.int .i64 31)))
    (WCall Tryz.prog Q 114 #[(.agg #[(.int .i64 a3_0), (.int .i64 a3_1), (.string a3_2), (.slice a3_3a a3_3n a3_3c)])] (WOpen (.one (.l (.i .i64))) fun (x3 : Int) =>
     WIf (x3 != 0) (Q (.returned (.int .i64 x3)))
     (WNonNil a0 fun q4 =>
      WLoad (Addr.add q4 1) (.l .m) fun (x5 : Option Nat) =>
      WCall Tryz.prog Q 115 #[(.agg #[(.int .i64 a3_0), (.int .i64 a3_1), (.string a3_2), (.slice a3_3a a3_3n a3_3c)])] (WOpen (.one (.agg [(.i .i64), (.i .i64), .s, .sl])) fun (x6 : Int) (x6_1 : Int) (x6_2 : ByteArray) (x6_3 : Option Go.Addr) (x6_4 : Nat) (x6_5 : Nat) =>
      WHeld [((Addr.add q4 1), [(.map x5)])] <|
      WPrimU Tryz.prog (Instr.mapUpdate 111 (.map x5) (.agg #[(.string a1), (.string a2)]) (.agg #[(.int .i64 x6), (.int .i64 x6_1), (.string x6_2), (.slice x6_3 x6_4 x6_5)])) <|
      Q (.returned (.int .i64 0))))))))))

def h50 : Hints := ⟨[], [], [], [7]⟩
theorem tie50 (Q : Ending → W) (a0 : Option Addr) (a1 : ByteArray) (a2 : ByteArray) (a3_0 : Int) (a3_1 : Int) (a3_2 : ByteArray) (a3_3a : Option Addr) (a3_3n : Nat) (a3_3c : Nat) : funW Tryz.prog tab Q h50 Tryz.f50 [.v (.pointer a0), .v (.string a1), .v (.string a2), .v (.agg ⟨[(.int .i64 a3_0), (.int .i64 a3_1), (.string a3_2), (.slice a3_3a a3_3n a3_3c)]⟩)] = W50 Q a0 a1 a2 a3_0 a3_1 a3_2 a3_3a a3_3n a3_3c := by kernel_rfl

theorem spec50 {Q : Ending → W} {a0 : Option Addr} {a1 : ByteArray} {a2 : ByteArray} {a3_0 : Int} {a3_1 : Int} {a3_2 : ByteArray} {a3_3a : Option Addr} {a3_3n : Nat} {a3_3c : Nat} {H : HP} (h : W50 Q a0 a1 a2 a3_0 a3_1 a3_2 a3_3a a3_3n a3_3c H) : Go.Den.Spec Tryz.prog 50 #[(.pointer a0), (.string a1), (.string a2), (.agg ⟨[(.int .i64 a3_0), (.int .i64 a3_1), (.string a3_2), (.slice a3_3a a3_3n a3_3c)]⟩)] H Q :=
  specOf (fn := Tryz.f50) (hs := h50) (args := [.v (.pointer a0), .v (.string a1), .v (.string a2), .v (.agg ⟨[(.int .i64 a3_0), (.int .i64 a3_1), (.string a3_2), (.slice a3_3a a3_3n a3_3c)]⟩)]) (by kernel_rfl) (by kernel_rfl) (by kernel_rfl) rfl (by rw [tie50]; exact h)

/-- beadleref05.Set -/
def W63 (Q : Ending → W) (a0_0a : Option Addr) (a0_0n : Nat) (a0_0c : Nat) (a0_1a : Option Addr) (a0_1n : Nat) (a0_1c : Nat) (a1 : ByteArray) (a2 : ByteArray) (a3_0 : Int) (a3_1 : Int) (a3_2 : ByteArray) (a3_3a : Option Addr) (a3_3n : Nat) (a3_3c : Nat) : W :=
  WCall Tryz.prog Q 127 #[(.agg #[(.slice a0_0a a0_0n a0_0c), (.slice a0_1a a0_1n a0_1c)]), (.string a2)] (WOpen (.one (.l (.i .i64))) fun (x1 : Int) =>
  WIf (x1 == 0) (Q (.returned (.tuple #[(.agg #[(.slice a0_0a a0_0n a0_0c), (.slice a0_1a a0_1n a0_1c)]), (.int .i64 14)])))
  (WIf (x1 != a3_0) (Q (.returned (.tuple #[(.agg #[(.slice a0_0a a0_0n a0_0c), (.slice a0_1a a0_1n a0_1c)]), (.int .i64 31)])))
   (WCall Tryz.prog Q 37 #[(.agg #[(.int .i64 a3_0), (.int .i64 a3_1), (.string a3_2), (.slice a3_3a a3_3n a3_3c)])] (WOpen (.one (.l (.i .i64))) fun (x2 : Int) =>
    WIf (x2 != 0) (Q (.returned (.tuple #[(.agg #[(.slice a0_0a a0_0n a0_0c), (.slice a0_1a a0_1n a0_1c)]), (.int .i64 x2)])))
    (WLoop (σ := (((Option Go.Addr × (Nat × Nat)) × (Int × Unit)) × Unit)) (((none, (0, 0)), (0, ())), ()) fun x3 again3 =>
     WIf (decide ((x3.1.2.1 : Int) < (a0_1n : Int))) (WIndex a0_1a a0_1n (x3.1.2.1 : Int) fun q4 =>
      WLoad (Addr.add (Addr.add q4 ((Int.toNat (x3.1.2.1 : Int)) * 6)) 0) (.l .s) fun (x5 : ByteArray) =>
      WIf (!((ByteArray.toList x5) == (ByteArray.toList a1))) (WIndex a0_1a a0_1n (x3.1.2.1 : Int) fun q6 =>
       WLoad (Addr.add q6 ((Int.toNat (x3.1.2.1 : Int)) * 6)) (.agg [.s, .s, (.i .i64), (.i .i64), .s, .sl]) fun (x7 : ByteArray) (x7_1 : ByteArray) (x7_2 : Int) (x7_3 : Int) (x7_4 : ByteArray) (x7_5 : Option Go.Addr) (x7_6 : Nat) (x7_7 : Nat) =>
       WNew [(.string x7), (.string x7_1), (.int .i64 x7_2), (.int .i64 x7_3), (.string x7_4), (.slice x7_5 x7_6 x7_7)] 198 fun z8 =>
       WPrim Tryz.prog (Builtin.append_ #[50, 50] 50 #[(.slice (x3.1.1.1 : Option Go.Addr) (x3.1.1.2.1 : Nat) (x3.1.1.2.2 : Nat)), (.slice (some ⟨z8, 0, none⟩) 1 1)]) (WOpen (.one (.l .sl)) fun (x9 : Option Go.Addr) (x9_1 : Nat) (x9_2 : Nat) =>
       again3 (((x9, (x9_1, x9_2)), ((IntKind.wrap .i64 ((x3.1.2.1 : Int) + 1)), ())), ())))
      (WIndex a0_1a a0_1n (x3.1.2.1 : Int) fun q10 =>
       WLoad (Addr.add (Addr.add q10 ((Int.toNat (x3.1.2.1 : Int)) * 6)) 1) (.l .s) fun (x11 : ByteArray) =>
       WIf (!((ByteArray.toList x11) == (ByteArray.toList a2))) (WIndex a0_1a a0_1n (x3.1.2.1 : Int) fun q12 =>
        WLoad (Addr.add q12 ((Int.toNat (x3.1.2.1 : Int)) * 6)) (.agg [.s, .s, (.i .i64), (.i .i64), .s, .sl]) fun (x13 : ByteArray) (x13_1 : ByteArray) (x13_2 : Int) (x13_3 : Int) (x13_4 : ByteArray) (x13_5 : Option Go.Addr) (x13_6 : Nat) (x13_7 : Nat) =>
        WNew [(.string x13), (.string x13_1), (.int .i64 x13_2), (.int .i64 x13_3), (.string x13_4), (.slice x13_5 x13_6 x13_7)] 198 fun z14 =>
        WPrim Tryz.prog (Builtin.append_ #[50, 50] 50 #[(.slice (x3.1.1.1 : Option Go.Addr) (x3.1.1.2.1 : Nat) (x3.1.1.2.2 : Nat)), (.slice (some ⟨z14, 0, none⟩) 1 1)]) (WOpen (.one (.l .sl)) fun (x15 : Option Go.Addr) (x15_1 : Nat) (x15_2 : Nat) =>
        again3 (((x15, (x15_1, x15_2)), ((IntKind.wrap .i64 ((x3.1.2.1 : Int) + 1)), ())), ())))
       (again3 ((((x3.1.1.1 : Option Go.Addr), ((x3.1.1.2.1 : Nat), (x3.1.1.2.2 : Nat))), ((IntKind.wrap .i64 ((x3.1.2.1 : Int) + 1)), ())), ()))))
     (WNew [(.string a1), (.string a2), (.int .i64 a3_0), (.int .i64 a3_1), (.string a3_2), (.slice a3_3a a3_3n a3_3c)] 198 fun z16 =>
      WPrim Tryz.prog (Builtin.append_ #[50, 50] 50 #[(.slice (x3.1.1.1 : Option Go.Addr) (x3.1.1.2.1 : Nat) (x3.1.1.2.2 : Nat)), (.slice (some ⟨z16, 0, none⟩) 1 1)]) (WOpen (.one (.l .sl)) fun (x17 : Option Go.Addr) (x17_1 : Nat) (x17_2 : Nat) =>
      Q (.returned (.tuple #[(.agg #[(.slice a0_0a a0_0n a0_0c), (.slice x17 x17_1 x17_2)]), (.int .i64 0)])))))))))

def h63 : Hints := ⟨[], [⟨0, [(12, .sl), (13, .i .i64)], [31, 32, 33, 34, 35, 36, 37, 38, 39, 40, 41, 42, 43, 44, 45, 46, 47, 48, 49, 50, 51, 52, 53, 54, 55, 56, 57, 58, 59, 60, 61, 62, 63], []⟩], [], [4, 7, 8]⟩
theorem tie63 (Q : Ending → W) (a0_0a : Option Addr) (a0_0n : Nat) (a0_0c : Nat) (a0_1a : Option Addr) (a0_1n : Nat) (a0_1c : Nat) (a1 : ByteArray) (a2 : ByteArray) (a3_0 : Int) (a3_1 : Int) (a3_2 : ByteArray) (a3_3a : Option Addr) (a3_3n : Nat) (a3_3c : Nat) : funW Tryz.prog tab Q h63 Tryz.f63 [.v (.agg ⟨[(.slice a0_0a a0_0n a0_0c), (.slice a0_1a a0_1n a0_1c)]⟩), .v (.string a1), .v (.string a2), .v (.agg ⟨[(.int .i64 a3_0), (.int .i64 a3_1), (.string a3_2), (.slice a3_3a a3_3n a3_3c)]⟩)] = W63 Q a0_0a a0_0n a0_0c a0_1a a0_1n a0_1c a1 a2 a3_0 a3_1 a3_2 a3_3a a3_3n a3_3c := by kernel_rfl

theorem spec63 {Q : Ending → W} {a0_0a : Option Addr} {a0_0n : Nat} {a0_0c : Nat} {a0_1a : Option Addr} {a0_1n : Nat} {a0_1c : Nat} {a1 : ByteArray} {a2 : ByteArray} {a3_0 : Int} {a3_1 : Int} {a3_2 : ByteArray} {a3_3a : Option Addr} {a3_3n : Nat} {a3_3c : Nat} {H : HP} (h : W63 Q a0_0a a0_0n a0_0c a0_1a a0_1n a0_1c a1 a2 a3_0 a3_1 a3_2 a3_3a a3_3n a3_3c H) : Go.Den.Spec Tryz.prog 63 #[(.agg ⟨[(.slice a0_0a a0_0n a0_0c), (.slice a0_1a a0_1n a0_1c)]⟩), (.string a1), (.string a2), (.agg ⟨[(.int .i64 a3_0), (.int .i64 a3_1), (.string a3_2), (.slice a3_3a a3_3n a3_3c)]⟩)] H Q :=
  specOf (fn := Tryz.f63) (hs := h63) (args := [.v (.agg ⟨[(.slice a0_0a a0_0n a0_0c), (.slice a0_1a a0_1n a0_1c)]⟩), .v (.string a1), .v (.string a2), .v (.agg ⟨[(.int .i64 a3_0), (.int .i64 a3_1), (.string a3_2), (.slice a3_3a a3_3n a3_3c)]⟩)]) (by kernel_rfl) (by kernel_rfl) (by kernel_rfl) rfl (by rw [tie63]; exact h)

/-- beadlelaw18.set -/
def W31 (Q : Ending → W) (a0 : Option Addr) (a1_0a : Option Addr) (a1_0n : Nat) (a1_0c : Nat) (a1_1a : Option Addr) (a1_1n : Nat) (a1_1c : Nat) (a2_0 : Int) (a2_1 : ByteArray) (a2_2 : ByteArray) (a2_3 : ByteArray) (a2_4 : ByteArray) (a2_5 : ByteArray) (a2_6 : Int) (a2_7 : Int) (a2_8 : ByteArray) (a2_9a : Option Addr) (a2_9n : Nat) (a2_9c : Nat) : W :=
  WCall Tryz.prog Q 50 #[(.pointer a0), (.string a2_4), (.string a2_5), (.agg #[(.int .i64 a2_6), (.int .i64 a2_7), (.string a2_8), (.slice a2_9a a2_9n a2_9c)])] (WOpen (.one (.l (.i .i64))) fun (x1 : Int) =>
  WCall Tryz.prog Q 63 #[(.agg #[(.slice a1_0a a1_0n a1_0c), (.slice a1_1a a1_1n a1_1c)]), (.string a2_4), (.string a2_5), (.agg #[(.int .i64 a2_6), (.int .i64 a2_7), (.string a2_8), (.slice a2_9a a2_9n a2_9c)])] (WOpen (.tup [(.agg [.sl, .sl]), (.l (.i .i64))]) fun (x2 : Option Go.Addr) (x2_1 : Nat) (x2_2 : Nat) (x2_3 : Option Go.Addr) (x2_4 : Nat) (x2_5 : Nat) (x2_6 : Int) =>
  Q (.returned (.agg #[(.slice x2 x2_1 x2_2), (.slice x2_3 x2_4 x2_5)]))))

def h31 : Hints := ⟨[], [], [], [4, 5, 6, 7]⟩
theorem tie31 (Q : Ending → W) (a0 : Option Addr) (a1_0a : Option Addr) (a1_0n : Nat) (a1_0c : Nat) (a1_1a : Option Addr) (a1_1n : Nat) (a1_1c : Nat) (a2_0 : Int) (a2_1 : ByteArray) (a2_2 : ByteArray) (a2_3 : ByteArray) (a2_4 : ByteArray) (a2_5 : ByteArray) (a2_6 : Int) (a2_7 : Int) (a2_8 : ByteArray) (a2_9a : Option Addr) (a2_9n : Nat) (a2_9c : Nat) : funW Tryz.prog tab Q h31 Tryz.f31 [.v (.pointer a0), .v (.agg ⟨[(.slice a1_0a a1_0n a1_0c), (.slice a1_1a a1_1n a1_1c)]⟩), .v (.agg ⟨[(.int .i64 a2_0), (.string a2_1), (.string a2_2), (.string a2_3), (.string a2_4), (.string a2_5), (.int .i64 a2_6), (.int .i64 a2_7), (.string a2_8), (.slice a2_9a a2_9n a2_9c)]⟩)] = W31 Q a0 a1_0a a1_0n a1_0c a1_1a a1_1n a1_1c a2_0 a2_1 a2_2 a2_3 a2_4 a2_5 a2_6 a2_7 a2_8 a2_9a a2_9n a2_9c := by kernel_rfl

theorem spec31 {Q : Ending → W} {a0 : Option Addr} {a1_0a : Option Addr} {a1_0n : Nat} {a1_0c : Nat} {a1_1a : Option Addr} {a1_1n : Nat} {a1_1c : Nat} {a2_0 : Int} {a2_1 : ByteArray} {a2_2 : ByteArray} {a2_3 : ByteArray} {a2_4 : ByteArray} {a2_5 : ByteArray} {a2_6 : Int} {a2_7 : Int} {a2_8 : ByteArray} {a2_9a : Option Addr} {a2_9n : Nat} {a2_9c : Nat} {H : HP} (h : W31 Q a0 a1_0a a1_0n a1_0c a1_1a a1_1n a1_1c a2_0 a2_1 a2_2 a2_3 a2_4 a2_5 a2_6 a2_7 a2_8 a2_9a a2_9n a2_9c H) : Go.Den.Spec Tryz.prog 31 #[(.pointer a0), (.agg ⟨[(.slice a1_0a a1_0n a1_0c), (.slice a1_1a a1_1n a1_1c)]⟩), (.agg ⟨[(.int .i64 a2_0), (.string a2_1), (.string a2_2), (.string a2_3), (.string a2_4), (.string a2_5), (.int .i64 a2_6), (.int .i64 a2_7), (.string a2_8), (.slice a2_9a a2_9n a2_9c)]⟩)] H Q :=
  specOf (fn := Tryz.f31) (hs := h31) (args := [.v (.pointer a0), .v (.agg ⟨[(.slice a1_0a a1_0n a1_0c), (.slice a1_1a a1_1n a1_1c)]⟩), .v (.agg ⟨[(.int .i64 a2_0), (.string a2_1), (.string a2_2), (.string a2_3), (.string a2_4), (.string a2_5), (.int .i64 a2_6), (.int .i64 a2_7), (.string a2_8), (.slice a2_9a a2_9n a2_9c)]⟩)]) (by kernel_rfl) (by kernel_rfl) (by kernel_rfl) rfl (by rw [tie31]; exact h)

/-- beadlelaw18.point -/
def W32 (Q : Ending → W) (a0_0a : Option Addr) (a0_0n : Nat) (a0_0c : Nat) (a0_1a : Option Addr) (a0_1n : Nat) (a0_1c : Nat) (a1_0 : Int) (a1_1 : ByteArray) (a1_2 : ByteArray) (a1_3 : ByteArray) (a1_4 : ByteArray) (a1_5 : ByteArray) (a1_6 : Int) (a1_7 : Int) (a1_8 : ByteArray) (a1_9a : Option Addr) (a1_9n : Nat) (a1_9c : Nat) : W :=
  Q (.returned (.agg #[(.int .i64 a1_0), (.string a1_1), (.string a1_2), (.string a1_3), (.slice a0_0a a0_0n a0_0c), (.slice a0_1a a0_1n a0_1c)]))

def h32 : Hints := ⟨[], [], [], [2, 3, 4]⟩
theorem tie32 (Q : Ending → W) (a0_0a : Option Addr) (a0_0n : Nat) (a0_0c : Nat) (a0_1a : Option Addr) (a0_1n : Nat) (a0_1c : Nat) (a1_0 : Int) (a1_1 : ByteArray) (a1_2 : ByteArray) (a1_3 : ByteArray) (a1_4 : ByteArray) (a1_5 : ByteArray) (a1_6 : Int) (a1_7 : Int) (a1_8 : ByteArray) (a1_9a : Option Addr) (a1_9n : Nat) (a1_9c : Nat) : funW Tryz.prog tab Q h32 Tryz.f32 [.v (.agg ⟨[(.slice a0_0a a0_0n a0_0c), (.slice a0_1a a0_1n a0_1c)]⟩), .v (.agg ⟨[(.int .i64 a1_0), (.string a1_1), (.string a1_2), (.string a1_3), (.string a1_4), (.string a1_5), (.int .i64 a1_6), (.int .i64 a1_7), (.string a1_8), (.slice a1_9a a1_9n a1_9c)]⟩)] = W32 Q a0_0a a0_0n a0_0c a0_1a a0_1n a0_1c a1_0 a1_1 a1_2 a1_3 a1_4 a1_5 a1_6 a1_7 a1_8 a1_9a a1_9n a1_9c := by kernel_rfl

theorem spec32 {Q : Ending → W} {a0_0a : Option Addr} {a0_0n : Nat} {a0_0c : Nat} {a0_1a : Option Addr} {a0_1n : Nat} {a0_1c : Nat} {a1_0 : Int} {a1_1 : ByteArray} {a1_2 : ByteArray} {a1_3 : ByteArray} {a1_4 : ByteArray} {a1_5 : ByteArray} {a1_6 : Int} {a1_7 : Int} {a1_8 : ByteArray} {a1_9a : Option Addr} {a1_9n : Nat} {a1_9c : Nat} {H : HP} (h : W32 Q a0_0a a0_0n a0_0c a0_1a a0_1n a0_1c a1_0 a1_1 a1_2 a1_3 a1_4 a1_5 a1_6 a1_7 a1_8 a1_9a a1_9n a1_9c H) : Go.Den.Spec Tryz.prog 32 #[(.agg ⟨[(.slice a0_0a a0_0n a0_0c), (.slice a0_1a a0_1n a0_1c)]⟩), (.agg ⟨[(.int .i64 a1_0), (.string a1_1), (.string a1_2), (.string a1_3), (.string a1_4), (.string a1_5), (.int .i64 a1_6), (.int .i64 a1_7), (.string a1_8), (.slice a1_9a a1_9n a1_9c)]⟩)] H Q :=
  specOf (fn := Tryz.f32) (hs := h32) (args := [.v (.agg ⟨[(.slice a0_0a a0_0n a0_0c), (.slice a0_1a a0_1n a0_1c)]⟩), .v (.agg ⟨[(.int .i64 a1_0), (.string a1_1), (.string a1_2), (.string a1_3), (.string a1_4), (.string a1_5), (.int .i64 a1_6), (.int .i64 a1_7), (.string a1_8), (.slice a1_9a a1_9n a1_9c)]⟩)]) (by kernel_rfl) (by kernel_rfl) (by kernel_rfl) rfl (by rw [tie32]; exact h)

/-- maps.Clone[map[string]int,string,int] -/
def W125 (Q : Ending → W) (a0 : Option Nat) : W :=
  WIf (Option.isNone a0) (Q (.returned (.map none)))
  (WCall Tryz.prog Q 199 #[(.iface 110 (.map a0))] (WOpen (.one (.l .any)) fun (x1 : Go.Value) =>
   WPrim Tryz.prog (Instr.typeAssert x1 20 110 false) (WOpen (.one (.l .m)) fun (x2 : Option Nat) =>
   Q (.returned (.map x2)))))

def h125 : Hints := ⟨[], [], [], []⟩
theorem tie125 (Q : Ending → W) (a0 : Option Nat) : funW Tryz.prog tab Q h125 Tryz.f125 [.v (.map a0)] = W125 Q a0 := by kernel_rfl

theorem spec125 {Q : Ending → W} {a0 : Option Nat} {H : HP} (h : W125 Q a0 H) : Go.Den.Spec Tryz.prog 125 #[(.map a0)] H Q :=
  specOf (fn := Tryz.f125) (hs := h125) (args := [.v (.map a0)]) (by kernel_rfl) (by kernel_rfl) (by kernel_rfl) rfl (by rw [tie125]; exact h)

/-- maps.Clone[map[store.key]api.Value,store.key,api.Value] -/
def W126 (Q : Ending → W) (a0 : Option Nat) : W :=
  WIf (Option.isNone a0) (Q (.returned (.map none)))
  (WCall Tryz.prog Q 199 #[(.iface 111 (.map a0))] (WOpen (.one (.l .any)) fun (x1 : Go.Value) =>
   WPrim Tryz.prog (Instr.typeAssert x1 20 111 false) (WOpen (.one (.l .m)) fun (x2 : Option Nat) =>
   Q (.returned (.map x2)))))

def h126 : Hints := ⟨[], [], [], []⟩
theorem tie126 (Q : Ending → W) (a0 : Option Nat) : funW Tryz.prog tab Q h126 Tryz.f126 [.v (.map a0)] = W126 Q a0 := by kernel_rfl

theorem spec126 {Q : Ending → W} {a0 : Option Nat} {H : HP} (h : W126 Q a0 H) : Go.Den.Spec Tryz.prog 126 #[(.map a0)] H Q :=
  specOf (fn := Tryz.f126) (hs := h126) (args := [.v (.map a0)]) (by kernel_rfl) (by kernel_rfl) (by kernel_rfl) rfl (by rw [tie126]; exact h)

/-- (*store.Store).Clone -/
def W62 (Q : Ending → W) (a0 : Option Addr) : W :=
  WCall Tryz.prog Q 113 #[(.pointer a0)] (WOpen (.one (.l .b)) fun (x1 : Bool) =>
  WIf (!x1) (Q (.returned (.pointer none)))
  (WNonNil a0 fun q2 =>
   WLoad (Addr.add q2 0) (.l .m) fun (x3 : Option Nat) =>
   WNonNil a0 fun q4 =>
   WLoad (Addr.add q4 1) (.l .m) fun (x5 : Option Nat) =>
   WCall Tryz.prog Q 125 #[(.map x3)] (WOpen (.one (.l .m)) fun (x6 : Option Nat) =>
   WHeld [((Addr.add q4 1), [(.map x5)])] <|
   WCall Tryz.prog Q 126 #[(.map x5)] (WOpen (.one (.l .m)) fun (x7 : Option Nat) =>
   WNew [(.map x6), (.map x7)] 113 fun z8 =>
   Q (.returned (.pointer (some ⟨z8, 0, none⟩)))))))

def h62 : Hints := ⟨[17], [], [], []⟩
theorem tie62 (Q : Ending → W) (a0 : Option Addr) : funW Tryz.prog tab Q h62 Tryz.f62 [.v (.pointer a0)] = W62 Q a0 := by kernel_rfl

theorem spec62 {Q : Ending → W} {a0 : Option Addr} {H : HP} (h : W62 Q a0 H) : Go.Den.Spec Tryz.prog 62 #[(.pointer a0)] H Q :=
  specOf (fn := Tryz.f62) (hs := h62) (args := [.v (.pointer a0)]) (by kernel_rfl) (by kernel_rfl) (by kernel_rfl) rfl (by rw [tie62]; exact h)

/-- beadlelaw19.TruthTells -/
def W8 (Q : Ending → W) (a0_0 : Int) (a0_1 : ByteArray) (a0_2 : Int) (a0_3 : Int) (a0_4 : Int) (a0_5a : Option Addr) (a0_5n : Nat) (a0_5c : Nat) (a1a : Option Addr) (a1n : Nat) (a1c : Nat) (a2a : Option Addr) (a2n : Nat) (a2c : Nat) (a3 : Int) : W :=
  WCall Tryz.prog Q 42 #[] (WOpen (.one (.l .b)) fun (x1 : Bool) =>
  WIf (!x1) (Q (.returned (.bool false)))
  (WCall Tryz.prog Q 26 #[(.slice a2a a2n a2c), (.int .i64 14)] (WOpen (.one (.l .sl)) fun (x2 : Option Go.Addr) (x2_1 : Nat) (x2_2 : Nat) =>
   WCall Tryz.prog Q 43 #[(.slice a1a a1n a1c), (.slice x2 x2_1 x2_2)] (WOpen (.tup [(.l .sl), (.l .sl)]) fun (x3 : Option Go.Addr) (x3_1 : Nat) (x3_2 : Nat) (x3_3 : Option Go.Addr) (x3_4 : Nat) (x3_5 : Nat) =>
   WCall Tryz.prog Q 44 #[(.agg #[(.int .i64 a0_0), (.string a0_1), (.int .i64 a0_2), (.int .i64 a0_3), (.int .i64 a0_4), (.slice a0_5a a0_5n a0_5c)]), (.slice x3 x3_1 x3_2), (.int .i64 a3)] (WOpen (.tup [(.agg [(.i .i64), (.i .i64), .s, .sl]), (.l (.i .i64))]) fun (x4 : Int) (x4_1 : Int) (x4_2 : ByteArray) (x4_3 : Option Go.Addr) (x4_4 : Nat) (x4_5 : Nat) (x4_6 : Int) =>
   WCall Tryz.prog Q 24 #[(.agg #[(.int .i64 a0_0), (.string a0_1), (.int .i64 a0_2), (.int .i64 a0_3), (.int .i64 a0_4), (.slice a0_5a a0_5n a0_5c)])] (WOpen (.one (.l (.i .i64))) fun (x5 : Int) =>
   WIf (x5 != 0) (WIf (x4_6 == 9) (WCall Tryz.prog Q 34 #[(.agg #[(.int .i64 x4), (.int .i64 x4_1), (.string x4_2), (.slice x4_3 x4_4 x4_5)]), (.agg #[(.int .i64 0), (.int .i64 0), (.string (ByteArray.mk #[])), (.slice none 0 0)])] (WOpen (.one (.l .b)) fun (x6 : Bool) =>
     Q (.returned (.bool x6))))
    (Q (.returned (.bool false))))
   (WIf (decide (a3 < 0)) (WIf (x4_6 == 9) (WCall Tryz.prog Q 34 #[(.agg #[(.int .i64 x4), (.int .i64 x4_1), (.string x4_2), (.slice x4_3 x4_4 x4_5)]), (.agg #[(.int .i64 0), (.int .i64 0), (.string (ByteArray.mk #[])), (.slice none 0 0)])] (WOpen (.one (.l .b)) fun (x7 : Bool) =>
      Q (.returned (.bool x7))))
     (Q (.returned (.bool false))))
    (WIf (decide (a3 ≥ (x2_1 : Int))) (WIf (x4_6 == 9) (WCall Tryz.prog Q 34 #[(.agg #[(.int .i64 x4), (.int .i64 x4_1), (.string x4_2), (.slice x4_3 x4_4 x4_5)]), (.agg #[(.int .i64 0), (.int .i64 0), (.string (ByteArray.mk #[])), (.slice none 0 0)])] (WOpen (.one (.l .b)) fun (x8 : Bool) =>
       Q (.returned (.bool x8))))
      (Q (.returned (.bool false))))
     (WReq (((0 : Int) ≤ 0) ∧ (((0 : Int) ≤ (IntKind.wrap .i64 (a3 + 1))) ∧ ((IntKind.wrap .i64 (a3 + 1)) ≤ (x3_5 : Int)))) <|
      WCall Tryz.prog Q 33 #[(.agg #[(.int .i64 a0_0), (.string a0_1), (.int .i64 a0_2), (.int .i64 a0_3), (.int .i64 a0_4), (.slice a0_5a a0_5n a0_5c)]), (.slice (if (x3_5 = 0) then x3_3 else (Option.map (fun x => (Addr.add x 0)) x3_3)) ((Int.toNat (IntKind.wrap .i64 (a3 + 1))) - 0) (x3_5 - 0))] (WOpen (.tup [(.agg [(.i .i64), (.i .i64), .s, .sl]), (.l (.i .i64))]) fun (x9 : Int) (x9_1 : Int) (x9_2 : ByteArray) (x9_3 : Option Go.Addr) (x9_4 : Nat) (x9_5 : Nat) (x9_6 : Int) =>
      WIf (x4_6 == x9_6) (WCall Tryz.prog Q 34 #[(.agg #[(.int .i64 x4), (.int .i64 x4_1), (.string x4_2), (.slice x4_3 x4_4 x4_5)]), (.agg #[(.int .i64 x9), (.int .i64 x9_1), (.string x9_2), (.slice x9_3 x9_4 x9_5)])] (WOpen (.one (.l .b)) fun (x10 : Bool) =>
       Q (.returned (.bool x10))))
      (Q (.returned (.bool false)))))))))))))

def h8 : Hints := ⟨[], [], [], [4, 11, 13]⟩
theorem tie8 (Q : Ending → W) (a0_0 : Int) (a0_1 : ByteArray) (a0_2 : Int) (a0_3 : Int) (a0_4 : Int) (a0_5a : Option Addr) (a0_5n : Nat) (a0_5c : Nat) (a1a : Option Addr) (a1n : Nat) (a1c : Nat) (a2a : Option Addr) (a2n : Nat) (a2c : Nat) (a3 : Int) : funW Tryz.prog tab Q h8 Tryz.f8 [.v (.agg ⟨[(.int .i64 a0_0), (.string a0_1), (.int .i64 a0_2), (.int .i64 a0_3), (.int .i64 a0_4), (.slice a0_5a a0_5n a0_5c)]⟩), .v (.slice a1a a1n a1c), .v (.slice a2a a2n a2c), .v (.int .i64 a3)] = W8 Q a0_0 a0_1 a0_2 a0_3 a0_4 a0_5a a0_5n a0_5c a1a a1n a1c a2a a2n a2c a3 := by kernel_rfl

theorem spec8 {Q : Ending → W} {a0_0 : Int} {a0_1 : ByteArray} {a0_2 : Int} {a0_3 : Int} {a0_4 : Int} {a0_5a : Option Addr} {a0_5n : Nat} {a0_5c : Nat} {a1a : Option Addr} {a1n : Nat} {a1c : Nat} {a2a : Option Addr} {a2n : Nat} {a2c : Nat} {a3 : Int} {H : HP} (h : W8 Q a0_0 a0_1 a0_2 a0_3 a0_4 a0_5a a0_5n a0_5c a1a a1n a1c a2a a2n a2c a3 H) : Go.Den.Spec Tryz.prog 8 #[(.agg ⟨[(.int .i64 a0_0), (.string a0_1), (.int .i64 a0_2), (.int .i64 a0_3), (.int .i64 a0_4), (.slice a0_5a a0_5n a0_5c)]⟩), (.slice a1a a1n a1c), (.slice a2a a2n a2c), (.int .i64 a3)] H Q :=
  specOf (fn := Tryz.f8) (hs := h8) (args := [.v (.agg ⟨[(.int .i64 a0_0), (.string a0_1), (.int .i64 a0_2), (.int .i64 a0_3), (.int .i64 a0_4), (.slice a0_5a a0_5n a0_5c)]⟩), .v (.slice a1a a1n a1c), .v (.slice a2a a2n a2c), .v (.int .i64 a3)]) (by kernel_rfl) (by kernel_rfl) (by kernel_rfl) rfl (by rw [tie8]; exact h)

/-- beadlelaw19.TruthLast -/
def W9 (Q : Ending → W) (a0_0 : Int) (a0_1 : ByteArray) (a0_2 : Int) (a0_3 : Int) (a0_4 : Int) (a0_5a : Option Addr) (a0_5n : Nat) (a0_5c : Nat) (a1a : Option Addr) (a1n : Nat) (a1c : Nat) (a2a : Option Addr) (a2n : Nat) (a2c : Nat) : W :=
  WCall Tryz.prog Q 42 #[] (WOpen (.one (.l .b)) fun (x1 : Bool) =>
  WIf (!x1) (Q (.returned (.bool false)))
  (WCall Tryz.prog Q 26 #[(.slice a2a a2n a2c), (.int .i64 12)] (WOpen (.one (.l .sl)) fun (x2 : Option Go.Addr) (x2_1 : Nat) (x2_2 : Nat) =>
   WCall Tryz.prog Q 43 #[(.slice a1a a1n a1c), (.slice x2 x2_1 x2_2)] (WOpen (.tup [(.l .sl), (.l .sl)]) fun (x3 : Option Go.Addr) (x3_1 : Nat) (x3_2 : Nat) (x3_3 : Option Go.Addr) (x3_4 : Nat) (x3_5 : Nat) =>
   WLoop (σ := ((Int × Unit) × Unit)) ((0, ()), ()) fun x4 again4 =>
   WIf (decide ((x4.1.1 : Int) < (x2_1 : Int))) (WCall Tryz.prog Q 44 #[(.agg #[(.int .i64 a0_0), (.string a0_1), (.int .i64 a0_2), (.int .i64 a0_3), (.int .i64 a0_4), (.slice a0_5a a0_5n a0_5c)]), (.slice x3 x3_1 x3_2), (.int .i64 (x4.1.1 : Int))] (WOpen (.tup [(.agg [(.i .i64), (.i .i64), .s, .sl]), (.l (.i .i64))]) fun (x5 : Int) (x5_1 : Int) (x5_2 : ByteArray) (x5_3 : Option Go.Addr) (x5_4 : Nat) (x5_5 : Nat) (x5_6 : Int) =>
    WReq (((0 : Int) ≤ 0) ∧ (((0 : Int) ≤ (IntKind.wrap .i64 ((x4.1.1 : Int) + 1))) ∧ ((IntKind.wrap .i64 ((x4.1.1 : Int) + 1)) ≤ (x3_2 : Int)))) <|
    WCall Tryz.prog Q 45 #[(.agg #[(.int .i64 a0_0), (.string a0_1), (.int .i64 a0_2), (.int .i64 a0_3), (.int .i64 a0_4), (.slice a0_5a a0_5n a0_5c)]), (.slice (if (x3_2 = 0) then x3 else (Option.map (fun x => (Addr.add x 0)) x3)) ((Int.toNat (IntKind.wrap .i64 ((x4.1.1 : Int) + 1))) - 0) (x3_2 - 0))] (WOpen (.tup [(.agg [(.i .i64), (.i .i64), .s, .sl]), (.l (.i .i64))]) fun (x6 : Int) (x6_1 : Int) (x6_2 : ByteArray) (x6_3 : Option Go.Addr) (x6_4 : Nat) (x6_5 : Nat) (x6_6 : Int) =>
    WIf (x5_6 != x6_6) (Q (.returned (.bool false)))
    (WCall Tryz.prog Q 34 #[(.agg #[(.int .i64 x5), (.int .i64 x5_1), (.string x5_2), (.slice x5_3 x5_4 x5_5)]), (.agg #[(.int .i64 x6), (.int .i64 x6_1), (.string x6_2), (.slice x6_3 x6_4 x6_5)])] (WOpen (.one (.l .b)) fun (x7 : Bool) =>
     WIf (!x7) (Q (.returned (.bool false)))
     (again4 (((IntKind.wrap .i64 ((x4.1.1 : Int) + 1)), ()), ())))))))
   (WCall Tryz.prog Q 45 #[(.agg #[(.int .i64 a0_0), (.string a0_1), (.int .i64 a0_2), (.int .i64 a0_3), (.int .i64 a0_4), (.slice a0_5a a0_5n a0_5c)]), (.slice none 0 0)] (WOpen (.tup [(.agg [(.i .i64), (.i .i64), .s, .sl]), (.l (.i .i64))]) fun (x8 : Int) (x8_1 : Int) (x8_2 : ByteArray) (x8_3 : Option Go.Addr) (x8_4 : Nat) (x8_5 : Nat) (x8_6 : Int) =>
    Q (.returned (.bool (x8_6 == 9)))))))))

def h9 : Hints := ⟨[], [⟨0, [(9, .i .i64)], [6, 10, 11, 12, 13, 26, 27, 28, 29, 30, 31, 32, 33, 34, 35, 36, 37, 38, 39, 40, 41, 42, 43, 44, 45, 46, 47, 48, 49, 50, 51, 52, 53, 54, 55, 56], []⟩], [], [3, 10, 12, 14]⟩
theorem tie9 (Q : Ending → W) (a0_0 : Int) (a0_1 : ByteArray) (a0_2 : Int) (a0_3 : Int) (a0_4 : Int) (a0_5a : Option Addr) (a0_5n : Nat) (a0_5c : Nat) (a1a : Option Addr) (a1n : Nat) (a1c : Nat) (a2a : Option Addr) (a2n : Nat) (a2c : Nat) : funW Tryz.prog tab Q h9 Tryz.f9 [.v (.agg ⟨[(.int .i64 a0_0), (.string a0_1), (.int .i64 a0_2), (.int .i64 a0_3), (.int .i64 a0_4), (.slice a0_5a a0_5n a0_5c)]⟩), .v (.slice a1a a1n a1c), .v (.slice a2a a2n a2c)] = W9 Q a0_0 a0_1 a0_2 a0_3 a0_4 a0_5a a0_5n a0_5c a1a a1n a1c a2a a2n a2c := by kernel_rfl

theorem spec9 {Q : Ending → W} {a0_0 : Int} {a0_1 : ByteArray} {a0_2 : Int} {a0_3 : Int} {a0_4 : Int} {a0_5a : Option Addr} {a0_5n : Nat} {a0_5c : Nat} {a1a : Option Addr} {a1n : Nat} {a1c : Nat} {a2a : Option Addr} {a2n : Nat} {a2c : Nat} {H : HP} (h : W9 Q a0_0 a0_1 a0_2 a0_3 a0_4 a0_5a a0_5n a0_5c a1a a1n a1c a2a a2n a2c H) : Go.Den.Spec Tryz.prog 9 #[(.agg ⟨[(.int .i64 a0_0), (.string a0_1), (.int .i64 a0_2), (.int .i64 a0_3), (.int .i64 a0_4), (.slice a0_5a a0_5n a0_5c)]⟩), (.slice a1a a1n a1c), (.slice a2a a2n a2c)] H Q :=
  specOf (fn := Tryz.f9) (hs := h9) (args := [.v (.agg ⟨[(.int .i64 a0_0), (.string a0_1), (.int .i64 a0_2), (.int .i64 a0_3), (.int .i64 a0_4), (.slice a0_5a a0_5n a0_5c)]⟩), .v (.slice a1a a1n a1c), .v (.slice a2a a2n a2c)]) (by kernel_rfl) (by kernel_rfl) (by kernel_rfl) rfl (by rw [tie9]; exact h)

/-- beadlelaw19.TruthTimes -/
def W10 (Q : Ending → W) (a0a : Option Addr) (a0n : Nat) (a0c : Nat) : W :=
  WCall Tryz.prog Q 42 #[] (WOpen (.one (.l .b)) fun (x1 : Bool) =>
  WIf (!x1) (Q (.returned (.bool false)))
  (WCall Tryz.prog Q 26 #[(.slice a0a a0n a0c), (.int .i64 60)] (WOpen (.one (.l .sl)) fun (x2 : Option Go.Addr) (x2_1 : Nat) (x2_2 : Nat) =>
   WCall Tryz.prog Q 43 #[(.slice none 0 0), (.slice x2 x2_1 x2_2)] (WOpen (.tup [(.l .sl), (.l .sl)]) fun (x3 : Option Go.Addr) (x3_1 : Nat) (x3_2 : Nat) (x3_3 : Option Go.Addr) (x3_4 : Nat) (x3_5 : Nat) =>
   WCall Tryz.prog Q 46 #[(.slice x3 x3_1 x3_2)] (WOpen (.one (.l .sl)) fun (x4 : Option Go.Addr) (x4_1 : Nat) (x4_2 : Nat) =>
   WCall Tryz.prog Q 47 #[(.slice x3_3 x3_4 x3_5)] (WOpen (.one (.l .sl)) fun (x5 : Option Go.Addr) (x5_1 : Nat) (x5_2 : Nat) =>
   WIf ((x4_1 : Int) != (x2_1 : Int)) (Q (.returned (.bool false)))
   (WLoop (σ := ((Int × Unit) × Unit)) ((0, ()), ()) fun x6 again6 =>
    WIf (decide ((x6.1.1 : Int) < (x2_1 : Int))) (WIndex x4 x4_1 (x6.1.1 : Int) fun q7 =>
     WLoad (Addr.add q7 ((Int.toNat (x6.1.1 : Int)) * 1)) (.l (.i .i64)) fun (x8 : Int) =>
     WIndex x5 x5_1 (x6.1.1 : Int) fun q9 =>
     WLoad (Addr.add q9 ((Int.toNat (x6.1.1 : Int)) * 1)) (.l (.i .i64)) fun (x10 : Int) =>
     WIf (x8 != x10) (Q (.returned (.bool false)))
     (WIndex x4 x4_1 (x6.1.1 : Int) fun q11 =>
      WLoad (Addr.add q11 ((Int.toNat (x6.1.1 : Int)) * 1)) (.l (.i .i64)) fun (x12 : Int) =>
      WIf (decide (x12 < 0)) (Q (.returned (.bool false)))
      (WIf (decide ((x6.1.1 : Int) > 0)) (WIndex x4 x4_1 (x6.1.1 : Int) fun q13 =>
        WLoad (Addr.add q13 ((Int.toNat (x6.1.1 : Int)) * 1)) (.l (.i .i64)) fun (x14 : Int) =>
        WIndex x4 x4_1 (IntKind.wrap .i64 ((x6.1.1 : Int) - 1)) fun q15 =>
        WLoad (Addr.add q15 ((Int.toNat (IntKind.wrap .i64 ((x6.1.1 : Int) - 1))) * 1)) (.l (.i .i64)) fun (x16 : Int) =>
        WIf (decide (x14 < x16)) (Q (.returned (.bool false)))
        (again6 (((IntKind.wrap .i64 ((x6.1.1 : Int) + 1)), ()), ())))
       (again6 (((IntKind.wrap .i64 ((x6.1.1 : Int) + 1)), ()), ())))))
    (Q (.returned (.bool true))))))))))

def h10 : Hints := ⟨[], [⟨0, [(7, .i .i64)], [2, 26, 27, 28, 29, 30, 31, 32, 33, 34, 35, 36, 37, 38, 39, 40, 41, 42, 43, 44, 45, 46, 47, 48, 49, 50, 51, 52, 53, 54, 55, 56, 57, 58, 59, 60, 61, 62, 63], []⟩], [], []⟩
theorem tie10 (Q : Ending → W) (a0a : Option Addr) (a0n : Nat) (a0c : Nat) : funW Tryz.prog tab Q h10 Tryz.f10 [.v (.slice a0a a0n a0c)] = W10 Q a0a a0n a0c := by kernel_rfl

theorem spec10 {Q : Ending → W} {a0a : Option Addr} {a0n : Nat} {a0c : Nat} {H : HP} (h : W10 Q a0a a0n a0c H) : Go.Den.Spec Tryz.prog 10 #[(.slice a0a a0n a0c)] H Q :=
  specOf (fn := Tryz.f10) (hs := h10) (args := [.v (.slice a0a a0n a0c)]) (by kernel_rfl) (by kernel_rfl) (by kernel_rfl) rfl (by rw [tie10]; exact h)

/-- slices.IndexFunc[[]api.Decl,api.Decl] -/
def W195 (Q : Ending → W) (a0a : Option Addr) (a0n : Nat) (a0c : Nat) (a1g : FuncId) (a1c : List Value) : W :=
  WLoop (σ := ((Int × Unit) × Unit)) ((0, ()), ()) fun x1 again1 =>
  WIf (decide ((x1.1.1 : Int) < (a0n : Int))) (WIndex a0a a0n (x1.1.1 : Int) fun q2 =>
   WLoad (Addr.add q2 ((Int.toNat (x1.1.1 : Int)) * 2)) (.agg [.s, (.i .i64)]) fun (x3 : ByteArray) (x3_1 : Int) =>
   WCall Tryz.prog Q a1g ⟨[(.agg #[(.string x3), (.int .i64 x3_1)])] ++ a1c⟩ (WOpen (.one (.l .b)) fun (x4 : Bool) =>
   WIf x4 (Q (.returned (.int .i64 (x1.1.1 : Int))))
   (again1 (((IntKind.wrap .i64 ((x1.1.1 : Int) + 1)), ()), ()))))
  (Q (.returned (.int .i64 (-1))))

def h195 : Hints := ⟨[], [⟨0, [(8, .i .i64)], [4, 5, 9, 10, 11, 12, 13, 14, 15, 16, 17, 18], []⟩], [], []⟩
theorem tie195 (Q : Ending → W) (a0a : Option Addr) (a0n : Nat) (a0c : Nat) (a1g : FuncId) (a1c : List Value) : funW Tryz.prog tab Q h195 Tryz.f195 [.v (.slice a0a a0n a0c), .v (.func (.func a1g) #[] ⟨a1c⟩)] = W195 Q a0a a0n a0c a1g a1c := by kernel_rfl

theorem spec195 {Q : Ending → W} {a0a : Option Addr} {a0n : Nat} {a0c : Nat} {a1g : FuncId} {a1c : List Value} {H : HP} (h : W195 Q a0a a0n a0c a1g a1c H) : Go.Den.Spec Tryz.prog 195 #[(.slice a0a a0n a0c), (.func (.func a1g) #[] ⟨a1c⟩)] H Q :=
  specOf (fn := Tryz.f195) (hs := h195) (args := [.v (.slice a0a a0n a0c), .v (.func (.func a1g) #[] ⟨a1c⟩)]) (by kernel_rfl) (by kernel_rfl) (by kernel_rfl) rfl (by rw [tie195]; exact h)

/-- types.leaf -/
def W185 (Q : Ending → W) (a0a : Option Addr) (a0n : Nat) (a0c : Nat) (a1_0 : Int) (a1_1 : ByteArray) (a1_2 : Int) (a1_3 : Int) (a1_4 : Int) (a1_5a : Option Addr) (a1_5n : Nat) (a1_5c : Nat) : W :=
  WIf (a1_0 == 5) (WCall Tryz.prog Q 243 #[(.slice a0a a0n a0c), (.string a1_1)] (WOpen (.tup [(.l (.i .i64)), (.l (.i .i64))]) fun (x1 : Int) (x1_1 : Int) =>
   Q (.returned (.tuple #[(.int .i64 x1), (.int .i64 x1_1)]))))
  (WIf (a1_0 == 6) (WCall Tryz.prog Q 243 #[(.slice a0a a0n a0c), (.string a1_1)] (WOpen (.tup [(.l (.i .i64)), (.l (.i .i64))]) fun (x2 : Int) (x2_1 : Int) =>
    Q (.returned (.tuple #[(.int .i64 x2), (.int .i64 x2_1)]))))
   (WIf (a1_0 == 7) (Q (.returned (.tuple #[(.int .i64 1), (.int .i64 0)])))
    (WIf (a1_0 == 13) (Q (.returned (.tuple #[(.int .i64 1), (.int .i64 0)])))
     (WIf (a1_0 == 21) (Q (.returned (.tuple #[(.int .i64 2), (.int .i64 0)])))
      (Q (.returned (.tuple #[(.int .i64 a1_0), (.int .i64 0)])))))))

def h185 : Hints := ⟨[], [], [], [3]⟩
theorem tie185 (Q : Ending → W) (a0a : Option Addr) (a0n : Nat) (a0c : Nat) (a1_0 : Int) (a1_1 : ByteArray) (a1_2 : Int) (a1_3 : Int) (a1_4 : Int) (a1_5a : Option Addr) (a1_5n : Nat) (a1_5c : Nat) : funW Tryz.prog tab Q h185 Tryz.f185 [.v (.slice a0a a0n a0c), .v (.agg ⟨[(.int .i64 a1_0), (.string a1_1), (.int .i64 a1_2), (.int .i64 a1_3), (.int .i64 a1_4), (.slice a1_5a a1_5n a1_5c)]⟩)] = W185 Q a0a a0n a0c a1_0 a1_1 a1_2 a1_3 a1_4 a1_5a a1_5n a1_5c := by kernel_rfl

theorem spec185 {Q : Ending → W} {a0a : Option Addr} {a0n : Nat} {a0c : Nat} {a1_0 : Int} {a1_1 : ByteArray} {a1_2 : Int} {a1_3 : Int} {a1_4 : Int} {a1_5a : Option Addr} {a1_5n : Nat} {a1_5c : Nat} {H : HP} (h : W185 Q a0a a0n a0c a1_0 a1_1 a1_2 a1_3 a1_4 a1_5a a1_5n a1_5c H) : Go.Den.Spec Tryz.prog 185 #[(.slice a0a a0n a0c), (.agg ⟨[(.int .i64 a1_0), (.string a1_1), (.int .i64 a1_2), (.int .i64 a1_3), (.int .i64 a1_4), (.slice a1_5a a1_5n a1_5c)]⟩)] H Q :=
  specOf (fn := Tryz.f185) (hs := h185) (args := [.v (.slice a0a a0n a0c), .v (.agg ⟨[(.int .i64 a1_0), (.string a1_1), (.int .i64 a1_2), (.int .i64 a1_3), (.int .i64 a1_4), (.slice a1_5a a1_5n a1_5c)]⟩)]) (by kernel_rfl) (by kernel_rfl) (by kernel_rfl) rfl (by rw [tie185]; exact h)

/-- types.kind -/
def W109 (Q : Ending → W) (a0a : Option Addr) (a0n : Nat) (a0c : Nat) (a1_0 : Int) (a1_1 : ByteArray) (a1_2 : Int) (a1_3 : Int) (a1_4 : Int) (a1_5a : Option Addr) (a1_5n : Nat) (a1_5c : Nat) : W :=
  WCall Tryz.prog Q 100 #[(.int .i64 a1_0)] (WOpen (.one (.l (.i .i64))) fun (x1 : Int) =>
  WIf (decide (x1 < 1)) (WCall Tryz.prog Q 185 #[(.slice a0a a0n a0c), (.agg #[(.int .i64 a1_0), (.string a1_1), (.int .i64 a1_2), (.int .i64 a1_3), (.int .i64 a1_4), (.slice a1_5a a1_5n a1_5c)])] (WOpen (.tup [(.l (.i .i64)), (.l (.i .i64))]) fun (x2 : Int) (x2_1 : Int) =>
   Q (.returned (.tuple #[(.int .i64 x2), (.int .i64 x2_1)]))))
  (WLoop (σ := (((Option Go.Addr × (Nat × Nat)) × (Int × Unit)) × Unit)) (((none, (0, 0)), (0, ())), ()) fun x3 again3 =>
   WIf (decide ((x3.1.2.1 : Int) < (a1_5n : Int))) (WIndex a1_5a a1_5n (x3.1.2.1 : Int) fun q4 =>
    WLoad (Addr.add q4 ((Int.toNat (x3.1.2.1 : Int)) * 6)) (.agg [(.i .i64), .s, (.i .i64), (.i .i64), (.i .i64), .sl]) fun (x5 : Int) (x5_1 : ByteArray) (x5_2 : Int) (x5_3 : Int) (x5_4 : Int) (x5_5 : Option Go.Addr) (x5_6 : Nat) (x5_7 : Nat) =>
    WCall Tryz.prog Q 109 #[(.slice a0a a0n a0c), (.agg #[(.int .i64 x5), (.string x5_1), (.int .i64 x5_2), (.int .i64 x5_3), (.int .i64 x5_4), (.slice x5_5 x5_6 x5_7)])] (WOpen (.tup [(.l (.i .i64)), (.l (.i .i64))]) fun (x6 : Int) (x6_1 : Int) =>
    WIf (x6_1 != 0) (Q (.returned (.tuple #[(.int .i64 0), (.int .i64 x6_1)])))
    (WNew [(.int .i64 x6)] 3 fun z7 =>
     WPrim Tryz.prog (Builtin.append_ #[234, 234] 234 #[(.slice (x3.1.1.1 : Option Go.Addr) (x3.1.1.2.1 : Nat) (x3.1.1.2.2 : Nat)), (.slice (some ⟨z7, 0, none⟩) 1 1)]) (WOpen (.one (.l .sl)) fun (x8 : Option Go.Addr) (x8_1 : Nat) (x8_2 : Nat) =>
     again3 (((x8, (x8_1, x8_2)), ((IntKind.wrap .i64 ((x3.1.2.1 : Int) + 1)), ())), ())))))
   (WIf ((((x3.1.1.2.1 : Nat) : Nat) : Int) == 2) (WIndex (x3.1.1.1 : Option Go.Addr) (x3.1.1.2.1 : Nat) 0 fun q9 =>
     WLoad (Addr.add q9 0) (.l (.i .i64)) fun (x10 : Int) =>
     WIndex (x3.1.1.1 : Option Go.Addr) (x3.1.1.2.1 : Nat) 1 fun q11 =>
     WLoad (Addr.add q11 1) (.l (.i .i64)) fun (x12 : Int) =>
     WCall Tryz.prog Q 186 #[(.int .i64 a1_0), (.int .i64 x10), (.int .i64 x12)] (WOpen (.one (.l (.i .i64))) fun (x13 : Int) =>
     WIf (x13 == 0) (Q (.returned (.tuple #[(.int .i64 0), (.int .i64 31)])))
     (Q (.returned (.tuple #[(.int .i64 x13), (.int .i64 0)])))))
    (WIndex (x3.1.1.1 : Option Go.Addr) (x3.1.1.2.1 : Nat) 0 fun q14 =>
     WLoad (Addr.add q14 0) (.l (.i .i64)) fun (x15 : Int) =>
     WCall Tryz.prog Q 187 #[(.int .i64 a1_0), (.int .i64 x15)] (WOpen (.one (.l (.i .i64))) fun (x16 : Int) =>
     WIf (x16 == 0) (Q (.returned (.tuple #[(.int .i64 0), (.int .i64 31)])))
     (Q (.returned (.tuple #[(.int .i64 x16), (.int .i64 0)]))))))))

def h109 : Hints := ⟨[], [⟨0, [(6, .sl), (24, .i .i64)], [4, 5, 8, 9, 10, 25, 26, 27, 28, 29, 30, 31, 32, 33, 34, 35, 36, 37, 38, 39, 40, 41], []⟩], [], [3, 8]⟩
theorem tie109 (Q : Ending → W) (a0a : Option Addr) (a0n : Nat) (a0c : Nat) (a1_0 : Int) (a1_1 : ByteArray) (a1_2 : Int) (a1_3 : Int) (a1_4 : Int) (a1_5a : Option Addr) (a1_5n : Nat) (a1_5c : Nat) : funW Tryz.prog tab Q h109 Tryz.f109 [.v (.slice a0a a0n a0c), .v (.agg ⟨[(.int .i64 a1_0), (.string a1_1), (.int .i64 a1_2), (.int .i64 a1_3), (.int .i64 a1_4), (.slice a1_5a a1_5n a1_5c)]⟩)] = W109 Q a0a a0n a0c a1_0 a1_1 a1_2 a1_3 a1_4 a1_5a a1_5n a1_5c := by kernel_rfl

theorem spec109 {Q : Ending → W} {a0a : Option Addr} {a0n : Nat} {a0c : Nat} {a1_0 : Int} {a1_1 : ByteArray} {a1_2 : Int} {a1_3 : Int} {a1_4 : Int} {a1_5a : Option Addr} {a1_5n : Nat} {a1_5c : Nat} {H : HP} (h : W109 Q a0a a0n a0c a1_0 a1_1 a1_2 a1_3 a1_4 a1_5a a1_5n a1_5c H) : Go.Den.Spec Tryz.prog 109 #[(.slice a0a a0n a0c), (.agg ⟨[(.int .i64 a1_0), (.string a1_1), (.int .i64 a1_2), (.int .i64 a1_3), (.int .i64 a1_4), (.slice a1_5a a1_5n a1_5c)]⟩)] H Q :=
  specOf (fn := Tryz.f109) (hs := h109) (args := [.v (.slice a0a a0n a0c), .v (.agg ⟨[(.int .i64 a1_0), (.string a1_1), (.int .i64 a1_2), (.int .i64 a1_3), (.int .i64 a1_4), (.slice a1_5a a1_5n a1_5c)]⟩)]) (by kernel_rfl) (by kernel_rfl) (by kernel_rfl) rfl (by rw [tie109]; exact h)

/-- types.Of -/
def W48 (Q : Ending → W) (a0a : Option Addr) (a0n : Nat) (a0c : Nat) (a1_0 : Int) (a1_1 : ByteArray) (a1_2 : Int) (a1_3 : Int) (a1_4 : Int) (a1_5a : Option Addr) (a1_5n : Nat) (a1_5c : Nat) : W :=
  WCall Tryz.prog Q 79 #[(.agg #[(.int .i64 a1_0), (.string a1_1), (.int .i64 a1_2), (.int .i64 a1_3), (.int .i64 a1_4), (.slice a1_5a a1_5n a1_5c)])] (WOpen (.one (.l (.i .i64))) fun (x1 : Int) =>
  WIf (x1 != 0) (Q (.returned (.tuple #[(.int .i64 0), (.int .i64 x1)])))
  (WCall Tryz.prog Q 109 #[(.slice a0a a0n a0c), (.agg #[(.int .i64 a1_0), (.string a1_1), (.int .i64 a1_2), (.int .i64 a1_3), (.int .i64 a1_4), (.slice a1_5a a1_5n a1_5c)])] (WOpen (.tup [(.l (.i .i64)), (.l (.i .i64))]) fun (x2 : Int) (x2_1 : Int) =>
   Q (.returned (.tuple #[(.int .i64 x2), (.int .i64 x2_1)])))))

def h48 : Hints := ⟨[], [], [], [3]⟩
theorem tie48 (Q : Ending → W) (a0a : Option Addr) (a0n : Nat) (a0c : Nat) (a1_0 : Int) (a1_1 : ByteArray) (a1_2 : Int) (a1_3 : Int) (a1_4 : Int) (a1_5a : Option Addr) (a1_5n : Nat) (a1_5c : Nat) : funW Tryz.prog tab Q h48 Tryz.f48 [.v (.slice a0a a0n a0c), .v (.agg ⟨[(.int .i64 a1_0), (.string a1_1), (.int .i64 a1_2), (.int .i64 a1_3), (.int .i64 a1_4), (.slice a1_5a a1_5n a1_5c)]⟩)] = W48 Q a0a a0n a0c a1_0 a1_1 a1_2 a1_3 a1_4 a1_5a a1_5n a1_5c := by kernel_rfl

theorem spec48 {Q : Ending → W} {a0a : Option Addr} {a0n : Nat} {a0c : Nat} {a1_0 : Int} {a1_1 : ByteArray} {a1_2 : Int} {a1_3 : Int} {a1_4 : Int} {a1_5a : Option Addr} {a1_5n : Nat} {a1_5c : Nat} {H : HP} (h : W48 Q a0a a0n a0c a1_0 a1_1 a1_2 a1_3 a1_4 a1_5a a1_5n a1_5c H) : Go.Den.Spec Tryz.prog 48 #[(.slice a0a a0n a0c), (.agg ⟨[(.int .i64 a1_0), (.string a1_1), (.int .i64 a1_2), (.int .i64 a1_3), (.int .i64 a1_4), (.slice a1_5a a1_5n a1_5c)]⟩)] H Q :=
  specOf (fn := Tryz.f48) (hs := h48) (args := [.v (.slice a0a a0n a0c), .v (.agg ⟨[(.int .i64 a1_0), (.string a1_1), (.int .i64 a1_2), (.int .i64 a1_3), (.int .i64 a1_4), (.slice a1_5a a1_5n a1_5c)]⟩)]) (by kernel_rfl) (by kernel_rfl) (by kernel_rfl) rfl (by rw [tie48]; exact h)

/-- ast.Past -/
def W194 (Q : Ending → W) (a0_0 : Int) (a0_1 : ByteArray) (a0_2 : Int) (a0_3 : Int) (a0_4 : Int) (a0_5a : Option Addr) (a0_5n : Nat) (a0_5c : Nat) : W :=
  WIf (a0_0 == 22) (Q (.returned (.bool true)))
  (WIf (a0_0 == 23) (Q (.returned (.bool true)))
   (WIf (a0_0 == 24) (Q (.returned (.bool true)))
    (WIf (a0_0 == 25) (Q (.returned (.bool true)))
     (WIf (a0_0 == 13) (Q (.returned (.bool true)))
      (WCall Tryz.prog Q 212 #[(.agg #[(.int .i64 a0_0), (.string a0_1), (.int .i64 a0_2), (.int .i64 a0_3), (.int .i64 a0_4), (.slice a0_5a a0_5n a0_5c)])] (WOpen (.one (.l .sl)) fun (x1 : Option Go.Addr) (x1_1 : Nat) (x1_2 : Nat) =>
       WCall Tryz.prog Q 132 #[(.slice x1 x1_1 x1_2), (.func (.func 194) #[] #[])] (WOpen (.one (.l .b)) fun (x2 : Bool) =>
       Q (.returned (.bool x2)))))))))

def h194 : Hints := ⟨[], [], [], [1]⟩
theorem tie194 (Q : Ending → W) (a0_0 : Int) (a0_1 : ByteArray) (a0_2 : Int) (a0_3 : Int) (a0_4 : Int) (a0_5a : Option Addr) (a0_5n : Nat) (a0_5c : Nat) : funW Tryz.prog tab Q h194 Tryz.f194 [.v (.agg ⟨[(.int .i64 a0_0), (.string a0_1), (.int .i64 a0_2), (.int .i64 a0_3), (.int .i64 a0_4), (.slice a0_5a a0_5n a0_5c)]⟩)] = W194 Q a0_0 a0_1 a0_2 a0_3 a0_4 a0_5a a0_5n a0_5c := by kernel_rfl

theorem spec194 {Q : Ending → W} {a0_0 : Int} {a0_1 : ByteArray} {a0_2 : Int} {a0_3 : Int} {a0_4 : Int} {a0_5a : Option Addr} {a0_5n : Nat} {a0_5c : Nat} {H : HP} (h : W194 Q a0_0 a0_1 a0_2 a0_3 a0_4 a0_5a a0_5n a0_5c H) : Go.Den.Spec Tryz.prog 194 #[(.agg ⟨[(.int .i64 a0_0), (.string a0_1), (.int .i64 a0_2), (.int .i64 a0_3), (.int .i64 a0_4), (.slice a0_5a a0_5n a0_5c)]⟩)] H Q :=
  specOf (fn := Tryz.f194) (hs := h194) (args := [.v (.agg ⟨[(.int .i64 a0_0), (.string a0_1), (.int .i64 a0_2), (.int .i64 a0_3), (.int .i64 a0_4), (.slice a0_5a a0_5n a0_5c)]⟩)]) (by kernel_rfl) (by kernel_rfl) (by kernel_rfl) rfl (by rw [tie194]; exact h)

/-- update.one -/
def W117 (Q : Ending → W) (a0a : Option Addr) (a0n : Nat) (a0c : Nat) (a1_0 : Int) (a1_1 : ByteArray) (a1_2 : Int) (a1_3 : ByteArray) (a1_4 : Int) (a1_5 : Int) (a1_6 : Int) (a1_7a : Option Addr) (a1_7n : Nat) (a1_7c : Nat) : W :=
  WNew [(.int .i64 a1_0), (.string a1_1), (.int .i64 a1_2), (.string a1_3), (.int .i64 a1_4), (.int .i64 a1_5), (.int .i64 a1_6), (.slice a1_7a a1_7n a1_7c)] 101 fun z1 =>
  WLoad (Addr.add ⟨z1, 0, none⟩ 0) (.l (.i .i64)) fun (x2 : Int) =>
  WIf (x2 != 5) (WLoad (Addr.add ⟨z1, 0, none⟩ 0) (.l (.i .i64)) fun (x3 : Int) =>
   WIf (x3 != 6) (Q (.returned (.int .i64 12)))
   (WLoad (Addr.add ⟨z1, 0, none⟩ 2) (.agg [(.i .i64), .s, (.i .i64), (.i .i64), (.i .i64), .sl]) fun (x4 : Int) (x4_1 : ByteArray) (x4_2 : Int) (x4_3 : Int) (x4_4 : Int) (x4_5 : Option Go.Addr) (x4_6 : Nat) (x4_7 : Nat) =>
    WCall Tryz.prog Q 194 #[(.agg #[(.int .i64 x4), (.string x4_1), (.int .i64 x4_2), (.int .i64 x4_3), (.int .i64 x4_4), (.slice x4_5 x4_6 x4_7)])] (WOpen (.one (.l .b)) fun (x5 : Bool) =>
    WIf x5 (Q (.returned (.int .i64 12)))
    (WCall Tryz.prog Q 195 #[(.slice a0a a0n a0c), (.func (.func 196) #[] #[(.pointer (some ⟨z1, 0, none⟩))])] (WOpen (.one (.l (.i .i64))) fun (x6 : Int) =>
     WIf (decide (x6 < 0)) (Q (.returned (.int .i64 14)))
     (WLoad (Addr.add ⟨z1, 0, none⟩ 2) (.agg [(.i .i64), .s, (.i .i64), (.i .i64), (.i .i64), .sl]) fun (x7 : Int) (x7_1 : ByteArray) (x7_2 : Int) (x7_3 : Int) (x7_4 : Int) (x7_5 : Option Go.Addr) (x7_6 : Nat) (x7_7 : Nat) =>
      WCall Tryz.prog Q 48 #[(.slice a0a a0n a0c), (.agg #[(.int .i64 x7), (.string x7_1), (.int .i64 x7_2), (.int .i64 x7_3), (.int .i64 x7_4), (.slice x7_5 x7_6 x7_7)])] (WOpen (.tup [(.l (.i .i64)), (.l (.i .i64))]) fun (x8 : Int) (x8_1 : Int) =>
      WIf (x8_1 == 0) (WIndex a0a a0n x6 fun q9 =>
       WLoad (Addr.add (Addr.add q9 ((Int.toNat x6) * 2)) 1) (.l (.i .i64)) fun (x10 : Int) =>
       WIf (x8 != x10) (Q (.returned (.int .i64 31)))
       (Q (.returned (.int .i64 x8_1))))
      (Q (.returned (.int .i64 x8_1))))))))))
  (WLoad (Addr.add ⟨z1, 0, none⟩ 2) (.agg [(.i .i64), .s, (.i .i64), (.i .i64), (.i .i64), .sl]) fun (x11 : Int) (x11_1 : ByteArray) (x11_2 : Int) (x11_3 : Int) (x11_4 : Int) (x11_5 : Option Go.Addr) (x11_6 : Nat) (x11_7 : Nat) =>
   WCall Tryz.prog Q 194 #[(.agg #[(.int .i64 x11), (.string x11_1), (.int .i64 x11_2), (.int .i64 x11_3), (.int .i64 x11_4), (.slice x11_5 x11_6 x11_7)])] (WOpen (.one (.l .b)) fun (x12 : Bool) =>
   WIf x12 (Q (.returned (.int .i64 12)))
   (WCall Tryz.prog Q 195 #[(.slice a0a a0n a0c), (.func (.func 196) #[] #[(.pointer (some ⟨z1, 0, none⟩))])] (WOpen (.one (.l (.i .i64))) fun (x13 : Int) =>
    WIf (decide (x13 < 0)) (Q (.returned (.int .i64 14)))
    (WLoad (Addr.add ⟨z1, 0, none⟩ 2) (.agg [(.i .i64), .s, (.i .i64), (.i .i64), (.i .i64), .sl]) fun (x14 : Int) (x14_1 : ByteArray) (x14_2 : Int) (x14_3 : Int) (x14_4 : Int) (x14_5 : Option Go.Addr) (x14_6 : Nat) (x14_7 : Nat) =>
     WCall Tryz.prog Q 48 #[(.slice a0a a0n a0c), (.agg #[(.int .i64 x14), (.string x14_1), (.int .i64 x14_2), (.int .i64 x14_3), (.int .i64 x14_4), (.slice x14_5 x14_6 x14_7)])] (WOpen (.tup [(.l (.i .i64)), (.l (.i .i64))]) fun (x15 : Int) (x15_1 : Int) =>
     WIf (x15_1 == 0) (WIndex a0a a0n x13 fun q16 =>
      WLoad (Addr.add (Addr.add q16 ((Int.toNat x13) * 2)) 1) (.l (.i .i64)) fun (x17 : Int) =>
      WIf (x15 != x17) (Q (.returned (.int .i64 31)))
      (Q (.returned (.int .i64 x15_1))))
     (Q (.returned (.int .i64 x15_1)))))))))

def h117 : Hints := ⟨[3], [], [], []⟩
theorem tie117 (Q : Ending → W) (a0a : Option Addr) (a0n : Nat) (a0c : Nat) (a1_0 : Int) (a1_1 : ByteArray) (a1_2 : Int) (a1_3 : ByteArray) (a1_4 : Int) (a1_5 : Int) (a1_6 : Int) (a1_7a : Option Addr) (a1_7n : Nat) (a1_7c : Nat) : funW Tryz.prog tab Q h117 Tryz.f117 [.v (.slice a0a a0n a0c), .v (.agg ⟨[(.int .i64 a1_0), (.string a1_1), (.int .i64 a1_2), (.string a1_3), (.int .i64 a1_4), (.int .i64 a1_5), (.int .i64 a1_6), (.slice a1_7a a1_7n a1_7c)]⟩)] = W117 Q a0a a0n a0c a1_0 a1_1 a1_2 a1_3 a1_4 a1_5 a1_6 a1_7a a1_7n a1_7c := by kernel_rfl

theorem spec117 {Q : Ending → W} {a0a : Option Addr} {a0n : Nat} {a0c : Nat} {a1_0 : Int} {a1_1 : ByteArray} {a1_2 : Int} {a1_3 : ByteArray} {a1_4 : Int} {a1_5 : Int} {a1_6 : Int} {a1_7a : Option Addr} {a1_7n : Nat} {a1_7c : Nat} {H : HP} (h : W117 Q a0a a0n a0c a1_0 a1_1 a1_2 a1_3 a1_4 a1_5 a1_6 a1_7a a1_7n a1_7c H) : Go.Den.Spec Tryz.prog 117 #[(.slice a0a a0n a0c), (.agg ⟨[(.int .i64 a1_0), (.string a1_1), (.int .i64 a1_2), (.string a1_3), (.int .i64 a1_4), (.int .i64 a1_5), (.int .i64 a1_6), (.slice a1_7a a1_7n a1_7c)]⟩)] H Q :=
  specOf (fn := Tryz.f117) (hs := h117) (args := [.v (.slice a0a a0n a0c), .v (.agg ⟨[(.int .i64 a1_0), (.string a1_1), (.int .i64 a1_2), (.string a1_3), (.int .i64 a1_4), (.int .i64 a1_5), (.int .i64 a1_6), (.slice a1_7a a1_7n a1_7c)]⟩)]) (by kernel_rfl) (by kernel_rfl) (by kernel_rfl) rfl (by rw [tie117]; exact h)

/-- update.Check -/
def W52 (Q : Ending → W) (a0a : Option Addr) (a0n : Nat) (a0c : Nat) (a1a : Option Addr) (a1n : Nat) (a1c : Nat) : W :=
  WIf (decide ((a1n : Int) > 8)) (Q (.returned (.int .i64 3)))
  (WLoop (σ := ((Int × Unit) × Unit)) ((0, ()), ()) fun x1 again1 =>
   WIf (decide ((x1.1.1 : Int) < (a1n : Int))) (WIndex a1a a1n (x1.1.1 : Int) fun q2 =>
    WLoad (Addr.add q2 ((Int.toNat (x1.1.1 : Int)) * 8)) (.agg [(.i .i64), .s, (.i .i64), .s, (.i .i64), (.i .i64), (.i .i64), .sl]) fun (x3 : Int) (x3_1 : ByteArray) (x3_2 : Int) (x3_3 : ByteArray) (x3_4 : Int) (x3_5 : Int) (x3_6 : Int) (x3_7 : Option Go.Addr) (x3_8 : Nat) (x3_9 : Nat) =>
    WCall Tryz.prog Q 117 #[(.slice a0a a0n a0c), (.agg #[(.int .i64 x3), (.string x3_1), (.int .i64 x3_2), (.string x3_3), (.int .i64 x3_4), (.int .i64 x3_5), (.int .i64 x3_6), (.slice x3_7 x3_8 x3_9)])] (WOpen (.one (.l (.i .i64))) fun (x4 : Int) =>
    WIf (x4 != 0) (Q (.returned (.int .i64 x4)))
    (again1 (((IntKind.wrap .i64 ((x1.1.1 : Int) + 1)), ()), ()))))
   (Q (.returned (.int .i64 0))))

def h52 : Hints := ⟨[], [⟨0, [(13, .i .i64)], [4, 6, 7, 14, 15, 16, 17, 18, 19, 20, 21, 22, 23], []⟩], [], [6]⟩
theorem tie52 (Q : Ending → W) (a0a : Option Addr) (a0n : Nat) (a0c : Nat) (a1a : Option Addr) (a1n : Nat) (a1c : Nat) : funW Tryz.prog tab Q h52 Tryz.f52 [.v (.slice a0a a0n a0c), .v (.slice a1a a1n a1c)] = W52 Q a0a a0n a0c a1a a1n a1c := by kernel_rfl

theorem spec52 {Q : Ending → W} {a0a : Option Addr} {a0n : Nat} {a0c : Nat} {a1a : Option Addr} {a1n : Nat} {a1c : Nat} {H : HP} (h : W52 Q a0a a0n a0c a1a a1n a1c H) : Go.Den.Spec Tryz.prog 52 #[(.slice a0a a0n a0c), (.slice a1a a1n a1c)] H Q :=
  specOf (fn := Tryz.f52) (hs := h52) (args := [.v (.slice a0a a0n a0c), .v (.slice a1a a1n a1c)]) (by kernel_rfl) (by kernel_rfl) (by kernel_rfl) rfl (by rw [tie52]; exact h)

/-- update.entity -/
def W120 (Q : Ending → W) (a0 : Int) (a1_0 : Int) (a1_1 : ByteArray) (a1_2 : ByteArray) (a1_3 : ByteArray) : W :=
  WIf (a0 == 5) (Q (.returned (.string a1_2)))
  (Q (.returned (.string a1_3)))

def h120 : Hints := ⟨[], [], [], [3]⟩
theorem tie120 (Q : Ending → W) (a0 : Int) (a1_0 : Int) (a1_1 : ByteArray) (a1_2 : ByteArray) (a1_3 : ByteArray) : funW Tryz.prog tab Q h120 Tryz.f120 [.v (.int .i64 a0), .v (.agg ⟨[(.int .i64 a1_0), (.string a1_1), (.string a1_2), (.string a1_3)]⟩)] = W120 Q a0 a1_0 a1_1 a1_2 a1_3 := by kernel_rfl

theorem spec120 {Q : Ending → W} {a0 : Int} {a1_0 : Int} {a1_1 : ByteArray} {a1_2 : ByteArray} {a1_3 : ByteArray} {H : HP} (h : W120 Q a0 a1_0 a1_1 a1_2 a1_3 H) : Go.Den.Spec Tryz.prog 120 #[(.int .i64 a0), (.agg ⟨[(.int .i64 a1_0), (.string a1_1), (.string a1_2), (.string a1_3)]⟩)] H Q :=
  specOf (fn := Tryz.f120) (hs := h120) (args := [.v (.int .i64 a0), .v (.agg ⟨[(.int .i64 a1_0), (.string a1_1), (.string a1_2), (.string a1_3)]⟩)]) (by kernel_rfl) (by kernel_rfl) (by kernel_rfl) rfl (by rw [tie120]; exact h)

/-- slices.Index[[][2]string,[2]string] -/
def W198 (Q : Ending → W) (a0a : Option Addr) (a0n : Nat) (a0c : Nat) (a1_0 : ByteArray) (a1_1 : ByteArray) : W :=
  WLoop (σ := ((Int × Unit) × Unit)) ((0, ()), ()) fun x1 again1 =>
  WIf (decide ((x1.1.1 : Int) < (a0n : Int))) (WIndex a0a a0n (x1.1.1 : Int) fun q2 =>
   WLoad (Addr.add q2 ((Int.toNat (x1.1.1 : Int)) * 2)) (.agg [.s, .s]) fun (x3 : ByteArray) (x3_1 : ByteArray) =>
   WPrim Tryz.prog (binP false .eql 102 (.agg #[(.string a1_0), (.string a1_1)]) (.agg #[(.string x3), (.string x3_1)])) (WOpen (.one (.l .b)) fun (x4 : Bool) =>
   WIf x4 (Q (.returned (.int .i64 (x1.1.1 : Int))))
   (again1 (((IntKind.wrap .i64 ((x1.1.1 : Int) + 1)), ()), ()))))
  (Q (.returned (.int .i64 (-1))))

def h198 : Hints := ⟨[], [⟨0, [(8, .i .i64)], [4, 5, 9, 10, 11, 12, 13, 14, 15, 16, 17, 18], []⟩], [], [3]⟩
theorem tie198 (Q : Ending → W) (a0a : Option Addr) (a0n : Nat) (a0c : Nat) (a1_0 : ByteArray) (a1_1 : ByteArray) : funW Tryz.prog tab Q h198 Tryz.f198 [.v (.slice a0a a0n a0c), .v (.agg ⟨[(.string a1_0), (.string a1_1)]⟩)] = W198 Q a0a a0n a0c a1_0 a1_1 := by kernel_rfl

theorem spec198 {Q : Ending → W} {a0a : Option Addr} {a0n : Nat} {a0c : Nat} {a1_0 : ByteArray} {a1_1 : ByteArray} {H : HP} (h : W198 Q a0a a0n a0c a1_0 a1_1 H) : Go.Den.Spec Tryz.prog 198 #[(.slice a0a a0n a0c), (.agg ⟨[(.string a1_0), (.string a1_1)]⟩)] H Q :=
  specOf (fn := Tryz.f198) (hs := h198) (args := [.v (.slice a0a a0n a0c), .v (.agg ⟨[(.string a1_0), (.string a1_1)]⟩)]) (by kernel_rfl) (by kernel_rfl) (by kernel_rfl) rfl (by rw [tie198]; exact h)

/-- slices.Contains[[][2]string,[2]string] -/
def W121 (Q : Ending → W) (a0a : Option Addr) (a0n : Nat) (a0c : Nat) (a1_0 : ByteArray) (a1_1 : ByteArray) : W :=
  WCall Tryz.prog Q 198 #[(.slice a0a a0n a0c), (.agg #[(.string a1_0), (.string a1_1)])] (WOpen (.one (.l (.i .i64))) fun (x1 : Int) =>
  Q (.returned (.bool (decide (x1 ≥ 0)))))

def h121 : Hints := ⟨[], [], [], [3]⟩
theorem tie121 (Q : Ending → W) (a0a : Option Addr) (a0n : Nat) (a0c : Nat) (a1_0 : ByteArray) (a1_1 : ByteArray) : funW Tryz.prog tab Q h121 Tryz.f121 [.v (.slice a0a a0n a0c), .v (.agg ⟨[(.string a1_0), (.string a1_1)]⟩)] = W121 Q a0a a0n a0c a1_0 a1_1 := by kernel_rfl

theorem spec121 {Q : Ending → W} {a0a : Option Addr} {a0n : Nat} {a0c : Nat} {a1_0 : ByteArray} {a1_1 : ByteArray} {H : HP} (h : W121 Q a0a a0n a0c a1_0 a1_1 H) : Go.Den.Spec Tryz.prog 121 #[(.slice a0a a0n a0c), (.agg ⟨[(.string a1_0), (.string a1_1)]⟩)] H Q :=
  specOf (fn := Tryz.f121) (hs := h121) (args := [.v (.slice a0a a0n a0c), .v (.agg ⟨[(.string a1_0), (.string a1_1)]⟩)]) (by kernel_rfl) (by kernel_rfl) (by kernel_rfl) rfl (by rw [tie121]; exact h)

/-- update.Touched -/
def W55 (Q : Ending → W) (a0a : Option Addr) (a0n : Nat) (a0c : Nat) (a1_0 : Int) (a1_1 : ByteArray) (a1_2 : ByteArray) (a1_3 : ByteArray) : W :=
  WLoop (σ := (((Option Go.Addr × (Nat × Nat)) × (Int × Unit)) × Unit)) (((none, (0, 0)), (0, ())), ()) fun x1 again1 =>
  WIf (decide ((x1.1.2.1 : Int) < (a0n : Int))) (WIndex a0a a0n (x1.1.2.1 : Int) fun q2 =>
   WLoad (Addr.add q2 ((Int.toNat (x1.1.2.1 : Int)) * 8)) (.agg [(.i .i64), .s, (.i .i64), .s, (.i .i64), (.i .i64), (.i .i64), .sl]) fun (x3 : Int) (x3_1 : ByteArray) (x3_2 : Int) (x3_3 : ByteArray) (x3_4 : Int) (x3_5 : Int) (x3_6 : Int) (x3_7 : Option Go.Addr) (x3_8 : Nat) (x3_9 : Nat) =>
   WCall Tryz.prog Q 120 #[(.int .i64 x3), (.agg #[(.int .i64 a1_0), (.string a1_1), (.string a1_2), (.string a1_3)])] (WOpen (.one (.l .s)) fun (x4 : ByteArray) =>
   WCall Tryz.prog Q 121 #[(.slice (x1.1.1.1 : Option Go.Addr) (x1.1.1.2.1 : Nat) (x1.1.1.2.2 : Nat)), (.agg #[(.string x4), (.string x3_1)])] (WOpen (.one (.l .b)) fun (x5 : Bool) =>
   WIf (!x5) (WNew [(.string x4), (.string x3_1)] 102 fun z6 =>
    WPrim Tryz.prog (Builtin.append_ #[98, 98] 98 #[(.slice (x1.1.1.1 : Option Go.Addr) (x1.1.1.2.1 : Nat) (x1.1.1.2.2 : Nat)), (.slice (some ⟨z6, 0, none⟩) 1 1)]) (WOpen (.one (.l .sl)) fun (x7 : Option Go.Addr) (x7_1 : Nat) (x7_2 : Nat) =>
    again1 (((x7, (x7_1, x7_2)), ((IntKind.wrap .i64 ((x1.1.2.1 : Int) + 1)), ())), ())))
   (again1 ((((x1.1.1.1 : Option Go.Addr), ((x1.1.1.2.1 : Nat), (x1.1.1.2.2 : Nat))), ((IntKind.wrap .i64 ((x1.1.2.1 : Int) + 1)), ())), ())))))
  (Q (.returned (.slice (x1.1.1.1 : Option Go.Addr) (x1.1.1.2.1 : Nat) (x1.1.1.2.2 : Nat))))

def h55 : Hints := ⟨[], [⟨0, [(5, .sl), (11, .i .i64)], [7, 8, 12, 13, 14, 15, 16, 17, 18, 19, 20, 21, 22, 23, 24, 25, 26, 27, 28, 29, 30], []⟩], [], [3, 7, 8]⟩
theorem tie55 (Q : Ending → W) (a0a : Option Addr) (a0n : Nat) (a0c : Nat) (a1_0 : Int) (a1_1 : ByteArray) (a1_2 : ByteArray) (a1_3 : ByteArray) : funW Tryz.prog tab Q h55 Tryz.f55 [.v (.slice a0a a0n a0c), .v (.agg ⟨[(.int .i64 a1_0), (.string a1_1), (.string a1_2), (.string a1_3)]⟩)] = W55 Q a0a a0n a0c a1_0 a1_1 a1_2 a1_3 := by kernel_rfl

theorem spec55 {Q : Ending → W} {a0a : Option Addr} {a0n : Nat} {a0c : Nat} {a1_0 : Int} {a1_1 : ByteArray} {a1_2 : ByteArray} {a1_3 : ByteArray} {H : HP} (h : W55 Q a0a a0n a0c a1_0 a1_1 a1_2 a1_3 H) : Go.Den.Spec Tryz.prog 55 #[(.slice a0a a0n a0c), (.agg ⟨[(.int .i64 a1_0), (.string a1_1), (.string a1_2), (.string a1_3)]⟩)] H Q :=
  specOf (fn := Tryz.f55) (hs := h55) (args := [.v (.slice a0a a0n a0c), .v (.agg ⟨[(.int .i64 a1_0), (.string a1_1), (.string a1_2), (.string a1_3)]⟩)]) (by kernel_rfl) (by kernel_rfl) (by kernel_rfl) rfl (by rw [tie55]; exact h)

/-- update.Apply -/
def W58 (Q : Ending → W) (a0 : Option Addr) (a1a : Option Addr) (a1n : Nat) (a1c : Nat) (a2_0 : Int) (a2_1 : ByteArray) (a2_2 : ByteArray) (a2_3 : ByteArray) : W :=
  WCall Tryz.prog Q 62 #[(.pointer a0)] (WOpen (.one (.l .p)) fun (x1 : Option Go.Addr) =>
  WIf (Option.isNone x1) (Q (.returned (.tuple #[(.pointer none), (.int .i64 9)])))
  (WLoop (σ := ((Int × Unit) × Unit)) ((0, ()), ()) fun x2 again2 =>
   WIf (decide ((x2.1.1 : Int) < (a1n : Int))) (WIndex a1a a1n (x2.1.1 : Int) fun q3 =>
    WLoad (Addr.add q3 ((Int.toNat (x2.1.1 : Int)) * 8)) (.agg [(.i .i64), .s, (.i .i64), .s, (.i .i64), (.i .i64), (.i .i64), .sl]) fun (x4 : Int) (x4_1 : ByteArray) (x4_2 : Int) (x4_3 : ByteArray) (x4_4 : Int) (x4_5 : Int) (x4_6 : Int) (x4_7 : Option Go.Addr) (x4_8 : Nat) (x4_9 : Nat) =>
    WCall Tryz.prog Q 22 #[(.agg #[(.int .i64 x4_2), (.string x4_3), (.int .i64 x4_4), (.int .i64 x4_5), (.int .i64 x4_6), (.slice x4_7 x4_8 x4_9)])] (WOpen (.one (.l .p)) fun (x5 : Option Go.Addr) =>
    WCall Tryz.prog Q 27 #[(.pointer x5), (.pointer x1), (.agg #[(.int .i64 a2_0), (.string a2_1), (.string a2_2), (.string a2_3)])] (WOpen (.tup [(.agg [(.i .i64), (.i .i64), .s, .sl]), (.l (.i .i64))]) fun (x6 : Int) (x6_1 : Int) (x6_2 : ByteArray) (x6_3 : Option Go.Addr) (x6_4 : Nat) (x6_5 : Nat) (x6_6 : Int) =>
    WIf (x6_6 != 0) (Q (.returned (.tuple #[(.pointer none), (.int .i64 x6_6)])))
    (WCall Tryz.prog Q 120 #[(.int .i64 x4), (.agg #[(.int .i64 a2_0), (.string a2_1), (.string a2_2), (.string a2_3)])] (WOpen (.one (.l .s)) fun (x7 : ByteArray) =>
     WCall Tryz.prog Q 50 #[(.pointer x1), (.string x7), (.string x4_1), (.agg #[(.int .i64 x6), (.int .i64 x6_1), (.string x6_2), (.slice x6_3 x6_4 x6_5)])] (WOpen (.one (.l (.i .i64))) fun (x8 : Int) =>
     WIf (x8 != 0) (Q (.returned (.tuple #[(.pointer none), (.int .i64 x8)])))
     (again2 (((IntKind.wrap .i64 ((x2.1.1 : Int) + 1)), ()), ()))))))))
   (Q (.returned (.tuple #[(.pointer x1), (.int .i64 0)])))))

def h58 : Hints := ⟨[], [⟨0, [(20, .i .i64)], [6, 7, 10, 11, 12, 13, 21, 22, 23, 24, 25, 26, 27, 28, 29, 30, 31, 32, 33, 34, 35, 36, 37, 38, 39, 40, 41, 42, 43, 44, 45, 46, 47, 48], []⟩], [], [5, 10, 11]⟩
theorem tie58 (Q : Ending → W) (a0 : Option Addr) (a1a : Option Addr) (a1n : Nat) (a1c : Nat) (a2_0 : Int) (a2_1 : ByteArray) (a2_2 : ByteArray) (a2_3 : ByteArray) : funW Tryz.prog tab Q h58 Tryz.f58 [.v (.pointer a0), .v (.slice a1a a1n a1c), .v (.agg ⟨[(.int .i64 a2_0), (.string a2_1), (.string a2_2), (.string a2_3)]⟩)] = W58 Q a0 a1a a1n a1c a2_0 a2_1 a2_2 a2_3 := by kernel_rfl

theorem spec58 {Q : Ending → W} {a0 : Option Addr} {a1a : Option Addr} {a1n : Nat} {a1c : Nat} {a2_0 : Int} {a2_1 : ByteArray} {a2_2 : ByteArray} {a2_3 : ByteArray} {H : HP} (h : W58 Q a0 a1a a1n a1c a2_0 a2_1 a2_2 a2_3 H) : Go.Den.Spec Tryz.prog 58 #[(.pointer a0), (.slice a1a a1n a1c), (.agg ⟨[(.int .i64 a2_0), (.string a2_1), (.string a2_2), (.string a2_3)]⟩)] H Q :=
  specOf (fn := Tryz.f58) (hs := h58) (args := [.v (.pointer a0), .v (.slice a1a a1n a1c), .v (.agg ⟨[(.int .i64 a2_0), (.string a2_1), (.string a2_2), (.string a2_3)]⟩)]) (by kernel_rfl) (by kernel_rfl) (by kernel_rfl) rfl (by rw [tie58]; exact h)

/-- beadlelaw20.one -/
def W116 (Q : Ending → W)  : W :=
  WNew [(.int .i64 5), (.string (ByteArray.mk #[110])), (.int .i64 1), (.string (ByteArray.mk #[])), (.int .i64 4), (.int .i64 0), (.int .i64 0), (.slice none 0 0)] 101 fun z1 =>
  Q (.returned (.slice (some ⟨z1, 0, none⟩) 1 1))

def h116 : Hints := ⟨[], [], [], []⟩
theorem tie116 (Q : Ending → W)  : funW Tryz.prog tab Q h116 Tryz.f116 [] = W116 Q  := by kernel_rfl

theorem spec116 {Q : Ending → W}  {H : HP} (h : W116 Q  H) : Go.Den.Spec Tryz.prog 116 #[] H Q :=
  specOf (fn := Tryz.f116) (hs := h116) (args := []) (by kernel_rfl) (by kernel_rfl) (by kernel_rfl) rfl (by rw [tie116]; exact h)

/-- beadlelaw20.alive -/
def W51 (Q : Ending → W)  : W :=
  WNew [(.string (ByteArray.mk #[110])), (.int .i64 1)] 144 fun z1 =>
  WCall Tryz.prog Q 23 #[(.slice (some ⟨z1, 0, none⟩) 1 1)] (WOpen (.one (.l .p)) fun (x2 : Option Go.Addr) =>
  WCall Tryz.prog Q 116 #[] (WOpen (.one (.l .sl)) fun (x3 : Option Go.Addr) (x3_1 : Nat) (x3_2 : Nat) =>
  WCall Tryz.prog Q 58 #[(.pointer x2), (.slice x3 x3_1 x3_2), (.agg #[(.int .i64 0), (.string (ByteArray.mk #[])), (.string (ByteArray.mk #[120])), (.string (ByteArray.mk #[]))])] (WOpen (.tup [(.l .p), (.l (.i .i64))]) fun (x4 : Option Go.Addr) (x4_1 : Int) =>
  WCall Tryz.prog Q 59 #[(.pointer x4), (.string (ByteArray.mk #[120])), (.string (ByteArray.mk #[110]))] (WOpen (.tup [(.agg [(.i .i64), (.i .i64), .s, .sl]), (.l .b)]) fun (x5 : Int) (x5_1 : Int) (x5_2 : ByteArray) (x5_3 : Option Go.Addr) (x5_4 : Nat) (x5_5 : Nat) (x5_6 : Bool) =>
  WIf (x4_1 == 0) (WIf x5_6 (WIf (x5_1 == 4) (WCall Tryz.prog Q 116 #[] (WOpen (.one (.l .sl)) fun (x6 : Option Go.Addr) (x6_1 : Nat) (x6_2 : Nat) =>
     WCall Tryz.prog Q 52 #[(.slice (some ⟨z1, 0, none⟩) 1 1), (.slice x6 x6_1 x6_2)] (WOpen (.one (.l (.i .i64))) fun (x7 : Int) =>
     WIf (x7 == 0) (WCall Tryz.prog Q 116 #[] (WOpen (.one (.l .sl)) fun (x8 : Option Go.Addr) (x8_1 : Nat) (x8_2 : Nat) =>
      WCall Tryz.prog Q 52 #[(.slice none 0 0), (.slice x8 x8_1 x8_2)] (WOpen (.one (.l (.i .i64))) fun (x9 : Int) =>
      WIf (x9 == 14) (WCall Tryz.prog Q 116 #[] (WOpen (.one (.l .sl)) fun (x10 : Option Go.Addr) (x10_1 : Nat) (x10_2 : Nat) =>
       WCall Tryz.prog Q 55 #[(.slice x10 x10_1 x10_2), (.agg #[(.int .i64 0), (.string (ByteArray.mk #[])), (.string (ByteArray.mk #[])), (.string (ByteArray.mk #[]))])] (WOpen (.one (.l .sl)) fun (x11 : Option Go.Addr) (x11_1 : Nat) (x11_2 : Nat) =>
       Q (.returned (.bool ((x11_1 : Int) == 1))))))
      (Q (.returned (.bool false))))))
     (Q (.returned (.bool false))))))
    (Q (.returned (.bool false))))
   (Q (.returned (.bool false))))
  (Q (.returned (.bool false)))))))

def h51 : Hints := ⟨[], [], [], [4]⟩
theorem tie51 (Q : Ending → W)  : funW Tryz.prog tab Q h51 Tryz.f51 [] = W51 Q  := by kernel_rfl

theorem spec51 {Q : Ending → W}  {H : HP} (h : W51 Q  H) : Go.Den.Spec Tryz.prog 51 #[] H Q :=
  specOf (fn := Tryz.f51) (hs := h51) (args := []) (by kernel_rfl) (by kernel_rfl) (by kernel_rfl) rfl (by rw [tie51]; exact h)

/-- beadlelaw20.UpdateChecks -/
def W13 (Q : Ending → W) (a0a : Option Addr) (a0n : Nat) (a0c : Nat) (a1a : Option Addr) (a1n : Nat) (a1c : Nat) : W :=
  WCall Tryz.prog Q 51 #[] (WOpen (.one (.l .b)) fun (x1 : Bool) =>
  WIf x1 (WCall Tryz.prog Q 52 #[(.slice a0a a0n a0c), (.slice a1a a1n a1c)] (WOpen (.one (.l (.i .i64))) fun (x2 : Int) =>
   WCall Tryz.prog Q 53 #[(.slice a0a a0n a0c), (.slice a1a a1n a1c)] (WOpen (.one (.l (.i .i64))) fun (x3 : Int) =>
   Q (.returned (.bool (x2 == x3))))))
  (Q (.returned (.bool false))))

def h13 : Hints := ⟨[], [], [], []⟩
theorem tie13 (Q : Ending → W) (a0a : Option Addr) (a0n : Nat) (a0c : Nat) (a1a : Option Addr) (a1n : Nat) (a1c : Nat) : funW Tryz.prog tab Q h13 Tryz.f13 [.v (.slice a0a a0n a0c), .v (.slice a1a a1n a1c)] = W13 Q a0a a0n a0c a1a a1n a1c := by kernel_rfl

theorem spec13 {Q : Ending → W} {a0a : Option Addr} {a0n : Nat} {a0c : Nat} {a1a : Option Addr} {a1n : Nat} {a1c : Nat} {H : HP} (h : W13 Q a0a a0n a0c a1a a1n a1c H) : Go.Den.Spec Tryz.prog 13 #[(.slice a0a a0n a0c), (.slice a1a a1n a1c)] H Q :=
  specOf (fn := Tryz.f13) (hs := h13) (args := [.v (.slice a0a a0n a0c), .v (.slice a1a a1n a1c)]) (by kernel_rfl) (by kernel_rfl) (by kernel_rfl) rfl (by rw [tie13]; exact h)

/-- beadlelaw20.moment -/
def W56 (Q : Ending → W) (a0_0 : Int) (a0_1 : ByteArray) (a0_2 : ByteArray) (a0_3 : ByteArray) (a0_4 : ByteArray) (a0_5 : ByteArray) (a0_6 : Int) (a0_7 : Int) (a0_8 : ByteArray) (a0_9a : Option Addr) (a0_9n : Nat) (a0_9c : Nat) : W :=
  Q (.returned (.agg #[(.int .i64 a0_0), (.string a0_1), (.string a0_2), (.string a0_3)]))

def h56 : Hints := ⟨[], [], [], [1, 2]⟩
theorem tie56 (Q : Ending → W) (a0_0 : Int) (a0_1 : ByteArray) (a0_2 : ByteArray) (a0_3 : ByteArray) (a0_4 : ByteArray) (a0_5 : ByteArray) (a0_6 : Int) (a0_7 : Int) (a0_8 : ByteArray) (a0_9a : Option Addr) (a0_9n : Nat) (a0_9c : Nat) : funW Tryz.prog tab Q h56 Tryz.f56 [.v (.agg ⟨[(.int .i64 a0_0), (.string a0_1), (.string a0_2), (.string a0_3), (.string a0_4), (.string a0_5), (.int .i64 a0_6), (.int .i64 a0_7), (.string a0_8), (.slice a0_9a a0_9n a0_9c)]⟩)] = W56 Q a0_0 a0_1 a0_2 a0_3 a0_4 a0_5 a0_6 a0_7 a0_8 a0_9a a0_9n a0_9c := by kernel_rfl

theorem spec56 {Q : Ending → W} {a0_0 : Int} {a0_1 : ByteArray} {a0_2 : ByteArray} {a0_3 : ByteArray} {a0_4 : ByteArray} {a0_5 : ByteArray} {a0_6 : Int} {a0_7 : Int} {a0_8 : ByteArray} {a0_9a : Option Addr} {a0_9n : Nat} {a0_9c : Nat} {H : HP} (h : W56 Q a0_0 a0_1 a0_2 a0_3 a0_4 a0_5 a0_6 a0_7 a0_8 a0_9a a0_9n a0_9c H) : Go.Den.Spec Tryz.prog 56 #[(.agg ⟨[(.int .i64 a0_0), (.string a0_1), (.string a0_2), (.string a0_3), (.string a0_4), (.string a0_5), (.int .i64 a0_6), (.int .i64 a0_7), (.string a0_8), (.slice a0_9a a0_9n a0_9c)]⟩)] H Q :=
  specOf (fn := Tryz.f56) (hs := h56) (args := [.v (.agg ⟨[(.int .i64 a0_0), (.string a0_1), (.string a0_2), (.string a0_3), (.string a0_4), (.string a0_5), (.int .i64 a0_6), (.int .i64 a0_7), (.string a0_8), (.slice a0_9a a0_9n a0_9c)]⟩)]) (by kernel_rfl) (by kernel_rfl) (by kernel_rfl) rfl (by rw [tie56]; exact h)

/-- beadlelaw20.UpdateNobody -/
def W15 (Q : Ending → W) (a0a : Option Addr) (a0n : Nat) (a0c : Nat) (a1_0 : Int) (a1_1 : ByteArray) (a1_2 : ByteArray) (a1_3 : ByteArray) (a1_4 : ByteArray) (a1_5 : ByteArray) (a1_6 : Int) (a1_7 : Int) (a1_8 : ByteArray) (a1_9a : Option Addr) (a1_9n : Nat) (a1_9c : Nat) : W :=
  WCall Tryz.prog Q 51 #[] (WOpen (.one (.l .b)) fun (x1 : Bool) =>
  WIf (!x1) (Q (.returned (.bool false)))
  (WCall Tryz.prog Q 56 #[(.agg #[(.int .i64 a1_0), (.string a1_1), (.string a1_2), (.string a1_3), (.string a1_4), (.string a1_5), (.int .i64 a1_6), (.int .i64 a1_7), (.string a1_8), (.slice a1_9a a1_9n a1_9c)])] (WOpen (.one (.agg [(.i .i64), .s, .s, .s])) fun (x2 : Int) (x2_1 : ByteArray) (x2_2 : ByteArray) (x2_3 : ByteArray) =>
   WCall Tryz.prog Q 58 #[(.pointer none), (.slice a0a a0n a0c), (.agg #[(.int .i64 x2), (.string x2_1), (.string x2_2), (.string x2_3)])] (WOpen (.tup [(.l .p), (.l (.i .i64))]) fun (x3 : Option Go.Addr) (x3_1 : Int) =>
   WNew [(.map none), (.map none)] 113 fun z4 =>
   WCall Tryz.prog Q 56 #[(.agg #[(.int .i64 a1_0), (.string a1_1), (.string a1_2), (.string a1_3), (.string a1_4), (.string a1_5), (.int .i64 a1_6), (.int .i64 a1_7), (.string a1_8), (.slice a1_9a a1_9n a1_9c)])] (WOpen (.one (.agg [(.i .i64), .s, .s, .s])) fun (x5 : Int) (x5_1 : ByteArray) (x5_2 : ByteArray) (x5_3 : ByteArray) =>
   WCall Tryz.prog Q 58 #[(.pointer (some ⟨z4, 0, none⟩)), (.slice a0a a0n a0c), (.agg #[(.int .i64 x5), (.string x5_1), (.string x5_2), (.string x5_3)])] (WOpen (.tup [(.l .p), (.l (.i .i64))]) fun (x6 : Option Go.Addr) (x6_1 : Int) =>
   Q (.returned (.bool ((((Option.isNone x3) && (Option.isNone x6)) && (x3_1 == 9)) && (x6_1 == 9))))))))))

def h15 : Hints := ⟨[20], [], [], [3]⟩
theorem tie15 (Q : Ending → W) (a0a : Option Addr) (a0n : Nat) (a0c : Nat) (a1_0 : Int) (a1_1 : ByteArray) (a1_2 : ByteArray) (a1_3 : ByteArray) (a1_4 : ByteArray) (a1_5 : ByteArray) (a1_6 : Int) (a1_7 : Int) (a1_8 : ByteArray) (a1_9a : Option Addr) (a1_9n : Nat) (a1_9c : Nat) : funW Tryz.prog tab Q h15 Tryz.f15 [.v (.slice a0a a0n a0c), .v (.agg ⟨[(.int .i64 a1_0), (.string a1_1), (.string a1_2), (.string a1_3), (.string a1_4), (.string a1_5), (.int .i64 a1_6), (.int .i64 a1_7), (.string a1_8), (.slice a1_9a a1_9n a1_9c)]⟩)] = W15 Q a0a a0n a0c a1_0 a1_1 a1_2 a1_3 a1_4 a1_5 a1_6 a1_7 a1_8 a1_9a a1_9n a1_9c := by kernel_rfl

theorem spec15 {Q : Ending → W} {a0a : Option Addr} {a0n : Nat} {a0c : Nat} {a1_0 : Int} {a1_1 : ByteArray} {a1_2 : ByteArray} {a1_3 : ByteArray} {a1_4 : ByteArray} {a1_5 : ByteArray} {a1_6 : Int} {a1_7 : Int} {a1_8 : ByteArray} {a1_9a : Option Addr} {a1_9n : Nat} {a1_9c : Nat} {H : HP} (h : W15 Q a0a a0n a0c a1_0 a1_1 a1_2 a1_3 a1_4 a1_5 a1_6 a1_7 a1_8 a1_9a a1_9n a1_9c H) : Go.Den.Spec Tryz.prog 15 #[(.slice a0a a0n a0c), (.agg ⟨[(.int .i64 a1_0), (.string a1_1), (.string a1_2), (.string a1_3), (.string a1_4), (.string a1_5), (.int .i64 a1_6), (.int .i64 a1_7), (.string a1_8), (.slice a1_9a a1_9n a1_9c)]⟩)] H Q :=
  specOf (fn := Tryz.f15) (hs := h15) (args := [.v (.slice a0a a0n a0c), .v (.agg ⟨[(.int .i64 a1_0), (.string a1_1), (.string a1_2), (.string a1_3), (.string a1_4), (.string a1_5), (.int .i64 a1_6), (.int .i64 a1_7), (.string a1_8), (.slice a1_9a a1_9n a1_9c)]⟩)]) (by kernel_rfl) (by kernel_rfl) (by kernel_rfl) rfl (by rw [tie15]; exact h)

/-- slices.pdqsortOrdered[string] -/
def W280 (Q : Ending → W) (a0a : Option Addr) (a0n : Nat) (a0c : Nat) (a1 : Int) (a2 : Int) (a3 : Int) : W :=
  WLoop (σ := ((Int × (Int × (Int × (Bool × (Bool × Unit))))) × Unit)) ((a1, (a2, (a3, (true, (true, ()))))), ()) fun x1 again1 =>
  WIf (decide ((IntKind.wrap .i64 ((x1.1.2.1 : Int) - (x1.1.1 : Int))) ≤ 12)) (WCall Tryz.prog Q 286 #[(.slice a0a a0n a0c), (.int .i64 (x1.1.1 : Int)), (.int .i64 (x1.1.2.1 : Int))] (WOpen (.tup []) <|
   Q (.returned (.tuple #[]))))
  (WIf ((x1.1.2.2.1 : Int) == 0) (WCall Tryz.prog Q 287 #[(.slice a0a a0n a0c), (.int .i64 (x1.1.1 : Int)), (.int .i64 (x1.1.2.1 : Int))] (WOpen (.tup []) <|
    Q (.returned (.tuple #[]))))
   (WJoin (σ := ((Int × Unit) × Unit)) (fun again4 =>
     WIf (!(x1.1.2.2.2.1 : Bool)) (WCall Tryz.prog Q 288 #[(.slice a0a a0n a0c), (.int .i64 (x1.1.1 : Int)), (.int .i64 (x1.1.2.1 : Int))] (WOpen (.tup []) <|
      again4 (((IntKind.wrap .i64 ((x1.1.2.2.1 : Int) - 1)), ()), ())))
     (again4 (((x1.1.2.2.1 : Int), ()), ())))
    (fun x4 =>
     WCall Tryz.prog Q 289 #[(.slice a0a a0n a0c), (.int .i64 (x1.1.1 : Int)), (.int .i64 (x1.1.2.1 : Int))] (WOpen (.tup [(.l (.i .i64)), (.l (.i .i64))]) fun (x6 : Int) (x6_1 : Int) =>
     WJoin (σ := ((Int × (Int × Unit)) × Unit)) (fun again7 =>
      WIf (x6_1 == 2) (WCall Tryz.prog Q 290 #[(.slice a0a a0n a0c), (.int .i64 (x1.1.1 : Int)), (.int .i64 (x1.1.2.1 : Int))] (WOpen (.tup []) <|
       again7 (((IntKind.wrap .i64 ((IntKind.wrap .i64 ((x1.1.2.1 : Int) - 1)) - (IntKind.wrap .i64 (x6 - (x1.1.1 : Int))))), (1, ())), ())))
      (again7 ((x6, (x6_1, ())), ())))
     (fun x7 =>
      WJoin (σ := (Unit × Unit)) (fun again9 =>
       WIf (((x1.1.2.2.2.1 : Bool) && (x1.1.2.2.2.2.1 : Bool)) && ((x7.1.2.1 : Int) == 1)) (WCall Tryz.prog Q 291 #[(.slice a0a a0n a0c), (.int .i64 (x1.1.1 : Int)), (.int .i64 (x1.1.2.1 : Int))] (WOpen (.one (.l .b)) fun (x10 : Bool) =>
        WIf x10 (Q (.returned (.tuple #[])))
        (again9 ((), ()))))
       (again9 ((), ())))
      (fun x9 =>
       WIf (decide ((x1.1.1 : Int) > 0)) (WIndex a0a a0n (IntKind.wrap .i64 ((x1.1.1 : Int) - 1)) fun q11 =>
        WLoad (Addr.add q11 ((Int.toNat (IntKind.wrap .i64 ((x1.1.1 : Int) - 1))) * 1)) (.l .s) fun (x12 : ByteArray) =>
        WIndex a0a a0n (x7.1.1 : Int) fun q13 =>
        WLoad (Addr.add q13 ((Int.toNat (x7.1.1 : Int)) * 1)) (.l .s) fun (x14 : ByteArray) =>
        WCall Tryz.prog Q 292 #[(.string x12), (.string x14)] (WOpen (.one (.l .b)) fun (x15 : Bool) =>
        WIf (!x15) (WCall Tryz.prog Q 293 #[(.slice a0a a0n a0c), (.int .i64 (x1.1.1 : Int)), (.int .i64 (x1.1.2.1 : Int)), (.int .i64 (x7.1.1 : Int))] (WOpen (.one (.l (.i .i64))) fun (x16 : Int) =>
         again1 ((x16, ((x1.1.2.1 : Int), ((x4.1.1 : Int), ((x1.1.2.2.2.1 : Bool), ((x1.1.2.2.2.2.1 : Bool), ()))))), ())))
        (WCall Tryz.prog Q 294 #[(.slice a0a a0n a0c), (.int .i64 (x1.1.1 : Int)), (.int .i64 (x1.1.2.1 : Int)), (.int .i64 (x7.1.1 : Int))] (WOpen (.tup [(.l (.i .i64)), (.l .b)]) fun (x17 : Int) (x17_1 : Bool) =>
         WReq ((8 : Int) ≠ 0) <|
         WIf (decide ((IntKind.wrap .i64 (x17 - (x1.1.1 : Int))) < (IntKind.wrap .i64 ((x1.1.2.1 : Int) - x17)))) (WCall Tryz.prog Q 280 #[(.slice a0a a0n a0c), (.int .i64 (x1.1.1 : Int)), (.int .i64 x17), (.int .i64 (x4.1.1 : Int))] (WOpen (.tup []) <|
          again1 (((IntKind.wrap .i64 (x17 + 1)), ((x1.1.2.1 : Int), ((x4.1.1 : Int), ((decide ((IntKind.wrap .i64 (x17 - (x1.1.1 : Int))) ≥ (IntKind.wrap .i64 (Int.tdiv (IntKind.wrap .i64 ((x1.1.2.1 : Int) - (x1.1.1 : Int))) 8)))), (x17_1, ()))))), ())))
         (WCall Tryz.prog Q 280 #[(.slice a0a a0n a0c), (.int .i64 (IntKind.wrap .i64 (x17 + 1))), (.int .i64 (x1.1.2.1 : Int)), (.int .i64 (x4.1.1 : Int))] (WOpen (.tup []) <|
          again1 (((x1.1.1 : Int), (x17, ((x4.1.1 : Int), ((decide ((IntKind.wrap .i64 ((x1.1.2.1 : Int) - x17)) ≥ (IntKind.wrap .i64 (Int.tdiv (IntKind.wrap .i64 ((x1.1.2.1 : Int) - (x1.1.1 : Int))) 8)))), (x17_1, ()))))), ())))))))
       (WCall Tryz.prog Q 294 #[(.slice a0a a0n a0c), (.int .i64 (x1.1.1 : Int)), (.int .i64 (x1.1.2.1 : Int)), (.int .i64 (x7.1.1 : Int))] (WOpen (.tup [(.l (.i .i64)), (.l .b)]) fun (x20 : Int) (x20_1 : Bool) =>
        WReq ((8 : Int) ≠ 0) <|
        WIf (decide ((IntKind.wrap .i64 (x20 - (x1.1.1 : Int))) < (IntKind.wrap .i64 ((x1.1.2.1 : Int) - x20)))) (WCall Tryz.prog Q 280 #[(.slice a0a a0n a0c), (.int .i64 (x1.1.1 : Int)), (.int .i64 x20), (.int .i64 (x4.1.1 : Int))] (WOpen (.tup []) <|
         again1 (((IntKind.wrap .i64 (x20 + 1)), ((x1.1.2.1 : Int), ((x4.1.1 : Int), ((decide ((IntKind.wrap .i64 (x20 - (x1.1.1 : Int))) ≥ (IntKind.wrap .i64 (Int.tdiv (IntKind.wrap .i64 ((x1.1.2.1 : Int) - (x1.1.1 : Int))) 8)))), (x20_1, ()))))), ())))
        (WCall Tryz.prog Q 280 #[(.slice a0a a0n a0c), (.int .i64 (IntKind.wrap .i64 (x20 + 1))), (.int .i64 (x1.1.2.1 : Int)), (.int .i64 (x4.1.1 : Int))] (WOpen (.tup []) <|
         again1 (((x1.1.1 : Int), (x20, ((x4.1.1 : Int), ((decide ((IntKind.wrap .i64 ((x1.1.2.1 : Int) - x20)) ≥ (IntKind.wrap .i64 (Int.tdiv (IntKind.wrap .i64 ((x1.1.2.1 : Int) - (x1.1.1 : Int))) 8)))), (x20_1, ()))))), ())))))))))))

def h280 : Hints := ⟨[], [⟨0, [(1, .i .i64), (2, .i .i64), (3, .i .i64), (8, .b), (9, .b)], [10, 11, 12, 13, 14, 15, 16, 17, 18, 19, 20, 21, 22, 23, 24, 25, 26, 27, 28, 29, 30, 31, 32, 33, 34, 35, 36, 37, 38, 39, 40, 41, 42, 43, 44, 45, 46, 47, 48, 49, 50, 51, 52, 53, 54, 55, 56, 57, 58, 59, 60, 61, 62, 63, 64, 65, 66, 67, 68, 69, 70, 71, 72, 73, 74, 75, 76, 77, 78, 79, 80, 81, 82, 83, 84, 85, 86, 87, 88, 89, 90, 91, 92, 93, 94, 95, 96, 97, 98, 99, 100, 101, 102, 103, 104, 105, 106, 107, 108, 109, 110, 111, 112, 113, 114, 115, 116, 117, 118, 119, 120, 121, 122, 123, 124, 125, 126, 127, 128, 129, 130, 131, 132, 133], []⟩], [⟨17, [], [61, 62, 63, 64, 65, 66, 67, 68, 69, 70, 71, 72], []⟩, ⟨15, [(11, .i .i64), (12, .i .i64)], [49, 50, 51, 52, 53, 54, 55, 56, 57, 58, 59, 60], []⟩, ⟨10, [(3, .i .i64)], [34, 35, 36, 37, 38, 39, 40, 41], []⟩], []⟩
theorem tie280 (Q : Ending → W) (a0a : Option Addr) (a0n : Nat) (a0c : Nat) (a1 : Int) (a2 : Int) (a3 : Int) : funW Tryz.prog tab Q h280 Tryz.f280 [.v (.slice a0a a0n a0c), .v (.int .i64 a1), .v (.int .i64 a2), .v (.int .i64 a3)] = W280 Q a0a a0n a0c a1 a2 a3 := by kernel_rfl

theorem spec280 {Q : Ending → W} {a0a : Option Addr} {a0n : Nat} {a0c : Nat} {a1 : Int} {a2 : Int} {a3 : Int} {H : HP} (h : W280 Q a0a a0n a0c a1 a2 a3 H) : Go.Den.Spec Tryz.prog 280 #[(.slice a0a a0n a0c), (.int .i64 a1), (.int .i64 a2), (.int .i64 a3)] H Q :=
  specOf (fn := Tryz.f280) (hs := h280) (args := [.v (.slice a0a a0n a0c), .v (.int .i64 a1), .v (.int .i64 a2), .v (.int .i64 a3)]) (by kernel_rfl) (by kernel_rfl) (by kernel_rfl) rfl (by rw [tie280]; exact h)

/-- math/bits.Len -/
def W281 (Q : Ending → W) (a0 : Int) : W :=
  WCall Tryz.prog Q 296 #[(.int .u64 a0)] (WOpen (.one (.l (.i .i64))) fun (x1 : Int) =>
  Q (.returned (.int .i64 x1)))

def h281 : Hints := ⟨[], [], [], []⟩
theorem tie281 (Q : Ending → W) (a0 : Int) : funW Tryz.prog tab Q h281 Tryz.f281 [.v (.int .u64 a0)] = W281 Q a0 := by kernel_rfl

theorem spec281 {Q : Ending → W} {a0 : Int} {H : HP} (h : W281 Q a0 H) : Go.Den.Spec Tryz.prog 281 #[(.int .u64 a0)] H Q :=
  specOf (fn := Tryz.f281) (hs := h281) (args := [.v (.int .u64 a0)]) (by kernel_rfl) (by kernel_rfl) (by kernel_rfl) rfl (by rw [tie281]; exact h)

/-- slices.insertionSortOrdered[string] -/
def W286 (Q : Ending → W) (a0a : Option Addr) (a0n : Nat) (a0c : Nat) (a1 : Int) (a2 : Int) : W :=
  WLoop (σ := ((Int × Unit) × Unit)) (((IntKind.wrap .i64 (a1 + 1)), ()), ()) fun x1 again1 =>
  WIf (decide ((x1.1.1 : Int) < a2)) (WLoop (σ := ((Int × Unit) × Unit)) (((x1.1.1 : Int), ()), ()) fun x2 again2 =>
   WIf (decide ((x2.1.1 : Int) > a1)) (WIndex a0a a0n (x2.1.1 : Int) fun q3 =>
    WLoad (Addr.add q3 ((Int.toNat (x2.1.1 : Int)) * 1)) (.l .s) fun (x4 : ByteArray) =>
    WIndex a0a a0n (IntKind.wrap .i64 ((x2.1.1 : Int) - 1)) fun q5 =>
    WLoad (Addr.add q5 ((Int.toNat (IntKind.wrap .i64 ((x2.1.1 : Int) - 1))) * 1)) (.l .s) fun (x6 : ByteArray) =>
    WCall Tryz.prog Q 292 #[(.string x4), (.string x6)] (WOpen (.one (.l .b)) fun (x7 : Bool) =>
    WIf x7 (WIndex a0a a0n (IntKind.wrap .i64 ((x2.1.1 : Int) - 1)) fun q8 =>
     WLoad (Addr.add q8 ((Int.toNat (IntKind.wrap .i64 ((x2.1.1 : Int) - 1))) * 1)) (.l .s) fun (x9 : ByteArray) =>
     WIndex a0a a0n (x2.1.1 : Int) fun q10 =>
     WLoad (Addr.add q10 ((Int.toNat (x2.1.1 : Int)) * 1)) (.l .s) fun (x11 : ByteArray) =>
     WIndex a0a a0n (x2.1.1 : Int) fun q12 =>
     WStore (Addr.add q12 ((Int.toNat (x2.1.1 : Int)) * 1)) [(.string x9)] <|
     WIndex a0a a0n (IntKind.wrap .i64 ((x2.1.1 : Int) - 1)) fun q13 =>
     WStore (Addr.add q13 ((Int.toNat (IntKind.wrap .i64 ((x2.1.1 : Int) - 1))) * 1)) [(.string x11)] <|
     again2 (((IntKind.wrap .i64 ((x2.1.1 : Int) - 1)), ()), ()))
    (again1 (((IntKind.wrap .i64 ((x1.1.1 : Int) + 1)), ()), ()))))
   (again1 (((IntKind.wrap .i64 ((x1.1.1 : Int) + 1)), ()), ())))
  (Q (.returned (.tuple #[])))

def h286 : Hints := ⟨[], [⟨2, [(7, .i .i64)], [16, 17, 18, 19, 20, 21, 22, 23, 24, 25, 26, 27, 28, 29, 30, 31, 32, 33, 34, 35, 36, 37, 38, 39, 40, 41, 42, 43, 44, 45, 46, 47, 48], []⟩, ⟨0, [(6, .i .i64)], [7, 10, 11, 12, 13, 14, 15, 16, 17, 18, 19, 20, 21, 22, 23, 24, 25, 26, 27, 28, 29, 30, 31, 32, 33, 34, 35, 36, 37, 38, 39, 40, 41, 42, 43, 44, 45, 46, 47, 48], []⟩], [], []⟩
theorem tie286 (Q : Ending → W) (a0a : Option Addr) (a0n : Nat) (a0c : Nat) (a1 : Int) (a2 : Int) : funW Tryz.prog tab Q h286 Tryz.f286 [.v (.slice a0a a0n a0c), .v (.int .i64 a1), .v (.int .i64 a2)] = W286 Q a0a a0n a0c a1 a2 := by kernel_rfl

theorem spec286 {Q : Ending → W} {a0a : Option Addr} {a0n : Nat} {a0c : Nat} {a1 : Int} {a2 : Int} {H : HP} (h : W286 Q a0a a0n a0c a1 a2 H) : Go.Den.Spec Tryz.prog 286 #[(.slice a0a a0n a0c), (.int .i64 a1), (.int .i64 a2)] H Q :=
  specOf (fn := Tryz.f286) (hs := h286) (args := [.v (.slice a0a a0n a0c), .v (.int .i64 a1), .v (.int .i64 a2)]) (by kernel_rfl) (by kernel_rfl) (by kernel_rfl) rfl (by rw [tie286]; exact h)

/-- cmp.Less[string] -/
def W292 (Q : Ending → W) (a0 : ByteArray) (a1 : ByteArray) : W :=
  WCall Tryz.prog Q 262 #[(.string a0)] (WOpen (.one (.l .b)) fun (x1 : Bool) =>
  WIf x1 (WCall Tryz.prog Q 262 #[(.string a1)] (WOpen (.one (.l .b)) fun (x2 : Bool) =>
   WIf (!x2) (Q (.returned (.bool true)))
   (Q (.returned (.bool (Go.Op.bytesLess (ByteArray.toList a0) (ByteArray.toList a1)))))))
  (Q (.returned (.bool (Go.Op.bytesLess (ByteArray.toList a0) (ByteArray.toList a1))))))

def h292 : Hints := ⟨[], [], [], []⟩
theorem tie292 (Q : Ending → W) (a0 : ByteArray) (a1 : ByteArray) : funW Tryz.prog tab Q h292 Tryz.f292 [.v (.string a0), .v (.string a1)] = W292 Q a0 a1 := by kernel_rfl

theorem spec292 {Q : Ending → W} {a0 : ByteArray} {a1 : ByteArray} {H : HP} (h : W292 Q a0 a1 H) : Go.Den.Spec Tryz.prog 292 #[(.string a0), (.string a1)] H Q :=
  specOf (fn := Tryz.f292) (hs := h292) (args := [.v (.string a0), .v (.string a1)]) (by kernel_rfl) (by kernel_rfl) (by kernel_rfl) rfl (by rw [tie292]; exact h)

/-- math/bits.Len64 -/
def W296 (Q : Ending → W) (a0 : Int) : W :=
  WIf (decide (a0 ≥ 4294967296)) (WReq ((0 : Int) ≤ 32) <|
   WIf (decide ((Int.fdiv a0 4294967296) ≥ 65536)) (WReq ((0 : Int) ≤ 16) <|
    WIf (decide ((Int.fdiv (Int.fdiv a0 4294967296) 65536) ≥ 256)) (WReq ((0 : Int) ≤ 8) <|
     WByte (ByteArray.mk #[0, 1, 2, 2, 3, 3, 3, 3, 4, 4, 4, 4, 4, 4, 4, 4, 5, 5, 5, 5, 5, 5, 5, 5, 5, 5, 5, 5, 5, 5, 5, 5, 6, 6, 6, 6, 6, 6, 6, 6, 6, 6, 6, 6, 6, 6, 6, 6, 6, 6, 6, 6, 6, 6, 6, 6, 6, 6, 6, 6, 6, 6, 6, 6, 7, 7, 7, 7, 7, 7, 7, 7, 7, 7, 7, 7, 7, 7, 7, 7, 7, 7, 7, 7, 7, 7, 7, 7, 7, 7, 7, 7, 7, 7, 7, 7, 7, 7, 7, 7, 7, 7, 7, 7, 7, 7, 7, 7, 7, 7, 7, 7, 7, 7, 7, 7, 7, 7, 7, 7, 7, 7, 7, 7, 7, 7, 7, 7, 8, 8, 8, 8, 8, 8, 8, 8, 8, 8, 8, 8, 8, 8, 8, 8, 8, 8, 8, 8, 8, 8, 8, 8, 8, 8, 8, 8, 8, 8, 8, 8, 8, 8, 8, 8, 8, 8, 8, 8, 8, 8, 8, 8, 8, 8, 8, 8, 8, 8, 8, 8, 8, 8, 8, 8, 8, 8, 8, 8, 8, 8, 8, 8, 8, 8, 8, 8, 8, 8, 8, 8, 8, 8, 8, 8, 8, 8, 8, 8, 8, 8, 8, 8, 8, 8, 8, 8, 8, 8, 8, 8, 8, 8, 8, 8, 8, 8, 8, 8, 8, 8, 8, 8, 8, 8, 8, 8, 8, 8, 8, 8, 8, 8, 8, 8, 8, 8, 8, 8, 8, 8, 8, 8, 8, 8, 8, 8]) (IntKind.wrap .u8 (Int.fdiv (Int.fdiv (Int.fdiv a0 4294967296) 65536) 256)) fun y1 =>
     Q (.returned (.int .i64 (IntKind.wrap .i64 ((56 : Int) + (IntKind.wrap .i64 (((UInt8.toNat y1) : Nat) : Int)))))))
    (WByte (ByteArray.mk #[0, 1, 2, 2, 3, 3, 3, 3, 4, 4, 4, 4, 4, 4, 4, 4, 5, 5, 5, 5, 5, 5, 5, 5, 5, 5, 5, 5, 5, 5, 5, 5, 6, 6, 6, 6, 6, 6, 6, 6, 6, 6, 6, 6, 6, 6, 6, 6, 6, 6, 6, 6, 6, 6, 6, 6, 6, 6, 6, 6, 6, 6, 6, 6, 7, 7, 7, 7, 7, 7, 7, 7, 7, 7, 7, 7, 7, 7, 7, 7, 7, 7, 7, 7, 7, 7, 7, 7, 7, 7, 7, 7, 7, 7, 7, 7, 7, 7, 7, 7, 7, 7, 7, 7, 7, 7, 7, 7, 7, 7, 7, 7, 7, 7, 7, 7, 7, 7, 7, 7, 7, 7, 7, 7, 7, 7, 7, 7, 8, 8, 8, 8, 8, 8, 8, 8, 8, 8, 8, 8, 8, 8, 8, 8, 8, 8, 8, 8, 8, 8, 8, 8, 8, 8, 8, 8, 8, 8, 8, 8, 8, 8, 8, 8, 8, 8, 8, 8, 8, 8, 8, 8, 8, 8, 8, 8, 8, 8, 8, 8, 8, 8, 8, 8, 8, 8, 8, 8, 8, 8, 8, 8, 8, 8, 8, 8, 8, 8, 8, 8, 8, 8, 8, 8, 8, 8, 8, 8, 8, 8, 8, 8, 8, 8, 8, 8, 8, 8, 8, 8, 8, 8, 8, 8, 8, 8, 8, 8, 8, 8, 8, 8, 8, 8, 8, 8, 8, 8, 8, 8, 8, 8, 8, 8, 8, 8, 8, 8, 8, 8, 8, 8, 8, 8, 8, 8]) (IntKind.wrap .u8 (Int.fdiv (Int.fdiv a0 4294967296) 65536)) fun y2 =>
     Q (.returned (.int .i64 (IntKind.wrap .i64 ((48 : Int) + (IntKind.wrap .i64 (((UInt8.toNat y2) : Nat) : Int))))))))
   (WIf (decide ((Int.fdiv a0 4294967296) ≥ 256)) (WReq ((0 : Int) ≤ 8) <|
     WByte (ByteArray.mk #[0, 1, 2, 2, 3, 3, 3, 3, 4, 4, 4, 4, 4, 4, 4, 4, 5, 5, 5, 5, 5, 5, 5, 5, 5, 5, 5, 5, 5, 5, 5, 5, 6, 6, 6, 6, 6, 6, 6, 6, 6, 6, 6, 6, 6, 6, 6, 6, 6, 6, 6, 6, 6, 6, 6, 6, 6, 6, 6, 6, 6, 6, 6, 6, 7, 7, 7, 7, 7, 7, 7, 7, 7, 7, 7, 7, 7, 7, 7, 7, 7, 7, 7, 7, 7, 7, 7, 7, 7, 7, 7, 7, 7, 7, 7, 7, 7, 7, 7, 7, 7, 7, 7, 7, 7, 7, 7, 7, 7, 7, 7, 7, 7, 7, 7, 7, 7, 7, 7, 7, 7, 7, 7, 7, 7, 7, 7, 7, 8, 8, 8, 8, 8, 8, 8, 8, 8, 8, 8, 8, 8, 8, 8, 8, 8, 8, 8, 8, 8, 8, 8, 8, 8, 8, 8, 8, 8, 8, 8, 8, 8, 8, 8, 8, 8, 8, 8, 8, 8, 8, 8, 8, 8, 8, 8, 8, 8, 8, 8, 8, 8, 8, 8, 8, 8, 8, 8, 8, 8, 8, 8, 8, 8, 8, 8, 8, 8, 8, 8, 8, 8, 8, 8, 8, 8, 8, 8, 8, 8, 8, 8, 8, 8, 8, 8, 8, 8, 8, 8, 8, 8, 8, 8, 8, 8, 8, 8, 8, 8, 8, 8, 8, 8, 8, 8, 8, 8, 8, 8, 8, 8, 8, 8, 8, 8, 8, 8, 8, 8, 8, 8, 8, 8, 8, 8, 8]) (IntKind.wrap .u8 (Int.fdiv (Int.fdiv a0 4294967296) 256)) fun y3 =>
     Q (.returned (.int .i64 (IntKind.wrap .i64 ((40 : Int) + (IntKind.wrap .i64 (((UInt8.toNat y3) : Nat) : Int)))))))
    (WByte (ByteArray.mk #[0, 1, 2, 2, 3, 3, 3, 3, 4, 4, 4, 4, 4, 4, 4, 4, 5, 5, 5, 5, 5, 5, 5, 5, 5, 5, 5, 5, 5, 5, 5, 5, 6, 6, 6, 6, 6, 6, 6, 6, 6, 6, 6, 6, 6, 6, 6, 6, 6, 6, 6, 6, 6, 6, 6, 6, 6, 6, 6, 6, 6, 6, 6, 6, 7, 7, 7, 7, 7, 7, 7, 7, 7, 7, 7, 7, 7, 7, 7, 7, 7, 7, 7, 7, 7, 7, 7, 7, 7, 7, 7, 7, 7, 7, 7, 7, 7, 7, 7, 7, 7, 7, 7, 7, 7, 7, 7, 7, 7, 7, 7, 7, 7, 7, 7, 7, 7, 7, 7, 7, 7, 7, 7, 7, 7, 7, 7, 7, 8, 8, 8, 8, 8, 8, 8, 8, 8, 8, 8, 8, 8, 8, 8, 8, 8, 8, 8, 8, 8, 8, 8, 8, 8, 8, 8, 8, 8, 8, 8, 8, 8, 8, 8, 8, 8, 8, 8, 8, 8, 8, 8, 8, 8, 8, 8, 8, 8, 8, 8, 8, 8, 8, 8, 8, 8, 8, 8, 8, 8, 8, 8, 8, 8, 8, 8, 8, 8, 8, 8, 8, 8, 8, 8, 8, 8, 8, 8, 8, 8, 8, 8, 8, 8, 8, 8, 8, 8, 8, 8, 8, 8, 8, 8, 8, 8, 8, 8, 8, 8, 8, 8, 8, 8, 8, 8, 8, 8, 8, 8, 8, 8, 8, 8, 8, 8, 8, 8, 8, 8, 8, 8, 8, 8, 8, 8, 8]) (IntKind.wrap .u8 (Int.fdiv a0 4294967296)) fun y4 =>
     Q (.returned (.int .i64 (IntKind.wrap .i64 ((32 : Int) + (IntKind.wrap .i64 (((UInt8.toNat y4) : Nat) : Int)))))))))
  (WIf (decide (a0 ≥ 65536)) (WReq ((0 : Int) ≤ 16) <|
    WIf (decide ((Int.fdiv a0 65536) ≥ 256)) (WReq ((0 : Int) ≤ 8) <|
     WByte (ByteArray.mk #[0, 1, 2, 2, 3, 3, 3, 3, 4, 4, 4, 4, 4, 4, 4, 4, 5, 5, 5, 5, 5, 5, 5, 5, 5, 5, 5, 5, 5, 5, 5, 5, 6, 6, 6, 6, 6, 6, 6, 6, 6, 6, 6, 6, 6, 6, 6, 6, 6, 6, 6, 6, 6, 6, 6, 6, 6, 6, 6, 6, 6, 6, 6, 6, 7, 7, 7, 7, 7, 7, 7, 7, 7, 7, 7, 7, 7, 7, 7, 7, 7, 7, 7, 7, 7, 7, 7, 7, 7, 7, 7, 7, 7, 7, 7, 7, 7, 7, 7, 7, 7, 7, 7, 7, 7, 7, 7, 7, 7, 7, 7, 7, 7, 7, 7, 7, 7, 7, 7, 7, 7, 7, 7, 7, 7, 7, 7, 7, 8, 8, 8, 8, 8, 8, 8, 8, 8, 8, 8, 8, 8, 8, 8, 8, 8, 8, 8, 8, 8, 8, 8, 8, 8, 8, 8, 8, 8, 8, 8, 8, 8, 8, 8, 8, 8, 8, 8, 8, 8, 8, 8, 8, 8, 8, 8, 8, 8, 8, 8, 8, 8, 8, 8, 8, 8, 8, 8, 8, 8, 8, 8, 8, 8, 8, 8, 8, 8, 8, 8, 8, 8, 8, 8, 8, 8, 8, 8, 8, 8, 8, 8, 8, 8, 8, 8, 8, 8, 8, 8, 8, 8, 8, 8, 8, 8, 8, 8, 8, 8, 8, 8, 8, 8, 8, 8, 8, 8, 8, 8, 8, 8, 8, 8, 8, 8, 8, 8, 8, 8, 8, 8, 8, 8, 8, 8, 8]) (IntKind.wrap .u8 (Int.fdiv (Int.fdiv a0 65536) 256)) fun y5 =>
     Q (.returned (.int .i64 (IntKind.wrap .i64 ((24 : Int) + (IntKind.wrap .i64 (((UInt8.toNat y5) : Nat) : Int)))))))
    (WByte (ByteArray.mk #[0, 1, 2, 2, 3, 3, 3, 3, 4, 4, 4, 4, 4, 4, 4, 4, 5, 5, 5, 5, 5, 5, 5, 5, 5, 5, 5, 5, 5, 5, 5, 5, 6, 6, 6, 6, 6, 6, 6, 6, 6, 6, 6, 6, 6, 6, 6, 6, 6, 6, 6, 6, 6, 6, 6, 6, 6, 6, 6, 6, 6, 6, 6, 6, 7, 7, 7, 7, 7, 7, 7, 7, 7, 7, 7, 7, 7, 7, 7, 7, 7, 7, 7, 7, 7, 7, 7, 7, 7, 7, 7, 7, 7, 7, 7, 7, 7, 7, 7, 7, 7, 7, 7, 7, 7, 7, 7, 7, 7, 7, 7, 7, 7, 7, 7, 7, 7, 7, 7, 7, 7, 7, 7, 7, 7, 7, 7, 7, 8, 8, 8, 8, 8, 8, 8, 8, 8, 8, 8, 8, 8, 8, 8, 8, 8, 8, 8, 8, 8, 8, 8, 8, 8, 8, 8, 8, 8, 8, 8, 8, 8, 8, 8, 8, 8, 8, 8, 8, 8, 8, 8, 8, 8, 8, 8, 8, 8, 8, 8, 8, 8, 8, 8, 8, 8, 8, 8, 8, 8, 8, 8, 8, 8, 8, 8, 8, 8, 8, 8, 8, 8, 8, 8, 8, 8, 8, 8, 8, 8, 8, 8, 8, 8, 8, 8, 8, 8, 8, 8, 8, 8, 8, 8, 8, 8, 8, 8, 8, 8, 8, 8, 8, 8, 8, 8, 8, 8, 8, 8, 8, 8, 8, 8, 8, 8, 8, 8, 8, 8, 8, 8, 8, 8, 8, 8, 8]) (IntKind.wrap .u8 (Int.fdiv a0 65536)) fun y6 =>
     Q (.returned (.int .i64 (IntKind.wrap .i64 ((16 : Int) + (IntKind.wrap .i64 (((UInt8.toNat y6) : Nat) : Int))))))))
   (WIf (decide (a0 ≥ 256)) (WReq ((0 : Int) ≤ 8) <|
     WByte (ByteArray.mk #[0, 1, 2, 2, 3, 3, 3, 3, 4, 4, 4, 4, 4, 4, 4, 4, 5, 5, 5, 5, 5, 5, 5, 5, 5, 5, 5, 5, 5, 5, 5, 5, 6, 6, 6, 6, 6, 6, 6, 6, 6, 6, 6, 6, 6, 6, 6, 6, 6, 6, 6, 6, 6, 6, 6, 6, 6, 6, 6, 6, 6, 6, 6, 6, 7, 7, 7, 7, 7, 7, 7, 7, 7, 7, 7, 7, 7, 7, 7, 7, 7, 7, 7, 7, 7, 7, 7, 7, 7, 7, 7, 7, 7, 7, 7, 7, 7, 7, 7, 7, 7, 7, 7, 7, 7, 7, 7, 7, 7, 7, 7, 7, 7, 7, 7, 7, 7, 7, 7, 7, 7, 7, 7, 7, 7, 7, 7, 7, 8, 8, 8, 8, 8, 8, 8, 8, 8, 8, 8, 8, 8, 8, 8, 8, 8, 8, 8, 8, 8, 8, 8, 8, 8, 8, 8, 8, 8, 8, 8, 8, 8, 8, 8, 8, 8, 8, 8, 8, 8, 8, 8, 8, 8, 8, 8, 8, 8, 8, 8, 8, 8, 8, 8, 8, 8, 8, 8, 8, 8, 8, 8, 8, 8, 8, 8, 8, 8, 8, 8, 8, 8, 8, 8, 8, 8, 8, 8, 8, 8, 8, 8, 8, 8, 8, 8, 8, 8, 8, 8, 8, 8, 8, 8, 8, 8, 8, 8, 8, 8, 8, 8, 8, 8, 8, 8, 8, 8, 8, 8, 8, 8, 8, 8, 8, 8, 8, 8, 8, 8, 8, 8, 8, 8, 8, 8, 8]) (IntKind.wrap .u8 (Int.fdiv a0 256)) fun y7 =>
     Q (.returned (.int .i64 (IntKind.wrap .i64 ((8 : Int) + (IntKind.wrap .i64 (((UInt8.toNat y7) : Nat) : Int)))))))
    (WByte (ByteArray.mk #[0, 1, 2, 2, 3, 3, 3, 3, 4, 4, 4, 4, 4, 4, 4, 4, 5, 5, 5, 5, 5, 5, 5, 5, 5, 5, 5, 5, 5, 5, 5, 5, 6, 6, 6, 6, 6, 6, 6, 6, 6, 6, 6, 6, 6, 6, 6, 6, 6, 6, 6, 6, 6, 6, 6, 6, 6, 6, 6, 6, 6, 6, 6, 6, 7, 7, 7, 7, 7, 7, 7, 7, 7, 7, 7, 7, 7, 7, 7, 7, 7, 7, 7, 7, 7, 7, 7, 7, 7, 7, 7, 7, 7, 7, 7, 7, 7, 7, 7, 7, 7, 7, 7, 7, 7, 7, 7, 7, 7, 7, 7, 7, 7, 7, 7, 7, 7, 7, 7, 7, 7, 7, 7, 7, 7, 7, 7, 7, 8, 8, 8, 8, 8, 8, 8, 8, 8, 8, 8, 8, 8, 8, 8, 8, 8, 8, 8, 8, 8, 8, 8, 8, 8, 8, 8, 8, 8, 8, 8, 8, 8, 8, 8, 8, 8, 8, 8, 8, 8, 8, 8, 8, 8, 8, 8, 8, 8, 8, 8, 8, 8, 8, 8, 8, 8, 8, 8, 8, 8, 8, 8, 8, 8, 8, 8, 8, 8, 8, 8, 8, 8, 8, 8, 8, 8, 8, 8, 8, 8, 8, 8, 8, 8, 8, 8, 8, 8, 8, 8, 8, 8, 8, 8, 8, 8, 8, 8, 8, 8, 8, 8, 8, 8, 8, 8, 8, 8, 8, 8, 8, 8, 8, 8, 8, 8, 8, 8, 8, 8, 8, 8, 8, 8, 8, 8, 8]) (IntKind.wrap .u8 a0) fun y8 =>
     Q (.returned (.int .i64 (IntKind.wrap .i64 ((0 : Int) + (IntKind.wrap .i64 (((UInt8.toNat y8) : Nat) : Int)))))))))

def h296 : Hints := ⟨[], [], [], []⟩
theorem tie296 (Q : Ending → W) (a0 : Int) : funW Tryz.prog tab Q h296 Tryz.f296 [.v (.int .u64 a0)] = W296 Q a0 := by kernel_rfl

theorem spec296 {Q : Ending → W} {a0 : Int} {H : HP} (h : W296 Q a0 H) : Go.Den.Spec Tryz.prog 296 #[(.int .u64 a0)] H Q :=
  specOf (fn := Tryz.f296) (hs := h296) (args := [.v (.int .u64 a0)]) (by kernel_rfl) (by kernel_rfl) (by kernel_rfl) rfl (by rw [tie296]; exact h)

/-- beadleplain.Texts -/
def W94 (Q : Ending → W) (a0a : Option Addr) (a0n : Nat) (a0c : Nat) (a1a : Option Addr) (a1n : Nat) (a1c : Nat) : W :=
  WIf ((a0n : Int) != (a1n : Int)) (Q (.returned (.bool false)))
  (WLoop (σ := ((Int × Unit) × Unit)) ((0, ()), ()) fun x1 again1 =>
   WIf (decide ((x1.1.1 : Int) < (a0n : Int))) (WIndex a0a a0n (x1.1.1 : Int) fun q2 =>
    WLoad (Addr.add q2 ((Int.toNat (x1.1.1 : Int)) * 1)) (.l .s) fun (x3 : ByteArray) =>
    WIndex a1a a1n (x1.1.1 : Int) fun q4 =>
    WLoad (Addr.add q4 ((Int.toNat (x1.1.1 : Int)) * 1)) (.l .s) fun (x5 : ByteArray) =>
    WIf (!((ByteArray.toList x3) == (ByteArray.toList x5))) (Q (.returned (.bool false)))
    (again1 (((IntKind.wrap .i64 ((x1.1.1 : Int) + 1)), ()), ())))
   (Q (.returned (.bool true))))

def h94 : Hints := ⟨[], [⟨0, [(5, .i .i64)], [4, 11, 12, 13, 14, 15, 16, 17, 18, 19, 20, 21, 22, 23, 24, 25], []⟩], [], []⟩
theorem tie94 (Q : Ending → W) (a0a : Option Addr) (a0n : Nat) (a0c : Nat) (a1a : Option Addr) (a1n : Nat) (a1c : Nat) : funW Tryz.prog tab Q h94 Tryz.f94 [.v (.slice a0a a0n a0c), .v (.slice a1a a1n a1c)] = W94 Q a0a a0n a0c a1a a1n a1c := by kernel_rfl

theorem spec94 {Q : Ending → W} {a0a : Option Addr} {a0n : Nat} {a0c : Nat} {a1a : Option Addr} {a1n : Nat} {a1c : Nat} {H : HP} (h : W94 Q a0a a0n a0c a1a a1n a1c H) : Go.Den.Spec Tryz.prog 94 #[(.slice a0a a0n a0c), (.slice a1a a1n a1c)] H Q :=
  specOf (fn := Tryz.f94) (hs := h94) (args := [.v (.slice a0a a0n a0c), .v (.slice a1a a1n a1c)]) (by kernel_rfl) (by kernel_rfl) (by kernel_rfl) rfl (by rw [tie94]; exact h)

/-- beadleplain.Value -/
def W34 (Q : Ending → W) (a0_0 : Int) (a0_1 : Int) (a0_2 : ByteArray) (a0_3a : Option Addr) (a0_3n : Nat) (a0_3c : Nat) (a1_0 : Int) (a1_1 : Int) (a1_2 : ByteArray) (a1_3a : Option Addr) (a1_3n : Nat) (a1_3c : Nat) : W :=
  WIf (a0_0 == a1_0) (WIf (a0_1 == a1_1) (WIf ((ByteArray.toList a0_2) == (ByteArray.toList a1_2)) (WCall Tryz.prog Q 94 #[(.slice a0_3a a0_3n a0_3c), (.slice a1_3a a1_3n a1_3c)] (WOpen (.one (.l .b)) fun (x1 : Bool) =>
     Q (.returned (.bool x1))))
    (Q (.returned (.bool false))))
   (Q (.returned (.bool false))))
  (Q (.returned (.bool false)))

def h34 : Hints := ⟨[], [], [], [2, 3]⟩
theorem tie34 (Q : Ending → W) (a0_0 : Int) (a0_1 : Int) (a0_2 : ByteArray) (a0_3a : Option Addr) (a0_3n : Nat) (a0_3c : Nat) (a1_0 : Int) (a1_1 : Int) (a1_2 : ByteArray) (a1_3a : Option Addr) (a1_3n : Nat) (a1_3c : Nat) : funW Tryz.prog tab Q h34 Tryz.f34 [.v (.agg ⟨[(.int .i64 a0_0), (.int .i64 a0_1), (.string a0_2), (.slice a0_3a a0_3n a0_3c)]⟩), .v (.agg ⟨[(.int .i64 a1_0), (.int .i64 a1_1), (.string a1_2), (.slice a1_3a a1_3n a1_3c)]⟩)] = W34 Q a0_0 a0_1 a0_2 a0_3a a0_3n a0_3c a1_0 a1_1 a1_2 a1_3a a1_3n a1_3c := by kernel_rfl

theorem spec34 {Q : Ending → W} {a0_0 : Int} {a0_1 : Int} {a0_2 : ByteArray} {a0_3a : Option Addr} {a0_3n : Nat} {a0_3c : Nat} {a1_0 : Int} {a1_1 : Int} {a1_2 : ByteArray} {a1_3a : Option Addr} {a1_3n : Nat} {a1_3c : Nat} {H : HP} (h : W34 Q a0_0 a0_1 a0_2 a0_3a a0_3n a0_3c a1_0 a1_1 a1_2 a1_3a a1_3n a1_3c H) : Go.Den.Spec Tryz.prog 34 #[(.agg ⟨[(.int .i64 a0_0), (.int .i64 a0_1), (.string a0_2), (.slice a0_3a a0_3n a0_3c)]⟩), (.agg ⟨[(.int .i64 a1_0), (.int .i64 a1_1), (.string a1_2), (.slice a1_3a a1_3n a1_3c)]⟩)] H Q :=
  specOf (fn := Tryz.f34) (hs := h34) (args := [.v (.agg ⟨[(.int .i64 a0_0), (.int .i64 a0_1), (.string a0_2), (.slice a0_3a a0_3n a0_3c)]⟩), .v (.agg ⟨[(.int .i64 a1_0), (.int .i64 a1_1), (.string a1_2), (.slice a1_3a a1_3n a1_3c)]⟩)]) (by kernel_rfl) (by kernel_rfl) (by kernel_rfl) rfl (by rw [tie34]; exact h)

/-- beadlelaw18.MonitorTells -/
def W4 (Q : Ending → W) (a0_0 : Int) (a0_1 : ByteArray) (a0_2 : Int) (a0_3 : Int) (a0_4 : Int) (a0_5a : Option Addr) (a0_5n : Nat) (a0_5c : Nat) (a1a : Option Addr) (a1n : Nat) (a1c : Nat) (a2a : Option Addr) (a2n : Nat) (a2c : Nat) : W :=
  WCall Tryz.prog Q 21 #[] (WOpen (.one (.l .b)) fun (x1 : Bool) =>
  WIf (!x1) (Q (.returned (.bool false)))
  (WCall Tryz.prog Q 22 #[(.agg #[(.int .i64 a0_0), (.string a0_1), (.int .i64 a0_2), (.int .i64 a0_3), (.int .i64 a0_4), (.slice a0_5a a0_5n a0_5c)])] (WOpen (.one (.l .p)) fun (x2 : Option Go.Addr) =>
   WCall Tryz.prog Q 24 #[(.agg #[(.int .i64 a0_0), (.string a0_1), (.int .i64 a0_2), (.int .i64 a0_3), (.int .i64 a0_4), (.slice a0_5a a0_5n a0_5c)])] (WOpen (.one (.l (.i .i64))) fun (x3 : Int) =>
   WIf (x3 != 0) (Q (.returned (.bool (Option.isNone x2))))
   (WCall Tryz.prog Q 23 #[(.slice a1a a1n a1c)] (WOpen (.one (.l .p)) fun (x4 : Option Go.Addr) =>
    WCall Tryz.prog Q 26 #[(.slice a2a a2n a2c), (.int .i64 14)] (WOpen (.one (.l .sl)) fun (x5 : Option Go.Addr) (x5_1 : Nat) (x5_2 : Nat) =>
    WLoop (σ := (((Option Go.Addr × (Nat × Nat)) × (Int × Unit)) × (((Option Go.Addr × (Nat × Nat)) × ((Option Go.Addr × (Nat × Nat)) × Unit)) × Unit))) (((none, (0, 0)), (0, ())), (((a1a, (a1n, a1c)), ((none, (0, 0)), ())), ())) fun x6 again6 =>
    WIf (decide ((x6.1.2.1 : Int) < (x5_1 : Int))) (WIndex x5 x5_1 (x6.1.2.1 : Int) fun q7 =>
     WLoad (Addr.add q7 ((Int.toNat (x6.1.2.1 : Int)) * 10)) (.agg [(.i .i64), .s, .s, .s, .s, .s, (.i .i64), (.i .i64), .s, .sl]) fun (x8 : Int) (x8_1 : ByteArray) (x8_2 : ByteArray) (x8_3 : ByteArray) (x8_4 : ByteArray) (x8_5 : ByteArray) (x8_6 : Int) (x8_7 : Int) (x8_8 : ByteArray) (x8_9 : Option Go.Addr) (x8_10 : Nat) (x8_11 : Nat) =>
     WCall Tryz.prog Q 31 #[(.pointer x4), (.agg #[(.slice (x6.2.1.1.1 : Option Go.Addr) (x6.2.1.1.2.1 : Nat) (x6.2.1.1.2.2 : Nat)), (.slice (x6.2.1.2.1.1 : Option Go.Addr) (x6.2.1.2.1.2.1 : Nat) (x6.2.1.2.1.2.2 : Nat))]), (.agg #[(.int .i64 x8), (.string x8_1), (.string x8_2), (.string x8_3), (.string x8_4), (.string x8_5), (.int .i64 x8_6), (.int .i64 x8_7), (.string x8_8), (.slice x8_9 x8_10 x8_11)])] (WOpen (.one (.agg [.sl, .sl])) fun (x9 : Option Go.Addr) (x9_1 : Nat) (x9_2 : Nat) (x9_3 : Option Go.Addr) (x9_4 : Nat) (x9_5 : Nat) =>
     WIndex x5 x5_1 (x6.1.2.1 : Int) fun q10 =>
     WLoad (Addr.add q10 ((Int.toNat (x6.1.2.1 : Int)) * 10)) (.agg [(.i .i64), .s, .s, .s, .s, .s, (.i .i64), (.i .i64), .s, .sl]) fun (x11 : Int) (x11_1 : ByteArray) (x11_2 : ByteArray) (x11_3 : ByteArray) (x11_4 : ByteArray) (x11_5 : ByteArray) (x11_6 : Int) (x11_7 : Int) (x11_8 : ByteArray) (x11_9 : Option Go.Addr) (x11_10 : Nat) (x11_11 : Nat) =>
     WCall Tryz.prog Q 32 #[(.agg #[(.slice x9 x9_1 x9_2), (.slice x9_3 x9_4 x9_5)]), (.agg #[(.int .i64 x11), (.string x11_1), (.string x11_2), (.string x11_3), (.string x11_4), (.string x11_5), (.int .i64 x11_6), (.int .i64 x11_7), (.string x11_8), (.slice x11_9 x11_10 x11_11)])] (WOpen (.one (.agg [(.i .i64), .s, .s, .s, .sl, .sl])) fun (x12 : Int) (x12_1 : ByteArray) (x12_2 : ByteArray) (x12_3 : ByteArray) (x12_4 : Option Go.Addr) (x12_5 : Nat) (x12_6 : Nat) (x12_7 : Option Go.Addr) (x12_8 : Nat) (x12_9 : Nat) =>
     WNew [(.int .i64 x12), (.string x12_1), (.string x12_2), (.string x12_3), (.slice x12_4 x12_5 x12_6), (.slice x12_7 x12_8 x12_9)] 56 fun z13 =>
     WPrim Tryz.prog (Builtin.append_ #[53, 53] 53 #[(.slice (x6.1.1.1 : Option Go.Addr) (x6.1.1.2.1 : Nat) (x6.1.1.2.2 : Nat)), (.slice (some ⟨z13, 0, none⟩) 1 1)]) (WOpen (.one (.l .sl)) fun (x14 : Option Go.Addr) (x14_1 : Nat) (x14_2 : Nat) =>
     WIndex x5 x5_1 (x6.1.2.1 : Int) fun q15 =>
     WLoad (Addr.add q15 ((Int.toNat (x6.1.2.1 : Int)) * 10)) (.agg [(.i .i64), .s, .s, .s, .s, .s, (.i .i64), (.i .i64), .s, .sl]) fun (x16 : Int) (x16_1 : ByteArray) (x16_2 : ByteArray) (x16_3 : ByteArray) (x16_4 : ByteArray) (x16_5 : ByteArray) (x16_6 : Int) (x16_7 : Int) (x16_8 : ByteArray) (x16_9 : Option Go.Addr) (x16_10 : Nat) (x16_11 : Nat) =>
     WCall Tryz.prog Q 28 #[(.agg #[(.int .i64 x16), (.string x16_1), (.string x16_2), (.string x16_3), (.string x16_4), (.string x16_5), (.int .i64 x16_6), (.int .i64 x16_7), (.string x16_8), (.slice x16_9 x16_10 x16_11)])] (WOpen (.one (.agg [(.i .i64), .s, .s, .s])) fun (x17 : Int) (x17_1 : ByteArray) (x17_2 : ByteArray) (x17_3 : ByteArray) =>
     WCall Tryz.prog Q 27 #[(.pointer x2), (.pointer x4), (.agg #[(.int .i64 x17), (.string x17_1), (.string x17_2), (.string x17_3)])] (WOpen (.tup [(.agg [(.i .i64), (.i .i64), .s, .sl]), (.l (.i .i64))]) fun (x18 : Int) (x18_1 : Int) (x18_2 : ByteArray) (x18_3 : Option Go.Addr) (x18_4 : Nat) (x18_5 : Nat) (x18_6 : Int) =>
     WCall Tryz.prog Q 33 #[(.agg #[(.int .i64 a0_0), (.string a0_1), (.int .i64 a0_2), (.int .i64 a0_3), (.int .i64 a0_4), (.slice a0_5a a0_5n a0_5c)]), (.slice x14 x14_1 x14_2)] (WOpen (.tup [(.agg [(.i .i64), (.i .i64), .s, .sl]), (.l (.i .i64))]) fun (x19 : Int) (x19_1 : Int) (x19_2 : ByteArray) (x19_3 : Option Go.Addr) (x19_4 : Nat) (x19_5 : Nat) (x19_6 : Int) =>
     WIf (x18_6 != x19_6) (Q (.returned (.bool false)))
     (WCall Tryz.prog Q 34 #[(.agg #[(.int .i64 x18), (.int .i64 x18_1), (.string x18_2), (.slice x18_3 x18_4 x18_5)]), (.agg #[(.int .i64 x19), (.int .i64 x19_1), (.string x19_2), (.slice x19_3 x19_4 x19_5)])] (WOpen (.one (.l .b)) fun (x20 : Bool) =>
      WIf (!x20) (Q (.returned (.bool false)))
      (WIf (x19_6 != 0) (Q (.returned (.bool true)))
       (WCall Tryz.prog Q 29 #[(.pointer x2)] (WOpen (.one (.l (.i .i64))) fun (x21 : Int) =>
        WCall Tryz.prog Q 35 #[(.agg #[(.int .i64 a0_0), (.string a0_1), (.int .i64 a0_2), (.int .i64 a0_3), (.int .i64 a0_4), (.slice a0_5a a0_5n a0_5c)]), (.slice x14 x14_1 x14_2)] (WOpen (.one (.l (.i .i64))) fun (x22 : Int) =>
        WIf (x21 != x22) (Q (.returned (.bool false)))
        (again6 (((x14, (x14_1, x14_2)), ((IntKind.wrap .i64 ((x6.1.2.1 : Int) + 1)), ())), (((x9, (x9_1, x9_2)), ((x9_3, (x9_4, x9_5)), ())), ()))))))))))))))))
    (WIf (decide ((x5_1 : Int) > 0)) (Q (.returned (.bool true)))
     (WCall Tryz.prog Q 29 #[(.pointer x2)] (WOpen (.one (.l (.i .i64))) fun (x23 : Int) =>
      WCall Tryz.prog Q 35 #[(.agg #[(.int .i64 a0_0), (.string a0_1), (.int .i64 a0_2), (.int .i64 a0_3), (.int .i64 a0_4), (.slice a0_5a a0_5n a0_5c)]), (.slice none 0 0)] (WOpen (.one (.l (.i .i64))) fun (x24 : Int) =>
      Q (.returned (.bool (x23 == x24))))))))))))))

def h4 : Hints := ⟨[], [⟨0, [(10, .sl), (11, .i .i64)], [6, 12, 13, 14, 15, 31, 32, 33, 34, 35, 36, 37, 38, 39, 40, 41, 42, 43, 44, 45, 46, 47, 48, 49, 50, 51, 52, 53, 54, 55, 56, 57, 58, 59, 60, 61, 62, 63, 64, 65, 66, 67, 68, 69, 70, 71, 72, 73, 74, 75, 76, 77, 78, 79, 80, 81, 82, 83, 84, 85, 86], [(9, [some (.sl), some (.sl)])]⟩], [], [3, 9, 12, 14]⟩
theorem tie4 (Q : Ending → W) (a0_0 : Int) (a0_1 : ByteArray) (a0_2 : Int) (a0_3 : Int) (a0_4 : Int) (a0_5a : Option Addr) (a0_5n : Nat) (a0_5c : Nat) (a1a : Option Addr) (a1n : Nat) (a1c : Nat) (a2a : Option Addr) (a2n : Nat) (a2c : Nat) : funW Tryz.prog tab Q h4 Tryz.f4 [.v (.agg ⟨[(.int .i64 a0_0), (.string a0_1), (.int .i64 a0_2), (.int .i64 a0_3), (.int .i64 a0_4), (.slice a0_5a a0_5n a0_5c)]⟩), .v (.slice a1a a1n a1c), .v (.slice a2a a2n a2c)] = W4 Q a0_0 a0_1 a0_2 a0_3 a0_4 a0_5a a0_5n a0_5c a1a a1n a1c a2a a2n a2c := by kernel_rfl

theorem spec4 {Q : Ending → W} {a0_0 : Int} {a0_1 : ByteArray} {a0_2 : Int} {a0_3 : Int} {a0_4 : Int} {a0_5a : Option Addr} {a0_5n : Nat} {a0_5c : Nat} {a1a : Option Addr} {a1n : Nat} {a1c : Nat} {a2a : Option Addr} {a2n : Nat} {a2c : Nat} {H : HP} (h : W4 Q a0_0 a0_1 a0_2 a0_3 a0_4 a0_5a a0_5n a0_5c a1a a1n a1c a2a a2n a2c H) : Go.Den.Spec Tryz.prog 4 #[(.agg ⟨[(.int .i64 a0_0), (.string a0_1), (.int .i64 a0_2), (.int .i64 a0_3), (.int .i64 a0_4), (.slice a0_5a a0_5n a0_5c)]⟩), (.slice a1a a1n a1c), (.slice a2a a2n a2c)] H Q :=
  specOf (fn := Tryz.f4) (hs := h4) (args := [.v (.agg ⟨[(.int .i64 a0_0), (.string a0_1), (.int .i64 a0_2), (.int .i64 a0_3), (.int .i64 a0_4), (.slice a0_5a a0_5n a0_5c)]⟩), .v (.slice a1a a1n a1c), .v (.slice a2a a2n a2c)]) (by kernel_rfl) (by kernel_rfl) (by kernel_rfl) rfl (by rw [tie4]; exact h)

/-- (*deque.Deque).Clone -/
def W219 (Q : Ending → W) (a0 : Option Addr) : W :=
  WIf (Option.isNone a0) (Q (.returned (.pointer none)))
  (WCall Tryz.prog Q 256 #[(.pointer a0)] (WOpen (.one (.l .sl)) fun (x1 : Option Go.Addr) (x1_1 : Nat) (x1_2 : Nat) =>
   WNew [(.slice x1 x1_1 x1_2)] 254 fun z2 =>
   Q (.returned (.pointer (some ⟨z2, 0, none⟩)))))

def h219 : Hints := ⟨[8], [], [], []⟩
theorem tie219 (Q : Ending → W) (a0 : Option Addr) : funW Tryz.prog tab Q h219 Tryz.f219 [.v (.pointer a0)] = W219 Q a0 := by kernel_rfl

theorem spec219 {Q : Ending → W} {a0 : Option Addr} {H : HP} (h : W219 Q a0 H) : Go.Den.Spec Tryz.prog 219 #[(.pointer a0)] H Q :=
  specOf (fn := Tryz.f219) (hs := h219) (args := [.v (.pointer a0)]) (by kernel_rfl) (by kernel_rfl) (by kernel_rfl) rfl (by rw [tie219]; exact h)

/-- (*monitor.Monitor).Clone -/
def W36 (Q : Ending → W) (a0 : Option Addr) : W :=
  WCall Tryz.prog Q 89 #[(.pointer a0)] (WOpen (.one (.l .b)) fun (x1 : Bool) =>
  WIf (!x1) (Q (.returned (.pointer none)))
  (WNonNil a0 fun q2 =>
   WLoad (Addr.add q2 0) (.l .p) fun (x3 : Option Go.Addr) =>
   WNonNil a0 fun q4 =>
   WLoad (Addr.add q4 1) (.l (.i .i64)) fun (x5 : Int) =>
   WCall Tryz.prog Q 97 #[(.pointer x3)] (WOpen (.one (.l .p)) fun (x6 : Option Go.Addr) =>
   WHeld [((Addr.add q4 1), [(.int .i64 x5)])] <|
   WNew [(.pointer x6), (.int .i64 x5)] 66 fun z7 =>
   Q (.returned (.pointer (some ⟨z7, 0, none⟩))))))

def h36 : Hints := ⟨[16], [], [], []⟩
theorem tie36 (Q : Ending → W) (a0 : Option Addr) : funW Tryz.prog tab Q h36 Tryz.f36 [.v (.pointer a0)] = W36 Q a0 := by kernel_rfl

theorem spec36 {Q : Ending → W} {a0 : Option Addr} {H : HP} (h : W36 Q a0 H) : Go.Den.Spec Tryz.prog 36 #[(.pointer a0)] H Q :=
  specOf (fn := Tryz.f36) (hs := h36) (args := [.v (.pointer a0)]) (by kernel_rfl) (by kernel_rfl) (by kernel_rfl) rfl (by rw [tie36]; exact h)

end Go.Proofs.YtmidcnfnmnhifaaGreat
