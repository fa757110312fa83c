/-
  The functions that defer a closure, which recovers a stop: their preconditions.
-/
import Derived.Test.YtmidcnfnmnhifaaGreatZClo
import Derived.Test.YtmidcnfnmnhifaaGreatZRul
namespace Go.Proofs.YtmidcnfnmnhifaaGreat
set_option linter.unusedSectionVars false
set_option linter.unusedSimpArgs false
set_option linter.unusedVariables false
open Go Go.Den
set_option linter.unusedVariables false

/-- (*monitor.Monitor).Step -/
def W27 (Q : Ending → W) (a0 : Option Addr) (a1 : Option Addr) (a2_0 : Int) (a2_1 : ByteArray) (a2_2 : ByteArray) (a2_3 : ByteArray) : W :=
  WNew [(.int .i64 0), (.int .i64 0), (.string (ByteArray.mk #[])), (.slice none 0 0)] 38 fun z1 =>
  WNew [(.int .i64 0)] 39 fun z2 =>
  WCall Tryz.prog Q 89 #[(.pointer a0)] (WOpen (.one (.l .b)) fun (x3 : Bool) =>
  WIf (!x3) (WStore ⟨z1, 0, none⟩ [(.int .i64 0), (.int .i64 0), (.string (ByteArray.mk #[])), (.slice none 0 0)] <|
   WStore ⟨z2, 0, none⟩ [(.int .i64 9)] <|
   WRet Q ⟨z1, 0, none⟩ ⟨z2, 0, none⟩)
  (WNonNil a0 fun q4 =>
   WLoad (Addr.add q4 1) (.l (.i .i64)) fun (x5 : Int) =>
   WNonNil a0 fun q6 =>
   WStore (Addr.add q6 1) [(.int .i64 (if (x5 < a2_0) then a2_0 else x5))] <|
   WNonNil a0 fun q7 =>
   WLoad (Addr.add q7 1) (.l (.i .i64)) fun (x8 : Int) =>
   WNonNil a0 fun q9 =>
   WLoad (Addr.add q9 0) (.l .p) fun (x10 : Option Go.Addr) =>
   WCall Tryz.prog (WRec Q ⟨z1, 0, none⟩ ⟨z2, 0, none⟩) 91 #[(.agg #[(.pointer a1), (.int .i64 x8), (.string a2_1), (.string a2_2), (.string a2_3)]), (.pointer x10)] (WOpen (.one (.agg [(.i .i64), (.i .i64), .s, .sl])) fun (x11 : Int) (x11_1 : Int) (x11_2 : ByteArray) (x11_3 : Option Go.Addr) (x11_4 : Nat) (x11_5 : Nat) =>
   WStore ⟨z1, 0, none⟩ [(.int .i64 x11), (.int .i64 x11_1), (.string x11_2), (.slice x11_3 x11_4 x11_5)] <|
   WStore ⟨z2, 0, none⟩ [(.int .i64 0)] <|
   WRet Q ⟨z1, 0, none⟩ ⟨z2, 0, none⟩)))

def h27 : Hints := ⟨[6, 7], [], [], [5]⟩
def ok27 : List Nat := [0, 1, 2, 3, 4, 5, 8, 9, 10, 11, 12, 13, 14, 15, 16, 17, 18, 19, 20, 21, 22, 23, 24, 25, 26, 27, 28, 29, 30, 31, 32, 33, 34, 35]
theorem tie27 (Q : Ending → W) (a0 : Option Addr) (a1 : Option Addr) (a2_0 : Int) (a2_1 : ByteArray) (a2_2 : ByteArray) (a2_3 : ByteArray) : funD Tryz.prog tab Q h27 Tryz.f27 90 6 7 12 ok27 [.v (.pointer a0), .v (.pointer a1), .v (.agg ⟨[(.int .i64 a2_0), (.string a2_1), (.string a2_2), (.string a2_3)]⟩)] = W27 Q a0 a1 a2_0 a2_1 a2_2 a2_3 := by kernel_rfl

/-- monitor.Plain -/
def W38 (Q : Ending → W) (a0_0 : Int) (a0_1 : ByteArray) (a0_2 : Int) (a0_3 : Int) (a0_4 : Int) (a0_5a : Option Addr) (a0_5n : Nat) (a0_5c : Nat) (a1a : Option Addr) (a1n : Nat) (a1c : Nat) (a2 : Option Addr) (a3_0 : Int) (a3_1 : ByteArray) (a3_2 : ByteArray) (a3_3 : ByteArray) : W :=
  WNew [(.int .i64 0), (.int .i64 0), (.string (ByteArray.mk #[])), (.slice none 0 0)] 38 fun z1 =>
  WNew [(.int .i64 0)] 39 fun z2 =>
  WCall Tryz.prog Q 99 #[(.int .i64 a0_0)] (WOpen (.one (.l .b)) fun (x3 : Bool) =>
  WIf x3 (WStore ⟨z1, 0, none⟩ [(.int .i64 0), (.int .i64 0), (.string (ByteArray.mk #[])), (.slice none 0 0)] <|
   WStore ⟨z2, 0, none⟩ [(.int .i64 9)] <|
   WRet Q ⟨z1, 0, none⟩ ⟨z2, 0, none⟩)
  (WCall Tryz.prog Q 100 #[(.int .i64 a0_0)] (WOpen (.one (.l (.i .i64))) fun (x4 : Int) =>
   WIf (x4 == (-2)) (WStore ⟨z1, 0, none⟩ [(.int .i64 0), (.int .i64 0), (.string (ByteArray.mk #[])), (.slice none 0 0)] <|
    WStore ⟨z2, 0, none⟩ [(.int .i64 9)] <|
    WRet Q ⟨z1, 0, none⟩ ⟨z2, 0, none⟩)
   (WCall Tryz.prog Q 100 #[(.int .i64 a0_0)] (WOpen (.one (.l (.i .i64))) fun (x5 : Int) =>
    WIf ((if (x5 < 0) then 0 else x5) != (a1n : Int)) (WStore ⟨z1, 0, none⟩ [(.int .i64 0), (.int .i64 0), (.string (ByteArray.mk #[])), (.slice none 0 0)] <|
     WStore ⟨z2, 0, none⟩ [(.int .i64 9)] <|
     WRet Q ⟨z1, 0, none⟩ ⟨z2, 0, none⟩)
    (WAnd (WAnd (WNew [(.int .i64 a0_0), (.string a0_1), (.int .i64 a0_2), (.int .i64 a0_3), (.int .i64 a0_4), (.slice a0_5a a0_5n a0_5c), (.slice none 0 0), (.pointer none), (.pointer none), (.pointer none), (.bool false)] 165 fun z6 =>
       WIf ((a1n : Int) == 1) (WIndex a1a a1n 0 fun q7 =>
        WLoad (Addr.add q7 0) (.agg [(.i .i64), (.i .i64), .s, .sl]) fun (x8 : Int) (x8_1 : Int) (x8_2 : ByteArray) (x8_3 : Option Go.Addr) (x8_4 : Nat) (x8_5 : Nat) =>
        WCall Tryz.prog (WRec Q ⟨z1, 0, none⟩ ⟨z2, 0, none⟩) 102 #[(.agg #[(.pointer a2), (.int .i64 (if (a3_0 < 0) then 0 else a3_0)), (.string a3_1), (.string a3_2), (.string a3_3)]), (.pointer (some ⟨z6, 0, none⟩)), (.agg #[(.int .i64 x8), (.int .i64 x8_1), (.string x8_2), (.slice x8_3 x8_4 x8_5)])] (WOpen (.one (.agg [(.i .i64), (.i .i64), .s, .sl])) fun (x9 : Int) (x9_1 : Int) (x9_2 : ByteArray) (x9_3 : Option Go.Addr) (x9_4 : Nat) (x9_5 : Nat) =>
        WStore ⟨z1, 0, none⟩ [(.int .i64 x9), (.int .i64 x9_1), (.string x9_2), (.slice x9_3 x9_4 x9_5)] <|
        WStore ⟨z2, 0, none⟩ [(.int .i64 0)] <|
        WRet Q ⟨z1, 0, none⟩ ⟨z2, 0, none⟩))
       (WIf ((a1n : Int) == 2) (WIndex a1a a1n 0 fun q10 =>
         WLoad (Addr.add q10 0) (.agg [(.i .i64), (.i .i64), .s, .sl]) fun (x11 : Int) (x11_1 : Int) (x11_2 : ByteArray) (x11_3 : Option Go.Addr) (x11_4 : Nat) (x11_5 : Nat) =>
         WIndex a1a a1n 1 fun q12 =>
         WLoad (Addr.add q12 4) (.agg [(.i .i64), (.i .i64), .s, .sl]) fun (x13 : Int) (x13_1 : Int) (x13_2 : ByteArray) (x13_3 : Option Go.Addr) (x13_4 : Nat) (x13_5 : Nat) =>
         WCall Tryz.prog (WRec Q ⟨z1, 0, none⟩ ⟨z2, 0, none⟩) 103 #[(.agg #[(.pointer a2), (.int .i64 (if (a3_0 < 0) then 0 else a3_0)), (.string a3_1), (.string a3_2), (.string a3_3)]), (.pointer (some ⟨z6, 0, none⟩)), (.agg #[(.int .i64 x11), (.int .i64 x11_1), (.string x11_2), (.slice x11_3 x11_4 x11_5)]), (.agg #[(.int .i64 x13), (.int .i64 x13_1), (.string x13_2), (.slice x13_3 x13_4 x13_5)])] (WOpen (.one (.agg [(.i .i64), (.i .i64), .s, .sl])) fun (x14 : Int) (x14_1 : Int) (x14_2 : ByteArray) (x14_3 : Option Go.Addr) (x14_4 : Nat) (x14_5 : Nat) =>
         WStore ⟨z1, 0, none⟩ [(.int .i64 x14), (.int .i64 x14_1), (.string x14_2), (.slice x14_3 x14_4 x14_5)] <|
         WStore ⟨z2, 0, none⟩ [(.int .i64 0)] <|
         WRet Q ⟨z1, 0, none⟩ ⟨z2, 0, none⟩))
        (WCall Tryz.prog (WRec Q ⟨z1, 0, none⟩ ⟨z2, 0, none⟩) 104 #[(.agg #[(.pointer a2), (.int .i64 (if (a3_0 < 0) then 0 else a3_0)), (.string a3_1), (.string a3_2), (.string a3_3)]), (.pointer (some ⟨z6, 0, none⟩))] (WOpen (.one (.agg [(.i .i64), (.i .i64), .s, .sl])) fun (x15 : Int) (x15_1 : Int) (x15_2 : ByteArray) (x15_3 : Option Go.Addr) (x15_4 : Nat) (x15_5 : Nat) =>
         WStore ⟨z1, 0, none⟩ [(.int .i64 x15), (.int .i64 x15_1), (.string x15_2), (.slice x15_3 x15_4 x15_5)] <|
         WStore ⟨z2, 0, none⟩ [(.int .i64 0)] <|
         WRet Q ⟨z1, 0, none⟩ ⟨z2, 0, none⟩))))
      (WNew [(.int .i64 a0_0), (.string a0_1), (.int .i64 a0_2), (.int .i64 a0_3), (.int .i64 a0_4), (.slice a0_5a a0_5n a0_5c), (.slice none 0 0), (.pointer none), (.pointer none), (.pointer none), (.bool false)] 165 fun z16 =>
       WIf ((a1n : Int) == 1) (WIndex a1a a1n 0 fun q17 =>
        WLoad (Addr.add q17 0) (.agg [(.i .i64), (.i .i64), .s, .sl]) fun (x18 : Int) (x18_1 : Int) (x18_2 : ByteArray) (x18_3 : Option Go.Addr) (x18_4 : Nat) (x18_5 : Nat) =>
        WCall Tryz.prog (WRec Q ⟨z1, 0, none⟩ ⟨z2, 0, none⟩) 102 #[(.agg #[(.pointer a2), (.int .i64 (if (a3_0 < 0) then 0 else a3_0)), (.string a3_1), (.string a3_2), (.string a3_3)]), (.pointer (some ⟨z16, 0, none⟩)), (.agg #[(.int .i64 x18), (.int .i64 x18_1), (.string x18_2), (.slice x18_3 x18_4 x18_5)])] (WOpen (.one (.agg [(.i .i64), (.i .i64), .s, .sl])) fun (x19 : Int) (x19_1 : Int) (x19_2 : ByteArray) (x19_3 : Option Go.Addr) (x19_4 : Nat) (x19_5 : Nat) =>
        WStore ⟨z1, 0, none⟩ [(.int .i64 x19), (.int .i64 x19_1), (.string x19_2), (.slice x19_3 x19_4 x19_5)] <|
        WStore ⟨z2, 0, none⟩ [(.int .i64 0)] <|
        WRet Q ⟨z1, 0, none⟩ ⟨z2, 0, none⟩))
       (WIf ((a1n : Int) == 2) (WIndex a1a a1n 0 fun q20 =>
         WLoad (Addr.add q20 0) (.agg [(.i .i64), (.i .i64), .s, .sl]) fun (x21 : Int) (x21_1 : Int) (x21_2 : ByteArray) (x21_3 : Option Go.Addr) (x21_4 : Nat) (x21_5 : Nat) =>
         WIndex a1a a1n 1 fun q22 =>
         WLoad (Addr.add q22 4) (.agg [(.i .i64), (.i .i64), .s, .sl]) fun (x23 : Int) (x23_1 : Int) (x23_2 : ByteArray) (x23_3 : Option Go.Addr) (x23_4 : Nat) (x23_5 : Nat) =>
         WCall Tryz.prog (WRec Q ⟨z1, 0, none⟩ ⟨z2, 0, none⟩) 103 #[(.agg #[(.pointer a2), (.int .i64 (if (a3_0 < 0) then 0 else a3_0)), (.string a3_1), (.string a3_2), (.string a3_3)]), (.pointer (some ⟨z16, 0, none⟩)), (.agg #[(.int .i64 x21), (.int .i64 x21_1), (.string x21_2), (.slice x21_3 x21_4 x21_5)]), (.agg #[(.int .i64 x23), (.int .i64 x23_1), (.string x23_2), (.slice x23_3 x23_4 x23_5)])] (WOpen (.one (.agg [(.i .i64), (.i .i64), .s, .sl])) fun (x24 : Int) (x24_1 : Int) (x24_2 : ByteArray) (x24_3 : Option Go.Addr) (x24_4 : Nat) (x24_5 : Nat) =>
         WStore ⟨z1, 0, none⟩ [(.int .i64 x24), (.int .i64 x24_1), (.string x24_2), (.slice x24_3 x24_4 x24_5)] <|
         WStore ⟨z2, 0, none⟩ [(.int .i64 0)] <|
         WRet Q ⟨z1, 0, none⟩ ⟨z2, 0, none⟩))
        (WCall Tryz.prog (WRec Q ⟨z1, 0, none⟩ ⟨z2, 0, none⟩) 104 #[(.agg #[(.pointer a2), (.int .i64 (if (a3_0 < 0) then 0 else a3_0)), (.string a3_1), (.string a3_2), (.string a3_3)]), (.pointer (some ⟨z16, 0, none⟩))] (WOpen (.one (.agg [(.i .i64), (.i .i64), .s, .sl])) fun (x25 : Int) (x25_1 : Int) (x25_2 : ByteArray) (x25_3 : Option Go.Addr) (x25_4 : Nat) (x25_5 : Nat) =>
         WStore ⟨z1, 0, none⟩ [(.int .i64 x25), (.int .i64 x25_1), (.string x25_2), (.slice x25_3 x25_4 x25_5)] <|
         WStore ⟨z2, 0, none⟩ [(.int .i64 0)] <|
         WRet Q ⟨z1, 0, none⟩ ⟨z2, 0, none⟩)))))
     (WNew [(.int .i64 a0_0), (.string a0_1), (.int .i64 a0_2), (.int .i64 a0_3), (.int .i64 a0_4), (.slice a0_5a a0_5n a0_5c), (.slice none 0 0), (.pointer none), (.pointer none), (.pointer none), (.bool false)] 165 fun z26 =>
      WIf ((a1n : Int) == 1) (WIndex a1a a1n 0 fun q27 =>
       WLoad (Addr.add q27 0) (.agg [(.i .i64), (.i .i64), .s, .sl]) fun (x28 : Int) (x28_1 : Int) (x28_2 : ByteArray) (x28_3 : Option Go.Addr) (x28_4 : Nat) (x28_5 : Nat) =>
       WCall Tryz.prog (WRec Q ⟨z1, 0, none⟩ ⟨z2, 0, none⟩) 102 #[(.agg #[(.pointer a2), (.int .i64 (if (a3_0 < 0) then 0 else a3_0)), (.string a3_1), (.string a3_2), (.string a3_3)]), (.pointer (some ⟨z26, 0, none⟩)), (.agg #[(.int .i64 x28), (.int .i64 x28_1), (.string x28_2), (.slice x28_3 x28_4 x28_5)])] (WOpen (.one (.agg [(.i .i64), (.i .i64), .s, .sl])) fun (x29 : Int) (x29_1 : Int) (x29_2 : ByteArray) (x29_3 : Option Go.Addr) (x29_4 : Nat) (x29_5 : Nat) =>
       WStore ⟨z1, 0, none⟩ [(.int .i64 x29), (.int .i64 x29_1), (.string x29_2), (.slice x29_3 x29_4 x29_5)] <|
       WStore ⟨z2, 0, none⟩ [(.int .i64 0)] <|
       WRet Q ⟨z1, 0, none⟩ ⟨z2, 0, none⟩))
      (WIf ((a1n : Int) == 2) (WIndex a1a a1n 0 fun q30 =>
        WLoad (Addr.add q30 0) (.agg [(.i .i64), (.i .i64), .s, .sl]) fun (x31 : Int) (x31_1 : Int) (x31_2 : ByteArray) (x31_3 : Option Go.Addr) (x31_4 : Nat) (x31_5 : Nat) =>
        WIndex a1a a1n 1 fun q32 =>
        WLoad (Addr.add q32 4) (.agg [(.i .i64), (.i .i64), .s, .sl]) fun (x33 : Int) (x33_1 : Int) (x33_2 : ByteArray) (x33_3 : Option Go.Addr) (x33_4 : Nat) (x33_5 : Nat) =>
        WCall Tryz.prog (WRec Q ⟨z1, 0, none⟩ ⟨z2, 0, none⟩) 103 #[(.agg #[(.pointer a2), (.int .i64 (if (a3_0 < 0) then 0 else a3_0)), (.string a3_1), (.string a3_2), (.string a3_3)]), (.pointer (some ⟨z26, 0, none⟩)), (.agg #[(.int .i64 x31), (.int .i64 x31_1), (.string x31_2), (.slice x31_3 x31_4 x31_5)]), (.agg #[(.int .i64 x33), (.int .i64 x33_1), (.string x33_2), (.slice x33_3 x33_4 x33_5)])] (WOpen (.one (.agg [(.i .i64), (.i .i64), .s, .sl])) fun (x34 : Int) (x34_1 : Int) (x34_2 : ByteArray) (x34_3 : Option Go.Addr) (x34_4 : Nat) (x34_5 : Nat) =>
        WStore ⟨z1, 0, none⟩ [(.int .i64 x34), (.int .i64 x34_1), (.string x34_2), (.slice x34_3 x34_4 x34_5)] <|
        WStore ⟨z2, 0, none⟩ [(.int .i64 0)] <|
        WRet Q ⟨z1, 0, none⟩ ⟨z2, 0, none⟩))
       (WCall Tryz.prog (WRec Q ⟨z1, 0, none⟩ ⟨z2, 0, none⟩) 104 #[(.agg #[(.pointer a2), (.int .i64 (if (a3_0 < 0) then 0 else a3_0)), (.string a3_1), (.string a3_2), (.string a3_3)]), (.pointer (some ⟨z26, 0, none⟩))] (WOpen (.one (.agg [(.i .i64), (.i .i64), .s, .sl])) fun (x35 : Int) (x35_1 : Int) (x35_2 : ByteArray) (x35_3 : Option Go.Addr) (x35_4 : Nat) (x35_5 : Nat) =>
        WStore ⟨z1, 0, none⟩ [(.int .i64 x35), (.int .i64 x35_1), (.string x35_2), (.slice x35_3 x35_4 x35_5)] <|
        WStore ⟨z2, 0, none⟩ [(.int .i64 0)] <|
        WRet Q ⟨z1, 0, none⟩ ⟨z2, 0, none⟩))))))))))

def h38 : Hints := ⟨[8, 9, 41], [], [], [4, 7, 10]⟩
def ok38 : List Nat := [0, 1, 2, 3, 4, 5, 6, 7, 10, 11, 12, 13, 14, 15, 16, 17, 18, 19, 20, 21, 22, 23, 24, 25, 26, 27, 28, 29, 30, 31, 32, 33, 34, 35, 36, 37, 38, 39, 40, 41, 42, 43, 44, 45, 46, 47, 48, 49, 50, 51, 52, 53, 54, 55, 56, 57, 58, 59, 60, 61, 62, 63, 64, 65]
theorem tie38 (Q : Ending → W) (a0_0 : Int) (a0_1 : ByteArray) (a0_2 : Int) (a0_3 : Int) (a0_4 : Int) (a0_5a : Option Addr) (a0_5n : Nat) (a0_5c : Nat) (a1a : Option Addr) (a1n : Nat) (a1c : Nat) (a2 : Option Addr) (a3_0 : Int) (a3_1 : ByteArray) (a3_2 : ByteArray) (a3_3 : ByteArray) : funD Tryz.prog tab Q h38 Tryz.f38 101 8 9 31 ok38 [.v (.agg ⟨[(.int .i64 a0_0), (.string a0_1), (.int .i64 a0_2), (.int .i64 a0_3), (.int .i64 a0_4), (.slice a0_5a a0_5n a0_5c)]⟩), .v (.slice a1a a1n a1c), .v (.pointer a2), .v (.agg ⟨[(.int .i64 a3_0), (.string a3_1), (.string a3_2), (.string a3_3)]⟩)] = W38 Q a0_0 a0_1 a0_2 a0_3 a0_4 a0_5a a0_5n a0_5c a1a a1n a1c a2 a3_0 a3_1 a3_2 a3_3 := by kernel_rfl

def W90r (Q : Ending → W) (a b : Addr) : W :=
  WPrim Tryz.prog (Instr.typeAssert .nilIface 20 149 true) (WOpen (.tup [(.agg [(.i .i64)]), (.l .b)]) fun (x1 : Int) (x1_1 : Bool) =>
  WIf x1_1 (WAnd (WStore a [(.int .i64 0), (.int .i64 0), (.string (ByteArray.mk #[])), (.slice none 0 0)] <|
    WStore b [(.int .i64 x1)] <|
    Q (.returned (.tuple #[])))
   (WStore a [(.int .i64 0), (.int .i64 0), (.string (ByteArray.mk #[])), (.slice none 0 0)] <|
    WStore b [(.int .i64 x1)] <|
    Q (.returned (.tuple #[]))))
  (Q (.returned (.tuple #[]))))

theorem tie90r (Q : Ending → W) (a b : Addr) : cloW Tryz.prog tab Q ⟨[], [], [], [2]⟩ Tryz.f90 (.v .nilIface) 5 [.adr a, .adr b] = W90r Q a b := by kernel_rfl

def W90p (Q : Ending → W) (a b : Addr) (n : Int) : W :=
  WPrim Tryz.prog (Instr.typeAssert (.iface 149 (.agg #[(.int .i64 n)])) 20 149 true) (WOpen (.tup [(.agg [(.i .i64)]), (.l .b)]) fun (x1 : Int) (x1_1 : Bool) =>
  WIf x1_1 (WAnd (WStore a [(.int .i64 0), (.int .i64 0), (.string (ByteArray.mk #[])), (.slice none 0 0)] <|
    WStore b [(.int .i64 x1)] <|
    Q (.returned (.tuple #[])))
   (WStore a [(.int .i64 0), (.int .i64 0), (.string (ByteArray.mk #[])), (.slice none 0 0)] <|
    WStore b [(.int .i64 x1)] <|
    Q (.returned (.tuple #[]))))
  (Q (.returned (.tuple #[]))))

theorem tie90p (Q : Ending → W) (a b : Addr) (n : Int) : cloW Tryz.prog tab Q ⟨[], [], [], [2]⟩ Tryz.f90 (.v (.iface 149 (.agg ⟨[.int .i64 n]⟩))) 5 [.adr a, .adr b] = W90p Q a b n := by kernel_rfl

def W101r (Q : Ending → W) (a b : Addr) : W :=
  WPrim Tryz.prog (Instr.typeAssert .nilIface 20 149 true) (WOpen (.tup [(.agg [(.i .i64)]), (.l .b)]) fun (x1 : Int) (x1_1 : Bool) =>
  WIf x1_1 (WAnd (WStore a [(.int .i64 0), (.int .i64 0), (.string (ByteArray.mk #[])), (.slice none 0 0)] <|
    WStore b [(.int .i64 x1)] <|
    Q (.returned (.tuple #[])))
   (WStore a [(.int .i64 0), (.int .i64 0), (.string (ByteArray.mk #[])), (.slice none 0 0)] <|
    WStore b [(.int .i64 x1)] <|
    Q (.returned (.tuple #[]))))
  (Q (.returned (.tuple #[]))))

theorem tie101r (Q : Ending → W) (a b : Addr) : cloW Tryz.prog tab Q ⟨[], [], [], [2]⟩ Tryz.f101 (.v .nilIface) 5 [.adr a, .adr b] = W101r Q a b := by kernel_rfl

def W101p (Q : Ending → W) (a b : Addr) (n : Int) : W :=
  WPrim Tryz.prog (Instr.typeAssert (.iface 149 (.agg #[(.int .i64 n)])) 20 149 true) (WOpen (.tup [(.agg [(.i .i64)]), (.l .b)]) fun (x1 : Int) (x1_1 : Bool) =>
  WIf x1_1 (WAnd (WStore a [(.int .i64 0), (.int .i64 0), (.string (ByteArray.mk #[])), (.slice none 0 0)] <|
    WStore b [(.int .i64 x1)] <|
    Q (.returned (.tuple #[])))
   (WStore a [(.int .i64 0), (.int .i64 0), (.string (ByteArray.mk #[])), (.slice none 0 0)] <|
    WStore b [(.int .i64 x1)] <|
    Q (.returned (.tuple #[]))))
  (Q (.returned (.tuple #[]))))

theorem tie101p (Q : Ending → W) (a b : Addr) (n : Int) : cloW Tryz.prog tab Q ⟨[], [], [], [2]⟩ Tryz.f101 (.v (.iface 149 (.agg ⟨[.int .i64 n]⟩))) 5 [.adr a, .adr b] = W101p Q a b n := by kernel_rfl

theorem assertNil (w : World) : (Instr.typeAssert .nilIface 20 149 true).run Tryz.prog w = .ok (.tuple #[.agg #[.int .i64 0], .bool false]) w := by
  have h : (Tryz.prog.info? 149).map (·.zero) = some (some (.agg #[.int .i64 0])) := by kernel_rfl
  have hu : (match Tryz.prog.underlying 149 with | some (.struct _) => true | _ => false) = true := by kernel_rfl
  cases hu' : Tryz.prog.underlying 149 with
  | none => rw [hu'] at hu; cases hu
  | some d =>
    rw [hu'] at hu
    cases d <;> simp only [Bool.false_eq_true] at hu
    cases hi : Tryz.prog.info? 149 with
    | none => rw [hi] at h; cases h
    | some i =>
      rw [hi] at h
      simp only [Option.map_some, Option.some.injEq] at h
      simp [Instr.typeAssert, run_underlying hu', zeroValue, typeInfo, hi, h, Result.andThen]
theorem assertStop (n : Int) (w : World) : (Instr.typeAssert (.iface 149 (.agg #[.int .i64 n])) 20 149 true).run Tryz.prog w = .ok (.tuple #[.agg #[.int .i64 n], .bool true]) w := by
  have hu : (match Tryz.prog.underlying 149 with | some (.struct _) => true | _ => false) = true := by kernel_rfl
  cases hu' : Tryz.prog.underlying 149 with
  | none => rw [hu'] at hu; cases hu
  | some d =>
    rw [hu'] at hu
    cases d <;> simp only [Bool.false_eq_true] at hu
    simp [Instr.typeAssert, run_underlying hu', Result.andThen]


theorem clo90 : CloOk Tryz.prog 90 := by
  have hbody : ∃ (ops : Array Oper) (o : Oper) (C : Code), Tryz.f90.body = some ((Code.region 0 ops false).seq C) ∧ ops[0]? = some o ∧ o.op = .call { callee := .builtin .recover, args := #[], argTypes := #[] } ∧ o.dst = some 5 ∧ o.guard = none := ⟨_, _, _, rfl, rfl, rfl, rfl, rfl⟩
  obtain ⟨ops, o, C, h1, h2, h3, h4, h5⟩ := hbody
  have hf : Tryz.prog.funcs[90]? = some Tryz.f90 := by kernel_rfl
  refine ⟨fun a b H w on => ?_, fun a b n K H w on h => ?_⟩
  · refine (cloW_sound (Q := fun _ H' => H.le H') (r := .v .nilIface) (args := [.adr a, .adr b]) mixed tabOk hf h1 h2 h3 h4 h5 rfl (fun β => rfl) recd_ret rfl on (by
      rw [tie90r]
      intro w on
      exact ⟨_, w, H, assertNil w, Up.refl on, ⟨(((0 : Int), ()), false, ()), rfl, (fun h => by cases h), fun _ => HP.le.refl H⟩⟩)).mono ?_
    rintro e u' w' ⟨h1, h2, H', h3, h4⟩
    exact ⟨h1, h2, h3.forget h4⟩
  · refine (cloW_sound (Q := fun _ H' => K H') (r := .v (.iface 149 (.agg ⟨[.int .i64 n]⟩))) (args := [.adr a, .adr b]) mixed tabOk hf h1 h2 h3 h4 h5 rfl (fun β => rfl) (recd_pan _) rfl on (by
      rw [tie90p]
      intro w on
      exact ⟨_, w, H, assertStop n w, Up.refl on, ⟨((n, ()), true, ()), rfl, (fun _ => ⟨h, h⟩), fun h => by cases h⟩⟩)).mono ?_
    rintro e u' w' ⟨h1, rfl, H', h3, h4⟩
    exact ⟨h1, rfl, H', h3, h4⟩

theorem clo101 : CloOk Tryz.prog 101 := by
  have hbody : ∃ (ops : Array Oper) (o : Oper) (C : Code), Tryz.f101.body = some ((Code.region 0 ops false).seq C) ∧ ops[0]? = some o ∧ o.op = .call { callee := .builtin .recover, args := #[], argTypes := #[] } ∧ o.dst = some 5 ∧ o.guard = none := ⟨_, _, _, rfl, rfl, rfl, rfl, rfl⟩
  obtain ⟨ops, o, C, h1, h2, h3, h4, h5⟩ := hbody
  have hf : Tryz.prog.funcs[101]? = some Tryz.f101 := by kernel_rfl
  refine ⟨fun a b H w on => ?_, fun a b n K H w on h => ?_⟩
  · refine (cloW_sound (Q := fun _ H' => H.le H') (r := .v .nilIface) (args := [.adr a, .adr b]) mixed tabOk hf h1 h2 h3 h4 h5 rfl (fun β => rfl) recd_ret rfl on (by
      rw [tie101r]
      intro w on
      exact ⟨_, w, H, assertNil w, Up.refl on, ⟨(((0 : Int), ()), false, ()), rfl, (fun h => by cases h), fun _ => HP.le.refl H⟩⟩)).mono ?_
    rintro e u' w' ⟨h1, h2, H', h3, h4⟩
    exact ⟨h1, h2, h3.forget h4⟩
  · refine (cloW_sound (Q := fun _ H' => K H') (r := .v (.iface 149 (.agg ⟨[.int .i64 n]⟩))) (args := [.adr a, .adr b]) mixed tabOk hf h1 h2 h3 h4 h5 rfl (fun β => rfl) (recd_pan _) rfl on (by
      rw [tie101p]
      intro w on
      exact ⟨_, w, H, assertStop n w, Up.refl on, ⟨((n, ()), true, ()), rfl, (fun _ => ⟨h, h⟩), fun h => by cases h⟩⟩)).mono ?_
    rintro e u' w' ⟨h1, rfl, H', h3, h4⟩
    exact ⟨h1, rfl, H', h3, h4⟩

theorem cells3839 : CellsOk Tryz.prog 38 39 := by
  have k38 : known tab 38 = true := by kernel_rfl
  have k39 : known tab 39 = true := by kernel_rfl
  have s38 : sizeD tab 38 = 4 := by kernel_rfl
  have s39 : sizeD tab 39 = 1 := by kernel_rfl
  have a38 : isAggD tab 38 = true := by kernel_rfl
  have a39 : isAggD tab 39 = false := by kernel_rfl
  refine ⟨fun w a k n s x l c h => ?_, fun w b e h => ?_⟩
  · have := loadVar_run tabOk k38 (r := .agg ⟨[Value.int .i64 k, .int .i64 n, .string s, .slice x l c]⟩) h (.inl ⟨a38, by rw [s38]; rfl, rfl⟩)
    simpa [Instr.loadAt, Instr.sureAddr] using this
  · have := loadVar_run tabOk k39 (ad := b) (w := w) (cs := [Value.int .i64 e]) (r := .int .i64 e) (fun i v hi => by
      cases i with
      | zero => simp at hi; subst hi; simpa [Addr.add] using h
      | succ i => simp at hi) (.inr ⟨a39, rfl⟩)
    simpa [Instr.loadAt, Instr.sureAddr] using this

theorem spec27 {Q : Ending → W} {a0 : Option Addr} {a1 : Option Addr} {a2_0 : Int} {a2_1 : ByteArray} {a2_2 : ByteArray} {a2_3 : ByteArray} {H : HP} (h : W27 Q a0 a1 a2_0 a2_1 a2_2 a2_3 H) : Go.Den.Spec Tryz.prog 27 #[(.pointer a0), (.pointer a1), (.agg ⟨[(.int .i64 a2_0), (.string a2_1), (.string a2_2), (.string a2_3)]⟩)] H Q := by
  have hbody : ∃ (A B C : Code) (id : Nat) (o1 o2 : Oper), Tryz.f27.body = some (A.seq (B.seq ((Code.region id #[o1, o2] false).seq C))) ∧ o1.op = .makeFunc (.func 90) #[] #[.tmp 6, .tmp 7] ∧ o1.dst = some 12 ∧ o1.guard = none ∧
      o2.op = .defer { callee := .value (.tmp 12), args := #[], argTypes := #[] } ∧ o2.dst = none ∧ o2.guard = none := ⟨_, _, _, _, _, _, rfl, rfl, rfl, rfl, rfl, rfl, rfl⟩
  obtain ⟨A, B, C, id, o1, o2, h1, h2, h3, h4, h5, h6, h7⟩ := hbody
  exact funD_sound (fn := Tryz.f27) (hs := h27) (args := [.v (.pointer a0), .v (.pointer a1), .v (.agg ⟨[(.int .i64 a2_0), (.string a2_1), (.string a2_2), (.string a2_3)]⟩)]) mixed tabOk (by kernel_rfl) h1 (by kernel_rfl) h2 h3 h4 h5 h6 h7 rfl cells3839 clo90 ⟨Tryz.f90, by kernel_rfl, by kernel_rfl, by decide⟩ (by decide) (by decide) (by decide) (by kernel_rfl) (by kernel_rfl) rfl (by rw [tie27]; exact h)

theorem spec38 {Q : Ending → W} {a0_0 : Int} {a0_1 : ByteArray} {a0_2 : Int} {a0_3 : Int} {a0_4 : Int} {a0_5a : Option Addr} {a0_5n : Nat} {a0_5c : Nat} {a1a : Option Addr} {a1n : Nat} {a1c : Nat} {a2 : Option Addr} {a3_0 : Int} {a3_1 : ByteArray} {a3_2 : ByteArray} {a3_3 : ByteArray} {H : HP} (h : W38 Q a0_0 a0_1 a0_2 a0_3 a0_4 a0_5a a0_5n a0_5c a1a a1n a1c a2 a3_0 a3_1 a3_2 a3_3 H) : Go.Den.Spec Tryz.prog 38 #[(.agg ⟨[(.int .i64 a0_0), (.string a0_1), (.int .i64 a0_2), (.int .i64 a0_3), (.int .i64 a0_4), (.slice a0_5a a0_5n a0_5c)]⟩), (.slice a1a a1n a1c), (.pointer a2), (.agg ⟨[(.int .i64 a3_0), (.string a3_1), (.string a3_2), (.string a3_3)]⟩)] H Q := by
  have hbody : ∃ (A B C : Code) (id : Nat) (o1 o2 : Oper), Tryz.f38.body = some (A.seq (B.seq ((Code.region id #[o1, o2] false).seq C))) ∧ o1.op = .makeFunc (.func 101) #[] #[.tmp 8, .tmp 9] ∧ o1.dst = some 31 ∧ o1.guard = none ∧
      o2.op = .defer { callee := .value (.tmp 31), args := #[], argTypes := #[] } ∧ o2.dst = none ∧ o2.guard = none := ⟨_, _, _, _, _, _, rfl, rfl, rfl, rfl, rfl, rfl, rfl⟩
  obtain ⟨A, B, C, id, o1, o2, h1, h2, h3, h4, h5, h6, h7⟩ := hbody
  exact funD_sound (fn := Tryz.f38) (hs := h38) (args := [.v (.agg ⟨[(.int .i64 a0_0), (.string a0_1), (.int .i64 a0_2), (.int .i64 a0_3), (.int .i64 a0_4), (.slice a0_5a a0_5n a0_5c)]⟩), .v (.slice a1a a1n a1c), .v (.pointer a2), .v (.agg ⟨[(.int .i64 a3_0), (.string a3_1), (.string a3_2), (.string a3_3)]⟩)]) mixed tabOk (by kernel_rfl) h1 (by kernel_rfl) h2 h3 h4 h5 h6 h7 rfl cells3839 clo101 ⟨Tryz.f101, by kernel_rfl, by kernel_rfl, by decide⟩ (by decide) (by decide) (by decide) (by kernel_rfl) (by kernel_rfl) rfl (by rw [tie38]; exact h)
end Go.Proofs.YtmidcnfnmnhifaaGreat
