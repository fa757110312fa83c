/-
  Package lex: contracts.
-/
import Derived.Test.YtmidcnfnmnhifaaGreatZRul
import Derived.Test.YtmidcnfnmnhifaaGreatZWza
import Derived.Test.YtmidcnfnmnhifaaGreatZWzb
import Derived.Test.YtmidcnfnmnhifaaGreatZWzc
import Derived.Laws.Externs
import Derived.IntWalk
namespace Go.Proofs.YtmidcnfnmnhifaaGreat
set_option linter.unusedSectionVars false
set_option linter.unusedSimpArgs false
set_option linter.unusedVariables false
open Go Go.Den
set_option linter.unusedVariables false

def idxN (s : ByteArray) (c : UInt8) : Int :=
  match (List.range s.size).find? fun i => s[i]! == c with
  | some i => i
  | none => -1

theorem index_spec {H : HP} (s : ByteArray) (c : UInt8) : Pure Tryz.prog 299 #[.string s, .int .u8 c.toNat] H (.int .i64 (idxN s c)) := by
  intro w on
  refine .inr ⟨_, w, H, ?_, Up.refl on, rfl, rfl⟩
  rw [run_callFunc_extern (fn := Tryz.f299) (e := Extern.BytealgIndexByte.indexByte) (by kernel_rfl) (by kernel_rfl) (by kernel_rfl) (by kernel_rfl) (by kernel_rfl)]
  have e : Extern.BytealgIndexByte.indexByte #[.string s, .int .u8 c.toNat] = (do
    let b ← Extern.Bytes.bytesOf (.string s)
    let c ← Extern.Bytes.asByte (.int .u8 c.toNat)
    match (List.range b.size).find? fun i => b[i]! == c with
    | some i => pure (goInt i)
    | none => pure (goInt (-1)) : Sem Value) := rfl
  rw [e]
  simp only [Extern.Bytes.bytesOf, Extern.Bytes.asByte, Sem.run_bind, Sem.run_pure, Result.andThen_ok]
  have hc : (Int.toNat ((c.toNat : Nat) : Int)).toUInt8 = c := by simp
  rw [hc]
  unfold idxN
  cases (List.range s.size).find? fun i => s[i]! == c <;> rfl

theorem index285 {H : HP} (s : ByteArray) (c : UInt8) : Pure Tryz.prog 285 #[.string s, .int .u8 c.toNat] H (.int .i64 (idxN s c)) := by
  refine Pure.of (spec285 ?_)
  exact WCall.pure (index_spec s c) (WOpen.i ⟨rfl, HP.le.refl H⟩)

theorem index276 {H : HP} (s : ByteArray) (c : UInt8) : Pure Tryz.prog 276 #[.string s, .int .u8 c.toNat] H (.int .i64 (idxN s c)) := by
  refine Pure.of (spec276 ?_)
  exact WCall.pure (index285 s c) (WOpen.i ⟨rfl, HP.le.refl H⟩)

def plainB (s : ByteArray) : Bool := decide (s.size ≤ 32) && decide (idxN s 34 < 0) && decide (idxN s 10 < 0)

theorem plain_spec {H : HP} (s : ByteArray) : Pure Tryz.prog 253 #[.string s] H (.bool (plainB s)) := by
  refine Pure.of (spec253 ?_)
  unfold W253
  refine WIf.intro (fun h => ?_) (fun h => ?_)
  · refine WCall.pure (index276 s 34) (WOpen.i ?_)
    refine WIf.intro (fun h2 => ?_) (fun h2 => ?_)
    · refine WCall.pure (index276 s 10) (WOpen.i ?_)
      refine ⟨?_, HP.le.refl H⟩
      have h1 : s.size ≤ 32 := by have := of_decide_eq_true h; omega
      have h3 : idxN s 34 < 0 := by simpa using h2
      simp [plainB, h1, h3]
    · have h3 : ¬ idxN s 34 < 0 := by simpa using h2
      exact ⟨by simp [plainB, h3], HP.le.refl H⟩
  · have h1 : ¬ s.size ≤ 32 := by have := of_decide_eq_false h; omega
    exact ⟨by simp [plainB, h1], HP.le.refl H⟩

def letterB (a0 : Int) : Bool :=
  ((decide ((IntKind.wrap .u8 (((BitVec.toNat ((BitVec.ofInt (IntKind.bits .u8) a0) ||| (BitVec.ofInt (IntKind.bits .u8) 32))) : Nat) : Int)) ≥ 97)) && (decide ((IntKind.wrap .u8 (((BitVec.toNat ((BitVec.ofInt (IntKind.bits .u8) a0) ||| (BitVec.ofInt (IntKind.bits .u8) 32))) : Nat) : Int)) ≤ 122))) || (a0 == 95)
def digitB (a0 : Int) : Bool := (decide (a0 ≥ 48)) && (decide (a0 ≤ 57))

theorem letter_spec {H : HP} (c : Int) : Pure Tryz.prog 277 #[.int .u8 c] H (.bool (letterB c)) := Pure.of (spec277 ⟨rfl, HP.le.refl H⟩)
theorem digit_spec {H : HP} (c : Int) : Pure Tryz.prog 278 #[.int .u8 c] H (.bool (digitB c)) := Pure.of (spec278 ⟨rfl, HP.le.refl H⟩)

def nameAt (s : ByteArray) (i : Nat) : Bool := letterB s[i]!.toNat || (i != 0 && digitB s[i]!.toNat)
def nameB (s : ByteArray) : Bool := (List.range s.size).all (nameAt s) && (!(s.toList == (ByteArray.mk #[]).toList) && decide (((s.size : Nat) : Int) ≤ 16))

theorem byte_get {s : ByteArray} {i : Nat} (h : i < s.size) : s[i]? = some s[i]! := by
  rw [getElem?_pos s i h, getElem!_pos s i h]

theorem name_spec {H : HP} (s : ByteArray) (hs : s.size < 1000000000000) : Pure Tryz.prog 254 #[.string s] H (.bool (nameB s)) := by
  refine Pure.of (spec254 ?_)
  unfold W254
  refine WLoop.intro (fun x H' => H' = H ∧ ∃ i : Nat, i ≤ s.size ∧ (∀ j, j < i → nameAt s j = true) ∧ x = (((i : Int), ()), ())) (fun x => s.size - x.1.1.toNat) ⟨rfl, 0, by omega, fun j hj => by omega, rfl⟩ ?_
  rintro x H' ⟨hH, i, hi, hall, rfl⟩
  rw [hH]
  have hw : i < s.size → IntKind.wrap .i64 ((i : Int) + 1) = (i : Int) + 1 := fun h => IntWalk.i64_in _ ⟨by omega, by omega⟩
  have bad : i < s.size → nameAt s i = false → nameB s = false := by
    intro h1 h2
    unfold nameB
    have : (List.range s.size).all (nameAt s) = false := by
      rw [List.all_eq_false]
      exact ⟨i, List.mem_range.2 h1, by simp [h2]⟩
    rw [this]; rfl
  have next : i < s.size → nameAt s i = true → (∃ i' : Nat, i' ≤ s.size ∧ (∀ j, j < i' → nameAt s j = true) ∧ ((IntKind.wrap .i64 ((i : Int) + 1), ()), ()) = (((i' : Int), ()), ())) ∧
      s.size - (IntKind.wrap .i64 ((i : Int) + 1)).toNat < s.size - ((i : Int)).toNat := by
    intro h1 h2
    rw [hw h1]
    refine ⟨⟨i + 1, by omega, fun j hj => ?_, by simp⟩, by omega⟩
    by_cases hji : j = i
    · rw [hji]; exact h2
    · exact hall j (by omega)
  refine WIf.intro (fun h => ?_) (fun h => ?_)
  · have hlt : i < s.size := by have : (i : Int) < s.size := of_decide_eq_true h; omega
    refine ⟨s[i]!, by simp, by simpa using byte_get hlt, ?_⟩
    refine WCall.pure (letter_spec _) (WOpen.b ?_)
    refine WIf.intro (fun hl => ?_) (fun hl => ?_)
    · have hl : letterB s[i]!.toNat = false := by simpa using hl
      refine WIf.intro (fun h0 => ?_) (fun h0 => ?_)
      · have h0 : i = 0 := by simpa using h0
        exact ⟨by rw [bad hlt (by unfold nameAt; rw [hl, h0]; rfl)], HP.le.refl H⟩
      · have h0 : i ≠ 0 := by simpa using h0
        refine ⟨s[i]!, by simp, by simpa using byte_get hlt, ?_⟩
        refine WCall.pure (digit_spec _) (WOpen.b ?_)
        refine WIf.intro (fun hd => ?_) (fun hd => ?_)
        · have hd : digitB s[i]!.toNat = false := by simpa using hd
          exact ⟨by rw [bad hlt (by simp [nameAt, hl, hd])], HP.le.refl H⟩
        · have hd : digitB s[i]!.toNat = true := by simpa using hd
          obtain ⟨n1, n2⟩ := next hlt (by simp [nameAt, hd, h0])
          exact ⟨⟨rfl, n1⟩, n2⟩
    · have hl : letterB s[i]!.toNat = true := by simpa using hl
      obtain ⟨n1, n2⟩ := next hlt (by simp [nameAt, hl])
      exact ⟨⟨rfl, n1⟩, n2⟩
  · have hge : i = s.size := by have : ¬ (i : Int) < s.size := of_decide_eq_false h; omega
    refine ⟨?_, HP.le.refl H⟩
    have : (List.range s.size).all (nameAt s) = true := by
      rw [List.all_eq_true]
      intro j hj
      exact hall j (by rw [hge]; exact List.mem_range.1 hj)
    unfold nameB
    rw [this]
    rfl
end Go.Proofs.YtmidcnfnmnhifaaGreat
