/-
  Loops that count; words for values.
-/
import Derived.Test.YtmidcnfnmnhifaaGreatZAsx
import Derived.Test.YtmidcnfnmnhifaaGreatZMem
namespace Go.Den
set_option linter.unusedSectionVars false
set_option linter.unusedSimpArgs false
set_option linter.unusedVariables false
open Go
set_option linter.unusedVariables false
section
variable {P : Program} {fn : FuncId} {args : Array Value} {H : HP} {Q : Ending → W}

/-- a loop that counts up to n; its state tells where it is -/
theorem WLoop.run {σ : Type} {x₀ : σ} {body : σ → (σ → W) → W} (n : Nat) (idx : σ → Nat) (I : Nat → σ → HP → Prop) (s : Nat) (h0 : I s x₀ H) (hs : s ≤ n) (hidx : ∀ i x H, I i x H → idx x = i)
    (h : ∀ i x H1 again, s ≤ i → i ≤ n → I i x H1 → (∀ x' H', i < n → I (i + 1) x' H' → again x' H') → body x again H1) : WLoop x₀ body H := by
  refine ⟨fun x H => ∃ i, s ≤ i ∧ i ≤ n ∧ I i x H, fun x _ => n - idx x, ⟨s, Nat.le_refl _, hs, h0⟩, ?_⟩
  rintro x H1 ⟨i, hsi, hi, hI⟩
  refine h i x H1 _ hsi hi hI fun x' H' hlt hI' => ⟨⟨i + 1, by omega, by omega, hI'⟩, ?_⟩
  show n - idx x' < n - idx x
  rw [hidx _ _ _ hI, hidx _ _ _ hI']
  omega

/-- a loop whose one variable is the count, and that changes nothing -/
theorem WLoop.up {body : ((Int × Unit) × Unit) → (((Int × Unit) × Unit) → W) → W} (n s : Nat) (I : Nat → Prop) (h0 : I s) (hs : s ≤ n)
    (h : ∀ i again, s ≤ i → i ≤ n → I i → (i < n → I (i + 1) → again ((((i + 1 : Nat) : Int), ()), ()) H) → body (((i : Int), ()), ()) again H) : WLoop (((s : Int), ()), ()) body H := by
  refine WLoop.run n (fun x => x.1.1.toNat) (fun i x H' => H' = H ∧ x = (((i : Int), ()), ()) ∧ I i) s ⟨rfl, rfl, h0⟩ hs ?_ ?_
  · rintro i x H ⟨_, rfl, _⟩
    simp
  · rintro i x H1 again hsi hi ⟨rfl, rfl, hI⟩ hag
    exact h i again hsi hi hI fun hlt hI' => hag _ _ hlt ⟨rfl, rfl, hI'⟩

theorem wrapS {i : Nat} (h : i < 1000000000000) : IntKind.wrap .i64 ((i : Int) + 1) = ((i + 1 : Nat) : Int) := by
  rw [IntWalk.i64_in _ ⟨by omega, by omega⟩]
  omega
theorem wrapP {i : Nat} (h : i < 1000000000000) (h1 : 1 ≤ i) : IntKind.wrap .i64 ((i : Int) - 1) = ((i - 1 : Nat) : Int) := by
  rw [IntWalk.i64_in _ ⟨by omega, by omega⟩]
  omega

theorem WIf.t {b : Bool} {A B : W} (hb : b = true) (h : A H) : WIf b A B H := ⟨fun _ => h, fun h' => by rw [hb] at h'; cases h'⟩
theorem WIf.f {b : Bool} {A B : W} (hb : b = false) (h : B H) : WIf b A B H := ⟨fun h' => (by rw [hb] at h'; cases h'), fun _ => h⟩
theorem WNonNil.some {a : Addr} {k : Addr → W} (h : k a H) : WNonNil (some a) k H := ⟨a, rfl, h⟩
theorem WIndex.at {x : Addr} {n i : Nat} {k : Addr → W} (hi : i < n) (h : k x H) : WIndex (some x) n (i : Int) k H := ⟨x, rfl, by omega, by omega, h⟩
theorem WIndex.at' {p : Option Addr} {x : Addr} {n i : Nat} {k : Addr → W} (hp : p = some x) (hi : i < n) (h : k x H) : WIndex p n (i : Int) k H := ⟨x, hp, by omega, by omega, h⟩
theorem WOpen.u {body : W} (h : body H) : WOpen (.tup []) body (.tuple #[]) H := ⟨(), rfl, h⟩
theorem WOpen.va {k n : Int} {s : ByteArray} {p : Option Addr} {l c : Nat} {body : Int → Int → ByteArray → Option Addr → Nat → Nat → W} (h : body k n s p l c H) :
    WOpen (.one (.agg [(.i .i64), (.i .i64), .s, .sl])) body (.agg #[.int .i64 k, .int .i64 n, .string s, .slice p l c]) H := ⟨(k, n, s, (p, l, c), ()), rfl, h⟩
theorem WOpen.ex {k n a b : Int} {s : ByteArray} {p : Option Addr} {l c : Nat} {body : Int → ByteArray → Int → Int → Int → Option Addr → Nat → Nat → W} (h : body k s n a b p l c H) :
    WOpen (.one (.agg [(.i .i64), .s, (.i .i64), (.i .i64), (.i .i64), .sl])) body (.agg #[.int .i64 k, .string s, .int .i64 n, .int .i64 a, .int .i64 b, .slice p l c]) H := ⟨(k, s, n, a, b, (p, l, c), ()), rfl, h⟩
theorem WOpen.ib {t : IntKind} {n : Int} {b : Bool} {body : Int → Bool → W} (h : body n b H) : WOpen (.tup [(.l (.i t)), (.l .b)]) body (.tuple #[.int t n, .bool b]) H := ⟨(n, b, ()), rfl, h⟩
theorem WOpen.ii {t u : IntKind} {n m : Int} {body : Int → Int → W} (h : body n m H) : WOpen (.tup [(.l (.i t)), (.l (.i u))]) body (.tuple #[.int t n, .int u m]) H := ⟨(n, m, ()), rfl, h⟩
theorem WOpen.vab {k n : Int} {s : ByteArray} {p : Option Addr} {l c : Nat} {b : Bool} {body : Int → Int → ByteArray → Option Addr → Nat → Nat → Bool → W} (h : body k n s p l c b H) :
    WOpen (.tup [(.agg [(.i .i64), (.i .i64), .s, .sl]), (.l .b)]) body (.tuple #[.agg #[.int .i64 k, .int .i64 n, .string s, .slice p l c], .bool b]) H := ⟨((k, n, s, (p, l, c), ()), b, ()), rfl, h⟩
theorem WOpen.vai {k n : Int} {s : ByteArray} {p : Option Addr} {l c : Nat} {b : Int} {t : IntKind} {body : Int → Int → ByteArray → Option Addr → Nat → Nat → Int → W} (h : body k n s p l c b H) :
    WOpen (.tup [(.agg [(.i .i64), (.i .i64), .s, .sl]), (.l (.i t))]) body (.tuple #[.agg #[.int .i64 k, .int .i64 n, .string s, .slice p l c], .int t b]) H := ⟨((k, n, s, (p, l, c), ()), b, ()), rfl, h⟩
theorem WLoad.i {a : Addr} {t : IntKind} {n : Int} {body : Int → W} (h : H.has a [.int t n]) (hk : body n H) : WLoad a (.l (.i t)) body H := ⟨n, h, hk⟩
theorem WLoad.b {a : Addr} {n : Bool} {body : Bool → W} (h : H.has a [.bool n]) (hk : body n H) : WLoad a (.l .b) body H := ⟨n, h, hk⟩
theorem WLoad.p {a : Addr} {n : Option Addr} {body : Option Addr → W} (h : H.has a [.pointer n]) (hk : body n H) : WLoad a (.l .p) body H := ⟨n, h, hk⟩
theorem WLoad.m {a : Addr} {n : Option Nat} {body : Option Nat → W} (h : H.has a [.map n]) (hk : body n H) : WLoad a (.l .m) body H := ⟨n, h, hk⟩
theorem WLoad.sl {a : Addr} {p : Option Addr} {n c : Nat} {body : Option Addr → Nat → Nat → W} (h : H.has a [.slice p n c]) (hk : body p n c H) : WLoad a (.l .sl) body H := ⟨(p, n, c), h, hk⟩
theorem WLoad.va {a : Addr} {k n : Int} {s : ByteArray} {p : Option Addr} {l c : Nat} {body : Int → Int → ByteArray → Option Addr → Nat → Nat → W}
    (h : H.has a [.int .i64 k, .int .i64 n, .string s, .slice p l c]) (hk : body k n s p l c H) : WLoad a (.agg [(.i .i64), (.i .i64), .s, .sl]) body H := ⟨(k, n, s, (p, l, c), ()), h, hk⟩
theorem WLoad.ii {a : Addr} {n m : Int} {body : Int → Int → W} (h : H.has a [.int .i64 n, .int .i64 m]) (hk : body n m H) : WLoad a (.agg [(.i .i64), (.i .i64)]) body H := ⟨(n, m, ()), h, hk⟩
theorem WLoad.si {a : Addr} {s : ByteArray} {m : Int} {body : ByteArray → Int → W} (h : H.has a [.string s, .int .i64 m]) (hk : body s m H) : WLoad a (.agg [.s, (.i .i64)]) body H := ⟨(s, m, ()), h, hk⟩
theorem Pure.call {v : Value} {k : Value → W} (h : Pure P fn args H v) (hk : k v H) : WCall P Q fn args k H := WCall.pure h hk
end

theorem toList_inj {a b : ByteArray} : (a.toList == b.toList) = decide (a = b) := by
  by_cases h : a = b
  · simp [h]
  · simp only [h, decide_false]
    rw [beq_eq_false_iff_ne]
    intro hl
    apply h
    rw [ByteArray.toList_eq, ByteArray.toList_eq] at hl
    cases a; cases b
    simpa using hl
end Go.Den
