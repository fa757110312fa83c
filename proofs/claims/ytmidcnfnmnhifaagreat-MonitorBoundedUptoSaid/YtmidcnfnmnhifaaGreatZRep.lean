/-
  Expressions in memory; depth and size.
-/
import Derived.Test.YtmidcnfnmnhifaaGreatZRul
import Derived.Test.YtmidcnfnmnhifaaGreatZWza
import Derived.Test.YtmidcnfnmnhifaaGreatZWzb
import Derived.Test.YtmidcnfnmnhifaaGreatZWzc
import Derived.IntWalk
namespace Go.Proofs.YtmidcnfnmnhifaaGreat
set_option linter.unusedSectionVars false
set_option linter.unusedSimpArgs false
set_option linter.unusedVariables false
open Go Go.Den
set_option linter.unusedVariables false

/-- an expression -/
inductive Ex where
  | mk (k : Int) (s : ByteArray) (n a b : Int) (kids : List Ex)

mutual
def Ex.depth : Ex → Nat
  | .mk k _ _ _ _ ks => (if k = 4 then 0 else depths ks) + 1
def depths : List Ex → Nat
  | [] => 0
  | e :: es => max e.depth (depths es)
end

mutual
def Ex.size : Ex → Nat
  | .mk _ _ _ _ _ ks => sizes ks + 1
def sizes : List Ex → Nat
  | [] => 0
  | e :: es => e.size + sizes es
end

mutual
theorem Ex.depth_le : ∀ e : Ex, e.depth ≤ e.size
  | .mk k _ _ _ _ ks => by
    simp only [Ex.depth, Ex.size]
    have := depths_le ks
    split <;> omega
theorem depths_le : ∀ es : List Ex, depths es ≤ sizes es
  | [] => by simp [depths, sizes]
  | e :: es => by
    simp only [depths, sizes]
    have := e.depth_le
    have := depths_le es
    omega
end

theorem sizes_ge : ∀ (es : List Ex) (e : Ex), e ∈ es → e.size ≤ sizes es
  | e' :: es, e, h => by
    simp only [sizes]
    cases h with
    | head => omega
    | tail _ h => have := sizes_ge es e h; omega

theorem Ex.size_pos (e : Ex) : 1 ≤ e.size := by cases e; simp [Ex.size]

theorem sizes_length : ∀ es : List Ex, es.length ≤ sizes es
  | [] => by simp
  | e :: es => by
    simp only [sizes, List.length_cons]
    have := e.size_pos
    have := sizes_length es
    omega

/-- cells of an expression -/
def exCells (k : Int) (s : ByteArray) (n a b : Int) (p : Option Addr) (l c : Nat) : List Value :=
  [.int .i64 k, .string s, .int .i64 n, .int .i64 a, .int .i64 b, .slice p l c]

mutual
/-- an expression lies in these cells -/
def Ex.At (H : HP) : Ex → List Value → Prop
  | .mk k s n a b ks, cs => ∃ p c, cs = exCells k s n a b p ks.length c ∧ ExsAt H ks p 0
def ExsAt (H : HP) : List Ex → Option Addr → Nat → Prop
  | [], _, _ => True
  | e :: es, p, i => (∃ x cs, p = some x ∧ H.has (x.add (i * 6)) cs ∧ e.At H cs) ∧ ExsAt H es p (i + 1)
end

theorem ExsAt.get {H : HP} {p : Option Addr} : ∀ {es : List Ex} {i : Nat}, ExsAt H es p i → ∀ (j : Nat) (e : Ex), es[j]? = some e → ∃ x cs, p = some x ∧ H.has (x.add ((i + j) * 6)) cs ∧ e.At H cs
  | [], _, _, j, e, h => by simp at h
  | e' :: es, i, hx, 0, e, h => by
    simp only [ExsAt] at hx
    simp at h; subst h
    exact hx.1
  | e' :: es, i, hx, j + 1, e, h => by
    simp only [ExsAt] at hx
    have := ExsAt.get hx.2 j e (by simpa using h)
    rwa [show i + 1 + j = i + (j + 1) by omega] at this

theorem depths_ge : ∀ (es : List Ex) (e : Ex), e ∈ es → e.depth ≤ depths es
  | e' :: es, e, h => by
    simp only [depths]
    cases h with
    | head => omega
    | tail _ h => have := depths_ge es e h; omega

theorem depths_append : ∀ (es fs : List Ex), depths (es ++ fs) = max (depths es) (depths fs)
  | [], fs => by simp [depths]
  | e :: es, fs => by simp only [List.cons_append, depths, depths_append es fs]; omega

theorem wrap64 {n : Int} (h0 : -9223372036854775808 ≤ n) (h1 : n < 9223372036854775808) : IntKind.wrap .i64 n = n := IntWalk.i64_in n ⟨h0, by omega⟩

theorem inner {H : HP} (k n b c : Int) (s : ByteArray) (p : Option Addr) (l m : Nat) :
    Pure Tryz.prog 212 #[.agg #[.int .i64 k, .string s, .int .i64 n, .int .i64 b, .int .i64 c, .slice p l m]] H (if k = 4 then .slice none 0 0 else .slice p l m) := by
  refine Pure.of (spec212 ?_)
  unfold W212
  refine WIf.intro (fun h => ?_) (fun h => ?_)
  · have : k = 4 := by simpa using h
    exact ⟨by rw [if_pos this], HP.le.refl H⟩
  · have : k ≠ 4 := by simpa using h
    exact ⟨by rw [if_neg this], HP.le.refl H⟩

theorem depth_spec {H : HP} : ∀ (N : Nat) (e : Ex), e.size ≤ N → N < 1000000000000 → ∀ cs, e.At H cs → Pure Tryz.prog 143 #[.agg ⟨cs⟩] H (.int .i64 e.depth) := by
  intro N
  induction N with
  | zero => intro e he; have := e.size_pos; omega
  | succ N ih =>
    intro e he hN cs hat
    obtain ⟨k, s, n, a, b, ks⟩ := e
    simp only [Ex.At] at hat
    obtain ⟨p, c, rfl, hks⟩ := hat
    refine Pure.of (spec143 (a0_0 := k) (a0_1 := s) (a0_2 := n) (a0_3 := a) (a0_4 := b) (a0_5a := p) (a0_5n := ks.length) (a0_5c := c) ?_)
    unfold W143
    refine WCall.pure (inner _ _ _ _ _ _ _ _) ?_
    obtain ⟨q, l, m, js, hv, hjs, hl, hd, hsz⟩ : ∃ q l m js, (if k = 4 then Value.slice none 0 0 else .slice p ks.length c) = .slice q l m ∧ ExsAt H js q 0 ∧ l = js.length ∧ (Ex.mk k s n a b ks).depth = depths js + 1 ∧ sizes js ≤ sizes ks := by
      by_cases hk : k = 4
      · exact ⟨none, 0, 0, [], by rw [if_pos hk], by simp [ExsAt], rfl, by simp [Ex.depth, hk, depths], by simp [sizes]⟩
      · exact ⟨p, ks.length, c, ks, by rw [if_neg hk], hks, rfl, by simp [Ex.depth, hk], Nat.le_refl _⟩
    rw [hv, hd]
    simp only [Ex.size] at he
    have hlen := sizes_length js
    have hdl := depths_le js
    refine WOpen.intro (sh := .one (.l .sl)) (q, l, m) ?_
    simp only [Sh.app, Sh1.app, Lf.app]
    refine WLoop.intro (fun x H' => H' = H ∧ ∃ i : Nat, i ≤ l ∧ x = ((((depths (js.take i) : Nat) : Int), ((i : Int), ())), ())) (fun x => l - x.1.2.1.toNat) ⟨rfl, 0, by omega, by simp [depths]⟩ ?_
    rintro x H' ⟨hH, i, hi, rfl⟩
    rw [hH]
    refine WIf.intro (fun h => ?_) (fun h => ?_)
    · have hlt : i < l := by simpa using h
      have hjl : i < js.length := by omega
      obtain ⟨y, cs, hy, hcs, hat⟩ := hjs.get i js[i] (by simp [hjl])
      refine ⟨y, hy, by simp, by simpa using hlt, ?_⟩
      have hdi : js[i].size ≤ N := by have := sizes_ge js js[i] (List.getElem_mem hjl); omega
      have hcall := ih js[i] hdi (by omega) cs hat
      have htake : depths (js.take (i + 1)) = max (depths (js.take i)) js[i].depth := by
        rw [List.take_succ_eq_append_getElem hjl, depths_append]
        simp [depths]
      generalize js[i] = e' at hat hcall htake hdi
      obtain ⟨k', s', n', a', b', ks'⟩ := e'
      simp only [Ex.At] at hat
      obtain ⟨p', c', rfl, hks'⟩ := hat
      refine WLoad.intro (sh := .agg [(.i .i64), .s, (.i .i64), (.i .i64), (.i .i64), .sl]) (k', s', n', a', b', (p', ks'.length, c'), ()) (by rw [Nat.zero_add] at hcs; exact hcs) ?_
      refine WCall.pure hcall ?_
      refine WOpen.intro (sh := .one (.l (.i .i64))) _ ?_
      have hw : IntKind.wrap .i64 ((i : Int) + 1) = (i : Int) + 1 := IntWalk.i64_in _ ⟨by omega, by omega⟩
      refine ⟨⟨rfl, i + 1, by omega, ?_⟩, ?_⟩
      · simp only [hw, htake]
        congr 2
        split <;> omega
      · simp only [hw]
        omega
    · have hge : l ≤ i := by simpa using h
      have hil : i = js.length := by omega
      subst hil
      refine ⟨?_, HP.le.refl H⟩
      simp only [List.take_length]
      congr 2
      refine (IntWalk.i64_in _ ?_).trans (by simp)
      omega
end Go.Proofs.YtmidcnfnmnhifaaGreat
