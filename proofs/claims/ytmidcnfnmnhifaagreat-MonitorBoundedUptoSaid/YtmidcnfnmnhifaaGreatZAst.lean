/-
  Package ast: contracts.
-/
import Derived.Test.YtmidcnfnmnhifaaGreatZRep
namespace Go.Proofs.YtmidcnfnmnhifaaGreat
set_option linter.unusedSectionVars false
set_option linter.unusedSimpArgs false
set_option linter.unusedVariables false
open Go Go.Den
set_option linter.unusedVariables false

def kidsN (k : Int) : Int :=
  if k = 1 ∨ k = 2 ∨ k = 3 ∨ k = 5 ∨ k = 6 ∨ k = 7 ∨ k = 13 ∨ k = 21 then 0
  else if k = 11 ∨ k = 12 ∨ k = 18 ∨ k = 25 ∨ k = 22 ∨ k = 23 then 1
  else if k = 8 ∨ k = 9 ∨ k = 10 ∨ k = 14 ∨ k = 15 ∨ k = 16 ∨ k = 17 ∨ k = 19 ∨ k = 20 ∨ k = 24 then 2
  else if k = 4 then -1 else -2

theorem kids_spec {H : HP} (k : Int) : Pure Tryz.prog 100 #[.int .i64 k] H (.int .i64 (kidsN k)) := by
  refine Pure.of (spec100 ?_)
  unfold W100
  refine ⟨fun _ H' => H' = H ∧ kidsN k = -2, ?_, fun x H' h => ⟨by rw [h.2], by rw [h.1]; exact HP.le.refl H⟩⟩
  iterate 25 refine WIf.intro (fun h => ⟨by rw [eq_of_beq h]; rfl, HP.le.refl H⟩) (fun h => ?_)
  refine ⟨rfl, ?_⟩
  simp only [beq_eq_false_iff_ne, ne_eq] at *
  unfold kidsN
  rw [if_neg (by omega), if_neg (by omega), if_neg (by omega), if_neg (by omega)]

theorem span_spec {H : HP} (k n a b : Int) (s : ByteArray) (p : Option Addr) (l c : Nat) :
    Pure Tryz.prog 255 #[.agg ⟨exCells k s n a b p l c⟩] H (.bool (decide (a ≥ 0) && (decide (b ≥ a) || b == -1))) := by
  refine Pure.of (spec255 (a0_0 := k) (a0_1 := s) (a0_2 := n) (a0_3 := a) (a0_4 := b) (a0_5a := p) (a0_5n := l) (a0_5c := c) ?_)
  exact ⟨rfl, HP.le.refl H⟩

mutual
/-- how many count -/
def Ex.count : Ex → Nat
  | .mk k _ _ _ _ ks => (if k = 4 then 0 else counts ks) + 1
def counts : List Ex → Nat
  | [] => 0
  | e :: es => e.count + counts es
end

theorem counts_append : ∀ es fs : List Ex, counts (es ++ fs) = counts es + counts fs
  | [], fs => by simp [counts]
  | e :: es, fs => by simp only [List.cons_append, counts, counts_append es fs]; omega

mutual
theorem Ex.count_le : ∀ e : Ex, e.count ≤ e.size
  | .mk k _ _ _ _ ks => by
    simp only [Ex.count, Ex.size]
    have := counts_le ks
    split <;> omega
theorem counts_le : ∀ es : List Ex, counts es ≤ sizes es
  | [] => by simp [counts, sizes]
  | e :: es => by
    simp only [counts, sizes]
    have := e.count_le
    have := counts_le es
    omega
end

theorem counts_take (js : List Ex) (i : Nat) : counts (js.take i) ≤ counts js := by
  have := counts_append (js.take i) (js.drop i)
  rw [List.take_append_drop] at this
  omega

theorem size_spec {H : HP} : ∀ (N : Nat) (e : Ex), e.size ≤ N → N < 1000000000000 → ∀ cs, e.At H cs → Pure Tryz.prog 144 #[.agg ⟨cs⟩] H (.int .i64 e.count) := by
  intro N
  induction N with
  | zero => intro e he; have := e.size_pos; omega
  | succ N ih =>
    intro e he hN cs hat
    obtain ⟨k, s, n, a, b, ks⟩ := e
    simp only [Ex.At] at hat
    obtain ⟨p, c, rfl, hks⟩ := hat
    refine Pure.of (spec144 (a0_0 := k) (a0_1 := s) (a0_2 := n) (a0_3 := a) (a0_4 := b) (a0_5a := p) (a0_5n := ks.length) (a0_5c := c) ?_)
    unfold W144
    refine WCall.pure (inner _ _ _ _ _ _ _ _) ?_
    obtain ⟨q, l, m, js, hv, hjs, hl, hd, hsz⟩ : ∃ q l m js, (if k = 4 then Value.slice none 0 0 else .slice p ks.length c) = .slice q l m ∧ ExsAt H js q 0 ∧ l = js.length ∧ (Ex.mk k s n a b ks).count = counts js + 1 ∧ sizes js ≤ sizes ks := by
      by_cases hk : k = 4
      · exact ⟨none, 0, 0, [], by rw [if_pos hk], by simp [ExsAt], rfl, by simp [Ex.count, hk, counts], by simp [sizes]⟩
      · exact ⟨p, ks.length, c, ks, by rw [if_neg hk], hks, rfl, by simp [Ex.count, hk], Nat.le_refl _⟩
    rw [hv, hd]
    simp only [Ex.size] at he
    have hlen := sizes_length js
    have hdl := counts_le js
    refine WOpen.intro (sh := .one (.l .sl)) (q, l, m) ?_
    simp only [Sh.app, Sh1.app, Lf.app]
    refine WLoop.intro (fun x H' => H' = H ∧ ∃ i : Nat, i ≤ l ∧ x = ((((counts (js.take i) + 1 : Nat) : Int), ((i : Int), ())), ())) (fun x => l - x.1.2.1.toNat) ⟨rfl, 0, by omega, by simp [counts]⟩ ?_
    rintro x H' ⟨hH, i, hi, rfl⟩
    rw [hH]
    refine WIf.intro (fun h => ?_) (fun h => ?_)
    · have hlt : i < l := by simpa using h
      have hjl : i < js.length := by omega
      obtain ⟨y, cs, hy, hcs, hat⟩ := hjs.get i js[i] (by simp [hjl])
      refine ⟨y, hy, by simp, by simpa using hlt, ?_⟩
      have hdi : js[i].size ≤ N := by have := sizes_ge js js[i] (List.getElem_mem hjl); omega
      have hcall := ih js[i] hdi (by omega) cs hat
      have htake : counts (js.take (i + 1)) = counts (js.take i) + js[i].count := by
        rw [List.take_succ_eq_append_getElem hjl, counts_append]
        simp [counts]
      have hbound := counts_take js (i + 1)
      generalize js[i] = e' at hat hcall htake hdi
      obtain ⟨k', s', n', a', b', ks'⟩ := e'
      simp only [Ex.At] at hat
      obtain ⟨p', c', rfl, hks'⟩ := hat
      refine WLoad.intro (sh := .agg [(.i .i64), .s, (.i .i64), (.i .i64), (.i .i64), .sl]) (k', s', n', a', b', (p', ks'.length, c'), ()) (by rw [Nat.zero_add] at hcs; exact hcs) ?_
      refine WCall.pure hcall ?_
      refine WOpen.intro (sh := .one (.l (.i .i64))) _ ?_
      have hw : IntKind.wrap .i64 ((i : Int) + 1) = (i : Int) + 1 := IntWalk.i64_in _ ⟨by omega, by omega⟩
      refine ⟨⟨rfl, i + 1, by omega, ?_⟩, ?_⟩
      · simp only [hw, htake]
        congr 2
        refine (IntWalk.i64_in _ ⟨by omega, by omega⟩).trans ?_
        omega
      · simp only [hw]
        omega
    · have hge : l ≤ i := by simpa using h
      have hil : i = js.length := by omega
      subst hil
      refine ⟨?_, HP.le.refl H⟩
      simp only [List.take_length]
end Go.Proofs.YtmidcnfnmnhifaaGreat
