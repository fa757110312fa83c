/-
  Package slices over expressions: IndexFunc, ContainsFunc.
-/
import Derived.Test.YtmidcnfnmnhifaaGreatZAsu
namespace Go.Proofs.YtmidcnfnmnhifaaGreat
set_option linter.unusedSectionVars false
set_option linter.unusedSimpArgs false
set_option linter.unusedVariables false
open Go Go.Den
set_option linter.unusedVariables false

def idxF (φ : Ex → Bool) (es : List Ex) : Int :=
  match es.findIdx? φ with
  | some i => i
  | none => -1

theorem exsIndex {H : HP} {es : List Ex} {q : Option Addr} (hat : ExsAt H es q 0) (hlen : es.length < 1000000000000) {φ : Ex → Bool} {g : FuncId} {cap : List Value} (c : Nat)
    (hf : ∀ e ∈ es, ∀ cs, e.At H cs → Pure Tryz.prog g ⟨[.agg ⟨cs⟩] ++ cap⟩ H (.bool (φ e))) :
    Pure Tryz.prog 203 #[.slice q es.length c, .func (.func g) #[] ⟨cap⟩] H (.int .i64 (idxF φ es)) := by
  refine Pure.of (spec203 ?_)
  unfold W203
  refine WLoop.intro (fun x H' => H' = H ∧ ∃ i : Nat, i ≤ es.length ∧ (∀ j (h : j < es.length), j < i → φ es[j] = false) ∧ x = (((i : Int), ()), ())) (fun x => es.length - x.1.1.toNat) ⟨rfl, 0, by omega, fun j _ hj => by omega, rfl⟩ ?_
  rintro x H' ⟨hH, i, hi, hall, rfl⟩
  rw [hH]
  refine WIf.intro (fun h => ?_) (fun h => ?_)
  · have hlt : i < es.length := by have : (i : Int) < es.length := of_decide_eq_true h; omega
    obtain ⟨y, cs, hy, hcs, hat'⟩ := hat.get i es[i] (by simp [hlt])
    refine ⟨y, hy, by simp, by simpa using hlt, ?_⟩
    have hcall := hf es[i] (List.getElem_mem hlt) cs hat'
    have hno : φ es[i] = false → ∀ j (h : j < es.length), j < i + 1 → φ es[j] = false := by
      intro h0 j hj hji
      by_cases e : j = i
      · subst e; exact h0
      · exact hall j hj (by omega)
    have hyes : φ es[i] = true → idxF φ es = i := by
      intro h0
      have : es.findIdx? φ = some i := List.findIdx?_eq_some_iff_getElem.2 ⟨hlt, h0, fun j hj => by simp [hall j (by omega) hj]⟩
      unfold idxF
      rw [this]
    generalize es[i] = e' at hat' hcall hno hyes
    obtain ⟨k', s', n', a', b', ks'⟩ := e'
    simp only [Ex.At] at hat'
    obtain ⟨p', c', rfl, hks'⟩ := hat'
    refine WLoad.intro (sh := .agg [(.i .i64), .s, (.i .i64), (.i .i64), (.i .i64), .sl]) (k', s', n', a', b', (p', ks'.length, c'), ()) (by rw [Nat.zero_add] at hcs; exact hcs) ?_
    refine WCall.pure hcall (WOpen.b ?_)
    refine WIf.intro (fun h => ?_) (fun h => ?_)
    · exact ⟨by rw [hyes h], HP.le.refl H⟩
    · have hw : IntKind.wrap .i64 ((i : Int) + 1) = (i : Int) + 1 := IntWalk.i64_in _ ⟨by omega, by omega⟩
      refine ⟨⟨rfl, i + 1, by omega, hno h, ?_⟩, ?_⟩
      · simp only [hw]
        rfl
      · simp only [hw]
        omega
  · have hge : i = es.length := by have : ¬ (i : Int) < es.length := of_decide_eq_false h; omega
    refine ⟨?_, HP.le.refl H⟩
    have : es.findIdx? φ = none := by
      rw [List.findIdx?_eq_none_iff]
      intro e he
      obtain ⟨j, hj, rfl⟩ := List.getElem_of_mem he
      simp [hall j hj (by omega)]
    unfold idxF
    rw [this]

theorem idxF_any (φ : Ex → Bool) (es : List Ex) : decide (idxF φ es ≥ 0) = es.any φ := by
  unfold idxF
  cases h : es.findIdx? φ with
  | some i =>
    obtain ⟨h1, h2, _⟩ := List.findIdx?_eq_some_iff_getElem.1 h
    have : es.any φ = true := List.any_eq_true.2 ⟨es[i], List.getElem_mem h1, h2⟩
    rw [this]
    simp
  | none =>
    rw [List.findIdx?_eq_none_iff] at h
    have : es.any φ = false := List.any_eq_false.2 fun e he => by simp [h e he]
    rw [this]
    rfl

theorem exsContains {H : HP} {es : List Ex} {q : Option Addr} (hat : ExsAt H es q 0) (hlen : es.length < 1000000000000) {φ : Ex → Bool} {g : FuncId} {cap : List Value} (c : Nat)
    (hf : ∀ e ∈ es, ∀ cs, e.At H cs → Pure Tryz.prog g ⟨[.agg ⟨cs⟩] ++ cap⟩ H (.bool (φ e))) :
    Pure Tryz.prog 132 #[.slice q es.length c, .func (.func g) #[] ⟨cap⟩] H (.bool (es.any φ)) := by
  refine Pure.of (spec132 ?_)
  refine WCall.pure (exsIndex hat hlen c hf) (WOpen.i ?_)
  exact ⟨by rw [← idxF_any], HP.le.refl H⟩
end Go.Proofs.YtmidcnfnmnhifaaGreat
