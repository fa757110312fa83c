/-
  What a window remembers is bounded.
-/
import Derived.Test.YtmidcnfnmnhifaaGreatZBnd
namespace Go.Proofs.YtmidcnfnmnhifaaGreat
set_option linter.unusedSectionVars false
set_option linter.unusedSimpArgs false
set_option linter.unusedVariables false
open Go Go.Den
set_option linter.unusedVariables false

theorem nodup_le {l : List Int} : ∀ {V : List Int}, l.Pairwise (· < ·) → (∀ t ∈ l, t ∈ V) → l.length ≤ V.length := by
  induction l with
  | nil => intro V _ _; exact Nat.zero_le _
  | cons x l ih =>
    intro V hp hs
    rw [List.pairwise_cons] at hp
    have hx := hs x (by simp)
    have h1 := ih (V := V.erase x) hp.2 (fun t ht => by
      have hne : t ≠ x := fun h => by have := hp.1 t ht; omega
      exact (List.mem_erase_of_ne hne).2 (hs t (by simp [ht])))
    have h2 := List.length_erase_of_mem hx
    have h3 : 0 < V.length := List.length_pos_of_mem hx
    simp only [List.length_cons]
    omega

/-- the times -/
def tms (d : List (Int × Int)) : List Int := d.map (·.1)
structure WI (hi : Int) (U : List Int) (w : Wi) : Prop where
  h : w.hi = hi
  l0 : 0 ≤ w.last
  l1 : w.last ≤ 9223372036854775807
  up : (tms w.d).Pairwise (· < ·)
  sub : ∀ t ∈ tms w.d, t ∈ U
  top : ∀ t ∈ tms w.d, t ≤ w.last
  one : hi = -1 → w.d.length ≤ 1
  low : hi ≠ -1 → ∀ t ∈ tms w.d, w.last - hi ≤ t

theorem maxI_of {a b : Int} (h : a ≤ b) : maxI a b = b := by
  unfold maxI
  split <;> omega

theorem prune_sub {d : List (Int × Int)} {f t : Int} (h : t ∈ tms (pruneD d f)) : t ∈ tms d := by
  unfold tms at *
  rw [prune_drop] at h
  obtain ⟨c, hc, rfl⟩ := List.mem_map.1 h
  exact List.mem_map.2 ⟨c, List.mem_of_mem_drop hc, rfl⟩
theorem prune_up {d : List (Int × Int)} {f : Int} (h : (tms d).Pairwise (· < ·)) : (tms (pruneD d f)).Pairwise (· < ·) := by
  unfold tms at *
  rw [prune_drop, List.map_drop]
  exact h.sublist (List.drop_sublist _ _)
theorem prune_low {d : List (Int × Int)} {f : Int} (h : (tms d).Pairwise (· < ·)) : ∀ t ∈ tms (pruneD d f), f ≤ t := by
  induction d with
  | nil => intro t ht; simp [pruneD, tms] at ht
  | cons c d ih =>
    intro t ht
    have hp := h
    unfold tms at hp
    rw [List.map_cons, List.pairwise_cons] at hp
    unfold pruneD at ht
    rw [List.dropWhile_cons] at ht
    by_cases hc : c.1 < f
    · simp only [hc, decide_true, if_true] at ht
      exact ih hp.2 t ht
    · simp only [hc, decide_false, Bool.false_eq_true, if_false] at ht
      unfold tms at ht
      rw [List.map_cons, List.mem_cons] at ht
      rcases ht with rfl | ht
      · omega
      · have := hp.1 t ht; omega

theorem push_tms {d : List (Int × Int)} {t : Int} (hup : (tms d).Pairwise (· < ·)) (htop : ∀ u ∈ tms d, u ≤ t) : (tms (pushD d t).1).Pairwise (· < ·) ∧ (∀ u ∈ tms (pushD d t).1, u ∈ tms d ∨ u = t) := by
  unfold pushD
  cases hl : d.getLast? with
  | none =>
    have : d = [] := List.getLast?_eq_none_iff.1 hl
    subst this
    exact ⟨by simp [tms], fun u hu => by simp [tms] at hu; exact .inr hu⟩
  | some c =>
    obtain ⟨d', rfl⟩ := List.getLast?_eq_some_iff.1 hl
    simp only
    have hc := htop c.1 (by simp [tms])
    split
    · omega
    · split
      · rename_i h1 h2
        rw [List.dropLast_concat]
        have e : tms (d' ++ [(c.1, capN c.2)]) = tms (d' ++ [c]) := by simp [tms]
        rw [e]
        exact ⟨hup, fun u hu => .inl hu⟩
      · refine ⟨?_, fun u hu => ?_⟩
        · have e : tms (d' ++ [c] ++ [(t, 1)]) = tms (d' ++ [c]) ++ [t] := by simp [tms]
          rw [e, List.pairwise_append]
          refine ⟨hup, by simp, fun u hu v hv => ?_⟩
          simp only [List.mem_singleton] at hv
          subst hv
          have h1 := htop u hu
          have : u ≤ c.1 := by
            have e2 : tms (d' ++ [c]) = tms d' ++ [c.1] := by simp [tms]
            rw [e2] at hu hup
            rw [List.pairwise_append] at hup
            rcases List.mem_append.1 hu with h | h
            · have := hup.2.2 u h c.1 (by simp); omega
            · simp at h; omega
          omega
        · simp [tms] at hu ⊢
          rcases hu with h | h | h
          · exact .inl (.inl h)
          · exact .inl (.inr h)
          · exact .inr h

section
variable {hi L : Int} {U U' : List Int} {w : Wi}
theorem WI.come (h : WI hi U w) (hL : w.last ≤ L) (hLm : L ≤ 9223372036854775807) (hh : hi = -1 ∨ 0 ≤ hi ∧ hi ≤ 9223372036854775807) (hU : ∀ t ∈ U, t ∈ U') : WI hi U' (w.come L) ∧ (w.come L).last = L := by
  obtain rfl := h.h
  have hm := maxI_of hL
  have h0 := h.l0
  unfold Wi.come
  rw [hm]
  by_cases hn : w.hi = -1
  · rw [if_neg (by simpa using hn)]
    exact ⟨⟨rfl, by show 0 ≤ L; omega, hLm, h.up, fun t ht => hU t (h.sub t ht), fun t ht => Int.le_trans (h.top t ht) hL, h.one, fun hx => absurd hn hx⟩, rfl⟩
  · rw [if_pos hn]
    have hw : IntKind.wrap .i64 (L - w.hi) = L - w.hi := IntWalk.i64_in _ ⟨by omega, by omega⟩
    rw [hw]
    exact ⟨⟨rfl, by show 0 ≤ L; omega, hLm, prune_up h.up, fun t ht => hU t (h.sub t (prune_sub ht)), fun t ht => Int.le_trans (h.top t (prune_sub ht)) hL, fun hx => absurd hx hn, fun _ => prune_low h.up⟩, rfl⟩
theorem WI.put (h : WI hi U w) (hU : w.last ∈ U) (hh : hi = -1 ∨ 0 ≤ hi ∧ hi ≤ 9223372036854775807) : WI hi U w.put ∧ w.put.last = w.last := by
  unfold Wi.put
  split
  · rename_i hc
    obtain ⟨p1, p2⟩ := push_tms h.up h.top
    refine ⟨⟨h.h, h.l0, h.l1, p1, fun t ht => (p2 t ht).elim (h.sub t) fun e => e ▸ hU, fun t ht => (p2 t ht).elim (h.top t) fun e => by simp [e], fun hx => ?_, fun hx t ht => (p2 t ht).elim (h.low hx t) fun e => by simp only [e]; omega⟩, rfl⟩
    rcases hc with hc | hc
    · rw [h.h] at hc; exact absurd hx hc
    · have := pushD_length w.d w.last
      show (pushD w.d w.last).1.length ≤ 1
      omega
  · exact ⟨h, rfl⟩
theorem WI.once (h : WI hi U w) (f : Bool) (hL : w.last ≤ L) (hLm : L ≤ 9223372036854775807) (hh : hi = -1 ∨ 0 ≤ hi ∧ hi ≤ 9223372036854775807) (hU : ∀ t ∈ U, t ∈ U') (hLU : L ∈ U') : WI hi U' (w.once L f) ∧ (w.once L f).last = L := by
  obtain ⟨h1, h2⟩ := h.come hL hLm hh hU
  unfold Wi.once
  cases f
  · exact ⟨h1, h2⟩
  · obtain ⟨h3, h4⟩ := h1.put (by rw [h2]; exact hLU) hh
    exact ⟨h3, h4.trans h2⟩
theorem WI.since (h : WI hi U w) (f g : Bool) (hL : w.last ≤ L) (hLm : L ≤ 9223372036854775807) (hh : hi = -1 ∨ 0 ≤ hi ∧ hi ≤ 9223372036854775807) (hU : ∀ t ∈ U, t ∈ U') (hLU : L ∈ U') : WI hi U' (w.since L f g) ∧ (w.since L f g).last = L := by
  obtain ⟨h1, h2⟩ := h.come hL hLm hh hU
  have h3 : WI hi U' (if f then w.come L else { w.come L with d := [] }) ∧ (if f then w.come L else { w.come L with d := [] }).last = L := by
    cases f
    · exact ⟨⟨h1.h, h1.l0, h1.l1, by simp [tms], fun t ht => by simp [tms] at ht, fun t ht => by simp [tms] at ht, fun _ => Nat.zero_le _, fun _ t ht => by simp [tms] at ht⟩, h2⟩
    · exact ⟨h1, h2⟩
  unfold Wi.since
  cases g
  · exact h3
  · obtain ⟨h4, h5⟩ := h3.1.put (by rw [h3.2]; exact hLU) hh
    exact ⟨h4, h5.trans h3.2⟩
theorem WI.tally (h : WI hi U w) (f : Bool) (hL : w.last ≤ L) (hLm : L ≤ 9223372036854775807) (hh : 0 ≤ hi ∧ hi ≤ 9223372036854775807) (hU : ∀ t ∈ U, t ∈ U') (hLU : L ∈ U') : WI hi U' (w.tally L f) ∧ (w.tally L f).last = L := by
  obtain rfl := h.h
  have hm := maxI_of hL
  have h0 := h.l0
  have hw : IntKind.wrap .i64 (L - w.hi) = L - w.hi := IntWalk.i64_in _ ⟨by omega, by omega⟩
  have h1 : WI w.hi U' { w with last := L, d := pruneD w.d (L - w.hi) } := ⟨rfl, by show 0 ≤ L; omega, hLm, prune_up h.up, fun t ht => hU t (h.sub t (prune_sub ht)), fun t ht => Int.le_trans (h.top t (prune_sub ht)) hL, fun hx => by omega, fun _ => prune_low h.up⟩
  unfold Wi.tally
  rw [hm, hw]
  cases f
  · exact ⟨h1, rfl⟩
  · obtain ⟨p1, p2⟩ := push_tms h1.up h1.top
    exact ⟨⟨rfl, h1.l0, h1.l1, p1, fun t ht => (p2 t ht).elim (h1.sub t) fun e => e ▸ hLU, fun t ht => (p2 t ht).elim (h1.top t) fun e => by simp [e], fun hx => by omega, fun hx t ht => (p2 t ht).elim (h1.low hx t) fun e => by
      have e : t = L := e
      show L - w.hi ≤ t
      omega⟩, rfl⟩

def widthN (L long : Int) (U : List Int) : Nat := (U.filter fun t => decide (L - t ≤ long)).length
/-- so much is remembered at the most -/
theorem WI.width (h : WI hi U w) {long : Int} (hl : w.last = L) (hlong : hi ≤ long) (h0 : 0 ≤ long) : w.d.length ≤ widthN L long U + 1 := by
  by_cases hn : hi = -1
  · have := h.one hn; omega
  · have h1 := nodup_le (V := U.filter fun t => decide (L - t ≤ long)) h.up fun t ht => by
      rw [List.mem_filter]
      have := h.low hn t ht
      exact ⟨h.sub t ht, by simp; omega⟩
    have : (tms w.d).length = w.d.length := by simp [tms]
    unfold widthN
    omega
end
end Go.Proofs.YtmidcnfnmnhifaaGreat
