/-
  Package deque: copies, sums, and what is taken away.
-/
import Derived.Test.YtmidcnfnmnhifaaGreatZDeu
import Derived.Laws.Slices
import Derived.Laws.CopyRow
namespace Go.Den
set_option linter.unusedSectionVars false
set_option linter.unusedSimpArgs false
set_option linter.unusedVariables false
open Go
section
variable {P : Program} {a : Base} {R : Asr} {F H : HP} {S : List Nat}

theorem SliceTy.slice3 {t e : TypeId} {size bytes : Nat} (T : SliceTy P t e size bytes) {p : Option Addr} {n c : Nat} {l h m : Int} (h0 : 0 ≤ l) (h1 : l ≤ h) (h2 : h ≤ m) (h3 : m ≤ c) {k : Value → W}
    (hk : k (.slice (if m.toNat = l.toNat then p else p.map (·.add (l.toNat * size))) (h.toNat - l.toNat) (m.toNat - l.toNat)) H) :
    WPrim P (Instr.sliceAt t (.slice p n c) (some (.int .i64 l)) (some (.int .i64 h)) (some (.int .i64 m))) k H := by
  obtain ⟨i, z, hi, hz, hs, hzs, hb⟩ := T.info
  intro w on
  refine ⟨_, w, H, ?_, Up.refl on, hk⟩
  have e1 := run_sliceBound (P := P) (w := w) .i64 m c .slice3Acap (by omega) h3
  have e2 := run_sliceBound (P := P) (w := w) .i64 h m.toNat .slice3B (by omega) (by omega)
  have e3 := run_sliceBound (P := P) (w := w) .i64 l h.toNat .slice3C (by omega) (by omega)
  simp [Instr.sliceAt, Instr.slice, run_underlying T.1, Instr.sliceBounds, e1, e2, e3, sizeOf, typeInfo, hi, hs, Result.andThen]

/-- the cells of an own slice, from one on, are cleared: beyond its length -/
theorem SliceTy.clear {t ty e : TypeId} {size bytes : Nat} (T : SliceTy P t e size bytes) (zs : ∀ w : World, ∃ z, (zeroValue e).run P w = .ok z w ∧ z.cells.size = size ∧ ∀ v ∈ z.cells.toList, v.oneCell' = true) (gr : Good R) {p : Option Addr} {n c lo cnt c' g : Nat} {xs : List Value}
    (h : Wd a ((sepc (ownS e size p n c xs) R)) F H S) (hp : p = some ⟨g, 0, none⟩) (h1 : n ≤ lo) (h2 : lo + cnt ≤ c) (h3 : 0 < cnt) {k : Value → W}
    (hk : ∀ H', Wd a ((sepc (ownS e size p n c xs) R)) F H' S → k (.tuple #[]) H') : WPrim P (Builtin.clear_ #[t] ty #[.slice (some ⟨g, lo * size, none⟩) cnt c']) k H := by
  intro w on
  obtain ⟨wd, tr, S1, S2, i1, i2, id, ⟨hx, h4⟩, hR⟩ := h
  rcases h4 with ⟨rfl, rfl, rfl⟩ | ⟨g', cur, rfl, hgS, hg, q1, q2, q3, q4⟩
  · cases hp
  cases hp
  obtain ⟨z, hz, hzs, hz1⟩ := zs w
  have hzc : (Builtin.zeroCells z.cells cnt).size = cnt * size := by rw [size_zeroCells, hzs]
  have hfit : lo * size + (Builtin.zeroCells z.cells cnt).toList.length ≤ cur.size := by
    rw [Array.length_toList, hzc, ← Nat.add_mul, q3]
    exact Nat.mul_le_mul_right _ h2
  have hone : ∀ v ∈ (Builtin.zeroCells z.cells cnt).toList, v.oneCell' = true := by
    intro v hv
    simp only [Builtin.zeroCells, Array.toList_map, List.mem_map, Array.toList_range, List.mem_range] at hv
    obtain ⟨i, hi, rfl⟩ := hv
    have hpos : 0 < z.cells.size := by
      rcases Nat.eq_zero_or_pos z.cells.size with h0 | h0
      · rw [h0] at hi; simp at hi
      · exact h0
    rw [getElem!_pos z.cells _ (Nat.mod_lt _ hpos)]
    exact hz1 _ (by simp)
  have hst := run_storeCells_at P g (lo * size) e (Builtin.zeroCells z.cells cnt).toList 0 cur w (on g _ hg) (by simpa using hfit) hone
  simp only [Nat.add_zero] at hst
  obtain ⟨m, rfl⟩ : ∃ m, cnt = m + 1 := ⟨cnt - 1, by omega⟩
  have hrun : (Builtin.clear_ #[t] ty #[.slice (some ⟨g, lo * size, none⟩) (m + 1) c']).run P w = .ok (.tuple #[]) (w.setRow g (cur.toList.take (lo * size) ++ (Builtin.zeroCells z.cells (m + 1)).toList ++ cur.toList.drop (lo * size + (Builtin.zeroCells z.cells (m + 1)).toList.length)).toArray) := by
    simp [Builtin.clear_, run_underlying T.1, hz, hst, Result.andThen]
  have hset := setRow_heap w g cur (cur.toList.take (lo * size) ++ (Builtin.zeroCells z.cells (m + 1)).toList ++ cur.toList.drop (lo * size + (Builtin.zeroCells z.cells (m + 1)).toList.length)).toArray e (0, 0) (on g _ hg)
  have wst := Wd.set (o := .cells cur e (0, 0)) (o' := .cells (cur.toList.take (lo * size) ++ (Builtin.zeroCells z.cells (m + 1)).toList ++ cur.toList.drop (lo * size + (Builtin.zeroCells z.cells (m + 1)).toList.length)).toArray e (0, 0)) gr ⟨wd, tr, S1, S2, i1, i2, id, ⟨hgS, hg⟩, hR⟩
  refine ⟨_, _, _, hrun, up_set on hset rfl rfl rfl (by simp) (fun b _ hb => setRow_other w g b _ hb) (.inl (by rw [hg]; simp)), hk _ (wst.imp fun hh => star_mono (fun S' h' => ⟨hx, .inr ⟨g, _, rfl, h'.1, h'.2, q1, q2, ?_, ?_⟩⟩) (fun _ h => h) hh)⟩
  · simp only [List.size_toArray, List.length_append, List.length_take, List.length_drop, Array.length_toList]
    rw [Array.length_toList] at hfit
    omega
  · have hn : n * size ≤ lo * size := Nat.mul_le_mul_right _ h1
    rw [List.append_assoc]
    simp only
    rw [List.take_append_of_le_length (by rw [List.length_take, Array.length_toList]; rw [Array.length_toList] at hfit; omega), List.take_take, ← q4]
    congr 1
    omega
end
end Go.Den
