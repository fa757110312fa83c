/-
  Readings of arguments that are bounded in bulk: expressions, declarations, steps.
-/
import Derived.Test.YtmidcnfnmnhifaaGreatZRea
import Derived.Test.YtmidcnfnmnhifaaGreatZMny
namespace Go.Proofs.YtmidcnfnmnhifaaGreat
set_option linter.unusedSectionVars false
set_option linter.unusedSimpArgs false
set_option linter.unusedVariables false
open Go Go.Den Go.ChangeShapes Go.WideShapes Go.ChangeAt Go.RowKit
set_option linter.unusedVariables false
set_option maxRecDepth 100000

theorem bulk_append {H : Type} (l r : List (DataW H)) : Rows.uptoBulkAll (l ++ r) = Rows.uptoBulkAll l + Rows.uptoBulkAll r := by
  induction l with
  | nil => simp [Rows.uptoBulkAll]
  | cons x l ih => simp only [List.cons_append, Rows.uptoBulkAll, ih]; omega
theorem bulk_one {H : Type} (d : DataW H) : 1 ≤ Rows.uptoBulk d := by
  cases d with
  | lit l => cases l <;> simp [Rows.uptoBulk]
  | nil => simp [Rows.uptoBulk]
  | ptr d => simp [Rows.uptoBulk]
  | slice elems spare => simp [Rows.uptoBulk]
  | agg parts => simp [Rows.uptoBulk]
  | iface t d => simp [Rows.uptoBulk]
  | map entries => simp [Rows.uptoBulk]
  | held h => simp [Rows.uptoBulk]
theorem bulk_length {H : Type} (l : List (DataW H)) : l.length ≤ Rows.uptoBulkAll l := by
  induction l with
  | nil => simp [Rows.uptoBulkAll]
  | cons x r ih => have := bulk_one x; simp only [Rows.uptoBulkAll, List.length_cons]; omega
theorem bulk_part {H : Type} {d : DataW H} {l : List (DataW H)} (h : d ∈ l) : Rows.uptoBulk d ≤ Rows.uptoBulkAll l := by
  induction l with
  | nil => cases h
  | cons x r ih =>
    simp only [Rows.uptoBulkAll]
    cases List.mem_cons.1 h with
    | inl e => subst e; omega
    | inr e => have := ih e; omega

theorem choose_list {α : Type} {P : Nat → α → Prop} : ∀ len : Nat, (∀ i, i < len → ∃ e, P i e) → ∃ es : List α, es.length = len ∧ ∀ i e, es[i]? = some e → P i e
  | 0, _ => ⟨[], rfl, fun i e h => by simp at h⟩
  | len + 1, h => by
    obtain ⟨es, h1, h2⟩ := choose_list len fun i hi => h i (by omega)
    obtain ⟨e, he⟩ := h len (by omega)
    refine ⟨es ++ [e], by simp [h1], fun i e' hi => ?_⟩
    rcases Nat.lt_or_ge i es.length with hlt | hge
    · rw [List.getElem?_append_left hlt] at hi
      exact h2 i e' hi
    · rw [List.getElem?_append_right hge] at hi
      have hi0 : i - es.length = 0 := by
        rcases Nat.eq_zero_or_pos (i - es.length) with h | h
        · exact h
        · rw [List.getElem?_eq_none (by simp; omega)] at hi; cases hi
      rw [hi0] at hi
      simp at hi
      subst hi
      have : i = len := by omega
      subst this
      exact he

section
variable {HH : Type} {enc : TypeId × Value → HH} {W : World}

theorem cells_has {a : Addr} {n : Nat} {cs : List Value} (h : W.cells? 0 a n = some cs) : (full W).has a cs := by
  obtain ⟨_, hlen, hcell⟩ := World.cells?_some h
  intro i v hi
  have hlt : i < cs.length := (List.getElem?_eq_some_iff.1 hi).1
  rw [full_cell, hcell i (by omega)]
  exact hi

/-- a slice, its elements read -/
theorem rdSlice {α : Type} {t e : TypeId} {size : Nat} {n : Nat} {cs : List Value} {x : DataW HH × List MemPlace} (ht : Tryz.prog.underlying t = some (.slice e)) (hc : Tryz.prog.cellsOf e = size) {P : List Value → α → Nat → Prop}
    (hel : ∀ n cs y, DataW.trod enc Tryz.prog W 0 (fun _ => true) true n e cs = some y → Rows.uptoBulk y.1 < Rows.uptoBulk x.1 → ∃ u, P cs u (Rows.uptoBulk y.1))
    (h : DataW.trod enc Tryz.prog W 0 (fun _ => true) true n t cs = some x) :
    ∃ p c, ∃ l : List α, cs = [.slice p l.length c] ∧ l.length ≤ c ∧ c ≤ maxLen ∧ l.length < Rows.uptoBulk x.1 ∧ ∃ D : Nat → DataW HH, Rows.uptoBulkAll ((List.range l.length).map D) < Rows.uptoBulk x.1 ∧
      ∀ i u, l[i]? = some u → ∃ a cs', p = some a ∧ (full W).has (a.add (i * size)) cs' ∧ P cs' u (Rows.uptoBulk (D i)) := by
  rcases Go.Deep.open_slice ht h with ⟨rfl, rfl⟩ | ⟨a, len, cap, m, n, D, Pl, rfl, _, hl, hm, hmm, rfl, hi⟩
  · exact ⟨none, 0, [], rfl, Nat.le_refl _, Nat.zero_le _, by simp [Rows.uptoBulk], fun _ => .nil, by simp [Rows.uptoBulk, Rows.uptoBulkAll], fun i x h => by simp at h⟩
  · have hmc : len ≤ m := by rw [hmm]; simpa using hl
    have hb : Rows.uptoBulkAll ((List.range len).map D) < Rows.uptoBulk (DataW.slice ((List.range len).map D) ((List.range (m - len)).map fun j => D (len + j))) := by
      simp only [Rows.uptoBulk]; omega
    have hbl := bulk_length ((List.range len).map D)
    simp only [List.length_map, List.length_range] at hbl
    obtain ⟨l, hll, hg⟩ := choose_list (P := fun i u => ∃ cs', (full W).has (a.add (i * size)) cs' ∧ P cs' u (Rows.uptoBulk (D i))) len (by
      intro i hlt
      obtain ⟨cs', h1, h2⟩ := hi i (by omega)
      rw [hc] at h1
      have hp : Rows.uptoBulk (D i) ≤ Rows.uptoBulkAll ((List.range len).map D) := bulk_part (List.mem_map.2 ⟨i, List.mem_range.2 hlt, rfl⟩)
      obtain ⟨u, hu⟩ := hel n cs' _ h2 (Nat.lt_of_le_of_lt hp hb)
      exact ⟨u, cs', cells_has h1, hu⟩)
    subst hll
    exact ⟨some a, cap, l, rfl, hl, hm, Nat.lt_of_le_of_lt hbl hb, D, hb, fun i u hu => let ⟨cs', h1, h2⟩ := hg i u hu; ⟨a, cs', rfl, h1, h2⟩⟩

theorem sizes_bulk {D : Nat → DataW HH} : ∀ (es : List Ex) (s : Nat), (∀ i e, es[i]? = some e → e.size ≤ Rows.uptoBulk (D (s + i))) → sizes es ≤ Rows.uptoBulkAll ((List.range' s es.length).map D)
  | [], s, _ => by simp [sizes]
  | e :: es, s, h => by
    have h0 := h 0 e rfl
    have h1 := sizes_bulk es (s + 1) fun i e' hi => by
      have := h (i + 1) e' (by simpa using hi)
      rwa [show s + (i + 1) = s + 1 + i by omega] at this
    simp only [sizes, List.length_cons, List.range'_succ, List.map_cons, Rows.uptoBulkAll]
    simp only [Nat.add_zero] at h0
    omega
theorem shorts_of : ∀ (es : List Ex), (∀ e ∈ es, e.Short) → Shorts es
  | [], _ => by simp [Shorts]
  | e :: es, h => by
    simp only [Shorts]
    exact ⟨h e (by simp), shorts_of es fun e' he => h e' (by simp [he])⟩

mutual
/-- the numbers fit -/
def Ex.In : Ex → Prop
  | .mk _ _ n a b ks => I64 n ∧ I64 a ∧ I64 b ∧ Ins ks
def Ins : List Ex → Prop
  | [] => True
  | e :: es => e.In ∧ Ins es
end
theorem ins_of : ∀ (es : List Ex), (∀ e ∈ es, e.In) → Ins es
  | [], _ => by simp [Ins]
  | e :: es, h => by
    simp only [Ins]
    exact ⟨h e (by simp), ins_of es fun e' he => h e' (by simp [he])⟩

theorem rdExIn : ∀ (b : Nat) (n : Nat) (cs : List Value) (x : DataW HH × List MemPlace), DataW.trod enc Tryz.prog W 0 (fun _ => true) true n 24 cs = some x → Rows.uptoBulk x.1 ≤ b → b < 1000000000000 →
    ∃ e : Ex, e.At (full W) cs ∧ e.size ≤ Rows.uptoBulk x.1 ∧ e.Short ∧ e.In := by
  intro b
  induction b with
  | zero => intro n cs x _ h; have := bulk_one x.1; omega
  | succ b ih =>
    intro n cs x h hb hbb
    obtain ⟨xs, n', _, rfl, hl, hlen, hf⟩ := DataW.trod_struct Tryz.underlying24 h
    rw [cellsOf24] at hl
    match cs, hl with
    | [c0, c1, c2, c3, c4, c5], _ =>
      match xs, hlen with
      | [y0, y1, y2, y3, y4, y5], _ =>
        have f0 : DataW.trod enc Tryz.prog W 0 (fun _ => true) true n' 3 (List.take (Tryz.prog.cellsOf 3) (List.drop 0 [c0, c1, c2, c3, c4, c5])) = some y0 := hf 0 _ rfl
        rw [cellsOf3] at f0
        have f1 : DataW.trod enc Tryz.prog W 0 (fun _ => true) true n' 9 (List.take (Tryz.prog.cellsOf 9) (List.drop 1 [c0, c1, c2, c3, c4, c5])) = some y1 := hf 1 _ rfl
        rw [cellsOf9] at f1
        have f2 : DataW.trod enc Tryz.prog W 0 (fun _ => true) true n' 2 (List.take (Tryz.prog.cellsOf 2) (List.drop 2 [c0, c1, c2, c3, c4, c5])) = some y2 := hf 2 _ rfl
        rw [cellsOf2] at f2
        have f3 : DataW.trod enc Tryz.prog W 0 (fun _ => true) true n' 2 (List.take (Tryz.prog.cellsOf 2) (List.drop 3 [c0, c1, c2, c3, c4, c5])) = some y3 := hf 3 _ rfl
        rw [cellsOf2] at f3
        have f4 : DataW.trod enc Tryz.prog W 0 (fun _ => true) true n' 2 (List.take (Tryz.prog.cellsOf 2) (List.drop 4 [c0, c1, c2, c3, c4, c5])) = some y4 := hf 4 _ rfl
        rw [cellsOf2] at f4
        have f5 : DataW.trod enc Tryz.prog W 0 (fun _ => true) true n' 22 (List.take (Tryz.prog.cellsOf 22) (List.drop 5 [c0, c1, c2, c3, c4, c5])) = some y5 := hf 5 _ rfl
        rw [cellsOf22] at f5
        obtain ⟨k, hk, _⟩ := DataW.trod_int Tryz.underlying3 f0
        obtain ⟨s, hs, hy1, hsz⟩ := DataW.trod_string Tryz.underlying9 f1
        obtain ⟨m, hm, _, w2⟩ := DataW.trod_int Tryz.underlying2 f2
        obtain ⟨lo, hlo, _, w3⟩ := DataW.trod_int Tryz.underlying2 f3
        obtain ⟨hi, hhi, _, w4⟩ := DataW.trod_int Tryz.underlying2 f4
        have hbulk : Rows.uptoBulk (DataW.agg (List.map (fun x => x.fst) [y0, y1, y2, y3, y4, y5])) = Rows.uptoBulk y0.1 + (Rows.uptoBulk y1.1 + (Rows.uptoBulk y2.1 + (Rows.uptoBulk y3.1 + (Rows.uptoBulk y4.1 + (Rows.uptoBulk y5.1 + 0))))) + 1 := by
          simp [Rows.uptoBulk, Rows.uptoBulkAll]
        have hb : Rows.uptoBulk (DataW.agg (List.map (fun x => x.fst) [y0, y1, y2, y3, y4, y5])) ≤ b + 1 := hb
        have hs1 : s.size < Rows.uptoBulk y1.1 := by
          rw [hy1]
          simp only [Rows.uptoBulk, Array.length_toList]
          exact Nat.lt_succ_self _
        obtain ⟨p, c, l, hp, hlc, hcm, hll, D, hD, hel⟩ := rdSlice (α := Ex) (P := fun cs e bk => e.At (full W) cs ∧ e.size ≤ bk ∧ e.Short ∧ e.In) Tryz.underlying22 cellsOf24 (fun n cs y hy hlt => ih n cs y hy (by omega) (by omega)) f5
        simp at hk hs hm hlo hhi hp
        subst hk; subst hs; subst hm; subst hlo; subst hhi; subst hp
        have hsizes := sizes_bulk (D := D) l 0 fun i e hi => by
          obtain ⟨_, _, _, _, _, h2, _⟩ := hel i e hi
          simpa using h2
        rw [← List.range_eq_range'] at hsizes
        refine ⟨.mk k s m lo hi l, ?_, ?_, ?_, ?_⟩
        · simp only [Ex.At]
          refine ⟨p, c, rfl, ExsAt.mk fun j e hj => ?_⟩
          obtain ⟨a, cs', h1, h2, h3, _⟩ := hel j e hj
          exact ⟨a, cs', h1, by rw [Nat.zero_add]; exact h2, h3⟩
        · show sizes l + 1 ≤ Rows.uptoBulk (DataW.agg (List.map (fun x => x.fst) [y0, y1, y2, y3, y4, y5]))
          omega
        · simp only [Ex.Short]
          refine ⟨by omega, shorts_of l fun e he => ?_⟩
          obtain ⟨i, hlt, hi⟩ := List.getElem_of_mem he
          obtain ⟨_, _, _, _, _, _, h4, _⟩ := hel i e (by rw [← hi]; simp [hlt])
          exact h4
        · simp only [Ex.In]
          refine ⟨i64_wf w2, i64_wf w3, i64_wf w4, ins_of l fun e he => ?_⟩
          obtain ⟨i, hlt, hi⟩ := List.getElem_of_mem he
          obtain ⟨_, _, _, _, _, _, _, h5⟩ := hel i e (by rw [← hi]; simp [hlt])
          exact h5
theorem rdEx (b n : Nat) (cs : List Value) (x : DataW HH × List MemPlace) (h : DataW.trod enc Tryz.prog W 0 (fun _ => true) true n 24 cs = some x) (hb : Rows.uptoBulk x.1 ≤ b) (hbb : b < 1000000000000) :
    ∃ e : Ex, e.At (full W) cs ∧ e.size ≤ Rows.uptoBulk x.1 ∧ e.Short :=
  let ⟨e, h1, h2, h3, _⟩ := rdExIn b n cs x h hb hbb; ⟨e, h1, h2, h3⟩

theorem cellsOf144 : Tryz.prog.cellsOf 144 = 2 := by kernel_rfl
theorem rdDecls {n : Nat} {cs : List Value} {x : DataW HH × List MemPlace} (h : DataW.trod enc Tryz.prog W 0 (fun _ => true) true n 25 cs = some x) :
    ∃ p c, ∃ l : List (ByteArray × Int), cs = [.slice p l.length c] ∧ l.length < Rows.uptoBulk x.1 ∧ DeclsAt (full W) p l ∧ ∀ d ∈ l, d.1.size ≤ maxLen := by
  obtain ⟨p, c, l, hp, _, _, hll, D, _, hel⟩ := rdSlice (α := ByteArray × Int) (P := fun cs d _ => cs = declC d ∧ d.1.size ≤ maxLen) Tryz.underlying25 cellsOf144 (fun n cs y hy _ => by
    obtain ⟨xs, n', _, _, hl, hlen, hf⟩ := DataW.trod_struct Tryz.underlying144 hy
    rw [cellsOf144] at hl
    match cs, hl with
    | [c0, c1], _ =>
      match xs, hlen with
      | [y0, y1], _ =>
        have f0 : DataW.trod enc Tryz.prog W 0 (fun _ => true) true n' 9 (List.take (Tryz.prog.cellsOf 9) (List.drop 0 [c0, c1])) = some y0 := hf 0 _ rfl
        rw [cellsOf9] at f0
        have f1 : DataW.trod enc Tryz.prog W 0 (fun _ => true) true n' 3 (List.take (Tryz.prog.cellsOf 3) (List.drop 1 [c0, c1])) = some y1 := hf 1 _ rfl
        rw [cellsOf3] at f1
        obtain ⟨s, hs, _, hsz⟩ := DataW.trod_string Tryz.underlying9 f0
        obtain ⟨k, hk, _⟩ := DataW.trod_int Tryz.underlying3 f1
        simp at hs hk
        subst hs; subst hk
        exact ⟨(s, k), rfl, hsz⟩) h
  refine ⟨p, c, l, hp, hll, fun i d hi => ?_, fun d hd => ?_⟩
  · obtain ⟨a, cs', h1, h2, rfl, _⟩ := hel i d hi
    exact ⟨a, h1, h2⟩
  · obtain ⟨i, hlt, hi⟩ := List.getElem_of_mem hd
    obtain ⟨_, _, _, _, _, h4⟩ := hel i d (by rw [← hi]; simp [hlt])
    exact h4

def StepsAt (F : HP) (p : Option Addr) (l : List St) : Prop := ∀ (i : Nat) x, l[i]? = some x → ∃ a cs, p = some a ∧ F.has (a.add (i * 10)) cs ∧ x.At F cs
theorem rdSteps {n : Nat} {cs : List Value} {x : DataW HH × List MemPlace} (h : DataW.trod enc Tryz.prog W 0 (fun _ => true) true n 26 cs = some x) :
    ∃ p c, ∃ l : List St, cs = [.slice p l.length c] ∧ l.length ≤ c ∧ l.length < Rows.uptoBulk x.1 ∧ StepsAt (full W) p l ∧ ∀ x ∈ l, x.Fits := by
  obtain ⟨p, c, l, hp, hlc, _, hll, D, _, hel⟩ := rdSlice (α := St) (P := fun cs x _ => x.At (full W) cs ∧ x.Fits) Tryz.underlying26 cellsOf46 (fun n cs y hy _ => rdStep hy) h
  refine ⟨p, c, l, hp, hlc, hll, fun i d hi => ?_, fun d hd => ?_⟩
  · obtain ⟨a, cs', h1, h2, h3, _⟩ := hel i d hi
    exact ⟨a, cs', h1, h2, h3⟩
  · obtain ⟨i, hlt, hi⟩ := List.getElem_of_mem hd
    obtain ⟨_, _, _, _, _, h4⟩ := hel i d (by rw [← hi]; simp [hlt])
    exact h4
end
end Go.Proofs.YtmidcnfnmnhifaaGreat
