/-
  Readings of arguments.
-/
import Derived.Test.YtmidcnfnmnhifaaGreatZJoi
namespace Go.Proofs.YtmidcnfnmnhifaaGreat
set_option linter.unusedSectionVars false
set_option linter.unusedSimpArgs false
set_option linter.unusedVariables false
open Go Go.Den Go.ChangeShapes Go.WideShapes Go.ChangeAt Go.RowKit
set_option linter.unusedVariables false
set_option maxRecDepth 100000

def I64 (n : Int) : Prop := -9223372036854775808 ≤ n ∧ n ≤ 9223372036854775807
theorem i64_wf {n : Int} (h : (Lit.int .i64 n).wf = true) : I64 n := by
  simp only [Lit.wf, IntKind.min, IntKind.max, IntKind.signed, IntKind.bits] at h
  unfold I64
  simpa using h
theorem cellsOf2 : Tryz.prog.cellsOf 2 = 1 := by kernel_rfl
theorem cellsOf3 : Tryz.prog.cellsOf 3 = 1 := by kernel_rfl
theorem cellsOf9 : Tryz.prog.cellsOf 9 = 1 := by kernel_rfl
theorem cellsOf22 : Tryz.prog.cellsOf 22 = 1 := by kernel_rfl
theorem cellsOf24 : Tryz.prog.cellsOf 24 = 6 := by kernel_rfl
theorem cellsOf36 : Tryz.prog.cellsOf 36 = 1 := by kernel_rfl
theorem cellsOf38 : Tryz.prog.cellsOf 38 = 4 := by kernel_rfl
theorem cellsOf46 : Tryz.prog.cellsOf 46 = 10 := by kernel_rfl

section
variable {HH : Type} {enc : TypeId × Value → HH} {W : World}

theorem rdTexts {n : Nat} {cs : List Value} {x : DataW HH × List MemPlace} (h : DataW.trod enc Tryz.prog W 0 (fun _ => true) true n 36 cs = some x) :
    ∃ p c, ∃ l : List ByteArray, cs = [.slice p l.length c] ∧ StrsAt (full W) p l ∧ (∀ s ∈ l, s.size ≤ maxLen) ∧ l.length ≤ maxLen := by
  rcases Go.Deep.open_slice Tryz.underlying36 h with ⟨rfl, _⟩ | ⟨a, len, cap, m, n, D, Pl, rfl, _, hl, hm, hmm, _, hi⟩
  · exact ⟨none, 0, [], rfl, fun i x h => by simp at h, fun s h => by simp at h, Nat.zero_le _⟩
  · have hmc : len ≤ m := by rw [hmm]; simpa using hl
    have get : ∀ i, i < len → ∃ s : ByteArray, (full W).has (a.add i) [.string s] ∧ s.size ≤ maxLen := by
      intro i hlt
      obtain ⟨cs', h1, h2⟩ := hi i (by omega)
      rw [cellsOf9] at h1
      obtain ⟨_, hlen, hcell⟩ := World.cells?_some h1
      obtain ⟨s, rfl, _, hs⟩ := DataW.trod_string Tryz.underlying9 h2
      refine ⟨s, fun j v hj => ?_, hs⟩
      cases j with
      | zero =>
        simp only [List.getElem?_cons_zero, Option.some.injEq] at hj
        subst hj
        rw [full_cell]
        have := hcell 0 (by omega)
        simpa using this
      | succ j => simp at hj
    let l : List ByteArray := (List.range len).attach.map fun i => (get i.1 (List.mem_range.1 i.2)).choose
    have hll : l.length = len := by simp [l]
    have hg : ∀ i s, l[i]? = some s → (full W).has (a.add i) [.string s] ∧ s.size ≤ maxLen := by
      intro i s hs
      obtain ⟨hlt, hs⟩ := List.getElem?_eq_some_iff.1 hs
      have : s = (get i (by omega)).choose := by rw [← hs]; simp [l]
      rw [this]
      exact (get i (by omega)).choose_spec
    refine ⟨some a, cap, l, by rw [hll], fun i s hs => ⟨a, rfl, (hg i s hs).1⟩, fun s hs => ?_, by omega⟩
    obtain ⟨i, hlt, hs⟩ := List.getElem_of_mem hs
    exact (hg i s (by rw [← hs]; simp [hlt])).2

theorem rdVal {n : Nat} {cs : List Value} {x : DataW HH × List MemPlace} (h : DataW.trod enc Tryz.prog W 0 (fun _ => true) true n 38 cs = some x) :
    ∃ v : Va, v.At (full W) cs ∧ v.s.size ≤ maxLen ∧ (∀ s ∈ v.l, s.size ≤ maxLen) ∧ v.l.length ≤ maxLen := by
  obtain ⟨xs, n', _, _, hl, hlen, hf⟩ := DataW.trod_struct Tryz.underlying38 h
  rw [cellsOf38] at hl
  match cs, hl with
  | [c0, c1, c2, c3], _ =>
    match xs, hlen with
    | [y0, y1, y2, y3], _ =>
      have f0 : DataW.trod enc Tryz.prog W 0 (fun _ => true) true n' 3 (List.take (Tryz.prog.cellsOf 3) (List.drop 0 [c0, c1, c2, c3])) = some y0 := hf 0 _ rfl
      rw [cellsOf3] at f0
      have f1 : DataW.trod enc Tryz.prog W 0 (fun _ => true) true n' 2 (List.take (Tryz.prog.cellsOf 2) (List.drop 1 [c0, c1, c2, c3])) = some y1 := hf 1 _ rfl
      rw [cellsOf2] at f1
      have f2 : DataW.trod enc Tryz.prog W 0 (fun _ => true) true n' 9 (List.take (Tryz.prog.cellsOf 9) (List.drop 2 [c0, c1, c2, c3])) = some y2 := hf 2 _ rfl
      rw [cellsOf9] at f2
      have f3 : DataW.trod enc Tryz.prog W 0 (fun _ => true) true n' 36 (List.take (Tryz.prog.cellsOf 36) (List.drop 3 [c0, c1, c2, c3])) = some y3 := hf 3 _ rfl
      rw [cellsOf36] at f3
      obtain ⟨k, hk, _⟩ := DataW.trod_int Tryz.underlying3 f0
      obtain ⟨m, hm, _⟩ := DataW.trod_int Tryz.underlying2 f1
      obtain ⟨s, hs, _, hsz⟩ := DataW.trod_string Tryz.underlying9 f2
      obtain ⟨p, c, l, hp, hat, h1, h2⟩ := rdTexts f3
      simp at hk hm hs hp
      subst hk; subst hm; subst hs; subst hp
      exact ⟨⟨k, m, s, l⟩, ⟨p, c, rfl, hat⟩, hsz, h1, h2⟩

/-- a step, by value -/
structure St where
  a : Int
  act : ByteArray
  subj : ByteArray
  obj : ByteArray
  ent : ByteArray
  name : ByteArray
  v : Va
def St.At (F : HP) (x : St) (cs : List Value) : Prop := ∃ vs, x.v.At F vs ∧ cs = [.int .i64 x.a, .string x.act, .string x.subj, .string x.obj, .string x.ent, .string x.name] ++ vs
def St.Fits (x : St) : Prop := x.act.size ≤ maxLen ∧ x.subj.size ≤ maxLen ∧ x.obj.size ≤ maxLen ∧ x.ent.size ≤ maxLen ∧ x.name.size ≤ maxLen ∧ x.v.s.size ≤ maxLen ∧ (∀ s ∈ x.v.l, s.size ≤ maxLen) ∧ x.v.l.length ≤ maxLen ∧ I64 x.a

theorem rdStep {n : Nat} {cs : List Value} {x : DataW HH × List MemPlace} (h : DataW.trod enc Tryz.prog W 0 (fun _ => true) true n 46 cs = some x) : ∃ st : St, st.At (full W) cs ∧ st.Fits := by
  obtain ⟨xs, n', _, _, hl, hlen, hf⟩ := DataW.trod_struct Tryz.underlying46 h
  rw [cellsOf46] at hl
  match cs, hl with
  | [c0, c1, c2, c3, c4, c5, c6, c7, c8, c9], _ =>
    match xs, hlen with
    | [y0, y1, y2, y3, y4, y5, y6], _ =>
      have f0 : DataW.trod enc Tryz.prog W 0 (fun _ => true) true n' 2 (List.take (Tryz.prog.cellsOf 2) (List.drop 0 [c0, c1, c2, c3, c4, c5, c6, c7, c8, c9])) = some y0 := hf 0 _ rfl
      rw [cellsOf2] at f0
      have f1 : DataW.trod enc Tryz.prog W 0 (fun _ => true) true n' 9 (List.take (Tryz.prog.cellsOf 9) (List.drop 1 [c0, c1, c2, c3, c4, c5, c6, c7, c8, c9])) = some y1 := hf 1 _ rfl
      rw [cellsOf9] at f1
      have f2 : DataW.trod enc Tryz.prog W 0 (fun _ => true) true n' 9 (List.take (Tryz.prog.cellsOf 9) (List.drop 2 [c0, c1, c2, c3, c4, c5, c6, c7, c8, c9])) = some y2 := hf 2 _ rfl
      rw [cellsOf9] at f2
      have f3 : DataW.trod enc Tryz.prog W 0 (fun _ => true) true n' 9 (List.take (Tryz.prog.cellsOf 9) (List.drop 3 [c0, c1, c2, c3, c4, c5, c6, c7, c8, c9])) = some y3 := hf 3 _ rfl
      rw [cellsOf9] at f3
      have f4 : DataW.trod enc Tryz.prog W 0 (fun _ => true) true n' 9 (List.take (Tryz.prog.cellsOf 9) (List.drop 4 [c0, c1, c2, c3, c4, c5, c6, c7, c8, c9])) = some y4 := hf 4 _ rfl
      rw [cellsOf9] at f4
      have f5 : DataW.trod enc Tryz.prog W 0 (fun _ => true) true n' 9 (List.take (Tryz.prog.cellsOf 9) (List.drop 5 [c0, c1, c2, c3, c4, c5, c6, c7, c8, c9])) = some y5 := hf 5 _ rfl
      rw [cellsOf9] at f5
      have f6 : DataW.trod enc Tryz.prog W 0 (fun _ => true) true n' 38 (List.take (Tryz.prog.cellsOf 38) (List.drop 6 [c0, c1, c2, c3, c4, c5, c6, c7, c8, c9])) = some y6 := hf 6 _ rfl
      rw [cellsOf38] at f6
      obtain ⟨k, hk, _, hkw⟩ := DataW.trod_int Tryz.underlying2 f0
      obtain ⟨s1, h1, _, z1⟩ := DataW.trod_string Tryz.underlying9 f1
      obtain ⟨s2, h2, _, z2⟩ := DataW.trod_string Tryz.underlying9 f2
      obtain ⟨s3, h3, _, z3⟩ := DataW.trod_string Tryz.underlying9 f3
      obtain ⟨s4, h4, _, z4⟩ := DataW.trod_string Tryz.underlying9 f4
      obtain ⟨s5, h5, _, z5⟩ := DataW.trod_string Tryz.underlying9 f5
      obtain ⟨v, hv, z6, z7, z8⟩ := rdVal f6
      simp at hk h1 h2 h3 h4 h5 hv
      subst hk; subst h1; subst h2; subst h3; subst h4; subst h5
      exact ⟨⟨k, s1, s2, s3, s4, s5, v⟩, ⟨_, hv, rfl⟩, z1, z2, z3, z4, z5, z6, z7, z8, i64_wf hkw⟩

/-- an argument of a struct's type: its cells -/
theorem arg_agg {base : Nat} {t : TypeId} {fs : Array Field} {v : Value} {d : DataW HH} {p : List MemPlace} (ht : Tryz.prog.underlying t = some (.struct fs)) (hv : Value.okWide Tryz.prog W .any base t v) (h : DataW.Trod enc Tryz.prog W 0 (fun _ => true) true t v d p) :
    ∃ n cs, v = .agg ⟨cs⟩ ∧ DataW.trod enc Tryz.prog W 0 (fun _ => true) true n t cs = some (d, p) := by
  obtain ⟨cs, rfl, _⟩ := okWide_struct ht hv
  obtain ⟨n, hn⟩ := h
  obtain ⟨l⟩ := cs
  exact ⟨n, l, rfl, hn⟩
end
end Go.Proofs.YtmidcnfnmnhifaaGreat
