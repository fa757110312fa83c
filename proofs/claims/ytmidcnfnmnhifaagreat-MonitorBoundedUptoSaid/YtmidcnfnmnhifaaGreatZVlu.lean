/-
  Package value: what only computes.
-/
import Derived.Test.YtmidcnfnmnhifaaGreatZLop
import Derived.Test.YtmidcnfnmnhifaaGreatZWza
import Derived.Test.YtmidcnfnmnhifaaGreatZWzb
import Derived.Test.YtmidcnfnmnhifaaGreatZWzc
namespace Go.Proofs.YtmidcnfnmnhifaaGreat
set_option linter.unusedSectionVars false
set_option linter.unusedSimpArgs false
set_option linter.unusedVariables false
open Go Go.Den
set_option linter.unusedVariables false

/-- a value -/
structure Va where
  k : Int
  n : Int
  s : ByteArray
  l : List ByteArray

abbrev nos : ByteArray := ByteArray.mk #[]
def vaCells (k n : Int) (s : ByteArray) (p : Option Addr) (l c : Nat) : List Value := [.int .i64 k, .int .i64 n, .string s, .slice p l c]
def StrsAt (F : HP) (p : Option Addr) (l : List ByteArray) : Prop := ∀ (i : Nat) (x : ByteArray), l[i]? = some x → ∃ a, p = some a ∧ F.has (a.add i) [.string x]
def Va.At (F : HP) (v : Va) (cs : List Value) : Prop := ∃ p c, cs = vaCells v.k v.n v.s p v.l.length c ∧ StrsAt F p v.l

theorem StrsAt.mono {F F' : HP} (h : F.le F') {p : Option Addr} {l : List ByteArray} (hs : StrsAt F p l) : StrsAt F' p l :=
  fun i x hi => let ⟨a, h1, h2⟩ := hs i x hi; ⟨a, h1, h.has h2⟩
theorem Va.At.mono {F F' : HP} (h : F.le F') {v : Va} {cs : List Value} (hs : v.At F cs) : v.At F' cs :=
  let ⟨p, c, h1, h2⟩ := hs; ⟨p, c, h1, h2.mono h⟩
theorem StrsAt.nil {F : HP} {p : Option Addr} : StrsAt F p [] := fun i x h => by simp at h
theorem StrsAt.get {F : HP} {p : Option Addr} {l : List ByteArray} (h : StrsAt F p l) {i : Nat} (hi : i < l.length) : ∃ a, p = some a ∧ F.has (a.add i) [.string l[i]] := h i _ (by simp [hi])

def Va.int (n : Int) : Va := ⟨1, n, nos, []⟩
def Va.bool (b : Bool) : Va := ⟨2, if b then 1 else 0, nos, []⟩
def Va.text (s : ByteArray) : Va := ⟨3, 0, s, []⟩
def Va.zero (k : Int) : Va := if k < 1 ∨ k > 4 then ⟨0, 0, nos, []⟩ else ⟨k, 0, nos, []⟩
def Va.size (v : Va) : Int := if v.k = 3 then v.s.size else if v.k = 4 then v.l.length else 0

def flat (v : Va) : List Value := vaCells v.k v.n v.s none 0 0
theorem flat_at {F : HP} {v : Va} (h : v.l = []) : v.At F (flat v) := ⟨none, 0, by unfold flat; rw [h]; rfl, by rw [h]; exact StrsAt.nil⟩

section
variable {H : HP}

theorem vint (n : Int) : Pure Tryz.prog 161 #[.int .i64 n] H (.agg ⟨flat (Va.int n)⟩) := Pure.of (spec161 ⟨rfl, HP.le.refl H⟩)
theorem vbool (b : Bool) : Pure Tryz.prog 164 #[.bool b] H (.agg ⟨flat (Va.bool b)⟩) := by
  refine Pure.of (spec164 ?_)
  cases b
  · exact WIf.f rfl ⟨rfl, HP.le.refl H⟩
  · exact WIf.t rfl ⟨rfl, HP.le.refl H⟩
theorem vtext (s : ByteArray) : Pure Tryz.prog 171 #[.string s] H (.agg ⟨flat (Va.text s)⟩) := Pure.of (spec171 ⟨rfl, HP.le.refl H⟩)
theorem vzero (k : Int) : Pure Tryz.prog 122 #[.int .i64 k] H (.agg ⟨flat (Va.zero k)⟩) := by
  refine Pure.of (spec122 ?_)
  by_cases h : k < 1 ∨ k > 4
  · exact WIf.t (by simpa using h) ⟨by rw [Va.zero, if_pos h]; rfl, HP.le.refl H⟩
  · exact WIf.f (by simpa using h) ⟨by rw [Va.zero, if_neg h]; rfl, HP.le.refl H⟩
theorem vsize (v : Va) (p : Option Addr) (c : Nat) : Pure Tryz.prog 162 #[.agg ⟨vaCells v.k v.n v.s p v.l.length c⟩] H (.int .i64 v.size) := by
  refine Pure.of (spec162 ?_)
  unfold Va.size
  by_cases h : v.k = 3
  · exact WIf.t (by simpa using h) ⟨by rw [if_pos h], HP.le.refl H⟩
  · refine WIf.f (by simpa using h) ?_
    by_cases h2 : v.k = 4
    · exact WIf.t (by simpa using h2) ⟨by rw [if_neg h, if_pos h2], HP.le.refl H⟩
    · exact WIf.f (by simpa using h2) ⟨by rw [if_neg h, if_neg h2], HP.le.refl H⟩

/-! comparisons -/
def cmp3 (a b : Int) : Int := if a < b then -1 else if b < a then 1 else 0
abbrev lessS (a b : ByteArray) : Bool := Go.Op.bytesLess a.toList b.toList
def cmpS (a b : ByteArray) : Int := if lessS a b then -1 else if a = b then 0 else 1
def cmpL : List ByteArray → List ByteArray → Int
  | [], [] => 0
  | [], _ :: _ => -1
  | _ :: _, [] => 1
  | a :: l, b :: m => if cmpS a b ≠ 0 then cmpS a b else cmpL l m
def Va.cmp (a b : Va) : Int :=
  if cmp3 a.k b.k ≠ 0 then cmp3 a.k b.k else if cmp3 a.n b.n ≠ 0 then cmp3 a.n b.n else if cmpS a.s b.s ≠ 0 then cmpS a.s b.s else cmpL a.l b.l

theorem nan260 (a : Int) : Pure Tryz.prog 260 #[.int .i64 a] H (.bool false) := Pure.of (spec260 ⟨by simp, HP.le.refl H⟩)
theorem nan261 (a : Int) : Pure Tryz.prog 261 #[.int .i64 a] H (.bool false) := Pure.of (spec261 ⟨by simp, HP.le.refl H⟩)
theorem nan262 (a : ByteArray) : Pure Tryz.prog 262 #[.string a] H (.bool false) := Pure.of (spec262 ⟨by simp, HP.le.refl H⟩)

theorem cmp227 (a b : Int) : Pure Tryz.prog 227 #[.int .i64 a, .int .i64 b] H (.int .i64 (cmp3 a b)) := by
  refine Pure.of (spec227 ?_)
  refine WCall.pure (nan260 a) (WOpen.b (WCall.pure (nan260 b) (WOpen.b (WIf.f rfl (WIf.f rfl ?_)))))
  unfold cmp3
  by_cases h : a < b
  · exact WIf.t (by simpa using h) ⟨by rw [if_pos h], HP.le.refl H⟩
  · refine WIf.f (by simpa using h) ?_
    by_cases h2 : b < a
    · exact WIf.t (by simpa using h2) ⟨by rw [if_neg h, if_pos h2], HP.le.refl H⟩
    · exact WIf.f (by simpa using h2) ⟨by rw [if_neg h, if_neg h2], HP.le.refl H⟩
theorem cmp228 (a b : Int) : Pure Tryz.prog 228 #[.int .i64 a, .int .i64 b] H (.int .i64 (cmp3 a b)) := by
  refine Pure.of (spec228 ?_)
  refine WCall.pure (nan261 a) (WOpen.b (WCall.pure (nan261 b) (WOpen.b (WIf.f rfl (WIf.f rfl ?_)))))
  unfold cmp3
  by_cases h : a < b
  · exact WIf.t (by simpa using h) ⟨by rw [if_pos h], HP.le.refl H⟩
  · refine WIf.f (by simpa using h) ?_
    by_cases h2 : b < a
    · exact WIf.t (by simpa using h2) ⟨by rw [if_neg h, if_pos h2], HP.le.refl H⟩
    · exact WIf.f (by simpa using h2) ⟨by rw [if_neg h, if_neg h2], HP.le.refl H⟩
theorem cmp229 (a b : ByteArray) : Pure Tryz.prog 229 #[.string a, .string b] H (.int .i64 (cmpS a b)) := by
  refine Pure.of (spec229 ?_)
  refine WCall.pure (nan262 a) (WOpen.b (WCall.pure (nan262 b) (WOpen.b (WIf.f rfl (WIf.f rfl ?_)))))
  unfold cmpS
  by_cases h : lessS a b = true
  · exact WIf.t h ⟨by rw [if_pos h], HP.le.refl H⟩
  · have h' : lessS a b = false := by simpa using h
    refine WIf.f h' ?_
    rw [show Go.Op.bytesLess a.toList b.toList = false from h', toList_inj]
    by_cases h2 : a = b
    · exact WIf.f (by simp [h2]) ⟨by rw [if_neg h, if_pos h2], HP.le.refl H⟩
    · exact WIf.t (by simp [h2]) ⟨by rw [if_neg h, if_neg h2], HP.le.refl H⟩

theorem cmpL_drop {l m : List ByteArray} {i : Nat} (hl : i < l.length) (hm : i < m.length) : cmpL (l.drop i) (m.drop i) = if cmpS l[i] m[i] ≠ 0 then cmpS l[i] m[i] else cmpL (l.drop (i + 1)) (m.drop (i + 1)) := by
  rw [List.drop_eq_getElem_cons hl, List.drop_eq_getElem_cons hm]
  rfl

theorem cmp230 {p q : Option Addr} {l m : List ByteArray} (c d : Nat) (hp : StrsAt H p l) (hq : StrsAt H q m) (hl : l.length < 1000000000000) :
    Pure Tryz.prog 230 #[.slice p l.length c, .slice q m.length d] H (.int .i64 (cmpL l m)) := by
  refine Pure.of (spec230 ?_)
  refine WLoop.up l.length 0 (fun i => i ≤ m.length ∧ cmpL l m = cmpL (l.drop i) (m.drop i)) ⟨Nat.zero_le _, rfl⟩ (Nat.zero_le _) ?_
  rintro i again - hi ⟨him, hI⟩ hag
  by_cases h : i < l.length
  · refine WIf.t (by simpa using h) ?_
    obtain ⟨a, ha, hx⟩ := hp.get h
    refine WIndex.at' ha h (WLoad.s1 (by simpa using hx) ?_)
    by_cases h2 : i < m.length
    · refine WIf.f (by simpa using h2) ?_
      obtain ⟨b, hb, hy⟩ := hq.get h2
      refine WIndex.at' hb h2 (WLoad.s1 (by simpa using hy) ?_)
      refine WCall.pure (cmp229 _ _) (WOpen.i ?_)
      rw [cmpL_drop h h2] at hI
      by_cases h3 : cmpS l[i] m[i] = 0
      · refine WIf.f (by simpa using h3) ?_
        rw [wrapS (by omega)]
        rw [if_neg (by simpa using h3)] at hI
        exact hag h ⟨by omega, hI⟩
      · refine WIf.t (by simpa using h3) ?_
        rw [if_pos h3] at hI
        exact ⟨by rw [hI], HP.le.refl H⟩
    · refine WIf.t (by simpa using h2) ⟨?_, HP.le.refl H⟩
      rw [hI, (List.drop_eq_nil_iff.2 (by omega) : m.drop i = []), List.drop_eq_getElem_cons h]
      rfl
  · refine WIf.f (by simpa using h) ?_
    rw [(List.drop_eq_nil_iff.2 (by omega) : l.drop i = [])] at hI
    by_cases h2 : l.length < m.length
    · refine WIf.t (by simpa using h2) ⟨?_, HP.le.refl H⟩
      rw [hI, List.drop_eq_getElem_cons (by omega : i < m.length)]
      rfl
    · refine WIf.f (by simpa using h2) ⟨?_, HP.le.refl H⟩
      rw [hI, (List.drop_eq_nil_iff.2 (by omega) : m.drop i = [])]
      rfl

def or4 : List Int → Int
  | [] => 0
  | a :: l => if a ≠ 0 then a else or4 l

theorem or226 {p : Option Addr} {l : List Int} (c : Nat) (hp : ∀ i (h : i < l.length), ∃ a, p = some a ∧ H.has (a.add i) [.int .i64 l[i]]) (hl : l.length < 1000000000000) :
    Pure Tryz.prog 226 #[.slice p l.length c] H (.int .i64 (or4 l)) := by
  refine Pure.of (spec226 ?_)
  refine WLoop.up l.length 0 (fun i => or4 l = or4 (l.drop i)) rfl (Nat.zero_le _) ?_
  rintro i again - hi hI hag
  by_cases h : i < l.length
  · refine WIf.t (by simpa using h) ?_
    obtain ⟨a, ha, hx⟩ := hp i h
    refine WIndex.at' ha h (WLoad.i (by simpa using hx) ?_)
    rw [List.drop_eq_getElem_cons h] at hI
    simp only [or4] at hI
    by_cases h3 : l[i] = 0
    · refine WIf.f (by simpa using h3) ?_
      rw [wrapS (by omega)]
      rw [if_neg (by simpa using h3)] at hI
      exact hag h hI
    · refine WIf.t (by simpa using h3) ?_
      rw [if_pos h3] at hI
      exact ⟨by rw [hI], HP.le.refl H⟩
  · refine WIf.f (by simpa using h) ⟨?_, HP.le.refl H⟩
    rw [hI, List.drop_eq_nil_of_le (by omega)]
    rfl

theorem cmp168 {v w : Va} {cs ds : List Value} (hv : v.At H cs) (hw : w.At H ds) (hl : v.l.length < 1000000000000) : Pure Tryz.prog 168 #[.agg ⟨cs⟩, .agg ⟨ds⟩] H (.int .i64 (v.cmp w)) := by
  obtain ⟨p, c, rfl, hp⟩ := hv
  obtain ⟨q, d, rfl, hq⟩ := hw
  refine Pure.of (spec168 ?_)
  refine WCall.pure (cmp227 _ _) (WOpen.i (WCall.pure (cmp228 _ _) (WOpen.i (WCall.pure (cmp229 _ _) (WOpen.i (WCall.pure (cmp230 c d hp hq hl) (WOpen.i ?_)))))))
  refine fun g hg => ?_
  refine WCall.pure (or226 (l := [cmp3 v.k w.k, cmp3 v.n w.n, cmpS v.s w.s, cmpL v.l w.l]) 4 ?_ (by simp)) (WOpen.i ?_)
  · intro i h
    refine ⟨⟨g, 0, none⟩, rfl, ?_⟩
    have hb : (HP.set H g (.cells ⟨[.int .i64 (cmp3 v.k w.k), .int .i64 (cmp3 v.n w.n), .int .i64 (cmpS v.s w.s), .int .i64 (cmpL v.l w.l)]⟩ 3)) g = some (.cells ⟨[.int .i64 (cmp3 v.k w.k), .int .i64 (cmp3 v.n w.n), .int .i64 (cmpS v.s w.s), .int .i64 (cmpL v.l w.l)]⟩ 3) := by unfold HP.set; rw [if_pos rfl]
    rw [addN]
    refine has_cells hb ?_
    simp at h
    match i, h with
    | 0, _ => rfl
    | 1, _ => rfl
    | 2, _ => rfl
    | 3, _ => rfl
  · refine ⟨?_, HP.le_set hg⟩
    have : or4 [cmp3 v.k w.k, cmp3 v.n w.n, cmpS v.s w.s, cmpL v.l w.l] = v.cmp w := by
      simp only [or4, Va.cmp]
      split <;> try rfl
      split <;> try rfl
      split <;> try rfl
      split
      · rfl
      · rename_i h; exact (by simpa using h : cmpL v.l w.l = 0).symm
    rw [this]

theorem same167 {v w : Va} {cs ds : List Value} (hv : v.At H cs) (hw : w.At H ds) (hl : v.l.length < 1000000000000) : Pure Tryz.prog 167 #[.agg ⟨cs⟩, .agg ⟨ds⟩] H (.bool (v.cmp w == 0)) := by
  have h := cmp168 hv hw hl
  obtain ⟨p, c, rfl, hp⟩ := hv
  obtain ⟨q, d, rfl, hq⟩ := hw
  refine Pure.of (spec167 ?_)
  exact WCall.pure h (WOpen.i ⟨rfl, HP.le.refl H⟩)

/-! sets -/
def idxS (l : List ByteArray) (x : ByteArray) : Int :=
  match l.findIdx? (fun y => decide (x = y)) with
  | some i => i
  | none => -1

theorem index263 {p : Option Addr} {l : List ByteArray} (c : Nat) (x : ByteArray) (hp : StrsAt H p l) (hl : l.length < 1000000000000) :
    Pure Tryz.prog 263 #[.slice p l.length c, .string x] H (.int .i64 (idxS l x)) := by
  refine Pure.of (spec263 ?_)
  refine WLoop.up l.length 0 (fun i => ∀ j (h : j < l.length), j < i → x ≠ l[j]) (fun j _ h => by omega) (Nat.zero_le _) ?_
  rintro i again - hi hI hag
  by_cases h : i < l.length
  · refine WIf.t (by simpa using h) ?_
    obtain ⟨a, ha, hx⟩ := hp.get h
    refine WIndex.at' ha h (WLoad.s1 (by simpa using hx) ?_)
    rw [toList_inj]
    by_cases h3 : x = l[i]
    · refine WIf.t (by simp [h3]) ⟨?_, HP.le.refl H⟩
      have : l.findIdx? (fun y => decide (x = y)) = some i := List.findIdx?_eq_some_iff_getElem.2 ⟨h, by simp [h3], fun j hj => by simpa using hI j (by omega) hj⟩
      unfold idxS
      rw [this]
    · refine WIf.f (by simpa using h3) ?_
      rw [wrapS (by omega)]
      refine hag h fun j hj hji => ?_
      by_cases e : j = i
      · subst e; exact h3
      · exact hI j hj (by omega)
  · refine WIf.f (by simpa using h) ⟨?_, HP.le.refl H⟩
    have : l.findIdx? (fun y => decide (x = y)) = none := by
      rw [List.findIdx?_eq_none_iff]
      intro y hy
      obtain ⟨j, hj, rfl⟩ := List.getElem_of_mem hy
      simpa using hI j hj (by omega)
    unfold idxS
    rw [this]

def memS (x : ByteArray) (l : List ByteArray) : Bool := l.any fun y => decide (x = y)
theorem idxS_ge (l : List ByteArray) (x : ByteArray) : decide (idxS l x ≥ 0) = memS x l := by
  unfold idxS
  cases h : l.findIdx? (fun y => decide (x = y)) with
  | some i =>
    obtain ⟨h1, h2, _⟩ := List.findIdx?_eq_some_iff_getElem.1 h
    have : memS x l = true := List.any_eq_true.2 ⟨l[i], List.getElem_mem h1, h2⟩
    rw [this]; simp
  | none =>
    rw [List.findIdx?_eq_none_iff] at h
    have : memS x l = false := List.any_eq_false.2 fun e he => by simp [h e he]
    rw [this]; rfl

theorem contains231 {p : Option Addr} {l : List ByteArray} (c : Nat) (x : ByteArray) (hp : StrsAt H p l) (hl : l.length < 1000000000000) :
    Pure Tryz.prog 231 #[.slice p l.length c, .string x] H (.bool (memS x l)) := by
  refine Pure.of (spec231 ?_)
  exact WCall.pure (index263 c x hp hl) (WOpen.i ⟨by rw [idxS_ge], HP.le.refl H⟩)

theorem has169 {v : Va} {cs : List Value} (hv : v.At H cs) (x : ByteArray) (hl : v.l.length < 1000000000000) : Pure Tryz.prog 169 #[.agg ⟨cs⟩, .string x] H (.bool (memS x v.l)) := by
  obtain ⟨p, c, rfl, hp⟩ := hv
  refine Pure.of (spec169 ?_)
  exact WCall.pure (contains231 c x hp hl) (WOpen.b ⟨rfl, HP.le.refl H⟩)

/-! Check -/
def longB (s : ByteArray) : Bool := decide (((s.size : Nat) : Int) > 32)
theorem long190 (s : ByteArray) : Pure Tryz.prog 190 #[.string s] H (.bool (longB s)) := Pure.of (spec190 ⟨rfl, HP.le.refl H⟩)

def idxP (l : List ByteArray) (φ : ByteArray → Bool) : Int :=
  match l.findIdx? φ with
  | some i => i
  | none => -1

theorem index244 {p : Option Addr} {l : List ByteArray} (c : Nat) (hp : StrsAt H p l) (hl : l.length < 1000000000000) {φ : ByteArray → Bool} {g : FuncId} {cap : List Value}
    (hf : ∀ s ∈ l, Pure Tryz.prog g ⟨[.string s] ++ cap⟩ H (.bool (φ s))) : Pure Tryz.prog 244 #[.slice p l.length c, .func (.func g) #[] ⟨cap⟩] H (.int .i64 (idxP l φ)) := by
  refine Pure.of (spec244 ?_)
  refine WLoop.up l.length 0 (fun i => ∀ j (h : j < l.length), j < i → φ l[j] = false) (fun j _ h => by omega) (Nat.zero_le _) ?_
  rintro i again - hi hI hag
  by_cases h : i < l.length
  · refine WIf.t (by simpa using h) ?_
    obtain ⟨a, ha, hx⟩ := hp.get h
    refine WIndex.at' ha h (WLoad.s1 (by simpa using hx) ?_)
    refine WCall.pure (hf l[i] (List.getElem_mem h)) (WOpen.b ?_)
    by_cases h3 : φ l[i] = true
    · refine WIf.t h3 ⟨?_, HP.le.refl H⟩
      have : l.findIdx? φ = some i := List.findIdx?_eq_some_iff_getElem.2 ⟨h, h3, fun j hj => by simpa using hI j (by omega) hj⟩
      unfold idxP
      rw [this]
    · have h3 : φ l[i] = false := by simpa using h3
      refine WIf.f h3 ?_
      rw [wrapS (by omega)]
      refine hag h fun j hj hji => ?_
      by_cases e : j = i
      · subst e; exact h3
      · exact hI j hj (by omega)
  · refine WIf.f (by simpa using h) ⟨?_, HP.le.refl H⟩
    have : l.findIdx? φ = none := by
      rw [List.findIdx?_eq_none_iff]
      intro y hy
      obtain ⟨j, hj, rfl⟩ := List.getElem_of_mem hy
      simpa using hI j hj (by omega)
    unfold idxP
    rw [this]

theorem idxP_ge (l : List ByteArray) (φ : ByteArray → Bool) : decide (idxP l φ ≥ 0) = l.any φ := by
  unfold idxP
  cases h : l.findIdx? φ with
  | some i =>
    obtain ⟨h1, h2, _⟩ := List.findIdx?_eq_some_iff_getElem.1 h
    have : l.any φ = true := List.any_eq_true.2 ⟨l[i], List.getElem_mem h1, h2⟩
    rw [this]; simp
  | none =>
    rw [List.findIdx?_eq_none_iff] at h
    have : l.any φ = false := List.any_eq_false.2 fun e he => by simp [h e he]
    rw [this]; rfl

theorem contains191 {p : Option Addr} {l : List ByteArray} (c : Nat) (hp : StrsAt H p l) (hl : l.length < 1000000000000) {φ : ByteArray → Bool} {g : FuncId} {cap : List Value}
    (hf : ∀ s ∈ l, Pure Tryz.prog g ⟨[.string s] ++ cap⟩ H (.bool (φ s))) : Pure Tryz.prog 191 #[.slice p l.length c, .func (.func g) #[] ⟨cap⟩] H (.bool (l.any φ)) := by
  refine Pure.of (spec191 ?_)
  refine WCall.pure (index244 c hp hl hf) (WOpen.i ?_)
  exact ⟨by rw [← idxP_ge], HP.le.refl H⟩

/-- rising, each once -/
def up2 (a b : ByteArray) : Bool := !(lessS b a || decide (b = a))
def risesB : List ByteArray → Bool
  | a :: b :: l => up2 a b && risesB (b :: l)
  | _ => true

theorem risesB_iff : ∀ l : List ByteArray, risesB l = true ↔ ∀ i (h : i + 1 < l.length), up2 l[i] l[i + 1] = true
  | [] => by simp [risesB]
  | [a] => by simp [risesB]
  | a :: b :: l => by
    simp only [risesB, Bool.and_eq_true, risesB_iff (b :: l)]
    constructor
    · rintro ⟨h1, h2⟩ i h
      cases i with
      | zero => exact h1
      | succ i => exact h2 i (by simpa using h)
    · intro h
      exact ⟨h 0 (by simp), fun i hi => h (i + 1) (by simpa using hi)⟩

theorem rises245 {p : Option Addr} {l : List ByteArray} (c : Nat) (hp : StrsAt H p l) (hl : l.length < 1000000000000) : Pure Tryz.prog 245 #[.slice p l.length c] H (.bool (risesB l)) := by
  refine Pure.of (spec245 ?_)
  have fin : ∀ i, (∀ j (h : j + 1 < l.length), j + 1 < i → up2 l[j] l[j + 1] = true) → l.length ≤ i → risesB l = true := by
    intro i hI hge
    rw [risesB_iff]
    exact fun j hj => hI j hj (by omega)
  by_cases h0 : l.length = 0
  · refine WLoop.intro (fun x H' => H' = H ∧ x = ((1, ()), ())) (fun _ => 0) ⟨rfl, rfl⟩ ?_
    rintro x H' ⟨rfl, rfl⟩
    refine WIf.f (by simp [h0]) ⟨?_, HP.le.refl _⟩
    rw [fin 0 (fun j h _ => by omega) (by omega)]
  refine WLoop.up l.length 1 (fun i => ∀ j (h : j + 1 < l.length), j + 1 < i → up2 l[j] l[j + 1] = true) (fun j _ h => by omega) (by omega) ?_
  rintro i again h1 hi hI hag
  by_cases h : i < l.length
  · refine WIf.t (by simpa using h) ?_
    obtain ⟨a, ha, hx⟩ := hp.get h
    refine WIndex.at' ha h (WLoad.s1 (by simpa using hx) ?_)
    rw [wrapP (by omega) h1]
    obtain ⟨b, hb, hy⟩ := hp.get (show i - 1 < l.length by omega)
    refine WIndex.at' hb (by omega) (WLoad.s1 (by simpa using hy) ?_)
    rw [toList_inj]
    by_cases h3 : up2 l[i - 1] l[i] = true
    · refine WIf.f (by simpa [up2] using h3) ?_
      rw [wrapS (by omega)]
      refine hag h fun j hj hji => ?_
      by_cases e : j + 1 = i
      · subst e; exact h3
      · exact hI j hj (by omega)
    · refine WIf.t (by have : up2 l[i - 1] l[i] = false := by simpa using h3
                       rw [up2, Bool.not_eq_false'] at this; exact this) ⟨?_, HP.le.refl H⟩
      have : risesB l = false := by
        rw [Bool.eq_false_iff, ne_eq, risesB_iff]
        intro hall
        have := hall (i - 1) (by omega)
        simp only [show i - 1 + 1 = i by omega] at this
        exact h3 this
      rw [this]
  · refine WIf.f (by simpa using h) ⟨?_, HP.le.refl H⟩
    rw [fin i hI (by omega)]

def numberB (v : Va) : Bool := (v.k == 1) || ((v.k == 2) && ((v.n == 0) || (v.n == 1)))
def oddB (v : Va) : Bool := (!numberB v && v.n != 0) || ((v.k != 3 && decide (v.s ≠ nos)) || ((v.k != 4 && decide (v.l.length > 0)) || !risesB v.l))

theorem odd192 {v : Va} {cs : List Value} (hv : v.At H cs) (hl : v.l.length < 1000000000000) : Pure Tryz.prog 192 #[.agg ⟨cs⟩] H (.bool (oddB v)) := by
  obtain ⟨p, c, rfl, hp⟩ := hv
  refine Pure.of (spec192 ?_)
  have r := rises245 c hp hl
  have e4 : (!numberB v && v.n != 0) = false → (v.k != 3 && decide (v.s ≠ nos)) = false →
      WIf (v.k != 4) (WIf (decide (((v.l.length : Nat) : Int) > 0)) ((fun (e : Ending) H' => e = .returned (.bool (oddB v)) ∧ H.le H') (.returned (.bool true)))
       (WCall Tryz.prog (fun (e : Ending) H' => e = .returned (.bool (oddB v)) ∧ H.le H') 245 #[(.slice p v.l.length c)] (WOpen (.one (.l .b)) fun (x1 : Bool) =>
        (fun (e : Ending) H' => e = .returned (.bool (oddB v)) ∧ H.le H') (.returned (.bool (!x1))))))
      (WCall Tryz.prog (fun (e : Ending) H' => e = .returned (.bool (oddB v)) ∧ H.le H') 245 #[(.slice p v.l.length c)] (WOpen (.one (.l .b)) fun (x2 : Bool) =>
       (fun (e : Ending) H' => e = .returned (.bool (oddB v)) ∧ H.le H') (.returned (.bool (!x2))))) H := by
    intro hx0 h3
    have base : oddB v = ((v.k != 4 && decide (v.l.length > 0)) || !risesB v.l) := by unfold oddB; rw [hx0, h3]; rfl
    refine WIf.intro (fun h => WIf.intro (fun h2 => ⟨?_, HP.le.refl H⟩) (fun h2 => WCall.pure r (WOpen.b ⟨?_, HP.le.refl H⟩))) (fun h => WCall.pure r (WOpen.b ⟨?_, HP.le.refl H⟩))
    · have h2 : v.l.length > 0 := by have := of_decide_eq_true h2; omega
      rw [base, h]; simp [h2]
    · have h2 : ¬ v.l.length > 0 := by have := of_decide_eq_false h2; omega
      rw [base, h]; simp [h2]
    · rw [base, h]; simp
  have e3 : (!numberB v && v.n != 0) = false → WIf (v.k != 3) (WIf (!((ByteArray.toList v.s) == (ByteArray.toList (ByteArray.mk #[])))) ((fun (e : Ending) H' => e = .returned (.bool (oddB v)) ∧ H.le H') (.returned (.bool true)))
      (WIf (v.k != 4) (WIf (decide (((v.l.length : Nat) : Int) > 0)) ((fun (e : Ending) H' => e = .returned (.bool (oddB v)) ∧ H.le H') (.returned (.bool true)))
       (WCall Tryz.prog (fun (e : Ending) H' => e = .returned (.bool (oddB v)) ∧ H.le H') 245 #[(.slice p v.l.length c)] (WOpen (.one (.l .b)) fun (x1 : Bool) =>
        (fun (e : Ending) H' => e = .returned (.bool (oddB v)) ∧ H.le H') (.returned (.bool (!x1))))))
      (WCall Tryz.prog (fun (e : Ending) H' => e = .returned (.bool (oddB v)) ∧ H.le H') 245 #[(.slice p v.l.length c)] (WOpen (.one (.l .b)) fun (x2 : Bool) =>
       (fun (e : Ending) H' => e = .returned (.bool (oddB v)) ∧ H.le H') (.returned (.bool (!x2)))))))
      (WIf (v.k != 4) (WIf (decide (((v.l.length : Nat) : Int) > 0)) ((fun (e : Ending) H' => e = .returned (.bool (oddB v)) ∧ H.le H') (.returned (.bool true)))
       (WCall Tryz.prog (fun (e : Ending) H' => e = .returned (.bool (oddB v)) ∧ H.le H') 245 #[(.slice p v.l.length c)] (WOpen (.one (.l .b)) fun (x1 : Bool) =>
        (fun (e : Ending) H' => e = .returned (.bool (oddB v)) ∧ H.le H') (.returned (.bool (!x1))))))
      (WCall Tryz.prog (fun (e : Ending) H' => e = .returned (.bool (oddB v)) ∧ H.le H') 245 #[(.slice p v.l.length c)] (WOpen (.one (.l .b)) fun (x2 : Bool) =>
       (fun (e : Ending) H' => e = .returned (.bool (oddB v)) ∧ H.le H') (.returned (.bool (!x2)))))) H := by
    intro h0
    rw [toList_inj]
    refine WIf.intro (fun h => WIf.intro (fun h2 => ⟨?_, HP.le.refl H⟩) (fun h2 => e4 h0 ?_)) (fun h => e4 h0 ?_)
    · unfold oddB; rw [h0, h]; simp at h2; simp [h2]
    · rw [h]; simp at h2; simp [h2]
    · rw [h]; rfl
  refine WIf.intro (fun h => WIf.intro (fun h2 => ⟨?_, HP.le.refl H⟩) (fun h2 => e3 ?_)) (fun h => e3 ?_)
  · unfold oddB numberB; rw [h, h2]; rfl
  · unfold numberB; rw [h, h2]; rfl
  · unfold numberB; rw [h]; rfl

def Va.check (v : Va) : Int := if v.k < 1 ∨ v.k > 4 then 12 else if longB v.s = true then 5 else if v.l.any longB = true then 5 else if v.l.length > 8 then 3 else if oddB v = true then 4 else 0

theorem check114 {v : Va} {cs : List Value} (hv : v.At H cs) (hl : v.l.length < 1000000000000) : Pure Tryz.prog 114 #[.agg ⟨cs⟩] H (.int .i64 v.check) := by
  have o := odd192 hv hl
  obtain ⟨p, c, rfl, hp⟩ := hv
  refine Pure.of (spec114 ?_)
  unfold Va.check
  refine WIf.intro (fun h => ⟨by rw [if_pos (by simpa using h)], HP.le.refl H⟩) (fun h => ?_)
  rw [if_neg (by simpa using h)]
  refine WCall.pure (long190 v.s) (WOpen.b (WIf.intro (fun h => ⟨by rw [if_pos h], HP.le.refl H⟩) (fun h => ?_)))
  rw [if_neg (by simp [h])]
  refine WCall.pure (contains191 c hp hl (φ := longB) (g := 190) (cap := []) fun s _ => long190 s) (WOpen.b (WIf.intro (fun h => ⟨by rw [if_pos h], HP.le.refl H⟩) (fun h => ?_)))
  rw [if_neg (by simp [h])]
  refine WIf.intro (fun h => ⟨by rw [if_pos (by have := of_decide_eq_true h; omega)], HP.le.refl H⟩) (fun h => ?_)
  rw [if_neg (by have := of_decide_eq_false h; omega)]
  exact WCall.pure o (WOpen.b (WIf.intro (fun h => ⟨by rw [if_pos h], HP.le.refl H⟩) (fun h => ⟨by rw [if_neg (by simp [h])], HP.le.refl H⟩)))
end
end Go.Proofs.YtmidcnfnmnhifaaGreat
