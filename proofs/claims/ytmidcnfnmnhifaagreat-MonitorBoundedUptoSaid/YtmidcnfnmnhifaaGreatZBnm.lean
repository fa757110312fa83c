/-
  What a node remembers is bounded.
-/
import Derived.Test.YtmidcnfnmnhifaaGreatZBnl
import Derived.Test.YtmidcnfnmnhifaaGreatZReb
import Derived.Test.YtmidcnfnmnhifaaGreatZMcl
namespace Go.Proofs.YtmidcnfnmnhifaaGreat
set_option linter.unusedSectionVars false
set_option linter.unusedSimpArgs false
set_option linter.unusedVariables false
open Go Go.Den
set_option linter.unusedVariables false

/-! ### how many look back -/
mutual
def looksN : Ex → Nat
  | .mk k _ _ _ _ ks => (looksB k).toNat + (if k = 4 then 0 else looksNs ks)
def looksNs : List Ex → Nat
  | [] => 0
  | e :: es => looksN e + looksNs es
end
mutual
theorem looksN_count : ∀ e : Ex, looksN e ≤ e.count
  | .mk k s n a b ks => by
    simp only [looksN, Ex.count]
    have := looksNs_count ks
    have := Bool.toNat_le (looksB k)
    split <;> omega
theorem looksNs_count : ∀ es : List Ex, looksNs es ≤ counts es
  | [] => Nat.le_refl _
  | e :: es => by
    have := looksN_count e
    have := looksNs_count es
    simp [looksNs, counts]; omega
end
theorem cellF_i (v : Nat) (e : Ex) (h : v < 1000000000000) : cellF v e = ((v + (looksB e.kind).toNat : Nat) : Int) := by
  unfold cellF
  cases looksB e.kind
  · rfl
  · exact wrapS h
mutual
theorem looks_fold : ∀ (e : Ex) (v : Nat), v + looksN e < 1000000000000 → e.all.foldl cellF (v : Int) = ((v + looksN e : Nat) : Int)
  | .mk k s n a b ks, v, h => by
    simp only [looksN] at h
    simp only [Ex.all, List.foldl_cons]
    rw [cellF_i v _ (by omega)]
    by_cases h4 : k = 4
    · simp [h4, looksN, Ex.kind]
    · simp only [if_neg h4, looksN] at h ⊢
      rw [looks_folds ks _ (by simp only [Ex.kind]; omega)]
      simp only [Ex.kind]
      congr 1
      omega
theorem looks_folds : ∀ (es : List Ex) (v : Nat), v + looksNs es < 1000000000000 → (alls es).foldl cellF (v : Int) = ((v + looksNs es : Nat) : Int)
  | [], v, _ => by simp [alls, looksNs]
  | e :: es, v, h => by
    simp only [looksNs] at h
    simp only [alls, List.foldl_append, looksNs]
    rw [looks_fold e v (by omega), looks_folds es _ (by omega)]
    congr 1
    omega
end
theorem Ex.looks_eq {e : Ex} (h : e.count < 1000000000000) : e.looks = (looksN e : Int) := by
  have := looksN_count e
  unfold Ex.looks
  have h2 := looks_fold e 0 (by omega)
  simpa using h2

theorem longF_ge (v : Int) (e : Ex) : v ≤ longF v e := by
  unfold longF maxI
  split
  · split <;> omega
  · omega
theorem fold_long : ∀ (es : List Ex) (v : Int), v ≤ es.foldl longF v ∧ ∀ x ∈ es, looksB x.kind = true → x.hi ≤ es.foldl longF v
  | [], v => ⟨Int.le_refl _, fun x h => by simp at h⟩
  | e :: es, v => by
    obtain ⟨h1, h2⟩ := fold_long es (longF v e)
    refine ⟨Int.le_trans (longF_ge v e) h1, fun x hx hk => ?_⟩
    rw [List.foldl_cons]
    rcases List.mem_cons.1 hx with rfl | hx
    · refine Int.le_trans ?_ h1
      unfold longF maxI
      rw [if_pos hk]
      split <;> omega
    · exact h2 x hx hk

/-! ### the nodes -/
def wiO (z L : Int) (U : List Int) (o : Option Wi) : Prop := ∀ w, o = some w → WI z U w ∧ w.last = L
mutual
def NI (L : Int) (U : List Int) : Ex → Sta → Prop
  | .mk k nm n y z eks, .mk ks o s t prev => (wiO z L U o ∧ wiO z L U s ∧ wiO z L U t) ∧ ((∀ w, o = some w → k = 22 ∨ k = 23) ∧ (∀ w, s = some w → k = 24) ∧ (∀ w, t = some w → k = 13)) ∧
      (if k = 4 then ∀ acc : Nat, acc < 1000000000000 → cellsL eks ks acc = acc else NIs L U eks ks)
def NIs (L : Int) (U : List Int) : List Ex → List Sta → Prop
  | [], [] => True
  | e :: es, n :: ns => NI L U e n ∧ NIs L U es ns
  | _, _ => False
end

theorem text_cells {e : Ex} (h3 : e.kind = 3) (hm : e.may = true) : Sta.cells e (Sta.new e) = 0 := by
  obtain ⟨k, s, n, a, b, ks⟩ := e
  simp only [Ex.kind] at h3
  subst h3
  rw [may_text] at hm
  have hl : ks.length = 0 := by simp at hm; simpa using hm.1
  have : ks = [] := List.length_eq_zero_iff.1 hl
  subst this
  rfl
theorem texts_cells : ∀ (es : List Ex) (q : Option ByteArray), texts q es = true → ∀ acc : Nat, acc < 1000000000000 → cellsL es (news es) acc = acc
  | [], _, _, acc, _ => by simp only [news, cellsL]
  | e :: es, q, h, acc, ha => by
    simp only [texts, Bool.and_eq_true] at h
    simp only [news, cellsL]
    rw [text_cells (by simpa using h.1.1) h.1.2.1, Int.add_zero, IntWalk.i64_in _ ⟨by omega, by omega⟩]
    exact texts_cells es _ h.2 acc ha

theorem span_hi {y z : Int} (h : spanB y z = true) : (startW y z).hi = z := by
  simp only [spanB, Bool.and_eq_true, Bool.or_eq_true, decide_eq_true_eq, beq_iff_eq] at h
  unfold startW startW.maxI'
  obtain ⟨h1, h2⟩ := h
  by_cases hz : z = -1
  · subst hz; rfl
  · have hz2 : z ≥ y := h2.resolve_right hz
    show (if z ≠ -1 then (if z < (if y < 0 then 0 else y) then (if y < 0 then 0 else y) else z) else z) = z
    rw [if_pos hz, if_neg (by omega : ¬ y < 0)]
    split <;> omega
theorem wi_start {hi : Int} {lo : Int} : WI hi [] ⟨lo, hi, 0, []⟩ := ⟨rfl, Int.le_refl _, by show (0 : Int) ≤ _; decide, by simp [tms], fun t ht => by simp [tms] at ht, fun t ht => by simp [tms] at ht, fun _ => Nat.zero_le _, fun _ t ht => by simp [tms] at ht⟩

theorem own_span {k n a b : Int} {s : ByteArray} (hk : k = 22 ∨ k = 23 ∨ k = 24) (h : ownB k n a b s = true) : spanB a b = true := by
  unfold ownB at h
  rcases hk with rfl | rfl | rfl <;> simp at h <;> exact h.2
theorem own_tally {n a b : Int} {s : ByteArray} (h : ownB 13 n a b s = true) : 0 ≤ b := by
  unfold ownB at h
  simp at h
  exact h.2

mutual
theorem new_NI : ∀ e : Ex, e.may = true → NI 0 [] e (Sta.new e)
  | .mk k s n y z ks, hm => by
    simp only [Sta.new, NI]
    have hown : ownB k n y z s = true := by
      simp only [Ex.may] at hm
      split at hm
      · simp only [Bool.and_eq_true] at hm; exact hm.1
      · simp only [Bool.and_eq_true] at hm; exact hm.2.1
    refine ⟨⟨fun w hw => ?_, fun w hw => ?_, fun w hw => ?_⟩, ⟨fun w hw => ?_, fun w hw => ?_, fun w hw => ?_⟩, ?_⟩
    · split at hw
      · rename_i hk
        cases hw
        have h1 := span_hi (own_span (by omega) hown)
        have : startW y z = ⟨(startW y z).lo, z, 0, []⟩ := by
          show (⟨(startW y z).lo, (startW y z).hi, 0, []⟩ : Wi) = _
          rw [h1]
        rw [this]
        exact ⟨wi_start, rfl⟩
      · cases hw
    · split at hw
      · rename_i hk
        cases hw
        have h1 := span_hi (own_span (by omega) hown)
        have : startW y z = ⟨(startW y z).lo, z, 0, []⟩ := by
          show (⟨(startW y z).lo, (startW y z).hi, 0, []⟩ : Wi) = _
          rw [h1]
        rw [this]
        exact ⟨wi_start, rfl⟩
      · cases hw
    · split at hw
      · rename_i hk
        cases hw
        subst hk
        have h0 := own_tally hown
        have : maxI z 0 = z := by unfold maxI; split <;> omega
        rw [this]
        exact ⟨wi_start, rfl⟩
      · cases hw
    · split at hw
      · assumption
      · cases hw
    · split at hw
      · assumption
      · cases hw
    · split at hw
      · assumption
      · cases hw
    · split
      · rename_i h4
        simp only [Ex.may, if_pos h4, Bool.and_eq_true] at hm
        exact texts_cells ks none hm.2.1
      · rename_i h4
        simp only [Ex.may, if_neg h4, Bool.and_eq_true] at hm
        exact new_NIs ks hm.2.2
theorem new_NIs : ∀ es : List Ex, mays es = true → NIs 0 [] es (news es)
  | [], _ => by simp only [news, NIs]
  | e :: es, h => by
    simp only [mays, Bool.and_eq_true] at h
    simp only [news, NIs]
    exact ⟨new_NI e h.1, new_NIs es h.2⟩
end

/-- cells: at most so many -/
theorem node_cells {L long : Int} {U : List Int} (h0 : 0 ≤ long) : ∀ N, (∀ e : Ex, e.size ≤ N → ∀ n, NI L U e n → (∀ x ∈ e.all, looksB x.kind = true → x.hi ≤ long) → looksN e * (widthN L long U + 1) < 100000000000 → ∃ c : Nat, Sta.cells e n = c ∧ c ≤ looksN e * (widthN L long U + 1)) ∧
    (∀ es : List Ex, sizes es ≤ N → ∀ ns, NIs L U es ns → (∀ x ∈ alls es, looksB x.kind = true → x.hi ≤ long) → ∀ acc : Nat, acc + looksNs es * (widthN L long U + 1) < 200000000000 → looksNs es * (widthN L long U + 1) < 100000000000 → ∃ c : Nat, cellsL es ns acc = c ∧ c ≤ acc + looksNs es * (widthN L long U + 1)) := by
  intro N
  induction N with
  | zero =>
    refine ⟨fun e he => by have := e.size_pos; omega, fun es he ns h hl acc ha _ => ?_⟩
    cases es with
    | nil => cases ns with
      | nil => exact ⟨acc, by simp only [cellsL], by omega⟩
      | cons n ns => simp only [NIs] at h
    | cons e es => simp only [sizes] at he; have := e.size_pos; omega
  | succ N ih =>
    have hn : ∀ e : Ex, e.size ≤ N + 1 → ∀ n, NI L U e n → (∀ x ∈ e.all, looksB x.kind = true → x.hi ≤ long) → looksN e * (widthN L long U + 1) < 100000000000 → ∃ c : Nat, Sta.cells e n = c ∧ c ≤ looksN e * (widthN L long U + 1) := by
      intro e he n h hl hb
      obtain ⟨k, nm, m, y, z, eks⟩ := e
      obtain ⟨ks, o, s, t, prev⟩ := n
      simp only [Ex.size] at he
      simp only [NI] at h
      obtain ⟨⟨o1, s1, t1⟩, ⟨o2, s2, t2⟩, hk⟩ := h
      have own : looksB k = true → z ≤ long := fun hkk => hl (.mk k nm m y z eks) (by simp [Ex.all]) hkk
      have wo : ∀ o : Option Wi, wiO z L U o → (∀ w, o = some w → looksB k = true) → ∃ c : Nat, lenO o = c ∧ c ≤ (if looksB k then widthN L long U + 1 else 0) ∧ (o = none → c = 0) := by
        intro o h1 h2
        cases o with
        | none => exact ⟨0, rfl, Nat.zero_le _, fun _ => rfl⟩
        | some w =>
          have hk := h2 w rfl
          refine ⟨w.d.length, rfl, ?_, fun h => by cases h⟩
          rw [if_pos hk]
          exact (h1 w rfl).1.width (h1 w rfl).2 (own hk) h0
      obtain ⟨co, eo, bo, no⟩ := wo o o1 (fun w hw => by unfold looksB; rcases o2 w hw with h | h <;> simp [h])
      obtain ⟨cs, es', bs, ns'⟩ := wo s s1 (fun w hw => by unfold looksB; simp [s2 w hw])
      obtain ⟨ct, et, bt, nt⟩ := wo t t1 (fun w hw => by unfold looksB; simp [t2 w hw])
      -- one of them alone
      have one : co + cs + ct + (if k = 25 then 1 else 0) ≤ (if looksB k then widthN L long U + 1 else 0) := by
        have ho : (k = 22 ∨ k = 23) ∨ co = 0 := by
          cases o with
          | none => exact .inr (no rfl)
          | some w => exact .inl (o2 w rfl)
        have hs : k = 24 ∨ cs = 0 := by
          cases s with
          | none => exact .inr (ns' rfl)
          | some w => exact .inl (s2 w rfl)
        have ht : k = 13 ∨ ct = 0 := by
          cases t with
          | none => exact .inr (nt rfl)
          | some w => exact .inl (t2 w rfl)
        by_cases h25 : k = 25
        · have : looksB k = true := by unfold looksB; simp [h25]
          rw [if_pos this, if_pos h25]
          omega
        · rw [if_neg h25]
          rcases ho with ho | ho <;> rcases hs with hs | hs <;> rcases ht with ht | ht <;> omega
      have hw : ∀ v : Nat, v < 1000000000000 → IntKind.wrap .i64 (v : Int) = v := fun v hv => IntWalk.i64_in _ ⟨by omega, by omega⟩
      have hsm : (if looksB k then widthN L long U + 1 else 0) ≤ looksN (.mk k nm m y z eks) * (widthN L long U + 1) := by
        cases hlk : looksB k
        · exact Nat.zero_le _
        · simp only [looksN, hlk, Bool.toNat_true, Nat.add_mul, Nat.one_mul, if_true]; omega
      have hbase : (if k = 25 then IntKind.wrap .i64 (IntKind.wrap .i64 (IntKind.wrap .i64 (lenO o + lenO s) + lenO t) + 1) else IntKind.wrap .i64 (IntKind.wrap .i64 (lenO o + lenO s) + lenO t)) = ((co + cs + ct + (if k = 25 then 1 else 0) : Nat) : Int) := by
        rw [eo, es', et]
        rw [show ((co : Int) + cs) = ((co + cs : Nat) : Int) by omega, hw _ (by omega), show (((co + cs : Nat) : Int) + ct) = ((co + cs + ct : Nat) : Int) by omega, hw _ (by omega)]
        by_cases h25 : k = 25
        · rw [if_pos h25, if_pos h25, show (((co + cs + ct : Nat) : Int) + 1) = ((co + cs + ct + 1 : Nat) : Int) by omega, hw _ (by omega)]
        · rw [if_neg h25, if_neg h25, Nat.add_zero]
      rw [Sta.cells, hbase]
      by_cases h4 : k = 4
      · rw [if_pos h4] at hk
        exact ⟨_, hk _ (by omega), by omega⟩
      · rw [if_neg h4] at hk
        have e1 : looksN (.mk k nm m y z eks) * (widthN L long U + 1) = (if looksB k then widthN L long U + 1 else 0) + looksNs eks * (widthN L long U + 1) := by
          simp only [looksN, if_neg h4, Nat.add_mul]
          cases looksB k <;> simp
        rw [e1] at hb ⊢
        obtain ⟨c, h1, h2⟩ := ih.2 eks (by omega) ks hk (fun x hx => hl x (by rw [Ex.all, if_neg h4]; simp [hx])) (co + cs + ct + (if k = 25 then 1 else 0)) (by omega) (by omega)
        exact ⟨c, h1, by omega⟩
    refine ⟨hn, fun es => ?_⟩
    induction es with
    | nil =>
      intro _ ns h hl acc ha _
      cases ns with
      | nil => exact ⟨acc, by simp only [cellsL], by omega⟩
      | cons n ns => simp only [NIs] at h
    | cons e es ih2 =>
      intro he ns h hl acc ha hb
      simp only [sizes] at he
      cases ns with
      | nil => simp only [NIs] at h
      | cons n ns =>
        simp only [NIs] at h
        simp only [looksNs, Nat.add_mul] at ha hb ⊢
        obtain ⟨c1, g1, g2⟩ := hn e (by omega) n h.1 (fun x hx => hl x (by simp [alls, hx])) (by omega)
        simp only [cellsL]
        rw [g1, show ((acc : Int) + c1) = ((acc + c1 : Nat) : Int) by omega, IntWalk.i64_in _ ⟨by omega, by omega⟩]
        obtain ⟨c, q1, q2⟩ := ih2 (by omega) ns h.2 (fun x hx => hl x (by simp [alls, hx])) (acc + c1) (by omega) (by omega)
        exact ⟨c, q1, by omega⟩
end Go.Proofs.YtmidcnfnmnhifaaGreat
