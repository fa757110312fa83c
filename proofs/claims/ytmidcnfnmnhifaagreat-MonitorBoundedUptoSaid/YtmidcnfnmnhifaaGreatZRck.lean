/-
  Package beadleref07: All, set, Check: the same as ast.Check.
-/
import Derived.Test.YtmidcnfnmnhifaaGreatZMny
import Derived.Test.YtmidcnfnmnhifaaGreatZFit
import Derived.Test.YtmidcnfnmnhifaaGreatZRfl
import Derived.Test.YtmidcnfnmnhifaaGreatZRef
namespace Go.Proofs.YtmidcnfnmnhifaaGreat
set_option linter.unusedSectionVars false
set_option linter.unusedSimpArgs false
set_option linter.unusedVariables false
open Go Go.Den
set_option linter.unusedVariables false

mutual
/-- an expression and all below it, in order -/
def Ex.all : Ex → List Ex
  | .mk k s n a b ks => .mk k s n a b ks :: (if k = 4 then [] else alls ks)
def alls : List Ex → List Ex
  | [] => []
  | e :: es => e.all ++ alls es
end
theorem alls_append : ∀ es fs : List Ex, alls (es ++ fs) = alls es ++ alls fs
  | [], fs => rfl
  | e :: es, fs => by simp [alls, alls_append es fs]
mutual
theorem Ex.all_length : ∀ e : Ex, e.all.length = e.count
  | .mk k s n a b ks => by
    simp only [Ex.all, Ex.count]
    by_cases h : k = 4
    · simp [h]
    · simp [h, alls_length ks]
theorem alls_length : ∀ es : List Ex, (alls es).length = counts es
  | [] => rfl
  | e :: es => by simp [alls, counts, Ex.all_length e, alls_length es]
end
mutual
theorem Ex.all_le : ∀ e : Ex, e.all.length ≤ e.size
  | .mk k s n a b ks => by
    simp only [Ex.all, Ex.size]
    have := alls_le ks
    by_cases h : k = 4
    · simp [h]
    · simp [h]; omega
theorem alls_le : ∀ es : List Ex, (alls es).length ≤ sizes es
  | [] => Nat.le_refl _
  | e :: es => by
    have := Ex.all_le e
    have := alls_le es
    simp [alls, sizes]; omega
end
def setOk (ks : List Ex) : Bool := texts none ks && decide ((ks.length : Int) ≤ 8)
def nodeOk : Ex → Bool
  | .mk k s n a b ks => (if k = 4 then setOk ks else kidsN k == ks.length) && ownB k n a b s
mutual
theorem Ex.all_ok : ∀ e : Ex, e.all.all nodeOk = e.may
  | .mk k s n a b ks => by
    simp only [Ex.all, Ex.may, List.all_cons, nodeOk]
    have := alls_ok ks
    by_cases h : k = 4
    · simp [h, setOk, Bool.and_comm]
    · simp [h, this, Bool.and_assoc]
theorem alls_ok : ∀ es : List Ex, (alls es).all nodeOk = mays es
  | [] => rfl
  | e :: es => by simp [alls, mays, Ex.all_ok e, alls_ok es]
end
mutual
theorem Ex.all_short : ∀ e : Ex, e.Short → ∀ x ∈ e.all, x.Short
  | .mk k s n a b ks, h, x, hx => by
    simp only [Ex.all, List.mem_cons] at hx
    rcases hx with rfl | hx
    · exact h
    · simp only [Ex.Short] at h
      split at hx
      · simp at hx
      · exact alls_short ks h.2 x hx
theorem alls_short : ∀ es : List Ex, Shorts es → ∀ x ∈ alls es, x.Short
  | [], h, x, hx => by simp [alls] at hx
  | e :: es, h, x, hx => by
    simp only [Shorts] at h
    simp only [alls, List.mem_append] at hx
    rcases hx with hx | hx
    · exact Ex.all_short e h.1 x hx
    · exact alls_short es h.2 x hx
end

theorem AtL.append {F : HP} {es fs : List Ex} {xs ys : List Value} (h : AtL F es xs) (hl : xs.length = es.length * 6) (hf : AtL F fs ys) : AtL F (es ++ fs) (xs ++ ys) := by
  intro j e hj
  rcases Nat.lt_or_ge j es.length with hlt | hge
  · rw [List.getElem?_append_left hlt] at hj
    obtain ⟨cs', h1, h2⟩ := h j e hj
    refine ⟨cs', ?_, h2⟩
    rw [List.drop_append_of_le_length (by omega), List.take_append_of_le_length (by simp; omega), h1]
  · rw [List.getElem?_append_right hge] at hj
    obtain ⟨cs', h1, h2⟩ := hf _ e hj
    refine ⟨cs', ?_, h2⟩
    rw [← h1, List.drop_append, List.drop_of_length_le (by omega)]
    simp only [List.nil_append]
    congr 2
    omega
theorem AtL.mono {F F' : HP} (hl : F.le F') {es : List Ex} {xs : List Value} (h : AtL F es xs) : AtL F' es xs := fun j e hj => let ⟨cs, h1, h2⟩ := h j e hj; ⟨cs, h1, h2.mono hl⟩

/-- expressions in a slice, none empty -/
def AllS (F : HP) (es : List Ex) (v : Value) : Prop := ∃ g c xs, v = .slice (some ⟨g, 0, none⟩) es.length c ∧ xs.length = es.length * 6 ∧ F.has ⟨g, 0, none⟩ xs ∧ AtL F es xs ∧ ∀ u ∈ xs, u.oneCell' = true

theorem all83 : ∀ (N : Nat) (e : Ex), e.size ≤ N → N < 1000000000000 → ∀ {H : HP} {cs : List Value}, e.At H cs →
    Den.Spec Tryz.prog 83 #[.agg ⟨cs⟩] H fun e' H' => ∃ v, e' = .returned v ∧ AllS H' e.all v ∧ H.le H' := by
  intro N
  induction N with
  | zero => intro e he; have := e.size_pos; omega
  | succ N ih =>
    intro e he hN H cs hat
    obtain ⟨k, s, n, x, y, ks⟩ := e
    have hat0 := hat
    have hall := Ex.all_le (.mk k s n x y ks)
    simp only [Ex.At] at hat
    obtain ⟨p, c, rfl, hks⟩ := hat
    simp only [Ex.size] at he
    have hlen := sizes_length ks
    refine spec83 (a0_0 := k) (a0_1 := s) (a0_2 := n) (a0_3 := x) (a0_4 := y) (a0_5a := p) (a0_5n := ks.length) (a0_5c := c) ?_
    unfold W83
    have start : Wd ⟨H, H, []⟩ emp' H H [] := Wd.start ⟨HP.le.refl H, fun _ h => by simp at h, fun _ h => by simp at h⟩ trivial
    refine WNew.blk Good.emp start fun z H1 hz hle h1 => ?_
    have hat1 : AtL H [.mk k s n x y ks] (exCells k s n x y p ks.length c) := by
      intro j e hj
      cases j with
      | zero => simp at hj; subst hj; exact ⟨_, rfl, hat0⟩
      | succ j => simp at hj
    have h1' : Wd ⟨H, H, []⟩ ((sepc (ownS 24 6 (some ⟨z, 0, none⟩) 1 1 (exCells k s n x y p ks.length c)) emp')) H H1 [z] := h1.imp fun hh => star_mono (fun T hT => ⟨rfl, .inr ⟨z, _, rfl, hT.1, hT.2, by decide, by decide, rfl, rfl⟩⟩) (fun _ h => h) hh
    -- the end
    have fin : ∀ {F : HP} {H' : HP} {S : List Nat} {q : Option Addr} {m : Nat} {xs : List Value} {es : List Ex}, Wd ⟨H, H, []⟩ ((sepc (ownS 24 6 q es.length m xs) emp')) F H' S → xs.length = es.length * 6 → AtL F es xs → (∀ u ∈ xs, u.oneCell' = true) → es ≠ [] → ∃ v, Ending.returned (.slice q es.length m) = .returned v ∧ AllS H' es v ∧ H.le H' := by
      intro F H' S q m xs es hw hxl hxs hone hne
      obtain ⟨F', S', hw', hle', hcell⟩ := hw.freezeS Good.emp (own_new rfl hw)
      have hxne : xs ≠ [] := fun h => by rw [h] at hxl; cases es with | nil => exact hne rfl | cons e es => simp at hxl
      obtain ⟨g, hq, hh⟩ := hcell 0 xs (by rw [List.drop_zero, List.take_length]) hxne
      subst hq
      exact ⟨_, rfl, ⟨g, m, xs, rfl, hxl, hw'.wd.le.has hh, (hxs.mono hle').mono hw'.wd.le, hone⟩, (hw.tr.le.trans hle').trans hw'.wd.le⟩
    by_cases h4 : k = 4
    · refine WIf.t (by simp [h4]) ?_
      have e1 : (Ex.mk k s n x y ks).all = [.mk k s n x y ks] := by rw [Ex.all, if_pos h4]
      rw [e1]
      exact fin (es := [.mk k s n x y ks]) h1' rfl hat1 one_cells (by simp)
    refine WIf.f (by simp [h4]) ?_
    have e1 : (Ex.mk k s n x y ks).all = .mk k s n x y ks :: alls ks := by rw [Ex.all, if_neg h4]
    rw [e1] at hall ⊢
    refine WLoop.run ks.length (fun x => x.1.2.1.toNat) (fun i x' H' => ∃ q m F S xs, x' = (((q, ((Ex.mk k s n x y ks :: alls (ks.take i)).length, m)), ((i : Int), ())), ()) ∧ Wd ⟨H, H, []⟩ ((sepc (ownS 24 6 q (Ex.mk k s n x y ks :: alls (ks.take i)).length m xs) emp')) F H' S ∧
        xs.length = (Ex.mk k s n x y ks :: alls (ks.take i)).length * 6 ∧ AtL F (Ex.mk k s n x y ks :: alls (ks.take i)) xs ∧ ∀ u ∈ xs, u.oneCell' = true) 0
      ⟨some ⟨z, 0, none⟩, 1, H, [z], exCells k s n x y p ks.length c, rfl, h1', rfl, hat1, one_cells⟩ (Nat.zero_le _) (by rintro i x H ⟨q, m, F, S, xs, rfl, _⟩; simp) ?_
    rintro i x' H2 again - hi ⟨q, m, F, S, xs, rfl, hw, hxl, hxs, hone⟩ hag
    by_cases hlt : i < ks.length
    · refine WIf.t (by simpa using hlt) ?_
      obtain ⟨ad, cs, hp, hcs, hat⟩ := hks.get i ks[i] (by simp [hlt])
      have hdi : ks[i].size ≤ N := by have := sizes_ge ks ks[i] (List.getElem_mem hlt); omega
      refine WIndex.at' hp hlt ?_
      have hgrow := ih ks[i] hdi (by omega) (H := F) (hat.mono hw.tr.le)
      have htake : ks.take (i + 1) = ks.take i ++ [ks[i]] := List.take_succ_eq_append_getElem hlt
      have hal : alls (ks.take (i + 1)) = alls (ks.take i) ++ ks[i].all := by rw [htake, alls_append]; simp [alls]
      have htot : (Ex.mk k s n x y ks :: alls (ks.take (i + 1))).length ≤ N + 1 := by
        have h1 : alls ks = alls (ks.take (i + 1)) ++ alls (ks.drop (i + 1)) := by rw [← alls_append, List.take_append_drop]
        have h2 := congrArg List.length h1
        simp only [List.length_append] at h2
        simp only [List.length_cons, Ex.size] at hall ⊢
        omega
      generalize hki : ks[i] = e' at hat hgrow htake hdi hal
      obtain ⟨p', c', k', s', n', x'', y', ks', rfl, rfl⟩ : ∃ p' c' k' s' n' x'' y' ks', e' = Ex.mk k' s' n' x'' y' ks' ∧ cs = exCells k' s' n' x'' y' p' ks'.length c' := by
        obtain ⟨k', s', n', x'', y', ks'⟩ := e'
        obtain ⟨p', c', rfl⟩ := Ex.At.cells hat
        exact ⟨_, _, _, _, _, _, _, _, rfl, rfl⟩
      refine WLoad.ex (by rw [Nat.zero_add] at hcs; simpa using (hw.tr.le.trans hw.wd.le).has hcs) ?_
      refine WCall.grow (Good.star Good.ownS Good.emp) hw hgrow ?_
      rintro v F2 H3 ⟨g2, c2, ys, rfl, hyl, hyh, hys, hyone⟩ hle2 hw2
      refine WOpen.sl ?_
      have hsum : (Ex.mk k s n x y ks :: alls (ks.take i)).length + (Ex.mk k' s' n' x'' y' ks').all.length = (Ex.mk k s n x y ks :: alls (ks.take (i + 1))).length := by
        rw [hal]; simp only [List.length_cons, List.length_append]; omega
      refine SliceTy.push sliceExpr (by decide) Good.emp hw2 (m := (Ex.mk k' s' n' x'' y' ks').all.length) (news := ys) hyl (hw2.wd.le.has hyh) hyone (by simp only [maxLen]; omega) (by omega) ?_
      intro p4 cap H4 S4 hw4 _
      refine WOpen.sl ?_
      simp only [wrapS (show i < 1000000000000 by omega)]
      rw [hsum] at hw4 ⊢
      refine hag _ _ hlt ⟨p4, cap, F2, S4, xs ++ ys, rfl, hw4, by rw [List.length_append, hxl, hyl, ← Nat.add_mul, hsum], ?_, fun u hu => (List.mem_append.1 hu).elim (hone u) (hyone u)⟩
      rw [hal]
      exact (hxs.mono hle2).append hxl hys
    · refine WIf.f (by simpa using hlt) ?_
      have hil : i = ks.length := by omega
      subst hil
      rw [List.take_length] at hw hxl hxs ⊢
      exact fin (es := .mk k s n x y ks :: alls ks) hw hxl hxs hone (by simp)

theorem may_text {s : ByteArray} {n a b : Int} {ks : List Ex} : (Ex.mk 3 s n a b ks).may = (decide (ks.length = 0) && (((plainB s && (n == 0)) && (a == 0)) && (b == 0))) := by
  cases ks with
  | nil => simp [Ex.may, ownB, kidsN, mays]
  | cons e es => simp [Ex.may, kidsN]; omega

theorem set84 {H : HP} {k n x y : Int} {s : ByteArray} {ks : List Ex} {p : Option Addr} {c : Nat} (hks : ExsAt H ks p 0) : Pure Tryz.prog 84 #[.agg ⟨exCells k s n x y p ks.length c⟩] H (.bool (setOk ks)) := by
  refine Pure.of (spec84 (a0_0 := k) (a0_1 := s) (a0_2 := n) (a0_3 := x) (a0_4 := y) (a0_5a := p) (a0_5n := ks.length) (a0_5c := c) ?_)
  unfold W84 setOk
  by_cases h8 : ks.length > 8
  · refine WIf.t (by simp; omega) ⟨?_, HP.le.refl H⟩
    have : decide ((ks.length : Int) ≤ 8) = false := by simp; omega
    rw [this, Bool.and_false]
  have h8' : decide ((ks.length : Int) ≤ 8) = true := by simp; omega
  rw [h8', Bool.and_true]
  refine WIf.f (by simp; omega) ?_
  refine WLoop.up ks.length 0 (fun i => texts none ks = texts (lastName ks i) (ks.drop i)) rfl (Nat.zero_le _) ?_
  intro i again _ hi hall hag
  by_cases hlt : i < ks.length
  · obtain ⟨ad, cs, hp, hcs, hat⟩ := hks.get i ks[i] (by simp [hlt])
    have hdrop : ks.drop i = ks[i] :: ks.drop (i + 1) := (List.getElem_cons_drop hlt).symm
    have hlast : lastName ks (i + 1) = some ks[i].name := by simp [lastName, hlt]
    rw [hdrop] at hall
    simp only [texts] at hall
    have hprev : i ≠ 0 → ∃ z, lastName ks i = some z ∧ H.has ((ad.add ((i - 1) * 6)).add 1) [.string z] := by
      intro h0
      obtain ⟨ad', cs', hp', hcs', hat''⟩ := hks.get (i - 1) (ks[i - 1]'(by omega)) (by simp)
      rw [hp] at hp'
      cases hp'
      refine ⟨(ks[i - 1]'(by omega)).name, ?_, ?_⟩
      · cases i with
        | zero => exact absurd rfl h0
        | succ i => simp [lastName, show i < ks.length by omega]
      · generalize ks[i - 1]'(by omega) = e' at hat''
        obtain ⟨k', s', n', a', b', ks'⟩ := e'
        obtain ⟨p', c', rfl⟩ := Ex.At.cells hat''
        rw [Nat.zero_add] at hcs'
        exact hasOne hcs' (j := 1) rfl
    generalize ks[i] = e' at hat hall hlast
    obtain ⟨k', s', n', a', b', ks'⟩ := e'
    obtain ⟨p', c', rfl⟩ := Ex.At.cells hat
    simp only [Ex.kind, Ex.name] at hall hlast
    refine WIf.t (by simpa using hlt) (WIndex.at' hp hlt (WLoad.ex (by rw [Nat.zero_add] at hcs; simpa using hcs) ?_))
    by_cases h3 : k' = 3
    · subst h3
      rw [may_text] at hall
      have no : (decide (ks'.length = 0) && (((plainB s' && (n' == 0)) && (a' == 0)) && (b' == 0))) = false → texts none ks = false := fun h => by rw [hall, h]; simp
      refine WIf.f rfl ?_
      by_cases hl : ks'.length = 0
      · refine WIf.f (decide_eq_false (by omega)) ?_
        by_cases hn : n' = 0
        · refine WIf.f (by simp [hn]) ?_
          by_cases ha : a' = 0
          · refine WIf.f (by simp [ha]) ?_
            by_cases hb : b' = 0
            · refine WIf.f (by simp [hb]) (WCall.pure (refPlain_spec s') (WOpen.b ?_))
              cases hpl : plainB s' with
              | false => exact WIf.t rfl ⟨by rw [no (by simp [hpl])], HP.le.refl H⟩
              | true =>
                refine WIf.f rfl ?_
                simp only [hl, hn, ha, hb, hpl, decide_true, beq_self_eq_true, Bool.and_self, Bool.true_and] at hall
                simp only [wrapS (show i < 1000000000000 by omega)]
                have next : texts none ks = texts (some s') (ks.drop (i + 1)) → again ((((i + 1 : Nat) : Int), ()), ()) H := fun h => hag hlt (by rw [h, hlast])
                by_cases h0 : i = 0
                · refine WIf.f (by simp [h0]) (next ?_)
                  rw [hall, h0]
                  rfl
                · obtain ⟨zz, hz, hhas⟩ := hprev h0
                  refine WIf.t (by simp; omega) ?_
                  simp only [wrapP (show i < 1000000000000 by omega) (by omega)]
                  refine WIndex.at' hp (by omega) (WLoad.s1 (by simpa using hhas) ?_)
                  rw [hz] at hall
                  refine WIf.intro (fun h6 => ⟨?_, HP.le.refl H⟩) fun h6 => next ?_
                  · rw [hall]; simp only [afterB, h6]; rfl
                  · rw [hall]; simp only [afterB, h6]; rfl
            · exact WIf.t (by simp [hb]) ⟨by rw [no (by simp [hb])], HP.le.refl H⟩
          · exact WIf.t (by simp [ha]) ⟨by rw [no (by simp [ha])], HP.le.refl H⟩
        · exact WIf.t (by simp [hn]) ⟨by rw [no (by simp [hn])], HP.le.refl H⟩
      · exact WIf.t (decide_eq_true (by omega)) ⟨by rw [no (by simp [hl])], HP.le.refl H⟩
    · refine WIf.t (by simp [h3]) ⟨?_, HP.le.refl H⟩
      have : (k' == 3) = false := by simp [h3]
      rw [hall, this]
      rfl
  · have hge : i = ks.length := by omega
    refine WIf.f (by simpa using hlt) ⟨?_, HP.le.refl H⟩
    rw [hall, hge, List.drop_length]
    rfl

/-- the page's check is the program's -/
theorem check24 {H : HP} (e : Ex) (hN : e.size < 1000000000000) (hsh : e.Short) (cs : List Value) (hat : e.At H cs) : Pure Tryz.prog 24 #[.agg ⟨cs⟩] H (.int .i64 e.check) := by
  have h1 := refDepth_spec (H := H) e.size e (Nat.le_refl _) hN cs hat
  have h2 := all83 e.size e (Nat.le_refl _) hN hat
  have hlen := e.all_length
  have hle := e.all_le
  have hmay := e.all_ok
  have hshort := e.all_short hsh
  unfold Ex.check
  rw [← hmay, ← hlen]
  generalize e.depth = d at h1 ⊢
  generalize e.all = es at *
  obtain ⟨k, s, n, x, y, p, l, c, rfl⟩ : ∃ k s n x y p l c, cs = exCells k s n x y p l c := by
    obtain ⟨k, s, n, a, b, ks⟩ := e
    obtain ⟨p, c, rfl⟩ := Ex.At.cells hat
    exact ⟨_, _, _, _, _, _, _, _, rfl⟩
  refine Pure.of (spec24 (a0_0 := k) (a0_1 := s) (a0_2 := n) (a0_3 := x) (a0_4 := y) (a0_5a := p) (a0_5n := l) (a0_5c := c) (WCall.pure h1 (WOpen.i ?_)))
  by_cases hd : d > 12
  · exact WIf.t (by simp; omega) ⟨by rw [if_pos hd], HP.le.refl H⟩
  rw [if_neg hd]
  refine WIf.f (by simp; omega) ?_
  have start : Wd ⟨H, H, []⟩ emp' H H [] := Wd.start ⟨HP.le.refl H, fun _ h => by simp at h, fun _ h => by simp at h⟩ trivial
  refine WCall.grow Good.emp start h2 ?_
  rintro v F H1 ⟨g, c', xs, rfl, hxl, hxh, hxs, _⟩ hle1 hw
  have hH1 : H.le H1 := hle1.trans hw.wd.le
  refine WOpen.sl ?_
  by_cases hc : es.length > 64
  · exact WIf.t (by simp; omega) ⟨by rw [if_pos hc], hH1⟩
  rw [if_neg hc]
  refine WIf.f (by simp; omega) ?_
  refine WLoop.up es.length 0 (fun i => (es.take i).all nodeOk = true) rfl (Nat.zero_le _) ?_
  intro i again _ hi hok hag
  by_cases hlt : i < es.length
  · have hcell : ∃ cs, H1.has ⟨g, i * 6, none⟩ cs ∧ (es[i]).At H1 cs := by
      obtain ⟨cs, h1, h2⟩ := hxs i es[i] (by simp [hlt])
      have h6 := h2.len
      refine ⟨cs, fun j v hj => ?_, h2.mono hw.wd.le⟩
      have hj6 : j < 6 := h6 ▸ (List.getElem?_eq_some_iff.1 hj).1
      have hx : xs[i * 6 + j]? = some v := by
        rw [← h1, List.getElem?_take_of_lt hj6, List.getElem?_drop] at hj
        exact hj
      have := hw.wd.le.has hxh (i * 6 + j) v hx
      rw [addN] at this ⊢
      simpa using this
    obtain ⟨cs, hcs, hat'⟩ := hcell
    have hsh' := hshort es[i] (List.getElem_mem hlt)
    have htake : es.take (i + 1) = es.take i ++ [es[i]] := List.take_succ_eq_append_getElem hlt
    have hbad : nodeOk es[i] = false → es.all nodeOk = false := fun h => by
      rw [List.all_eq_false]
      exact ⟨es[i], List.getElem_mem hlt, by simp [h]⟩
    have hgood : nodeOk es[i] = true → (es.take (i + 1)).all nodeOk = true := fun h => by rw [htake, List.all_append, hok]; simp [h]
    generalize es[i] = e' at hat' hsh' hbad hgood
    obtain ⟨k', s', n', a', b', ks'⟩ := e'
    have hatk := hat'
    simp only [Ex.At] at hatk
    obtain ⟨p', c2, rfl, hks'⟩ := hatk
    simp only [Ex.Short] at hsh'
    simp only [nodeOk] at hbad hgood
    have hk0 : H1.has ⟨g, i * 6, none⟩ [.int .i64 k'] := by
      have := hasOne hcs (j := 0) rfl
      rwa [addN] at this
    have hk5 : H1.has ⟨g, i * 6 + 5, none⟩ [.slice p' ks'.length c2] := by
      have := hasOne hcs (j := 5) rfl
      rwa [addN] at this
    have adr : ∀ j : Nat, Addr.add ⟨g, 0, none⟩ j = ⟨g, j, none⟩ := fun j => by rw [addN, Nat.zero_add]
    have bad : nodeOk (.mk k' s' n' a' b' ks') = false → (Ending.returned (.int .i64 12) = .returned (.int .i64 (if es.all nodeOk = false then 12 else 0)) ∧ H.le H1) := fun h => ⟨by rw [if_pos (hbad h)], hH1⟩
    have fits : nodeOk (.mk k' s' n' a' b' ks') = ownB k' n' a' b' s' → WIndex (some ⟨g, 0, none⟩) es.length (i : Int) (fun q15 =>
         WLoad (Addr.add q15 ((Int.toNat (i : Int)) * 6)) (.agg [(.i .i64), .s, (.i .i64), (.i .i64), (.i .i64), .sl]) fun (x16 : Int) (x16_1 : ByteArray) (x16_2 : Int) (x16_3 : Int) (x16_4 : Int) (x16_5 : Option Go.Addr) (x16_6 : Nat) (x16_7 : Nat) =>
         WCall Tryz.prog (fun e H' => e = .returned (.int .i64 (if es.all nodeOk = false then 12 else 0)) ∧ H.le H') 85 #[(.agg #[(.int .i64 x16), (.string x16_1), (.int .i64 x16_2), (.int .i64 x16_3), (.int .i64 x16_4), (.slice x16_5 x16_6 x16_7)])] (WOpen (.one (.l .b)) fun (x17 : Bool) =>
         WIf (!x17) (fun H' => Ending.returned (.int .i64 12) = .returned (.int .i64 (if es.all nodeOk = false then 12 else 0)) ∧ H.le H')
         (again (((IntKind.wrap .i64 ((i : Int) + 1)), ()), ())))) H1 := by
      intro hno
      have hf := fits_spec (H := H1) k' n' a' b' s' p' ks'.length c2 hsh'.1
      rw [fits_own] at hf
      refine WIndex.at (by omega) (WLoad.ex (by rw [adr]; simpa using hcs) (WCall.pure hf (WOpen.b ?_)))
      cases ho : ownB k' n' a' b' s' with
      | false => exact WIf.t rfl (bad (hno.trans ho))
      | true =>
        refine WIf.f rfl ?_
        simp only [wrapS (show i < 1000000000000 by omega)]
        exact hag hlt (hgood (hno.trans ho))
    refine WIf.t (by simpa using hlt) (WIndex.at (by omega) (WLoad.i (n := k') (by rw [adr, addN]; simpa using hk0) (WCall.pure (refKids_spec k') (WOpen.i ?_))))
    rw [kidsR_eq]
    have range : kidsN k' = -2 ∨ kidsN k' = -1 ∨ 0 ≤ kidsN k' := by
      unfold kidsN
      repeat' split
      all_goals omega
    have four : kidsN k' = -1 ↔ k' = 4 := by
      unfold kidsN
      repeat' split
      all_goals first | omega | (simp_all; done) | (constructor <;> intro h <;> simp_all)
    have hnode : nodeOk (.mk k' s' n' a' b' ks') = ((if k' = 4 then setOk ks' else kidsN k' == ks'.length) && ownB k' n' a' b' s') := rfl
    rcases range with r | r | r
    · refine WIf.t (by simp [r]) (bad ?_)
      have hk4 : k' ≠ 4 := fun h => by rw [four.2 h] at r; omega
      rw [hnode, if_neg hk4, r]
      have : ((-2 : Int) == (ks'.length : Int)) = false := by simp
      rw [this, Bool.false_and]
    · have hk4 := four.1 r
      refine WIf.f (by simp [r]) (WIf.f (by simp [r]) (WIf.t (by simp [r]) (WIndex.at (by omega) (WLoad.ex (by rw [adr]; simpa using hcs) (WCall.pure (set84 hks') (WOpen.b ?_))))))
      cases hs : setOk ks' with
      | false => exact WIf.t rfl (bad (by rw [hnode, if_pos hk4, hs, Bool.false_and]))
      | true => exact WIf.f rfl (fits (by rw [hnode, if_pos hk4, hs, Bool.true_and]))
    · have hk4 : k' ≠ 4 := fun h => by rw [four.2 h] at r; omega
      refine WIf.f (by simp; omega) (WIf.t (by simp; omega) (WIndex.at (by omega) (WLoad.sl (p := p') (n := ks'.length) (c := c2) (by rw [adr, addN]; simpa using hk5) ?_)))
      by_cases hl : kidsN k' = ks'.length
      · refine WIf.f (by simp [hl]) (WIf.f (by simp; omega) (fits ?_))
        rw [hnode, if_neg hk4, hl]
        simp
      · refine WIf.t (by simp; omega) (bad ?_)
        rw [hnode, if_neg hk4]
        have : (kidsN k' == (ks'.length : Int)) = false := by simp [hl]
        rw [this, Bool.false_and]
  · have hil : i = es.length := by omega
    subst hil
    rw [List.take_length] at hok
    exact WIf.f (by simp) ⟨by rw [if_neg (by rw [hok]; simp)], hH1⟩
end Go.Proofs.YtmidcnfnmnhifaaGreat
