/-
  ast.Clone; monitor.grow, New.
-/
import Derived.Test.YtmidcnfnmnhifaaGreatZMng
namespace Go.Proofs.YtmidcnfnmnhifaaGreat
set_option linter.unusedSectionVars false
set_option linter.unusedSimpArgs false
set_option linter.unusedVariables false
open Go Go.Den
set_option linter.unusedVariables false

theorem ExsAt.mk {H : HP} {p : Option Addr} : ∀ {es : List Ex} {i : Nat}, (∀ (j : Nat) (e : Ex), es[j]? = some e → ∃ x cs, p = some x ∧ H.has (x.add ((i + j) * 6)) cs ∧ e.At H cs) → ExsAt H es p i
  | [], _, _ => by simp [ExsAt]
  | e :: es, i, h => by
    simp only [ExsAt]
    refine ⟨h 0 e rfl, ExsAt.mk fun j e' hj => ?_⟩
    have := h (j + 1) e' (by simpa using hj)
    rwa [show i + (j + 1) = i + 1 + j by omega] at this

theorem Ex.At.len {F : HP} {e : Ex} {cs : List Value} (h : e.At F cs) : cs.length = 6 := by
  obtain ⟨k, s, n, x, y, ks⟩ := e
  obtain ⟨p, c, rfl⟩ := Ex.At.cells h
  rfl

/-- expressions, in cells one behind the other -/
def AtL (F : HP) (es : List Ex) (xs : List Value) : Prop := ∀ (j : Nat) (e : Ex), es[j]? = some e → ∃ cs, (xs.drop (j * 6)).take 6 = cs ∧ e.At F cs
theorem AtL.snoc {F F' : HP} (hl : F.le F') {es : List Ex} {xs : List Value} (h : AtL F es xs) (hlen : xs.length = es.length * 6) {e : Ex} {cs : List Value} (he : e.At F' cs) : AtL F' (es ++ [e]) (xs ++ cs) := by
  intro j e' hj
  rcases Nat.lt_or_ge j es.length with hlt | hge
  · rw [List.getElem?_append_left hlt] at hj
    obtain ⟨cs', h1, h2⟩ := h j e' hj
    refine ⟨cs', ?_, h2.mono hl⟩
    rw [List.drop_append_of_le_length (by omega), List.take_append_of_le_length (by simp; omega), h1]
  · rw [List.getElem?_append_right hge] at hj
    have hj0 : j - es.length = 0 := by
      rcases Nat.eq_zero_or_pos (j - es.length) with h | h
      · exact h
      · rw [List.getElem?_eq_none (by simp; omega)] at hj; cases hj
    rw [hj0] at hj
    simp at hj
    subst hj
    have : j = es.length := by omega
    subst this
    refine ⟨cs, ?_, he⟩
    rw [← hlen, List.drop_left, List.take_of_length_le (by have := he.len; omega)]

theorem one_cells {k n x y : Int} {s : ByteArray} {p : Option Addr} {l c : Nat} : ∀ u ∈ exCells k s n x y p l c, u.oneCell' = true := by
  intro u hu
  simp only [exCells, List.mem_cons, List.not_mem_nil, or_false] at hu
  rcases hu with rfl | rfl | rfl | rfl | rfl | rfl <;> rfl

theorem own_new {a : Base} {R : Asr} {F H : HP} {S : List Nat} {e : TypeId} {size n c : Nat} {p : Option Addr} {xs : List Value} (hS : a.S = []) (h : Wd a ((sepc (ownS e size p n c xs) R)) F H S) : ∀ g, p = some ⟨g, 0, none⟩ → a.H g = none := by
  intro g hp
  obtain ⟨wd, tr, S1, S2, i1, i2, idj, ⟨_, hA⟩, _⟩ := h
  rcases hA with ⟨rfl, _⟩ | ⟨g', cur, h1, h2, _⟩
  · cases hp
  · rw [hp] at h1
    cases h1
    rcases tr.newS g (i1 g h2) with h | h
    · rw [hS] at h; simp at h
    · exact h

theorem clone81 : ∀ (N : Nat) (e : Ex), e.size ≤ N → N < 1000000000000 → ∀ {H : HP} {cs : List Value}, e.At H cs →
    Den.Spec Tryz.prog 81 #[.agg ⟨cs⟩] H fun e' H' => ∃ v, e' = .returned v ∧ (∃ cs', v = .agg ⟨cs'⟩ ∧ e.At H' cs') ∧ H.le H' := by
  intro N
  induction N with
  | zero => intro e he; have := e.size_pos; omega
  | succ N ih =>
    intro e he hN H cs hat
    obtain ⟨k, s, n, x, y, ks⟩ := e
    simp only [Ex.At] at hat
    obtain ⟨p, c, rfl, hks⟩ := hat
    simp only [Ex.size] at he
    have hlen := sizes_length ks
    refine spec81 (a0_0 := k) (a0_1 := s) (a0_2 := n) (a0_3 := x) (a0_4 := y) (a0_5a := p) (a0_5n := ks.length) (a0_5c := c) ?_
    unfold W81
    have start : Wd ⟨H, H, []⟩ ((sepc (ownS 24 6 none 0 0 []) emp')) H H [] := Wd.start ⟨HP.le.refl H, fun _ h => by simp at h, fun _ h => by simp at h⟩ (star_emp ownS_nil)
    refine WLoop.run ks.length (fun x => x.1.2.1.toNat) (fun i x H' => ∃ q m F S xs, x = (((q, (i, m)), ((i : Int), ())), ()) ∧ Wd ⟨H, H, []⟩ ((sepc (ownS 24 6 q i m xs) emp')) F H' S ∧ AtL F (ks.take i) xs ∧ xs.length = i * 6) 0
      ⟨none, 0, H, [], [], rfl, start, fun j e h => by simp at h, rfl⟩ (Nat.zero_le _) (by rintro i x H ⟨q, m, F, S, xs, rfl, _⟩; simp) ?_
    rintro i x' H1 again - hi ⟨q, m, F, S, xs, rfl, hw, hxs, hxl⟩ hag
    by_cases hlt : i < ks.length
    · refine WIf.t (by simpa using hlt) ?_
      obtain ⟨ad, cs, hp, hcs, hat⟩ := hks.get i ks[i] (by simp [hlt])
      have hdi : ks[i].size ≤ N := by have := sizes_ge ks ks[i] (List.getElem_mem hlt); omega
      refine WIndex.at' hp hlt ?_
      have hgrow := ih ks[i] hdi (by omega) (H := F) (hat.mono hw.tr.le)
      have htake : ks.take (i + 1) = ks.take i ++ [ks[i]] := List.take_succ_eq_append_getElem hlt
      generalize hki : ks[i] = e' at hat hgrow htake hdi
      obtain ⟨k', s', n', x'', y', ks'⟩ := e'
      obtain ⟨p', c', rfl⟩ := Ex.At.cells hat
      refine WLoad.ex (by rw [Nat.zero_add] at hcs; simpa using (hw.tr.le.trans hw.wd.le).has hcs) ?_
      refine WCall.grow (Good.star Good.ownS Good.emp) hw hgrow ?_
      rintro v F2 H2 ⟨cs2, rfl, hcs2⟩ hle2 hw2
      obtain ⟨p2, c2, rfl⟩ := Ex.At.cells hcs2
      refine WOpen.ex ?_
      refine WNew.blk (Good.star Good.ownS Good.emp) hw2 fun z H3 hz hle3 hw3 => ?_
      refine SliceTy.push sliceExpr (by decide) (Good.star Good.blk Good.emp) (hw3.imp star_left) (m := 1) (news := exCells k' s' n' x'' y' p2 ks'.length c2) rfl (blk_has hw3.it rfl) one_cells (by simp only [maxLen]; omega) (by omega) ?_
      intro p4 cap H4 S4 hw4 _
      refine WOpen.sl ?_
      simp only [wrapS (show i < 1000000000000 by omega)]
      refine hag _ _ hlt ⟨p4, cap, F2, S4, xs ++ exCells k' s' n' x'' y' p2 ks'.length c2, rfl, hw4.imp fun hh => star_mono (fun _ h => h) (fun _ _ => trivial) hh, ?_, by simp [hxl, exCells]; omega⟩
      rw [htake]
      exact hxs.snoc hle2 (by rw [hxl]; simp; omega) hcs2
    · refine WIf.f (by simpa using hlt) ?_
      have hil : i = ks.length := by omega
      subst hil
      rw [List.take_length] at hxs
      obtain ⟨F', S', hw', hle, hcell⟩ := hw.freezeS Good.emp (own_new rfl hw)
      refine ⟨_, rfl, ⟨exCells k s n x y q ks.length m, rfl, ?_⟩, (hw.tr.le.trans hle).trans hw'.wd.le⟩
      simp only [Ex.At]
      refine ⟨q, m, rfl, ExsAt.mk fun j e hj => ?_⟩
      obtain ⟨cs, h1, h2⟩ := hxs j e hj
      have h6 := h2.len
      obtain ⟨g, hq, hh⟩ := hcell (j * 6) cs (by rw [h6]; exact h1) (by intro h; rw [h] at h6; cases h6)
      exact ⟨⟨g, 0, none⟩, cs, hq, by rw [Nat.zero_add, addN, Nat.zero_add]; exact hw'.wd.le.has hh, h2.mono (hle.trans hw'.wd.le)⟩

mutual
/-- a node just grown -/
def Sta.new : Ex → Sta
  | .mk k _ _ y z eks => .mk (news eks) (if k = 22 ∨ k = 23 then some (startW y z) else none) (if k = 24 then some (startW y z) else none) (if k = 13 then some ⟨0, maxI z 0, 0, []⟩ else none) false
def news : List Ex → List Sta
  | [] => []
  | e :: es => Sta.new e :: news es
end
theorem news_length : ∀ es : List Ex, (news es).length = es.length
  | [] => rfl
  | e :: es => by simp [news, news_length es]
theorem news_append : ∀ es fs : List Ex, news (es ++ fs) = news es ++ news fs
  | [], fs => rfl
  | e :: es, fs => by simp [news, news_append es fs]

theorem kids_snoc {F H : HP} {e : Ex} {n : Sta} {g : Nat} : ∀ {es : List Ex} {ns : List Sta} {gs : List Nat} {S : List Nat}, ((sepc (kidsA es ns gs) (nodeA e n g))) F H S → kidsA (es ++ [e]) (ns ++ [n]) (gs ++ [g]) F H S
  | [], [], [], S, h => by simp only [List.nil_append, kidsA] at h ⊢; exact star_comm h
  | e' :: es, n' :: ns, g' :: gs, S, h => by
    simp only [List.cons_append, kidsA] at h ⊢
    exact star_mono (fun _ h => h) (fun _ h => kids_snoc h) (star_assoc h)
  | [], [], g' :: gs, S, h => by simp only [kidsA] at h; obtain ⟨_, _, _, _, _, h, _⟩ := h; exact h.elim
  | [], n' :: ns, gs, S, h => by cases gs <;> (simp only [kidsA] at h; obtain ⟨_, _, _, _, _, h, _⟩ := h; exact h.elim)
  | e' :: es, [], gs, S, h => by cases gs <;> (simp only [kidsA] at h; obtain ⟨_, _, _, _, _, h, _⟩ := h; exact h.elim)
  | e' :: es, n' :: ns, [], S, h => by simp only [kidsA] at h; obtain ⟨_, _, _, _, _, h, _⟩ := h; exact h.elim

theorem sliceNode : SliceTy Tryz.prog 160 64 1 8 := ⟨by kernel_rfl, by kernel_rfl⟩

/-- a closed call, in a larger world -/
theorem Spec.apart {f : FuncId} {args : Array Value} {a : Base} {R : Asr} {F H : HP} {S : List Nat} {α : Type} {ret : α → Value} {A : α → Asr} (gr : Good R) (h : Wd a R F H S)
    (hs : Den.Spec Tryz.prog f args H fun e H' => ∃ x F' S', e = .returned (ret x) ∧ Wd ⟨F, H, []⟩ (A x) F' H' S') :
    Den.Spec Tryz.prog f args H fun e H' => ∃ x F' S', e = .returned (ret x) ∧ F.le F' ∧ Wd a ((sepc (A x) R)) F' H' S' := by
  refine hs.mono ?_
  rintro e H' ⟨x, F', S', he, hw⟩
  exact ⟨x, F', S' ++ S, he, hw.tr.le, h.trans (Wd.part (A := emp') (S1 := []) (S2 := S) gr h.wd (fun _ h => by simp at h) (fun _ h => h) (fun _ h => by simp at h) h.it hw)⟩

theorem WHeld.one {a : Addr} {vs : List Value} {k : W} {H : HP} (h : H.has a vs) (hk : k H) : WHeld [(a, vs)] k H := ⟨fun x hx => by simp at hx; subst hx; exact h, hk⟩
theorem WHeld.two {a b : Addr} {vs us : List Value} {k : W} {H : HP} (h : H.has a vs) (h2 : H.has b us) (hk : k H) : WHeld [(a, vs), (b, us)] k H := ⟨fun x hx => by
  simp at hx
  rcases hx with rfl | rfl
  · exact h
  · exact h2, hk⟩
theorem bring5 {A B C D E E' : Asr} {F H : HP} {S : List Nat} (h : ((sepc A (sepc B (sepc C (sepc D (sepc E E')))))) F H S) : ((sepc E (sepc A (sepc B (sepc C (sepc D E')))))) F H S := star_left (star_mono (fun _ h => h) (fun _ h => bring4 h) h)

def ptrs (gl : List Nat) : List Value := gl.map fun g => .pointer (some ⟨g, 0, none⟩)

theorem node_fin {a : Base} {F H : HP} {S : List Nat} {k n y z : Int} {nm : ByteArray} {eks : List Ex} {ks : List Sta} {o s t : Option Wi} {prev : Bool} {g : Nat} {q : Option Addr} {kl m : Nat} {gl : List Nat} {cs : List Value} {po ps pt : Option Nat} (hS : a.S = [])
    (he : (Ex.mk k nm n y z eks).At F cs) (hkl : kl = ks.length)
    (h : Wd a ((sepc (blk g 165 (cs ++ [.slice q kl m, .pointer (ptr po), .pointer (ptr ps), .pointer (ptr pt), .bool prev])) (sepc (winO 259 po o) (sepc (winO 260 ps s) (sepc (talO pt t) (sepc (ownS 64 1 q kl m (ptrs gl)) (kidsA eks ks gl))))))) F H S) :
    ∃ F' S', Wd a (nodeA (.mk k nm n y z eks) (.mk ks o s t prev) g) F' H S' := by
  have h1 := h.imp bring5
  obtain ⟨F', S', hw, hle, hcell⟩ := h1.freezeS (Good.star Good.blk (Good.star Good.winO (Good.star Good.winO (Good.star Good.talO Good.kids)))) (own_new hS h1)
  refine ⟨F', S', hw.imp fun hh => star_fst (B := emp') Good.node (nodeA_close (kp := q) (kc := m) (gl := gl) (fun i g' hg => ?_) hkl (nodB_mk (po := po) (ps := ps) (pt := pt) (he.mono hle) ?_))⟩
  · obtain ⟨g0, h1, h2⟩ := hcell i [.pointer (some ⟨g', 0, none⟩)] (by
      unfold ptrs
      have hlt : i < gl.length := (List.getElem?_eq_some_iff.1 hg).1
      rw [List.drop_eq_getElem_cons (by simpa using hlt)]
      simp [(List.getElem?_eq_some_iff.1 hg).2]) (by simp)
    exact ⟨_, h1, by rw [addN, Nat.zero_add]; exact h2⟩
  · exact under hh fun _ h => under h fun _ h => under h fun _ h => under h fun _ h => star_emp h

theorem node_kids_end {P : Prop} {F H : HP} {S : List Nat} {e : Ex} {n : Sta} {g z : Nat} {u : List Value} {es : List Ex} {ns : List Sta} {gs : List Nat} (h : ((sepc (blk z 64 u) (sepc (nodeA e n g) (kidsA es ns gs)))) F H S) : kidsA (es ++ [e]) (ns ++ [n]) (gs ++ [g]) F H S :=
  kids_snoc (star_comm (star_snd (Good.star Good.node Good.kids) h))

theorem grow80 : ∀ (N : Nat) (e : Ex), e.size ≤ N → N < 1000000000000 → ∀ {F H : HP} {cs : List Value}, F.le H → e.At F cs →
    Den.Spec Tryz.prog 80 #[.agg ⟨cs⟩] H fun e' H' => ∃ g F' S', e' = .returned (.pointer (some ⟨g, 0, none⟩)) ∧ Wd ⟨F, H, []⟩ (nodeA e (Sta.new e) g) F' H' S' := by
  intro N
  induction N with
  | zero => intro e he; have := e.size_pos; omega
  | succ N ih =>
    intro e he hN F H cs hFH hat
    obtain ⟨k, s, n, x, y, ks⟩ := e
    have hat0 := hat
    simp only [Ex.At] at hat
    obtain ⟨p, c, rfl, hks⟩ := hat
    simp only [Ex.size] at he
    have hlen := sizes_length ks
    refine spec80 (a0_0 := k) (a0_1 := s) (a0_2 := n) (a0_3 := x) (a0_4 := y) (a0_5a := p) (a0_5n := ks.length) (a0_5c := c) ?_
    unfold W80
    have start : Wd ⟨F, H, []⟩ emp' F H [] := Wd.start ⟨hFH, fun _ h => by simp at h, fun _ h => by simp at h⟩ trivial
    refine WNew.blk Good.emp start fun z H1 hz hle h1 => ?_
    let I : Nat → Option Addr → Nat → List Nat → Asr := fun i q m gl => (sepc (blk z 165 (exCells k s n x y p ks.length c ++ [.slice q i m, .pointer none, .pointer none, .pointer none, .bool false])) (sepc (ownS 64 1 q i m (ptrs gl)) (kidsA (ks.take i) (news (ks.take i)) gl)))
    have gI : ∀ {i q m gl}, Good (I i q m gl) := Good.star Good.blk (Good.star Good.ownS Good.kids)
    refine WLoop.run ks.length (fun x => x.1.1.toNat) (fun i x H' => ∃ q m F' S gl, x = (((i : Int), ()), ()) ∧ Wd ⟨F, H, []⟩ (I i q m gl) F' H' S) 0
      ⟨none, 0, F, _, [], rfl, h1.imp fun hh => star_mono (fun _ h => h) (fun _ _ => ?_) hh⟩ (Nat.zero_le _) (by rintro i x H ⟨q, m, F, S, xs, rfl, _⟩; simp) ?_
    · simp only [List.take_zero, news, kidsA]
      exact star_emp ownS_nil
    rintro i x' H1 again - hi ⟨q, m, F1, S, gl, rfl, hw⟩ hag
    by_cases hlt : i < ks.length
    · refine WIf.t (by simpa using hlt) ?_
      obtain ⟨ad, cs, hp, hcs, hat⟩ := hks.get i ks[i] (by simp [hlt])
      have hdi : ks[i].size ≤ N := by have := sizes_ge ks ks[i] (List.getElem_mem hlt); omega
      refine WIndex.at' hp hlt ?_
      have hgrow := ih ks[i] hdi (by omega) (F := F1) (H := H1) hw.wd.le (hat.mono hw.tr.le)
      have htake : ks.take (i + 1) = ks.take i ++ [ks[i]] := List.take_succ_eq_append_getElem hlt
      generalize hki : ks[i] = e' at hat hgrow htake hdi
      obtain ⟨p', c', k', s', n', x'', y', ks', rfl, rfl⟩ : ∃ p' c' k' s' n' x'' y' ks', e' = Ex.mk k' s' n' x'' y' ks' ∧ cs = exCells k' s' n' x'' y' p' ks'.length c' := by
        obtain ⟨k', s', n', x'', y', ks'⟩ := e'
        obtain ⟨p', c', rfl⟩ := Ex.At.cells hat
        exact ⟨_, _, _, _, _, _, _, _, rfl, rfl⟩
      refine WLoad.ex (by rw [Nat.zero_add] at hcs; simpa using (hw.tr.le.trans hw.wd.le).has hcs) ?_
      refine WLoad.sl (p := q) (n := i) (c := m) (by rw [addN]; exact blk_has hw.it rfl) ?_
      refine WCall.of (Spec.apart (ret := fun g => .pointer (some ⟨g, 0, none⟩)) (A := fun g => nodeA (Ex.mk k' s' n' x'' y' ks') (Sta.new (Ex.mk k' s' n' x'' y' ks')) g) gI hw hgrow) ?_ (by rintro e H' ⟨g, F', S', hv, _⟩ hne; exact absurd hv (hne _))
      rintro v H2 ⟨g, F2, S2, hv, hle2, hw2⟩
      cases hv
      refine WOpen.p (WHeld.one (by rw [addN]; exact blk_has (star_left hw2.it) rfl) ?_)
      refine WNew.blk (Good.star Good.node gI) hw2 fun z7 H3 hz7 hle3 hw3 => WHeld.one (by rw [addN]; exact blk_has (bring3 hw3.it) rfl) ?_
      refine SliceTy.push sliceNode (by decide) (Good.star Good.blk (Good.star Good.node (Good.star Good.blk Good.kids))) (hw3.imp bring4) (m := 1) (news := [.pointer (some ⟨g, 0, none⟩)]) rfl (blk_has hw3.it rfl) (by simp [Value.oneCell']) (by simp only [maxLen]; omega) (by omega) ?_
      intro p4 cap H4 S4 hw4 _
      refine WOpen.sl ?_
      rw [addN]
      refine WStore.blk (Good.star Good.ownS (Good.star Good.blk (Good.star Good.node Good.kids))) (hw4.imp bring4) (by simp [exCells]) fun H5 hw5 => ?_
      simp only [wrapS (show i < 1000000000000 by omega)]
      refine hag _ _ hlt ⟨p4, cap, F2, S4, gl ++ [g], rfl, hw5.imp fun hh => under (C := (sepc (ownS 64 1 p4 (i + 1) cap (ptrs (gl ++ [g]))) (kidsA (ks.take (i + 1)) (news (ks.take (i + 1))) (gl ++ [g])))) hh fun _ h => ?_⟩
      rw [htake, news_append]
      have : ptrs (gl ++ [g]) = ptrs gl ++ [.pointer (some ⟨g, 0, none⟩)] := by simp [ptrs]
      rw [this]
      exact under h fun _ h => node_kids_end (P := True) h
    · refine WIf.f (by simpa using hlt) ?_
      have hil : i = ks.length := by omega
      subst hil
      have hw : Wd ⟨F, H, []⟩ ((sepc (blk z 165 (exCells k s n x y p ks.length c ++ [.slice q ks.length m, .pointer none, .pointer none, .pointer none, .bool false])) (sepc (ownS 64 1 q ks.length m (ptrs gl)) (kidsA ks (news ks) gl)))) F1 H1 S := by
        have : I ks.length q m gl = ((sepc (blk z 165 (exCells k s n x y p ks.length c ++ [.slice q ks.length m, .pointer none, .pointer none, .pointer none, .bool false])) (sepc (ownS 64 1 q ks.length m (ptrs gl)) (kidsA ks (news ks) gl)))) := by
          show ((sepc _ (sepc _ (kidsA (ks.take ks.length) (news (ks.take ks.length)) gl)))) = _
          rw [List.take_length]
        rw [← this]
        exact hw
      have hat1 : (Ex.mk k s n x y ks).At F1 (exCells k s n x y p ks.length c) := hat0.mono hw.tr.le
      have gB : Good ((sepc (blk z 165 (exCells k s n x y p ks.length c ++ [.slice q ks.length m, .pointer none, .pointer none, .pointer none, .bool false])) (sepc (ownS 64 1 q ks.length m (ptrs gl)) (kidsA ks (news ks) gl)))) := Good.star Good.blk (Good.star Good.ownS Good.kids)
      have hlk : ks.length = (news ks).length := (news_length ks).symm
      have once : (k = 22 ∨ k = 23) → WCall Tryz.prog (fun (e' : Ending) H' => ∃ g F' S', e' = .returned (.pointer (some ⟨g, 0, none⟩)) ∧ Wd ⟨F, H, []⟩ (nodeA (.mk k s n x y ks) (Sta.new (.mk k s n x y ks)) g) F' H' S') 146 #[(.int .i64 x), (.int .i64 y)] (WOpen (.one (.l .p)) fun (x9 : Option Go.Addr) =>
          WStore (Addr.add ⟨z, 0, none⟩ 7) [(.pointer x9)] <|
          (fun (e' : Ending) H' => ∃ g F' S', e' = .returned (.pointer (some ⟨g, 0, none⟩)) ∧ Wd ⟨F, H, []⟩ (nodeA (.mk k s n x y ks) (Sta.new (.mk k s n x y ks)) g) F' H' S') (.returned (.pointer (some ⟨z, 0, none⟩)))) H1 := by
        intro hk
        refine WCall.of (newOnce146 x y gB hw) ?_ (by rintro e H' ⟨g, S', hv, _⟩ hne; exact absurd hv (hne _))
        rintro v H2 ⟨g, S2, hv, hw2⟩
        cases hv
        refine WOpen.p ?_
        rw [addN]
        refine WStore.blk (Good.star Good.win (Good.star Good.ownS Good.kids)) (hw2.imp star_left) (by simp [exCells]) fun H3 hw3 => ?_
        obtain ⟨F', S', hf⟩ := node_fin (po := some g) (ps := none) (pt := none) (o := some (startW x y)) (s := none) (t := none) (prev := false) rfl hat1 hlk (hw3.imp fun hh => under hh fun _ h => under h fun _ h => emp_star (emp_star h))
        refine ⟨z, F', S', rfl, ?_⟩
        rw [Sta.new, if_pos hk, if_neg (by omega), if_neg (by omega)]
        exact hf
      by_cases k22 : k = 22
      · exact WIf.t (by simp [k22]) (once (.inl k22))
      refine WIf.f (by simp [k22]) ?_
      by_cases k23 : k = 23
      · exact WIf.t (by simp [k23]) (once (.inr k23))
      refine WIf.f (by simp [k23]) ?_
      by_cases k24 : k = 24
      · refine WIf.t (by simp [k24]) ?_
        refine WCall.of (newSince147 x y gB hw) ?_ (by rintro e H' ⟨g, S', hv, _⟩ hne; exact absurd hv (hne _))
        rintro v H2 ⟨g, S2, hv, hw2⟩
        cases hv
        refine WOpen.p ?_
        rw [addN]
        refine WStore.blk (Good.star Good.win (Good.star Good.ownS Good.kids)) (hw2.imp star_left) (by simp [exCells]) fun H3 hw3 => ?_
        obtain ⟨F', S', hf⟩ := node_fin (po := none) (ps := some g) (pt := none) (o := none) (s := some (startW x y)) (t := none) (prev := false) rfl hat1 hlk (hw3.imp fun hh => under hh fun _ h => emp_star (under h fun _ h => emp_star h))
        refine ⟨z, F', S', rfl, ?_⟩
        rw [Sta.new, if_neg (by omega), if_pos k24, if_neg (by omega)]
        exact hf
      refine WIf.f (by simp [k24]) ?_
      by_cases k13 : k = 13
      · refine WIf.t (by simp [k13]) ?_
        refine WCall.of (newTally148 y gB hw) ?_ (by rintro e H' ⟨g, S', hv, _⟩ hne; exact absurd hv (hne _))
        rintro v H2 ⟨g, S2, hv, hw2⟩
        cases hv
        refine WOpen.p ?_
        rw [addN]
        refine WStore.blk (Good.star Good.tal (Good.star Good.ownS Good.kids)) (hw2.imp star_left) (by simp [exCells]) fun H3 hw3 => ?_
        obtain ⟨F', S', hf⟩ := node_fin (po := none) (ps := none) (pt := some g) (o := none) (s := none) (t := some ⟨0, maxI y 0, 0, []⟩) (prev := false) rfl hat1 hlk (hw3.imp fun hh => under hh fun _ h => emp_star (emp_star h))
        refine ⟨z, F', S', rfl, ?_⟩
        rw [Sta.new, if_neg (by omega), if_neg k24, if_pos k13]
        exact hf
      refine WIf.f (by simp [k13]) ?_
      obtain ⟨F', S', hf⟩ := node_fin (po := none) (ps := none) (pt := none) (o := none) (s := none) (t := none) (prev := false) rfl hat1 hlk (hw.imp fun hh => under hh fun _ h => emp_star (emp_star (emp_star h)))
      refine ⟨z, F', S', rfl, ?_⟩
      rw [Sta.new, if_neg (by omega), if_neg k24, if_neg k13]
      exact hf

theorem sta_new_ok : ∀ N, (∀ e : Ex, e.size ≤ N → Sta.Ok 0 e (Sta.new e)) ∧ (∀ es : List Ex, sizes es ≤ N → StasOk 0 es (news es)) := by
  intro N
  induction N with
  | zero =>
    refine ⟨fun e he => by have := e.size_pos; omega, fun es he => ?_⟩
    cases es with
    | nil => simp only [news, StasOk]
    | cons e es => simp only [sizes] at he; have := e.size_pos; omega
  | succ N ih =>
    have hn : ∀ e : Ex, e.size ≤ N + 1 → Sta.Ok 0 e (Sta.new e) := by
      intro e he
      obtain ⟨k, nm, m, y, z, eks⟩ := e
      simp only [Ex.size] at he
      simp only [Sta.new, Sta.Ok]
      refine ⟨⟨fun h => ⟨_, if_pos h⟩, fun h => ⟨_, if_pos h⟩, fun h => ⟨_, if_pos h⟩⟩, ⟨?_, ?_, ?_⟩, ih.2 eks (by omega)⟩ <;>
      · intro w hw
        split at hw
        · cases hw; exact Nat.le_refl 0
        · cases hw
    refine ⟨hn, fun es => ?_⟩
    induction es with
    | nil => intro _; simp only [news, StasOk]
    | cons e es ih2 =>
      intro he
      simp only [sizes] at he
      simp only [news, StasOk]
      exact ⟨hn e (by omega), ih2 (by omega)⟩

section
variable {a : Base} {R : Asr} {F H : HP} {S : List Nat}
theorem new22 {e : Ex} {cs : List Value} (gr : Good R) (h : Wd a R F H S) (hat : e.At F cs) (hN : e.size < 1000000000000) (hsh : e.Short) (hc : e.check = 0) :
    Den.Spec Tryz.prog 22 #[.agg ⟨cs⟩] H fun e' H' => ∃ g F' S', e' = .returned (.pointer (some ⟨g, 0, none⟩)) ∧ F.le F' ∧ Wd a ((sepc (monA g e (Sta.new e) 0) R)) F' H' S' := by
  have h1 := check_spec (H := H) e hN hsh cs (hat.mono h.wd.le)
  have h2 := clone81 e.size e (Nat.le_refl _) hN hat
  have h3 : ∀ {F H : HP} {cs : List Value}, F.le H → e.At F cs → Den.Spec Tryz.prog 80 #[.agg ⟨cs⟩] H fun e' H' => ∃ g F' S', e' = .returned (.pointer (some ⟨g, 0, none⟩)) ∧ Wd ⟨F, H, []⟩ (nodeA e (Sta.new e) g) F' H' S' := fun hl ha => grow80 e.size e (Nat.le_refl _) hN hl ha
  obtain ⟨k, s, n, x, y, ks⟩ := e
  obtain ⟨p, c, rfl⟩ := Ex.At.cells hat
  refine spec22 (a0_0 := k) (a0_1 := s) (a0_2 := n) (a0_3 := x) (a0_4 := y) (a0_5a := p) (a0_5n := ks.length) (a0_5c := c) (WCall.pure h1 (WOpen.i (WIf.f (by simp [hc]) ?_)))
  refine WCall.grow gr h h2 ?_
  rintro v F2 H2 ⟨cs2, rfl, hcs2⟩ hle2 hw2
  have hcs2' := hcs2
  obtain ⟨p2, c2, rfl⟩ := Ex.At.cells hcs2
  refine WOpen.ex (WCall.of (Spec.apart (ret := fun g => .pointer (some ⟨g, 0, none⟩)) (A := fun g => nodeA (Ex.mk k s n x y ks) (Sta.new (Ex.mk k s n x y ks)) g) gr hw2 (h3 hw2.wd.le hcs2')) ?_ (by rintro e H' ⟨g, F', S', hv, _⟩ hne; exact absurd hv (hne _)))
  rintro v H3 ⟨g, F3, S3, hv, hle3, hw3⟩
  cases hv
  refine WOpen.p (WNew.blk (Good.star Good.node gr) hw3 fun z H4 hz hle4 hw4 => ⟨z, F3, _, rfl, hle2.trans hle3, hw4.imp fun hh => mon_close hh⟩)
theorem new22no {e : Ex} {cs : List Value} (h : e.At H cs) (hN : e.size < 1000000000000) (hsh : e.Short) (hc : e.check ≠ 0) : Pure Tryz.prog 22 #[.agg ⟨cs⟩] H (.pointer none) := by
  have h1 := check_spec (H := H) e hN hsh cs h
  obtain ⟨k, s, n, x, y, ks⟩ := e
  obtain ⟨p, c, rfl⟩ := Ex.At.cells h
  exact Pure.of (spec22 (a0_0 := k) (a0_1 := s) (a0_2 := n) (a0_3 := x) (a0_4 := y) (a0_5a := p) (a0_5n := ks.length) (a0_5c := c) (WCall.pure h1 (WOpen.i (WIf.t (by simp [hc]) ⟨rfl, HP.le.refl H⟩))))
end
end Go.Proofs.YtmidcnfnmnhifaaGreat
