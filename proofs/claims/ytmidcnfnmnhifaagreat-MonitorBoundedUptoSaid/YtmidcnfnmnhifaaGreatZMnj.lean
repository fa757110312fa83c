/-
  Clones of windows, tallies, nodes, monitors.
-/
import Derived.Test.YtmidcnfnmnhifaaGreatZMny
namespace Go.Proofs.YtmidcnfnmnhifaaGreat
set_option linter.unusedSectionVars false
set_option linter.unusedSimpArgs false
set_option linter.unusedVariables false
open Go Go.Den
set_option linter.unusedVariables false

section
variable {a : Base} {R : Asr} {F H : HP} {S : List Nat}

theorem WLoad.win {x : Addr} {b : Bool} {l h t : Int} {p : Option Addr} {n c : Nat} {body : Bool → Int → Int → Int → Option Addr → Nat → Nat → W} (hh : H.has x [.bool b, .int .i64 l, .int .i64 h, .int .i64 t, .slice p n c]) (hk : body b l h t p n c H) :
    WLoad x (.agg [.b, (.i .i64), (.i .i64), (.i .i64), .sl]) body H := ⟨(b, l, h, t, (p, n, c), ()), hh, hk⟩
theorem WLoad.tal {x : Addr} {b : Bool} {h t : Int} {p : Option Addr} {n c : Nat} {body : Bool → Int → Int → Option Addr → Nat → Nat → W} (hh : H.has x [.bool b, .int .i64 h, .int .i64 t, .slice p n c]) (hk : body b h t p n c H) :
    WLoad x (.agg [.b, (.i .i64), (.i .i64), .sl]) body H := ⟨(b, h, t, (p, n, c), ()), hh, hk⟩
theorem WLoad.dq {x : Addr} {p : Option Addr} {n c : Nat} {body : Option Addr → Nat → Nat → W} (hh : H.has x [.slice p n c]) (hk : body p n c H) : WLoad x (.agg [.sl]) body H := ⟨((p, n, c), ()), hh, hk⟩

theorem dqA_cells {g : Nat} {e : TypeId} {pre : List Value} {l : List (Int × Int)} (h : ((sepc (dqA g e pre [] l) R)) F H S) : ∃ p c, H.has ⟨g, 0, none⟩ (pre ++ [.slice p l.length c]) := by
  obtain ⟨S1, S2, _, _, _, ⟨⟨p, c⟩, h1⟩, _⟩ := h
  exact ⟨p, c, blk_has h1 (by show List.take (pre ++ [Value.slice p l.length c]).length (List.drop 0 (pre ++ [Value.slice p l.length c])) = _; rw [List.drop_zero, List.take_length])⟩

theorem span218 {g : Nat} {ty : TypeId} {w : Wi} (gr : Good R) (h : Wd a ((sepc (winA g ty w) R)) F H S) (hlen : w.d.length < 1000000000) :
    Den.Spec Tryz.prog 218 #[.pointer (some ⟨g, 0, none⟩)] H fun e H' => ∃ p' c' S', e = .returned (.agg ⟨w.pre ++ [.slice p' w.d.length c']⟩) ∧ Wd a ((sepc (ownS 292 2 p' w.d.length c' (cellsD w.d)) (sepc (winA g ty w) R))) F H' S' := by
  obtain ⟨p, c, hc⟩ := dqA_cells h.it
  refine spec218 (WNonNil.some (WLoad.win hc (WNonNil.some ?_)))
  rw [addN]
  refine WCall.of (clone219 (Good.star Good.win gr) h (winDq h.it) hlen) ?_ (by rintro e H' ⟨z, p', c', S', hv, _⟩ hne; exact absurd hv (hne _))
  rintro v H1 ⟨z, p', c', S1, hv, hz, hw⟩
  cases hv
  exact WOpen.p (WNonNil.some (WLoad.dq (has_cells hz rfl) ⟨p', c', S1, rfl, hw⟩))

theorem win_join {z : Nat} {e : TypeId} {pre : List Value} {l : List (Int × Int)} {p : Option Addr} {c : Nat} (h : ((sepc (blk z e (pre ++ [.slice p l.length c])) (sepc (ownS 292 2 p l.length c (cellsD l)) R))) F H S) : ((sepc (dqA z e pre [] l) R)) F H S :=
  star_mono (fun _ h => ⟨(p, c), h⟩) (fun _ h => h) (star_assoc' h)

theorem once156 {g : Nat} {w : Wi} (gr : Good R) (h : Wd a ((sepc (winA g 259 w) R)) F H S) (hlen : w.d.length < 1000000000) :
    Den.Spec Tryz.prog 156 #[.pointer (some ⟨g, 0, none⟩)] H fun e H' => ∃ z S', e = .returned (.pointer (some ⟨z, 0, none⟩)) ∧ Wd a ((sepc (winA z 259 w) (sepc (winA g 259 w) R))) F H' S' := by
  refine spec156 (WIf.f rfl (WNonNil.some (WLoad.b (n := true) (by rw [addN, addN]; exact dqA_has h.it rfl) (WIf.f rfl (WNonNil.some ?_)))))
  rw [addN]
  refine WCall.of (span218 gr h hlen) ?_ (by rintro e H' ⟨p', c', S', hv, _⟩ hne; exact absurd hv (hne _))
  rintro v H1 ⟨p', c', S1, hv, hw⟩
  cases hv
  exact WOpen.win (WNew.blk (Good.star Good.ownS (Good.star Good.win gr)) hw fun z H2 hz hle h2 => ⟨z, _, rfl, h2.imp fun hh => win_join (pre := w.pre) hh⟩)
theorem since157 {g : Nat} {w : Wi} (gr : Good R) (h : Wd a ((sepc (winA g 260 w) R)) F H S) (hlen : w.d.length < 1000000000) :
    Den.Spec Tryz.prog 157 #[.pointer (some ⟨g, 0, none⟩)] H fun e H' => ∃ z S', e = .returned (.pointer (some ⟨z, 0, none⟩)) ∧ Wd a ((sepc (winA z 260 w) (sepc (winA g 260 w) R))) F H' S' := by
  refine spec157 (WIf.f rfl (WNonNil.some (WLoad.b (n := true) (by rw [addN, addN]; exact dqA_has h.it rfl) (WIf.f rfl (WNonNil.some ?_)))))
  rw [addN]
  refine WCall.of (span218 gr h hlen) ?_ (by rintro e H' ⟨p', c', S', hv, _⟩ hne; exact absurd hv (hne _))
  rintro v H1 ⟨p', c', S1, hv, hw⟩
  cases hv
  exact WOpen.win (WNew.blk (Good.star Good.ownS (Good.star Good.win gr)) hw fun z H2 hz hle h2 => ⟨z, _, rfl, h2.imp fun hh => win_join (pre := w.pre) hh⟩)
theorem tally158 {g : Nat} {w : Wi} (gr : Good R) (h : Wd a ((sepc (tallyA g w) R)) F H S) (hlen : w.d.length < 1000000000) :
    Den.Spec Tryz.prog 158 #[.pointer (some ⟨g, 0, none⟩)] H fun e H' => ∃ z S', e = .returned (.pointer (some ⟨z, 0, none⟩)) ∧ Wd a ((sepc (tallyA z w) (sepc (tallyA g w) R))) F H' S' := by
  obtain ⟨p, c, hc⟩ := dqA_cells h.it
  refine spec158 (WIf.f rfl (WNonNil.some (WLoad.b (n := true) (by rw [addN]; exact dqA_has h.it rfl) (WIf.f rfl (WNonNil.some (WLoad.tal hc ?_))))))
  refine WNew.blk (Good.star Good.tal gr) h fun z H1 hz hle h1 => ?_
  refine WStore.blk (Good.star Good.tal gr) h1 (by simp) fun H2 h2 => WNonNil.some ?_
  have h2 : Wd a ((sepc (blk z 262 [.bool true, .int .i64 w.hi, .int .i64 w.last, .slice p w.d.length c]) (sepc (tallyA g w) R))) F H2 (z :: S) := h2
  rw [addN]
  have h2' := h2.imp star_left
  refine WCall.of (clone219 (Good.star Good.tal (Good.star Good.blk gr)) h2' (talDq h2'.it) hlen) ?_ (by rintro e H' ⟨z, p', c', S', hv, _⟩ hne; exact absurd hv (hne _))
  rintro v H3 ⟨y, p', c', S3, hv, hy, hw⟩
  cases hv
  refine WOpen.p (WNonNil.some (WLoad.dq (has_cells hy rfl) ?_))
  rw [addN]
  refine WStore.blk (Good.star Good.ownS (Good.star Good.tal gr)) (hw.imp bring3) (by simp) fun H4 h4 => ?_
  exact ⟨z, S3, rfl, h4.imp fun hh => win_join (pre := [.bool true, .int .i64 w.hi, .int .i64 w.last]) hh⟩
theorem once156n : Pure Tryz.prog 156 #[.pointer none] H (.pointer none) := Pure.of (spec156 (WIf.t rfl ⟨rfl, HP.le.refl H⟩))
theorem since157n : Pure Tryz.prog 157 #[.pointer none] H (.pointer none) := Pure.of (spec157 (WIf.t rfl ⟨rfl, HP.le.refl H⟩))
theorem tally158n : Pure Tryz.prog 158 #[.pointer none] H (.pointer none) := Pure.of (spec158 (WIf.t rfl ⟨rfl, HP.le.refl H⟩))

theorem onceO {po : Option Nat} {o : Option Wi} {Q : Ending → W} {k : Value → W} (gr : Good R) (h : Wd a ((sepc (winO 259 po o) R)) F H S) (hlen : ∀ w, o = some w → w.d.length < 1000000000)
    (hk : ∀ po' H' S', Wd a ((sepc (winO 259 po' o) (sepc (winO 259 po o) R))) F H' S' → k (.pointer (ptr po')) H') : WCall Tryz.prog Q 156 #[.pointer (ptr po)] k H := by
  cases po with
  | none => cases o with
    | none => exact WCall.pure once156n (hk none H S (h.imp emp_star))
    | some w => obtain ⟨_, _, _, _, _, h, _⟩ := h.it; exact h.elim
  | some g => cases o with
    | none => obtain ⟨_, _, _, _, _, h, _⟩ := h.it; exact h.elim
    | some w =>
      refine WCall.of (once156 (g := g) gr h (hlen w rfl)) ?_ (by rintro e H' ⟨z, S', hv, _⟩ hne; exact absurd hv (hne _))
      rintro v H' ⟨z, S', hv, hw⟩
      cases hv
      exact hk (some z) H' S' hw
theorem sinceO {po : Option Nat} {o : Option Wi} {Q : Ending → W} {k : Value → W} (gr : Good R) (h : Wd a ((sepc (winO 260 po o) R)) F H S) (hlen : ∀ w, o = some w → w.d.length < 1000000000)
    (hk : ∀ po' H' S', Wd a ((sepc (winO 260 po' o) (sepc (winO 260 po o) R))) F H' S' → k (.pointer (ptr po')) H') : WCall Tryz.prog Q 157 #[.pointer (ptr po)] k H := by
  cases po with
  | none => cases o with
    | none => exact WCall.pure since157n (hk none H S (h.imp emp_star))
    | some w => obtain ⟨_, _, _, _, _, h, _⟩ := h.it; exact h.elim
  | some g => cases o with
    | none => obtain ⟨_, _, _, _, _, h, _⟩ := h.it; exact h.elim
    | some w =>
      refine WCall.of (since157 (g := g) gr h (hlen w rfl)) ?_ (by rintro e H' ⟨z, S', hv, _⟩ hne; exact absurd hv (hne _))
      rintro v H' ⟨z, S', hv, hw⟩
      cases hv
      exact hk (some z) H' S' hw
theorem tallyO {po : Option Nat} {o : Option Wi} {Q : Ending → W} {k : Value → W} (gr : Good R) (h : Wd a ((sepc (talO po o) R)) F H S) (hlen : ∀ w, o = some w → w.d.length < 1000000000)
    (hk : ∀ po' H' S', Wd a ((sepc (talO po' o) (sepc (talO po o) R))) F H' S' → k (.pointer (ptr po')) H') : WCall Tryz.prog Q 158 #[.pointer (ptr po)] k H := by
  cases po with
  | none => cases o with
    | none => exact WCall.pure tally158n (hk none H S (h.imp emp_star))
    | some w => obtain ⟨_, _, _, _, _, h, _⟩ := h.it; exact h.elim
  | some g => cases o with
    | none => obtain ⟨_, _, _, _, _, h, _⟩ := h.it; exact h.elim
    | some w =>
      refine WCall.of (tally158 (g := g) gr h (hlen w rfl)) ?_ (by rintro e H' ⟨z, S', hv, _⟩ hne; exact absurd hv (hne _))
      rintro v H' ⟨z, S', hv, hw⟩
      cases hv
      exact hk (some z) H' S' hw

theorem node_fin2 {k n y z : Int} {nm : ByteArray} {eks : List Ex} {ks : List Sta} {o s t : Option Wi} {prev : Bool} {g : Nat} {q : Option Addr} {kl m : Nat} {gl : List Nat} {cs : List Value} {po ps pt : Option Nat} (gr : Good R) (hS : ∀ g, q = some ⟨g, 0, none⟩ → a.H g = none)
    (he : (Ex.mk k nm n y z eks).At F cs) (hkl : kl = ks.length)
    (h : Wd a ((sepc (blk g 165 (cs ++ [.slice q kl m, .pointer (ptr po), .pointer (ptr ps), .pointer (ptr pt), .bool prev])) (sepc (winO 259 po o) (sepc (winO 260 ps s) (sepc (talO pt t) (sepc (ownS 64 1 q kl m (ptrs gl)) (sepc (kidsA eks ks gl) R))))))) F H S) :
    ∃ F' S', F.le F' ∧ Wd a ((sepc (nodeA (.mk k nm n y z eks) (.mk ks o s t prev) g) R)) F' H S' := by
  have h1 := h.imp bring5
  obtain ⟨F', S', hw, hle, hcell⟩ := h1.freezeS (Good.star Good.blk (Good.star Good.winO (Good.star Good.winO (Good.star Good.talO (Good.star Good.kids gr))))) hS
  refine ⟨F', S', hle, hw.imp fun hh => nodeA_close (kp := q) (kc := m) (gl := gl) (fun i g' hg => ?_) hkl (nodB_mk (po := po) (ps := ps) (pt := pt) (he.mono hle) hh)⟩
  obtain ⟨g0, h1, h2⟩ := hcell i [.pointer (some ⟨g', 0, none⟩)] (by
    unfold ptrs
    have hlt : i < gl.length := (List.getElem?_eq_some_iff.1 hg).1
    rw [List.drop_eq_getElem_cons (by simpa using hlt)]
    simp [(List.getElem?_eq_some_iff.1 hg).2]) (by simp)
  exact ⟨_, h1, by rw [addN, Nat.zero_add]; exact h2⟩

theorem kids_split {F H : HP} {es2 : List Ex} {ns2 : List Sta} {gs2 : List Nat} : ∀ {es1 : List Ex} {ns1 : List Sta} {gs1 : List Nat} {S : List Nat}, ns1.length = es1.length → gs1.length = es1.length →
    (kidsA (es1 ++ es2) (ns1 ++ ns2) (gs1 ++ gs2) F H S ↔ ((sepc (kidsA es1 ns1 gs1) (kidsA es2 ns2 gs2))) F H S)
  | [], [], [], S, _, _ => by
    simp only [List.nil_append, kidsA]
    exact ⟨fun h => emp_star h, fun h => star_snd Good.kids h⟩
  | e :: es1, n :: ns1, g :: gs1, S, h1, h2 => by
    simp only [List.length_cons, Nat.add_right_cancel_iff] at h1 h2
    simp only [List.cons_append, kidsA]
    exact ⟨fun h => star_assoc' (star_mono (fun _ h => h) (fun _ h => (kids_split h1 h2).1 h) h), fun h => star_mono (fun _ h => h) (fun _ h => (kids_split h1 h2).2 h) (star_assoc h)⟩
  | [], n :: ns1, gs1, S, h1, _ => by simp at h1
  | [], [], g :: gs1, S, _, h2 => by simp at h2
  | e :: es1, [], gs1, S, h1, _ => by simp at h1
  | e :: es1, n :: ns1, [], S, _, h2 => by simp at h2

/-- one kid, and the others -/
theorem kid_out {F H : HP} {es : List Ex} {ns : List Sta} {gs : List Nat} {S : List Nat} {i : Nat} (hi : i < es.length) (h1 : ns.length = es.length) (h2 : gs.length = es.length) :
    kidsA es ns gs F H S ↔ ((sepc (nodeA es[i] (ns[i]'(by omega)) (gs[i]'(by omega))) (sepc (kidsA (es.take i) (ns.take i) (gs.take i)) (kidsA (es.drop (i + 1)) (ns.drop (i + 1)) (gs.drop (i + 1)))))) F H S := by
  have e1 : es = es.take i ++ (es[i] :: es.drop (i + 1)) := by rw [List.getElem_cons_drop]; exact (List.take_append_drop i es).symm
  have e2 : ns = ns.take i ++ (ns[i]'(by omega) :: ns.drop (i + 1)) := by rw [List.getElem_cons_drop]; exact (List.take_append_drop i ns).symm
  have e3 : gs = gs.take i ++ (gs[i]'(by omega) :: gs.drop (i + 1)) := by rw [List.getElem_cons_drop]; exact (List.take_append_drop i gs).symm
  have hs := kids_split (F := F) (H := H) (S := S) (es1 := es.take i) (ns1 := ns.take i) (gs1 := gs.take i) (es2 := es[i] :: es.drop (i + 1)) (ns2 := ns[i]'(by omega) :: ns.drop (i + 1)) (gs2 := gs[i]'(by omega) :: gs.drop (i + 1)) (by simp; omega) (by simp; omega)
  rw [← e1, ← e2, ← e3] at hs
  rw [hs]
  simp only [kidsA]
  exact ⟨star_left, star_left⟩

theorem clone97 {M : Nat} (hM : M < 1000000000) : ∀ (N : Nat) (e : Ex), e.size ≤ N → N < 1000000000000 → ∀ {a : Base} {R : Asr} {F H : HP} {S : List Nat} {n : Sta} {g : Nat}, Good R → Wd a ((sepc (nodeA e n g) R)) F H S → Sta.Ok M e n →
    Den.Spec Tryz.prog 97 #[.pointer (some ⟨g, 0, none⟩)] H fun e' H' => ∃ z F' S', e' = .returned (.pointer (some ⟨z, 0, none⟩)) ∧ F.le F' ∧ Wd a ((sepc (nodeA e n z) (sepc (nodeA e n g) R))) F' H' S' := by
  intro N
  induction N with
  | zero => intro e he; have := e.size_pos; omega
  | succ N ih =>
    intro e he hN a R F H S n g gr h hok
    obtain ⟨k, nm, m, y, z, eks⟩ := e
    obtain ⟨ks, o, s, t, prev⟩ := n
    simp only [Ex.size] at he
    simp only [Sta.Ok] at hok
    obtain ⟨_, ⟨w1, w2, w3⟩, hks⟩ := hok
    have hlen := sizes_length eks
    have hl1 := stas_length hks
    obtain ⟨kp, kc, gl, hkp, hb⟩ := nodeA_open h.it
    obtain ⟨p, c, po, ps, pt, hex, hcells, _, _, _, _, _, _, hparts⟩ := nodB_has hb
    have hall : H.has ⟨g, 0, none⟩ (exCells k nm m y z p eks.length c ++ [.slice kp ks.length kc, .pointer (ptr po), .pointer (ptr ps), .pointer (ptr pt), .bool prev]) := blk_has hparts (by simp [exCells])
    have hl2 : gl.length = eks.length := by
      obtain ⟨_, _, _, _, _, _, T1, T2, _, _, _, hk, _⟩ := id hb
      exact (kids_get hk).2.1
    let B : Asr := (sepc (blk g 165 (exCells k nm m y z p eks.length c ++ [.slice kp ks.length kc, .pointer (ptr po), .pointer (ptr ps), .pointer (ptr pt), .bool prev])) (sepc (winO 259 po o) (sepc (winO 260 ps s) (sepc (talO pt t) (sepc (kidsA eks ks gl) R)))))
    have gB : Good B := Good.star Good.blk (Good.star Good.winO (Good.star Good.winO (Good.star Good.talO (Good.star Good.kids gr))))
    have hB : Wd a B F H S := ⟨h.wd, h.tr, hparts⟩
    refine spec97 (WNonNil.some ?_)
    refine ⟨(k, nm, m, y, z, (p, eks.length, c), (kp, ks.length, kc), ptr po, ptr ps, ptr pt, prev, ()), hall, ?_⟩
    refine WNew.blk gB hB fun zz H1 hz hle h1 => ?_
    refine WStore.blk gB h1 (by simp) fun H2 h2 => ?_
    rw [addN]
    refine WStore.blk gB h2 (by simp [writeL]) fun H3 h3 => ?_
    have h3 : Wd a ((sepc (blk zz 165 (exCells k nm m y z p eks.length c ++ [.slice none 0 0, .pointer (ptr po), .pointer (ptr ps), .pointer (ptr pt), .bool prev])) B)) F H3 (zz :: S) := h3
    refine WNonNil.some (WLoad.sl (p := kp) (n := ks.length) (c := kc) (by rw [addN]; exact blk_has (star_left h3.it) rfl) ?_)
    let I : Nat → Option Addr → Nat → List Nat → Asr := fun i q m' gl' => (sepc (blk zz 165 (exCells k nm m y z p eks.length c ++ [.slice q i m', .pointer (ptr po), .pointer (ptr ps), .pointer (ptr pt), .bool prev])) (sepc (ownS 64 1 q i m' (ptrs gl')) (sepc (kidsA (eks.take i) (ks.take i) gl') B)))
    have gI : ∀ {i q m gl}, Good (I i q m gl) := Good.star Good.blk (Good.star Good.ownS (Good.star Good.kids gB))
    refine WLoop.run eks.length (fun x => x.1.1.toNat) (fun i x H' => ∃ q m' F' S' gl', x = (((i : Int), ()), ()) ∧ F.le F' ∧ (∀ g, q = some ⟨g, 0, none⟩ → a.H g = none) ∧ Wd a (I i q m' gl') F' H' S') 0
      ⟨none, 0, F, _, [], rfl, HP.le.refl F, fun g h => (by cases h), h3.imp fun hh => under hh fun _ hB => ?_⟩ (Nat.zero_le _) (by rintro i x H ⟨q, m, F, S, xs, rfl, _⟩; simp) ?_
    · simp only [List.take_zero, kidsA]
      exact ⟨[], _, fun _ h => by simp at h, fun _ h => h, fun _ h => by simp at h, ownS_nil, emp_star hB⟩
    rintro i x' H4 again - hi ⟨q, m', F4, S4, gl', rfl, hle4, hq, hw⟩ hag
    by_cases hlt : i < eks.length
    · refine WIf.t (by simp; omega) ?_
      obtain ⟨ad, hp, hh⟩ := hkp i (gl[i]'(by omega)) (by simp)
      refine WIndex.at' hp (by omega) (WLoad.p (n := some ⟨gl[i]'(by omega), 0, none⟩) (by simpa using (hle4.trans hw.wd.le).has hh) ?_)
      refine WLoad.sl (p := q) (n := i) (c := m') (blk_has hw.it rfl) ?_
      have hdi : eks[i].size ≤ N := by have := sizes_ge eks eks[i] (List.getElem_mem hlt); omega
      have hoki : ∀ (es : List Ex) (ns : List Sta) (j : Nat) (h1 : j < es.length) (h2 : j < ns.length), StasOk M es ns → Sta.Ok M es[j] ns[j] := by
        intro es
        induction es with
        | nil => intro ns j h1; simp at h1
        | cons e es ihe =>
          intro ns j h1 h2 hh
          cases ns with
          | nil => simp at h2
          | cons n ns =>
            simp only [StasOk] at hh
            cases j with
            | zero => exact hh.1
            | succ j => exact ihe ns j (by simpa using h1) (by simpa using h2) hh.2
      let rest : Asr := (sepc (kidsA (eks.take i) (ks.take i) (gl.take i)) (kidsA (eks.drop (i + 1)) (ks.drop (i + 1)) (gl.drop (i + 1))))
      have grest : Good rest := Good.star Good.kids Good.kids
      let E : Asr := (sepc (blk zz 165 (exCells k nm m y z p eks.length c ++ [.slice q i m', .pointer (ptr po), .pointer (ptr ps), .pointer (ptr pt), .bool prev])) (sepc (ownS 64 1 q i m' (ptrs gl')) (sepc (kidsA (eks.take i) (ks.take i) gl') (sepc (blk g 165 (exCells k nm m y z p eks.length c ++ [.slice kp ks.length kc, .pointer (ptr po), .pointer (ptr ps), .pointer (ptr pt), .bool prev])) (sepc (winO 259 po o) (sepc (winO 260 ps s) (sepc (talO pt t) (sepc rest R))))))))
      have gE : Good E := Good.star Good.blk (Good.star Good.ownS (Good.star Good.kids (Good.star Good.blk (Good.star Good.winO (Good.star Good.winO (Good.star Good.talO (Good.star grest gr)))))))
      -- the kid to the front
      have toE : ∀ {F H : HP} {S : List Nat}, I i q m' gl' F H S → ((sepc (nodeA eks[i] (ks[i]'(by omega)) (gl[i]'(by omega))) E)) F H S := by
        intro F H S hI
        have h1 := under hI fun _ h => under h fun _ h => under h fun _ h => under h fun _ h => under h fun _ h => under h fun _ h => under h fun _ h => star_assoc (star_mono (fun _ h => (kid_out hlt hl1 hl2).1 h) (fun _ h => h) h)
        exact star_left (under h1 fun _ h => star_left (under h fun _ h => star_left (under h fun _ h => star_left (under h fun _ h => star_left (under h fun _ h => star_left (under h fun _ h => star_left h))))))
      have ofE : ∀ {F H : HP} {S : List Nat}, ((sepc (nodeA eks[i] (ks[i]'(by omega)) (gl[i]'(by omega))) E)) F H S → I i q m' gl' F H S := by
        intro F H S hE
        have h1 := under (star_left hE) fun _ h => under (star_left h) fun _ h => under (star_left h) fun _ h => under (star_left h) fun _ h => under (star_left h) fun _ h => under (star_left h) fun _ h => star_left h
        exact under h1 fun _ h => under h fun _ h => under h fun _ h => under h fun _ h => under h fun _ h => under h fun _ h => under h fun _ h => star_mono (fun _ h => (kid_out hlt hl1 hl2).2 h) (fun _ h => h) (star_assoc' h)
      refine WCall.of (ih eks[i] hdi (by omega) (n := ks[i]'(by omega)) gE (hw.imp toE) (hoki eks ks i hlt (by omega) hks)) ?_ (by rintro e H' ⟨g, F', S', hv, _⟩ hne; exact absurd hv (hne _))
      rintro v H5 ⟨z5, F5, S5, hv, hle5, hw5⟩
      cases hv
      have hw5 : Wd a ((sepc (nodeA eks[i] (ks[i]'(by omega)) z5) (I i q m' gl'))) F5 H5 S5 := hw5.imp fun hh => under hh fun _ h => ofE h
      refine WOpen.p (WHeld.one (blk_has (star_left hw5.it) rfl) ?_)
      refine WNew.blk (Good.star Good.node gI) hw5 fun z7 H6 hz7 hle6 hw6 => WHeld.one (blk_has (bring3 hw6.it) rfl) ?_
      refine SliceTy.push2 sliceNode (by decide) (Good.star Good.blk (Good.star Good.node (Good.star Good.blk (Good.star Good.kids gB)))) (hw6.imp bring4) (m := 1) (news := [.pointer (some ⟨z5, 0, none⟩)]) rfl (blk_has hw6.it rfl) (by simp [Value.oneCell']) (by simp only [maxLen]; omega) (by omega) ?_
      intro p4 cap H7 S7 hw7 _ hp4
      refine WOpen.sl ?_
      refine WStore.blk (Good.star Good.ownS (Good.star Good.blk (Good.star Good.node (Good.star Good.kids gB)))) (hw7.imp bring4) (by simp [exCells]) fun H8 hw8 => ?_
      simp only [wrapS (show i < 1000000000000 by omega)]
      have htake : eks.take (i + 1) = eks.take i ++ [eks[i]] := List.take_succ_eq_append_getElem hlt
      have htakek : ks.take (i + 1) = ks.take i ++ [ks[i]'(by omega)] := List.take_succ_eq_append_getElem (by omega)
      have hpt : ptrs (gl' ++ [z5]) = ptrs gl' ++ [.pointer (some ⟨z5, 0, none⟩)] := by simp [ptrs]
      refine hag _ _ hlt ⟨p4, cap, F5, S7, gl' ++ [z5], rfl, hle4.trans hle5, fun g0 hg0 => ?_, hw8.imp fun hh => ?_⟩
      · rcases hp4 with rfl | hp4
        · exact hq g0 hg0
        · have := hp4 g0 hg0
          refine Classical.byContradiction fun hn => hw6.tr.dom g0 hn this
      · show ((sepc (blk zz 165 _) (sepc (ownS 64 1 p4 (i + 1) cap (ptrs (gl' ++ [z5]))) (sepc (kidsA (eks.take (i + 1)) (ks.take (i + 1)) (gl' ++ [z5])) B)))) _ _ _
        rw [hpt, htake, htakek]
        refine under hh fun _ h => under h fun _ h => ?_
        have h1 := star_snd (Good.star Good.node (Good.star Good.kids gB)) h
        exact star_mono (fun _ h => kids_snoc (star_comm h)) (fun _ h => h) (star_assoc' h1)
    · refine WIf.f (by simp; omega) ?_
      have hil : i = eks.length := by omega
      subst hil
      have hw : Wd a ((sepc (blk zz 165 (exCells k nm m y z p eks.length c ++ [.slice q eks.length m', .pointer (ptr po), .pointer (ptr ps), .pointer (ptr pt), .bool prev])) (sepc (ownS 64 1 q eks.length m' (ptrs gl')) (sepc (kidsA eks ks gl') B)))) F4 H4 S4 := by
        have : I eks.length q m' gl' = ((sepc (blk zz 165 (exCells k nm m y z p eks.length c ++ [.slice q eks.length m', .pointer (ptr po), .pointer (ptr ps), .pointer (ptr pt), .bool prev])) (sepc (ownS 64 1 q eks.length m' (ptrs gl')) (sepc (kidsA eks ks gl') B)))) := by
          show ((sepc _ (sepc _ (sepc (kidsA (eks.take eks.length) (ks.take eks.length) gl') _)))) = _
          rw [List.take_length, ← hl1, List.take_length]
        rw [← this]
        exact hw
      have gblk := bring4 hw.it
      refine WNonNil.some (WLoad.p (n := ptr po) (by rw [addN]; exact blk_has gblk rfl) (WNonNil.some (WLoad.p (n := ptr ps) (by rw [addN]; exact blk_has gblk rfl) (WNonNil.some (WLoad.p (n := ptr pt) (by rw [addN]; exact blk_has gblk rfl) ?_)))))
      let Z : Asr := (sepc (blk zz 165 (exCells k nm m y z p eks.length c ++ [.slice q eks.length m', .pointer (ptr po), .pointer (ptr ps), .pointer (ptr pt), .bool prev])) (sepc (ownS 64 1 q eks.length m' (ptrs gl')) (kidsA eks ks gl')))
      have gZ : Good Z := Good.star Good.blk (Good.star Good.ownS Good.kids)
      let G : Asr := blk g 165 (exCells k nm m y z p eks.length c ++ [.slice kp ks.length kc, .pointer (ptr po), .pointer (ptr ps), .pointer (ptr pt), .bool prev])
      have gG : Good G := Good.blk
      let K : Asr := (sepc (kidsA eks ks gl) R)
      have gK : Good K := Good.star Good.kids gr
      have hw1 : Wd a ((sepc (winO 259 po o) (sepc G (sepc (winO 260 ps s) (sepc (talO pt t) (sepc Z K)))))) F4 H4 S4 := hw.imp fun hh => by
        -- blk, own, kids | G, o, s, t, K
        have h1 : ((sepc Z (sepc G (sepc (winO 259 po o) (sepc (winO 260 ps s) (sepc (talO pt t) K)))))) F4 H4 S4 := star_assoc' (under hh fun _ h => star_assoc' h)
        exact under (bring3 h1) fun _ h => under (star_left h) fun _ h => under (star_left h) fun _ h => star_left h
      refine onceO (Good.star gG (Good.star Good.winO (Good.star Good.talO (Good.star gZ gK)))) hw1 (fun w hw => by have := w1 w hw; omega) fun po' H5 S5 hw5 => WOpen.p ?_
      have hG5 := bring3 hw5.it
      refine WHeld.two (by rw [addN]; exact blk_has hG5 rfl) (by rw [addN]; exact blk_has hG5 rfl) ?_
      have hw5' : Wd a ((sepc (winO 260 ps s) (sepc (winO 259 po' o) (sepc (winO 259 po o) (sepc G (sepc (talO pt t) (sepc Z K))))))) F4 H5 S5 := hw5.imp bring4
      refine sinceO (Good.star Good.winO (Good.star Good.winO (Good.star gG (Good.star Good.talO (Good.star gZ gK))))) hw5' (fun w hw => by have := w2 w hw; omega) fun ps' H6 S6 hw6 => WOpen.p ?_
      refine WHeld.one (by rw [addN]; exact blk_has (bring5 hw6.it) rfl) ?_
      have hw6' : Wd a ((sepc (talO pt t) (sepc (winO 260 ps' s) (sepc (winO 260 ps s) (sepc (winO 259 po' o) (sepc (winO 259 po o) (sepc G (sepc Z K)))))))) F4 H6 S6 := hw6.imp fun hh => star_left (under hh fun _ h => bring5 h)
      refine tallyO (Good.star Good.winO (Good.star Good.winO (Good.star Good.winO (Good.star Good.winO (Good.star gG (Good.star gZ gK)))))) hw6' (fun w hw => by have := w3 w hw; omega) fun pt' H7 S7 hw7 => WOpen.p ?_
      -- all that is new ahead of what was
      let old : Asr := (sepc G (sepc (winO 259 po o) (sepc (winO 260 ps s) (sepc (talO pt t) K))))
      have gold : Good old := Good.star gG (Good.star Good.winO (Good.star Good.winO (Good.star Good.talO gK)))
      have hw8 : Wd a ((sepc (blk zz 165 (exCells k nm m y z p eks.length c ++ [.slice q eks.length m', .pointer (ptr po), .pointer (ptr ps), .pointer (ptr pt), .bool prev])) (sepc (winO 259 po' o) (sepc (winO 260 ps' s) (sepc (talO pt' t) (sepc (ownS 64 1 q eks.length m' (ptrs gl')) (sepc (kidsA eks ks gl') old))))))) F4 H7 S7 := hw7.imp fun hh => by
        -- t', t, s', s, o', o, G, Z, K
        have a1 : ((sepc (talO pt' t) (sepc (talO pt t) (sepc (winO 260 ps' s) (sepc (winO 260 ps s) (sepc (winO 259 po' o) (sepc (winO 259 po o) (sepc G (sepc Z K))))))))) F4 H7 S7 := hh
        have a2 : ((sepc (talO pt' t) (sepc (winO 260 ps' s) (sepc (winO 259 po' o) (sepc (talO pt t) (sepc (winO 260 ps s) (sepc (winO 259 po o) (sepc G (sepc Z K))))))))) F4 H7 S7 := under a1 fun _ h => under (star_left h) fun _ h => bring3 h
        have a3 : ((sepc (winO 259 po' o) (sepc (winO 260 ps' s) (sepc (talO pt' t) (sepc (talO pt t) (sepc (winO 260 ps s) (sepc (winO 259 po o) (sepc G (sepc Z K))))))))) F4 H7 S7 := under (bring3 a2) fun _ h => star_left h
        have a4 : ((sepc (winO 259 po' o) (sepc (winO 260 ps' s) (sepc (talO pt' t) (sepc Z old))))) F4 H7 S7 := under a3 fun _ h => under h fun _ h => under h fun _ h => by
          have b1 := bring5 h
          exact under b1 fun _ h => under (bring4 h) fun _ h => under (bring3 h) fun _ h => star_left h
        have a5 : ((sepc Z (sepc (winO 259 po' o) (sepc (winO 260 ps' s) (sepc (talO pt' t) old))))) F4 H7 S7 := bring4 a4
        have a6 := star_assoc a5
        exact under a6 fun _ h => by
          have b1 := star_assoc h
          -- own, kids, o', s', t', old
          have b2 := under b1 fun _ h => bring4 (under h fun _ h => h)
          have c1 : ((sepc (ownS 64 1 q eks.length m' (ptrs gl')) (sepc (kidsA eks ks gl') (sepc (winO 259 po' o) (sepc (winO 260 ps' s) (sepc (talO pt' t) old)))))) F4 H7 _ := b1
          exact under (bring3 c1) fun _ h => under (bring3 h) fun _ h => bring3 h
      rw [addN]
      have g8 : Good ((sepc (winO 259 po' o) (sepc (winO 260 ps' s) (sepc (talO pt' t) (sepc (ownS 64 1 q eks.length m' (ptrs gl')) (sepc (kidsA eks ks gl') old)))))) := Good.star Good.winO (Good.star Good.winO (Good.star Good.talO (Good.star Good.ownS (Good.star Good.kids gold))))
      refine WStore.blk g8 hw8 (by simp [exCells]) fun H9 hw9 => ?_
      rw [addN]
      refine WStore.blk g8 hw9 (by simp [exCells, writeL]) fun H10 hw10 => ?_
      rw [addN]
      refine WStore.blk g8 hw10 (by simp [exCells, writeL]) fun H11 hw11 => ?_
      obtain ⟨F', S', hle', hf⟩ := node_fin2 (a := a) (R := old) (k := k) (n := m) (y := y) (z := z) (nm := nm) (eks := eks) (ks := ks) (o := o) (s := s) (t := t) (prev := prev) (g := zz) (q := q) (kl := eks.length) (m := m') (gl := gl') (po := po') (ps := ps') (pt := pt') gold hq (hex.mono hle4) hl1.symm hw11
      refine ⟨zz, F', S', rfl, hle4.trans hle', hf.imp fun hh => under hh fun _ h => ?_⟩
      exact nodeA_close (hkp.mono (hle4.trans hle')) rfl (nodB_mk (po := po) (ps := ps) (pt := pt) (hex.mono (hle4.trans hle')) h)

theorem clone36 {M : Nat} (hM : M < 1000000000) {a : Base} {R : Asr} {F H : HP} {S : List Nat} {e : Ex} {n : Sta} {last : Int} {g : Nat} (gr : Good R) (h : Wd a ((sepc (monA g e n last) R)) F H S) (hN : e.size < 1000000000000) (hok : Sta.Ok M e n) :
    Den.Spec Tryz.prog 36 #[.pointer (some ⟨g, 0, none⟩)] H fun e' H' => ∃ z F' S', e' = .returned (.pointer (some ⟨z, 0, none⟩)) ∧ F.le F' ∧ Wd a ((sepc (monA z e n last) (sepc (monA g e n last) R))) F' H' S' := by
  obtain ⟨gt, h0⟩ := mon_open h.it
  refine spec36 (WCall.pure (is89 (q := some ⟨gt, 0, none⟩) (blk_has h0 rfl)) (WOpen.b (WIf.f rfl (WNonNil.some (WLoad.p (n := some ⟨gt, 0, none⟩) (by rw [addN]; exact blk_has h0 rfl) (WNonNil.some (WLoad.i (n := last) (by rw [addN]; exact blk_has h0 rfl) ?_)))))))
  have h1 : Wd a ((sepc (nodeA e n gt) (sepc (blk g 66 [.pointer (some ⟨gt, 0, none⟩), .int .i64 last]) R))) F H S := ⟨h.wd, h.tr, star_left h0⟩
  refine WCall.of (clone97 hM e.size e (Nat.le_refl _) hN (Good.star Good.blk gr) h1 hok) ?_ (by rintro e H' ⟨g, F', S', hv, _⟩ hne; exact absurd hv (hne _))
  rintro v H2 ⟨z, F2, S2, hv, hle, hw⟩
  cases hv
  refine WOpen.p (WHeld.one (by rw [addN]; exact blk_has (bring3 hw.it) rfl) ?_)
  refine WNew.blk (Good.star Good.node (Good.star Good.node (Good.star Good.blk gr))) hw fun y H3 hy hle3 hw3 => ⟨y, F2, _, rfl, hle, hw3.imp fun hh => ?_⟩
  exact mon_close (under (star_assoc' hh |> star_assoc) fun _ h => under h fun _ h => mon_close (star_left h))
end
end Go.Proofs.YtmidcnfnmnhifaaGreat
