/-
  monitor.Cells; the laws' alive; MonitorNobody's contract.
-/
import Derived.Test.YtmidcnfnmnhifaaGreatZMnh
namespace Go.Proofs.YtmidcnfnmnhifaaGreat
set_option linter.unusedSectionVars false
set_option linter.unusedSimpArgs false
set_option linter.unusedVariables false
open Go Go.Den
set_option linter.unusedVariables false

def lenO (o : Option Wi) : Int := match o with
  | none => 0
  | some w => w.d.length
mutual
/-- what a node remembers, counted -/
def Sta.cells : Ex → Sta → Int
  | .mk k _ _ _ _ eks, .mk ks o s t _ =>
    cellsL eks ks (if k = 25 then IntKind.wrap .i64 (IntKind.wrap .i64 (IntKind.wrap .i64 (lenO o + lenO s) + lenO t) + 1) else IntKind.wrap .i64 (IntKind.wrap .i64 (lenO o + lenO s) + lenO t))
def cellsL : List Ex → List Sta → Int → Int
  | e :: es, n :: ns, acc => cellsL es ns (IntKind.wrap .i64 (acc + Sta.cells e n))
  | _, _, acc => acc
end

section
variable {a : Base} {R : Asr} {F H : HP} {S : List Nat}

theorem once_cells {po : Option Nat} {o : Option Wi} (h : ((sepc (winO 259 po o) R)) F H S) : Pure Tryz.prog 150 #[.pointer (ptr po)] H (.int .i64 (lenO o)) := by
  cases po with
  | none => cases o with
    | none => exact cells150n
    | some w => obtain ⟨_, _, _, _, _, h, _⟩ := h; exact h.elim
  | some g => cases o with
    | none => obtain ⟨_, _, _, _, _, h, _⟩ := h; exact h.elim
    | some w => exact cells150 (ty := 259) h
theorem since_cells {po : Option Nat} {o : Option Wi} (h : ((sepc (winO 260 po o) R)) F H S) : Pure Tryz.prog 151 #[.pointer (ptr po)] H (.int .i64 (lenO o)) := by
  cases po with
  | none => cases o with
    | none => exact cells151n
    | some w => obtain ⟨_, _, _, _, _, h, _⟩ := h; exact h.elim
  | some g => cases o with
    | none => obtain ⟨_, _, _, _, _, h, _⟩ := h; exact h.elim
    | some w => exact cells151 (ty := 260) h
theorem tally_cells {po : Option Nat} {o : Option Wi} (h : ((sepc (talO po o) R)) F H S) : Pure Tryz.prog 152 #[.pointer (ptr po)] H (.int .i64 (lenO o)) := by
  cases po with
  | none => cases o with
    | none => exact cells152n
    | some w => obtain ⟨_, _, _, _, _, h, _⟩ := h; exact h.elim
  | some g => cases o with
    | none => obtain ⟨_, _, _, _, _, h, _⟩ := h; exact h.elim
    | some w => exact cells152 h

theorem kids_get {F H : HP} : ∀ {es : List Ex} {ns : List Sta} {gs : List Nat} {S : List Nat}, kidsA es ns gs F H S → ns.length = es.length ∧ gs.length = es.length ∧ ∀ (i : Nat) (e : Ex), es[i]? = some e → ∃ n g, ns[i]? = some n ∧ gs[i]? = some g ∧ nodeA e n g F H S
  | [], [], [], S, h => ⟨rfl, rfl, fun i e hi => by simp at hi⟩
  | e' :: es, n' :: ns, g' :: gs, S, h => by
    simp only [kidsA] at h
    obtain ⟨h1, h2, h3⟩ := kids_get (star_snd Good.kids h)
    refine ⟨by simp [h1], by simp [h2], fun i e hi => ?_⟩
    cases i with
    | zero => simp at hi; subst hi; exact ⟨n', g', rfl, rfl, star_fst Good.node h⟩
    | succ i => exact h3 i e (by simpa using hi)
  | [], [], g' :: gs, S, h => by simp only [kidsA] at h; exact h.elim
  | [], n' :: ns, gs, S, h => by cases gs <;> (simp only [kidsA] at h; exact h.elim)
  | e' :: es, [], gs, S, h => by cases gs <;> (simp only [kidsA] at h; exact h.elim)
  | e' :: es, n' :: ns, [], S, h => by simp only [kidsA] at h; exact h.elim

theorem cells92 : ∀ (N : Nat) (e : Ex), e.size ≤ N → N < 1000000000000 → ∀ {R : Asr} {F H : HP} {S : List Nat} {n : Sta} {g : Nat}, F.le H → ((sepc (nodeA e n g) R)) F H S →
    Pure Tryz.prog 92 #[.pointer (some ⟨g, 0, none⟩)] H (.int .i64 (Sta.cells e n)) := by
  intro N
  induction N with
  | zero => intro e he; have := e.size_pos; omega
  | succ N ih =>
    intro e he hN R F H S n g hFH h
    obtain ⟨k, nm, m, y, z, eks⟩ := e
    obtain ⟨ks, o, s, t, prev⟩ := n
    simp only [Ex.size] at he
    have hlen := sizes_length eks
    obtain ⟨kp, kc, gl, hkp, hb⟩ := nodeA_open h
    obtain ⟨p, c, po, ps, pt, hex, _, hkind, hkids, ho, hs, ht, _, hparts⟩ := nodB_has hb
    obtain ⟨_, _, _, _, _, _, T1, T2, _, _, _, hk, _⟩ := id hb
    obtain ⟨hl1, hl2, hget⟩ := kids_get hk
    refine Pure.of (spec92 (WNonNil.some (WLoad.p (n := ptr po) (by rw [addN]; exact ho) (WNonNil.some (WLoad.p (n := ptr ps) (by rw [addN]; exact hs) (WNonNil.some (WLoad.p (n := ptr pt) (by rw [addN]; exact ht) ?_)))))))
    refine WCall.pure (once_cells (star_left hparts)) (WOpen.i (WHeld.two (by rw [addN]; exact ht) (by rw [addN]; exact hs) ?_))
    refine WCall.pure (since_cells (bring3 hparts)) (WOpen.i (WHeld.one (by rw [addN]; exact ht) ?_))
    refine WCall.pure (tally_cells (bring4 hparts)) (WOpen.i (WNonNil.some (WLoad.i (n := k) (by rw [addN, addN]; exact hkind) ?_)))
    cases h25 : (k == 25)
    all_goals
      have hb : ∃ acc, (Sta.cells (.mk k nm m y z eks) (.mk ks o s t prev)) = cellsL eks ks acc ∧ acc = (if k = 25 then IntKind.wrap .i64 (IntKind.wrap .i64 (IntKind.wrap .i64 (lenO o + lenO s) + lenO t) + 1) else IntKind.wrap .i64 (IntKind.wrap .i64 (lenO o + lenO s) + lenO t)) := ⟨_, by rw [Sta.cells], rfl⟩
      obtain ⟨acc0, hacc, hacc0⟩ := hb
      rw [hacc]
      first | rw [if_pos (eq_of_beq h25)] at hacc0 | rw [if_neg (ne_of_beq_false h25)] at hacc0
      rw [← hacc0]
      first | refine WIf.t rfl ?_ | refine WIf.f rfl ?_
      refine WNonNil.some (WLoad.sl (p := kp) (n := ks.length) (c := kc) (by rw [addN]; exact hkids) ?_)
      refine WLoop.run eks.length (fun x => x.1.2.1.toNat) (fun i x H' => H' = H ∧ ∃ acc, x = ((acc, ((i : Int), ())), ()) ∧ cellsL (eks.drop i) (ks.drop i) acc = cellsL eks ks acc0) 0 ⟨rfl, acc0, rfl, rfl⟩ (Nat.zero_le _) (by rintro i x H ⟨_, acc, rfl, _⟩; simp) ?_
      rintro i x' H1 again - hi ⟨rfl, acc, rfl, hc⟩ hag
      by_cases hlt : i < eks.length
      · refine WIf.t (by simp; omega) ?_
        obtain ⟨n', g', h1, h2, h3⟩ := hget i eks[i] (by simp [hlt])
        obtain ⟨ad, hp, hh⟩ := hkp i g' h2
        refine WIndex.at' hp (by omega) (WLoad.p (n := some ⟨g', 0, none⟩) (by simpa using hFH.has hh) ?_)
        refine WCall.pure (ih eks[i] (by have := sizes_ge eks eks[i] (List.getElem_mem hlt); omega) (by omega) (R := emp') hFH (star_emp h3)) (WOpen.i ?_)
        simp only [wrapS (show i < 1000000000000 by omega)]
        refine hag _ _ hlt ⟨rfl, _, rfl, ?_⟩
        rw [← hc, List.drop_eq_getElem_cons hlt, List.drop_eq_getElem_cons (show i < ks.length by omega), cellsL, (List.getElem?_eq_some_iff.1 h1).2]
      · refine WIf.f (by simp; omega) ?_
        have hil : i = eks.length := by omega
        subst hil
        rw [← hc, List.drop_length]
        exact ⟨by simp only [cellsL], HP.le.refl H1⟩

theorem cells29 {g : Nat} {e : Ex} {n : Sta} {last : Int} (hFH : F.le H) (h : ((sepc (monA g e n last) R)) F H S) (hN : e.size < 1000000000000) : Pure Tryz.prog 29 #[.pointer (some ⟨g, 0, none⟩)] H (.int .i64 (Sta.cells e n)) := by
  obtain ⟨gt, h0⟩ := mon_open h
  refine Pure.of (spec29 (WCall.pure (is89 (q := some ⟨gt, 0, none⟩) (blk_has h0 rfl)) (WOpen.b (WIf.f rfl (WNonNil.some (WLoad.p (n := some ⟨gt, 0, none⟩) (by rw [addN]; exact blk_has h0 rfl) ?_))))))
  exact WCall.pure (cells92 e.size e (Nat.le_refl _) hN hFH (star_left h0)) (WOpen.i ⟨rfl, HP.le.refl H⟩)
theorem cells29n {q : Option Addr} (h : Pure Tryz.prog 89 #[.pointer q] H (.bool false)) : Pure Tryz.prog 29 #[.pointer q] H (.int .i64 0) :=
  Pure.of (spec29 (WCall.pure h (WOpen.b (WIf.t rfl ⟨rfl, HP.le.refl H⟩))))
theorem clone36n {q : Option Addr} (h : Pure Tryz.prog 89 #[.pointer q] H (.bool false)) : Pure Tryz.prog 36 #[.pointer q] H (.pointer none) :=
  Pure.of (spec36 (WCall.pure h (WOpen.b (WIf.t rfl ⟨rfl, HP.le.refl H⟩))))

/-- the laws' own expression -/
def exAl : Ex := .mk 25 nos 0 0 0 [.mk 21 ⟨#[97]⟩ 0 0 0 []]
theorem exAl_check : exAl.check = 0 := by kernel_rfl
theorem alive21 : Pure Tryz.prog 21 #[] H (.bool true) := by
  refine Pure.of (spec21 fun z hz => ?_)
  let H1 := H.set z (.cells ⟨exCells 21 ⟨#[97]⟩ 0 0 0 none 0 0⟩ 24 (0, 0))
  have hH1 : H.le H1 := HP.le_set hz
  have hz1 : H1.has ⟨z, 0, none⟩ (exCells 21 ⟨#[97]⟩ 0 0 0 none 0 0) := has_cells (l := exCells 21 ⟨#[97]⟩ 0 0 0 none 0 0) (by show HP.set _ _ _ _ = _; unfold HP.set; rw [if_pos rfl]) rfl
  have hat : exAl.At H1 (exCells 25 nos 0 0 0 (some ⟨z, 0, none⟩) 1 1) := by
    simp only [exAl, Ex.At, ExsAt]
    exact ⟨some ⟨z, 0, none⟩, 1, rfl, ⟨⟨z, 0, none⟩, _, rfl, hz1, none, 0, rfl, trivial⟩, trivial⟩
  have start : Wd ⟨H1, H1, []⟩ emp' H1 H1 [] := Wd.start ⟨HP.le.refl H1, fun _ h => by simp at h, fun _ h => by simp at h⟩ trivial
  refine WCall.of (new22 Good.emp start hat (by decide) (by simp [exAl, Ex.Short, Shorts]; decide) exAl_check) ?_ (by rintro e H' ⟨g, F', S', hv, _⟩ hne; exact absurd hv (hne _))
  rintro v H2 ⟨g, F2, S2, hv, hle2, hw2⟩
  cases hv
  refine WOpen.p (WCall.of (new23 (p := none) (l := []) 0 (Good.star Good.mon Good.emp) hw2 (fun i d h => by simp at h) (fun d h => by simp at h) (by decide)) ?_ (by rintro e H' ⟨g, S', hv, _⟩ hne; exact absurd hv (hne _)))
  rintro v H3 ⟨gs, S3, hv, hw3⟩
  cases hv
  refine WOpen.p ?_
  have hmay : exAl.may = true := by kernel_rfl
  have hsh : exAl.Short := by simp [exAl, Ex.Short, Shorts]; decide
  have hx : ∀ (t : Int) (s : ByteArray), (⟨t, s, nos, nos⟩ : Mo).Ok := fun t s => ⟨by show nos.size ≤ _; decide, by show nos.size ≤ _; decide⟩
  have hok := (sta_new_ok exAl.size).1 exAl (Nat.le_refl _)
  let σ0 : Sto := Sto.new []
  have hσ : σ0.Ok := Sto.new_ok (fun d h => by simp at h)
  let x1 : Mo := ⟨0, ⟨#[97]⟩, nos, nos⟩
  let x2 : Mo := ⟨1, nos, nos, nos⟩
  let n1 : Sta := (Sta.eval σ0 { x1 with a := maxI 0 x1.a } exAl (Sta.new exAl)).2
  let n2 : Sta := (Sta.eval σ0 { x2 with a := maxI (maxI 0 x1.a) x2.a } exAl n1).2
  have hr1 : (Sta.eval σ0 { x1 with a := maxI 0 x1.a } exAl (Sta.new exAl)).1 = .ok ⟨2, 0, nos, []⟩ := by kernel_rfl
  have hr2 : (Sta.eval σ0 { x2 with a := maxI (maxI 0 x1.a) x2.a } exAl n1).1 = .ok ⟨2, 1, nos, []⟩ := by kernel_rfl
  have hok1 : Sta.Ok 1 exAl n1 := eval_ok exAl.size exAl (Nat.le_refl _) _ hmay hok
  have step1 := step27 (x := x1) Good.emp (hw3.imp star_left) hσ (hx 0 _) (M := 0) (by decide) hmay hsh hok
  rw [hr1] at step1
  refine WCall.of step1 ?_ (by rintro e H' ⟨F', S', ⟨cs, _, hv⟩, _⟩ hne; exact absurd hv (hne _))
  rintro v H4 ⟨F4, S4, ⟨cs, hcs, hv⟩, hle4, hw4⟩
  cases hv
  obtain ⟨p', c', rfl, hp'⟩ := hcs
  refine WOpen.vai ?_
  have step2 := step27 (x := x2) Good.emp hw4 hσ (hx 1 _) (M := 1) (by decide) hmay hsh hok1
  rw [hr2] at step2
  refine WCall.of step2 ?_ (by rintro e H' ⟨F', S', ⟨cs, _, hv⟩, _⟩ hne; exact absurd hv (hne _))
  rintro v H5 ⟨F5, S5, ⟨cs, hcs, hv⟩, hle5, hw5⟩
  cases hv
  obtain ⟨p2, c2, rfl, hp2⟩ := hcs
  refine WOpen.vai (WIf.t rfl (WIf.t rfl (WIf.t rfl (WIf.t rfl (WIf.t rfl ?_)))))
  have hcells : Sta.cells exAl n2 = 1 := by kernel_rfl
  refine WCall.pure (cells29 hw5.wd.le hw5.it (by decide)) (WOpen.i ⟨?_, ?_⟩)
  · show Ending.returned (.bool (Sta.cells exAl n2 == 1)) = _
    rw [hcells]
    rfl
  · exact hH1.trans (hw5.tr.le.trans hw5.wd.le)

theorem WOpen.mo {n : Int} {s t u : ByteArray} {body : Int → ByteArray → ByteArray → ByteArray → W} (h : body n s t u H) : WOpen (.one (.agg [(.i .i64), .s, .s, .s])) body (moV ⟨n, s, t, u⟩) H := ⟨(n, s, t, u, ()), rfl, h⟩
theorem texts94 {c d : Nat} : Pure Tryz.prog 94 #[.slice none 0 c, .slice none 0 d] H (.bool true) := by
  refine Pure.of (spec94 (WIf.f rfl ?_))
  refine WLoop.up 0 0 (fun _ => True) trivial (Nat.le_refl _) ?_
  intro i again _ hi _ _
  have : i = 0 := by omega
  subst this
  exact WIf.f rfl ⟨rfl, HP.le.refl H⟩
theorem value34z : Pure Tryz.prog 34 #[.agg ⟨flat zeroVa⟩, .agg ⟨flat zeroVa⟩] H (.bool true) :=
  Pure.of (spec34 (WIf.t rfl (WIf.t rfl (WIf.t (by rw [toList_inj]; rfl) (WCall.pure texts94 (WOpen.b ⟨rfl, HP.le.refl H⟩))))))

/-- MonitorNobody's answer -/
theorem nobody6 {n : Int} {s1 s2 s3 s4 s5 s6 : ByteArray} {n6 n7 : Int} {p : Option Addr} {l c : Nat} :
    Pure Tryz.prog 6 #[.agg #[(.int .i64 n), (.string s1), (.string s2), (.string s3), (.string s4), (.string s5), (.int .i64 n6), (.int .i64 n7), (.string s6), (.slice p l c)]] H (.bool true) := by
  refine Pure.of (spec6 (WCall.pure alive21 (WOpen.b (WIf.f rfl fun z hz => ?_))))
  let H1 := H.set z (.cells ⟨[(.pointer none), (.int .i64 0)]⟩ 66 (0, 0))
  have hH1 : H.le H1 := HP.le_set hz
  have hz1 : H1.has ⟨z, 0, none⟩ [.pointer none] := has_cells (l := [(.pointer none), (.int .i64 0)]) (by show HP.set _ _ _ _ = _; unfold HP.set; rw [if_pos rfl]) rfl
  have start : Wd ⟨H1, H1, []⟩ emp' H1 H1 [] := Wd.start ⟨HP.le.refl H1, fun _ h => by simp at h, fun _ h => by simp at h⟩ trivial
  have mom : ∀ {H : HP}, Pure Tryz.prog 28 #[.agg #[(.int .i64 n), (.string s1), (.string s2), (.string s3), (.string s4), (.string s5), (.int .i64 n6), (.int .i64 n7), (.string s6), (.slice p l c)]] H (moV ⟨n, s1, s2, s3⟩) :=
    Pure.of (spec28 ⟨rfl, HP.le.refl _⟩)
  refine WCall.of (new23 (p := none) (l := []) 0 Good.emp start (fun i d h => by simp at h) (fun d h => by simp at h) (by decide)) ?_ (by rintro e H' ⟨g, S', hv, _⟩ hne; exact absurd hv (hne _))
  rintro v H2 ⟨gs, S2, hv, hw2⟩
  cases hv
  refine WOpen.p (WCall.pure mom (WOpen.mo (WCall.pure (nobody27 (q := none) (x := ⟨n, s1, s2, s3⟩) is89n fun _ _ => is89n) (WOpen.vai ?_))))
  refine WCall.of (new23 (p := none) (l := []) 0 (Good.star Good.store Good.emp) hw2 (fun i d h => by simp at h) (fun d h => by simp at h) (by decide)) ?_ (by rintro e H' ⟨g, S', hv, _⟩ hne; exact absurd hv (hne _))
  rintro v H3 ⟨gs2, S3, hv, hw3⟩
  cases hv
  have h3 : H1.le H3 := hw3.tr.le.trans hw3.wd.le
  have hz3 : H3.has ⟨z, 0, none⟩ [.pointer none] := h3.has hz1
  have n89 : ∀ H', H3.le H' → Pure Tryz.prog 89 #[.pointer (some ⟨z, 0, none⟩)] H' (.bool false) := fun H' hl => is89 (q := none) (hl.has hz3)
  refine WOpen.p (WCall.pure mom (WOpen.mo (WCall.pure (nobody27 (q := some ⟨z, 0, none⟩) (x := ⟨n, s1, s2, s3⟩) (n89 _ (HP.le.refl _)) n89) (WOpen.vai ?_))))
  refine WIf.t rfl (WIf.t rfl (WCall.pure value34z (WOpen.b (WIf.t rfl (WCall.pure value34z (WOpen.b (WIf.t rfl ?_)))))))
  refine WCall.pure (cells29n is89n) (WOpen.i (WIf.t rfl (WCall.pure (cells29n (n89 _ (HP.le.refl _))) (WOpen.i (WIf.t rfl ?_)))))
  exact WCall.pure (clone36n is89n) (WOpen.p (WIf.t rfl (WCall.pure (clone36n (n89 _ (HP.le.refl _))) (WOpen.p ⟨rfl, hH1.trans h3⟩))))
end
end Go.Proofs.YtmidcnfnmnhifaaGreat
