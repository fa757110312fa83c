/-
  Package monitor: the contracts of eval, Step.
-/
import Derived.Test.YtmidcnfnmnhifaaGreatZMne
namespace Go.Proofs.YtmidcnfnmnhifaaGreat
set_option linter.unusedSectionVars false
set_option linter.unusedSimpArgs false
set_option linter.unusedVariables false
open Go Go.Den
set_option linter.unusedVariables false

section
variable {a : Base} {R : Asr} {F H : HP} {S : List Nat}

theorem nodeA_open {k n y z : Int} {nm : ByteArray} {eks : List Ex} {ks : List Sta} {o s t : Option Wi} {prev : Bool} {g : Nat} (h : ((sepc (nodeA (.mk k nm n y z eks) (.mk ks o s t prev) g) R)) F H S) :
    ∃ kp kc gl, KidsPtr F kp gl ∧ ((sepc (nodB (.mk k nm n y z eks) kp ks.length kc o s t prev g) (sepc (kidsA eks ks gl) R))) F H S := by
  obtain ⟨S1, S2, i1, i2, idj, hA, hR⟩ := h
  simp only [nodeA] at hA
  obtain ⟨⟨kp, kc, gl⟩, hk, hA⟩ := hA
  exact ⟨kp, kc, gl, hk, star_assoc ⟨S1, S2, i1, i2, idj, hA, hR⟩⟩

theorem nodeA_close {k n y z : Int} {nm : ByteArray} {eks : List Ex} {ks : List Sta} {o s t : Option Wi} {prev : Bool} {g : Nat} {kp : Option Addr} {kc kl : Nat} {gl : List Nat} (hk : KidsPtr F kp gl) (hl : kl = ks.length)
    (h : ((sepc (nodB (.mk k nm n y z eks) kp kl kc o s t prev g) (sepc (kidsA eks ks gl) R))) F H S) : ((sepc (nodeA (.mk k nm n y z eks) (.mk ks o s t prev) g) R)) F H S := by
  subst hl
  refine star_mono (A := (sepc (nodB (.mk k nm n y z eks) kp ks.length kc o s t prev g) (kidsA eks ks gl))) (fun S' hs => ?_) (fun _ h => h) (star_assoc' h)
  simp only [nodeA]
  exact ⟨(kp, kc, gl), hk, hs⟩

theorem kids1 {e1 : Ex} {n1 : Sta} {gl : List Nat} (h : kidsA [e1] [n1] gl F H S) : ∃ g1, gl = [g1] ∧ nodeA e1 n1 g1 F H S := by
  match gl with
  | [] => simp only [kidsA] at h; exact h.elim
  | [g1] =>
    simp only [kidsA] at h
    exact ⟨g1, rfl, star_fst Good.node h⟩
  | g1 :: g2 :: gs =>
    simp only [kidsA] at h
    obtain ⟨_, _, _, _, _, _, h⟩ := h
    exact h.elim
theorem kids2 {e1 e2 : Ex} {n1 n2 : Sta} {gl : List Nat} (h : kidsA [e1, e2] [n1, n2] gl F H S) : ∃ g1 g2, gl = [g1, g2] ∧ ((sepc (nodeA e1 n1 g1) (nodeA e2 n2 g2))) F H S := by
  match gl with
  | [] => simp only [kidsA] at h; exact h.elim
  | [g1] =>
    simp only [kidsA] at h
    obtain ⟨_, _, _, _, _, _, h⟩ := h
    exact h.elim
  | [g1, g2] =>
    simp only [kidsA] at h
    exact ⟨g1, g2, rfl, star_mono (fun _ h => h) (fun _ h => star_fst Good.node h) h⟩
  | g1 :: g2 :: g3 :: gs =>
    simp only [kidsA] at h
    obtain ⟨_, _, _, _, _, _, h⟩ := h
    obtain ⟨_, _, _, _, _, _, h⟩ := h
    exact h.elim
theorem kids1_mk {e1 : Ex} {n1 : Sta} {g1 : Nat} (h : nodeA e1 n1 g1 F H S) : kidsA [e1] [n1] [g1] F H S := by
  simp only [kidsA]
  exact star_emp h
theorem kids2_mk {e1 e2 : Ex} {n1 n2 : Sta} {g1 g2 : Nat} (h : ((sepc (nodeA e1 n1 g1) (nodeA e2 n2 g2))) F H S) : kidsA [e1, e2] [n1, n2] [g1, g2] F H S := by
  simp only [kidsA]
  exact star_mono (fun _ h => h) (fun _ h => star_emp h) h

theorem short_max {n : Nat} (h : n < 1000000000000) : n ≤ maxLen := by simp only [maxLen]; omega

theorem bring3 {A B C D : Asr} {F H : HP} {S : List Nat} (h : ((sepc A (sepc B (sepc C D)))) F H S) : ((sepc C (sepc A (sepc B D)))) F H S := star_left (star_mono (fun _ h => h) (fun _ h => star_left h) h)
theorem bring4 {A B C D E : Asr} {F H : HP} {S : List Nat} (h : ((sepc A (sepc B (sepc C (sepc D E))))) F H S) : ((sepc D (sepc A (sepc B (sepc C E))))) F H S := star_left (star_mono (fun _ h => h) (fun _ h => bring3 h) h)
theorem under {A B C : Asr} {F H : HP} {S : List Nat} (h : ((sepc A B)) F H S) (k : ∀ S, B F H S → C F H S) : ((sepc A C)) F H S := star_mono (fun _ h => h) k h

section
variable {σ : Sto} {x : Mo} {k n y z : Int} {nm : ByteArray} {e1 e2 : Ex} {n1 n2 : Sta} {o s t : Option Wi} {prev : Bool} {c : Int} {v w : Va} (hk : ¬ kidsN k < 1)
include hk
theorem eval1_err (h : (Sta.eval σ x e1 n1).1 = .error c) : Sta.eval σ x (.mk k nm n y z [e1]) (.mk [n1] o s t prev) = (.error c, .mk [(Sta.eval σ x e1 n1).2] o s t prev) := by
  rw [eval_mk, if_neg hk]; simp only; rw [h]
theorem eval1_ok (h : (Sta.eval σ x e1 n1).1 = .ok v) : Sta.eval σ x (.mk k nm n y z [e1]) (.mk [n1] o s t prev) = ((singleV x k v o prev).1, .mk [(Sta.eval σ x e1 n1).2] (singleV x k v o prev).2.1 s t (singleV x k v o prev).2.2) := by
  rw [eval_mk, if_neg hk]; simp only; rw [h]
theorem eval2_err1 (h : (Sta.eval σ x e1 n1).1 = .error c) : Sta.eval σ x (.mk k nm n y z [e1, e2]) (.mk [n1, n2] o s t prev) = (.error c, .mk [(Sta.eval σ x e1 n1).2, n2] o s t prev) := by
  rw [eval_mk, if_neg hk]; simp only; rw [h]
theorem eval2_err2 (h : (Sta.eval σ x e1 n1).1 = .ok v) (h2 : (Sta.eval σ x e2 n2).1 = .error c) : Sta.eval σ x (.mk k nm n y z [e1, e2]) (.mk [n1, n2] o s t prev) = (.error c, .mk [(Sta.eval σ x e1 n1).2, (Sta.eval σ x e2 n2).2] o s t prev) := by
  rw [eval_mk, if_neg hk]; simp only; rw [h]; simp only; rw [h2]
theorem eval2_ok (h : (Sta.eval σ x e1 n1).1 = .ok v) (h2 : (Sta.eval σ x e2 n2).1 = .ok w) : Sta.eval σ x (.mk k nm n y z [e1, e2]) (.mk [n1, n2] o s t prev) = ((pairV x k v w s).1, .mk [(Sta.eval σ x e1 n1).2, (Sta.eval σ x e2 n2).2] o (pairV x k v w s).2 t prev) := by
  rw [eval_mk, if_neg hk]; simp only; rw [h]; simp only; rw [h2]
end
theorem kids2_kind {k : Int} (h : kidsN k = 2) : k = 8 ∨ k = 9 ∨ k = 10 ∨ k = 14 ∨ k = 15 ∨ k = 16 ∨ k = 17 ∨ k = 19 ∨ k = 20 ∨ k = 24 := by
  unfold kidsN at h
  repeat' split at h
  all_goals simp_all

/-- the moment's texts are small -/
def Mo.Ok (x : Mo) : Prop := x.subj.size ≤ maxLen ∧ x.obj.size ≤ maxLen

theorem eval91 {gs : Nat} {σ : Sto} {x : Mo} {M : Nat} (ok : σ.Ok) (hx : x.Ok) (hM : M < 800000000) : ∀ N (e : Ex), e.size ≤ N → ∀ {a : Base} {R : Asr} {F H : HP} {S : List Nat} {n : Sta} {g : Nat}, Good R →
    Wd a ((sepc (nodeA e n g) (sepc (storeA gs σ) R))) F H S → e.may = true → e.Short → Sta.Ok M e n →
    Den.Spec Tryz.prog 91 #[eyeV gs x, .pointer (some ⟨g, 0, none⟩)] H fun e' H' => ∃ F' S', RVal F' (Sta.eval σ x e n).1 e' ∧ F.le F' ∧ Wd a ((sepc (nodeA e (Sta.eval σ x e n).2 g) (sepc (storeA gs σ) R))) F' H' S' := by
  intro N
  induction N with
  | zero => intro e he; have := e.size_pos; omega
  | succ N ih =>
    intro e he a R F H S n g gr h hm hsh hok
    obtain ⟨k, nm, m, y, z, eks⟩ := e
    obtain ⟨ks, o, s, t, prev⟩ := n
    simp only [Ex.size] at he
    simp only [Sta.Ok] at hok
    simp only [Ex.Short] at hsh
    obtain ⟨⟨c1, c2, c3⟩, ⟨w1, w2, w3⟩, hks⟩ := hok
    obtain ⟨kp, kc, gl, hkp, hb⟩ := nodeA_open h.it
    have grS : Good ((sepc (storeA gs σ) R)) := Good.star Good.store gr
    obtain ⟨p, c, po, ps, pt, hex, _, hkind, hkids, _, _, _, _, _⟩ := nodB_has hb
    have hlen := stas_length hks
    refine spec91 (WNonNil.some (WLoad.i (n := k) (by rw [addN, addN]; exact hkind) (WCall.pure (kids_spec k) (WOpen.i ?_))))
    have ret : ∀ {Q : Ending → W} {cs : List Value} {v : Va} {F' H' : HP}, v.At F' cs → Q (.returned (.agg ⟨cs⟩)) H' →
        WOpen (.one (.agg [(.i .i64), (.i .i64), .s, .sl])) (fun (x4 : Int) (x4_1 : Int) (x4_2 : ByteArray) (x4_3 : Option Go.Addr) (x4_4 : Nat) (x4_5 : Nat) => Q (.returned (.agg #[(.int .i64 x4), (.int .i64 x4_1), (.string x4_2), (.slice x4_3 x4_4 x4_5)]))) (.agg ⟨cs⟩) H' := by
      intro Q cs v F' H' hv hq
      obtain ⟨p', c', rfl, hp'⟩ := hv
      exact WOpen.va hq
    by_cases hk : kidsN k < 1
    · have e0 : Sta.eval σ x (.mk k nm m y z eks) (.mk ks o s t prev) = ((leafV σ x k nm m eks t).1, .mk ks o s (leafV σ x k nm m eks t).2 prev) := by rw [eval_mk, if_pos hk]
      rw [e0]
      refine WIf.t (by simpa using hk) ?_
      refine WCall.of (leaf104 (gs := gs) (x := x) (σ := σ) (Good.star Good.kids grS) ⟨h.wd, h.tr, hb⟩ (store_read (R := emp') (star_emp (star_fst Good.store (star_snd grS h.it)))) ok hx.1 hx.2 (short_max hsh.1) (may_set hm)
        (fun h13 => let ⟨w, hw⟩ := c3 h13; ⟨w, hw, by have := w3 w hw; omega⟩)) ?_ ?_
      · rintro v H' ⟨F', S', hr, hle, hw⟩
        cases hres : (leafV σ x k nm m eks t).1 with
        | error c => rw [hres] at hr; cases hr
        | ok u =>
          rw [hres] at hr
          obtain ⟨cs, hv, hu⟩ := hr
          cases hv
          have hux := hu
          obtain ⟨px, cx, rfl, hpx⟩ := hux
          refine WOpen.va ?_
          refine ⟨F', S', ⟨_, rfl, hu⟩, hle, hw.imp fun hh => nodeA_close (kc := kc) (hkp.mono hle) rfl hh⟩
      · rintro e' H' ⟨F', S', hr, hle, hw⟩ hne
        exact ⟨F', S', hr, hle, hw.imp fun hh => nodeA_close (kc := kc) (hkp.mono hle) rfl hh⟩
    · refine WIf.f (by simpa using hk) (WNonNil.some (WLoad.sl (p := kp) (n := ks.length) (c := kc) (by rw [addN]; exact hkids) ?_))
      obtain ⟨h4, hkl, hmay⟩ := may_kids hm hk
      have hle2 := kidsN_le k
      have shorts : ∀ e ∈ eks, e.Short := fun e he => Shorts.get hsh.2 e he
      match eks, ks, hks, hkl, hb, he, hmay, shorts, hex with
      | [e1], [n1], hks, _, hb, he, hmay, shorts, hex =>
        simp only [StasOk] at hks
        have he1 : e1.size ≤ N := by simp only [sizes] at he; omega
        obtain ⟨g1, hgl⟩ : ∃ g1, gl = [g1] := by
          obtain ⟨_, _, _, _, _, _, h2⟩ := hb
          obtain ⟨_, _, _, _, _, h3, _⟩ := h2
          obtain ⟨g1, hg, _⟩ := kids1 h3
          exact ⟨g1, hg⟩
        subst hgl
        obtain ⟨kx, hkx, hkh⟩ := hkp 0 g1 rfl
        refine ⟨kx, hkx, by omega, by simp, WLoad.p (n := some ⟨g1, 0, none⟩) (h.wd.le.has hkh) ?_⟩
        have hw1 : Wd a ((sepc (nodeA e1 n1 g1) (sepc (storeA gs σ) (sepc (nodB (.mk k nm m y z [e1]) kp [n1].length kc o s t prev g) R)))) F H S :=
          ⟨h.wd, h.tr, star_mono (fun _ h => h) (fun _ h => star_left h) (star_left (star_mono (fun _ h => h) (fun _ h => star_mono (fun _ h => let ⟨g', hg, hh⟩ := kids1 h; (by cases hg; exact hh)) (fun _ h => h) h) hb))⟩
        refine WCall.of (ih e1 he1 (Good.star Good.nodB gr) hw1 (hmay e1 (by simp)) (shorts e1 (by simp)) hks.1) ?_ ?_
        · rintro v H1 ⟨F1, S1, hr, hle, hw⟩
          have hsm := eval_small ok (x := x) e1 n1 (hmay e1 (by simp))
          cases hres : (Sta.eval σ x e1 n1).1 with
          | error c => rw [hres] at hr; cases hr
          | ok u =>
            rw [hres] at hr
            rw [eval1_ok hk hres]
            obtain ⟨cs, hv, hu⟩ := hr
            cases hv
            have hu0 := hu
            obtain ⟨pu, cu, rfl, hpu⟩ := hu
            have hb1 : ((sepc (nodB (.mk k nm m y z [e1]) kp [n1].length kc o s t prev g) (sepc (nodeA e1 (Sta.eval σ x e1 n1).2 g1) (sepc (storeA gs σ) R)))) F1 H1 S1 :=
              star_left (star_mono (fun _ h => h) (fun _ h => star_left h) hw.it)
            obtain ⟨_, _, _, _, _, _, _, _, hkids1, _, _, _, _, _⟩ := nodB_has hb1
            refine WOpen.va (WNonNil.some (WLoad.sl (p := kp) (n := [n1].length) (c := kc) (by rw [addN]; exact hkids1) (WIf.t rfl ?_)))
            refine WCall.of (single102 (gs := gs) (x := x) (Good.star Good.node grS) ⟨hw.wd, hw.tr, hb1⟩ hu0 (fun h22 => let ⟨w, hw'⟩ := c1 h22; ⟨w, hw', by have := w1 w hw'; omega⟩)) ?_ ?_
            · rintro v' H2 ⟨F2, S2, hr2, hle2, hw2⟩
              cases hres2 : (singleV x k u o prev).1 with
              | error c => rw [hres2] at hr2; cases hr2
              | ok u2 =>
                rw [hres2] at hr2
                obtain ⟨cs2, hv2, hu2⟩ := hr2
                cases hv2
                have hu2x := hu2
                obtain ⟨px, cx, rfl, hpx⟩ := hu2x
                refine WOpen.va ?_
                refine ⟨F2, S2, ⟨_, rfl, hu2⟩, hle.trans hle2, hw2.imp fun hh => nodeA_close (kc := kc) (hkp.mono (hle.trans hle2)) rfl (star_mono (fun _ h => h) (fun _ h => star_mono (fun _ h => kids1_mk h) (fun _ h => h) h) hh)⟩
            · rintro e' H2 ⟨F2, S2, hr2, hle2, hw2⟩ hne
              exact ⟨F2, S2, hr2, hle.trans hle2, hw2.imp fun hh => nodeA_close (kc := kc) (hkp.mono (hle.trans hle2)) rfl (star_mono (fun _ h => h) (fun _ h => star_mono (fun _ h => kids1_mk h) (fun _ h => h) h) hh)⟩
        · rintro e' H1 ⟨F1, S1, hr, hle, hw⟩ hne
          cases hres : (Sta.eval σ x e1 n1).1 with
          | ok u => rw [hres] at hr; obtain ⟨cs, hv, _⟩ := hr; exact absurd hv (hne _)
          | error c =>
            rw [hres] at hr
            rw [eval1_err hk hres]
            refine ⟨F1, S1, hr, hle, hw.imp fun hh => nodeA_close (kc := kc) (hkp.mono hle) rfl ?_⟩
            exact under (bring3 hh) fun _ h => star_mono (fun _ h => kids1_mk h) (fun _ h => h) h
      | [e1, e2], [n1, n2], hks, hkl2, hb, he, hmay, shorts, hex =>
        simp only [StasOk] at hks
        have he1 : e1.size ≤ N := by simp only [sizes] at he; omega
        have he2 : e2.size ≤ N := by simp only [sizes] at he; omega
        obtain ⟨g1, g2, hgl⟩ : ∃ g1 g2, gl = [g1, g2] := by
          obtain ⟨_, _, _, _, _, _, h2⟩ := hb
          obtain ⟨_, _, _, _, _, h3, _⟩ := h2
          obtain ⟨g1, g2, hg, _⟩ := kids2 h3
          exact ⟨g1, g2, hg⟩
        subst hgl
        obtain ⟨kx, hkx, hkh⟩ := hkp 0 g1 rfl
        obtain ⟨ky, hky, hkh2⟩ := hkp 1 g2 rfl
        refine ⟨kx, hkx, by omega, by simp, WLoad.p (n := some ⟨g1, 0, none⟩) (h.wd.le.has hkh) ?_⟩
        have hw1 : Wd a ((sepc (nodeA e1 n1 g1) (sepc (storeA gs σ) (sepc (nodeA e2 n2 g2) (sepc (nodB (.mk k nm m y z [e1, e2]) kp [n1, n2].length kc o s t prev g) R))))) F H S := by
          refine ⟨h.wd, h.tr, ?_⟩
          have q1 := star_mono (B' := (sepc (kidsA [e1, e2] [n1, n2] [g1, g2]) (sepc (storeA gs σ) R))) (fun _ h => h) (fun _ h => h) hb
          have q2 := star_left q1
          have q3 : ((sepc (nodeA e1 n1 g1) (sepc (nodeA e2 n2 g2) (sepc (nodB (.mk k nm m y z [e1, e2]) kp [n1, n2].length kc o s t prev g) (sepc (storeA gs σ) R))))) F H S :=
            star_assoc (star_mono (fun _ h => let ⟨g1', g2', hg, hh⟩ := kids2 h; (by cases hg; exact hh)) (fun _ h => h) q2)
          exact star_mono (fun _ h => h) (fun _ h => star_left (star_mono (fun _ h => h) (fun _ h => star_left h) h)) q3
        refine WCall.of (ih e1 he1 (Good.star Good.node (Good.star Good.nodB gr)) hw1 (hmay e1 (by simp)) (shorts e1 (by simp)) hks.1) ?_ ?_
        · rintro v H1 ⟨F1, S1, hr, hle, hw⟩
          have hsm := eval_small ok (x := x) e1 n1 (hmay e1 (by simp))
          cases hres : (Sta.eval σ x e1 n1).1 with
          | error c => rw [hres] at hr; cases hr
          | ok u =>
            rw [hres] at hr
            obtain ⟨cs, hv, hu⟩ := hr
            cases hv
            have hu0 := hu
            obtain ⟨pu, cu, rfl, hpu⟩ := hu
            have hw1' : Wd a ((sepc (nodeA e2 n2 g2) (sepc (storeA gs σ) (sepc (nodB (.mk k nm m y z [e1, e2]) kp [n1, n2].length kc o s t prev g) (sepc (nodeA e1 (Sta.eval σ x e1 n1).2 g1) R))))) F1 H1 S1 := by
              exact hw.imp fun hh => under (bring3 hh) fun _ h => under (star_left h) fun _ h => star_left h
            have hb1 : ((sepc (nodB (.mk k nm m y z [e1, e2]) kp [n1, n2].length kc o s t prev g) (sepc (nodeA e2 n2 g2) (sepc (storeA gs σ) (sepc (nodeA e1 (Sta.eval σ x e1 n1).2 g1) R))))) F1 H1 S1 :=
              star_left (star_mono (fun _ h => h) (fun _ h => star_left h) hw1'.it)
            obtain ⟨_, _, _, _, _, _, _, _, hkids1, _, _, _, _, _⟩ := nodB_has hb1
            refine WOpen.va (WNonNil.some (WLoad.sl (p := kp) (n := [n1, n2].length) (c := kc) (by rw [addN]; exact hkids1) (WIf.f rfl (WNonNil.some (WLoad.sl (p := kp) (n := [n1, n2].length) (c := kc) (by rw [addN]; exact hkids1) ?_)))))
            refine ⟨kx, hkx, by omega, by simp, WLoad.p (n := some ⟨g2, 0, none⟩) (hw.wd.le.has (hle.has (by rw [hkx] at hky; cases hky; exact hkh2))) ?_⟩
            refine WCall.of (ih e2 he2 (Good.star Good.nodB (Good.star Good.node gr)) hw1' (hmay e2 (by simp)) (shorts e2 (by simp)) hks.2.1) ?_ ?_
            · rintro v' H2 ⟨F2, S2, hr2, hle2, hw2⟩
              have hsm2 := eval_small ok (x := x) e2 n2 (hmay e2 (by simp))
              cases hres2 : (Sta.eval σ x e2 n2).1 with
              | error c => rw [hres2] at hr2; cases hr2
              | ok u2 =>
                rw [hres2] at hr2
                rw [eval2_ok hk hres hres2]
                obtain ⟨cs2, hv2, hu2⟩ := hr2
                cases hv2
                have hu20 := hu2
                obtain ⟨pu2, cu2, rfl, hpu2⟩ := hu2
                have hb2 : ((sepc (nodB (.mk k nm m y z [e1, e2]) kp [n1, n2].length kc o s t prev g) (sepc ((sepc (nodeA e1 (Sta.eval σ x e1 n1).2 g1) (nodeA e2 (Sta.eval σ x e2 n2).2 g2))) (sepc (storeA gs σ) R)))) F2 H2 S2 := by
                  exact under (bring3 hw2.it) fun _ h => star_assoc' (under (bring3 h) fun _ h => h)
                refine WOpen.va (WCall.of (pair103 (gs := gs) (x := x) (Good.star (Good.star Good.node Good.node) grS) ⟨hw2.wd, hw2.tr, hb2⟩ (hu0.mono hle2) hu20 (by have := hsm u hres; unfold Small at this; omega) (by have := hsm2 u2 hres2; unfold Small at this; omega)
                  (fun h24 => let ⟨w, hw'⟩ := c2 h24; ⟨w, hw', by have := w2 w hw'; omega⟩) ?_) ?_ ?_)
                · exact kids2_kind (by rw [hkl2]; rfl)
                · rintro v' H3 ⟨F3, S3, hr3, hle3, hw3⟩
                  cases hres3 : (pairV x k u u2 s).1 with
                  | error c => rw [hres3] at hr3; cases hr3
                  | ok u3 =>
                    rw [hres3] at hr3
                    obtain ⟨cs3, hv3, hu3⟩ := hr3
                    cases hv3
                    have hu3x := hu3
                    obtain ⟨px, cx, rfl, hpx⟩ := hu3x
                    refine WOpen.va ?_
                    exact ⟨F3, S3, ⟨_, rfl, hu3⟩, (hle.trans hle2).trans hle3, hw3.imp fun hh => nodeA_close (kc := kc) (hkp.mono ((hle.trans hle2).trans hle3)) rfl (star_mono (fun _ h => h) (fun _ h => star_mono (fun _ h => kids2_mk h) (fun _ h => h) h) hh)⟩
                · rintro e' H3 ⟨F3, S3, hr3, hle3, hw3⟩ hne
                  exact ⟨F3, S3, hr3, (hle.trans hle2).trans hle3, hw3.imp fun hh => nodeA_close (kc := kc) (hkp.mono ((hle.trans hle2).trans hle3)) rfl (star_mono (fun _ h => h) (fun _ h => star_mono (fun _ h => kids2_mk h) (fun _ h => h) h) hh)⟩
            · rintro e' H2 ⟨F2, S2, hr2, hle2, hw2⟩ hne
              cases hres2 : (Sta.eval σ x e2 n2).1 with
              | ok u => rw [hres2] at hr2; obtain ⟨cs, hv, _⟩ := hr2; exact absurd hv (hne _)
              | error c =>
                rw [hres2] at hr2
                rw [eval2_err2 hk hres hres2]
                refine ⟨F2, S2, hr2, hle.trans hle2, hw2.imp fun hh => nodeA_close (kc := kc) (hkp.mono (hle.trans hle2)) rfl ?_⟩
                exact under (bring3 hh) fun _ h => star_mono (fun _ h => kids2_mk h) (fun _ h => h) (star_assoc' (bring3 h))
        · rintro e' H1 ⟨F1, S1, hr, hle, hw⟩ hne
          cases hres : (Sta.eval σ x e1 n1).1 with
          | ok u => rw [hres] at hr; obtain ⟨cs, hv, _⟩ := hr; exact absurd hv (hne _)
          | error c =>
            rw [hres] at hr
            rw [eval2_err1 hk hres]
            refine ⟨F1, S1, hr, hle, hw.imp fun hh => nodeA_close (kc := kc) (hkp.mono hle) rfl ?_⟩
            exact under (bring4 hh) fun _ h => star_mono (fun _ h => kids2_mk h) (fun _ h => h) (star_assoc' (under h fun _ h => star_left h))
      | [], ks, _, hl, _, _, _, _, _ => exact absurd hl (by simp; omega)
      | [e1], [], hks, _, _, _, _, _, _ => simp only [StasOk, and_false] at hks
      | [e1], n1 :: n2 :: ns, hks, _, _, _, _, _, _ => simp only [StasOk, and_false] at hks
      | [e1, e2], [], hks, _, _, _, _, _, _ => simp only [StasOk, and_false] at hks
      | [e1, e2], [n1], hks, _, _, _, _, _, _ => simp only [StasOk, and_false] at hks
      | [e1, e2], n1 :: n2 :: n3 :: ns, hks, _, _, _, _, _, _ => simp only [StasOk, and_false] at hks
      | e1 :: e2 :: e3 :: es, ks, _, hl, _, _, _, _, _ => exact absurd hl (by simp only [List.length_cons]; omega)
end
end Go.Proofs.YtmidcnfnmnhifaaGreat
