/-
  Package update: what the laws' own update wants; UpdateNobody's contract.
-/
import Derived.Test.YtmidcnfnmnhifaaGreatZStx
import Derived.Test.YtmidcnfnmnhifaaGreatZMni
import Derived.Test.YtmidcnfnmnhifaaGreatZWza
import Derived.Test.YtmidcnfnmnhifaaGreatZWzb
import Derived.Test.YtmidcnfnmnhifaaGreatZWzc
namespace Go.Proofs.YtmidcnfnmnhifaaGreat
set_option linter.unusedSectionVars false
set_option linter.unusedSimpArgs false
set_option linter.unusedVariables false
open Go Go.Den
set_option linter.unusedVariables false

def nN : ByteArray := ⟨#[110]⟩
def nX : ByteArray := ⟨#[120]⟩
/-- the laws' own update: the subject's n is 4 -/
def upC : List Value := [.int .i64 5, .string nN, .int .i64 1, .string nos, .int .i64 4, .int .i64 0, .int .i64 0, .slice none 0 0]
def exL : Ex := .mk 1 nos 4 0 0 []
theorem exL_check : exL.check = 0 := by kernel_rfl
theorem exL_may : exL.may = true := by kernel_rfl
theorem exL_short : exL.Short := by simp [exL, Ex.Short, Shorts]; decide
theorem exL_at {H : HP} : exL.At H (exCells 1 nos 4 0 0 none 0 0) := by
  simp only [exL, Ex.At, ExsAt]
  exact ⟨none, 0, rfl, trivial⟩

section
variable {a : Base} {R : Asr} {F H : HP} {S : List Nat}

theorem one116 : Den.Spec Tryz.prog 116 #[] H fun e H' => ∃ v, e = .returned v ∧ (∃ z, v = .slice (some ⟨z, 0, none⟩) 1 1 ∧ H'.has ⟨z, 0, none⟩ upC) ∧ H.le H' :=
  spec116 fun z hz => ⟨_, rfl, ⟨z, rfl, has_cells (l := upC) (e := 101) (fz := (0, 0)) (by show HP.set _ _ _ _ = _; unfold HP.set; rw [if_pos rfl]; rfl) rfl⟩, HP.le_set hz⟩

theorem past194 : Pure Tryz.prog 194 #[.agg ⟨exCells 1 nos 4 0 0 none 0 0⟩] H (.bool false) := by
  refine Pure.of (spec194 (WIf.f rfl (WIf.f rfl (WIf.f rfl (WIf.f rfl (WIf.f rfl (WCall.pure (inner 1 4 0 0 nos none 0 0) ?_)))))))
  refine WOpen.sl ?_
  have h := exsContains (H := H) (es := []) (q := none) (by simp [ExsAt]) (by decide) (φ := fun _ => false) (g := 194) (cap := []) 0 (fun e he => by simp at he)
  exact WCall.pure h (WOpen.b ⟨rfl, HP.le.refl H⟩)

theorem name196 {z : Nat} {s : ByteArray} {k : Int} (hz : H.has ⟨z, 1, none⟩ [.string nN]) : Pure Tryz.prog 196 #[.agg #[.string s, .int .i64 k], .pointer (some ⟨z, 0, none⟩)] H (.bool (decide (s = nN))) := by
  refine Pure.of (spec196 (p0 := ⟨z, 0, none⟩) (WLoad.s1 (by rw [addN]; exact hz) ?_))
  exact ⟨by rw [toList_inj], HP.le.refl H⟩
theorem index195n {z : Nat} {c : Nat} : Pure Tryz.prog 195 #[.slice none 0 c, .func (.func 196) #[] #[.pointer (some ⟨z, 0, none⟩)]] H (.int .i64 (-1)) := by
  refine Pure.of (spec195 (a1g := 196) (a1c := [.pointer (some ⟨z, 0, none⟩)]) ?_)
  refine WLoop.up 0 0 (fun _ => True) trivial (Nat.le_refl _) ?_
  intro i again _ hi _ _
  have : i = 0 := by omega
  subst this
  exact WIf.f rfl ⟨rfl, HP.le.refl H⟩
theorem index195 {z d : Nat} {c : Nat} (hd : H.has ⟨d, 0, none⟩ [.string nN, .int .i64 1]) (hz : H.has ⟨z, 1, none⟩ [.string nN]) : Pure Tryz.prog 195 #[.slice (some ⟨d, 0, none⟩) 1 c, .func (.func 196) #[] #[.pointer (some ⟨z, 0, none⟩)]] H (.int .i64 0) := by
  refine Pure.of (spec195 (a1g := 196) (a1c := [.pointer (some ⟨z, 0, none⟩)]) ?_)
  refine WLoop.up 1 0 (fun i => i = 0) rfl (by decide) ?_
  intro i again _ hi h0 _
  subst h0
  exact WIf.t rfl (WIndex.at (by decide) (WLoad.si hd (WCall.pure (name196 hz) (WOpen.b (WIf.t (by simp) ⟨rfl, HP.le.refl H⟩)))))

theorem of48 {p : Option Addr} {n c : Nat} : Pure Tryz.prog 48 #[.slice p n c, .agg ⟨exCells 1 nos 4 0 0 none 0 0⟩] H (.tuple #[.int .i64 1, .int .i64 0]) := by
  have hchk := check_spec (H := H) exL (by decide) exL_short _ exL_at
  rw [exL_check] at hchk
  have leaf : Pure Tryz.prog 185 #[.slice p n c, .agg ⟨exCells 1 nos 4 0 0 none 0 0⟩] H (.tuple #[.int .i64 1, .int .i64 0]) :=
    Pure.of (spec185 (WIf.f rfl (WIf.f rfl (WIf.f rfl (WIf.f rfl (WIf.f rfl ⟨rfl, HP.le.refl H⟩))))))
  have kind : Pure Tryz.prog 109 #[.slice p n c, .agg ⟨exCells 1 nos 4 0 0 none 0 0⟩] H (.tuple #[.int .i64 1, .int .i64 0]) :=
    Pure.of (spec109 (WCall.pure (kids_spec 1) (WOpen.i (WIf.t (by decide) (WCall.pure leaf (WOpen.ii ⟨rfl, HP.le.refl H⟩))))))
  exact Pure.of (spec48 (WCall.pure hchk (WOpen.i (WIf.f rfl (WCall.pure kind (WOpen.ii ⟨rfl, HP.le.refl H⟩))))))

theorem one117n {c : Nat} : Pure Tryz.prog 117 #[.slice none 0 c, .agg ⟨upC⟩] H (.int .i64 14) := by
  refine Pure.of (spec117 fun z hz => ?_)
  let H1 := H.set z (.cells ⟨upC⟩ 101 (0, 0))
  have hz1 : H1.has ⟨z, 0, none⟩ upC := has_cells (l := upC) (by show HP.set _ _ _ _ = _; unfold HP.set; rw [if_pos rfl]) rfl
  have at' : ∀ (off : Nat) (vs : List Value), (upC.drop off).take vs.length = vs → H1.has ⟨z, off, none⟩ vs := fun off vs h => has_cells (l := upC) (by show HP.set _ _ _ _ = _; unfold HP.set; rw [if_pos rfl]) h
  refine WLoad.i (n := 5) (by rw [addN]; exact at' 0 _ rfl) (WIf.f rfl ?_)
  refine WLoad.ex (by rw [addN]; exact at' 2 (exCells 1 nos 4 0 0 none 0 0) rfl) ?_
  refine WCall.pure past194 (WOpen.b (WIf.f rfl (WCall.pure index195n (WOpen.i (WIf.t rfl ⟨rfl, HP.le_set hz⟩)))))
theorem one117 {d c : Nat} (hd : H.has ⟨d, 0, none⟩ [.string nN, .int .i64 1]) : Pure Tryz.prog 117 #[.slice (some ⟨d, 0, none⟩) 1 c, .agg ⟨upC⟩] H (.int .i64 0) := by
  refine Pure.of (spec117 fun z hz => ?_)
  let H1 := H.set z (.cells ⟨upC⟩ 101 (0, 0))
  have hd1 : H1.has ⟨d, 0, none⟩ [.string nN, .int .i64 1] := (HP.le_set hz).has hd
  have at' : ∀ (off : Nat) (vs : List Value), (upC.drop off).take vs.length = vs → H1.has ⟨z, off, none⟩ vs := fun off vs h => has_cells (l := upC) (by show HP.set _ _ _ _ = _; unfold HP.set; rw [if_pos rfl]) h
  refine WLoad.i (n := 5) (by rw [addN]; exact at' 0 _ rfl) (WIf.f rfl ?_)
  refine WLoad.ex (by rw [addN]; exact at' 2 (exCells 1 nos 4 0 0 none 0 0) rfl) ?_
  refine WCall.pure past194 (WOpen.b (WIf.f rfl (WCall.pure (index195 hd1 (at' 1 [.string nN] rfl)) (WOpen.i (WIf.f rfl ?_)))))
  refine WLoad.ex (by rw [addN]; exact at' 2 (exCells 1 nos 4 0 0 none 0 0) rfl) ?_
  refine WCall.pure of48 (WOpen.ii (WIf.t rfl (WIndex.at (i := 0) (by decide) (WLoad.i (n := 1) (by rw [addN, addN]; exact hasOne hd1 (j := 1) rfl) (WIf.f rfl ⟨rfl, HP.le_set hz⟩)))))

theorem WLoad.up {x : Addr} {body : Int → ByteArray → Int → ByteArray → Int → Int → Int → Option Addr → Nat → Nat → W} (h : H.has x upC) (hk : body 5 nN 1 nos 4 0 0 none 0 0 H) : WLoad x (.agg [(.i .i64), .s, (.i .i64), .s, (.i .i64), (.i .i64), (.i .i64), .sl]) body H := ⟨((5 : Int), nN, (1 : Int), nos, (4 : Int), (0 : Int), (0 : Int), (none, 0, 0), ()), h, hk⟩

theorem check52 {p : Option Addr} {n c q : Nat} {r : Int} (hq : H.has ⟨q, 0, none⟩ upC) (h : Pure Tryz.prog 117 #[.slice p n c, .agg ⟨upC⟩] H (.int .i64 r)) : Pure Tryz.prog 52 #[.slice p n c, .slice (some ⟨q, 0, none⟩) 1 1] H (.int .i64 r) := by
  refine Pure.of (spec52 (WIf.f rfl ?_))
  refine WLoop.up 1 0 (fun i => i = 0 ∨ r = 0) (.inl rfl) (by decide) ?_
  intro i again _ hi h0 hag
  by_cases hlt : i < 1
  · have : i = 0 := by omega
    subst this
    refine WIf.t rfl (WIndex.at (by decide) (WLoad.up hq (WCall.pure h (WOpen.i ?_))))
    by_cases hr : r = 0
    · refine WIf.f (by simp [hr]) ?_
      simp only [wrapS (show 0 < 1000000000000 by decide)]
      exact hag (by decide) (.inr hr)
    · exact WIf.t (by simp [hr]) ⟨rfl, HP.le.refl H⟩
  · have hi1 : i = 1 := by omega
    subst hi1
    have hr : r = 0 := h0.elim (fun h => by omega) id
    exact WIf.f rfl ⟨by rw [hr], HP.le.refl H⟩

theorem entity120 {x : Mo} {k : Int} (hk : k = 5) : Pure Tryz.prog 120 #[.int .i64 k, moV x] H (.string x.subj) := Pure.of (spec120 (WIf.t (by simp [hk]) ⟨rfl, HP.le.refl H⟩))
theorem contains121n {c : Nat} {s t : ByteArray} : Pure Tryz.prog 121 #[.slice none 0 c, .agg #[.string s, .string t]] H (.bool false) := by
  have h : Pure Tryz.prog 198 #[.slice none 0 c, .agg #[.string s, .string t]] H (.int .i64 (-1)) := by
    refine Pure.of (spec198 ?_)
    refine WLoop.up 0 0 (fun _ => True) trivial (Nat.le_refl _) ?_
    intro i again _ hi _ _
    have : i = 0 := by omega
    subst this
    exact WIf.f rfl ⟨rfl, HP.le.refl H⟩
  exact Pure.of (spec121 (WCall.pure h (WOpen.i ⟨rfl, HP.le.refl H⟩)))
theorem slicePair : SliceTy Tryz.prog 98 102 2 32 := ⟨by kernel_rfl, by kernel_rfl⟩
theorem touched55 {q : Nat} {x : Mo} (hq : H.has ⟨q, 0, none⟩ upC) : Den.Spec Tryz.prog 55 #[.slice (some ⟨q, 0, none⟩) 1 1, moV x] H fun e H' => ∃ v, e = .returned v ∧ (∃ p c, v = .slice p 1 c) ∧ H.le H' := by
  have start : Wd ⟨H, H, []⟩ emp' H H [] := Wd.start ⟨HP.le.refl H, fun _ h => by simp at h, fun _ h => by simp at h⟩ trivial
  refine spec55 ?_
  refine WLoop.run 1 (fun x => x.1.2.1.toNat) (fun i x H' => H.le H' ∧ ∃ p c, x = (((p, (i, c)), ((i : Int), ())), ()) ∧ (i = 0 → H' = H ∧ p = none ∧ c = 0)) 0 ⟨HP.le.refl H, none, 0, rfl, fun _ => ⟨rfl, rfl, rfl⟩⟩ (by decide) (by rintro i x H ⟨_, p, c, rfl, _⟩; simp) ?_
  rintro i x' H1 again - hi ⟨hle, p, c, rfl, h0⟩ hag
  by_cases hlt : i < 1
  · have : i = 0 := by omega
    subst this
    obtain ⟨rfl, rfl, rfl⟩ := h0 rfl
    refine WIf.t rfl (WIndex.at (by decide) (WLoad.up hq (WCall.pure (entity120 (x := x) rfl) (WOpen.s (WCall.pure contains121n (WOpen.b (WIf.t rfl ?_)))))))
    refine WNew.blk Good.emp start fun z H2 hz hle2 h2 => ?_
    refine SliceTy.push slicePair (by decide) (Good.star Good.blk Good.emp) (h2.imp fun hh => ⟨[], _, fun _ h => by simp at h, fun _ h => h, fun _ h => by simp at h, ownS_nil, hh⟩) (m := 1) (news := [.string x.subj, .string nN]) rfl (blk_has h2.it rfl) (by simp [Value.oneCell']) (by simp only [maxLen]; omega) (by omega) ?_
    intro p4 cap H4 S4 hw4 _
    refine WOpen.sl ?_
    simp only [wrapS (show 0 < 1000000000000 by decide)]
    exact hag _ _ (by decide) ⟨hw4.tr.le.trans hw4.wd.le, p4, cap, rfl, fun h => absurd h (by decide)⟩
  · have hi1 : i = 1 := by omega
    subst hi1
    exact WIf.f rfl ⟨_, rfl, ⟨p, c, rfl⟩, hle⟩

/-- to a store that nobody made nothing is applied -/
theorem apply58n {q : Option Addr} {p : Option Addr} {n c : Nat} {x : Mo} (h : Pure Tryz.prog 113 #[.pointer q] H (.bool false)) : Pure Tryz.prog 58 #[.pointer q, .slice p n c, moV x] H (.tuple #[.pointer none, .int .i64 9]) :=
  Pure.of (spec58 (WCall.pure (clone62n h) (WOpen.p (WIf.t rfl ⟨rfl, HP.le.refl H⟩))))

def moU : Mo := ⟨0, nos, nX, nos⟩
def σU : Sto := Sto.new [(nN, 1)]
theorem σU_ok : σU.Ok := Sto.new_ok (fun d h => by simp at h; subst h; decide)
theorem apply58 {g q : Nat} (gr : Good R) (h : Wd a ((sepc (storeA g σU) R)) F H S) (hq : F.has ⟨q, 0, none⟩ upC) :
    Den.Spec Tryz.prog 58 #[.pointer (some ⟨g, 0, none⟩), .slice (some ⟨q, 0, none⟩) 1 1, moV moU] H fun e H' => ∃ z F' S', e = .returned (.tuple #[.pointer (some ⟨z, 0, none⟩), .int .i64 0]) ∧ F.le F' ∧ Wd a ((sepc (storeA z (σU.set nX nN ⟨1, 4, nos, []⟩).2) R)) F' H' S' := by
  refine spec58 (WCall.of (clone62 gr h) ?_ (by rintro e H' ⟨r', S', hv, _⟩ hne; exact absurd hv (hne _)))
  rintro v H1 ⟨z, S1, hv, h1⟩
  cases hv
  have h1 : Wd a ((sepc (storeA z σU) R)) F H1 S1 := h1.imp fun hh => under hh fun _ h => star_snd gr h
  refine WOpen.p (WIf.f rfl ?_)
  refine WLoop.run 1 (fun x => x.1.1.toNat) (fun i x H' => x = (((i : Int), ()), ()) ∧ ∃ F' S', F.le F' ∧ Wd a ((sepc (storeA z (if i = 0 then σU else (σU.set nX nN ⟨1, 4, nos, []⟩).2)) R)) F' H' S') 0 ⟨rfl, F, S1, HP.le.refl F, h1⟩ (by decide) (by rintro i x H ⟨rfl, _⟩; simp) ?_
  rintro i x' H2 again - hi ⟨rfl, F2, S2, hle2, h2⟩ hag
  by_cases hlt : i < 1
  · have : i = 0 := by omega
    subst this
    have h2 : Wd a ((sepc (storeA z σU) R)) F2 H2 S2 := h2
    refine WIf.t rfl (WIndex.at (by decide) (WLoad.up ((hle2.trans h2.wd.le).has hq) ?_))
    refine WCall.of (new22 (e := exL) (Good.star Good.store gr) h2 exL_at (by decide) exL_short exL_check) ?_ (by rintro e H' ⟨g, F', S', hv, _⟩ hne; exact absurd hv (hne _))
    rintro v H3 ⟨gm, F3, S3, hv, hle3, h3⟩
    cases hv
    refine WOpen.p ?_
    have hstep := step27 (x := moU) gr h3 σU_ok ⟨by show nX.size ≤ _; decide, by show nos.size ≤ _; decide⟩ (M := 0) (by decide) exL_may exL_short ((sta_new_ok exL.size).1 exL (Nat.le_refl _))
    have hr : (Sta.eval σU { moU with a := maxI 0 moU.a } exL (Sta.new exL)).1 = .ok ⟨1, 4, nos, []⟩ := by kernel_rfl
    rw [hr] at hstep
    refine WCall.of hstep ?_ (by rintro e H' ⟨F', S', ⟨cs, _, hv⟩, _⟩ hne; exact absurd hv (hne _))
    rintro v H4 ⟨F4, S4, ⟨cs, hcs, hv⟩, hle4, h4⟩
    cases hv
    have hcs' := hcs
    obtain ⟨p', c', rfl, hp'⟩ := hcs
    refine WOpen.vai (WIf.f rfl (WCall.pure (entity120 (x := moU) rfl) (WOpen.s ?_)))
    have h4' : Wd a ((sepc (storeA z σU) R)) F4 H4 S4 := h4.imp fun hh => star_snd (Good.star Good.store gr) hh
    refine WCall.of (set50 (e := nX) (n := nN) gr h4' σU_ok (by decide) (by decide) hcs' (by decide)) ?_ (by rintro e H' ⟨F', S', hv, _⟩ hne; exact absurd hv (hne _))
    rintro v H5 ⟨F5, S5, hv, hle5, h5⟩
    cases hv
    have hset : (σU.set nX nN ⟨1, 4, nos, []⟩).1 = 0 := by kernel_rfl
    refine WOpen.i (WIf.f (by rw [hset]; rfl) ?_)
    simp only [wrapS (show 0 < 1000000000000 by decide)]
    exact hag _ _ (by decide) ⟨rfl, F5, S5, ((hle2.trans hle3).trans hle4).trans hle5, h5⟩
  · have hi1 : i = 1 := by omega
    subst hi1
    exact WIf.f rfl ⟨z, F2, S2, rfl, hle2, h2⟩

theorem WOpen.pi {q : Option Addr} {n : Int} {body : Option Addr → Int → W} (h : body q n H) : WOpen (.tup [(.l .p), (.l (.i .i64))]) body (.tuple #[.pointer q, .int .i64 n]) H := ⟨(q, n, ()), rfl, h⟩

theorem alive51 : Pure Tryz.prog 51 #[] H (.bool true) := by
  refine Pure.of (spec51 fun d hd => ?_)
  let H1 := H.set d (.cells ⟨[.string nN, .int .i64 1]⟩ 144 (0, 0))
  have hH1 : H.le H1 := HP.le_set hd
  have hd1 : H1.has ⟨d, 0, none⟩ [.string nN, .int .i64 1] := has_cells (l := [.string nN, .int .i64 1]) (by show HP.set _ _ _ _ = _; unfold HP.set; rw [if_pos rfl]) rfl
  have start : Wd ⟨H1, H1, []⟩ emp' H1 H1 [] := Wd.start ⟨HP.le.refl H1, fun _ h => by simp at h, fun _ h => by simp at h⟩ trivial
  have hdecl : DeclsAt H1 (some ⟨d, 0, none⟩) [(nN, 1)] := by
    intro i x hi
    cases i with
    | zero => simp at hi; subst hi; exact ⟨_, rfl, hd1⟩
    | succ i => simp at hi
  refine WCall.of (new23 (p := some ⟨d, 0, none⟩) (l := [(nN, 1)]) 1 Good.emp start hdecl (fun d h => by simp at h; subst h; decide) (by decide)) ?_ (by rintro e H' ⟨g, S', hv, _⟩ hne; exact absurd hv (hne _))
  rintro v H2 ⟨gs, S2, hv, h2⟩
  cases hv
  have h2 : Wd ⟨H1, H1, []⟩ ((sepc (storeA gs σU) emp')) H1 H2 S2 := h2
  refine WOpen.p (WCall.grow (Good.star Good.store Good.emp) h2 one116 ?_)
  rintro v F3 H3 ⟨q, rfl, hq⟩ hle3 h3
  refine WOpen.sl (WCall.of (apply58 Good.emp h3 hq) ?_ (by rintro e H' ⟨g, F', S', hv, _⟩ hne; exact absurd hv (hne _)))
  rintro v H4 ⟨z, F4, S4, hv, hle4, h4⟩
  cases hv
  refine WOpen.pi ?_
  have hok4 := Sto.set_ok (e := nX) (n := nN) (v := ⟨1, 4, nos, []⟩) σU_ok (by decide) (by decide)
  refine WCall.of (get59 (e := nX) (n := nN) (Good.star Good.store Good.emp) h4 (store_read h4.it) hok4 (by decide) (by decide)) ?_ (by rintro e H' ⟨v, F', hv, _⟩ hne; exact absurd hv (hne _))
  rintro v H5 ⟨v', F5, hv, hget, hle5, h5⟩
  cases hv
  have hg : ((σU.set nX nN ⟨1, 4, nos, []⟩).2).get nX nN = some ⟨1, 4, nos, []⟩ := by kernel_rfl
  rw [hg] at hget
  obtain ⟨cs, ⟨p5, c5, rfl, _⟩, rfl⟩ := hget
  refine WOpen.vab (WIf.t rfl (WIf.t rfl (WIf.t rfl ?_)))
  have dh : ∀ {F' H'}, F5.le F' → F'.le H' → H'.has ⟨d, 0, none⟩ [.string nN, .int .i64 1] := fun h1 h2 => ((((hle3.trans hle4).trans hle5).trans h1).trans h2).has hd1
  refine WCall.grow (Good.star Good.store Good.emp) h5 one116 ?_
  rintro v F6 H6 ⟨q6, rfl, hq6⟩ hle6 h6
  refine WOpen.sl (WCall.pure (check52 (h6.wd.le.has hq6) (one117 (dh hle6 h6.wd.le))) (WOpen.i (WIf.t rfl ?_)))
  refine WCall.grow (Good.star Good.store Good.emp) h6 one116 ?_
  rintro v F7 H7 ⟨q7, rfl, hq7⟩ hle7 h7
  refine WOpen.sl (WCall.pure (check52 (h7.wd.le.has hq7) one117n) (WOpen.i (WIf.t rfl ?_)))
  refine WCall.grow (Good.star Good.store Good.emp) h7 one116 ?_
  rintro v F8 H8 ⟨q8, rfl, hq8⟩ hle8 h8
  refine WOpen.sl (WCall.grow (Good.star Good.store Good.emp) h8 (touched55 (x := ⟨0, nos, nos, nos⟩) hq8) ?_)
  rintro v F9 H9 ⟨p9, c9, rfl⟩ hle9 h9
  exact WOpen.sl ⟨rfl, hH1.trans (h9.tr.le.trans h9.wd.le)⟩

theorem moment56 {n : Int} {s1 s2 s3 s4 s5 s6 : ByteArray} {n6 n7 : Int} {p : Option Addr} {l c : Nat} :
    Pure Tryz.prog 56 #[.agg #[(.int .i64 n), (.string s1), (.string s2), (.string s3), (.string s4), (.string s5), (.int .i64 n6), (.int .i64 n7), (.string s6), (.slice p l c)]] H (moV ⟨n, s1, s2, s3⟩) := Pure.of (spec56 ⟨rfl, HP.le.refl _⟩)
/-- UpdateNobody's answer -/
theorem updateNobody15 {q : Option Addr} {ln cn : Nat} {n : Int} {s1 s2 s3 s4 s5 s6 : ByteArray} {n6 n7 : Int} {p : Option Addr} {l c : Nat} :
    Pure Tryz.prog 15 #[.slice q ln cn, .agg #[(.int .i64 n), (.string s1), (.string s2), (.string s3), (.string s4), (.string s5), (.int .i64 n6), (.int .i64 n7), (.string s6), (.slice p l c)]] H (.bool true) := by
  refine Pure.of (spec15 (WCall.pure alive51 (WOpen.b (WIf.f rfl (WCall.pure moment56 (WOpen.mo (WCall.pure (apply58n (x := ⟨n, s1, s2, s3⟩) is113n) (WOpen.pi fun z hz => ?_))))))))
  let H1 := H.set z (.cells ⟨[(.map none), (.map none)]⟩ 113 (0, 0))
  have hz1 : H1.has ⟨z, 0, none⟩ [.map none] := has_cells (l := [(.map none), (.map none)]) (by show HP.set _ _ _ _ = _; unfold HP.set; rw [if_pos rfl]) rfl
  exact WCall.pure moment56 (WOpen.mo (WCall.pure (apply58n (x := ⟨n, s1, s2, s3⟩) (is113z hz1)) (WOpen.pi ⟨rfl, HP.le_set hz⟩)))
end
end Go.Proofs.YtmidcnfnmnhifaaGreat
