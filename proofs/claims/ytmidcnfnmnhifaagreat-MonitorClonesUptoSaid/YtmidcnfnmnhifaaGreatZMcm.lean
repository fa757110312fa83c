/-
  MonitorClones' contract.
-/
import Derived.Test.YtmidcnfnmnhifaaGreatZMcl
namespace Go.Proofs.YtmidcnfnmnhifaaGreat
set_option linter.unusedSectionVars false
set_option linter.unusedSimpArgs false
set_option linter.unusedVariables false
open Go Go.Den
set_option linter.unusedVariables false

theorem clones5 {H : HP} {e : Ex} {k n x y : Int} {s : ByteArray} {p : Option Addr} {kl c : Nat} {pd p2 p3 p4 : Option Addr} {cd c2 c3 c4 : Nat} {l : List (ByteArray × Int)} {l2 l3 l4 : List St}
    (hat : e.At H (exCells k s n x y p kl c)) (hN : e.size < 1000000000000) (hsh : e.Short) (hd : DeclsAt H pd l) (hdl : l.length < 1000000000) (hdn : ∀ d ∈ l, d.1.size ≤ maxLen)
    (h2 : StepsAt H p2 l2) (h3 : StepsAt H p3 l3) (h4 : StepsAt H p4 l4) (f2 : ∀ x ∈ l2, x.Fits) (f3 : ∀ x ∈ l3, x.Fits) (f4 : ∀ x ∈ l4, x.Fits) (b2 : l2.length ≤ c2) (b3 : l3.length ≤ c3) (b4 : l4.length ≤ c4) :
    Pure Tryz.prog 5 #[.agg #[.int .i64 k, .string s, .int .i64 n, .int .i64 x, .int .i64 y, .slice p kl c], .slice pd l.length cd, .slice p2 l2.length c2, .slice p3 l3.length c3, .slice p4 l4.length c4] H (.bool true) := by
  refine Pure.of (spec5 (WCall.pure alive21 (WOpen.b (WIf.f rfl ?_))))
  have start : Wd ⟨H, H, []⟩ emp' H H [] := Wd.start ⟨HP.le.refl H, fun _ h => by simp at h, fun _ h => by simp at h⟩ trivial
  refine newO Good.emp start hat hN hsh fun qa F1 H1 S1 hle1 hw1 => WOpen.p ?_
  refine newO (Good.star Good.mq Good.emp) hw1 (hat.mono hle1) hN hsh fun qb F2 H2 S2 hle2 hw2 => WOpen.p ?_
  refine WCall.of (new23 cd (Good.star Good.mq (Good.star Good.mq Good.emp)) hw2 ((hd.mono hle1).mono hle2) hdn hdl) ?_ (by rintro e H' ⟨g, S', hv, _⟩ hne; exact absurd hv (hne _))
  rintro v Hs ⟨gs, Ss, hv, hws⟩
  cases hv
  refine WOpen.p (WCall.pure (few26 (k := 15) b2) (WOpen.sl (WCall.pure (few26 (k := 15) b3) (WOpen.sl (WCall.pure (few26 (k := 15) b4) (WOpen.sl ?_))))))
  have hσ : (Sto.new l).Ok := Sto.new_ok hdn
  generalize Sto.new l = σ at hws hσ
  have gS : ∀ {R : Asr}, Den.Good R → Den.Good ((sepc (storeA gs σ) R)) := fun h => Good.star Good.store h
  have m2 : min l2.length 15 ≤ l2.length := Nat.min_le_left _ _
  have m3 : min l3.length 15 ≤ l3.length := Nat.min_le_left _ _
  have m4 : min l4.length 15 ≤ l4.length := Nat.min_le_left _ _
  have t2 : min l2.length 15 ≤ 15 := Nat.min_le_right _ _
  have t3 : min l3.length 15 ≤ 15 := Nat.min_le_right _ _
  have t4 : min l4.length 15 ≤ 15 := Nat.min_le_right _ _
  refine WLoop.run (min l2.length 15) (fun x => x.1.1.toNat) (fun i x H' => x = (((i : Int), ()), ()) ∧ ∃ F' S' st, okQ i e st ∧ Wd ⟨H, H, []⟩ ((sepc (mq e qa st) (sepc (storeA gs σ) (sepc (mq e qb st) emp')))) F' H' S') 0
    ⟨rfl, F2, Ss, newQ e, newQ_ok e, hws.imp fun hh => bring3 (under hh fun _ h => h) |> fun h => under h fun _ h => h⟩ (Nat.zero_le _) (by rintro i x H ⟨rfl, _⟩; simp) ?_
  rintro i x' H3 again - hi ⟨rfl, F3, S3, st, hok, hw⟩ hag
  by_cases hlt : i < min l2.length 15
  · refine WIf.t (by simp; omega) ?_
    refine readMo h2 (hw.tr.le.trans hw.wd.le) (by omega) hlt ?_
    refine stepO (x := (l2[i]'(by omega)).mo) (Good.star Good.mq Good.emp) hw hσ (St.mo_ok (f2 _ (List.getElem_mem _))) (M := i) (by omega) hsh hok fun v F4 H4 S4 hv hle4 hw4 => ?_
    obtain ⟨pa, ca, rfl, hpa⟩ := hv
    refine WOpen.vai (readMo h2 (hw4.tr.le.trans hw4.wd.le) (by omega) hlt ?_)
    have hw4' : Wd ⟨H, H, []⟩ ((sepc (mq e qb st) (sepc (storeA gs σ) (sepc (mq e qa (stepQ σ (l2[i]'(by omega)).mo e st).2) emp')))) F4 H4 S4 := hw4.imp fun hh => under (bring3 hh) fun _ h => star_left h
    refine stepO (x := (l2[i]'(by omega)).mo) (Good.star Good.mq Good.emp) hw4' hσ (St.mo_ok (f2 _ (List.getElem_mem _))) (M := i) (by omega) hsh hok fun v F5 H5 S5 hv hle5 hw5 => ?_
    obtain ⟨pb, cb, rfl, hpb⟩ := hv
    refine WOpen.vai (WIf.f (by simp) (WIf.intro (fun _ => ⟨rfl, hw5.tr.le.trans hw5.wd.le⟩) fun _ => ?_))
    simp only [wrapS (show i < 1000000000000 by omega)]
    exact hag _ _ hlt ⟨rfl, F5, S5, (stepQ σ (l2[i]'(by omega)).mo e st).2, stepQ_ok hok, hw5.imp fun hh => under (bring3 hh) fun _ h => star_left h⟩
  · refine WIf.f (by simp; omega) ?_
    have hok : okQ 15 e st := fun s hs => ⟨(Sta.Ok.mono (show i ≤ 15 by omega) _).1 _ (Nat.le_refl _) _ (hok s hs).1, (hok s hs).2⟩
    refine cloneO (by decide) (gS (Good.star Good.mq Good.emp)) hw hN hok fun qc F4 H4 S4 hle4 hw4 => WOpen.p ?_
    refine WLoop.run (min l3.length 15) (fun x => x.1.1.toNat) (fun j x H' => x = (((j : Int), ()), ()) ∧ ∃ F' S' sta, okQ (15 + j) e sta ∧ Wd ⟨H, H, []⟩ ((sepc (mq e qa sta) (sepc (storeA gs σ) (sepc (mq e qc st) (sepc (mq e qb st) emp'))))) F' H' S') 0
      ⟨rfl, F4, S4, st, hok, hw4.imp fun hh => under (star_left hh) fun _ h => star_left h⟩ (Nat.zero_le _) (by rintro i x H ⟨rfl, _⟩; simp) ?_
    rintro j x' H5 again2 - hj ⟨rfl, F5, S5, sta, hoka, hw5⟩ hag2
    by_cases hlt2 : j < min l3.length 15
    · refine WIf.t (by simp; omega) ?_
      refine readMo h3 (hw5.tr.le.trans hw5.wd.le) (by omega) hlt2 ?_
      refine stepO (x := (l3[j]'(by omega)).mo) (Good.star Good.mq (Good.star Good.mq Good.emp)) hw5 hσ (St.mo_ok (f3 _ (List.getElem_mem _))) (M := 15 + j) (by omega) hsh hoka fun v F6 H6 S6 hv hle6 hw6 => ?_
      obtain ⟨pa, ca, rfl, hpa⟩ := hv
      refine WOpen.vai ?_
      simp only [wrapS (show j < 1000000000000 by omega)]
      exact hag2 _ _ hlt2 ⟨rfl, F6, S6, _, stepQ_ok hoka, hw6⟩
    · refine WIf.f (by simp; omega) ?_
      refine WLoop.run (min l4.length 15) (fun x => x.1.1.toNat) (fun m x H' => x = (((m : Int), ()), ()) ∧ ∃ F' S' st, okQ (15 + m) e st ∧ Wd ⟨H, H, []⟩ ((sepc (mq e qc st) (sepc (storeA gs σ) (sepc (mq e qb st) (sepc (mq e qa sta) emp'))))) F' H' S') 0
        ⟨rfl, F5, S5, st, hok, hw5.imp fun hh => under (bring3 hh) fun _ h => under (star_left h) fun _ h => star_left h⟩ (Nat.zero_le _) (by rintro i x H ⟨rfl, _⟩; simp) ?_
      rintro m x' H6 again3 - hm ⟨rfl, F6, S6, st3, hok3, hw6⟩ hag3
      by_cases hlt3 : m < min l4.length 15
      · refine WIf.t (by simp; omega) ?_
        refine readMo h4 (hw6.tr.le.trans hw6.wd.le) (by omega) hlt3 ?_
        have gX : Den.Good ((sepc (mq e qa sta) emp')) := Good.star Good.mq Good.emp
        refine stepO (x := (l4[m]'(by omega)).mo) (Good.star Good.mq gX) hw6 hσ (St.mo_ok (f4 _ (List.getElem_mem _))) (M := 15 + m) (by omega) hsh hok3 fun v F7 H7 S7 hv hle7 hw7 => ?_
        obtain ⟨pc, cc, rfl, hpc⟩ := hv
        refine WOpen.vai (readMo h4 (hw7.tr.le.trans hw7.wd.le) (by omega) hlt3 ?_)
        have hw7' : Wd ⟨H, H, []⟩ ((sepc (mq e qb st3) (sepc (storeA gs σ) (sepc (mq e qc (stepQ σ (l4[m]'(by omega)).mo e st3).2) (sepc (mq e qa sta) emp'))))) F7 H7 S7 := hw7.imp fun hh => under (bring3 hh) fun _ h => star_left h
        refine stepO (x := (l4[m]'(by omega)).mo) (Good.star Good.mq gX) hw7' hσ (St.mo_ok (f4 _ (List.getElem_mem _))) (M := 15 + m) (by omega) hsh hok3 fun v F8 H8 S8 hv hle8 hw8 => ?_
        obtain ⟨pb, cb, rfl, hpb⟩ := hv
        have fin : H.le H8 := hw8.tr.le.trans hw8.wd.le
        refine WOpen.vai (WIf.f (by simp) (WCall.pure (value34 ((hpc.mono hle8).mono hw8.wd.le) (hpb.mono hw8.wd.le) (stepQ_small hσ hok3)) (WOpen.b (WIf.f rfl ?_))))
        have next : again3 ((((m + 1 : Nat) : Int), ()), ()) H8 := hag3 _ _ hlt3 ⟨rfl, F8, S8, (stepQ σ (l4[m]'(by omega)).mo e st3).2, stepQ_ok hok3, hw8.imp fun hh => under (bring3 hh) fun _ h => star_left h⟩
        refine WIf.intro (fun h0 => ?_) fun h0 => ?_
        · refine WCall.pure (cellsO (R := (sepc (mq e qb (stepQ σ (l4[m]'(by omega)).mo e st3).2) (sepc (storeA gs σ) (sepc (mq e qa sta) emp')))) hw8.wd.le (bring3 hw8.it) hN) (WOpen.i (WCall.pure (cellsO hw8.wd.le hw8.it hN) (WOpen.i (WIf.f (by simp) (WIf.f (by simpa using h0) ?_)))))
          simp only [wrapS (show m < 1000000000000 by omega)]
          exact next
        · exact WIf.t (by simpa using h0) ⟨rfl, fin⟩
      · exact WIf.f (by simp; omega) ⟨rfl, hw6.tr.le.trans hw6.wd.le⟩
end Go.Proofs.YtmidcnfnmnhifaaGreat
