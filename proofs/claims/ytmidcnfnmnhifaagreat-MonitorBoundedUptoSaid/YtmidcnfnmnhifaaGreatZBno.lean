/-
  MonitorBounded's contract.
-/
import Derived.Test.YtmidcnfnmnhifaaGreatZBnn
namespace Go.Proofs.YtmidcnfnmnhifaaGreat
set_option linter.unusedSectionVars false
set_option linter.unusedSimpArgs false
set_option linter.unusedVariables false
open Go Go.Den
set_option linter.unusedVariables false

def ints (U : List Int) : List Value := U.map fun t => .int .i64 t
theorem sliceInt : SliceTy Tryz.prog 34 2 1 8 := ⟨by kernel_rfl, by kernel_rfl⟩

theorem width_snoc (L long u : Int) (V : List Int) : widthN L long (V ++ [u]) = widthN L long V + (if L - u ≤ long then 1 else 0) := by
  unfold widthN
  rw [List.filter_append, List.length_append]
  congr 1
  by_cases h : L - u ≤ long
  · simp [h]
  · simp [h]
theorem width_le (L long : Int) (V : List Int) : widthN L long V ≤ V.length := List.length_filter_le _ _

theorem most_eq {e : Ex} {w : Nat} (hc : e.count ≤ 64) (hw : w ≤ 40) : e.most w = ((looksN e * (w + 1) : Nat) : Int) := by
  have hl := looksN_count e
  unfold Ex.most
  rw [Ex.looks_eq (by omega)]
  have h1 : (if ((32768 : Int) < (if ((w : Int) < 0) then 0 else (w : Int))) then 32768 else (if ((w : Int) < 0) then 0 else (w : Int))) = (w : Int) := by
    rw [if_neg (by omega : ¬ (w : Int) < 0), if_neg (by omega)]
  rw [h1, wrapS (by omega)]
  have h2 : ((looksN e : Int) * ((w + 1 : Nat) : Int)) = ((looksN e * (w + 1) : Nat) : Int) := by simp
  rw [h2]
  have h3 : looksN e * (w + 1) ≤ 64 * 41 := Nat.mul_le_mul (by omega) (by omega)
  exact IntWalk.i64_in _ ⟨by omega, by omega⟩

theorem bounded3 {H : HP} {e : Ex} {k n x y : Int} {s : ByteArray} {p : Option Addr} {kl c : Nat} {pd p2 : Option Addr} {cd c2 : Nat} {l : List (ByteArray × Int)} {l2 : List St}
    (hat : e.At H (exCells k s n x y p kl c)) (hN : e.size < 1000000000000) (hsh : e.Short) (hin : e.In) (hd : DeclsAt H pd l) (hdl : l.length < 1000000000) (hdn : ∀ d ∈ l, d.1.size ≤ maxLen)
    (h2 : StepsAt H p2 l2) (f2 : ∀ x ∈ l2, x.Fits) (b2 : l2.length ≤ c2) :
    Pure Tryz.prog 3 #[.agg #[.int .i64 k, .string s, .int .i64 n, .int .i64 x, .int .i64 y, .slice p kl c], .slice pd l.length cd, .slice p2 l2.length c2] H (.bool true) := by
  refine Pure.of (spec3 (WCall.pure alive21 (WOpen.b (WIf.f rfl ?_))))
  have start : Wd ⟨H, H, []⟩ emp' H H [] := Wd.start ⟨HP.le.refl H, fun _ h => by simp at h, fun _ h => by simp at h⟩ trivial
  by_cases hc : ¬ e.check = 0
  · refine WCall.pure (new22no hat hN hsh hc) (WOpen.p ?_)
    refine WCall.of (new23 cd Good.emp start hd hdn hdl) ?_ (by rintro e H' ⟨g, S', hv, _⟩ hne; exact absurd hv (hne _))
    rintro v H2 ⟨gs, S2, hv, hw2⟩
    cases hv
    have hle : H.le H2 := hw2.tr.le.trans hw2.wd.le
    exact WOpen.p (WIf.t rfl (WCall.pure (check24 e hN hsh _ (hat.mono hle)) (WOpen.i ⟨by simp [hc], hle⟩)))
  have hc : e.check = 0 := Classical.not_not.1 hc
  have hmay : e.may = true := (newQ_ok e _ (by unfold newQ; rw [if_pos hc])).2
  have hcount : e.count ≤ 64 := by
    unfold Ex.check at hc
    split at hc
    · cases hc
    · split at hc
      · cases hc
      · omega
  have hlooks := looksN_count e
  refine WCall.of (new22 Good.emp start hat hN hsh hc) ?_ (by rintro e H' ⟨g, F', S', hv, _⟩ hne; exact absurd hv (hne _))
  rintro v H1 ⟨g, F1, S1, hv, hle1, hw1⟩
  cases hv
  refine WOpen.p (WCall.of (new23 cd (Good.star Good.mon Good.emp) hw1 (hd.mono hle1) hdn hdl) ?_ (by rintro e H' ⟨g, S', hv, _⟩ hne; exact absurd hv (hne _)))
  rintro v H2 ⟨gs, S2, hv, hw2⟩
  cases hv
  refine WOpen.p (WIf.f rfl (WCall.pure (longest25 hN (hat.mono (hw2.tr.le.trans hw2.wd.le))) (WOpen.i (WCall.pure (few26 (k := 40) b2) (WOpen.sl ?_)))))
  have hσ : (Sto.new l).Ok := Sto.new_ok hdn
  generalize Sto.new l = σ at hw2 hσ
  have hlong := fold_long e.all 0
  have m2 : min l2.length 40 ≤ l2.length := Nat.min_le_left _ _
  have t2 : min l2.length 40 ≤ 40 := Nat.min_le_right _ _
  refine WLoop.run (min l2.length 40) (fun x => x.1.2.2.1.toNat) (fun i x H' => ∃ p c F' S' n L U, x = (((p, (U.length, c)), (L, ((i : Int), ()))), ()) ∧ Sta.Ok i e n ∧ NI L U e n ∧ (0 ≤ L ∧ L ≤ 9223372036854775807) ∧ (∀ u, U.getLast? = some u → u = L) ∧ U.length ≤ i ∧ (∀ t ∈ U, 0 ≤ t ∧ t ≤ L) ∧
      Wd ⟨H, H, []⟩ ((sepc (mq e (some g) (some (n, L))) (sepc (storeA gs σ) (sepc (ownS 2 1 p U.length c (ints U)) emp')))) F' H' S') 0
    ⟨none, 0, F1, S2, Sta.new e, 0, [], rfl, (sta_new_ok e.size).1 e (Nat.le_refl _), new_NI e hmay, ⟨Int.le_refl _, by decide⟩, fun u h => (by simp at h), Nat.le_refl _, fun t h => (by simp at h), hw2.imp fun hh => under (star_left hh) fun _ h => under h fun T h => ⟨[], T, fun _ h => (by simp at h), fun _ h => h, fun _ h => (by simp at h), ownS_nil, trivial⟩⟩
    (Nat.zero_le _) (by rintro i x H ⟨p, c, F', S', n, L, U, rfl, _⟩; simp) ?_
  rintro i x' H3 again - hi ⟨q, m, F3, S3, nn, L, U, rfl, hok, hni, ⟨hL0, hL1⟩, hlast, hUl, hUr, hw⟩ hag
  by_cases hlt : i < min l2.length 40
  · refine WIf.t (by simp; omega) ?_
    refine readMo h2 (hw.tr.le.trans hw.wd.le) (by omega) hlt ?_
    have hil : i < l2.length := by omega
    have hokq : okQ i e (some (nn, L)) := fun s hs => by cases hs; exact ⟨hok, hmay⟩
    have gI : Den.Good ((sepc (ownS 2 1 q U.length m (ints U)) emp')) := Good.star Good.ownS Good.emp
    refine stepO (q := some g) (st := some (nn, L)) (x := (l2[i]'hil).mo) gI hw hσ (St.mo_ok (f2 _ (List.getElem_mem _))) (M := i) (by omega) hsh hokq fun v F4 H4 S4 hv hle4 hw4 => ?_
    obtain ⟨pa, ca, rfl, hpa⟩ := hv
    have hle : H.le H4 := hw4.tr.le.trans hw4.wd.le
    refine WOpen.vai (WIf.intro (fun _ => ⟨rfl, hle⟩) fun h0 => ?_)
    have hra := (f2 _ (List.getElem_mem hil)).2.2.2.2.2.2.2.2
    have hstep := stepQ_ok (σ := σ) (x := (l2[i]'hil).mo) hokq
    obtain ⟨adr, cs0, hp0, hh0, ⟨vs0, _, rfl⟩⟩ := h2 i l2[i] (by simp [hil])
    have h14 : H4.has (Addr.add (adr.add (i * 10)) 0) [.int .i64 l2[i].a] := hasOne (hle.has hh0) (j := 0) rfl
    generalize hax : (l2[i]'hil).a = ax at *
    generalize hst : (l2[i]'hil) = stp at *
    -- the time
    have hmo : stp.mo.a = ax := hax
    obtain ⟨L', hL'⟩ : ∃ L', L' = maxI L ax := ⟨_, rfl⟩
    have hLL : L ≤ L' ∧ ax ≤ L' ∧ (L' = L ∨ L' = ax) := by subst hL'; unfold maxI; split <;> omega
    obtain ⟨n', hn'⟩ : ∃ n', n' = (Sta.eval σ { stp.mo with a := maxI L stp.mo.a } e nn).2 := ⟨_, rfl⟩
    have hres : ∃ v, (Sta.eval σ { stp.mo with a := maxI L stp.mo.a } e nn).1 = .ok v := by
      cases hr : (Sta.eval σ { stp.mo with a := maxI L stp.mo.a } e nn).1 with
      | ok v => exact ⟨v, rfl⟩
      | error c' =>
        exfalso
        have h1 := eval_err e.size e (Nat.le_refl _) nn c' hmay hok hr
        have : (stepQ σ stp.mo e (some (nn, L))).1 = .error c' := hr
        rw [this] at h0
        simp [codeR] at h0
        exact h1 h0
    obtain ⟨rv, hrv⟩ := hres
    obtain ⟨U', hU'⟩ : ∃ U', U' = (if U.getLast? = some L' then U else U ++ [L']) := ⟨_, rfl⟩
    have hsub : ∀ t ∈ U, t ∈ U' := fun t ht => by subst hU'; split; exact ht; simp [ht]
    have hmem : L' ∈ U' := by
      subst hU'
      split
      · rename_i hh; exact List.mem_of_getLast? hh
      · simp
    have hlast' : ∀ u, U'.getLast? = some u → u = L' := by
      intro u hu
      subst hU'
      split at hu
      · rename_i hh; rw [hh] at hu; cases hu; rfl
      · simp at hu; exact hu.symm
    have hUl' : U'.length ≤ i + 1 := by subst hU'; split <;> (try rw [List.length_append, List.length_singleton]) <;> omega
    have hUr' : ∀ t ∈ U', 0 ≤ t ∧ t ≤ L' := by
      intro t ht
      subst hU'
      split at ht
      · have := hUr t ht; omega
      · rcases List.mem_append.1 ht with h | h
        · have := hUr t h; omega
        · simp at h; omega
    have hLm : L' ≤ 9223372036854775807 := by unfold I64 at hra; omega
    have hni' : NI L' U' e n' := by
      have := eval_NI (σ := σ) (x := { stp.mo with a := maxI L stp.mo.a }) (L := L) (U := U) (U' := U') (by show L ≤ maxI L stp.mo.a; rw [hmo, ← hL']; omega) (by show maxI L stp.mo.a ≤ _; rw [hmo, ← hL']; exact hLm) hsub (by show maxI L stp.mo.a ∈ U'; rw [hmo, ← hL']; exact hmem) e.size e (Nat.le_refl _) nn rv hmay hin hni hrv
      have e2 : ({ stp.mo with a := maxI L stp.mo.a } : Mo).a = L' := by show maxI L stp.mo.a = L'; rw [hmo, ← hL']
      rw [e2, ← hn'] at this
      exact this
    have hst4 : (stepQ σ stp.mo e (some (nn, L))).2 = some (n', L') := by
      show some ((Sta.eval σ { stp.mo with a := maxI L stp.mo.a } e nn).2, maxI L stp.mo.a) = _
      rw [← hn', hmo, ← hL']
    rw [hst4] at hw4 hstep
    have hok' : Sta.Ok (i + 1) e n' := (hstep _ rfl).1
    have own4 : ∃ T, ownS 2 1 q U.length m (ints U) F4 H4 T := by
      obtain ⟨T1, T2, _, _, _, hO, _⟩ := bring3 hw4.it
      exact ⟨T1, hO⟩
    refine ⟨fun x H' => ∃ p c F' S', x = (((p, (U'.length, c)), (L', ())), ()) ∧ Wd ⟨H, H, []⟩ ((sepc (mq e (some g) (some (n', L'))) (sepc (storeA gs σ) (sepc (ownS 2 1 p U'.length c (ints U')) emp')))) F' H' S', ?_, ?_⟩
    · refine WIndex.at' hp0 hlt (WLoad.i (n := ax) h14 ?_)
      have hif : (if L < ax then ax else L) = L' := hL'.symm
      have push : U.getLast? ≠ some L' → (WNew [(.int .i64 L')] 2 fun z15 =>
          WPrim Tryz.prog (Builtin.append_ #[34, 34] 34 #[(.slice q U.length m), (.slice (some ⟨z15, 0, none⟩) 1 1)]) (WOpen (.one (.l .sl)) fun (x16 : Option Go.Addr) (x16_1 : Nat) (x16_2 : Nat) =>
          fun H' => ∃ p c F' S', (((x16, (x16_1, x16_2)), (L', ())), ()) = (((p, (U'.length, c)), (L', ())), ()) ∧ Wd ⟨H, H, []⟩ ((sepc (mq e (some g) (some (n', L'))) (sepc (storeA gs σ) (sepc (ownS 2 1 p U'.length c (ints U')) emp')))) F' H' S')) H4 := by
        intro hne
        have eU : U' = U ++ [L'] := by rw [hU', if_neg hne]
        have el : U'.length = U.length + 1 := by rw [eU]; simp
        have ei : ints U' = ints U ++ [.int .i64 L'] := by rw [eU]; simp [ints]
        refine WNew.blk (Good.star Good.mq (Good.star Good.store (Good.star Good.ownS Good.emp))) hw4 fun z H5 hz hle5 hw5 => ?_
        refine SliceTy.push sliceInt (by decide) (Good.star Good.blk (Good.star Good.mq (Good.star Good.store Good.emp))) (hw5.imp bring4) (m := 1) (news := [.int .i64 L']) rfl (blk_has hw5.it rfl) (by simp [Value.oneCell']) (by simp only [maxLen]; omega) (by omega) ?_
        intro p4 cap H6 S6 hw6 _
        refine WOpen.sl ⟨p4, cap, F4, S6, by rw [el], hw6.imp fun hh => ?_⟩
        rw [el, ei]
        have a1 := bring3 hh
        have a2 := under a1 fun _ h => under (bring3 h) fun _ h => h
        exact under a2 fun _ h => under h fun _ h => star_mono (fun _ h => h) (fun _ _ => trivial) h
      rw [hif]
      by_cases hU0 : U.length = 0
      · have e0 : U = [] := List.length_eq_zero_iff.1 hU0
        refine WIf.t (by simp [hU0]) (push ?_)
        rw [e0]; simp
      · refine WIf.f (by simp [hU0]) ?_
        simp only [wrapP (show U.length < 1000000000000 by omega) (by omega)]
        obtain ⟨u, hu⟩ : ∃ u, U.getLast? = some u := by
          cases hq : U.getLast? with
          | none => rw [List.getLast?_eq_none_iff] at hq; rw [hq] at hU0; simp at hU0
          | some u => exact ⟨u, rfl⟩
        obtain ⟨T, hO⟩ := own4
        obtain ⟨V, hV⟩ := List.getLast?_eq_some_iff.1 hu
        obtain ⟨g', hq, hh⟩ := ownS_has hO (i := U.length - 1) (vs := [.int .i64 u]) (by rw [hV]; simp [ints]) (by simp)
        refine WIndex.at' hq (by omega) (WLoad.i (n := u) (by rw [addN]; simpa using hh) ?_)
        by_cases hul : u = L'
        · refine WIf.f (by simp [hul]) ⟨q, m, F4, S4, ?_, ?_⟩
          · have eU : U' = U := by rw [hU', if_pos (by rw [hu, hul])]
            rw [eU]
          · have eU : U' = U := by rw [hU', if_pos (by rw [hu, hul])]
            rw [eU]
            exact hw4
        · refine WIf.t (by simp [hul]) (push ?_)
          rw [hu]
          intro hh
          cases hh
          exact hul rfl
    · rintro x12 H6 ⟨p6, c6, F6, S6, rfl, hw6⟩
      have hle6 : H.le H6 := hw6.tr.le.trans hw6.wd.le
      have own6 : ∃ T, ownS 2 1 p6 U'.length c6 (ints U') F6 H6 T := by
        obtain ⟨T1, T2, _, _, _, hO, _⟩ := bring3 hw6.it
        exact ⟨T1, hO⟩
      obtain ⟨T6, hO6⟩ := own6
      refine WLoop.run U'.length (fun x => x.1.2.1.toNat) (fun j x H' => H' = H6 ∧ x = ((((widthN L' e.long (U'.take j) : Nat) : Int), ((j : Int), ())), ())) 0 ⟨rfl, rfl⟩ (Nat.zero_le _) (by rintro i x H ⟨_, rfl⟩; simp) ?_
      rintro j x' H7 again2 - hj ⟨rfl, rfl⟩ hag2
      by_cases hlt2 : j < U'.length
      · refine WIf.t (by simp; omega) ?_
        obtain ⟨g', hq, hh⟩ := ownS_has hO6 (i := j) (vs := [.int .i64 U'[j]]) (by rw [List.drop_eq_getElem_cons (by simpa [ints] using hlt2)]; simp [ints]) (by simp)
        have hr := hUr' U'[j] (List.getElem_mem hlt2)
        refine WIndex.at' hq hlt2 (WLoad.i (n := U'[j]) (by rw [addN]; simpa using hh) ?_)
        have htk : U'.take (j + 1) = U'.take j ++ [U'[j]] := List.take_succ_eq_append_getElem hlt2
        have hwd := width_le L' e.long (U'.take j)
        have hwl : (U'.take j).length ≤ j := by simp; omega
        rw [IntWalk.i64_in (L' - U'[j]) ⟨by omega, by omega⟩]
        simp only [wrapS (show j < 1000000000000 by omega)]
        by_cases hcmp : L' - U'[j] ≤ e.long
        · refine WIf.t (by simpa using hcmp) ?_
          simp only [wrapS (show widthN L' e.long (U'.take j) < 1000000000000 by omega)]
          refine hag2 _ _ hlt2 ⟨rfl, ?_⟩
          rw [htk, width_snoc, if_pos hcmp]
        · refine WIf.f (by simpa using hcmp) (hag2 _ _ hlt2 ⟨rfl, ?_⟩)
          rw [htk, width_snoc, if_neg hcmp]
          rfl
      · refine WIf.f (by simp; omega) ?_
        have hjl : j = U'.length := by omega
        subst hjl
        rw [List.take_length]
        have hwd := width_le L' e.long U'
        refine WCall.pure (cellsO (q := some g) (st := some (n', L')) hw6.wd.le hw6.it hN) (WOpen.i (WCall.pure (most30 (w := (widthN L' e.long U' : Nat)) hN (hat.mono hle6)) (WOpen.i ?_)))
        have hb : looksN e * (widthN L' e.long U' + 1) ≤ 64 * 42 := Nat.mul_le_mul (by omega) (by omega)
        obtain ⟨cN, g1, g2⟩ := (node_cells (L := L') (long := e.long) (U := U') hlong.1 e.size).1 e (Nat.le_refl _) n' hni' hlong.2 (by omega)
        rw [most_eq hcount (by omega)]
        have hcq : cellsQ e (some (n', L')) = (cN : Int) := g1
        rw [hcq]
        refine WIf.f (decide_eq_false (Int.not_lt.2 (Int.ofNat_le.2 g2))) ?_
        simp only [wrapS (show i < 1000000000000 by omega)]
        exact hag _ _ hlt ⟨p6, c6, F6, S6, n', L', U', rfl, hok', hni', ⟨by omega, hLm⟩, hlast', hUl', hUr', hw6⟩
  · exact WIf.f (by simp; omega) ⟨rfl, hw.tr.le.trans hw.wd.le⟩
end Go.Proofs.YtmidcnfnmnhifaaGreat
