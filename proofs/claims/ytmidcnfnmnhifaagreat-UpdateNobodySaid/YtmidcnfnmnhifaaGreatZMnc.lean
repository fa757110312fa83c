/-
  Package monitor: of one, of two.
-/
import Derived.Test.YtmidcnfnmnhifaaGreatZMnb
namespace Go.Proofs.YtmidcnfnmnhifaaGreat
set_option linter.unusedSectionVars false
set_option linter.unusedSimpArgs false
set_option linter.unusedVariables false
open Go Go.Den
set_option linter.unusedVariables false

def singleV (x : Mo) (k : Int) (v : Va) (o : Option Wi) (prev : Bool) : Res × Option Wi × Bool :=
  if k = 11 then ((if v.k = 1 then if (negP v.n).2 = true then .ok (Va.int (negP v.n).1) else .error 30 else .error 31), o, prev)
  else if k = 12 then ((if v.k = 3 ∨ v.k = 4 then .ok (Va.int v.size) else .error 31), o, prev)
  else match truthV v with
    | .error c => (.error c, o, prev)
    | .ok p =>
      if k = 18 then (.ok (Va.bool (!p)), o, prev)
      else if k = 22 then match o with
        | some w => (.ok (Va.bool (w.once x.a p).was), some (w.once x.a p), prev)
        | none => (.error 0, none, prev)
      else if k = 23 then match o with
        | some w => (.ok (Va.bool (!(w.once x.a (!p)).was)), some (w.once x.a (!p)), prev)
        | none => (.error 0, none, prev)
      else (.ok (Va.bool prev), o, p)

def pairV (x : Mo) (k : Int) (a b : Va) (s : Option Wi) : Res × Option Wi :=
  if k = 8 ∨ k = 9 ∨ k = 10 then (numberV k a b, s)
  else if k = 14 then ((if a.k = b.k then .ok (Va.bool (a.cmp b == 0)) else .error 31), s)
  else if k = 15 ∨ k = 16 then ((if a.k = b.k ∧ (a.k = 1 ∨ a.k = 3) then .ok (Va.bool (decide (a.cmp b < 0) || (decide (a.cmp b = 0) && decide (k = 16)))) else .error 31), s)
  else if k = 17 then ((if a.k = 3 ∧ b.k = 4 then .ok (Va.bool (memS a.s b.l)) else .error 31), s)
  else match truthV a with
    | .error c => (.error c, s)
    | .ok p => match truthV b with
      | .error c => (.error c, s)
      | .ok q =>
        if k = 19 then (.ok (Va.bool (p && q)), s)
        else if k = 20 then (.ok (Va.bool (p || q)), s)
        else match s with
          | some w => (.ok (Va.bool (w.since x.a p q).was), some (w.since x.a p q))
          | none => (.error 0, none)

section
variable {a : Base} {R : Asr} {F H : HP} {S : List Nat}

theorem single102 {gs g : Nat} {x : Mo} {k n y z : Int} {nm : ByteArray} {ks : List Ex} {kp : Option Addr} {kl kc : Nat} {o s t : Option Wi} {prev : Bool} {v : Va} {cs : List Value} (gr : Good R) (h : Wd a ((sepc (nodB (.mk k nm n y z ks) kp kl kc o s t prev g) R)) F H S)
    (hv : v.At F cs) (h5 : k = 22 ∨ k = 23 → ∃ w, o = some w ∧ w.d.length < 900000000) :
    Den.Spec Tryz.prog 102 #[eyeV gs x, .pointer (some ⟨g, 0, none⟩), .agg ⟨cs⟩] H fun e H' => ∃ F' S', RVal F' (singleV x k v o prev).1 e ∧ F.le F' ∧ Wd a ((sepc (nodB (.mk k nm n y z ks) kp kl kc (singleV x k v o prev).2.1 s t (singleV x k v o prev).2.2 g) R)) F' H' S' := by
  obtain ⟨p, c, po, ps, pt, hex, _, hkind, _, hpo, _, _, hprev, hparts⟩ := nodB_has h.it
  have htr : PureR 163 #[.agg ⟨cs⟩] H (match truthV v with | .ok b => .ok (.bool b) | .error c => .error c) := truth163 (hv.mono h.wd.le)
  obtain ⟨pv, cv, rfl, hpv⟩ := hv
  have hsz : Pure Tryz.prog 162 #[.agg ⟨vaCells v.k v.n v.s pv v.l.length cv⟩] H (.int .i64 v.size) := vsize v pv cv
  have hk0 : H.has ((Addr.add (Addr.add ⟨g, 0, none⟩ 0) 0)) [.int .i64 k] := by rw [addN, addN]; exact hkind
  refine spec102 (WNonNil.some (WLoad.i (n := k) hk0 ?_))
  have done : ∀ {u : Va}, u.l = [] → ∃ F' S', RVal F' (.ok u) (.returned (.agg ⟨flat u⟩)) ∧ F.le F' ∧ Wd a ((sepc (nodB (.mk k nm n y z ks) kp kl kc o s t prev g) R)) F' H S' :=
    fun hl => ⟨F, S, ⟨_, rfl, flat_at hl⟩, HP.le.refl F, h⟩
  have stop : ∀ {c : Int}, ∃ F' S', RVal F' (.error c) (.panicked [stopped c]) ∧ F.le F' ∧ Wd a ((sepc (nodB (.mk k nm n y z ks) kp kl kc o s t prev g) R)) F' H S' :=
    ⟨F, S, rfl, HP.le.refl F, h⟩
  unfold singleV
  by_cases k11 : k = 11
  · simp only [if_pos k11]
    refine WIf.t (by simp [k11]) ?_
    by_cases hk : v.k = 1
    · simp only [if_pos hk]
      refine need_ok (P := Tryz.prog) (by simp [hk]) (WOpen.u (WCall.pure (neg160 _) (WOpen.ib ?_)))
      by_cases hn : (negP v.n).2 = true
      · simp only [if_pos hn]
        exact need_ok (P := Tryz.prog) hn (WOpen.u (fin161 _ (done rfl)))
      · simp only [if_neg hn]
        exact need_no (by simpa using hn) stop
    · simp only [if_neg hk]
      exact need_no (by simp [hk]) stop
  simp only [if_neg k11]
  refine WIf.f (by simp [k11]) ?_
  by_cases k12 : k = 12
  · simp only [if_pos k12]
    refine WIf.t (by simp [k12]) ?_
    by_cases hk : v.k = 3
    · simp only [if_pos (Or.inl hk : v.k = 3 ∨ v.k = 4)]
      exact WIf.t (by simp [hk]) (need_ok (P := Tryz.prog) rfl (WOpen.u (WCall.pure hsz (WOpen.i (fin161 _ (done rfl))))))
    · refine WIf.f (by simp [hk]) ?_
      by_cases hk4 : v.k = 4
      · simp only [if_pos (Or.inr hk4 : v.k = 3 ∨ v.k = 4)]
        exact need_ok (P := Tryz.prog) (by simp [hk4]) (WOpen.u (WCall.pure hsz (WOpen.i (fin161 _ (done rfl)))))
      · simp only [if_neg (fun h => h.elim hk hk4 : ¬ (v.k = 3 ∨ v.k = 4))]
        exact need_no (by simp [hk4]) stop
  simp only [if_neg k12]
  refine WIf.f (by simp [k12]) ?_
  cases htv : truthV v with
  | error c =>
    rw [htv] at htr
    exact PureR.call htr (fun _ h => by cases h) (fun c' h => by cases h; exact stop)
  | ok q =>
    rw [htv] at htr
    refine PureR.call htr (fun v' h' => ?_) (fun _ h => by cases h)
    cases h'
    refine WOpen.b (WNonNil.some (WLoad.i (n := k) hk0 ?_))
    by_cases k18 : k = 18
    · simp only [if_pos k18]
      exact WIf.t (by simp [k18]) (fin164 _ (done rfl))
    simp only [if_neg k18]
    refine WIf.f (by simp [k18]) ?_
    have step : ∀ {w : Wi} (b : Bool), o = some w → w.d.length < 900000000 → ∃ go, po = some go ∧ Den.Spec Tryz.prog 165 #[.pointer (some ⟨go, 0, none⟩), .int .i64 x.a, .bool b] H fun e H' => e = .returned (.bool (w.once x.a b).was) ∧
        ∃ S', Wd a ((sepc (nodB (.mk k nm n y z ks) kp kl kc (some (w.once x.a b)) s t prev g) R)) F H' S' := by
      intro w b ho hw
      subst ho
      obtain ⟨go, rfl⟩ : ∃ go, po = some go := by
        cases po with
        | some go => exact ⟨go, rfl⟩
        | none =>
          obtain ⟨_, _, _, _, _, _, h⟩ := hparts
          obtain ⟨_, _, _, _, _, h, _⟩ := h
          exact h.elim
      refine ⟨go, rfl, ?_⟩
      have hw' : Wd a ((sepc (winA go 259 w) (sepc (blk g 165 (exCells k nm n y z p ks.length c ++ [.slice kp kl kc, .pointer (ptr (some go)), .pointer (ptr ps), .pointer (ptr pt), .bool prev])) (sepc (winO 260 ps s) (sepc (talO pt t) R))))) F H S :=
        ⟨h.wd, h.tr, star_left hparts⟩
      refine (once165 x.a b (Good.star Good.blk (Good.star Good.winO (Good.star Good.talO gr))) hw' (by omega)).mono ?_
      rintro e H' ⟨rfl, S', h'⟩
      refine ⟨rfl, S', h'.imp fun hh => ?_⟩
      exact nodB_mk (po := some go) (ps := ps) (pt := pt) hex (star_left hh)
    by_cases k22 : k = 22
    · simp only [if_pos k22]
      obtain ⟨w, ho, hw⟩ := h5 (.inl k22)
      obtain ⟨go, rfl, hsp⟩ := step q ho hw
      subst ho
      refine WIf.t (by simp [k22]) (WNonNil.some (WLoad.p (by rw [addN]; exact hpo) (WCall.of hsp ?_ (by rintro e H' ⟨hv, _⟩ hne; exact absurd hv (hne _)))))
      rintro v' H' ⟨hv', S', h'⟩
      cases hv'
      exact WOpen.b (fin164 _ ⟨F, S', ⟨_, rfl, flat_at rfl⟩, HP.le.refl F, h'⟩)
    simp only [if_neg k22]
    refine WIf.f (by simp [k22]) ?_
    by_cases k23 : k = 23
    · simp only [if_pos k23]
      obtain ⟨w, ho, hw⟩ := h5 (.inr k23)
      obtain ⟨go, rfl, hsp⟩ := step (!q) ho hw
      subst ho
      refine WIf.t (by simp [k23]) (WNonNil.some (WLoad.p (by rw [addN]; exact hpo) (WCall.of hsp ?_ (by rintro e H' ⟨hv, _⟩ hne; exact absurd hv (hne _)))))
      rintro v' H' ⟨hv', S', h'⟩
      cases hv'
      exact WOpen.b (fin164 _ ⟨F, S', ⟨_, rfl, flat_at rfl⟩, HP.le.refl F, h'⟩)
    simp only [if_neg k23]
    refine WIf.f (by simp [k23]) (WNonNil.some (WLoad.b (n := prev) (by rw [addN]; exact hprev) (WNonNil.some ?_)))
    rw [addN]
    refine WStore.blk (Good.star Good.winO (Good.star Good.winO (Good.star Good.talO gr))) ⟨h.wd, h.tr, hparts⟩ (by simp [exCells]) fun H1 h1 => ?_
    exact fin164 _ ⟨F, S, ⟨_, rfl, flat_at rfl⟩, HP.le.refl F, h1.imp fun hh => nodB_mk (po := po) (ps := ps) (pt := pt) hex hh⟩

theorem cmp_tail {Q : Ending → W} {c : Int} {g : Nat} {k : Int} (hk : H.has ((Addr.add (Addr.add ⟨g, 0, none⟩ 0) 0)) [.int .i64 k]) (hQ : Q (.returned (.agg ⟨flat (Va.bool (decide (c < 0) || (decide (c = 0) && decide (k = 16))))⟩)) H) :
    WIf (decide (c < 0)) (WCall Tryz.prog Q 164 #[(.bool true)] (WOpen (.one (.agg [(.i .i64), (.i .i64), .s, .sl])) fun (x18 : Int) (x18_1 : Int) (x18_2 : ByteArray) (x18_3 : Option Go.Addr) (x18_4 : Nat) (x18_5 : Nat) =>
           Q (.returned (.agg #[(.int .i64 x18), (.int .i64 x18_1), (.string x18_2), (.slice x18_3 x18_4 x18_5)]))))
          (WIf (c == 0) (WNonNil (some (⟨g, 0, none⟩ : Addr)) fun q19 =>
            WLoad (Addr.add (Addr.add q19 0) 0) (.l (.i .i64)) fun (x20 : Int) =>
            WCall Tryz.prog Q 164 #[(.bool (x20 == 16))] (WOpen (.one (.agg [(.i .i64), (.i .i64), .s, .sl])) fun (x21 : Int) (x21_1 : Int) (x21_2 : ByteArray) (x21_3 : Option Go.Addr) (x21_4 : Nat) (x21_5 : Nat) =>
            Q (.returned (.agg #[(.int .i64 x21), (.int .i64 x21_1), (.string x21_2), (.slice x21_3 x21_4 x21_5)]))))
           (WCall Tryz.prog Q 164 #[(.bool false)] (WOpen (.one (.agg [(.i .i64), (.i .i64), .s, .sl])) fun (x22 : Int) (x22_1 : Int) (x22_2 : ByteArray) (x22_3 : Option Go.Addr) (x22_4 : Nat) (x22_5 : Nat) =>
            Q (.returned (.agg #[(.int .i64 x22), (.int .i64 x22_1), (.string x22_2), (.slice x22_3 x22_4 x22_5)]))))) H := by
  refine WIf.intro (fun h1 => fin164 _ ?_) (fun h1 => WIf.intro (fun h2 => WNonNil.some (WLoad.i (n := k) hk (fin164 _ ?_))) (fun h2 => fin164 _ ?_))
  · rw [h1] at hQ; exact hQ
  · rw [h1, show decide (c = 0) = true by simpa using h2] at hQ
    rw [show (k == 16) = decide (k = 16) by rfl]
    exact hQ
  · rw [h1, show decide (c = 0) = false by simpa using h2] at hQ
    exact hQ

theorem pairV_truth {x : Mo} {k : Int} {v w : Va} {s : Option Wi} (hk3 : k = 19 ∨ k = 20 ∨ k = 24) : pairV x k v w s = match truthV v with
        | .error c => (.error c, s)
        | .ok p => match truthV w with
          | .error c => (.error c, s)
          | .ok q =>
            if k = 19 then (.ok (Va.bool (p && q)), s)
            else if k = 20 then (.ok (Va.bool (p || q)), s)
            else match s with
              | some w => (.ok (Va.bool (w.since x.a p q).was), some (w.since x.a p q))
              | none => (.error 0, none) := by
  unfold pairV
  rw [if_neg (by omega), if_neg (by omega), if_neg (by omega), if_neg (by omega)]

/-- Lt, Le -/
theorem lt_part {Q : Ending → W} {g : Nat} {k : Int} {v w : Va} {pv pw : Option Addr} {cv cw : Nat} (hk : H.has ((Addr.add (Addr.add ⟨g, 0, none⟩ 0) 0)) [.int .i64 k])
    (hcmp : Pure Tryz.prog 168 #[.agg ⟨vaCells v.k v.n v.s pv v.l.length cv⟩, .agg ⟨vaCells w.k w.n w.s pw w.l.length cw⟩] H (.int .i64 (v.cmp w)))
    (h1 : v.k = w.k ∧ (v.k = 1 ∨ v.k = 3) → Q (.returned (.agg ⟨flat (Va.bool (decide (v.cmp w < 0) || (decide (v.cmp w = 0) && decide (k = 16))))⟩)) H) (h2 : ¬ (v.k = w.k ∧ (v.k = 1 ∨ v.k = 3)) → Q (.panicked [stopped 31]) H)
    (T : Int → W) (hT : T = fun x17 => WIf (decide (x17 < 0)) (WCall Tryz.prog Q 164 #[(.bool true)] (WOpen (.one (.agg [(.i .i64), (.i .i64), .s, .sl])) fun (x18 : Int) (x18_1 : Int) (x18_2 : ByteArray) (x18_3 : Option Go.Addr) (x18_4 : Nat) (x18_5 : Nat) =>
           Q (.returned (.agg #[(.int .i64 x18), (.int .i64 x18_1), (.string x18_2), (.slice x18_3 x18_4 x18_5)]))))
          (WIf (x17 == 0) (WNonNil (some (⟨g, 0, none⟩ : Addr)) fun q19 =>
            WLoad (Addr.add (Addr.add q19 0) 0) (.l (.i .i64)) fun (x20 : Int) =>
            WCall Tryz.prog Q 164 #[(.bool (x20 == 16))] (WOpen (.one (.agg [(.i .i64), (.i .i64), .s, .sl])) fun (x21 : Int) (x21_1 : Int) (x21_2 : ByteArray) (x21_3 : Option Go.Addr) (x21_4 : Nat) (x21_5 : Nat) =>
            Q (.returned (.agg #[(.int .i64 x21), (.int .i64 x21_1), (.string x21_2), (.slice x21_3 x21_4 x21_5)]))))
           (WCall Tryz.prog Q 164 #[(.bool false)] (WOpen (.one (.agg [(.i .i64), (.i .i64), .s, .sl])) fun (x22 : Int) (x22_1 : Int) (x22_2 : ByteArray) (x22_3 : Option Go.Addr) (x22_4 : Nat) (x22_5 : Nat) =>
            Q (.returned (.agg #[(.int .i64 x22), (.int .i64 x22_1), (.string x22_2), (.slice x22_3 x22_4 x22_5)])))))) :
    WIf (v.k == w.k) (WIf (v.k == 1) (WCall Tryz.prog Q 159 #[(.bool true), (.int .i64 31)] (WOpen (.tup []) <|
        WCall Tryz.prog Q 168 #[(.agg ⟨vaCells v.k v.n v.s pv v.l.length cv⟩), (.agg ⟨vaCells w.k w.n w.s pw w.l.length cw⟩)] (WOpen (.one (.l (.i .i64))) T)))
       (WCall Tryz.prog Q 159 #[(.bool (v.k == 3)), (.int .i64 31)] (WOpen (.tup []) <|
        WCall Tryz.prog Q 168 #[(.agg ⟨vaCells v.k v.n v.s pv v.l.length cv⟩), (.agg ⟨vaCells w.k w.n w.s pw w.l.length cw⟩)] (WOpen (.one (.l (.i .i64))) T))))
      (WCall Tryz.prog Q 159 #[(.bool false), (.int .i64 31)] (WOpen (.tup []) <|
       WCall Tryz.prog Q 168 #[(.agg ⟨vaCells v.k v.n v.s pv v.l.length cv⟩), (.agg ⟨vaCells w.k w.n w.s pw w.l.length cw⟩)] (WOpen (.one (.l (.i .i64))) T))) H := by
  subst hT
  by_cases e1 : v.k = w.k
  · refine WIf.t (by simp [e1]) ?_
    by_cases e2 : v.k = 1
    · exact WIf.t (by simp [e2]) (need_ok (P := Tryz.prog) rfl (WOpen.u (WCall.pure hcmp (WOpen.i (cmp_tail hk (h1 ⟨e1, .inl e2⟩))))))
    · refine WIf.f (by simp [e2]) ?_
      by_cases e3 : v.k = 3
      · exact need_ok (P := Tryz.prog) (by simp [e3]) (WOpen.u (WCall.pure hcmp (WOpen.i (cmp_tail hk (h1 ⟨e1, .inr e3⟩)))))
      · exact need_no (by simp [e3]) (h2 fun h => h.2.elim e2 e3)
  · exact WIf.f (by simp [e1]) (need_no rfl (h2 fun h => e1 h.1))

theorem pair103 {gs g : Nat} {x : Mo} {k n y z : Int} {nm : ByteArray} {ks : List Ex} {kp : Option Addr} {kl kc : Nat} {o s t : Option Wi} {prev : Bool} {v w : Va} {cs ds : List Value} (gr : Good R) (h : Wd a ((sepc (nodB (.mk k nm n y z ks) kp kl kc o s t prev g) R)) F H S)
    (hv : v.At F cs) (hw : w.At F ds) (hvl : v.l.length < 1000000000000) (hwl : w.l.length < 1000000000000) (hk25 : k = 24 → ∃ w, s = some w ∧ w.d.length < 900000000)
    (hkk : k = 8 ∨ k = 9 ∨ k = 10 ∨ k = 14 ∨ k = 15 ∨ k = 16 ∨ k = 17 ∨ k = 19 ∨ k = 20 ∨ k = 24) :
    Den.Spec Tryz.prog 103 #[eyeV gs x, .pointer (some ⟨g, 0, none⟩), .agg ⟨cs⟩, .agg ⟨ds⟩] H fun e H' => ∃ F' S', RVal F' (pairV x k v w s).1 e ∧ F.le F' ∧ Wd a ((sepc (nodB (.mk k nm n y z ks) kp kl kc o (pairV x k v w s).2 t prev g) R)) F' H' S' := by
  obtain ⟨p, c, po, ps, pt, hex, _, hkind, _, _, hps, _, _, hparts⟩ := nodB_has h.it
  have hvH := hv.mono h.wd.le
  have hwH := hw.mono h.wd.le
  have htv : PureR 163 #[.agg ⟨cs⟩] H (match truthV v with | .ok b => .ok (.bool b) | .error c => .error c) := truth163 hvH
  have htw : PureR 163 #[.agg ⟨ds⟩] H (match truthV w with | .ok b => .ok (.bool b) | .error c => .error c) := truth163 hwH
  have hnum : ∀ kind, PureR 166 #[.int .i64 kind, .agg ⟨cs⟩, .agg ⟨ds⟩] H (flatR (numberV kind v w)) := fun kind => number166 kind hvH hwH
  have hcmp := cmp168 hvH hwH hvl
  have hsame := same167 hvH hwH hvl
  have hhas := has169 hwH v.s hwl
  obtain ⟨pv, cv, rfl, hpv⟩ := hv
  obtain ⟨pw, cw, rfl, hpw⟩ := hw
  have hk0 : H.has ((Addr.add (Addr.add ⟨g, 0, none⟩ 0) 0)) [.int .i64 k] := by rw [addN, addN]; exact hkind
  have done : ∀ {u : Va}, u.l = [] → ∃ F' S', RVal F' (.ok u) (.returned (.agg ⟨flat u⟩)) ∧ F.le F' ∧ Wd a ((sepc (nodB (.mk k nm n y z ks) kp kl kc o s t prev g) R)) F' H S' :=
    fun hl => ⟨F, S, ⟨_, rfl, flat_at hl⟩, HP.le.refl F, h⟩
  have stop : ∀ {c : Int}, ∃ F' S', RVal F' (.error c) (.panicked [stopped c]) ∧ F.le F' ∧ Wd a ((sepc (nodB (.mk k nm n y z ks) kp kl kc o s t prev g) R)) F' H S' :=
    ⟨F, S, rfl, HP.le.refl F, h⟩
  have hnl : ∀ {kind : Int} {u : Va}, numberV kind v w = .ok u → u.l = [] := by
    intro kind u hu
    unfold numberV at hu
    by_cases hc : v.k = 1 ∧ w.k = 1
    · rw [if_pos hc] at hu
      simp only at hu
      generalize (if kind = 8 then addP v.n w.n else if kind = 9 then subP v.n w.n else mulP v.n w.n) = r at hu
      by_cases hr : r.2 = true
      · rw [if_pos hr] at hu
        simp only [Except.ok.injEq] at hu
        subst hu
        rfl
      · rw [if_neg hr] at hu
        cases hu
    · rw [if_neg hc] at hu
      cases hu
  have num : ∀ {Q : Ending → W}, (∀ u, numberV k v w = .ok u → Q (.returned (.agg ⟨flat u⟩)) H) → (∀ c, numberV k v w = .error c → Q (.panicked [stopped c]) H) →
      WCall Tryz.prog Q 166 #[(.int .i64 k), (.agg ⟨vaCells v.k v.n v.s pv v.l.length cv⟩), (.agg ⟨vaCells w.k w.n w.s pw w.l.length cw⟩)] (WOpen (.one (.agg [(.i .i64), (.i .i64), .s, .sl])) fun (x6 : Int) (x6_1 : Int) (x6_2 : ByteArray) (x6_3 : Option Go.Addr) (x6_4 : Nat) (x6_5 : Nat) =>
        Q (.returned (.agg #[(.int .i64 x6), (.int .i64 x6_1), (.string x6_2), (.slice x6_3 x6_4 x6_5)]))) H := by
    intro Q h1 h2
    refine PureR.call (hnum k) (fun u hu => ?_) (fun c hc => ?_)
    · cases hr : numberV k v w with
      | ok u' => rw [hr] at hu; cases hu; exact WOpen.va (h1 u' hr)
      | error c => rw [hr] at hu; cases hu
    · cases hr : numberV k v w with
      | ok u' => rw [hr] at hc; cases hc
      | error c' => rw [hr] at hc; cases hc; exact h2 _ hr
  have numQ : (k = 8 ∨ k = 9 ∨ k = 10) → (∀ u, numberV k v w = .ok u → ∃ F' S', RVal F' (pairV x k v w s).1 (.returned (.agg ⟨flat u⟩)) ∧ F.le F' ∧ Wd a ((sepc (nodB (.mk k nm n y z ks) kp kl kc o (pairV x k v w s).2 t prev g) R)) F' H S') ∧
      (∀ c, numberV k v w = .error c → ∃ F' S', RVal F' (pairV x k v w s).1 (.panicked [stopped c]) ∧ F.le F' ∧ Wd a ((sepc (nodB (.mk k nm n y z ks) kp kl kc o (pairV x k v w s).2 t prev g) R)) F' H S') := by
    intro hk
    unfold pairV
    simp only [if_pos hk]
    exact ⟨fun u hu => by rw [hu]; exact done (hnl hu), fun c hc => by rw [hc]; exact stop⟩
  refine spec103 ⟨fun _ H' => H' = H ∧ (k = 19 ∨ k = 20 ∨ k = 24), WNonNil.some (WLoad.i (n := k) hk0 ?_), fun _ H' hJ => ?_⟩
  · by_cases k8 : k = 8
    · exact WIf.t (by simp [k8]) (WNonNil.some (WLoad.i (n := k) hk0 (num (numQ (.inl k8)).1 (numQ (.inl k8)).2)))
    refine WIf.f (by simp [k8]) ?_
    by_cases k9 : k = 9
    · exact WIf.t (by simp [k9]) (WNonNil.some (WLoad.i (n := k) hk0 (num (numQ (.inr (.inl k9))).1 (numQ (.inr (.inl k9))).2)))
    refine WIf.f (by simp [k9]) ?_
    by_cases k10 : k = 10
    · exact WIf.t (by simp [k10]) (WNonNil.some (WLoad.i (n := k) hk0 (num (numQ (.inr (.inr k10))).1 (numQ (.inr (.inr k10))).2)))
    refine WIf.f (by simp [k10]) ?_
    unfold pairV
    simp only [if_neg (show ¬ (k = 8 ∨ k = 9 ∨ k = 10) from fun h => h.elim k8 fun h => h.elim k9 k10)]
    by_cases k14 : k = 14
    · simp only [if_pos k14]
      refine WIf.t (by simp [k14]) ?_
      by_cases hkk : v.k = w.k
      · simp only [if_pos hkk]
        exact need_ok (P := Tryz.prog) (by simp [hkk]) (WOpen.u (WCall.pure hsame (WOpen.b (fin164 _ (done rfl)))))
      · simp only [if_neg hkk]
        exact need_no (by simp [hkk]) stop
    simp only [if_neg k14]
    refine WIf.f (by simp [k14]) ?_
    by_cases k15 : k = 15
    · simp only [if_pos (Or.inl k15 : k = 15 ∨ k = 16)]
      exact WIf.t (by simp [k15]) (lt_part hk0 hcmp (fun h => by rw [if_pos h]; exact done rfl) (fun h => by rw [if_neg h]; exact stop) _ rfl)
    refine WIf.f (by simp [k15]) ?_
    by_cases k16 : k = 16
    · simp only [if_pos (Or.inr k16 : k = 15 ∨ k = 16)]
      exact WIf.t (by simp [k16]) (lt_part hk0 hcmp (fun h => by rw [if_pos h]; exact done rfl) (fun h => by rw [if_neg h]; exact stop) _ rfl)
    simp only [if_neg (show ¬ (k = 15 ∨ k = 16) from fun h => h.elim k15 k16)]
    refine WIf.f (by simp [k16]) ?_
    by_cases k17 : k = 17
    · simp only [if_pos k17]
      refine WIf.t (by simp [k17]) ?_
      by_cases e3 : v.k = 3
      · refine WIf.t (by simp [e3]) ?_
        by_cases e4 : w.k = 4
        · simp only [if_pos (⟨e3, e4⟩ : v.k = 3 ∧ w.k = 4)]
          exact need_ok (P := Tryz.prog) (by simp [e4]) (WOpen.u (WCall.pure hhas (WOpen.b (fin164 _ (done rfl)))))
        · simp only [if_neg (show ¬ (v.k = 3 ∧ w.k = 4) from fun h => e4 h.2)]
          exact need_no (by simp [e4]) stop
      · simp only [if_neg (show ¬ (v.k = 3 ∧ w.k = 4) from fun h => e3 h.1)]
        exact WIf.f (by simp [e3]) (need_no rfl stop)
    refine WIf.f (by simp [k17]) ⟨rfl, ?_⟩
    rcases hkk with h | h | h | h | h | h | h | h | h | h
    · exact absurd h k8
    · exact absurd h k9
    · exact absurd h k10
    · exact absurd h k14
    · exact absurd h k15
    · exact absurd h k16
    · exact absurd h k17
    · exact .inl h
    · exact .inr (.inl h)
    · exact .inr (.inr h)
  · obtain ⟨rfl, hk3⟩ := hJ
    rw [pairV_truth hk3]
    cases htv' : truthV v with
    | error c =>
      rw [htv'] at htv
      exact PureR.call htv (fun _ h => by cases h) (fun c' h => by cases h; exact stop)
    | ok p' =>
      rw [htv'] at htv
      refine PureR.call htv (fun v' h' => ?_) (fun _ h => by cases h)
      cases h'
      refine WOpen.b ?_
      cases htw' : truthV w with
      | error c =>
        rw [htw'] at htw
        exact PureR.call htw (fun _ h => by cases h) (fun c' h => by cases h; exact stop)
      | ok q' =>
        rw [htw'] at htw
        refine PureR.call htw (fun v' h' => ?_) (fun _ h => by cases h)
        cases h'
        refine WOpen.b (WNonNil.some (WLoad.i (n := k) hk0 ?_))
        by_cases k19 : k = 19
        · simp only [if_pos k19]
          refine WIf.t (by simp [k19]) ?_
          cases p'
          · exact WIf.f rfl (fin164 _ (done rfl))
          · exact WIf.t rfl (fin164 _ (done rfl))
        simp only [if_neg k19]
        refine WIf.f (by simp [k19]) ?_
        by_cases k20 : k = 20
        · simp only [if_pos k20]
          refine WIf.t (by simp [k20]) ?_
          cases p'
          · exact WIf.f rfl (fin164 _ (done rfl))
          · exact WIf.t rfl (fin164 _ (done rfl))
        simp only [if_neg k20]
        refine WIf.f (by simp [k20]) ?_
        obtain ⟨u, rfl, hu⟩ := hk25 (by omega)
        obtain ⟨gw, rfl⟩ : ∃ gw, ps = some gw := by
          cases ps with
          | some gw => exact ⟨gw, rfl⟩
          | none =>
            obtain ⟨_, _, _, _, _, _, h⟩ := hparts
            obtain ⟨_, _, _, _, _, _, h⟩ := h
            obtain ⟨_, _, _, _, _, h, _⟩ := h
            exact h.elim
        have hw' : Wd a ((sepc (winA gw 260 u) (sepc (blk g 165 (exCells k nm n y z p ks.length c ++ [.slice kp kl kc, .pointer (ptr po), .pointer (ptr (some gw)), .pointer (ptr pt), .bool prev])) (sepc (winO 259 po o) (sepc (talO pt t) R))))) F H' S :=
          ⟨h.wd, h.tr, star_left (star_mono (fun _ h => h) (fun _ h => star_left h) hparts)⟩
        refine WNonNil.some (WLoad.p (by rw [addN]; exact hps) (WCall.of (since170 x.a p' q' (Good.star Good.blk (Good.star Good.winO (Good.star Good.talO gr))) hw' (by omega)) ?_ (by rintro e H' ⟨hv, _⟩ hne; exact absurd hv (hne _))))
        rintro v' H2 ⟨hv', S', h'⟩
        cases hv'
        refine WOpen.b (fin164 _ ⟨F, S', ⟨_, rfl, flat_at rfl⟩, HP.le.refl F, h'.imp fun hh => ?_⟩)
        exact nodB_mk (po := po) (ps := some gw) (pt := pt) hex (star_mono (fun _ h => h) (fun _ h => star_left h) (star_left hh))
end
end Go.Proofs.YtmidcnfnmnhifaaGreat
