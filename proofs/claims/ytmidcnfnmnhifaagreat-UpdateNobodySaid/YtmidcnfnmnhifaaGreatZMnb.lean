/-
  Package monitor: a node; what has no kids.
-/
import Derived.Test.YtmidcnfnmnhifaaGreatZMna
namespace Go.Proofs.YtmidcnfnmnhifaaGreat
set_option linter.unusedSectionVars false
set_option linter.unusedSimpArgs false
set_option linter.unusedVariables false
open Go Go.Den
set_option linter.unusedVariables false

/-- a moment -/
structure Mo where
  a : Int
  act : ByteArray
  subj : ByteArray
  obj : ByteArray

def ptr (o : Option Nat) : Option Addr := o.map fun g => ⟨g, 0, none⟩
def winO (ty : TypeId) (p : Option Nat) (o : Option Wi) : Asr := match p, o with
  | some g, some w => winA g ty w
  | none, none => emp'
  | _, _ => pur False
def talO (p : Option Nat) (o : Option Wi) : Asr := match p, o with
  | some g, some w => tallyA g w
  | none, none => emp'
  | _, _ => pur False
theorem Good.winO {ty : TypeId} {p : Option Nat} {o : Option Wi} : Good (winO ty p o) := by
  unfold Go.Proofs.YtmidcnfnmnhifaaGreat.winO
  split
  · exact Good.win
  · exact Good.emp
  · exact Good.pur
theorem Good.talO {p : Option Nat} {o : Option Wi} : Good (talO p o) := by
  unfold Go.Proofs.YtmidcnfnmnhifaaGreat.talO
  split
  · exact Good.tal
  · exact Good.emp
  · exact Good.pur
theorem Ex.At.mono {F F' : HP} (h : F.le F') : ∀ {e : Ex} {cs : List Value}, e.At F cs → e.At F' cs := by
  have key : ∀ N, (∀ e : Ex, e.size ≤ N → ∀ cs, e.At F cs → e.At F' cs) ∧ (∀ es : List Ex, sizes es ≤ N → ∀ p i, ExsAt F es p i → ExsAt F' es p i) := by
    intro N
    induction N with
    | zero =>
      refine ⟨fun e he => by have := e.size_pos; omega, fun es he p i hx => ?_⟩
      cases es with
      | nil => trivial
      | cons e es => simp only [sizes] at he; have := e.size_pos; omega
    | succ N ih =>
      refine ⟨fun e he cs hx => ?_, fun es => ?_⟩
      · obtain ⟨k, s, n, a, b, ks⟩ := e
        simp only [Ex.At] at hx ⊢
        simp only [Ex.size] at he
        obtain ⟨p, c, h1, h2⟩ := hx
        exact ⟨p, c, h1, ih.2 ks (by omega) p 0 h2⟩
      · induction es with
        | nil => intro _ p i _; trivial
        | cons e es ih2 =>
          intro he p i hx
          simp only [sizes] at he
          simp only [ExsAt] at hx ⊢
          have := e.size_pos
          obtain ⟨⟨x, cs, h1, h2, h3⟩, h4⟩ := hx
          refine ⟨⟨x, cs, h1, h.has h2, ?_⟩, ih2 (by omega) p (i + 1) h4⟩
          by_cases hz : e.size ≤ N
          · exact ih.1 e hz cs h3
          · obtain ⟨k, s, n, a, b, ks⟩ := e
            simp only [Ex.At] at h3 ⊢
            simp only [Ex.size] at he hz
            obtain ⟨p', c', h5, h6⟩ := h3
            exact ⟨p', c', h5, ih.2 ks (by omega) p' 0 h6⟩
  intro e cs
  exact (key e.size).1 e (Nat.le_refl _) cs

theorem ExsAt.mono {F F' : HP} (h : F.le F') : ∀ {es : List Ex} {p : Option Addr} {i : Nat}, ExsAt F es p i → ExsAt F' es p i
  | [], _, _, _ => trivial
  | e :: es, p, i, hx => by
    simp only [ExsAt] at hx ⊢
    obtain ⟨⟨x, cs, h1, h2, h3⟩, h4⟩ := hx
    exact ⟨⟨x, cs, h1, h.has h2, h3.mono h⟩, ExsAt.mono h h4⟩

/-- a node's own blocks -/
def nodB (e : Ex) (kp : Option Addr) (kl kc : Nat) (o s t : Option Wi) (prev : Bool) (g : Nat) : Asr := ex fun x : List Value × Option Nat × Option Nat × Option Nat =>
  also (fz fun F => e.At F x.1) ((sepc (blk g 165 (x.1 ++ [.slice kp kl kc, .pointer (ptr x.2.1), .pointer (ptr x.2.2.1), .pointer (ptr x.2.2.2), .bool prev])) (sepc (winO 259 x.2.1 o) (sepc (winO 260 x.2.2.1 s) (talO x.2.2.2 t)))))

theorem Good.nodB {e : Ex} {kp : Option Addr} {kl kc : Nat} {o s t : Option Wi} {prev : Bool} {g : Nat} : Good (nodB e kp kl kc o s t prev g) :=
  Good.ex fun _ => Good.also (Good.fz fun _ _ hl h => h.mono hl) (Good.star Good.blk (Good.star Good.winO (Good.star Good.winO Good.talO)))

section
variable {a : Base} {R : Asr} {F H : HP} {S : List Nat}

theorem Ex.At.cells {F : HP} {k n x y : Int} {s : ByteArray} {ks : List Ex} {cs : List Value} (h : (Ex.mk k s n x y ks).At F cs) : ∃ p c, cs = exCells k s n x y p ks.length c := by
  simp only [Ex.At] at h
  obtain ⟨p, c, h1, _⟩ := h
  exact ⟨p, c, h1⟩

/-- what a node's block says -/
theorem nodB_has {k n x y : Int} {nm : ByteArray} {ks : List Ex} {kp : Option Addr} {kl kc : Nat} {o s t : Option Wi} {prev : Bool} {g : Nat} (h : ((sepc (nodB (.mk k nm n x y ks) kp kl kc o s t prev g) R)) F H S) :
    ∃ p c po ps pt, (Ex.mk k nm n x y ks).At F (exCells k nm n x y p ks.length c) ∧ H.has ⟨g, 0, none⟩ (exCells k nm n x y p ks.length c) ∧ H.has ⟨g, 0, none⟩ [.int .i64 k] ∧ H.has ⟨g, 6, none⟩ [.slice kp kl kc] ∧
      H.has ⟨g, 7, none⟩ [.pointer (ptr po)] ∧ H.has ⟨g, 8, none⟩ [.pointer (ptr ps)] ∧ H.has ⟨g, 9, none⟩ [.pointer (ptr pt)] ∧ H.has ⟨g, 10, none⟩ [.bool prev] ∧
      ((sepc (blk g 165 (exCells k nm n x y p ks.length c ++ [.slice kp kl kc, .pointer (ptr po), .pointer (ptr ps), .pointer (ptr pt), .bool prev])) (sepc (winO 259 po o) (sepc (winO 260 ps s) (sepc (talO pt t) R))))) F H S := by
  obtain ⟨S1, S2, i1, i2, idj, ⟨⟨cs, po, ps, pt⟩, he, hA⟩, hR⟩ := h
  obtain ⟨p, c, rfl⟩ := Ex.At.cells he
  have h' := star_assoc (⟨S1, S2, i1, i2, idj, hA, hR⟩ : ((sepc ((sepc (blk g 165 (exCells k nm n x y p ks.length c ++ [.slice kp kl kc, .pointer (ptr po), .pointer (ptr ps), .pointer (ptr pt), .bool prev])) (sepc (winO 259 po o) (sepc (winO 260 ps s) (talO pt t))))) R)) F H S)
  have h'' := star_mono (fun _ h => h) (fun _ h => star_mono (fun _ h => h) (fun _ h => star_assoc h) (star_assoc h)) h'
  exact ⟨p, c, po, ps, pt, he, blk_has h' rfl, blk_has h' rfl, blk_has h' rfl, blk_has h' rfl, blk_has h' rfl, blk_has h' rfl, blk_has h' rfl, h''⟩

theorem nodB_mk {e : Ex} {cs : List Value} {kp : Option Addr} {kl kc : Nat} {o s t : Option Wi} {prev : Bool} {g : Nat} {po ps pt : Option Nat} (he : e.At F cs)
    (h : ((sepc (blk g 165 (cs ++ [.slice kp kl kc, .pointer (ptr po), .pointer (ptr ps), .pointer (ptr pt), .bool prev])) (sepc (winO 259 po o) (sepc (winO 260 ps s) (sepc (talO pt t) R))))) F H S) : ((sepc (nodB e kp kl kc o s t prev g) R)) F H S := by
  refine star_mono (A := (sepc (blk g 165 (cs ++ [.slice kp kl kc, .pointer (ptr po), .pointer (ptr ps), .pointer (ptr pt), .bool prev])) (sepc (winO 259 po o) (sepc (winO 260 ps s) (talO pt t))))) (fun S' hs => ⟨(cs, po, ps, pt), he, hs⟩) (fun _ h => h) ?_
  exact star_assoc' (star_mono (fun _ h => h) (fun _ h => star_assoc' (star_mono (fun _ h => h) (fun _ h => star_assoc' h) h)) h)

theorem fin164 (b : Bool) {Q : Ending → W} (hQ : Q (.returned (.agg ⟨flat (Va.bool b)⟩)) H) :
    WCall Tryz.prog Q 164 #[.bool b] (WOpen (.one (.agg [(.i .i64), (.i .i64), .s, .sl])) fun (x : Int) (x1 : Int) (x2 : ByteArray) (x3 : Option Go.Addr) (x4 : Nat) (x5 : Nat) => Q (.returned (.agg #[.int .i64 x, .int .i64 x1, .string x2, .slice x3 x4 x5]))) H :=
  WCall.pure (vbool b) (WOpen.va hQ)
theorem fin161 (n : Int) {Q : Ending → W} (hQ : Q (.returned (.agg ⟨flat (Va.int n)⟩)) H) :
    WCall Tryz.prog Q 161 #[.int .i64 n] (WOpen (.one (.agg [(.i .i64), (.i .i64), .s, .sl])) fun (x : Int) (x1 : Int) (x2 : ByteArray) (x3 : Option Go.Addr) (x4 : Nat) (x5 : Nat) => Q (.returned (.agg #[.int .i64 x, .int .i64 x1, .string x2, .slice x3 x4 x5]))) H :=
  WCall.pure (vint n) (WOpen.va hQ)

def eyeV (gs : Nat) (x : Mo) : Value := .agg #[.pointer (some ⟨gs, 0, none⟩), .int .i64 x.a, .string x.act, .string x.subj, .string x.obj]

def attrV (σ : Sto) (x : Mo) (k : Int) (s : ByteArray) : Res := match σ.get (if k = 5 then x.subj else x.obj) s with
  | some v => .ok v
  | none => .error 14

theorem attr173 {gs : Nat} {σ : Sto} {x : Mo} {k n y z : Int} {s : ByteArray} {p : Option Addr} {l c : Nat} (gr : Good R) (h : Wd a R F H S) (hs : StoH F H gs σ) (ok : σ.Ok) (h1 : x.subj.size ≤ maxLen) (h2 : x.obj.size ≤ maxLen) (h3 : s.size ≤ maxLen) :
    Den.Spec Tryz.prog 173 #[eyeV gs x, .agg #[.int .i64 k, .string s, .int .i64 n, .int .i64 y, .int .i64 z, .slice p l c]] H fun e H' => ∃ F', RVal F' (attrV σ x k s) e ∧ F.le F' ∧ Wd a R F' H' S := by
  refine spec173 ?_
  unfold attrV
  have fin : ∀ {ent : ByteArray} {v : Value} {F' H' : HP}, GetV F' (σ.get ent s) v → F.le F' → Wd a R F' H' S →
      WOpen (.tup [(.agg [(.i .i64), (.i .i64), .s, .sl]), (.l .b)]) (fun (x1 : Int) (x1_1 : Int) (x1_2 : ByteArray) (x1_3 : Option Go.Addr) (x1_4 : Nat) (x1_5 : Nat) (x1_6 : Bool) =>
       WCall Tryz.prog (fun (e : Ending) H' => ∃ F', RVal F' (match σ.get ent s with | some v => .ok v | none => .error 14) e ∧ F.le F' ∧ Wd a R F' H' S) 159 #[(.bool x1_6), (.int .i64 14)] (WOpen (.tup []) <|
       (fun (e : Ending) H' => ∃ F', RVal F' (match σ.get ent s with | some v => .ok v | none => .error 14) e ∧ F.le F' ∧ Wd a R F' H' S) (.returned (.agg #[(.int .i64 x1), (.int .i64 x1_1), (.string x1_2), (.slice x1_3 x1_4 x1_5)])))) v H' := by
    intro ent v F' H' hg hle hw
    unfold GetV at hg
    cases hget : σ.get ent s with
    | none =>
      rw [hget] at hg
      simp only at hg
      subst hg
      exact WOpen.vab (need_no rfl ⟨F', rfl, hle, hw⟩)
    | some u =>
      rw [hget] at hg
      obtain ⟨cs, hu, rfl⟩ := hg
      have hu' := hu
      obtain ⟨p, c, rfl, hp⟩ := hu
      exact WOpen.vab (need_ok (P := Tryz.prog) rfl (WOpen.u ⟨F', ⟨_, rfl, hu'⟩, hle, hw⟩))
  by_cases hk : k = 5
  · rw [if_pos hk]
    refine WIf.t (by simp [hk]) (WCall.of (get59 gr h hs ok h1 h3) ?_ (by rintro e H' ⟨v, F', hv, _⟩ hne; exact absurd hv (hne _)))
    rintro v H' ⟨v', F', hv, hg, hle, hw⟩
    cases hv
    exact fin hg hle hw
  · rw [if_neg hk]
    refine WIf.f (by simp [hk]) (WCall.of (get59 gr h hs ok h2 h3) ?_ (by rintro e H' ⟨v, F', hv, _⟩ hne; exact absurd hv (hne _)))
    rintro v H' ⟨v', F', hv, hg, hle, hw⟩
    cases hv
    exact fin hg hle hw

def isAct (x : Mo) (s : ByteArray) : Bool := !(decide (x.act = nos)) && decide (x.act = s)

def leafV (σ : Sto) (x : Mo) (k : Int) (nm : ByteArray) (n : Int) (ks : List Ex) (t : Option Wi) : Res × Option Wi :=
  if k = 2 then (.ok (Va.bool (n == 1)), t) else if k = 3 then (.ok (Va.text nm), t) else if k = 4 then (.ok (setVa ks), t)
  else if k = 5 ∨ k = 6 then (attrV σ x k nm, t) else if k = 7 then (.ok (Va.int x.a), t) else if k = 21 then (.ok (Va.bool (isAct x nm)), t)
  else if k = 13 then match t with
    | some w => (.ok (Va.int (sumD 0 (w.tally x.a (isAct x nm)).d)), some (w.tally x.a (isAct x nm)))
    | none => (.error 0, none)
  else (.ok (Va.int n), t)

theorem leaf104 {gs g : Nat} {σ : Sto} {x : Mo} {k n y z : Int} {nm : ByteArray} {ks : List Ex} {kp : Option Addr} {kl kc : Nat} {o s t : Option Wi} {prev : Bool} (gr : Good R) (h : Wd a ((sepc (nodB (.mk k nm n y z ks) kp kl kc o s t prev g) R)) F H S)
    (hs : StoH F H gs σ) (ok : σ.Ok) (h1 : x.subj.size ≤ maxLen) (h2 : x.obj.size ≤ maxLen) (h3 : nm.size ≤ maxLen) (h4 : k = 4 → ks.length ≤ 8 ∧ risesB (names ks) = true) (h5 : k = 13 → ∃ w, t = some w ∧ w.d.length < 900000000) :
    Den.Spec Tryz.prog 104 #[eyeV gs x, .pointer (some ⟨g, 0, none⟩)] H fun e H' => ∃ F' S', RVal F' (leafV σ x k nm n ks t).1 e ∧ F.le F' ∧ Wd a ((sepc (nodB (.mk k nm n y z ks) kp kl kc o s (leafV σ x k nm n ks t).2 prev g) R)) F' H' S' := by
  obtain ⟨p, c, po, ps, pt, hex, hcells, _, _, _, _, hpt, _, hparts⟩ := nodB_has h.it
  refine spec104 (WNonNil.some (WLoad.ex (by rw [addN]; exact hcells) ?_))
  have done : ∀ {v : Va}, v.l = [] → Wd a ((sepc (nodB (.mk k nm n y z ks) kp kl kc o s t prev g) R)) F H S → ∃ F' S', RVal F' (.ok v) (.returned (.agg ⟨flat v⟩)) ∧ F.le F' ∧ Wd a ((sepc (nodB (.mk k nm n y z ks) kp kl kc o s t prev g) R)) F' H S' :=
    fun hl hw => ⟨F, S, ⟨_, rfl, flat_at hl⟩, HP.le.refl F, hw⟩
  unfold leafV
  by_cases k2 : k = 2
  · simp only [if_pos k2]
    exact WIf.t (by simp [k2]) (fin164 _ (done rfl h))
  simp only [if_neg k2]
  refine WIf.f (by simp [k2]) ?_
  by_cases k3 : k = 3
  · simp only [if_pos k3]
    exact WIf.t (by simp [k3]) (WCall.pure (vtext _) (WOpen.va (done rfl h)))
  simp only [if_neg k3]
  refine WIf.f (by simp [k3]) ?_
  by_cases k4 : k = 4
  · simp only [if_pos k4]
    refine WIf.t (by simp [k4]) (WCall.grow (Good.star Good.nodB gr) h (set172 hex (h4 k4).1 (h4 k4).2) ?_)
    rintro v F' H' ⟨cs, rfl, hcs⟩ hle hw
    have hcs' := hcs
    obtain ⟨p', c', rfl, hp'⟩ := hcs
    exact WOpen.va ⟨F', S, ⟨_, rfl, hcs'⟩, hle, hw⟩
  simp only [if_neg k4]
  refine WIf.f (by simp [k4]) ?_
  have attr : (k = 5 ∨ k = 6) → WCall Tryz.prog (fun (e : Ending) H' => ∃ F' S', RVal F' (attrV σ x k nm) e ∧ F.le F' ∧ Wd a ((sepc (nodB (.mk k nm n y z ks) kp kl kc o s t prev g) R)) F' H' S') 173 #[eyeV gs x, (.agg #[(.int .i64 k), (.string nm), (.int .i64 n), (.int .i64 y), (.int .i64 z), (.slice p ks.length c)])] (WOpen (.one (.agg [(.i .i64), (.i .i64), .s, .sl])) fun (x6 : Int) (x6_1 : Int) (x6_2 : ByteArray) (x6_3 : Option Go.Addr) (x6_4 : Nat) (x6_5 : Nat) =>
      (fun (e : Ending) H' => ∃ F' S', RVal F' (attrV σ x k nm) e ∧ F.le F' ∧ Wd a ((sepc (nodB (.mk k nm n y z ks) kp kl kc o s t prev g) R)) F' H' S') (.returned (.agg #[(.int .i64 x6), (.int .i64 x6_1), (.string x6_2), (.slice x6_3 x6_4 x6_5)]))) H := by
    intro _
    refine WCall.of (attr173 (Good.star Good.nodB gr) h hs ok h1 h2 h3) ?_ ?_
    · rintro v H' ⟨F', hr, hle, hw⟩
      cases hres : attrV σ x k nm with
      | ok u =>
        rw [hres] at hr
        obtain ⟨cs, hv, hu⟩ := hr
        cases hv
        have hu' := hu
        obtain ⟨p', c', rfl, hp'⟩ := hu
        exact WOpen.va ⟨F', S, ⟨_, rfl, hu'⟩, hle, hw⟩
      | error c => rw [hres] at hr; cases hr
    · rintro e H' ⟨F', hr, hle, hw⟩ hne
      exact ⟨F', S, hr, hle, hw⟩
  by_cases k5 : k = 5
  · simp only [if_pos (Or.inl k5 : k = 5 ∨ k = 6)]
    exact WIf.t (by simp [k5]) (attr (.inl k5))
  refine WIf.f (by simp [k5]) ?_
  by_cases k6 : k = 6
  · simp only [if_pos (Or.inr k6 : k = 5 ∨ k = 6)]
    exact WIf.t (by simp [k6]) (attr (.inr k6))
  simp only [if_neg (fun h => h.elim k5 k6 : ¬ (k = 5 ∨ k = 6))]
  refine WIf.f (by simp [k6]) ?_
  by_cases k7 : k = 7
  · simp only [if_pos k7]
    exact WIf.t (by simp [k7]) (fin161 _ (done rfl h))
  simp only [if_neg k7]
  refine WIf.f (by simp [k7]) ?_
  have hact : ∀ {b : Bool}, (!((ByteArray.toList x.act) == (ByteArray.toList (ByteArray.mk #[])))) = b → b = !decide (x.act = nos) := fun h => by rw [← h, toList_inj]
  by_cases k21 : k = 21
  · simp only [if_pos k21]
    refine WIf.t (by simp [k21]) (WIf.intro (fun hb => ?_) (fun hb => ?_))
    · have e1 : isAct x nm = (ByteArray.toList x.act == ByteArray.toList nm) := by unfold isAct; rw [← hact hb, toList_inj]; rfl
      rw [e1]
      exact fin164 _ (done rfl h)
    · have e1 : isAct x nm = false := by unfold isAct; rw [← hact hb]; rfl
      rw [e1]
      exact fin164 _ (done rfl h)
  simp only [if_neg k21]
  refine WIf.f (by simp [k21]) ?_
  by_cases k13 : k = 13
  · simp only [if_pos k13]
    obtain ⟨w, rfl, hw⟩ := h5 k13
    obtain ⟨gt, rfl⟩ : ∃ gt, pt = some gt := by
      cases pt with
      | some gt => exact ⟨gt, rfl⟩
      | none =>
        obtain ⟨_, _, _, _, _, _, h⟩ := hparts
        obtain ⟨_, _, _, _, _, _, h⟩ := h
        obtain ⟨_, _, _, _, _, _, h⟩ := h
        obtain ⟨_, _, _, _, _, h, _⟩ := h
        exact h.elim
    refine WIf.t (by simp [k13]) (WNonNil.some (WLoad.p (by rw [addN]; exact hpt) ?_))
    have step : ∀ b : Bool, b = isAct x nm → WCall Tryz.prog (fun (e : Ending) H' => ∃ F' S', RVal F' (.ok (Va.int (sumD 0 (w.tally x.a (isAct x nm)).d))) e ∧ F.le F' ∧ Wd a ((sepc (nodB (.mk k nm n y z ks) kp kl kc o s (some (w.tally x.a (isAct x nm))) prev g) R)) F' H' S') 174 #[(.pointer (ptr (some gt))), (.int .i64 x.a), (.bool b)] (WOpen (.one (.l (.i .i64))) fun (x13 : Int) =>
        WCall Tryz.prog (fun (e : Ending) H' => ∃ F' S', RVal F' (.ok (Va.int (sumD 0 (w.tally x.a (isAct x nm)).d))) e ∧ F.le F' ∧ Wd a ((sepc (nodB (.mk k nm n y z ks) kp kl kc o s (some (w.tally x.a (isAct x nm))) prev g) R)) F' H' S') 161 #[(.int .i64 x13)] (WOpen (.one (.agg [(.i .i64), (.i .i64), .s, .sl])) fun (x14 : Int) (x14_1 : Int) (x14_2 : ByteArray) (x14_3 : Option Go.Addr) (x14_4 : Nat) (x14_5 : Nat) =>
        (fun (e : Ending) H' => ∃ F' S', RVal F' (.ok (Va.int (sumD 0 (w.tally x.a (isAct x nm)).d))) e ∧ F.le F' ∧ Wd a ((sepc (nodB (.mk k nm n y z ks) kp kl kc o s (some (w.tally x.a (isAct x nm))) prev g) R)) F' H' S') (.returned (.agg #[(.int .i64 x14), (.int .i64 x14_1), (.string x14_2), (.slice x14_3 x14_4 x14_5)])))) H := by
      intro b hb
      rw [← hb]
      have hw' : Wd a ((sepc (tallyA gt w) (sepc (blk g 165 (exCells k nm n y z p ks.length c ++ [.slice kp kl kc, .pointer (ptr po), .pointer (ptr ps), .pointer (ptr (some gt)), .bool prev])) (sepc (winO 259 po o) (sepc (winO 260 ps s) R))))) F H S :=
        ⟨h.wd, h.tr, star_left (star_mono (fun _ h => h) (fun _ h => star_left (star_mono (fun _ h => h) (fun _ h => star_left h) h)) hparts)⟩
      refine WCall.of (tally174 x.a b (Good.star Good.blk (Good.star Good.winO (Good.star Good.winO gr))) hw' hw) ?_ (by rintro e H' ⟨hv, _⟩ hne; exact absurd hv (hne _))
      rintro v H' ⟨hv, S', h'⟩
      cases hv
      refine WOpen.i (fin161 _ ⟨F, S', ⟨_, rfl, flat_at rfl⟩, HP.le.refl F, h'.imp fun hh => ?_⟩)
      refine nodB_mk (po := po) (ps := ps) (pt := some gt) hex ?_
      exact star_mono (fun _ h => h) (fun _ h => star_mono (fun _ h => h) (fun _ h => star_left h) (star_left h)) (star_left hh)
    refine WIf.intro (fun hb => ?_) (fun hb => ?_)
    · exact step _ (by unfold isAct; rw [← hact hb, toList_inj]; rfl)
    · exact step _ (by unfold isAct; rw [← hact hb]; rfl)
  simp only [if_neg k13]
  exact WIf.f (by simp [k13]) (fin161 _ (done rfl h))
end
end Go.Proofs.YtmidcnfnmnhifaaGreat
