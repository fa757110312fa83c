/-
  Packages window, tally.
-/
import Derived.Test.YtmidcnfnmnhifaaGreatZDqx
import Derived.Test.YtmidcnfnmnhifaaGreatZWza
import Derived.Test.YtmidcnfnmnhifaaGreatZWzb
import Derived.Test.YtmidcnfnmnhifaaGreatZWzc
namespace Go.Proofs.YtmidcnfnmnhifaaGreat
set_option linter.unusedSectionVars false
set_option linter.unusedSimpArgs false
set_option linter.unusedVariables false
open Go Go.Den
set_option linter.unusedVariables false

/-- a window -/
structure Wi where
  lo : Int
  hi : Int
  last : Int
  d : List (Int × Int)

def Wi.pre (w : Wi) : List Value := [.bool true, .int .i64 w.lo, .int .i64 w.hi, .int .i64 w.last]
def winA (g : Nat) (ty : TypeId) (w : Wi) : Asr := dqA g ty w.pre [] w.d
/-- a tally: hi, last -/
def tallyA (g : Nat) (w : Wi) : Asr := dqA g 262 [.bool true, .int .i64 w.hi, .int .i64 w.last] [] w.d

def maxI (a b : Int) : Int := if a < b then b else a
def Wi.come (w : Wi) (at' : Int) : Wi :=
  if w.hi ≠ -1 then { w with last := maxI w.last at', d := pruneD w.d (IntKind.wrap .i64 (maxI w.last at' - w.hi)) } else { w with last := maxI w.last at' }
def Wi.put (w : Wi) : Wi := if w.hi ≠ -1 ∨ w.d.length = 0 then { w with d := (pushD w.d w.last).1 } else w
def Wi.was (w : Wi) : Bool := match w.d with
  | [] => false
  | c :: _ => decide (c.1 ≤ IntKind.wrap .i64 (w.last - w.lo))
def Wi.once (w : Wi) (at' : Int) (f : Bool) : Wi := if f then (w.come at').put else w.come at'
def Wi.since (w : Wi) (at' : Int) (f g : Bool) : Wi :=
  let v := if f then w.come at' else { w.come at' with d := [] }
  if g then v.put else v
def Wi.tally (w : Wi) (at' : Int) (is : Bool) : Wi :=
  let v : Wi := { w with last := maxI w.last at', d := pruneD w.d (IntKind.wrap .i64 (maxI w.last at' - w.hi)) }
  if is then { v with d := (pushD v.d v.last).1 } else v

theorem pushD_length (l : List (Int × Int)) (t : Int) : (pushD l t).1.length ≤ l.length + 1 := by
  unfold pushD
  split
  · simp
  · rename_i c h
    split
    · simp
    · split
      · have : 0 < l.length := by cases l with
          | nil => cases h
          | cons => simp
        simp only [List.length_append, List.length_dropLast, List.length_singleton]
        omega
      · simp
theorem pruneD_length (l : List (Int × Int)) (f : Int) : (pruneD l f).length ≤ l.length := by
  rw [prune_drop, List.length_drop]
  omega
theorem Wi.come_length (w : Wi) (t : Int) : (w.come t).d.length ≤ w.d.length := by
  unfold Wi.come
  split
  · exact pruneD_length _ _
  · exact Nat.le_refl _
theorem Wi.put_length (w : Wi) : w.put.d.length ≤ w.d.length + 1 := by
  unfold Wi.put
  split
  · exact pushD_length _ _
  · omega

section
variable {a : Base} {R : Asr} {F H : HP} {S : List Nat}

theorem dqA_has {g : Nat} {e : TypeId} {pre post : List Value} {l : List (Int × Int)} {off : Nat} {v : Value} (h : ((sepc (dqA g e pre post l) R)) F H S) (hv : pre[off]? = some v) : H.has ⟨g, off, none⟩ [v] := by
  obtain ⟨S1, S2, i1, i2, idj, ⟨⟨p, c⟩, h1⟩, h2⟩ := h
  refine blk_has h1 ?_
  have hlt : off < pre.length := (List.getElem?_eq_some_iff.1 hv).1
  rw [List.drop_append_of_le_length (by omega), List.drop_eq_getElem_cons hlt]
  simp [(List.getElem?_eq_some_iff.1 hv).2]

theorem dqA_store {g : Nat} {e : TypeId} {pre post : List Value} {l : List (Int × Int)} {off : Nat} {v : Value} {k : W} (gr : Good R) (h : Wd a ((sepc (dqA g e pre post l) R)) F H S) (hlt : off < pre.length)
    (hk : ∀ H', Wd a ((sepc (dqA g e (pre.set off v) post l) R)) F H' S → k H') : WStore ⟨g, off, none⟩ [v] k H := by
  obtain ⟨wd, tr, S1, S2, i1, i2, idj, ⟨⟨p, c⟩, hA⟩, hR⟩ := h
  have h : Wd a ((sepc ((sepc (blk g e (pre ++ .slice p l.length c :: post)) (ownS 292 2 p l.length c (cellsD l)))) R)) F H S := ⟨wd, tr, S1, S2, i1, i2, idj, hA, hR⟩
  refine WStore.blk (Good.star Good.ownS gr) (h.imp star_assoc) (by simp; omega) fun H2 h2 => hk H2 (h2.imp fun hh => ?_)
  have : writeL (pre ++ .slice p l.length c :: post) off [v] = pre.set off v ++ .slice p l.length c :: post := by
    unfold writeL
    rw [List.take_append_of_le_length (by omega), List.drop_append_of_le_length (by simp; omega), List.set_eq_take_append_cons_drop, if_pos hlt]
    simp
  rw [this] at hh
  exact star_mono (fun T hT => ⟨(p, c), hT⟩) (fun _ h => h) (star_assoc' hh)

def startW (lo hi : Int) : Wi := ⟨maxI' lo 0, if hi ≠ -1 then maxI' hi (maxI' lo 0) else hi, 0, []⟩
where maxI' (a b : Int) : Int := if a < b then b else a

theorem start216 (lo hi : Int) : Pure Tryz.prog 216 #[.int .i64 lo, .int .i64 hi] H (.agg ⟨(startW lo hi).pre ++ [.slice none 0 0]⟩) := by
  refine Pure.of (spec216 ?_)
  by_cases h : hi = -1
  · exact WIf.f (by simp [h]) ⟨by unfold startW; rw [h]; rfl, HP.le.refl H⟩
  · exact WIf.t (by simp [h]) ⟨by unfold startW; rw [if_pos h]; rfl, HP.le.refl H⟩

theorem WOpen.win {b : Bool} {x y z : Int} {p : Option Addr} {l c : Nat} {body : Bool → Int → Int → Int → Option Addr → Nat → Nat → W} (h : body b x y z p l c H) :
    WOpen (.one (.agg [.b, (.i .i64), (.i .i64), (.i .i64), .sl])) body (.agg ⟨[.bool b, .int .i64 x, .int .i64 y, .int .i64 z, .slice p l c]⟩) H := ⟨(b, x, y, z, (p, l, c), ()), rfl, h⟩

theorem new_dq {g : Nat} {e : TypeId} {pre : List Value} (h : ((sepc (blk g e (pre ++ [.slice none 0 0])) R)) F H S) : ((sepc (dqA g e pre [] []) R)) F H S :=
  star_mono (fun _ h => ⟨(none, 0), star_mono (fun _ h => h) (fun _ _ => ownS_nil) (star_emp h)⟩) (fun _ h => h) h

theorem newOnce146 (lo hi : Int) (gr : Good R) (h : Wd a R F H S) :
    Den.Spec Tryz.prog 146 #[.int .i64 lo, .int .i64 hi] H fun e H' => ∃ g S', e = .returned (.pointer (some ⟨g, 0, none⟩)) ∧ Wd a ((sepc (winA g 259 (startW lo hi)) R)) F H' S' := by
  refine spec146 (WCall.pure (start216 lo hi) (WOpen.win ?_))
  exact WNew.blk gr h fun g H1 hg hle h1 => ⟨g, _, rfl, h1.imp fun hh => new_dq (pre := (startW lo hi).pre) hh⟩
theorem newSince147 (lo hi : Int) (gr : Good R) (h : Wd a R F H S) :
    Den.Spec Tryz.prog 147 #[.int .i64 lo, .int .i64 hi] H fun e H' => ∃ g S', e = .returned (.pointer (some ⟨g, 0, none⟩)) ∧ Wd a ((sepc (winA g 260 (startW lo hi)) R)) F H' S' := by
  refine spec147 (WCall.pure (start216 lo hi) (WOpen.win ?_))
  exact WNew.blk gr h fun g H1 hg hle h1 => ⟨g, _, rfl, h1.imp fun hh => new_dq (pre := (startW lo hi).pre) hh⟩
theorem newTally148 (hi : Int) (gr : Good R) (h : Wd a R F H S) :
    Den.Spec Tryz.prog 148 #[.int .i64 hi] H fun e H' => ∃ g S', e = .returned (.pointer (some ⟨g, 0, none⟩)) ∧ Wd a ((sepc (tallyA g ⟨0, maxI hi 0, 0, []⟩) R)) F H' S' := by
  refine spec148 ?_
  exact WNew.blk gr h fun g H1 hg hle h1 => ⟨g, _, rfl, h1.imp fun hh => new_dq (pre := [.bool true, .int .i64 (maxI hi 0), .int .i64 0]) hh⟩

theorem winPrune {g : Nat} {ty : TypeId} {w : Wi} (f : Int) (gr : Good R) (h : Wd a ((sepc (winA g ty w) R)) F H S) (hlen : w.d.length < 1000000000) :
    Den.Spec Tryz.prog 234 #[.pointer (some ⟨g, 4, none⟩), .int .i64 f] H fun e' H' => e' = .returned (.int .i64 (pruneN w.d f)) ∧ ∃ S', Wd a ((sepc (winA g ty { w with d := pruneD w.d f }) R)) F H' S' :=
  prune234 (g := g) (e := ty) (pre := w.pre) (post := []) (l := w.d) f gr h hlen
theorem winPush {g : Nat} {ty : TypeId} {w : Wi} (f : Int) (gr : Good R) (h : Wd a ((sepc (winA g ty w) R)) F H S) (hlen : w.d.length < 1000000000) :
    Den.Spec Tryz.prog 235 #[.pointer (some ⟨g, 4, none⟩), .int .i64 f] H fun e' H' => e' = .returned (.bool (pushD w.d f).2) ∧ ∃ S', Wd a ((sepc (winA g ty { w with d := (pushD w.d f).1 }) R)) F H' S' :=
  push235 (g := g) (e := ty) (pre := w.pre) (post := []) (l := w.d) f gr h hlen
theorem winClear {g : Nat} {ty : TypeId} {w : Wi} (gr : Good R) (h : Wd a ((sepc (winA g ty w) R)) F H S) :
    Den.Spec Tryz.prog 232 #[.pointer (some ⟨g, 4, none⟩)] H fun e' H' => e' = .returned (.tuple #[]) ∧ ∃ S', Wd a ((sepc (winA g ty { w with d := [] }) R)) F H' S' :=
  clear232 (g := g) (e := ty) (pre := w.pre) (post := []) (l := w.d) gr h
theorem winDq {g : Nat} {ty : TypeId} {w : Wi} (h : ((sepc (winA g ty w) R)) F H S) : DqH H ⟨g, 4, none⟩ w.d := dqA_read (pre := w.pre) (post := []) h
theorem talPrune {g : Nat} {w : Wi} (f : Int) (gr : Good R) (h : Wd a ((sepc (tallyA g w) R)) F H S) (hlen : w.d.length < 1000000000) :
    Den.Spec Tryz.prog 234 #[.pointer (some ⟨g, 3, none⟩), .int .i64 f] H fun e' H' => e' = .returned (.int .i64 (pruneN w.d f)) ∧ ∃ S', Wd a ((sepc (tallyA g { w with d := pruneD w.d f }) R)) F H' S' :=
  prune234 (g := g) (e := 262) (pre := [.bool true, .int .i64 w.hi, .int .i64 w.last]) (post := []) (l := w.d) f gr h hlen
theorem talPush {g : Nat} {w : Wi} (f : Int) (gr : Good R) (h : Wd a ((sepc (tallyA g w) R)) F H S) (hlen : w.d.length < 1000000000) :
    Den.Spec Tryz.prog 235 #[.pointer (some ⟨g, 3, none⟩), .int .i64 f] H fun e' H' => e' = .returned (.bool (pushD w.d f).2) ∧ ∃ S', Wd a ((sepc (tallyA g { w with d := (pushD w.d f).1 }) R)) F H' S' :=
  push235 (g := g) (e := 262) (pre := [.bool true, .int .i64 w.hi, .int .i64 w.last]) (post := []) (l := w.d) f gr h hlen
theorem talDq {g : Nat} {w : Wi} (h : ((sepc (tallyA g w) R)) F H S) : DqH H ⟨g, 3, none⟩ w.d := dqA_read (pre := [.bool true, .int .i64 w.hi, .int .i64 w.last]) (post := []) h
theorem Good.win {g : Nat} {ty : TypeId} {w : Wi} : Good (winA g ty w) := Good.dqA
theorem Good.tal {g : Nat} {w : Wi} : Good (tallyA g w) := Good.dqA

theorem come220 {g : Nat} {ty : TypeId} {w : Wi} (t : Int) (gr : Good R) (h : Wd a ((sepc (winA g ty w) R)) F H S) (hlen : w.d.length < 1000000000) :
    Den.Spec Tryz.prog 220 #[.pointer (some ⟨g, 0, none⟩), .int .i64 t] H fun e H' => e = .returned (.int .i64 (maxI w.last t)) ∧ ∃ S', Wd a ((sepc (winA g ty (w.come t)) R)) F H' S' := by
  refine spec220 (WNonNil.some (WLoad.i (n := w.last) (by rw [addN]; exact dqA_has h.it rfl) (WNonNil.some ?_)))
  rw [addN]
  refine dqA_store gr h (by simp [Wi.pre]) fun H1 h1 => WNonNil.some ?_
  have h1 : Wd a ((sepc (winA g ty { w with last := maxI w.last t }) R)) F H1 S := h1
  refine WLoad.i (n := w.hi) (by rw [addN]; exact dqA_has h1.it rfl) ?_
  by_cases hh : w.hi = -1
  · refine WIf.f (by simp [hh]) (WNonNil.some (WLoad.i (n := maxI w.last t) (by rw [addN]; exact dqA_has h1.it rfl) ⟨rfl, S, ?_⟩))
    unfold Wi.come
    rw [if_neg (by simpa using hh)]
    exact h1
  · refine WIf.t (by simp [hh]) (WNonNil.some (WNonNil.some (WLoad.i (n := maxI w.last t) (by rw [addN]; exact dqA_has h1.it rfl) (WNonNil.some (WLoad.i (n := w.hi) (by rw [addN]; exact dqA_has h1.it rfl) ?_)))))
    rw [addN]
    refine WCall.of (winPrune (IntKind.wrap .i64 (maxI w.last t - w.hi)) gr h1 hlen) ?_ ?_
    · rintro v H2 ⟨hv, S2, h2⟩
      cases hv
      refine WOpen.i (WNonNil.some (WLoad.i (n := maxI w.last t) (by rw [addN]; exact dqA_has h2.it rfl) ⟨rfl, S2, ?_⟩))
      unfold Wi.come
      rw [if_pos hh]
      exact h2
    · rintro e H' ⟨hv, _⟩ hne
      exact absurd hv (hne _)

theorem put221 {g : Nat} {ty : TypeId} {w : Wi} (gr : Good R) (h : Wd a ((sepc (winA g ty w) R)) F H S) (hlen : w.d.length < 1000000000) :
    Den.Spec Tryz.prog 221 #[.pointer (some ⟨g, 0, none⟩)] H fun e H' => e = .returned (.tuple #[]) ∧ ∃ S', Wd a ((sepc (winA g ty w.put) R)) F H' S' := by
  refine spec221 (WNonNil.some (WLoad.i (n := w.hi) (by rw [addN]; exact dqA_has h.it rfl) ?_))
  by_cases hh : w.hi = -1
  · refine WIf.f (by simp [hh]) (WNonNil.some ?_)
    rw [addN]
    refine WCall.pure (len217 (winDq h.it)) (WOpen.i ?_)
    by_cases h0 : w.d.length = 0
    · refine WIf.t (by simp [h0]) (WNonNil.some (WNonNil.some (WLoad.i (n := w.last) (by rw [addN]; exact dqA_has h.it rfl) ?_)))
      rw [addN]
      refine WCall.of (winPush w.last gr h hlen) ?_ ?_
      · rintro v H2 ⟨hv, S2, h2⟩
        cases hv
        refine WOpen.b ⟨rfl, S2, ?_⟩
        unfold Wi.put
        rw [if_pos (.inr h0)]
        exact h2
      · rintro e H' ⟨hv, _⟩ hne
        exact absurd hv (hne _)
    · refine WIf.f (beq_false_of_ne (by omega)) ⟨rfl, S, ?_⟩
      unfold Wi.put
      rw [if_neg (fun hc => hc.elim (fun hx => hx hh) h0)]
      exact h
  · refine WIf.t (by simp [hh]) (WNonNil.some (WNonNil.some (WLoad.i (n := w.last) (by rw [addN]; exact dqA_has h.it rfl) ?_)))
    rw [addN]
    refine WCall.of (winPush w.last gr h hlen) ?_ ?_
    · rintro v H2 ⟨hv, S2, h2⟩
      cases hv
      refine WOpen.b ⟨rfl, S2, ?_⟩
      unfold Wi.put
      rw [if_pos (.inl hh)]
      exact h2
    · rintro e H' ⟨hv, _⟩ hne
      exact absurd hv (hne _)

theorem was222 {g : Nat} {ty : TypeId} {w : Wi} (h : ((sepc (winA g ty w) R)) F H S) : Pure Tryz.prog 222 #[.pointer (some ⟨g, 0, none⟩)] H (.bool w.was) := by
  refine Pure.of (spec222 (WNonNil.some ?_))
  rw [addN]
  refine WCall.pure (first257 (winDq h)) ?_
  unfold firstV Wi.was
  cases w.d with
  | nil => exact WOpen.cb (WIf.f rfl ⟨rfl, HP.le.refl H⟩)
  | cons c l =>
    refine WOpen.cb (WIf.t rfl (WNonNil.some (WLoad.i (n := w.last) (by rw [addN]; exact dqA_has h rfl) (WNonNil.some (WLoad.i (n := w.lo) (by rw [addN]; exact dqA_has h rfl) ⟨rfl, HP.le.refl H⟩)))))

theorem once165 {g : Nat} {ty : TypeId} {w : Wi} (t : Int) (f : Bool) (gr : Good R) (h : Wd a ((sepc (winA g ty w) R)) F H S) (hlen : w.d.length < 1000000000) :
    Den.Spec Tryz.prog 165 #[.pointer (some ⟨g, 0, none⟩), .int .i64 t, .bool f] H fun e H' => e = .returned (.bool (w.once t f).was) ∧ ∃ S', Wd a ((sepc (winA g ty (w.once t f)) R)) F H' S' := by
  refine spec165 (WIf.f rfl (WNonNil.some (WLoad.b (n := true) (by rw [addN, addN]; exact dqA_has h.it rfl) (WIf.f rfl (WNonNil.some ?_)))))
  rw [addN]
  refine WCall.of (come220 t gr h hlen) ?_ (by rintro e H' ⟨hv, _⟩ hne; exact absurd hv (hne _))
  rintro v H1 ⟨hv, S1, h1⟩
  cases hv
  refine WOpen.i ?_
  cases f
  · refine WIf.f rfl (WNonNil.some ?_)
    rw [addN]
    exact WCall.pure (was222 h1.it) (WOpen.b ⟨rfl, S1, h1⟩)
  · refine WIf.t rfl (WNonNil.some ?_)
    rw [addN]
    refine WCall.of (put221 gr h1 (Nat.lt_of_le_of_lt (w.come_length t) hlen)) ?_ (by rintro e H' ⟨hv, _⟩ hne; exact absurd hv (hne _))
    rintro v H2 ⟨hv, S2, h2⟩
    cases hv
    refine WOpen.u (WNonNil.some ?_)
    rw [addN]
    exact WCall.pure (was222 h2.it) (WOpen.b ⟨rfl, S2, h2⟩)

theorem since170 {g : Nat} {ty : TypeId} {w : Wi} (t : Int) (f q : Bool) (gr : Good R) (h : Wd a ((sepc (winA g ty w) R)) F H S) (hlen : w.d.length < 1000000000) :
    Den.Spec Tryz.prog 170 #[.pointer (some ⟨g, 0, none⟩), .int .i64 t, .bool f, .bool q] H fun e H' => e = .returned (.bool (w.since t f q).was) ∧ ∃ S', Wd a ((sepc (winA g ty (w.since t f q)) R)) F H' S' := by
  refine spec170 (WIf.f rfl (WNonNil.some (WLoad.b (n := true) (by rw [addN, addN]; exact dqA_has h.it rfl) (WIf.f rfl (WNonNil.some ?_)))))
  rw [addN]
  refine WCall.of (come220 t gr h hlen) ?_ (by rintro e H' ⟨hv, _⟩ hne; exact absurd hv (hne _))
  rintro v H1 ⟨hv, S1, h1⟩
  cases hv
  refine WOpen.i ?_
  have hl1 : (w.come t).d.length < 1000000000 := Nat.lt_of_le_of_lt (w.come_length t) hlen
  cases f
  · refine WIf.t rfl (WNonNil.some ?_)
    rw [addN, addN]
    refine WCall.of (winClear gr h1) ?_ (by rintro e H' ⟨hv, _⟩ hne; exact absurd hv (hne _))
    rintro v H2 ⟨hv, S2, h2⟩
    cases hv
    have h2 : Wd a ((sepc (winA g ty { w.come t with d := [] }) R)) F H2 S2 := h2
    refine WOpen.u ?_
    cases q
    · refine WIf.f rfl (WNonNil.some ?_)
      rw [addN]
      exact WCall.pure (was222 h2.it) (WOpen.b ⟨rfl, S2, h2⟩)
    · refine WIf.t rfl (WNonNil.some ?_)
      rw [addN]
      refine WCall.of (put221 gr h2 (by simp)) ?_ (by rintro e H' ⟨hv, _⟩ hne; exact absurd hv (hne _))
      rintro v H3 ⟨hv, S3, h3⟩
      cases hv
      refine WOpen.u (WNonNil.some ?_)
      rw [addN]
      exact WCall.pure (was222 h3.it) (WOpen.b ⟨rfl, S3, h3⟩)
  · refine WIf.f rfl ?_
    cases q
    · refine WIf.f rfl (WNonNil.some ?_)
      rw [addN]
      exact WCall.pure (was222 h1.it) (WOpen.b ⟨rfl, S1, h1⟩)
    · refine WIf.t rfl (WNonNil.some ?_)
      rw [addN]
      refine WCall.of (put221 gr h1 hl1) ?_ (by rintro e H' ⟨hv, _⟩ hne; exact absurd hv (hne _))
      rintro v H3 ⟨hv, S3, h3⟩
      cases hv
      refine WOpen.u (WNonNil.some ?_)
      rw [addN]
      exact WCall.pure (was222 h3.it) (WOpen.b ⟨rfl, S3, h3⟩)

theorem tally174 {g : Nat} {w : Wi} (t : Int) (f : Bool) (gr : Good R) (h : Wd a ((sepc (tallyA g w) R)) F H S) (hlen : w.d.length < 900000000) :
    Den.Spec Tryz.prog 174 #[.pointer (some ⟨g, 0, none⟩), .int .i64 t, .bool f] H fun e H' => e = .returned (.int .i64 (sumD 0 (w.tally t f).d)) ∧ ∃ S', Wd a ((sepc (tallyA g (w.tally t f)) R)) F H' S' := by
  refine spec174 (WIf.f rfl (WNonNil.some (WLoad.b (n := true) (by rw [addN]; exact dqA_has h.it rfl) (WIf.f rfl (WNonNil.some (WLoad.i (n := w.last) (by rw [addN]; exact dqA_has h.it rfl) (WNonNil.some ?_)))))))
  rw [addN]
  refine dqA_store gr h (by simp) fun H1 h1 => WNonNil.some (WNonNil.some ?_)
  have h1 : Wd a ((sepc (tallyA g { w with last := maxI w.last t }) R)) F H1 S := h1
  refine WLoad.i (n := maxI w.last t) (by rw [addN]; exact dqA_has h1.it rfl) (WNonNil.some (WLoad.i (n := w.hi) (by rw [addN]; exact dqA_has h1.it rfl) ?_))
  rw [addN]
  refine WCall.of (talPrune (IntKind.wrap .i64 (maxI w.last t - w.hi)) gr h1 (by simp only; omega)) ?_ (by rintro e H' ⟨hv, _⟩ hne; exact absurd hv (hne _))
  rintro v H2 ⟨hv, S2, h2⟩
  cases hv
  have h2 : Wd a ((sepc (tallyA g (w.tally t false)) R)) F H2 S2 := h2
  have hl : (w.tally t false).d.length ≤ w.d.length := pruneD_length _ _
  refine WOpen.i ?_
  cases f
  · refine WIf.f rfl (WNonNil.some ?_)
    rw [addN]
    refine WCall.of (sum236 (Good.star Good.tal gr) h2 (talDq h2.it) (by omega)) ?_ (by rintro e H' ⟨hv, _⟩ hne; exact absurd hv (hne _))
    rintro v H3 ⟨hv, S3, h3⟩
    cases hv
    exact WOpen.i ⟨rfl, S3, h3⟩
  · refine WIf.t rfl (WNonNil.some (WNonNil.some (WLoad.i (n := maxI w.last t) (by rw [addN]; exact dqA_has h2.it rfl) ?_)))
    rw [addN]
    refine WCall.of (talPush (maxI w.last t) gr h2 (by omega)) ?_ (by rintro e H' ⟨hv, _⟩ hne; exact absurd hv (hne _))
    rintro v H3 ⟨hv, S3, h3⟩
    cases hv
    have h3 : Wd a ((sepc (tallyA g (w.tally t true)) R)) F H3 S3 := h3
    refine WOpen.b (WNonNil.some ?_)
    rw [addN]
    have hl2 : (w.tally t true).d.length ≤ (w.tally t false).d.length + 1 := pushD_length _ _
    refine WCall.of (sum236 (Good.star Good.tal gr) h3 (talDq h3.it) (by omega)) ?_ (by rintro e H' ⟨hv, _⟩ hne; exact absurd hv (hne _))
    rintro v H4 ⟨hv, S4, h4⟩
    cases hv
    exact WOpen.i ⟨rfl, S4, h4⟩

/-! cells -/
theorem cells150 {g : Nat} {ty : TypeId} {w : Wi} (h : ((sepc (winA g ty w) R)) F H S) : Pure Tryz.prog 150 #[.pointer (some ⟨g, 0, none⟩)] H (.int .i64 w.d.length) := by
  refine Pure.of (spec150 (WIf.f rfl (WNonNil.some ?_)))
  rw [addN, addN]
  exact WCall.pure (len217 (winDq h)) (WOpen.i ⟨rfl, HP.le.refl H⟩)
theorem cells151 {g : Nat} {ty : TypeId} {w : Wi} (h : ((sepc (winA g ty w) R)) F H S) : Pure Tryz.prog 151 #[.pointer (some ⟨g, 0, none⟩)] H (.int .i64 w.d.length) := by
  refine Pure.of (spec151 (WIf.f rfl (WNonNil.some ?_)))
  rw [addN, addN]
  exact WCall.pure (len217 (winDq h)) (WOpen.i ⟨rfl, HP.le.refl H⟩)
theorem cells152 {g : Nat} {w : Wi} (h : ((sepc (tallyA g w) R)) F H S) : Pure Tryz.prog 152 #[.pointer (some ⟨g, 0, none⟩)] H (.int .i64 w.d.length) := by
  refine Pure.of (spec152 (WIf.f rfl (WNonNil.some ?_)))
  rw [addN]
  exact WCall.pure (len217 (talDq h)) (WOpen.i ⟨rfl, HP.le.refl H⟩)
theorem cells150n : Pure Tryz.prog 150 #[.pointer none] H (.int .i64 0) := Pure.of (spec150 (WIf.t rfl ⟨rfl, HP.le.refl H⟩))
theorem cells151n : Pure Tryz.prog 151 #[.pointer none] H (.int .i64 0) := Pure.of (spec151 (WIf.t rfl ⟨rfl, HP.le.refl H⟩))
theorem cells152n : Pure Tryz.prog 152 #[.pointer none] H (.int .i64 0) := Pure.of (spec152 (WIf.t rfl ⟨rfl, HP.le.refl H⟩))
end
end Go.Proofs.YtmidcnfnmnhifaaGreat
