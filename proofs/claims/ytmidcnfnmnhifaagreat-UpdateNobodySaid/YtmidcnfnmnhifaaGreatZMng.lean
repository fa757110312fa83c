/-
  Package monitor: Step, Cells.
-/
import Derived.Test.YtmidcnfnmnhifaaGreatZMnf
namespace Go.Proofs.YtmidcnfnmnhifaaGreat
set_option linter.unusedSectionVars false
set_option linter.unusedSimpArgs false
set_option linter.unusedVariables false
open Go Go.Den
set_option linter.unusedVariables false

/-- a monitor -/
def monA (g : Nat) (e : Ex) (n : Sta) (last : Int) : Asr := ex fun gt : Nat => (sepc (blk g 66 [.pointer (some ⟨gt, 0, none⟩), .int .i64 last]) (nodeA e n gt))
theorem Good.mon {g : Nat} {e : Ex} {n : Sta} {last : Int} : Good (monA g e n last) := Good.ex fun _ => Good.star Good.blk Good.node

def moV (x : Mo) : Value := .agg #[.int .i64 x.a, .string x.act, .string x.subj, .string x.obj]
def zeroVa : Va := ⟨0, 0, nos, []⟩
/-- what Step tells -/
def StepV (F : HP) (r : Res) (e : Ending) : Prop := match r with
  | .ok v => ∃ cs, v.At F cs ∧ e = .returned (.tuple #[.agg ⟨cs⟩, .int .i64 0])
  | .error c => e = .returned (.tuple #[.agg ⟨flat zeroVa⟩, .int .i64 c])
theorem StepV.mono {F F' : HP} (hl : F.le F') {r : Res} {e : Ending} (h : StepV F r e) : StepV F' r e := by
  cases r with
  | ok v => obtain ⟨cs, h1, h2⟩ := h; exact ⟨cs, h1.mono hl, h2⟩
  | error c => exact h

section
variable {a : Base} {R : Asr} {F H : HP} {S : List Nat}

theorem mon_open {g : Nat} {e : Ex} {n : Sta} {last : Int} (h : ((sepc (monA g e n last) R)) F H S) : ∃ gt, ((sepc (blk g 66 [.pointer (some ⟨gt, 0, none⟩), .int .i64 last]) (sepc (nodeA e n gt) R))) F H S := by
  obtain ⟨S1, S2, i1, i2, idj, ⟨gt, h1⟩, h2⟩ := h
  exact ⟨gt, star_assoc ⟨S1, S2, i1, i2, idj, h1, h2⟩⟩
theorem mon_close {g gt : Nat} {e : Ex} {n : Sta} {last : Int} (h : ((sepc (blk g 66 [.pointer (some ⟨gt, 0, none⟩), .int .i64 last]) (sepc (nodeA e n gt) R))) F H S) : ((sepc (monA g e n last) R)) F H S :=
  star_mono (fun _ h => ⟨gt, h⟩) (fun _ h => h) (star_assoc' h)

theorem is89 {g : Nat} {q : Option Addr} (h : H.has ⟨g, 0, none⟩ [.pointer q]) : Pure Tryz.prog 89 #[.pointer (some ⟨g, 0, none⟩)] H (.bool (!q.isNone)) :=
  Pure.of (spec89 (WIf.t rfl (WNonNil.some (WLoad.p (by rw [addN]; exact h) ⟨rfl, HP.le.refl H⟩))))
theorem is89n : Pure Tryz.prog 89 #[.pointer none] H (.bool false) := Pure.of (spec89 (WIf.f rfl ⟨rfl, HP.le.refl H⟩))

/-- the two cells of results, read -/
theorem ret_blk {Q : Ending → W} {z1 z2 : Nat} {k n : Int} {s : ByteArray} {p : Option Addr} {l c : Nat} {e : Int} (h1 : H z1 = some (.cells ⟨vaCells k n s p l c⟩ 38 (0, 0))) (h2 : H z2 = some (.cells ⟨[.int .i64 e]⟩ 39 (0, 0)))
    (hQ : Q (.returned (.tuple #[.agg ⟨vaCells k n s p l c⟩, .int .i64 e])) H) : WRet Q ⟨z1, 0, none⟩ ⟨z2, 0, none⟩ H :=
  ⟨(k, n, s, (p, l, c), ()), has_cells (vs := vaCells k n s p l c) h1 rfl, ⟨e, has_cells (vs := [.int .i64 e]) h2 rfl, hQ⟩⟩

theorem nobody27 {q : Option Addr} {gs : Option Addr} {x : Mo} (h : Pure Tryz.prog 89 #[.pointer q] H (.bool false)) (hle : ∀ H', H.le H' → Pure Tryz.prog 89 #[.pointer q] H' (.bool false)) :
    Pure Tryz.prog 27 #[.pointer q, .pointer gs, moV x] H (.tuple #[.agg ⟨flat zeroVa⟩, .int .i64 9]) := by
  refine Pure.of (spec27 fun z1 hz1 => fun z2 hz2 => ?_)
  have start : Wd ⟨H, H, []⟩ emp' H H [] := Wd.start ⟨HP.le.refl H, fun _ h => by simp at h, fun _ h => by simp at h⟩ trivial
  have w1 := Wd.new (o := .cells ⟨[(.int .i64 0), (.int .i64 0), (.string (ByteArray.mk #[])), (.slice none 0 0)]⟩ 38 (0, 0)) Good.emp start hz1
  have w2 := Wd.new (o := .cells ⟨[.int .i64 0]⟩ 39 (0, 0)) (Good.star Good.obj Good.emp) w1 hz2
  refine WCall.pure (hle _ w2.wd.le) (WOpen.b (WIf.t rfl ?_))
  refine WStore.blk (e := 38) (l := [(.int .i64 0), (.int .i64 0), (.string (ByteArray.mk #[])), (.slice none 0 0)]) (Good.star Good.obj Good.emp) (w2.imp star_left) (by simp) fun H3 h3 => ?_
  refine WStore.blk (e := 39) (l := [.int .i64 0]) (Good.star Good.blk Good.emp) (h3.imp star_left) (by simp) fun H4 h4 => ?_
  exact ret_blk (blk_at (star_left h4.it)) (blk_at h4.it) ⟨rfl, h4.wd.le⟩

theorem step27 {g gs : Nat} {e : Ex} {n : Sta} {last : Int} {σ : Sto} {x : Mo} {M : Nat} (gr : Good R) (h : Wd a ((sepc (monA g e n last) (sepc (storeA gs σ) R))) F H S) (ok : σ.Ok) (hx : x.Ok) (hM : M < 800000000) (hm : e.may = true) (hsh : e.Short) (hok : Sta.Ok M e n) :
    Den.Spec Tryz.prog 27 #[.pointer (some ⟨g, 0, none⟩), .pointer (some ⟨gs, 0, none⟩), moV x] H fun e' H' => ∃ F' S', StepV F' (Sta.eval σ { x with a := maxI last x.a } e n).1 e' ∧ F.le F' ∧
      Wd a ((sepc (monA g e (Sta.eval σ { x with a := maxI last x.a } e n).2 (maxI last x.a)) (sepc (storeA gs σ) R))) F' H' S' := by
  obtain ⟨gt, h0⟩ := mon_open h.it
  have gnode : Good ((sepc (nodeA e n gt) (sepc (storeA gs σ) R))) := Good.star Good.node (Good.star Good.store gr)
  refine spec27 (WNew.blk (Good.star Good.blk gnode) ⟨h.wd, h.tr, h0⟩ fun z1 H1 hz1 _ h1 => WNew.blk (Good.star Good.blk (Good.star Good.blk gnode)) h1 fun z2 H2 hz2 _ h2 => ?_)
  have h2' := h2.imp bring3
  refine WCall.pure (is89 (q := some ⟨gt, 0, none⟩) (blk_has h2'.it rfl)) (WOpen.b (WIf.f rfl (WNonNil.some (WLoad.i (n := last) (by rw [addN]; exact blk_has h2'.it rfl) (WNonNil.some ?_)))))
  rw [addN]
  refine WStore.blk (Good.star Good.blk (Good.star Good.blk gnode)) h2' (by simp) fun H3 h3 => ?_
  have h3 : Wd a ((sepc (blk g 66 [.pointer (some ⟨gt, 0, none⟩), .int .i64 (maxI last x.a)]) (sepc (blk z2 39 [.int .i64 0]) (sepc (blk z1 38 [(.int .i64 0), (.int .i64 0), (.string (ByteArray.mk #[])), (.slice none 0 0)]) (sepc (nodeA e n gt) (sepc (storeA gs σ) R)))))) F H3 (z2 :: z1 :: S) := h3
  refine WNonNil.some (WLoad.i (n := maxI last x.a) (by rw [addN]; exact blk_has h3.it rfl) (WNonNil.some (WLoad.p (n := some ⟨gt, 0, none⟩) (by rw [addN]; exact blk_has h3.it rfl) ?_)))
  have h4 : Wd a ((sepc (nodeA e n gt) (sepc (storeA gs σ) (sepc (blk g 66 [.pointer (some ⟨gt, 0, none⟩), .int .i64 (maxI last x.a)]) (sepc (blk z2 39 [.int .i64 0]) (sepc (blk z1 38 [(.int .i64 0), (.int .i64 0), (.string (ByteArray.mk #[])), (.slice none 0 0)]) R)))))) F H3 (z2 :: z1 :: S) :=
    h3.imp fun hh => under (bring4 hh) fun _ h => bring4 h
  have fin : ∀ {F' H' : HP} {S' : List Nat} {n' : Sta} {cs : List Value} {c : Int} {k' m' : Int} {s' : ByteArray} {p' : Option Addr} {l' c' : Nat} {r : Res}, cs = vaCells k' m' s' p' l' c' → F.le F' →
      Wd a ((sepc (nodeA e n' gt) (sepc (storeA gs σ) (sepc (blk g 66 [.pointer (some ⟨gt, 0, none⟩), .int .i64 (maxI last x.a)]) (sepc (blk z2 39 [.int .i64 0]) (sepc (blk z1 38 [(.int .i64 0), (.int .i64 0), (.string (ByteArray.mk #[])), (.slice none 0 0)]) R)))))) F' H' S' →
      StepV F' r (.returned (.tuple #[.agg ⟨cs⟩, .int .i64 c])) →
      WStore ⟨z1, 0, none⟩ cs (WStore ⟨z2, 0, none⟩ [.int .i64 c] (WRet (fun e' H' => ∃ F' S', StepV F' r e' ∧ F.le F' ∧ Wd a ((sepc (monA g e n' (maxI last x.a)) (sepc (storeA gs σ) R))) F' H' S') ⟨z1, 0, none⟩ ⟨z2, 0, none⟩)) H' := by
    intro F' H' S' n' cs c k' m' s' p' l' c' r hcs hle hw hv
    subst hcs
    have q1 : Wd a ((sepc (blk z1 38 [(.int .i64 0), (.int .i64 0), (.string (ByteArray.mk #[])), (.slice none 0 0)]) (sepc (blk z2 39 [.int .i64 0]) (sepc (blk g 66 [.pointer (some ⟨gt, 0, none⟩), .int .i64 (maxI last x.a)]) (sepc (nodeA e n' gt) (sepc (storeA gs σ) R)))))) F' H' S' :=
      hw.imp fun hh => star_left (under (bring4 hh) fun _ h => under (bring4 (under h fun _ h => under h fun _ h => h)) fun _ h => under (bring3 h) fun _ h => h) |> fun hh => hh
    have gn' : Good ((sepc (blk g 66 [.pointer (some ⟨gt, 0, none⟩), .int .i64 (maxI last x.a)]) (sepc (nodeA e n' gt) (sepc (storeA gs σ) R)))) := Good.star Good.blk (Good.star Good.node (Good.star Good.store gr))
    refine WStore.blk (Good.star Good.blk gn') q1 (by simp [vaCells]) fun H5 h5 => ?_
    refine WStore.blk (Good.star Good.blk gn') (h5.imp star_left) (by simp) fun H6 h6 => ?_
    refine ret_blk (k := k') (n := m') (s := s') (p := p') (l := l') (c := c') (e := c) (blk_at (star_left h6.it)) (blk_at h6.it) ⟨F', S', hv, hle, h6.imp fun hh => mon_close (star_snd gn' (star_snd (Good.star Good.blk gn') hh))⟩
  refine WCall.of (eval91 ok (x := { x with a := maxI last x.a }) hx hM e.size e (Nat.le_refl _) (Good.star Good.blk (Good.star Good.blk (Good.star Good.blk gr))) h4 hm hsh hok) ?_ ?_
  · rintro v H' ⟨F', S', hr, hle, hw⟩
    cases hres : (Sta.eval σ { x with a := maxI last x.a } e n).1 with
    | error c => rw [hres] at hr; cases hr
    | ok u =>
      rw [hres] at hr
      obtain ⟨cs, hv, hu⟩ := hr
      cases hv
      have hu' := hu
      obtain ⟨p', c', rfl, hp'⟩ := hu
      exact WOpen.va (fin rfl hle hw ⟨_, hu', rfl⟩)
  · rintro e' H' ⟨F', S', hr, hle, hw⟩ hne
    cases hres : (Sta.eval σ { x with a := maxI last x.a } e n).1 with
    | ok u => rw [hres] at hr; obtain ⟨cs, hv, _⟩ := hr; exact absurd hv (hne _)
    | error c =>
      rw [hres] at hr
      exact .inl ⟨c, hr, fin rfl hle hw rfl⟩
end
end Go.Proofs.YtmidcnfnmnhifaaGreat
