/-
  Package bound.
-/
import Derived.Test.YtmidcnfnmnhifaaGreatZRck
import Derived.Test.YtmidcnfnmnhifaaGreatZWza
import Derived.Test.YtmidcnfnmnhifaaGreatZWzb
import Derived.Test.YtmidcnfnmnhifaaGreatZWzc
namespace Go.Proofs.YtmidcnfnmnhifaaGreat
set_option linter.unusedSectionVars false
set_option linter.unusedSimpArgs false
set_option linter.unusedVariables false
open Go Go.Den
set_option linter.unusedVariables false

def looksB (k : Int) : Bool := k == 22 || k == 23 || k == 24 || k == 13 || k == 25
def Ex.hi : Ex → Int | .mk _ _ _ _ b _ => b
def longF (v : Int) (e : Ex) : Int := if looksB e.kind then maxI v e.hi else v
def cellF (v : Int) (e : Ex) : Int := if looksB e.kind then IntKind.wrap .i64 (v + 1) else v

section
variable {a : Base} {R : Asr} {F H : HP} {S : List Nat}

theorem looks88 (k : Int) : Pure Tryz.prog 88 #[.int .i64 k] H (.bool (looksB k)) := by
  refine Pure.of (spec88 ?_)
  unfold looksB
  by_cases h1 : k = 22
  · exact WIf.t (by simp [h1]) ⟨by simp [h1], HP.le.refl H⟩
  refine WIf.f (by simp [h1]) ?_
  by_cases h2 : k = 23
  · exact WIf.t (by simp [h2]) ⟨by simp [h2], HP.le.refl H⟩
  refine WIf.f (by simp [h2]) ?_
  by_cases h3 : k = 24
  · exact WIf.t (by simp [h3]) ⟨by simp [h3], HP.le.refl H⟩
  refine WIf.f (by simp [h3]) ?_
  by_cases h4 : k = 13
  · exact WIf.t (by simp [h4]) ⟨by simp [h4], HP.le.refl H⟩
  refine WIf.f (by simp [h4]) ?_
  by_cases h5 : k = 25
  · exact WIf.t (by simp [h5]) ⟨by simp [h5], HP.le.refl H⟩
  exact WIf.f (by simp [h5]) ⟨by simp [h1, h2, h3, h4, h5], HP.le.refl H⟩

theorem long87 {z : Nat} {t : TypeId} {e : Ex} {cs : List Value} {v : Int} (gr : Good R) (h : Wd a ((sepc (blk z t [.int .i64 v]) R)) F H S) (hat : e.At F cs) :
    Den.Spec Tryz.prog 87 #[.agg ⟨cs⟩, .pointer (some ⟨z, 0, none⟩)] H fun e' H' => e' = .returned (.tuple #[]) ∧ Wd a ((sepc (blk z t [.int .i64 (longF v e)]) R)) F H' S := by
  obtain ⟨k, s, n, x, y, ks⟩ := e
  obtain ⟨p, c, rfl⟩ := Ex.At.cells hat
  refine spec87 (p0 := ⟨z, 0, none⟩) (WCall.pure (looks88 k) (WOpen.b ?_))
  unfold longF
  cases hk : looksB k with
  | false => exact WIf.f rfl ⟨rfl, by simpa [Ex.kind, hk] using h⟩
  | true =>
    refine WIf.t rfl (WLoad.i (n := v) (blk_has h.it rfl) (WStore.blk gr h (by simp) fun H1 h1 => ⟨rfl, ?_⟩))
    simp only [Ex.kind, hk, if_true]
    exact h1
theorem cell153 {z : Nat} {t : TypeId} {e : Ex} {cs : List Value} {v : Int} (gr : Good R) (h : Wd a ((sepc (blk z t [.int .i64 v]) R)) F H S) (hat : e.At F cs) :
    Den.Spec Tryz.prog 153 #[.agg ⟨cs⟩, .pointer (some ⟨z, 0, none⟩)] H fun e' H' => e' = .returned (.tuple #[]) ∧ Wd a ((sepc (blk z t [.int .i64 (cellF v e)]) R)) F H' S := by
  obtain ⟨k, s, n, x, y, ks⟩ := e
  obtain ⟨p, c, rfl⟩ := Ex.At.cells hat
  refine spec153 (p0 := ⟨z, 0, none⟩) (WCall.pure (looks88 k) (WOpen.b ?_))
  unfold cellF
  cases hk : looksB k with
  | false => exact WIf.f rfl ⟨rfl, by simpa [Ex.kind, hk] using h⟩
  | true =>
    refine WIf.t rfl (WLoad.i (n := v) (blk_has h.it rfl) (WStore.blk gr h (by simp) fun H1 h1 => ⟨rfl, ?_⟩))
    simp only [Ex.kind, hk, if_true]
    exact h1

/-- what is below is walked, in order -/
theorem walk86 {z : Nat} {t : TypeId} {g : FuncId} {f : Int → Ex → Int} (gr : Good R)
    (hcl : ∀ (e : Ex) (cs : List Value) (v : Int) (H : HP), Wd a ((sepc (blk z t [.int .i64 v]) R)) F H S → e.At F cs → Den.Spec Tryz.prog g #[.agg ⟨cs⟩, .pointer (some ⟨z, 0, none⟩)] H fun e' H' => e' = .returned (.tuple #[]) ∧ Wd a ((sepc (blk z t [.int .i64 (f v e)]) R)) F H' S) :
    ∀ (N : Nat) (e : Ex), e.size ≤ N → N < 1000000000000 → ∀ {H : HP} {cs : List Value} {v : Int}, Wd a ((sepc (blk z t [.int .i64 v]) R)) F H S → e.At F cs →
    Den.Spec Tryz.prog 86 #[.agg ⟨cs⟩, .func (.func g) #[] #[.pointer (some ⟨z, 0, none⟩)]] H fun e' H' => e' = .returned (.tuple #[]) ∧ Wd a ((sepc (blk z t [.int .i64 (e.all.foldl f v)]) R)) F H' S := by
  intro N
  induction N with
  | zero => intro e he; have := e.size_pos; omega
  | succ N ih =>
    intro e he hN H cs v h hat
    have hcall := hcl e cs v H h hat
    obtain ⟨k, s, n, x, y, ks⟩ := e
    simp only [Ex.At] at hat
    obtain ⟨p, c, rfl, hks⟩ := hat
    simp only [Ex.size] at he
    have hlen := sizes_length ks
    refine spec86 (a0_0 := k) (a0_1 := s) (a0_2 := n) (a0_3 := x) (a0_4 := y) (a0_5a := p) (a0_5n := ks.length) (a0_5c := c) (a1g := g) (a1c := [.pointer (some ⟨z, 0, none⟩)]) ?_
    unfold W86
    refine WCall.of hcall ?_ (by rintro e H' ⟨hv, _⟩ hne; exact absurd hv (hne _))
    rintro v' H1 ⟨hv, h1⟩
    cases hv
    refine WOpen.u ?_
    by_cases h4 : k = 4
    · refine WIf.t (by simp [h4]) ⟨rfl, ?_⟩
      rw [Ex.all, if_pos h4]
      exact h1
    refine WIf.f (by simp [h4]) ?_
    rw [Ex.all, if_neg h4, List.foldl_cons]
    refine WLoop.run ks.length (fun x => x.1.1.toNat) (fun i x' H' => x' = (((i : Int), ()), ()) ∧ Wd a ((sepc (blk z t [.int .i64 ((alls (ks.take i)).foldl f (f v (.mk k s n x y ks)))]) R)) F H' S) 0 ⟨rfl, h1⟩ (Nat.zero_le _) (by rintro i x H ⟨rfl, _⟩; simp) ?_
    rintro i x' H2 again - hi ⟨rfl, h2⟩ hag
    by_cases hlt : i < ks.length
    · refine WIf.t (by simpa using hlt) ?_
      obtain ⟨ad, cs, hp, hcs, hat⟩ := hks.get i ks[i] (by simp [hlt])
      have hdi : ks[i].size ≤ N := by have := sizes_ge ks ks[i] (List.getElem_mem hlt); omega
      refine WIndex.at' hp hlt ?_
      have hrec := ih ks[i] hdi (by omega) (H := H2) h2 hat
      have htake : ks.take (i + 1) = ks.take i ++ [ks[i]] := List.take_succ_eq_append_getElem hlt
      have hal : alls (ks.take (i + 1)) = alls (ks.take i) ++ ks[i].all := by rw [htake, alls_append]; simp [alls]
      rw [← List.foldl_append, ← hal] at hrec
      generalize hki : ks[i] = e' at hat hrec
      obtain ⟨p', c', k', s', n', x'', y', ks', rfl, rfl⟩ : ∃ p' c' k' s' n' x'' y' ks', e' = Ex.mk k' s' n' x'' y' ks' ∧ cs = exCells k' s' n' x'' y' p' ks'.length c' := by
        obtain ⟨k', s', n', x'', y', ks'⟩ := e'
        obtain ⟨p', c', rfl⟩ := Ex.At.cells hat
        exact ⟨_, _, _, _, _, _, _, _, rfl, rfl⟩
      refine WLoad.ex (by rw [Nat.zero_add] at hcs; simpa using h2.wd.le.has hcs) ?_
      refine WCall.of hrec ?_ (by rintro e H' ⟨hv, _⟩ hne; exact absurd hv (hne _))
      rintro v' H3 ⟨hv, h3⟩
      cases hv
      refine WOpen.u ?_
      simp only [wrapS (show i < 1000000000000 by omega)]
      exact hag _ _ hlt ⟨rfl, h3⟩
    · refine WIf.f (by simpa using hlt) ⟨rfl, ?_⟩
      have hil : i = ks.length := by omega
      subst hil
      rw [List.take_length] at h2
      exact h2

def Ex.long (e : Ex) : Int := e.all.foldl longF 0
def Ex.looks (e : Ex) : Int := e.all.foldl cellF 0

theorem longest25 {e : Ex} {cs : List Value} (hN : e.size < 1000000000000) (hat : e.At H cs) : Pure Tryz.prog 25 #[.agg ⟨cs⟩] H (.int .i64 e.long) := by
  have start : Wd ⟨H, H, []⟩ emp' H H [] := Wd.start ⟨HP.le.refl H, fun _ h => by simp at h, fun _ h => by simp at h⟩ trivial
  have key : ∀ (k : Int) (s : ByteArray) (n x y : Int) (p : Option Addr) (l c : Nat), cs = exCells k s n x y p l c → Pure Tryz.prog 25 #[.agg ⟨cs⟩] H (.int .i64 e.long) := by
    rintro k s n x y p l c rfl
    refine Pure.of (spec25 ?_)
    refine WNew.blk Good.emp start fun z H1 hz hle h1 => WStore.blk Good.emp h1 (by simp) fun H2 h2 => ?_
    have h2 : Wd ⟨H, H, []⟩ ((sepc (blk z 2 [.int .i64 0]) emp')) H H2 [z] := h2
    refine WCall.of (walk86 (g := 87) (f := longF) Good.emp (fun e cs v H h hat => long87 Good.emp h hat) e.size e (Nat.le_refl _) hN h2 hat) ?_ (by rintro e H' ⟨hv, _⟩ hne; exact absurd hv (hne _))
    rintro v' H3 ⟨hv, h3⟩
    cases hv
    exact WOpen.u (WLoad.i (n := e.long) (blk_has h3.it rfl) ⟨rfl, h3.tr.le.trans h3.wd.le⟩)
  obtain ⟨k, s, n, x, y, ks⟩ := e
  obtain ⟨p, c, h⟩ := Ex.At.cells hat
  exact key _ _ _ _ _ _ _ _ h
theorem looks93 {e : Ex} {cs : List Value} (hN : e.size < 1000000000000) (hat : e.At H cs) : Pure Tryz.prog 93 #[.agg ⟨cs⟩] H (.int .i64 e.looks) := by
  have start : Wd ⟨H, H, []⟩ emp' H H [] := Wd.start ⟨HP.le.refl H, fun _ h => by simp at h, fun _ h => by simp at h⟩ trivial
  have key : ∀ (k : Int) (s : ByteArray) (n x y : Int) (p : Option Addr) (l c : Nat), cs = exCells k s n x y p l c → Pure Tryz.prog 93 #[.agg ⟨cs⟩] H (.int .i64 e.looks) := by
    rintro k s n x y p l c rfl
    refine Pure.of (spec93 ?_)
    refine WNew.blk Good.emp start fun z H1 hz hle h1 => WStore.blk Good.emp h1 (by simp) fun H2 h2 => ?_
    have h2 : Wd ⟨H, H, []⟩ ((sepc (blk z 3 [.int .i64 0]) emp')) H H2 [z] := h2
    refine WCall.of (walk86 (g := 153) (f := cellF) Good.emp (fun e cs v H h hat => cell153 Good.emp h hat) e.size e (Nat.le_refl _) hN h2 hat) ?_ (by rintro e H' ⟨hv, _⟩ hne; exact absurd hv (hne _))
    rintro v' H3 ⟨hv, h3⟩
    cases hv
    exact WOpen.u (WLoad.i (n := e.looks) (blk_has h3.it rfl) ⟨rfl, h3.tr.le.trans h3.wd.le⟩)
  obtain ⟨k, s, n, x, y, ks⟩ := e
  obtain ⟨p, c, h⟩ := Ex.At.cells hat
  exact key _ _ _ _ _ _ _ _ h
def Ex.most (e : Ex) (w : Int) : Int := IntKind.wrap .i64 (e.looks * (IntKind.wrap .i64 ((if ((32768 : Int) < (if (w < 0) then 0 else w)) then 32768 else (if (w < 0) then 0 else w)) + 1)))
theorem most30 {e : Ex} {cs : List Value} {w : Int} (hN : e.size < 1000000000000) (hat : e.At H cs) : Pure Tryz.prog 30 #[.agg ⟨cs⟩, .int .i64 w] H (.int .i64 (e.most w)) := by
  have h := looks93 hN hat
  obtain ⟨k, s, n, x, y, ks⟩ := e
  obtain ⟨p, c, rfl⟩ := Ex.At.cells hat
  exact Pure.of (spec30 (WCall.pure h (WOpen.i ⟨rfl, HP.le.refl H⟩)))
end
end Go.Proofs.YtmidcnfnmnhifaaGreat
