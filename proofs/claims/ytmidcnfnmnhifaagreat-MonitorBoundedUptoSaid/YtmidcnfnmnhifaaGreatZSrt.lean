/-
  Rising lists of texts: sorted they are the same; value.Set; the Set of an expression.
-/
import Derived.Test.YtmidcnfnmnhifaaGreatZSto
import Derived.Test.YtmidcnfnmnhifaaGreatZWza
import Derived.Test.YtmidcnfnmnhifaaGreatZWzb
import Derived.Test.YtmidcnfnmnhifaaGreatZWzc
namespace Go.Proofs.YtmidcnfnmnhifaaGreat
set_option linter.unusedSectionVars false
set_option linter.unusedSimpArgs false
set_option linter.unusedVariables false
open Go Go.Den
set_option linter.unusedVariables false

section
variable {H : HP}

theorem less292 (a b : ByteArray) : Pure Tryz.prog 292 #[.string a, .string b] H (.bool (lessS a b)) := by
  refine Pure.of (spec292 ?_)
  exact WCall.pure (nan262 a) (WOpen.b (WIf.f rfl ⟨rfl, HP.le.refl H⟩))

set_option maxRecDepth 20000 in
theorem len296 {n : Nat} (hn : n ≤ 8) : ∃ m, Pure Tryz.prog 296 #[.int .u64 (n : Int)] H (.int .i64 m) := by
  have h : ∀ (m : Int) (c : UInt8), (IntKind.wrap .i64 ((0 : Int) + (IntKind.wrap .i64 (((UInt8.toNat c) : Nat) : Int)))) = m → True := fun _ _ _ => trivial
  match n, hn with
  | 0, _ => exact ⟨_, Pure.of (spec296 (WIf.f rfl (WIf.f rfl (WIf.f rfl ⟨_, by decide, rfl, rfl, HP.le.refl H⟩))))⟩
  | 1, _ => exact ⟨_, Pure.of (spec296 (WIf.f rfl (WIf.f rfl (WIf.f rfl ⟨_, by decide, rfl, rfl, HP.le.refl H⟩))))⟩
  | 2, _ => exact ⟨_, Pure.of (spec296 (WIf.f rfl (WIf.f rfl (WIf.f rfl ⟨_, by decide, rfl, rfl, HP.le.refl H⟩))))⟩
  | 3, _ => exact ⟨_, Pure.of (spec296 (WIf.f rfl (WIf.f rfl (WIf.f rfl ⟨_, by decide, rfl, rfl, HP.le.refl H⟩))))⟩
  | 4, _ => exact ⟨_, Pure.of (spec296 (WIf.f rfl (WIf.f rfl (WIf.f rfl ⟨_, by decide, rfl, rfl, HP.le.refl H⟩))))⟩
  | 5, _ => exact ⟨_, Pure.of (spec296 (WIf.f rfl (WIf.f rfl (WIf.f rfl ⟨_, by decide, rfl, rfl, HP.le.refl H⟩))))⟩
  | 6, _ => exact ⟨_, Pure.of (spec296 (WIf.f rfl (WIf.f rfl (WIf.f rfl ⟨_, by decide, rfl, rfl, HP.le.refl H⟩))))⟩
  | 7, _ => exact ⟨_, Pure.of (spec296 (WIf.f rfl (WIf.f rfl (WIf.f rfl ⟨_, by decide, rfl, rfl, HP.le.refl H⟩))))⟩
  | 8, _ => exact ⟨_, Pure.of (spec296 (WIf.f rfl (WIf.f rfl (WIf.f rfl ⟨_, by decide, rfl, rfl, HP.le.refl H⟩))))⟩
  | n + 9, h => exact absurd h (by omega)

theorem rises_less {l : List ByteArray} (h : risesB l = true) {i : Nat} (h1 : 1 ≤ i) (hi : i < l.length) : lessS l[i] l[i - 1] = false ∧ l[i] ≠ l[i - 1] := by
  have := (risesB_iff l).1 h (i - 1) (by omega)
  simp only [show i - 1 + 1 = i by omega] at this
  unfold up2 at this
  simpa using this

theorem insert286 {p : Option Addr} {l : List ByteArray} (c : Nat) (hp : StrsAt H p l) (hl : l.length ≤ 8) (hr : risesB l = true) : Pure Tryz.prog 286 #[.slice p l.length c, .int .i64 0, .int .i64 l.length] H (.tuple #[]) := by
  refine Pure.of (spec286 ?_)
  by_cases h0 : l.length = 0
  · refine WLoop.intro (fun x H' => H' = H ∧ x = ((1, ()), ())) (fun _ => 0) ⟨rfl, rfl⟩ ?_
    rintro x H' ⟨rfl, rfl⟩
    exact WIf.f (by simp [h0]) ⟨rfl, HP.le.refl _⟩
  refine WLoop.up l.length 1 (fun i => True) trivial (by omega) ?_
  intro i again h1 hi _ hag
  by_cases hlt : i < l.length
  · refine WIf.t (by simpa using hlt) ?_
    refine WLoop.intro (fun x H' => H' = H ∧ x = (((i : Int), ()), ())) (fun _ => 0) ⟨rfl, rfl⟩ ?_
    rintro x H' ⟨rfl, rfl⟩
    obtain ⟨a, ha, hx⟩ := hp.get hlt
    obtain ⟨b, hb, hy⟩ := hp.get (show i - 1 < l.length by omega)
    refine WIf.t (by simp; omega) (WIndex.at' ha hlt (WLoad.s1 (by simpa using hx) ?_))
    rw [wrapP (by omega) h1]
    refine WIndex.at' hb (by omega) (WLoad.s1 (by simpa using hy) ?_)
    refine WCall.pure (less292 _ _) (WOpen.b ?_)
    refine WIf.f (rises_less hr h1 hlt).1 ?_
    rw [wrapS (by omega)]
    exact hag hlt trivial
  · exact WIf.f (by simpa using hlt) ⟨rfl, HP.le.refl H⟩

theorem sort264 {p : Option Addr} {l : List ByteArray} (c : Nat) (hp : StrsAt H p l) (hl : l.length ≤ 8) (hr : risesB l = true) : Pure Tryz.prog 264 #[.slice p l.length c] H (.tuple #[]) := by
  refine Pure.of (spec264 ?_)
  have hw : IntKind.wrap .u64 (l.length : Int) = ((l.length : Nat) : Int) := by
    unfold IntKind.wrap
    simp [IntKind.signed, IntKind.bits]
    omega
  unfold W264
  rw [hw]
  obtain ⟨m, hm⟩ := len296 (H := H) hl
  have h281 : Pure Tryz.prog 281 #[.int .u64 (l.length : Int)] H (.int .i64 m) := Pure.of (spec281 (WCall.pure hm (WOpen.i ⟨rfl, HP.le.refl H⟩)))
  have h280 : Pure Tryz.prog 280 #[.slice p l.length c, .int .i64 0, .int .i64 l.length, .int .i64 m] H (.tuple #[]) := by
    refine Pure.of (spec280 ?_)
    refine WLoop.intro (fun x H' => H' = H ∧ x = ((0, ((l.length : Int), (m, (true, (true, ()))))), ())) (fun _ => 0) ⟨rfl, rfl⟩ ?_
    rintro x H' ⟨rfl, rfl⟩
    refine WIf.t ?_ (WCall.pure (insert286 c hp hl hr) (WOpen.u ⟨rfl, HP.le.refl _⟩))
    have : IntKind.wrap .i64 ((l.length : Int) - 0) = l.length := by rw [IntWalk.i64_in _ ⟨by omega, by omega⟩]; omega
    simp only [this]
    simp
    omega
  exact WCall.pure h281 (WOpen.i (WCall.pure h280 (WOpen.u ⟨rfl, HP.le.refl H⟩)))

theorem compact265 {p : Option Addr} {l : List ByteArray} (c : Nat) (hp : StrsAt H p l) (hl : l.length ≤ 8) (hr : risesB l = true) : Pure Tryz.prog 265 #[.slice p l.length c] H (.slice p l.length c) := by
  refine Pure.of (spec265 ?_)
  by_cases h2 : l.length < 2
  · exact WIf.t (by simp; omega) ⟨rfl, HP.le.refl H⟩
  refine WIf.f (by simp; omega) ?_
  refine WLoop.up l.length 1 (fun i => True) trivial (by omega) ?_
  intro i again h1 hi _ hag
  by_cases hlt : i < l.length
  · obtain ⟨a, ha, hx⟩ := hp.get hlt
    obtain ⟨b, hb, hy⟩ := hp.get (show i - 1 < l.length by omega)
    refine WIf.t (by simpa using hlt) (WIndex.at' ha hlt (WLoad.s1 (by simpa using hx) ?_))
    rw [wrapP (by omega) h1]
    refine WIndex.at' hb (by omega) (WLoad.s1 (by simpa using hy) ?_)
    rw [toList_inj]
    refine WIf.f (by simpa using (rises_less hr h1 hlt).2) ?_
    rw [wrapS (by omega)]
    exact hag hlt trivial
  · exact WIf.f (by simpa using hlt) ⟨rfl, HP.le.refl H⟩

theorem set233 {p : Option Addr} {l : List ByteArray} (c : Nat) (hp : StrsAt H p l) (hl : l.length ≤ 8) (hr : risesB l = true) :
    Den.Spec Tryz.prog 233 #[.slice p l.length c] H fun e H' => ∃ v, e = .returned v ∧ (∃ cs, v = .agg ⟨cs⟩ ∧ (Va.mk 4 0 nos l).At H' cs) ∧ H.le H' := by
  refine spec233 (WCall.of (clone193' c hp (by omega)) ?_ (by rintro e H' ⟨v', hv, _⟩ hne; exact absurd hv (hne _)))
  rintro v H1 ⟨v', hv, ⟨p', c', rfl, hp'⟩, hle⟩
  cases hv
  refine WOpen.sl (WCall.pure (sort264 c' hp' hl hr) (WOpen.u (WCall.pure (compact265 c' hp' hl hr) (WOpen.sl ⟨_, rfl, ⟨_, rfl, p', c', rfl, hp'⟩, hle⟩))))

def names (ks : List Ex) : List ByteArray := ks.map Ex.name
def setVa (ks : List Ex) : Va := ⟨4, 0, nos, names ks⟩

theorem set172 {k n x y : Int} {s : ByteArray} {ks : List Ex} {cs : List Value} (hat : (Ex.mk k s n x y ks).At H cs) (hl : ks.length ≤ 8) (hr : risesB (names ks) = true) :
    Den.Spec Tryz.prog 172 #[.agg ⟨cs⟩] H fun e H' => ∃ v, e = .returned v ∧ (∃ cs, v = .agg ⟨cs⟩ ∧ (setVa ks).At H' cs) ∧ H.le H' := by
  simp only [Ex.At] at hat
  obtain ⟨p, c, rfl, hks⟩ := hat
  have start : Wd ⟨H, H, []⟩ ((sepc (ownS 9 1 none 0 0 (strC [])) emp')) H H [] := Wd.start ⟨HP.le.refl H, fun _ h => by simp at h, fun _ h => by simp at h⟩ (star_emp ownS_nil)
  refine spec172 ?_
  refine WLoop.run ks.length (fun x => x.1.2.1.toNat) (fun i x H' => ∃ q n c S, x = (((q, (n, c)), ((i : Int), ())), ()) ∧ n = i ∧ Wd ⟨H, H, []⟩ ((sepc (ownS 9 1 q n c (strC ((names ks).take i))) emp')) H H' S) 0
    ⟨none, 0, 0, [], rfl, rfl, start⟩ (Nat.zero_le _) (by rintro i x H ⟨q, n, c, S, rfl, _⟩; simp) ?_
  rintro i x H1 again - hi ⟨q, n, c, S, rfl, rfl, hw⟩ hag
  by_cases hlt : n < ks.length
  · refine WIf.t (by simpa using hlt) ?_
    obtain ⟨a, cs, ha, hcs, hex⟩ := hks.get n ks[n] (by simp [hlt])
    have hnext : (names ks).take (n + 1) = (names ks).take n ++ [ks[n].name] := by
      rw [List.take_succ_eq_append_getElem (by simpa [names] using hlt)]
      simp [names]
    refine WIndex.at' ha hlt ?_
    generalize ks[n] = e' at hex hnext
    obtain ⟨k', s', n', a', b', ks'⟩ := e'
    simp only [Ex.At] at hex
    obtain ⟨p', c', rfl, hks'⟩ := hex
    refine WLoad.ex (hw.wd.le.has (by rw [Nat.zero_add] at hcs; rw [Int.toNat_natCast]; exact hcs)) ?_
    refine WNew.blk (Good.star Good.ownS Good.emp) hw fun z H2 hz hle h2 => ?_
    have h3 : Wd ⟨H, H, []⟩ ((sepc (ownS 9 1 q n c (strC ((names ks).take n))) (sepc (blk z 9 [.string s']) emp'))) H H2 (z :: S) := h2.imp star_left
    refine SliceTy.push sliceStr (by omega) (Good.star Good.blk Good.emp) h3 (x := ⟨z, 0, none⟩) (m := 1) (news := [.string s']) rfl (has_cells (blk_at h2.it) rfl) (by simp [Value.oneCell']) (by simp only [maxLen]; omega) (by omega) ?_
    intro p2 cap H3 S3 h4 _
    refine WOpen.sl ?_
    rw [wrapS (by omega)]
    refine hag _ _ hlt ⟨p2, n + 1, cap, S3, rfl, rfl, h4.imp fun hh => ?_⟩
    rw [hnext]
    simp only [strC, List.map_append, List.map_cons, List.map_nil]
    exact star_mono (fun _ h => h) (fun _ h => trivial) hh
  · have hnl : n = ks.length := by omega
    refine WIf.f (by simpa using hlt) ?_
    have hall : (names ks).take n = names ks := List.take_of_length_le (by simp [names]; omega)
    rw [hall] at hw
    have hstr : StrsAt H1 q (names ks) := ownS_strs (star_fst Good.ownS hw.it)
    have hlen : n = (names ks).length := by simp [names, hnl]
    rw [hlen]
    refine WCall.of (set233 c hstr (by simpa [names] using hl) hr) ?_ (by rintro e H' ⟨v', hv, _⟩ hne; exact absurd hv (hne _))
    rintro v H2 ⟨v', hv, ⟨cs, rfl, hcs⟩, hle⟩
    cases hv
    have h' := hcs
    obtain ⟨p', c', rfl, hp'⟩ := hcs
    exact WOpen.va ⟨_, rfl, ⟨_, rfl, h'⟩, hw.wd.le.trans hle⟩

theorem texts_rises : ∀ (ks : List Ex) (p : Option ByteArray), texts p ks = true → risesB (names ks) = true
  | [], _, _ => rfl
  | [e], _, _ => rfl
  | e :: f :: ks, p, h => by
    simp only [texts, Bool.and_eq_true] at h
    obtain ⟨_, ⟨⟨h1, h2, h3⟩, h4⟩⟩ := h
    simp only [names, List.map_cons, risesB, Bool.and_eq_true]
    refine ⟨?_, texts_rises (f :: ks) (some e.name) (by simp only [texts, Bool.and_eq_true]; exact ⟨⟨h1, h2, h3⟩, h4⟩)⟩
    unfold up2
    rw [← toList_inj]
    exact h3
end
end Go.Proofs.YtmidcnfnmnhifaaGreat
