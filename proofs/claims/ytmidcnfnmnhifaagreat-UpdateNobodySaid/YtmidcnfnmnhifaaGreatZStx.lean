/-
  Package store: Clone; maps.clone.
-/
import Derived.Test.YtmidcnfnmnhifaaGreatZStw
import Derived.Test.YtmidcnfnmnhifaaGreatZMnh
namespace Go.Proofs.YtmidcnfnmnhifaaGreat
set_option linter.unusedSectionVars false
set_option linter.unusedSimpArgs false
set_option linter.unusedVariables false
open Go Go.Den
set_option linter.unusedVariables false

theorem assert110 (v : Value) (w : World) : (Instr.typeAssert (.iface 110 v) 20 110 false).run Tryz.prog w = .ok v w := by kernel_rfl
theorem assert111 (v : Value) (w : World) : (Instr.typeAssert (.iface 111 v) 20 111 false).run Tryz.prog w = .ok v w := by kernel_rfl

section
variable {a : Base} {R : Asr} {F H : HP} {S : List Nat}

theorem clone199 {t : TypeId} {r : Nat} {l : List (Value × Value)} (gr : Good R) (h : Wd a ((sepc (mapO r l) R)) F H S) :
    Den.Spec Tryz.prog 199 #[.iface t (.map (some r))] H fun e H' => ∃ r' S', e = .returned (.iface t (.map (some r'))) ∧ Wd a ((sepc (mapO r' l) (sepc (mapO r l) R))) F H' S' := by
  intro w on
  obtain ⟨es, clock, hr, hl⟩ := mapO_read h.it
  have hb := on r _ hr
  have hn : H w.heap.size = none := by
    cases e : H w.heap.size with
    | none => rfl
    | some o => have := on.lt (b := w.heap.size) (by simp [e]); omega
  refine .inr ⟨_, w.alloc (.map es clock), H.set w.heap.size (.map es clock), ?_, ?_, w.heap.size, _, rfl, (Wd.new (Good.star Good.mapO gr) h hn).imp fun hh => star_mono (fun S' hs => ⟨hs.1, es, clock, hs.2, hl⟩) (fun _ h => h) hh⟩
  · rw [run_callFunc_extern (fn := Tryz.f199) (e := Extern.MapsClone.clone) (by kernel_rfl) (by kernel_rfl) (by kernel_rfl) (by kernel_rfl) (by kernel_rfl)]
    have e : Extern.MapsClone.clone #[.iface t (.map (some r))] = (getObj r >>= fun o => match o with
      | .map entries clock => (newObj (.map entries clock) >>= fun n => pure (.iface t (.map (some n))))
      | _ => stuck "maps.clone: a map expected") := rfl
    rw [e]
    simp [MapKept.run_getObj_map hb, Result.andThen]
  · refine up_set on (MapKept.heap_alloc w _).1 rfl rfl rfl (by show w.heap.size ≤ (w.heap.push _).size; rw [Array.size_push]; exact Nat.le_succ _) (fun b hb hne => (MapKept.heap_alloc w _).2 b hb) (.inr (Nat.le_refl _))

theorem clone125 {r : Nat} {l : List (Value × Value)} (gr : Good R) (h : Wd a ((sepc (mapO r l) R)) F H S) :
    Den.Spec Tryz.prog 125 #[.map (some r)] H fun e H' => ∃ r' S', e = .returned (.map (some r')) ∧ Wd a ((sepc (mapO r' l) (sepc (mapO r l) R))) F H' S' := by
  refine spec125 (WIf.f rfl (WCall.of (clone199 gr h) ?_ (by rintro e H' ⟨r', S', hv, _⟩ hne; exact absurd hv (hne _))))
  rintro v H1 ⟨r', S1, hv, hw⟩
  cases hv
  exact ⟨_, rfl, fun w on => ⟨_, w, H1, assert110 _ w, Up.refl on, WOpen.m ⟨r', S1, rfl, hw⟩⟩⟩
theorem clone126 {r : Nat} {l : List (Value × Value)} (gr : Good R) (h : Wd a ((sepc (mapO r l) R)) F H S) :
    Den.Spec Tryz.prog 126 #[.map (some r)] H fun e H' => ∃ r' S', e = .returned (.map (some r')) ∧ Wd a ((sepc (mapO r' l) (sepc (mapO r l) R))) F H' S' := by
  refine spec126 (WIf.f rfl (WCall.of (clone199 gr h) ?_ (by rintro e H' ⟨r', S', hv, _⟩ hne; exact absurd hv (hne _))))
  rintro v H1 ⟨r', S1, hv, hw⟩
  cases hv
  exact ⟨_, rfl, fun w on => ⟨_, w, H1, assert111 _ w, Up.refl on, WOpen.m ⟨r', S1, rfl, hw⟩⟩⟩

theorem clone62 {g : Nat} {σ : Sto} (gr : Good R) (h : Wd a ((sepc (storeA g σ) R)) F H S) :
    Den.Spec Tryz.prog 62 #[.pointer (some ⟨g, 0, none⟩)] H fun e H' => ∃ z S', e = .returned (.pointer (some ⟨z, 0, none⟩)) ∧ Wd a ((sepc (storeA z σ) (sepc (storeA g σ) R))) F H' S' := by
  have hr := store_read h.it
  obtain ⟨wd, tr, S1, S2, i1, i2, idj, ⟨⟨rk, rs, l⟩, hv, hA⟩, hR⟩ := h
  have h : Wd a ((sepc (blk g 113 [.map (some rk), .map (some rs)]) (sepc (mapO rk (σ.ks.map kEnt)) (sepc (mapO rs l) R)))) F H S := ⟨wd, tr, star_mono (fun _ h => h) (fun _ h => star_assoc h) (star_assoc ⟨S1, S2, i1, i2, idj, hA, hR⟩)⟩
  refine spec62 (WCall.pure (is113 hr) (WOpen.b (WIf.f rfl (WNonNil.some (WLoad.m (n := some rk) (by rw [addN]; exact blk_has h.it rfl) (WNonNil.some (WLoad.m (n := some rs) (by rw [addN]; exact blk_has h.it rfl) ?_)))))))
  refine WCall.of (clone125 (Good.star Good.blk (Good.star Good.mapO gr)) (h.imp star_left)) ?_ (by rintro e H' ⟨r', S', hv, _⟩ hne; exact absurd hv (hne _))
  rintro v H1 ⟨rk', S1, hv1, h1⟩
  cases hv1
  have h1' := h1.imp bring3
  refine WOpen.m (WHeld.one (by rw [addN]; exact blk_has h1'.it rfl) ?_)
  refine WCall.of (clone126 (Good.star Good.mapO (Good.star Good.mapO (Good.star Good.blk gr))) (h1.imp bring4)) ?_ (by rintro e H' ⟨r', S', hv, _⟩ hne; exact absurd hv (hne _))
  rintro v H2 ⟨rs', S2, hv2, h2⟩
  cases hv2
  refine WOpen.m (WNew.blk (Good.star Good.mapO (Good.star Good.mapO (Good.star Good.mapO (Good.star Good.mapO (Good.star Good.blk gr))))) h2 fun z H3 hz hle h3 => ⟨z, _, rfl, h3.imp fun hh => ?_⟩)
  -- z, rs', rs, rk', rk, g, R
  have a1 : ((sepc (blk z 113 [.map (some rk'), .map (some rs')]) (sepc (mapO rk' (σ.ks.map kEnt)) (sepc (mapO rs' l) (sepc (blk g 113 [.map (some rk), .map (some rs)]) (sepc (mapO rk (σ.ks.map kEnt)) (sepc (mapO rs l) R))))))) F H3 _ :=
    under hh fun _ h => under (bring3 h) fun _ h => under h fun _ h => under (bring3 h) fun _ h => star_left h
  have close : ∀ (g rk rs : Nat) (R : Asr) (S : List Nat), ((sepc (blk g 113 [.map (some rk), .map (some rs)]) (sepc (mapO rk (σ.ks.map kEnt)) (sepc (mapO rs l) R)))) F H3 S → ((sepc (storeA g σ) R)) F H3 S := fun g rk rs R S h =>
    star_mono (A := (sepc (blk g 113 [.map (some rk), .map (some rs)]) (sepc (mapO rk (σ.ks.map kEnt)) (mapO rs l)))) (fun _ h => ⟨(rk, rs, l), hv, h⟩) (fun _ h => h) (star_assoc' (under h fun _ h => star_assoc' h))
  exact close _ _ _ _ _ (under a1 fun _ h => under h fun _ h => under h fun _ h => close _ _ _ _ _ h)
theorem clone62n {q : Option Addr} (h : Pure Tryz.prog 113 #[.pointer q] H (.bool false)) : Pure Tryz.prog 62 #[.pointer q] H (.pointer none) :=
  Pure.of (spec62 (WCall.pure h (WOpen.b (WIf.t rfl ⟨rfl, HP.le.refl H⟩))))
end
end Go.Proofs.YtmidcnfnmnhifaaGreat
