/-
  From a contract over views to a law's row.
-/
import Derived.Test.YtmidcnfnmnhifaaGreatZVlu
import Derived.Test.YtmidcnfnmnhifaaGreatRows
import Derived.ProofKit
import Derived.JoinedCond
import Derived.Deep.Slices
namespace Go.Proofs.YtmidcnfnmnhifaaGreat
set_option linter.unusedSectionVars false
set_option linter.unusedSimpArgs false
set_option linter.unusedVariables false
open Go Go.Den Go.ChangeShapes Go.WideShapes Go.ChangeAt Go.RowKit
set_option linter.unusedVariables false

theorem ownNone : ownKnob Tryz.prog.godebug = none := by kernel_rfl
theorem laidOut : laidOutB Tryz.prog = true := by kernel_rfl

/-- all that the world holds -/
def full (W : World) : HP := fun b => W.heap[b]?
theorem full_on (W : World) : (full W).on W := fun _ _ h => h
theorem full_cell (W : World) (a : Addr) : (full W).cell? a = W.cell? a := rfl

theorem law_calls {k : FuncId} {fn : Func} {args : Array Value} {W : World} {v : Value} (hf : Tryz.prog.funcs[k]? = some fn) (hbody : fn.body.isSome = true) (hn : (fn.name == "runtime.NumGoroutine") = false) (h : Pure Tryz.prog k args (full W) v) :
    Calls Tryz.prog k args W fun e W' => e = .returned v ∧ Below W.heap.size W W' := by
  have below : ∀ {W'}, Up (full W) (full W) W W' → Below W.heap.size W W' := fun u => ⟨u.os, u.tape, u.output, u.size, fun b hb => by
    cases e : W.heap[b]? with
    | none => rw [Array.getElem?_eq_none_iff] at e; omega
    | some o => exact u.on b o e⟩
  have enter : (callFunc k args).run Tryz.prog W = .ok (.enter k args) W := by
    unfold callFunc
    have hn' : fn.name ≠ "runtime.NumGoroutine" := by simpa using hn
    obtain ⟨c, hc⟩ := Option.isSome_iff_exists.1 hbody
    simp [hf, hn', hc]
  rcases h W (full_on W) with ⟨h1, h2⟩ | ⟨u, W', H', h1, h2, h3⟩
  · refine h2.mono ?_
    rintro e W' ⟨H', hu, he, rfl⟩
    exact ⟨he, below hu⟩
  · rw [enter] at h1
    cases h1

theorem trodAll_below {HH : Type} {enc : TypeId × Value → HH} {W W' : World} (hb : Below W.heap.size W W') : ∀ {ts : List TypeId} {vs : List Value} {ds : List (DataW HH)} {ps : List MemPlace}, (∀ t ∈ ts, Tryz.prog.readableRec t = true ∧ t < Tryz.prog.types.size) →
    (∀ x ∈ ps, x.block < W.heap.size) → DataW.TrodAll enc Tryz.prog W 0 (fun _ => true) true ts vs ds ps → DataW.TrodAll enc Tryz.prog W' 0 (fun b => decide (b < W.heap.size)) true ts vs ds ps
  | [], [], [], ps, _, _, h => h
  | t :: ts, v :: vs, d :: ds, ps, hr, hlt, ⟨p, q, h1, h2, h3⟩ => by
    subst h3
    exact ⟨p, q, Below.trod laidOut (hr t (by simp)).1 (hr t (by simp)).2 h1 hb fun x hx => hlt x (by simp [hx]), trodAll_below hb (fun t ht => hr t (by simp [ht])) (fun x hx => hlt x (by simp [hx])) h2, rfl⟩

theorem trodAll_below' {HH : Type} {enc : TypeId × Value → HH} {W W' : World} (hb : Below W.heap.size W W') : ∀ {ts : List TypeId} {vs : List Value} {ds : List (DataW HH)} {ps : List MemPlace}, (∀ t ∈ ts, Tryz.prog.readableRec t = true ∧ t < Tryz.prog.types.size) →
    (∀ x ∈ ps, x.block < W.heap.size) → DataW.TrodAll enc Tryz.prog W 0 (fun _ => true) true ts vs ds ps → ∀ sp : Nat → Bool, (∀ p ∈ ps, sp p.block = true) → DataW.TrodAll enc Tryz.prog W' 0 sp true ts vs ds ps
  | [], [], [], ps, _, _, h, sp, _ => h
  | t :: ts, v :: vs, d :: ds, ps, hr, hlt, ⟨p, q, h1, h2, h3⟩, sp, hs => by
    subst h3
    exact ⟨p, q, WideElems.Trod_stays laidOut (hr t (by simp)).1 (hr t (by simp)).2 h1 (fun x hx => hb.same (hlt x (by simp [hx]))) (fun x hx => hs x (by simp [hx])), trodAll_below' hb (fun t ht => hr t (by simp [ht])) (fun x hx => hlt x (by simp [hx])) h2 sp (fun x hx => hs x (by simp [hx])), rfl⟩

theorem tyOk {ts : List TypeId} (h : (ts.all fun t => Tryz.prog.readableRec t && decide (t < Tryz.prog.types.size)) = true) : ∀ t ∈ ts, Tryz.prog.readableRec t = true ∧ t < Tryz.prog.types.size := by
  intro t ht
  have := List.all_eq_true.1 h t ht
  simpa using this

set_option maxRecDepth 100000 in
/-- a law that returns true and writes nothing old -/
theorem law_post {HH : Type} {enc : TypeId × Value → HH} {f : Func} {s : ChangeSpec} {W W' : World} {args : Array Value} {ds gs : List (DataW HH)} {before : List MemPlace}
    (hv : s.vars = []) (hr : f.resultTypes = #[4]) (hW : DataW.Whole enc Tryz.prog f.params.toList s.vars false W args.toList ds gs before) (hs : s.fn HH (ds ++ gs) = { results := [.lit (.bool true)], args := ds })
    (hty : ∀ t ∈ f.params.toList, Tryz.prog.readableRec t = true ∧ t < Tryz.prog.types.size) (hb : Below W.heap.size W W') : s.post enc Tryz.prog f false true false false W args (.bool true) W' := by
  have hlt := hW.lt
  have hW' := hW
  obtain ⟨p, q, hA, hV, rfl, hz, hn⟩ := hW'
  rw [hv] at hV
  obtain ⟨rfl, rfl⟩ := trodVars_none hV
  simp only [List.append_nil] at hlt hs hW hz hn ⊢
  have hres : ∀ (b : Nat) (sp : Nat → Bool) (hd : Bool), DataW.TrodAll enc Tryz.prog W' b sp hd f.resultTypes.toList ((Value.bool true).resultList f.resultTypes.size) (s.fn HH ds).results [] := by
    intro b sp hd
    rw [hr, hs]
    exact trodAll_mk1 (shut_bool Tryz.underlying4 _)
  have hargs : ∀ sp : Nat → Bool, (∀ x ∈ p, sp x.block = true) → DataW.TrodAll enc Tryz.prog W' 0 sp true f.params.toList args.toList (s.fn HH ds).args p := by
    intro sp hsp
    rw [hs]
    exact trodAll_below' hb hty hlt hA sp hsp
  have hvars : ∀ sp : Nat → Bool, DataW.TrodVars enc Tryz.prog W' sp s.vars (s.fn HH ds).vars [] := by
    intro sp
    rw [hv, hs]
    rfl
  have hfr : ∀ b off, MemPlace.cell b off ∈ p → W'.frozen? ⟨b, off, none⟩ = W.frozen? ⟨b, off, none⟩ := fun b off hp => hb.frozen (p := ⟨b, off, none⟩) (hlt _ hp)
  refine ⟨ds, [], p, [], p, [], hW, by simpa using hres _ _ _, by simpa using hargs _ (fun x hx => by simpa using hlt x hx), by simpa using hvars _, World.keptBut_mono (fun x hx => ⟨hx, Or.inr (by simpa using hx)⟩) (hb.frame _), fun _ => ?_⟩
  refine ⟨ok_one hr rfl (okWide_bool_mk Tryz.underlying4 _), _, _, ([] ++ p) ++ [], ⟨[] ++ p, [], trodAll_append (by simpa using hargs _ (fun _ _ => rfl)) (hres _ _ _), by simpa using hvars _, rfl, ?_, ?_⟩, ?_⟩
  · intro b off hp
    have hp' : MemPlace.cell b off ∈ p := by simpa using hp
    rw [hfr b off hp']
    exact hz b off hp'
  · intro ha
    simpa using hn ha
  · intro x hx _
    simpa using hx
end Go.Proofs.YtmidcnfnmnhifaaGreat
