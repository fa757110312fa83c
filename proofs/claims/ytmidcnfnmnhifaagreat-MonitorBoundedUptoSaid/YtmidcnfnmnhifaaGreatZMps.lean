/-
  Maps.
-/
import Derived.Test.YtmidcnfnmnhifaaGreatZOwn
import Derived.StringKeys
import Derived.DeepKeys5
import Derived.Laws.World
namespace Go.Den
set_option linter.unusedSectionVars false
set_option linter.unusedSimpArgs false
set_option linter.unusedVariables false
open Go WideMaps
set_option linter.unusedVariables false
section
variable {P : Program} {a : Base} {R : Asr} {F H : HP} {S : List Nat}

/-- a map's block: keys and values, as they stand -/
def mapO (r : Nat) (l : List (Value × Value)) : Asr := fun _ H S => r ∈ S ∧ ∃ es clock, H r = some (.map es clock) ∧ es.toList.map (fun e => (e.key, e.val)) = l

theorem Good.mapO {r : Nat} {l : List (Value × Value)} : Good (mapO r l) :=
  ⟨fun _ h => h, fun hb ⟨h1, es, c, h2, h3⟩ => ⟨h1, es, c, by rw [hb _ h1]; exact h2, h3⟩, fun hs ⟨h1, h2⟩ => ⟨hs _ h1, h2⟩⟩

/-- a map that can be read -/
def MapH (H : HP) (r : Nat) (l : List (Value × Value)) : Prop := ∃ es clock, H r = some (.map es clock) ∧ es.toList.map (fun e => (e.key, e.val)) = l

theorem mapO_read {r : Nat} {l : List (Value × Value)} (h : ((sepc (mapO r l) R)) F H S) : MapH H r l := by
  obtain ⟨S1, S2, _, _, _, h3, _⟩ := h
  exact h3.2

theorem WPrim.makeMap {t : TypeId} {k : Value → W} (gr : Good R) (h : Wd a R F H S) (hk : ∀ r H', H r = none → H.le H' → Wd a ((sepc (mapO r []) R)) F H' (r :: S) → k (.map (some r)) H') : WPrim P (Instr.makeMap t none) k H := by
  intro w on
  have hn : H w.heap.size = none := by
    cases e : H w.heap.size with
    | none => rfl
    | some o => have := on.lt (b := w.heap.size) (by simp [e]); omega
  refine ⟨_, _, H.set w.heap.size (.map #[] 0), rfl, ?_, hk w.heap.size _ hn (HP.le_set hn) ((Wd.new gr h hn).imp fun hh => star_mono (fun S' hs => ⟨hs.1, #[], 0, hs.2, rfl⟩) (fun _ h => h) hh)⟩
  refine up_set on ?_ rfl rfl rfl (by simp [World.alloc]) (fun b hb hne => ?_) (.inr (Nat.le_refl _))
  · simp [World.alloc]
  · simp [World.alloc, Array.getElem?_push, Nat.ne_of_lt hb]

variable {t kt et : TypeId} (K : KeyLaw P kt) (ht : P.underlying t = some (.map kt et))
include K ht

theorem WPrim.lookup {r : Nat} {l : List (Value × Value)} {key z : Value} {kl : Lit} {ok : Bool} {k : Value → W} (hz : ∀ w, (zeroValue et).run P w = .ok z w) (hm : MapH H r l) (hkey : keyOf P kt key = some kl) (hes : ∀ x ∈ l, ∃ kl, keyOf P kt x.1 = some kl)
    (h1 : (∀ x ∈ l, x.1 ≠ key) → k (if ok then .tuple #[z, .bool false] else z) H) (h2 : ∀ (j : Nat) v, l[j]? = some (key, v) → k (if ok then .tuple #[v, .bool true] else v) H) :
    WPrim P (Instr.lookup t (.map (some r)) key ok) k H := by
  intro w on
  obtain ⟨es, clock, hr, rfl⟩ := hm
  have hb := on r _ hr
  rcases K.find w hkey es.toList (fun e he => hes (e.key, e.val) (List.mem_map.2 ⟨e, he, rfl⟩)) with ⟨f1, f2⟩ | ⟨j, e, f1, f2, f3⟩
  · refine ⟨_, w, H, ?_, Up.refl on, h1 fun x hx => ?_⟩
    · cases ok <;> simp [Instr.lookup, run_underlying ht, MapKept.run_getObj_map hb, K.check w _ hkey, f1, hz, Result.andThen]
    · obtain ⟨e, he, rfl⟩ := List.mem_map.1 hx
      exact f2 e he
  · refine ⟨_, w, H, ?_, Up.refl on, h2 j e.val (by rw [List.getElem?_map, f2, ← f3]; rfl)⟩
    cases ok <;> simp [Instr.lookup, run_underlying ht, MapKept.run_getObj_map hb, K.check w _ hkey, f1, Result.andThen]

theorem WPrimU.mapUpdate {r : Nat} {l : List (Value × Value)} {key val : Value} {kl : Lit} {k : W} (gr : Good R) (h : Wd a ((sepc (mapO r l) R)) F H S) (hkey : keyOf P kt key = some kl) (hes : ∀ x ∈ l, ∃ kl, keyOf P kt x.1 = some kl)
    (h1 : (∀ x ∈ l, x.1 ≠ key) → ∀ H', Wd a ((sepc (mapO r (l ++ [(key, val)])) R)) F H' S → k H') (h2 : ∀ (j : Nat) v, l[j]? = some (key, v) → ∀ H', Wd a ((sepc (mapO r (l.set j (key, val))) R)) F H' S → k H') :
    WPrimU P (Instr.mapUpdate t (.map (some r)) key val) k H := by
  intro w on
  obtain ⟨wd, tr, S1, S2, i1, i2, idj, ⟨hrS, es, clock, hr, rfl⟩, hR⟩ := h
  have hb := on r _ hr
  have wst : ∀ es' clock', Wd a ((sepc (obj r (.map es' clock')) R)) F (H.set r (.map es' clock')) S := fun es' clock' =>
    Wd.set (o := .map es clock) gr ⟨wd, tr, S1, S2, i1, i2, idj, ⟨hrS, hr⟩, hR⟩
  have hup : ∀ es' clock', Up H (H.set r (.map es' clock')) w { w with heap := w.heap.setIfInBounds r (.map es' clock') } := fun es' clock' =>
    up_set on (MapKept.heap_set hb).1 rfl rfl rfl (by simp) (fun b _ hne => (MapKept.heap_set hb).2 b hne) (.inl (by rw [hr]; simp))
  rcases K.find w hkey es.toList (fun e he => hes (e.key, e.val) (List.mem_map.2 ⟨e, he, rfl⟩)) with ⟨f1, f2⟩ | ⟨j, e, f1, f2, f3⟩
  · refine ⟨_, _, ?_, hup (es.push { key := key, val := val, born := clock }) (clock + 1), h1 (fun x hx => ?_) _ ((wst _ _).imp fun hh => star_mono (fun S' hs => ⟨hs.1, _, _, hs.2, by simp⟩) (fun _ h => h) hh)⟩
    · simp [Instr.mapUpdate, run_underlying ht, MapKept.run_getObj_map hb, K.check w false hkey, f1, MapKept.run_setObj_map _ hb, Result.andThen]
    · obtain ⟨e, he, rfl⟩ := List.mem_map.1 hx
      exact f2 e he
  · have hj : es[j]? = some e := by rw [← f2]; simp
    refine ⟨_, _, ?_, hup (es.modify j fun e => { e with key := key, val := val }) clock, h2 j e.val (by rw [List.getElem?_map, f2, ← f3]; rfl) _ ((wst _ _).imp fun hh => star_mono (fun S' hs => ⟨hs.1, _, _, hs.2, ?_⟩) (fun _ h => h) hh)⟩
    · simp [Instr.mapUpdate, run_underlying ht, MapKept.run_getObj_map hb, K.check w false hkey, f1, hj, f3, K.stays w hkey, MapKept.run_setObj_map _ hb, Result.andThen]
    · rw [Array.toList_modify]
      apply List.ext_getElem?
      intro i
      rw [List.getElem?_map, List.getElem?_modify, List.getElem?_set, List.getElem?_map, List.length_map]
      by_cases hij : j = i
      · subst hij
        have hlt : j < es.toList.length := (List.getElem?_eq_some_iff.1 f2).1
        simp only [f2, hlt, if_true]
        rfl
      · simp only [hij, if_false]
        cases es.toList[i]? <;> rfl
end
end Go.Den

namespace Go.Proofs.YtmidcnfnmnhifaaGreat
set_option linter.unusedSectionVars false
set_option linter.unusedSimpArgs false
set_option linter.unusedVariables false
open Go Go.Den
theorem laidOut : laidOutB Tryz.prog = true := by kernel_rfl
theorem typesSmall : decide (Tryz.prog.types.size + 2 ≤ 10000 ∧ 183 < Tryz.prog.types.size) = true := by kernel_rfl
theorem keyType183 : Tryz.prog.keyType 183 = true := by kernel_rfl
theorem string9 : Tryz.prog.underlying 9 = some .string := by kernel_rfl
theorem map110 : Tryz.prog.underlying 110 = some (.map 9 3) := by kernel_rfl
theorem map111 : Tryz.prog.underlying 111 = some (.map 183 38) := by kernel_rfl
def structOf (d : Option TypeDesc) : Option (List (TypeId × Nat × String)) := match d with
  | some (.struct fs) => some (fs.toList.map fun f => (f.type, f.offset, f.name))
  | _ => none
theorem struct183 : structOf (Tryz.prog.underlying 183) = some [(9, 0, "entity"), (9, 1, "name")] := by kernel_rfl
theorem cells183 : Tryz.prog.cellsOf 183 = 2 ∧ Tryz.prog.cellsOf 9 = 1 := by
  constructor <;> kernel_rfl

theorem keyS : WideMaps.KeyLaw Tryz.prog 9 := WideMaps.string_law string9
theorem keyP : WideMaps.KeyLaw Tryz.prog 183 := by
  have h := of_decide_eq_true typesSmall
  refine deep_law_gate laidOut h.1 h.2 keyType183 ?_
  have := struct183
  unfold structOf at this
  split at this
  · rename_i h; rw [h]
  · cases this

theorem keyOfS {s : ByteArray} (hs : s.size ≤ maxLen) : keyOf Tryz.prog 9 (.string s) = some (.string s.data.toList) := WideMaps.keyOf_string_mk string9 hs
theorem keyOfP {s u : ByteArray} (hs : s.size ≤ maxLen) (hu : u.size ≤ maxLen) : ∃ kl, keyOf Tryz.prog 183 (.agg #[.string s, .string u]) = some kl := by
  have h := struct183
  unfold structOf at h
  split at h
  · rename_i fs hfs
    simp only [Option.some.injEq] at h
    obtain ⟨m, hm⟩ : ∃ m, Tryz.prog.types.size = m + 1 := ⟨Tryz.prog.types.size - 1, by have := (of_decide_eq_true typesSmall).2; omega⟩
    obtain ⟨f0, f1, hl⟩ : ∃ f0 f1, fs.toList = [f0, f1] := by
      match hl : fs.toList with
      | [] => rw [hl] at h; simp at h
      | [a] => rw [hl] at h; simp at h
      | [a, b] => exact ⟨a, b, rfl⟩
      | a :: b :: c :: l => rw [hl] at h; simp at h
    rw [hl] at h
    simp only [List.map_cons, List.map_nil, List.cons.injEq, Prod.mk.injEq, and_true] at h
    obtain ⟨⟨a1, a2, a3⟩, b1, b2, b3⟩ := h
    have hall : (fs.all fun x => x.name != "_") = true := by
      rw [← Array.all_toList, hl]
      simp [a3, b3]
    unfold keyOf
    rw [hfs]
    simp only
    rw [if_pos (by simp [keyType183, Value.formed, hfs, cells183.1]), hm]
    unfold Program.keyLits
    rw [hfs]
    simp only [Value.cells]
    have hc : [Value.string s, Value.string u].length = Tryz.prog.cellsOf 183 ∧ (fs.all fun x => x.name != "_") = true := ⟨by rw [cells183.1]; rfl, hall⟩
    simp only [hc.1, hall, and_self, if_true]
    rw [hl, List.mapM_cons, List.mapM_cons, List.mapM_nil]
    simp [a1, a2, b1, b2, cells183.2, Program.keyLits, string9, hs, hu]
  · cases h

theorem zero3 (w : World) : (zeroValue 3).run Tryz.prog w = .ok (.int .i64 0) w := by
  have h : (Tryz.prog.info? 3).map (·.zero) = some (some (.int .i64 0)) := by kernel_rfl
  cases hi : Tryz.prog.info? 3 with
  | none => rw [hi] at h; cases h
  | some i =>
    rw [hi] at h
    simp only [Option.map_some, Option.some.injEq] at h
    simp [zeroValue, typeInfo, hi, h, Result.andThen]
theorem zero38 (w : World) : (zeroValue 38).run Tryz.prog w = .ok (.agg #[.int .i64 0, .int .i64 0, .string (ByteArray.mk #[]), .slice none 0 0]) w := by
  have h : (Tryz.prog.info? 38).map (·.zero) = some (some (.agg #[.int .i64 0, .int .i64 0, .string (ByteArray.mk #[]), .slice none 0 0])) := by kernel_rfl
  cases hi : Tryz.prog.info? 38 with
  | none => rw [hi] at h; cases h
  | some i =>
    rw [hi] at h
    simp only [Option.map_some, Option.some.injEq] at h
    simp [zeroValue, typeInfo, hi, h, Result.andThen]
end Go.Proofs.YtmidcnfnmnhifaaGreat
