/-
  Package store.
-/
import Derived.Test.YtmidcnfnmnhifaaGreatZMps
import Derived.Test.YtmidcnfnmnhifaaGreatZVlu
import Derived.Test.YtmidcnfnmnhifaaGreatZWza
import Derived.Test.YtmidcnfnmnhifaaGreatZWzb
import Derived.Test.YtmidcnfnmnhifaaGreatZWzc
import Derived.Laws.Externs
namespace Go.Proofs.YtmidcnfnmnhifaaGreat
set_option linter.unusedSectionVars false
set_option linter.unusedSimpArgs false
set_option linter.unusedVariables false
open Go Go.Den
set_option linter.unusedVariables false

/-! ### Lists of pairs -/
section
variable {α β : Type} [DecidableEq α]
def lk : List (α × β) → α → Option β
  | [], _ => none
  | x :: l, k => if x.1 = k then some x.2 else lk l k
def pt : List (α × β) → α → β → List (α × β)
  | [], k, v => [(k, v)]
  | x :: l, k, v => if x.1 = k then (k, v) :: l else x :: pt l k v

theorem lk_none {l : List (α × β)} {k : α} (h : ∀ x ∈ l, x.1 ≠ k) : lk l k = none := by
  induction l with
  | nil => rfl
  | cons x l ih =>
    simp only [lk]
    rw [if_neg (h x (by simp)), ih fun y hy => h y (by simp [hy])]
theorem lk_none_iff {l : List (α × β)} {k : α} : lk l k = none ↔ ∀ x ∈ l, x.1 ≠ k := by
  refine ⟨fun h => ?_, lk_none⟩
  induction l with
  | nil => simp
  | cons x l ih =>
    simp only [lk] at h
    split at h
    · cases h
    · rename_i hne
      intro y hy
      rcases List.mem_cons.1 hy with rfl | hy
      · exact hne
      · exact ih h y hy
theorem lk_some {l : List (α × β)} {k : α} {v : β} {j : Nat} (hn : (l.map (·.1)).Nodup) (h : l[j]? = some (k, v)) : lk l k = some v := by
  induction l generalizing j with
  | nil => simp at h
  | cons x l ih =>
    simp only [lk]
    cases j with
    | zero =>
      simp only [List.getElem?_cons_zero, Option.some.injEq] at h
      rw [h, if_pos rfl]
    | succ j =>
      simp only [List.getElem?_cons_succ] at h
      simp only [List.map_cons, List.nodup_cons] at hn
      rw [if_neg (fun (e : x.1 = k) => hn.1 (by rw [e]; exact List.mem_map.2 ⟨(k, v), List.mem_of_getElem? h, rfl⟩)), ih hn.2 h]
theorem pt_none {l : List (α × β)} {k : α} {v : β} (h : ∀ x ∈ l, x.1 ≠ k) : pt l k v = l ++ [(k, v)] := by
  induction l with
  | nil => rfl
  | cons x l ih =>
    simp only [pt]
    rw [if_neg (h x (by simp)), ih fun y hy => h y (by simp [hy])]
    rfl
theorem pt_some {l : List (α × β)} {k : α} {v v0 : β} {j : Nat} (hn : (l.map (·.1)).Nodup) (h : l[j]? = some (k, v0)) : pt l k v = l.set j (k, v) := by
  induction l generalizing j with
  | nil => simp at h
  | cons x l ih =>
    simp only [pt]
    cases j with
    | zero =>
      simp only [List.getElem?_cons_zero, Option.some.injEq] at h
      rw [h, if_pos rfl]
      rfl
    | succ j =>
      simp only [List.getElem?_cons_succ] at h
      simp only [List.map_cons, List.nodup_cons] at hn
      rw [if_neg (fun (e : x.1 = k) => hn.1 (by rw [e]; exact List.mem_map.2 ⟨(k, v0), List.mem_of_getElem? h, rfl⟩)), ih hn.2 h]
      rfl
theorem lk_pt {l : List (α × β)} {k k' : α} {v : β} : lk (pt l k v) k' = if k = k' then some v else lk l k' := by
  induction l with
  | nil => simp [pt, lk]
  | cons x l ih =>
    simp only [pt]
    split
    · rename_i h
      simp only [lk]
      by_cases hk : k = k'
      · simp [hk]
      · rw [if_neg hk, if_neg hk, if_neg (by rw [h]; exact hk)]
    · rename_i h
      simp only [lk, ih]
      by_cases hx : x.1 = k'
      · rw [if_pos hx, if_neg fun e => h (hx.trans e.symm), if_pos hx]
      · rw [if_neg hx, if_neg hx]
theorem mem_pt {l : List (α × β)} {k : α} {v : β} {x : α × β} (h : x ∈ pt l k v) : x = (k, v) ∨ x ∈ l := by
  induction l with
  | nil => simpa [pt] using h
  | cons y l ih =>
    simp only [pt] at h
    split at h
    · rcases List.mem_cons.1 h with rfl | h
      · exact .inl rfl
      · exact .inr (by simp [h])
    · rcases List.mem_cons.1 h with rfl | h
      · exact .inr (by simp)
      · exact (ih h).imp id fun h => by simp [h]
theorem nodup_pt {l : List (α × β)} {k : α} {v : β} (hn : (l.map (·.1)).Nodup) : ((pt l k v).map (·.1)).Nodup := by
  induction l with
  | nil => simp [pt]
  | cons x l ih =>
    simp only [List.map_cons, List.nodup_cons] at hn
    simp only [pt]
    split
    · rename_i h
      simp only [List.map_cons, List.nodup_cons]
      exact ⟨h ▸ hn.1, hn.2⟩
    · rename_i h
      simp only [List.map_cons, List.nodup_cons]
      refine ⟨fun hm => ?_, ih hn.2⟩
      obtain ⟨y, hy, e⟩ := List.mem_map.1 hm
      rcases mem_pt hy with rfl | hy
      · exact h e.symm
      · exact hn.1 (List.mem_map.2 ⟨y, hy, e⟩)
theorem length_pt {l : List (α × β)} {k : α} {v : β} : (pt l k v).length ≤ l.length + 1 := by
  induction l with
  | nil => simp [pt]
  | cons x l ih =>
    simp only [pt]
    split
    · simp
    · simp only [List.length_cons]; omega
end

/-! ### A store -/
structure Sto where
  ks : List (ByteArray × Int)
  cs : List ((ByteArray × ByteArray) × Va)

def kEnt (x : ByteArray × Int) : Value × Value := (.string x.1, .int .i64 x.2)
def VEnt (F : HP) (e : Value × Value) (x : (ByteArray × ByteArray) × Va) : Prop := e.1 = .agg #[.string x.1.1, .string x.1.2] ∧ ∃ cs, e.2 = .agg ⟨cs⟩ ∧ x.2.At F cs
def VEnts (F : HP) (l : List (Value × Value)) (m : List ((ByteArray × ByteArray) × Va)) : Prop := l.length = m.length ∧ ∀ (i : Nat) e x, l[i]? = some e → m[i]? = some x → VEnt F e x

structure Sto.Ok (σ : Sto) : Prop where
  k1 : ∀ x ∈ σ.ks, x.1.size ≤ maxLen ∧ 1 ≤ x.2 ∧ x.2 ≤ 4
  k2 : (σ.ks.map (·.1)).Nodup
  c1 : ∀ x ∈ σ.cs, x.1.1.size ≤ maxLen ∧ x.1.2.size ≤ maxLen ∧ x.2.l.length ≤ 8
  c2 : (σ.cs.map (·.1)).Nodup

def storeA (g : Nat) (σ : Sto) : Asr := ex fun x : Nat × Nat × List (Value × Value) =>
  also (fz fun F => VEnts F x.2.2 σ.cs) ((sepc (blk g 113 [.map (some x.1), .map (some x.2.1)]) (sepc (mapO x.1 (σ.ks.map kEnt)) (mapO x.2.1 x.2.2))))

theorem VEnts.mono {F F' : HP} (h : F.le F') {l : List (Value × Value)} {m : List ((ByteArray × ByteArray) × Va)} (he : VEnts F l m) : VEnts F' l m :=
  ⟨he.1, fun i e x h1 h2 => let ⟨a1, cs, a2, a3⟩ := he.2 i e x h1 h2; ⟨a1, cs, a2, a3.mono h⟩⟩
theorem Good.store {g : Nat} {σ : Sto} : Good (storeA g σ) := Good.ex fun _ => Good.also (Good.fz fun _ _ hl h => h.mono hl) (Good.star Good.blk (Good.star Good.mapO Good.mapO))

def Sto.kind (σ : Sto) (n : ByteArray) : Int := (lk σ.ks n).getD 0
def Sto.get (σ : Sto) (e n : ByteArray) : Option Va := if σ.kind n = 0 then none else some ((lk σ.cs (e, n)).getD (Va.zero (σ.kind n)))
def Sto.set (σ : Sto) (e n : ByteArray) (v : Va) : Int × Sto :=
  if σ.kind n = 0 then (14, σ) else if σ.kind n ≠ v.k then (31, σ) else if v.check ≠ 0 then (v.check, σ) else (0, { σ with cs := pt σ.cs (e, n) v })

/-- what can be read of a store -/
def StoH (F H : HP) (g : Nat) (σ : Sto) : Prop := ∃ rk rs l, H.has ⟨g, 0, none⟩ [.map (some rk)] ∧ H.has ⟨g, 1, none⟩ [.map (some rs)] ∧ MapH H rk (σ.ks.map kEnt) ∧ MapH H rs l ∧ VEnts F l σ.cs

section
variable {a : Base} {R : Asr} {F H : HP} {S : List Nat}

theorem store_read {g : Nat} {σ : Sto} (h : ((sepc (storeA g σ) R)) F H S) : StoH F H g σ := by
  obtain ⟨S1, S2, i1, i2, idj, ⟨⟨rk, rs, l⟩, h1, h2⟩, h3⟩ := h
  refine ⟨rk, rs, l, blk_has h2 rfl, blk_has (off := 1) h2 rfl, ?_, ?_, h1⟩
  · exact mapO_read (star_left h2)
  · exact (star_snd Good.mapO (star_snd (Good.star Good.mapO Good.mapO) h2)).2

theorem is113 {g : Nat} {σ : Sto} (h : StoH F H g σ) : Pure Tryz.prog 113 #[.pointer (some ⟨g, 0, none⟩)] H (.bool true) := by
  obtain ⟨rk, rs, l, h1, _⟩ := h
  exact Pure.of (spec113 (WIf.t rfl (WNonNil.some (WLoad.m (by rw [addN]; exact h1) ⟨rfl, HP.le.refl H⟩))))
theorem is113n : Pure Tryz.prog 113 #[.pointer none] H (.bool false) := Pure.of (spec113 (WIf.f rfl ⟨rfl, HP.le.refl H⟩))
theorem is113z {g : Nat} (h : H.has ⟨g, 0, none⟩ [.map none]) : Pure Tryz.prog 113 #[.pointer (some ⟨g, 0, none⟩)] H (.bool false) :=
  Pure.of (spec113 (WIf.t rfl (WNonNil.some (WLoad.m (by rw [addN]; exact h) ⟨rfl, HP.le.refl H⟩))))

theorem kEnt_keys {l : List (ByteArray × Int)} (h : ∀ x ∈ l, x.1.size ≤ maxLen) : ∀ x ∈ l.map kEnt, ∃ kl, keyOf Tryz.prog 9 x.1 = some kl := by
  intro x hx
  obtain ⟨y, hy, rfl⟩ := List.mem_map.1 hx
  exact ⟨_, keyOfS (h y hy)⟩

theorem kind112 {g : Nat} {σ : Sto} (h : StoH F H g σ) (ok : σ.Ok) {n : ByteArray} (hn : n.size ≤ maxLen) : Pure Tryz.prog 112 #[.pointer (some ⟨g, 0, none⟩), .string n] H (.int .i64 (σ.kind n)) := by
  have his := is113 h
  obtain ⟨rk, rs, l, h1, _, hm, _⟩ := h
  refine Pure.of (spec112 (WCall.pure his (WOpen.b (WIf.f rfl (WNonNil.some (WLoad.m (by rw [addN]; exact h1) ?_))))))
  refine WPrim.lookup keyS map110 zero3 hm (keyOfS hn) (kEnt_keys fun x hx => (ok.k1 x hx).1) (fun hno => ?_) (fun j v hj => ?_)
  · refine WOpen.i ⟨?_, HP.le.refl H⟩
    have : lk σ.ks n = none := lk_none fun x hx e => hno (kEnt x) (List.mem_map.2 ⟨x, hx, rfl⟩) (by rw [← e]; rfl)
    rw [Sto.kind, this]
    rfl
  · rw [List.getElem?_map] at hj
    cases hx : σ.ks[j]? with
    | none => rw [hx] at hj; cases hj
    | some x =>
      rw [hx] at hj
      simp only [Option.map_some, Option.some.injEq, kEnt, Prod.mk.injEq, Value.string.injEq] at hj
      obtain ⟨rfl, rfl⟩ := hj
      refine WOpen.i ⟨?_, HP.le.refl H⟩
      rw [Sto.kind, lk_some ok.k2 (k := x.1) (v := x.2) hx]
      rfl

theorem sliceStr : SliceTy Tryz.prog 36 9 1 16 := ⟨by kernel_rfl, by kernel_rfl⟩
def strC (l : List ByteArray) : List Value := l.map .string
theorem strC_at {l : List ByteArray} {i : Nat} {x : ByteArray} (h : l[i]? = some x) : ((strC l).drop i).take 1 = [.string x] := by
  unfold strC
  obtain ⟨hlt, e⟩ := List.getElem?_eq_some_iff.1 h
  rw [← List.map_drop, List.drop_eq_getElem_cons hlt, e]
  rfl

theorem ownS_strs {p : Option Addr} {n c : Nat} {l : List ByteArray} (h : ownS 9 1 p n c (strC l) F H S) : StrsAt H p l := by
  intro i x hx
  obtain ⟨g, h1, h2⟩ := ownS_has h (i := i) (vs := [.string x]) (by exact strC_at hx) (by simp)
  exact ⟨_, h1, by rw [addN, Nat.zero_add]; exact h2⟩

/-- slices.Clone of texts -/
theorem clone193 {p : Option Addr} {l : List ByteArray} (c : Nat) (hp : StrsAt H p l) (hlen : l.length < 1000000000) :
    Den.Spec Tryz.prog 193 #[.slice p l.length c] H fun e H' => ∃ v, e = .returned v ∧ (∃ p' c', v = .slice p' l.length c' ∧ ∃ S', Wd ⟨H, H, []⟩ (ownS 9 1 p' l.length c' (strC l)) H H' S') ∧ H.le H' := by
  have start : Wd ⟨H, H, []⟩ emp' H H [] := Wd.start ⟨HP.le.refl H, fun _ h => by simp at h, fun _ h => by simp at h⟩ trivial
  have fin : ∀ {A : Asr} {H' S'}, Wd ⟨H, H, []⟩ A H H' S' → H.le H' := fun h => h.wd.le
  refine spec193 ?_
  cases p with
  | none =>
    have : l = [] := by
      cases l with
      | nil => rfl
      | cons x l => obtain ⟨g, h1, _⟩ := hp 0 x rfl; cases h1
    subst this
    exact WIf.t rfl ⟨_, rfl, ⟨none, 0, rfl, [], start.imp fun _ => ownS_nil⟩, HP.le.refl H⟩
  | some x =>
    refine WIf.f rfl (WNew.blk Good.emp start fun z H1 hz hle h1 => ?_)
    have h2 : Wd ⟨H, H, []⟩ ((sepc (ownS 9 1 (some ⟨z, 0, none⟩) 0 0 []) emp')) H H1 [z] := h1.imp fun hh => star_mono (fun _ h => ⟨rfl, .inr ⟨z, ⟨[]⟩, rfl, h.1, h.2, Nat.le_refl _, by simp [maxLen], rfl, rfl⟩⟩) (fun _ h => h) hh
    refine SliceTy.push sliceStr (by omega) Good.emp h2 (x := x) (m := l.length) (news := strC l) (by simp [strC]) ?_ ?_ (by simp only [maxLen]; omega) (by omega) ?_
    · intro i v hi
      simp only [strC, List.getElem?_map] at hi
      cases hx : l[i]? with
      | none => rw [hx] at hi; cases hi
      | some y =>
        rw [hx] at hi
        cases hi
        obtain ⟨a', ha, hh⟩ := hp i y hx
        cases ha
        have := hle.has hh 0 (.string y) rfl
        rwa [show (x.add i).add 0 = x.add i by simp [Addr.add]] at this
    · intro u hu
      obtain ⟨y, _, rfl⟩ := List.mem_map.1 hu
      rfl
    · intro p' cap H2 S2 h3 _
      simp only [Nat.zero_add, List.nil_append] at h3 ⊢
      exact WOpen.sl ⟨_, rfl, ⟨p', cap, rfl, S2, h3.imp fun hh => star_fst Good.ownS hh⟩, fin h3⟩

theorem clone193' {p : Option Addr} {l : List ByteArray} (c : Nat) (hp : StrsAt H p l) (hlen : l.length < 1000000000) :
    Den.Spec Tryz.prog 193 #[.slice p l.length c] H fun e H' => ∃ v, e = .returned v ∧ (∃ p' c', v = .slice p' l.length c' ∧ StrsAt H' p' l) ∧ H.le H' :=
  (clone193 c hp hlen).mono fun e H' ⟨v, h1, ⟨p', c', h2, S', h3⟩, h4⟩ => ⟨v, h1, ⟨p', c', h2, ownS_strs h3.it⟩, h4⟩

theorem own115 {v : Va} {cs : List Value} (hv : v.At H cs) (hlen : v.l.length < 1000000000) :
    Den.Spec Tryz.prog 115 #[.agg ⟨cs⟩] H fun e H' => ∃ u, e = .returned u ∧ (∃ cs', u = .agg ⟨cs'⟩ ∧ v.At H' cs') ∧ H.le H' := by
  obtain ⟨p, c, rfl, hp⟩ := hv
  refine spec115 (WCall.of (clone193' c hp hlen) ?_ (by rintro e H' ⟨v', hv, _⟩ hne; exact absurd hv (hne _)))
  rintro v' H1 ⟨v'', hv, ⟨p', c', rfl, hp'⟩, hle⟩
  cases hv
  exact WOpen.sl ⟨_, rfl, ⟨_, rfl, p', c', rfl, hp'⟩, hle⟩

/-- what Get tells -/
def GetV (F : HP) (o : Option Va) (v : Value) : Prop := match o with
  | none => v = .tuple #[.agg ⟨flat ⟨0, 0, nos, []⟩⟩, .bool false]
  | some x => ∃ cs, x.At F cs ∧ v = .tuple #[.agg ⟨cs⟩, .bool true]

theorem pEnt_keys {l : List (Value × Value)} {m : List ((ByteArray × ByteArray) × Va)} (h : VEnts F l m) (hm : ∀ x ∈ m, x.1.1.size ≤ maxLen ∧ x.1.2.size ≤ maxLen ∧ x.2.l.length ≤ 8) : ∀ x ∈ l, ∃ kl, keyOf Tryz.prog 183 x.1 = some kl := by
  intro x hx
  obtain ⟨i, hi, rfl⟩ := List.getElem_of_mem hx
  have him : i < m.length := h.1 ▸ hi
  obtain ⟨h1, _⟩ := h.2 i l[i] m[i] (by simp [hi]) (by simp [him])
  rw [h1]
  have := hm m[i] (List.getElem_mem him)
  exact keyOfP this.1 this.2.1

theorem get59 {g : Nat} {σ : Sto} {e n : ByteArray} (gr : Good R) (h : Wd a R F H S) (hs : StoH F H g σ) (ok : σ.Ok) (he : e.size ≤ maxLen) (hn : n.size ≤ maxLen) :
    Den.Spec Tryz.prog 59 #[.pointer (some ⟨g, 0, none⟩), .string e, .string n] H fun e' H' => ∃ v F' , e' = .returned v ∧ GetV F' (σ.get e n) v ∧ F.le F' ∧ Wd a R F' H' S := by
  refine spec59 (WCall.pure (kind112 hs ok hn) (WOpen.i ?_))
  by_cases hk : σ.kind n = 0
  · refine WIf.t (by simp [hk]) ⟨_, F, rfl, ?_, HP.le.refl F, h⟩
    unfold Sto.get
    rw [if_pos hk]
    rfl
  · obtain ⟨rk, rs, l, h1, h2, hmk, hms, hv⟩ := hs
    refine WIf.f (by simp [hk]) (WNonNil.some (WLoad.m (by rw [addN]; exact h2) ?_))
    obtain ⟨kl, hkl⟩ := keyOfP he hn
    refine WPrim.lookup keyP map111 zero38 hms hkl (pEnt_keys hv ok.c1) (fun hno => ?_) (fun j v hj => ?_)
    · have hlk : lk σ.cs (e, n) = none := lk_none fun x hx hxe => by
        obtain ⟨i, hi, rfl⟩ := List.getElem_of_mem hx
        have hil : i < l.length := hv.1.symm ▸ hi
        obtain ⟨q1, _⟩ := hv.2 i l[i] σ.cs[i] (by simp [hil]) (by simp [hi])
        exact hno l[i] (List.getElem_mem hil) (by rw [q1, hxe])
      refine WOpen.vab (WIf.f rfl (WCall.pure (vzero _) (WOpen.va ⟨_, F, rfl, ?_, HP.le.refl F, h⟩)))
      unfold Sto.get
      rw [if_neg hk, hlk]
      refine ⟨flat (Va.zero (σ.kind n)), flat_at ?_, rfl⟩
      unfold Va.zero
      split <;> rfl
    · have hjl : j < σ.cs.length := hv.1 ▸ (List.getElem?_eq_some_iff.1 hj).1
      obtain ⟨q1, cs, q2, q3⟩ := hv.2 j (.agg #[.string e, .string n], v) σ.cs[j] hj (by simp [hjl])
      simp only [Value.agg.injEq, Array.mk.injEq, List.cons.injEq, Value.string.injEq, and_true] at q1
      have hlk : lk σ.cs (e, n) = some σ.cs[j].2 := by
        refine lk_some ok.c2 (j := j) ?_
        rw [List.getElem?_eq_getElem hjl]
        exact congrArg some (Prod.ext (Prod.ext q1.1.symm q1.2.symm) rfl)
      subst q2
      have hown : Den.Spec Tryz.prog 115 #[.agg ⟨cs⟩] F fun e H' => ∃ u, e = .returned u ∧ (∃ cs', u = .agg ⟨cs'⟩ ∧ σ.cs[j].2.At H' cs') ∧ F.le H' := own115 q3 (by have := (ok.c1 _ (List.getElem_mem hjl)).2.2; omega)
      obtain ⟨p, c, rfl, hp⟩ := q3
      refine WOpen.vab (WIf.t rfl (WCall.grow gr h hown ?_))
      rintro u F' H' ⟨cs', rfl, hu⟩ hle hw
      have hu' := hu
      obtain ⟨p', c', rfl, hp'⟩ := hu'
      refine WOpen.va ⟨_, F', rfl, ?_, hle, hw⟩
      unfold Sto.get
      rw [if_neg hk, hlk]
      exact ⟨_, hu, rfl⟩
end
end Go.Proofs.YtmidcnfnmnhifaaGreat
