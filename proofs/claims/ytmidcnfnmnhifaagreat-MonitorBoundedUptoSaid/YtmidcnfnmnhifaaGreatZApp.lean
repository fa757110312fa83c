/-
  append to a slice of one's own.
-/
import Derived.Test.YtmidcnfnmnhifaaGreatZRul
import Derived.Laws.OwnMore
import Derived.ArgAppend
namespace Go.Den
set_option linter.unusedSectionVars false
set_option linter.unusedSimpArgs false
set_option linter.unusedVariables false
open Go
set_option linter.unusedVariables false
section
variable {P : Program} {H : HP}

/-- a slice that owns its block: 'xs' are its cells -/
def OwnsH (H : HP) (e : TypeId) (size : Nat) (v : Value) (n : Nat) (xs : List Value) : Prop :=
  xs.length = n * size ∧ ((v = .slice none 0 0 ∧ n = 0) ∨
    ∃ g cap cur, v = .slice (some ⟨g, 0, none⟩) n cap ∧ H g = some (.cells cur e (0, 0)) ∧ n ≤ cap ∧ cap ≤ maxLen ∧ cur.size = cap * size ∧ cur.toList.take (n * size) = xs)

/-- everything but an own slice's block stays -/
def Beside (v : Value) (H H' : HP) : Prop := ∀ b o, H b = some o → v.ownBlock ≠ some b → H' b = some o

theorem OwnsH.row {e : TypeId} {size : Nat} {v : Value} {n : Nat} {xs : List Value} (h : OwnsH H e size v n xs) {w : World} (on : H.on w) : w.ownsRow 0 e size v n xs := by
  obtain ⟨h1, h2⟩ := h
  refine ⟨h1, ?_⟩
  rcases h2 with ⟨rfl, rfl⟩ | ⟨g, cap, cur, rfl, hg, k1, k2, k3, k4⟩
  · exact .inl ⟨rfl, rfl⟩
  · exact .inr ⟨g, cap, cur, rfl, Nat.zero_le _, on g _ hg, k1, k2, k3, k4⟩


theorem append_run {t ty e : TypeId} {i : TypeInfo} {z : Value} {size : Nat} (ht : P.underlying t = some (.slice e)) (hi : P.info? e = some i) (hz : i.zero = some z)
    (hsize : i.size = size) (hzs : z.cells.size = size) (hsz : 0 < size) {v : Value} {n : Nat} {xs : List Value} {w : World} (hown : w.ownsRow 0 e size v n xs)
    {a : Addr} {m c : Nat} {news : List Value} (hl : news.length = m * size) (hnews : ∀ j u, news[j]? = some u → w.cell? (a.add j) = some u) (h1 : ∀ u ∈ news, u.oneCell' = true)
    (h63 : n + m ≤ maxLen) (hbytes : (n + m) * i.bytes ≤ 140737488355328) :
    ∃ v' w', (Builtin.append_ #[t, t] ty #[v, .slice (some a) m c]).run P w = .ok v' w' ∧ w'.ownsRow 0 e size v' (n + m) (xs ++ news) ∧ w.grownBy w' v.ownBlock ∧
      (v' = .slice none 0 0 → v = .slice none 0 0 ∧ m = 0) ∧ (∀ g', v'.ownBlock = some g' → w.heap.size ≤ g' ∨ v.ownBlock = some g') := by
  have weak : ∀ {w' : World} {v' : Value} {n' : Nat} {ys : List Value}, w'.ownsRow w.heap.size e size v' n' ys → w'.ownsRow 0 e size v' n' ys ∧ ∀ g', v'.ownBlock = some g' → w.heap.size ≤ g' := by
    intro w' v' n' ys h
    obtain ⟨h1, h2⟩ := h
    rcases h2 with ⟨rfl, h3⟩ | ⟨g, cap, cur, rfl, hb, h3⟩
    · exact ⟨⟨h1, .inl ⟨rfl, h3⟩⟩, fun g' h => by cases h⟩
    · refine ⟨⟨h1, .inr ⟨g, cap, cur, rfl, Nat.zero_le _, h3⟩⟩, fun g' h => ?_⟩
      simp only [Value.ownBlock, Option.some.injEq] at h
      omega
  rcases hown.2 with ⟨hv, hn⟩ | ⟨g, cap, cur, hv, hb, hrest⟩
  · obtain ⟨v', w', k1, k2, k3, k4⟩ := run_append_own (P := P) w w.heap.size t ty e i z size i.bytes ht hi hz hsize rfl hzs hsz v n xs ⟨hown.1, .inl ⟨hv, hn⟩⟩ a m c news hl hnews h1 h63 hbytes (Nat.le_refl _)
    obtain ⟨q1, q2⟩ := weak k2
    exact ⟨v', w', k1, q1, k3, k4.1, fun g' h => Or.inl (q2 g' h)⟩
  · subst hv
    by_cases hroom : n + m ≤ cap
    · obtain ⟨w', k1, k2, k3⟩ := run_append_fits (P := P) w 0 t ty e i size ht hi hsize g n cap xs hown a m c news hl hnews h1 hroom
      exact ⟨_, w', k1, k2, k3, (fun h => (by cases h)), fun g' h => Or.inr h⟩
    · have holds : ∀ j u, xs[j]? = some u → w.cell? ((⟨g, 0, none⟩ : Addr).add j) = some u := hown.cells (g := g) rfl
      obtain ⟨v', w', k1, k2, k3⟩ := run_append_arg_grows (P := P) w t ty e i z size i.bytes ht hi hz hsize rfl hzs hsz ⟨g, 0, none⟩ n cap xs hown.1 holds a m c news hl hnews (by omega) h63 hbytes
      obtain ⟨q1, q2⟩ := weak k2
      refine ⟨v', w', k1, q1, ⟨k3.os, k3.tape, k3.output, k3.size, fun b hb hne => k3.block b hb (by simp)⟩, fun h => ?_, fun g' h => .inl (q2 g' h)⟩
      subst h
      rcases q1.2 with ⟨_, h0⟩ | ⟨_, _, _, h0, _⟩
      · have := hrest.2.1
        omega
      · cases h0

/-- APPEND, to a slice of one's own. -/
theorem WPrim.append {t ty e : TypeId} {i : TypeInfo} {z : Value} {size : Nat} (ht : P.underlying t = some (.slice e)) (hi : P.info? e = some i) (hz : i.zero = some z)
    (hsize : i.size = size) (hzs : z.cells.size = size) (hsz : 0 < size) {v : Value} {n : Nat} {xs : List Value} (hown : OwnsH H e size v n xs)
    {a : Addr} {m c : Nat} {news : List Value} (hl : news.length = m * size) (hnews : H.has a news) (h1 : ∀ u ∈ news, u.oneCell' = true)
    (h63 : n + m ≤ maxLen) (hbytes : (n + m) * i.bytes ≤ 140737488355328) {k : Value → W}
    (hk : ∀ v' H', OwnsH H' e size v' (n + m) (xs ++ news) → Beside v H H' → (v' = .slice none 0 0 → v = .slice none 0 0 ∧ m = 0) → k v' H') :
    WPrim P (Builtin.append_ #[t, t] ty #[v, .slice (some a) m c]) k H := by
  intro w on
  obtain ⟨v', w', hr, hown', hgrown, hnil, hnew⟩ := append_run (P := P) ht hi hz hsize hzs hsz (hown.row on) (c := c) (ty := ty) hl (fun j u hj => on.cell (hnews j u hj)) h1 h63 hbytes
  obtain ⟨g1, g2, g3, g4, g5⟩ := hgrown
  obtain ⟨o1, o2⟩ := hown'
  rcases o2 with ⟨hv, hn⟩ | ⟨g', cap, cur, hv, _, hg', k1, k2, k3, k4⟩
  · -- nothing at all
    refine ⟨v', w', fun b => if v.ownBlock = some b then none else H b, hr, ⟨fun b o hb => ?_, g1, g2, g3, g4, fun b hb hn' => ?_, fun b hb => ?_⟩, hk v' _ ⟨o1, .inl ⟨hv, hn⟩⟩ (fun b o hb hne => by simp only [if_neg hne]; exact hb) hnil⟩
    · split at hb
      · cases hb
      · rename_i hne
        rw [g5 b (on.lt (by simp [hb])) (by intro h; exact hne h.symm)]
        exact on b o hb
    · rw [g5 b hb]
      intro h
      obtain ⟨hv0, _⟩ := hnil hv
      rw [hv0] at h
      cases h
    · split at hb
      · exact absurd rfl hb
      · exact .inl hb
  · refine ⟨v', w', fun b => if b = g' then some (.cells cur e (0, 0)) else if v.ownBlock = some b then none else H b, hr, ⟨fun b o hb => ?_, g1, g2, g3, g4, fun b hb hn' => ?_, fun b hb => ?_⟩,
      hk v' _ ⟨o1, .inr ⟨g', cap, cur, hv, by simp, k1, k2, k3, k4⟩⟩ (fun b o hb hne => ?_) hnil⟩
    · split at hb
      · rename_i hbg
        cases hb
        rw [hbg]
        exact hg'
      · split at hb
        · cases hb
        · rename_i hne
          rw [g5 b (on.lt (by simp [hb])) (by intro h; exact hne h.symm)]
          exact on b o hb
    · refine g5 b hb fun h => ?_
      rcases hown.2 with ⟨rfl, _⟩ | ⟨g, cap', cur', rfl, hg, _⟩
      · cases h
      · simp only [Value.ownBlock, Option.some.injEq] at h
        subst h
        rw [hg] at hn'
        cases hn'
    · split at hb
      · rename_i hbg
        rcases hnew g' (by rw [hv]; rfl) with h | h
        · exact .inr (by omega)
        · refine .inl ?_
          rcases hown.2 with ⟨rfl, _⟩ | ⟨g, cap', cur', rfl, hg, _⟩
          · cases h
          · simp only [Value.ownBlock, Option.some.injEq] at h
            rw [hbg, ← h, hg]
            simp
      · split at hb
        · exact absurd rfl hb
        · exact .inl hb
    · have hne' : b ≠ g' := by
        intro he
        rcases hnew g' (by rw [hv]; rfl) with h | h
        · have := on.lt (b := b) (by simp [hb])
          omega
        · exact hne (by rw [h, he])
      simp only [if_neg hne', if_neg hne]
      exact hb

/-- append of nothing -/
theorem WPrim.append_none {t ty e : TypeId} {i : TypeInfo} {size : Nat} (ht : P.underlying t = some (.slice e)) (hi : P.info? e = some i)
    {v : Value} {n : Nat} {xs : List Value} (hown : OwnsH H e size v n xs) {k : Value → W} (hk : k v H) :
    WPrim P (Builtin.append_ #[t, t] ty #[v, .slice none 0 0]) k H := by
  intro w on
  exact ⟨v, w, H, run_append_owned_none (P := P) w 0 t ty e i size ht hi v n xs (hown.row on), Up.refl on, hk⟩

/-- what is asked of a slice's type -/
def SliceTy (P : Program) (t e : TypeId) (size bytes : Nat) : Prop :=
  P.underlying t = some (.slice e) ∧ (P.info? e).map (fun i => (i.size, i.bytes, i.zero.map (·.cells.size))) = some (size, bytes, some size)

theorem SliceTy.info {t e : TypeId} {size bytes : Nat} (h : SliceTy P t e size bytes) : ∃ i z, P.info? e = some i ∧ i.zero = some z ∧ i.size = size ∧ z.cells.size = size ∧ i.bytes = bytes := by
  obtain ⟨h1, h2⟩ := h
  cases hi : P.info? e with
  | none => rw [hi] at h2; cases h2
  | some i =>
    rw [hi] at h2
    simp only [Option.map_some, Option.some.injEq, Prod.mk.injEq] at h2
    obtain ⟨a1, a2, a3⟩ := h2
    cases hz : i.zero with
    | none => rw [hz] at a3; cases a3
    | some z =>
      rw [hz] at a3
      simp only [Option.map_some, Option.some.injEq] at a3
      exact ⟨i, z, rfl, hz, a1, a3, a2⟩

theorem SliceTy.append {t ty e : TypeId} {size bytes : Nat} (T : SliceTy P t e size bytes) (hsz : 0 < size) {v : Value} {n : Nat} {xs : List Value} (hown : OwnsH H e size v n xs)
    {a : Addr} {m c : Nat} {news : List Value} (hl : news.length = m * size) (hnews : H.has a news) (h1 : ∀ u ∈ news, u.oneCell' = true)
    (h63 : n + m ≤ maxLen) (hbytes : (n + m) * bytes ≤ 140737488355328) {k : Value → W}
    (hk : ∀ v' H', OwnsH H' e size v' (n + m) (xs ++ news) → Beside v H H' → (v' = .slice none 0 0 → v = .slice none 0 0 ∧ m = 0) → k v' H') :
    WPrim P (Builtin.append_ #[t, t] ty #[v, .slice (some a) m c]) k H := by
  obtain ⟨i, z, hi, hz, hs, hzs, hb⟩ := T.info
  exact WPrim.append T.1 hi hz hs hzs hsz hown hl hnews h1 h63 (by rw [hb]; exact hbytes) hk

theorem SliceTy.append_none {t ty e : TypeId} {size bytes : Nat} (T : SliceTy P t e size bytes) {v : Value} {n : Nat} {xs : List Value} (hown : OwnsH H e size v n xs) {k : Value → W} (hk : k v H) :
    WPrim P (Builtin.append_ #[t, t] ty #[v, .slice none 0 0]) k H := by
  obtain ⟨i, z, hi, hz, hs, hzs, hb⟩ := T.info
  exact WPrim.append_none T.1 hi hown hk
end
end Go.Den

namespace Go.Proofs.YtmidcnfnmnhifaaGreat
set_option linter.unusedSectionVars false
set_option linter.unusedSimpArgs false
set_option linter.unusedVariables false
open Go Go.Den
theorem sliceExpr : SliceTy Tryz.prog 22 24 6 72 := ⟨by kernel_rfl, by kernel_rfl⟩
end Go.Proofs.YtmidcnfnmnhifaaGreat
