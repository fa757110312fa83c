/-
  Slices of one's own, in a world of parts.
-/
import Derived.Test.YtmidcnfnmnhifaaGreatZLop
namespace Go.Den
set_option linter.unusedSectionVars false
set_option linter.unusedSimpArgs false
set_option linter.unusedVariables false
open Go
set_option linter.unusedVariables false
section
variable {P : Program} {a : Base} {R : Asr} {F H : HP} {S : List Nat}

/-- a slice that owns its block: 'xs' are its cells -/
def ownS (e : TypeId) (size : Nat) (p : Option Addr) (n c : Nat) (xs : List Value) : Asr := fun _ H S =>
  xs.length = n * size ∧ ((p = none ∧ n = 0 ∧ c = 0) ∨ ∃ g cur, p = some ⟨g, 0, none⟩ ∧ g ∈ S ∧ H g = some (.cells cur e (0, 0)) ∧ n ≤ c ∧ c ≤ maxLen ∧ cur.size = c * size ∧ cur.toList.take (n * size) = xs)

theorem Good.ownS {e : TypeId} {size : Nat} {p : Option Addr} {n c : Nat} {xs : List Value} : Good (ownS e size p n c xs) := by
  refine ⟨fun _ h => h, fun hb h => ⟨h.1, ?_⟩, fun hs h => ⟨h.1, ?_⟩⟩
  · rcases h.2 with h2 | ⟨g, cur, h1, h2, h3, h4⟩
    · exact .inl h2
    · exact .inr ⟨g, cur, h1, h2, by rw [hb _ h2]; exact h3, h4⟩
  · rcases h.2 with h2 | ⟨g, cur, h1, h2, h3, h4⟩
    · exact .inl h2
    · exact .inr ⟨g, cur, h1, hs _ h2, h3, h4⟩

theorem ownS_nil {e : TypeId} {size : Nat} {F H : HP} {S : List Nat} : ownS e size none 0 0 [] F H S := ⟨by simp, .inl ⟨rfl, rfl, rfl⟩⟩

theorem ownS_row {e : TypeId} {size : Nat} {p : Option Addr} {n c : Nat} {xs : List Value} (h : ownS e size p n c xs F H S) {w : World} (on : H.on w) : w.ownsRow 0 e size (.slice p n c) n xs := by
  obtain ⟨h1, h2⟩ := h
  refine ⟨h1, ?_⟩
  rcases h2 with ⟨rfl, rfl, rfl⟩ | ⟨g, cur, rfl, hgS, hg, k1, k2, k3, k4⟩
  · exact .inl ⟨rfl, rfl⟩
  · exact .inr ⟨g, c, cur, rfl, Nat.zero_le _, on g _ hg, k1, k2, k3, k4⟩

/-- the cells of a slice of one's own -/
theorem ownS_has {e : TypeId} {size : Nat} {p : Option Addr} {n c : Nat} {xs : List Value} (h : ownS e size p n c xs F H S) {i : Nat} {vs : List Value} (hv : (xs.drop i).take vs.length = vs) (hne : vs ≠ []) :
    ∃ g, p = some ⟨g, 0, none⟩ ∧ H.has ⟨g, i, none⟩ vs := by
  obtain ⟨h1, h2⟩ := h
  have hlen : i + vs.length ≤ xs.length := by
    have := congrArg List.length hv
    rw [List.length_take, List.length_drop] at this
    have : 0 < vs.length := by cases vs with
      | nil => exact absurd rfl hne
      | cons => simp
    omega
  rcases h2 with ⟨rfl, rfl, rfl⟩ | ⟨g, cur, rfl, hgS, hg, k1, k2, k3, k4⟩
  · have : 0 < vs.length := by cases vs with
      | nil => exact absurd rfl hne
      | cons => simp
    omega
  · refine ⟨g, rfl, has_cells (l := cur.toList) hg ?_⟩
    have hx : xs.length ≤ n * size := Nat.le_of_eq h1
    rw [← hv, ← k4]
    simp only [List.drop_take, List.take_take, List.length_take, List.length_drop]
    congr 1
    rw [← k4] at hlen
    simp only [List.length_take] at hlen ⊢
    omega

theorem append_runX {t ty e : TypeId} {i : TypeInfo} {z : Value} {size : Nat} (ht : P.underlying t = some (.slice e)) (hi : P.info? e = some i) (hz : i.zero = some z)
    (hsize : i.size = size) (hzs : z.cells.size = size) (hsz : 0 < size) {p : Option Addr} {n c : Nat} {xs : List Value} (hown : ownS e size p n c xs F H S) {w : World} (on : H.on w)
    {a : Addr} {m c' : Nat} {news : List Value} (hl : news.length = m * size) (hnews : ∀ j u, news[j]? = some u → w.cell? (a.add j) = some u) (h1 : ∀ u ∈ news, u.oneCell' = true)
    (h63 : n + m ≤ maxLen) (hbytes : (n + m) * i.bytes ≤ 140737488355328) :
    ∃ p' cap w', (Builtin.append_ #[t, t] ty #[.slice p n c, .slice (some a) m c']).run P w = .ok (.slice p' (n + m) cap) w' ∧ w'.os = w.os ∧ w'.tape = w.tape ∧ w'.output = w.output ∧ w.heap.size ≤ w'.heap.size ∧
      (n + m ≤ c → p' = p ∧ cap = c) ∧ (xs ++ news).length = (n + m) * size ∧
      ((p' = none ∧ cap = 0 ∧ n = 0 ∧ m = 0 ∧ ∀ b, b < w.heap.size → w'.heap[b]? = w.heap[b]?) ∨
        ∃ g cur, p' = some ⟨g, 0, none⟩ ∧ w'.heap[g]? = some (.cells cur e (0, 0)) ∧ n + m ≤ cap ∧ cap ≤ maxLen ∧ cur.size = cap * size ∧ cur.toList.take ((n + m) * size) = xs ++ news ∧
          (∀ b, b < w.heap.size → b ≠ g → w'.heap[b]? = w.heap[b]?) ∧ ((p = some ⟨g, 0, none⟩ ∧ cap = c) ∨ w.heap.size ≤ g)) := by
  have hrow := ownS_row hown on
  obtain ⟨hx, h2⟩ := hown
  have fresh : ∀ {w' : World} {v' : Value}, w'.ownsRow w.heap.size e size v' (n + m) (xs ++ news) → (∀ b, b < w.heap.size → w'.heap[b]? = w.heap[b]?) → ∃ p' cap, v' = .slice p' (n + m) cap ∧ (xs ++ news).length = (n + m) * size ∧
      ((p' = none ∧ cap = 0 ∧ n = 0 ∧ m = 0 ∧ ∀ b, b < w.heap.size → w'.heap[b]? = w.heap[b]?) ∨
        ∃ g cur, p' = some ⟨g, 0, none⟩ ∧ w'.heap[g]? = some (.cells cur e (0, 0)) ∧ n + m ≤ cap ∧ cap ≤ maxLen ∧ cur.size = cap * size ∧ cur.toList.take ((n + m) * size) = xs ++ news ∧
          (∀ b, b < w.heap.size → b ≠ g → w'.heap[b]? = w.heap[b]?) ∧ ((p = some ⟨g, 0, none⟩ ∧ cap = c) ∨ w.heap.size ≤ g)) := by
    intro w' v' h hb
    obtain ⟨k1, k2⟩ := h
    rcases k2 with ⟨rfl, h3⟩ | ⟨g, cap, cur, rfl, hb', h3, k5, k6, k7, k8⟩
    · obtain ⟨e1, e2⟩ : n = 0 ∧ m = 0 := by omega
      subst e1; subst e2
      exact ⟨none, 0, rfl, k1, .inl ⟨rfl, rfl, rfl, rfl, hb⟩⟩
    · exact ⟨_, cap, rfl, k1, .inr ⟨g, cur, rfl, h3, k5, k6, k7, k8, fun b hbl _ => hb b hbl, .inr hb'⟩⟩
  rcases h2 with ⟨rfl, rfl, rfl⟩ | ⟨g, cur, rfl, hgS, hg, k1, k2, k3, k4⟩
  · obtain ⟨v', w', e1, e2, e3, e4⟩ := run_append_own (P := P) w w.heap.size t ty e i z size i.bytes ht hi hz hsize rfl hzs hsz (.slice none 0 0) 0 xs ⟨hx, .inl ⟨rfl, rfl⟩⟩ a m c' news hl hnews h1 h63 hbytes (Nat.le_refl _)
    obtain ⟨g1, g2, g3, g4, g5⟩ := e3
    obtain ⟨p', cap, rfl, q1, q2⟩ := fresh e2 (fun b hb => g5 b hb (by simp [Value.ownBlock]))
    refine ⟨p', cap, w', e1, g1, g2, g3, g4, fun hm => ?_, q1, q2⟩
    have := e4.2 ⟨rfl, by omega⟩
    simp only [Value.slice.injEq] at this
    exact ⟨this.1, this.2.2⟩
  · by_cases hroom : n + m ≤ c
    · obtain ⟨w', e1, e2, e3⟩ := run_append_fits (P := P) w 0 t ty e i size ht hi hsize g n c xs hrow a m c' news hl hnews h1 hroom
      obtain ⟨g1, g2, g3, g4, g5⟩ := e3
      obtain ⟨q1, q2⟩ := e2
      refine ⟨_, c, w', e1, g1, g2, g3, g4, fun _ => ⟨rfl, rfl⟩, q1, .inr ?_⟩
      rcases q2 with ⟨h, _⟩ | ⟨g', cap', cur', h, hbg, hg', q3, q4, q5, q6⟩
      · cases h
      · simp only [Value.slice.injEq, Option.some.injEq, Addr.mk.injEq, and_true, true_and] at h
        obtain ⟨rfl, rfl⟩ := h
        exact ⟨g, cur', rfl, hg', q3, q4, q5, q6, fun b hb hne => g5 b hb (by simp; exact fun h => hne h), .inl ⟨rfl, rfl⟩⟩
    · have holds : ∀ j u, xs[j]? = some u → w.cell? ((⟨g, 0, none⟩ : Addr).add j) = some u := hrow.cells (g := g) rfl
      obtain ⟨v', w', e1, e2, e3⟩ := run_append_arg_grows (P := P) w t ty e i z size i.bytes ht hi hz hsize rfl hzs hsz ⟨g, 0, none⟩ n c xs hx holds a m c' news hl hnews (by omega) h63 hbytes
      obtain ⟨g1, g2, g3, g4, g5⟩ := e3
      obtain ⟨p', cap, rfl, q1, q2⟩ := fresh e2 (fun b hb => g5 b hb (by simp))
      exact ⟨p', cap, w', e1, g1, g2, g3, g4, fun hm => absurd hm hroom, q1, q2⟩

theorem up_set {w w' : World} {g : Nat} {o : Obj} (on : H.on w) (hg : w'.heap[g]? = some o) (h1 : w'.os = w.os) (h2 : w'.tape = w.tape) (h3 : w'.output = w.output) (h4 : w.heap.size ≤ w'.heap.size)
    (h5 : ∀ b, b < w.heap.size → b ≠ g → w'.heap[b]? = w.heap[b]?) (h6 : H g ≠ none ∨ w.heap.size ≤ g) : Up H (H.set g o) w w' := by
  refine ⟨fun b o' hb => ?_, h1, h2, h3, h4, fun b hb hn => ?_, fun b hb => ?_⟩
  · unfold HP.set at hb
    split at hb
    · rename_i e; cases hb; rw [e]; exact hg
    · rename_i e; rw [h5 b (on.lt (by simp [hb])) e]; exact on b o' hb
  · refine h5 b hb fun e => ?_
    rcases h6 with h | h
    · exact h (e ▸ hn)
    · omega
  · unfold HP.set at hb
    split at hb
    · rename_i e
      rcases h6 with h | h
      · exact .inl (e ▸ h)
      · exact .inr (e ▸ h)
    · exact .inl hb

/-- APPEND, to a slice of one's own. -/
theorem SliceTy.push2 {t ty e : TypeId} {size bytes : Nat} (T : SliceTy P t e size bytes) (hsz : 0 < size) (gr : Good R) {p : Option Addr} {n c : Nat} {xs : List Value} (h : Wd a ((sepc (ownS e size p n c xs) R)) F H S)
    {x : Addr} {m c' : Nat} {news : List Value} (hl : news.length = m * size) (hnews : H.has x news) (h1 : ∀ u ∈ news, u.oneCell' = true) (h63 : n + m ≤ maxLen) (hbytes : (n + m) * bytes ≤ 140737488355328) {k : Value → W}
    (hk : ∀ p' cap H' S', Wd a ((sepc (ownS e size p' (n + m) cap (xs ++ news)) R)) F H' S' → (n + m ≤ c → p' = p ∧ cap = c) → (p' = p ∨ ∀ g, p' = some ⟨g, 0, none⟩ → H g = none) → k (.slice p' (n + m) cap) H') :
    WPrim P (Builtin.append_ #[t, t] ty #[.slice p n c, .slice (some x) m c']) k H := by
  obtain ⟨i, z, hi, hz, hs, hzs, hb⟩ := T.info
  intro w on
  obtain ⟨wd, tr, S1, S2, i1, i2, id, hA, hR⟩ := h
  obtain ⟨p', cap, w', hr, g1, g2, g3, g4, hfits, hlen, hcase⟩ := append_runX (P := P) (ty := ty) (c' := c') T.1 hi hz hs hzs hsz hA on hl (fun j u hj => on.cell (hnews j u hj)) h1 h63 (by rw [hb]; exact hbytes)
  rcases hcase with ⟨rfl, rfl, rfl, rfl, hold⟩ | ⟨g, cur, rfl, hg', k1, k2, k3, k4, hold, hnew⟩
  · refine ⟨_, w', H, hr, ⟨fun b o hb => by rw [hold b (on.lt (by simp [hb]))]; exact on b o hb, g1, g2, g3, g4, fun b hb _ => hold b hb, fun b hb => .inl hb⟩, hk none 0 H S ⟨wd, tr, S1, S2, i1, i2, id, ⟨hlen, .inl ⟨rfl, rfl, rfl⟩⟩, hR⟩ hfits (.inr fun g h => by cases h)⟩
  · rcases hnew with ⟨rfl, rfl⟩ | hnew
    · obtain ⟨hx, h2⟩ := hA
      rcases h2 with ⟨h, _⟩ | ⟨g', cur', h, hgS, hg, q1, q2, q3, q4⟩
      · cases h
      · cases h
        have wst := Wd.set (o := .cells cur' e (0, 0)) (o' := .cells cur e (0, 0)) gr ⟨wd, tr, S1, S2, i1, i2, id, ⟨hgS, hg⟩, hR⟩
        refine ⟨_, w', _, hr, up_set on hg' g1 g2 g3 g4 hold (.inl (by rw [hg]; simp)), hk _ _ _ S (wst.imp fun hh => star_mono (fun S' h' => ⟨hlen, .inr ⟨g, cur, rfl, h'.1, h'.2, k1, k2, k3, k4⟩⟩) (fun _ h => h) hh) hfits (.inl rfl)⟩
    · have hgn : H g = none := by
        cases e0 : H g with
        | none => rfl
        | some o => have := on.lt (b := g) (by simp [e0]); omega
      have wst := Wd.new (o := .cells cur e (0, 0)) gr (⟨wd, tr, gr.weak i2 hR⟩ : Wd a R F H S) hgn
      exact ⟨_, w', _, hr, up_set on hg' g1 g2 g3 g4 hold (.inr hnew), hk _ _ _ _ (wst.imp fun hh => star_mono (fun S' h' => ⟨hlen, .inr ⟨g, cur, rfl, h'.1, h'.2, k1, k2, k3, k4⟩⟩) (fun _ h => h) hh) hfits (.inr fun g' h => by cases h; exact hgn)⟩

/-- APPEND, to a slice of one's own. -/
theorem SliceTy.push {t ty e : TypeId} {size bytes : Nat} (T : SliceTy P t e size bytes) (hsz : 0 < size) (gr : Good R) {p : Option Addr} {n c : Nat} {xs : List Value} (h : Wd a ((sepc (ownS e size p n c xs) R)) F H S)
    {x : Addr} {m c' : Nat} {news : List Value} (hl : news.length = m * size) (hnews : H.has x news) (h1 : ∀ u ∈ news, u.oneCell' = true) (h63 : n + m ≤ maxLen) (hbytes : (n + m) * bytes ≤ 140737488355328) {k : Value → W}
    (hk : ∀ p' cap H' S', Wd a ((sepc (ownS e size p' (n + m) cap (xs ++ news)) R)) F H' S' → (n + m ≤ c → p' = p ∧ cap = c) → k (.slice p' (n + m) cap) H') :
    WPrim P (Builtin.append_ #[t, t] ty #[.slice p n c, .slice (some x) m c']) k H :=
  T.push2 hsz gr h hl hnews h1 h63 hbytes fun p' cap H' S' hw hf _ => hk p' cap H' S' hw hf

/-- append of nothing -/
theorem SliceTy.push_none {t ty e : TypeId} {size bytes : Nat} (T : SliceTy P t e size bytes) {p : Option Addr} {n c : Nat} {xs : List Value} (h : ownS e size p n c xs F H S) {k : Value → W} (hk : k (.slice p n c) H) :
    WPrim P (Builtin.append_ #[t, t] ty #[.slice p n c, .slice none 0 0]) k H := by
  obtain ⟨i, z, hi, hz, hs, hzs, hb⟩ := T.info
  intro w on
  exact ⟨_, w, H, run_append_owned_none (P := P) w 0 t ty e i size T.1 hi _ n xs (ownS_row h on), Up.refl on, hk⟩

/-- an own slice becomes frozen -/
theorem Wd.freezeS {e : TypeId} {size : Nat} {p : Option Addr} {n c : Nat} {xs : List Value} (gr : Good R) (h : Wd a ((sepc (ownS e size p n c xs) R)) F H S) (hn : ∀ g, p = some ⟨g, 0, none⟩ → a.H g = none) :
    ∃ F' S', Wd a R F' H S' ∧ F.le F' ∧ ∀ (i : Nat) (vs : List Value), (xs.drop i).take vs.length = vs → vs ≠ [] → ∃ g, p = some ⟨g, 0, none⟩ ∧ F'.has ⟨g, i, none⟩ vs := by
  obtain ⟨wd, tr, S1, S2, i1, i2, id, hA, hR⟩ := h
  have hcopy := hA
  obtain ⟨hx, h2⟩ := hA
  rcases h2 with ⟨rfl, rfl, rfl⟩ | ⟨g, cur, rfl, hgS, hg, q1, q2, q3, q4⟩
  · refine ⟨F, S, ⟨wd, tr, gr.weak i2 hR⟩, HP.le.refl F, fun i vs hv hne => ?_⟩
    obtain ⟨g, h, _⟩ := ownS_has hcopy hv hne
    cases h
  · obtain ⟨k1, k2, k3⟩ := Wd.freeze (g := g) (o := .cells cur e (0, 0)) gr ⟨wd, tr, S1, S2, i1, i2, id, ⟨hgS, hg⟩, hR⟩ (hn g rfl)
    refine ⟨_, _, k1, k2, fun i vs hv hne => ?_⟩
    exact ownS_has (F := F) (H := F.set g (.cells cur e (0, 0))) (S := [g]) (p := some ⟨g, 0, none⟩) ⟨hx, .inr ⟨g, cur, rfl, by simp, k3, q1, q2, q3, q4⟩⟩ hv hne
end
end Go.Den
