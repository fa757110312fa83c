/-
  Package ast: may, Check.
-/
import Derived.Test.YtmidcnfnmnhifaaGreatZAsw
namespace Go.Proofs.YtmidcnfnmnhifaaGreat
set_option linter.unusedSectionVars false
set_option linter.unusedSimpArgs false
set_option linter.unusedVariables false
open Go Go.Den
set_option linter.unusedVariables false

def Ex.kind : Ex → Int | .mk k _ _ _ _ _ => k
def Ex.name : Ex → ByteArray | .mk _ s _ _ _ _ => s

def afterB : Option ByteArray → ByteArray → Bool
  | none, _ => true
  | some q, s => !(Go.Op.bytesLess s.toList q.toList || s.toList == q.toList)

mutual
def Ex.may : Ex → Bool
  | .mk k s n a b ks => if k = 4 then ownB k n a b s && (texts none ks && decide ((ks.length : Int) ≤ 8)) else (kidsN k == ks.length) && (ownB k n a b s && mays ks)
def mays : List Ex → Bool
  | [] => true
  | e :: es => e.may && mays es
def texts : Option ByteArray → List Ex → Bool
  | _, [] => true
  | p, e :: es => ((e.kind == 3) && (e.may && afterB p e.name)) && texts (some e.name) es
end

theorem mays_all : ∀ es : List Ex, mays es = !(es.any fun e => !e.may)
  | [] => rfl
  | e :: es => by simp [mays, mays_all es]

mutual
/-- all names are short -/
def Ex.Short : Ex → Prop
  | .mk _ s _ _ _ ks => s.size < 1000000000000 ∧ Shorts ks
def Shorts : List Ex → Prop
  | [] => True
  | e :: es => e.Short ∧ Shorts es
end

theorem Shorts.get : ∀ {es : List Ex}, Shorts es → ∀ e ∈ es, e.Short
  | e' :: es, h, e, he => by
    simp only [Shorts] at h
    cases he with
    | head => exact h.1
    | tail _ he => exact Shorts.get h.2 e he

theorem hasOne {H : HP} {a : Addr} {vs : List Value} (h : H.has a vs) {j : Nat} {v : Value} (hv : vs[j]? = some v) : H.has (a.add j) [v] := by
  intro i u hu
  cases i with
  | zero => simp at hu; subst hu; exact h j v hv
  | succ i => simp at hu

theorem WLoad.ex {H : HP} {a : Addr} {k n x y : Int} {s : ByteArray} {p : Option Addr} {l c : Nat} {body : Int → ByteArray → Int → Int → Int → Option Addr → Nat → Nat → W}
    (h : H.has a (exCells k s n x y p l c)) (hk : body k s n x y p l c H) : WLoad a (.agg [(.i .i64), .s, (.i .i64), (.i .i64), (.i .i64), .sl]) body H := ⟨(k, s, n, x, y, (p, l, c), ()), h, hk⟩

theorem WLoad.s1 {H : HP} {a : Addr} {s : ByteArray} {body : ByteArray → W} (h : H.has a [.string s]) (hk : body s H) : WLoad a (.l .s) body H := ⟨s, h, hk⟩

def lastName (es : List Ex) : Nat → Option ByteArray
  | 0 => none
  | i + 1 => (es[i]?).map Ex.name

theorem texts_spec {H : HP} {es : List Ex} {q : Option Addr} (hat : ExsAt H es q 0) (hlen : es.length < 1000000000000) (c : Nat)
    (hm : ∀ e ∈ es, ∀ cs, e.At H cs → Pure Tryz.prog 145 #[.agg ⟨cs⟩] H (.bool e.may)) :
    Pure Tryz.prog 214 #[.slice q es.length c] H (.bool (texts none es && decide ((es.length : Int) ≤ 8))) := by
  refine Pure.of (spec214 ?_)
  unfold W214
  refine WLoop.intro (fun x H' => H' = H ∧ ∃ i : Nat, i ≤ es.length ∧ texts none es = texts (lastName es i) (es.drop i) ∧ x = (((i : Int), ()), ())) (fun x => es.length - x.1.1.toNat) ⟨rfl, 0, by omega, rfl, rfl⟩ ?_
  rintro x H' ⟨hH, i, hi, hall, rfl⟩
  rw [hH]
  refine WIf.intro (fun h => ?_) (fun h => ?_)
  · have hlt : i < es.length := by have : (i : Int) < es.length := of_decide_eq_true h; omega
    obtain ⟨y, cs, hy, hcs, hat'⟩ := hat.get i es[i] (by simp [hlt])
    refine ⟨y, hy, by simp, by simpa using hlt, ?_⟩
    have hcall := hm es[i] (List.getElem_mem hlt) cs hat'
    have hdrop : es.drop i = es[i] :: es.drop (i + 1) := (List.getElem_cons_drop hlt).symm
    have hlast : lastName es (i + 1) = some es[i].name := by simp [lastName, hlt]
    rw [hdrop] at hall
    simp only [texts] at hall
    have hprev : i ≠ 0 → ∃ z, lastName es i = some z ∧ H.has ((y.add ((i - 1) * 6)).add 1) [.string z] := by
      intro h0
      obtain ⟨y', cs', hy', hcs', hat''⟩ := hat.get (i - 1) (es[i - 1]'(by omega)) (by simp)
      rw [hy] at hy'
      cases hy'
      refine ⟨(es[i - 1]'(by omega)).name, ?_, ?_⟩
      · cases i with
        | zero => exact absurd rfl h0
        | succ i => simp [lastName, show i < es.length by omega]
      · generalize es[i - 1]'(by omega) = e' at hat''
        obtain ⟨k', s', n', a', b', ks'⟩ := e'
        simp only [Ex.At] at hat''
        obtain ⟨p', c', rfl, _⟩ := hat''
        rw [Nat.zero_add] at hcs'
        exact hasOne hcs' (j := 1) rfl
    generalize es[i] = e' at hat' hcall hall hlast
    obtain ⟨k', s', n', a', b', ks'⟩ := e'
    simp only [Ex.At] at hat'
    obtain ⟨p', c', rfl, hks'⟩ := hat'
    simp only [Ex.kind, Ex.name] at hall hlast
    refine WLoad.ex (by rw [Nat.zero_add] at hcs; exact hcs) ?_
    have hw : IntKind.wrap .i64 ((i : Int) + 1) = (i : Int) + 1 := IntWalk.i64_in _ ⟨by omega, by omega⟩
    have next : texts none es = texts (some s') (es.drop (i + 1)) → (∃ i' : Nat, i' ≤ es.length ∧ texts none es = texts (lastName es i') (es.drop i') ∧ ((IntKind.wrap .i64 ((i : Int) + 1), ()), ()) = (((i' : Int), ()), ())) ∧
        es.length - (IntKind.wrap .i64 ((i : Int) + 1)).toNat < es.length - ((i : Int)).toNat := by
      intro hn
      rw [hw]
      exact ⟨⟨i + 1, by omega, by rw [hlast]; exact hn, by simp⟩, by omega⟩
    refine WIf.intro (fun h3 => ?_) (fun h3 => ?_)
    · have h3 : (k' == 3) = false := by simpa using h3
      refine ⟨?_, HP.le.refl H⟩
      rw [hall, h3]
      rfl
    · have h3 : (k' == 3) = true := by simpa using h3
      refine WCall.pure hcall (WOpen.b ?_)
      refine WIf.intro (fun h4 => ?_) (fun h4 => ?_)
      · have h4 : (Ex.mk k' s' n' a' b' ks').may = false := by simpa using h4
        refine ⟨?_, HP.le.refl H⟩
        rw [hall, h3, h4]
        rfl
      · have h4 : (Ex.mk k' s' n' a' b' ks').may = true := by simpa using h4
        rw [h3, h4] at hall
        refine WIf.intro (fun h5 => ?_) (fun h5 => ?_)
        · have h0 : i ≠ 0 := by have : (i : Int) > 0 := of_decide_eq_true h5; omega
          obtain ⟨z, hz, hhas⟩ := hprev h0
          have hw1 : IntKind.wrap .i64 ((i : Int) - 1) = (i : Int) - 1 := IntWalk.i64_in _ ⟨by omega, by omega⟩
          simp only [hw1]
          refine ⟨y, hy, by omega, by omega, ?_⟩
          have hn : ((i : Int) - 1).toNat = i - 1 := by omega
          simp only [hn]
          refine WLoad.s1 hhas ?_
          rw [hz] at hall
          refine WIf.intro (fun h6 => ?_) (fun h6 => ?_)
          · refine ⟨?_, HP.le.refl H⟩
            rw [hall]
            simp only [afterB, h6]
            rfl
          · obtain ⟨n1, n2⟩ := next (by rw [hall]; simp only [afterB, h6]; rfl)
            exact ⟨⟨rfl, n1⟩, n2⟩
        · have h0 : i = 0 := by have : ¬ (i : Int) > 0 := of_decide_eq_false h5; omega
          obtain ⟨n1, n2⟩ := next (by rw [hall, h0]; rfl)
          exact ⟨⟨rfl, n1⟩, n2⟩
  · have hge : i = es.length := by have : ¬ (i : Int) < es.length := of_decide_eq_false h; omega
    refine ⟨?_, HP.le.refl H⟩
    rw [hall, hge, List.drop_length]
    rfl

theorem may_spec {H : HP} : ∀ (N : Nat) (e : Ex), e.size ≤ N → N < 1000000000000 → e.Short → ∀ cs, e.At H cs → Pure Tryz.prog 145 #[.agg ⟨cs⟩] H (.bool e.may) := by
  intro N
  induction N with
  | zero => intro e he; have := e.size_pos; omega
  | succ N ih =>
    intro e he hN hsh cs hat
    obtain ⟨k, s, n, a, b, ks⟩ := e
    simp only [Ex.At] at hat
    obtain ⟨p, c, rfl, hks⟩ := hat
    simp only [Ex.Short] at hsh
    simp only [Ex.size] at he
    have hlen := sizes_length ks
    have hkid : ∀ e ∈ ks, ∀ cs, e.At H cs → Pure Tryz.prog 145 #[.agg ⟨cs⟩] H (.bool e.may) := fun e hm cs hat =>
      ih e (by have := sizes_ge ks e hm; omega) (by omega) (hsh.2.get e hm) cs hat
    refine Pure.of (spec145 (a0_0 := k) (a0_1 := s) (a0_2 := n) (a0_3 := a) (a0_4 := b) (a0_5a := p) (a0_5n := ks.length) (a0_5c := c) ?_)
    unfold W145
    refine WIf.intro (fun h => ?_) (fun h => ?_)
    · have h : k = 4 := eq_of_beq h
      refine WCall.pure (own_spec _ _ _ _ _ _ _ _ hsh.1) (WOpen.b ?_)
      refine WIf.intro (fun ho => ?_) (fun ho => ?_)
      · refine WCall.pure (texts_spec hks (by omega) c hkid) (WOpen.b ?_)
        exact ⟨by simp only [Ex.may, if_pos h, ho, Bool.true_and], HP.le.refl H⟩
      · exact ⟨by simp only [Ex.may, if_pos h, ho, Bool.false_and], HP.le.refl H⟩
    · have h : k ≠ 4 := by simpa using h
      refine WCall.pure (kids_spec k) (WOpen.i ?_)
      refine WIf.intro (fun hk => ?_) (fun hk => ?_)
      · refine WCall.pure (own_spec _ _ _ _ _ _ _ _ hsh.1) (WOpen.b ?_)
        refine WIf.intro (fun ho => ?_) (fun ho => ?_)
        · refine WCall.pure (exsContains (φ := fun e => !e.may) (cap := []) hks (by omega) c fun e hm cs hat => ?_) (WOpen.b ?_)
          · obtain ⟨k', s', n', a', b', ks'⟩ := e
            have hcall := hkid _ hm cs hat
            simp only [Ex.At] at hat
            obtain ⟨p', c', rfl, hks'⟩ := hat
            refine Pure.of (spec215 (a0_0 := k') (a0_1 := s') (a0_2 := n') (a0_3 := a') (a0_4 := b') (a0_5a := p') (a0_5n := ks'.length) (a0_5c := c') ?_)
            exact WCall.pure hcall (WOpen.b ⟨rfl, HP.le.refl H⟩)
          · exact ⟨by simp only [Ex.may, if_neg h, hk, ho, Bool.true_and, mays_all], HP.le.refl H⟩
        · exact ⟨by simp only [Ex.may, if_neg h, hk, ho, Bool.true_and, Bool.false_and], HP.le.refl H⟩
      · exact ⟨by simp only [Ex.may, if_neg h, hk, Bool.false_and], HP.le.refl H⟩

def Ex.check (e : Ex) : Int := if e.depth > 12 then 32 else if e.count > 64 then 3 else if e.may = false then 12 else 0

/-- ast.Check -/
theorem check_spec {H : HP} (e : Ex) (hN : e.size < 1000000000000) (hsh : e.Short) (cs : List Value) (hat : e.At H cs) : Pure Tryz.prog 79 #[.agg ⟨cs⟩] H (.int .i64 e.check) := by
  have h1 := depth_spec (H := H) e.size e (Nat.le_refl _) hN cs hat
  have h2 := size_spec (H := H) e.size e (Nat.le_refl _) hN cs hat
  have h3 := may_spec (H := H) e.size e (Nat.le_refl _) hN hsh cs hat
  have hc : ∃ k s n a b p l c, cs = exCells k s n a b p l c := by
    obtain ⟨k, s, n, a, b, ks⟩ := e
    simp only [Ex.At] at hat
    obtain ⟨p, c, rfl, hks⟩ := hat
    exact ⟨_, _, _, _, _, _, _, _, rfl⟩
  obtain ⟨k, s, n, a, b, p, l, c, rfl⟩ := hc
  refine Pure.of (spec79 (a0_0 := k) (a0_1 := s) (a0_2 := n) (a0_3 := a) (a0_4 := b) (a0_5a := p) (a0_5n := l) (a0_5c := c) ?_)
  unfold W79 Ex.check
  refine WCall.pure h1 (WOpen.i ?_)
  refine WIf.intro (fun h => ?_) (fun h => ?_)
  · have : e.depth > 12 := by have := of_decide_eq_true h; omega
    exact ⟨by rw [if_pos this], HP.le.refl H⟩
  · have hd : ¬ e.depth > 12 := by have := of_decide_eq_false h; omega
    rw [if_neg hd]
    refine WCall.pure h2 (WOpen.i ?_)
    refine WIf.intro (fun h => ?_) (fun h => ?_)
    · have : e.count > 64 := by have := of_decide_eq_true h; omega
      exact ⟨by rw [if_pos this], HP.le.refl H⟩
    · have hd : ¬ e.count > 64 := by have := of_decide_eq_false h; omega
      rw [if_neg hd]
      refine WCall.pure h3 (WOpen.b ?_)
      refine WIf.intro (fun h => ?_) (fun h => ?_)
      · exact ⟨by rw [if_pos (by simpa using h)], HP.le.refl H⟩
      · exact ⟨by rw [if_neg (by simpa using h)], HP.le.refl H⟩
end Go.Proofs.YtmidcnfnmnhifaaGreat
