/-
  Texts put together: IntsPure, NodPure, IntsText, CharsPure, CharsPure2, CharsPure3, LexPure, LexPure2, LexPure3.
-/
import Derived.Test.YtfniiapkghpihaaDoorLibA
import Derived.Lib.Join
/-
  Ints: plain laws of wrapped integers.
-/
namespace Go.Am

def w64 (n : Int) : Int := IntKind.i64.wrap n
theorem w64_eq (n : Int) : w64 n = (n + 9223372036854775808) % 18446744073709551616 - 9223372036854775808 := IntKind.wrap_i64 n
theorem w64_rng {n : Int} (h : Rng n) : w64 n = n := by unfold Rng at h; rw [w64_eq]; omega
theorem rng_w64 (n : Int) : Rng (w64 n) := by unfold Rng; rw [w64_eq]; omega
def fails (p : Bool) : Bool := bif p then false else true
end Go.Am
/-
  Nodes: plain words: what is told of each node, by a stack; and the reference's sizes and depths.
-/
namespace Go.Am
def prt (k : Int) : Int := bif decide (k ≤ 4) then 0 else bif decide (k ≤ 6) then 1 else 2
def knOk (k : Int) : Bool := decide (1 ≤ k) && decide (k ≤ 19)
/-- a node by itself, its parts told -/
def okN (x : Nod) (a b : Int) : Bool := decide (x.a = a ∧ x.b = b ∧ 0 ≤ x.pos ∧ x.pos ≤ 400 ∧ 0 ≤ x.n ∧ (x.kind = 1 ∨ x.n = 0))
/-- one node: what is told of it, and the stack that is left (its top first) -/
def stepN (i : Int) (x : Nod) (S : List Top) : Option (Top × List Top) :=
  bif knOk x.kind then
    (bif decide (x.kind ≤ 4) then (bif okN x 0 0 then some (⟨i, 1, 1⟩, S) else none)
    else bif decide (x.kind ≤ 6) then (match S with
      | t :: S => bif okN x t.pos 0 then some (⟨i, 1 + t.size, max 1 (t.depth + 1)⟩, S) else none
      | [] => none)
    else match S with
      | u :: t :: S => bif okN x t.pos u.pos then some (⟨i, 1 + t.size + u.size, max (max 1 (t.depth + 1)) (u.depth + 1)⟩, S) else none
      | _ => none)
  else none
/-- what is told of all, as far as they are right; whether one part is left -/
def topsN (i : Int) : List Nod → List Top → List Top → List Top × Bool
  | [], S, A => (A, decide (S.length = 1))
  | x :: l, S, A => match stepN i x S with
    | none => (A, false)
    | some (t, S') => topsN (i + 1) l (t :: S') (A ++ [t])
/-- how it ends: all told, the stack; at a wrong node: how many parts were taken from the stack, if they were -/
structure TopsO where
  ok : Bool
  a : List Top
  r : List Top
  k : Nat
  p : Bool
def topsO (i : Int) : List Nod → List Top → List Top → TopsO
  | [], S, A => ⟨true, A, S, 0, false⟩
  | x :: l, S, A => match stepN i x S with
    | none => ⟨false, A, S, (prt x.kind).toNat, knOk x.kind && decide (prt x.kind ≤ (S.length : Int))⟩
    | some (t, S') => topsO (i + 1) l (t :: S') (A ++ [t])
theorem topsO_N : ∀ (l : List Nod) (i : Int) (S A : List Top), topsN i l S A = ((topsO i l S A).a, (topsO i l S A).ok && decide ((topsO i l S A).r.length = 1))
  | [], i, S, A => by unfold topsN topsO; rfl
  | x :: l, i, S, A => by
    unfold topsN topsO
    cases stepN i x S with
    | none => rfl
    | some r => exact topsO_N l _ _ _
def lastT (A : List Top) : Top := A.getD (A.length - 1) default
def chkN (l : List Nod) : Int := bif decide (60 < l.length) then 4 else bif (topsN 0 l [] []).2 then (bif decide (20 < (lastT (topsN 0 l [] []).1).depth) then 34 else 0) else 8
/-! the reference -/
def szStep (i : Int) (x : Nod) (sz dp : List Int) : Option (Int × Int) :=
  bif decide (x.kind ≤ 4) then (bif knOk x.kind && okN x 0 0 then some (1, 1) else none)
  else bif decide (i - 1 < 0) then none
  else bif decide (x.kind ≤ 6) then (bif knOk x.kind && okN x (i - 1) 0 then some (1 + sz.getD (i - 1).toNat 0, 1 + dp.getD (i - 1).toNat 0) else none)
  else bif decide (i - 1 - sz.getD (i - 1).toNat 0 < 0) then none
  else bif knOk x.kind && okN x (i - 1 - sz.getD (i - 1).toNat 0) (i - 1) then
    some (1 + sz.getD (i - 1).toNat 0 + sz.getD (i - 1 - sz.getD (i - 1).toNat 0).toNat 0, max (1 + dp.getD (i - 1).toNat 0) (1 + dp.getD (i - 1 - sz.getD (i - 1).toNat 0).toNat 0)) else none
def szGo (i : Int) : List Nod → List Int → List Int → Option (List Int × List Int)
  | [], sz, dp => some (sz, dp)
  | x :: l, sz, dp => match szStep i x sz dp with
    | none => none
    | some (s, d) => szGo (i + 1) l (sz ++ [s]) (dp ++ [d])
/-- the stack is told by the last nodes of its parts -/
def Ch (A : List Top) : List Top → Nat → Prop
  | [], j => j = 0
  | t :: S, j => 1 ≤ j ∧ A[j - 1]? = some t ∧ t.pos = (j : Int) - 1 ∧ 1 ≤ t.size ∧ t.size ≤ j ∧ 1 ≤ t.depth ∧ t.depth ≤ j ∧ Ch A S (j - t.size.toNat)
theorem Ch.more {A : List Top} (B : List Top) : ∀ {S : List Top} {j : Nat}, Ch A S j → Ch (A ++ B) S j
  | [], _, h => h
  | t :: S, j, h => by
    obtain ⟨h1, h2, h3, h4, h5, h6, h7, h8⟩ := h
    have := (List.getElem?_eq_some_iff.1 h2).1
    exact ⟨h1, by rw [List.getElem?_append_left this]; exact h2, h3, h4, h5, h6, h7, h8.more B⟩
theorem Ch.step {A S S' : List Top} {i : Nat} {x : Nod} {t : Top} (h : Ch A S i) (hA : A.length = i) (hs : stepN i x S = some (t, S')) : Ch (A ++ [t]) (t :: S') (i + 1) := by
  have hget : (A ++ [t])[i + 1 - 1]? = some t := by rw [Nat.add_sub_cancel, ← hA]; simp
  unfold stepN at hs
  cases hk : knOk x.kind with
  | false => rw [hk] at hs; cases hs
  | true =>
    rw [hk, cond_true] at hs
    cases h4 : decide (x.kind ≤ 4) with
    | true =>
      rw [h4, cond_true] at hs
      cases ho : okN x 0 0 with
      | false => rw [ho] at hs; cases hs
      | true =>
        rw [ho] at hs
        cases hs
        exact ⟨by omega, hget, by simp, by simp, by simp; omega, by simp, by simp; omega, by simpa using h.more [_]⟩
    | false =>
      rw [h4, cond_false] at hs
      cases h6 : decide (x.kind ≤ 6) with
      | true =>
        rw [h6, cond_true] at hs
        cases S with
        | nil => cases hs
        | cons u S =>
          simp only at hs
          obtain ⟨g1, g2, g3, g4, g5, g6, g7, g8⟩ := h
          cases ho : okN x u.pos 0 with
          | false => rw [ho] at hs; cases hs
          | true =>
            rw [ho] at hs
            cases hs
            refine ⟨by omega, hget, by simp, by simp; omega, by simp; omega, by simp; omega, by simp; omega, ?_⟩
            rw [show i + 1 - (1 + u.size).toNat = i - u.size.toNat from by omega]
            exact g8.more _
      | false =>
        rw [h6, cond_false] at hs
        match S, h, hs with
        | [], _, hs => cases hs
        | [_], _, hs => cases hs
        | u :: t0 :: S, h, hs =>
          simp only at hs
          obtain ⟨g1, g2, g3, g4, g5, g6, g7, k1, k2, k3, k4, k5, k6, k7, k8⟩ := h
          cases ho : okN x t0.pos u.pos with
          | false => rw [ho] at hs; cases hs
          | true =>
            rw [ho] at hs
            cases hs
            refine ⟨by omega, hget, by simp, by simp; omega, by simp; omega, by simp; omega, by simp; omega, ?_⟩
            rw [show i + 1 - (1 + t0.size + u.size).toNat = i - u.size.toNat - t0.size.toNat from by omega]
            exact k8.more _
theorem Ch.le {A : List Top} : ∀ {S : List Top} {j : Nat}, Ch A S j → S.length ≤ j
  | [], _, _ => Nat.zero_le _
  | t :: S, j, h => by
    obtain ⟨h1, h2, h3, h4, h5, h6, h7, h8⟩ := h
    have := h8.le
    simp only [List.length_cons]
    omega
noncomputable def chD (A S : List Top) (j : Nat) : Bool := @decide (Ch A S j) (Classical.propDecidable _)
theorem chD_is {A S : List Top} {j : Nat} : chD A S j = true ↔ Ch A S j := by
  unfold chD
  exact @decide_eq_true_iff _ (Classical.propDecidable _)
theorem map_at {α : Type} [Inhabited α] {A : List α} {f : α → Int} {j : Nat} {t : α} (h : A[j]? = some t) : (A.map f).getD j 0 = f t := by
  simp [List.getD, h]
/-- the reference tells the same -/
theorem sz_step {A S : List Top} {i : Nat} {x : Nod} (h : Ch A S i) : szStep i x (A.map Top.size) (A.map Top.depth) = (stepN i x S).map fun r => (r.1.size, r.1.depth) := by
  unfold szStep stepN
  cases h4 : decide (x.kind ≤ 4) with
  | true =>
    simp only [cond_true]
    cases knOk x.kind <;> cases okN x 0 0 <;> rfl
  | false =>
    simp only [cond_false]
    cases S with
    | nil =>
      have h : i = 0 := h
      subst h
      rw [decide_eq_true (show ((0 : Nat) : Int) - 1 < 0 by omega)]
      cases knOk x.kind <;> cases decide (x.kind ≤ 6) <;> rfl
    | cons u S =>
      obtain ⟨g1, g2, g3, g4, g5, g6, g7, g8⟩ := h
      rw [decide_eq_false (show ¬ (i : Int) - 1 < 0 by omega)]
      have e1 : ((i : Int) - 1).toNat = i - 1 := by omega
      rw [e1, map_at g2, map_at g2, ← g3]
      simp only [cond_false]
      cases h6 : decide (x.kind ≤ 6) with
      | true =>
        simp only [cond_true]
        cases knOk x.kind <;> cases okN x u.pos 0 <;> simp
        omega
      | false =>
        simp only [cond_false]
        cases S with
        | nil =>
          have g8 : i - u.size.toNat = 0 := g8
          rw [decide_eq_true (show u.pos - u.size < 0 by omega)]
          cases knOk x.kind <;> rfl
        | cons t0 S =>
          obtain ⟨k1, k2, k3, k4, k5, k6, k7, k8⟩ := g8
          have e2 : (u.pos - u.size).toNat = i - u.size.toNat - 1 := by omega
          have e3 : t0.pos = u.pos - u.size := by omega
          rw [decide_eq_false (show ¬ u.pos - u.size < 0 by omega), e2, map_at k2, map_at k2, ← e3]
          have m1 : 1 + u.size + t0.size = 1 + t0.size + u.size := by omega
          have m2 : max (1 + u.depth) (1 + t0.depth) = max (max 1 (t0.depth + 1)) (u.depth + 1) := by omega
          rw [m1, m2]
          cases knOk x.kind <;> cases ho : okN x t0.pos u.pos <;> simp [ho]
theorem sz_go : ∀ (l : List Nod) (i : Nat) (S A : List Top), Ch A S i → A.length = i →
    ((szGo i l (A.map Top.size) (A.map Top.depth) = none ∧ (topsN i l S A).2 = false) ∨
      ∃ A' S', szGo i l (A.map Top.size) (A.map Top.depth) = some (A'.map Top.size, A'.map Top.depth) ∧ topsN i l S A = (A', decide (S'.length = 1)) ∧ Ch A' S' (i + l.length) ∧ A'.length = i + l.length)
  | [], i, S, A, h, hA => .inr ⟨A, S, rfl, rfl, h, hA⟩
  | x :: l, i, S, A, h, hA => by
    unfold szGo topsN
    rw [sz_step h]
    cases hs : stepN i x S with
    | none => exact .inl ⟨rfl, rfl⟩
    | some r =>
      obtain ⟨t, S'⟩ := r
      have hc := h.step hA hs
      have ih := sz_go l (i + 1) (t :: S') (A ++ [t]) hc (by simp [hA])
      simp only [Option.map_some, List.map_append, List.map_cons, List.map_nil] at ih ⊢
      rw [show ((i : Int) + 1) = ((i + 1 : Nat) : Int) from rfl, show i + (x :: l).length = i + 1 + l.length from by simp; omega]
      exact ih
/-- how the reference's loop ends -/
def szO (i : Int) : List Nod → List Int → List Int → Bool × List Int × List Int
  | [], sz, dp => (true, sz, dp)
  | x :: l, sz, dp => match szStep i x sz dp with
    | none => (false, sz, dp)
    | some (s, d) => szO (i + 1) l (sz ++ [s]) (dp ++ [d])
theorem szO_go : ∀ (l : List Nod) (i : Int) (sz dp : List Int), szGo i l sz dp = bif (szO i l sz dp).1 then some (szO i l sz dp).2 else none
  | [], _, _, _ => rfl
  | x :: l, i, sz, dp => by
    unfold szGo szO
    cases szStep i x sz dp with
    | none => rfl
    | some r => exact szO_go l _ _ _
/-- sizes and depths by their places -/
def Bo (sz : List Int) : Prop := ∀ (j : Nat) v, sz[j]? = some v → 1 ≤ v ∧ v ≤ (j : Int) + 1
theorem Bo.snoc {sz : List Int} {v : Int} (h : Bo sz) (h1 : 1 ≤ v) (h2 : v ≤ (sz.length : Int) + 1) : Bo (sz ++ [v]) := fun j u hj => by
  rcases Nat.lt_or_ge j sz.length with hl | hl
  · rw [List.getElem?_append_left hl] at hj; exact h j u hj
  · rw [List.getElem?_append_right hl] at hj
    rcases Nat.eq_zero_or_pos (j - sz.length) with h0 | h0
    · rw [h0] at hj
      simp only [List.getElem?_cons_zero, Option.some.injEq] at hj
      subst hj
      exact ⟨h1, by omega⟩
    · rw [List.getElem?_eq_none (by simp; omega)] at hj; cases hj
noncomputable def boD (sz : List Int) : Bool := @decide (Bo sz) (Classical.propDecidable _)
theorem boD_is {sz : List Int} : boD sz = true ↔ Bo sz := by
  unfold boD
  exact @decide_eq_true_iff _ (Classical.propDecidable _)
theorem Bo.at {sz : List Int} (h : Bo sz) {j : Nat} (hj : j < sz.length) : 1 ≤ sz.getD j 0 ∧ sz.getD j 0 ≤ (j : Int) + 1 := by
  have := h j sz[j] (List.getElem?_eq_getElem hj)
  simpa [List.getD, hj] using this
theorem szStep_bo {i : Nat} {x : Nod} {sz dp : List Int} {s d : Int} (h1 : Bo sz) (h2 : Bo dp) (l1 : sz.length = i) (l2 : dp.length = i) (h : szStep i x sz dp = some (s, d)) : Bo (sz ++ [s]) ∧ Bo (dp ++ [d]) := by
  unfold szStep at h
  cases h4 : decide (x.kind ≤ 4) with
  | true =>
    rw [h4, cond_true] at h
    cases hb : (knOk x.kind && okN x 0 0) with
    | false => rw [hb] at h; cases h
    | true => rw [hb] at h; cases h; exact ⟨h1.snoc (by omega) (by omega), h2.snoc (by omega) (by omega)⟩
  | false =>
    rw [h4, cond_false] at h
    by_cases hi : (i : Int) - 1 < 0
    · rw [decide_eq_true hi] at h; cases h
    rw [decide_eq_false hi, cond_false] at h
    have e1 : ((i : Int) - 1).toNat = i - 1 := by omega
    rw [e1] at h
    have b1 := h1.at (j := i - 1) (by omega)
    have b2 := h2.at (j := i - 1) (by omega)
    cases h6 : decide (x.kind ≤ 6) with
    | true =>
      rw [h6, cond_true] at h
      cases hb : (knOk x.kind && okN x ((i : Int) - 1) 0) with
      | false => rw [hb] at h; cases h
      | true => rw [hb] at h; cases h; exact ⟨h1.snoc (by omega) (by omega), h2.snoc (by omega) (by omega)⟩
    | false =>
      rw [h6, cond_false] at h
      by_cases hf : (i : Int) - 1 - sz.getD (i - 1) 0 < 0
      · rw [decide_eq_true hf] at h; cases h
      rw [decide_eq_false hf, cond_false] at h
      have b3 := h1.at (j := ((i : Int) - 1 - sz.getD (i - 1) 0).toNat) (by omega)
      have b4 := h2.at (j := ((i : Int) - 1 - sz.getD (i - 1) 0).toNat) (by omega)
      generalize hb : (knOk x.kind && okN x ((i : Int) - 1 - sz.getD (i - 1) 0) ((i : Int) - 1)) = b at h
      cases b with
      | false => cases h
      | true => cases h; exact ⟨h1.snoc (by omega) (by omega), h2.snoc (by omega) (by omega)⟩
/-- the reference's Check -/
def szOk (l : List Nod) (r : List Int) : Bool := decide (0 < l.length) && decide (r.getD (l.length - 1) 0 = l.length)
def chkR (l : List Nod) : Int := bif decide (60 < l.length) then 4 else match szGo 0 l [] [] with
  | none => 8
  | some (sz, dp) => bif szOk l sz then (bif decide (20 < dp.getD (l.length - 1) 0) then 34 else 0) else 8
theorem chkR_is (l : List Nod) : chkR l = chkN l := by
  unfold chkR chkN
  cases decide (60 < l.length) with
  | true => rfl
  | false =>
    simp only [cond_false]
    have h := sz_go l 0 [] [] rfl rfl
    simp only [List.map_nil, Nat.zero_add] at h
    rw [show ((0 : Nat) : Int) = 0 from rfl] at h
    rcases h with ⟨h1, h2⟩ | ⟨A, S, h1, h2, h3, h4⟩
    · rw [h1, h2]; rfl
    · rw [h1, h2]
      simp only
      have hlast : 0 < l.length → ∃ t, A[l.length - 1]? = some t := fun h => ⟨A[l.length - 1]'(by omega), List.getElem?_eq_getElem _⟩
      have key : szOk l (A.map Top.size) = decide (S.length = 1) := by
        unfold szOk
        cases S with
        | nil => have h3 : l.length = 0 := h3; rw [h3]; rfl
        | cons t S =>
          obtain ⟨g1, g2, g3, g4, g5, g6, g7, g8⟩ := h3
          rw [map_at g2, decide_eq_true (show 0 < l.length by omega), Bool.true_and]
          cases S with
          | nil =>
            have g8 : l.length - t.size.toNat = 0 := g8
            exact decide_eq_true (by omega)
          | cons u S =>
            have := g8.1
            rw [decide_eq_false (show ¬ t.size = (l.length : Int) by omega)]
            exact (decide_eq_false (by simp)).symm
      rw [key]
      cases hS : decide (S.length = 1) with
      | false => rfl
      | true =>
        simp only [cond_true]
        have hS := of_decide_eq_true hS
        match S, hS, h3 with
        | [t], _, h3 =>
          obtain ⟨g1, g2, _⟩ := h3
          have e1 : lastT A = t := by unfold lastT; rw [h4]; simp [List.getD, g2]
          rw [map_at g2, e1]
end Go.Am
/-
  Ints: plain laws of numerals: what is read, what is written.
-/
namespace Go.Am
open Go.Lib

def isDig (c : UInt8) : Bool := decide (48 ≤ c.toNat) && decide (c.toNat ≤ 57)
def dg (c : UInt8) : Int := (c.toNat : Int) - 48
def val (acc : Int) : List UInt8 → Int
  | [] => acc
  | c :: r => val (10 * acc + dg c) r
def most : Int := 9223372036854775807
/-- what digits spell, or none if it is too great -/
def rdF (acc : Int) : List UInt8 → Option Int
  | [] => some acc
  | c :: r => bif decide ((most - dg c).tdiv 10 < acc) then none else rdF (10 * acc + dg c) r
theorem dg_rng {c : UInt8} (h : isDig c = true) : 0 ≤ dg c ∧ dg c ≤ 9 := by
  simp only [isDig, Bool.and_eq_true, decide_eq_true_eq] at h
  unfold dg; omega
theorem val_ge {l : List UInt8} (hl : l.all isDig = true) {acc : Int} (h : 0 ≤ acc) : acc ≤ val acc l := by
  induction l generalizing acc with
  | nil => exact Int.le_refl _
  | cons c r ih =>
    simp only [List.all_cons, Bool.and_eq_true] at hl
    have hd := dg_rng hl.1
    unfold val
    have := ih hl.2 (acc := 10 * acc + dg c) (by omega)
    omega
theorem rdF_val {l : List UInt8} (hl : l.all isDig = true) {acc : Int} (h : 0 ≤ acc) : rdF acc l = if val acc l ≤ most then (some (val acc l)) else (if acc ≤ most then none else rdF acc l) := by
  induction l generalizing acc with
  | nil =>
    unfold rdF val
    split
    · rfl
    · first | rfl | (split <;> first | rfl | (exfalso; omega))
  | cons c r ih =>
    simp only [List.all_cons, Bool.and_eq_true] at hl
    have hd := dg_rng hl.1
    have hv := val_ge hl.2 (acc := 10 * acc + dg c) (by omega)
    have hmost : most = 9223372036854775807 := rfl
    unfold rdF val
    have hq : (most - dg c).tdiv 10 = (most - dg c) / 10 := Int.tdiv_eq_ediv_of_nonneg (by omega)
    rw [hq]
    by_cases hc : (most - dg c) / 10 < acc
    · rw [decide_eq_true hc, cond_true, if_neg (by omega)]
      split <;> first | rfl | (unfold rdF; rw [hq, decide_eq_true hc]; rfl)
    · have hle : 10 * acc + dg c ≤ most := by omega
      rw [decide_eq_false hc, cond_false, ih hl.2 (by omega), if_pos hle]
      split
      · rfl
      · rw [if_pos (show acc ≤ most from by omega)]
theorem rdF_0 {l : List UInt8} (hl : l.all isDig = true) : rdF 0 l = if val 0 l ≤ most then some (val 0 l) else none := by
  rw [rdF_val hl (Int.le_refl 0)]
  have : (0 : Int) ≤ most := by decide
  rw [if_pos this]
theorem dig_nat {c : UInt8} (h : isDig c = true) : 48 ≤ c.toNat ∧ c.toNat ≤ 57 := by
  simpa [isDig] using h
/-- what Read gives -/
def rdN (s : List UInt8) : Int := bif decide (s = []) || !s.all isDig then 0 else match rdF 0 s with | some n => n | none => 0
def rdE (s : List UInt8) : Int := bif decide (s = []) || !s.all isDig then 12 else match rdF 0 s with | some _ => 0 | none => 16
/-! numerals -/
theorem dec_small {u : Nat} (h : u < 10) : decDigits u = [UInt8.ofNat (48 + u)] := by rw [decDigits, dif_pos h]
theorem dec_big {u : Nat} (h : ¬ u < 10) : decDigits u = decDigits (u / 10) ++ [UInt8.ofNat (48 + u % 10)] := by rw [decDigits, dif_neg h]
theorem dec_len : ∀ (k u : Nat), u < 10 ^ k → 1 ≤ k → (decDigits u).length ≤ k
  | 0, u, _, h => by omega
  | k + 1, u, h, _ => by
    by_cases hu : u < 10
    · rw [dec_small hu]; simp
    · rw [dec_big hu]
      have h1 : 1 ≤ k := by
        cases k with
        | zero => simp at h; omega
        | succ k => omega
      have := dec_len k (u / 10) (by rw [Nat.pow_succ] at h; omega) h1
      simp; omega
theorem itoa_len {n : Int} (h : Rng n) : (itoa n).length ≤ 21 := by
  unfold Rng at h
  unfold itoa
  split
  · have := dec_len 20 n.natAbs (by have : (10 : Nat) ^ 20 = 100000000000000000000 := by decide
                                    omega) (by omega)
    simp; omega
  · have := dec_len 20 n.toNat (by have : (10 : Nat) ^ 20 = 100000000000000000000 := by decide
                                   omega) (by omega)
    omega
/-! what numerals read as -/
theorem dig_of {d : Nat} (h : d < 10) : isDig (UInt8.ofNat (48 + d)) = true ∧ dg (UInt8.ofNat (48 + d)) = (d : Int) := by
  have hn : (UInt8.ofNat (48 + d)).toNat = 48 + d := by rw [UInt8.toNat_ofNat']; omega
  unfold isDig dg
  rw [hn]
  refine ⟨?_, by omega⟩
  rw [decide_eq_true (by omega), decide_eq_true (by omega)]; rfl
theorem val_app : ∀ (l : List UInt8) (acc : Int) (c : UInt8), val acc (l ++ [c]) = 10 * val acc l + dg c
  | [], _, _ => rfl
  | a :: l, acc, c => val_app l (10 * acc + dg a) c
theorem dec_digs : ∀ u : Nat, (decDigits u).all isDig = true := by
  intro u
  induction u using Nat.strongRecOn with
  | ind u ih =>
    by_cases h : u < 10
    · rw [dec_small h]; simp only [List.all_cons, List.all_nil, (dig_of h).1, Bool.and_true]
    · rw [dec_big h, List.all_append, ih (u / 10) (by omega)]
      simp only [List.all_cons, List.all_nil, (dig_of (Nat.mod_lt u (by decide))).1, Bool.and_true]
theorem val_dec : ∀ u : Nat, val 0 (decDigits u) = (u : Int) := by
  intro u
  induction u using Nat.strongRecOn with
  | ind u ih =>
    by_cases h : u < 10
    · rw [dec_small h]
      show 10 * 0 + dg (UInt8.ofNat (48 + u)) = _
      rw [(dig_of h).2]; omega
    · rw [dec_big h, val_app, ih (u / 10) (by omega), (dig_of (Nat.mod_lt u (by decide))).2]; omega
theorem dec_ne (u : Nat) : decDigits u ≠ [] := by
  by_cases h : u < 10
  · rw [dec_small h]; simp
  · rw [dec_big h]; simp
theorem itoa_pos {n : Int} (h : 0 ≤ n) : itoa n = decDigits n.toNat := by unfold itoa; rw [if_neg (by omega)]
theorem itoa_min {n : Int} (h : n < 0) : itoa n = 45 :: decDigits n.natAbs := by unfold itoa; rw [if_pos h]
theorem itoa_ne (n : Int) : itoa n ≠ [] := by
  rcases Int.lt_or_le n 0 with h | h
  · rw [itoa_min h]; simp
  · rw [itoa_pos h]; exact dec_ne _
def zer (k : Nat) : List UInt8 := List.replicate k 48
theorem val_zer (l : List UInt8) : ∀ k, val 0 (zer k ++ l) = val 0 l
  | 0 => rfl
  | k + 1 => val_zer l k
theorem all_zer (l : List UInt8) : ∀ k, (zer k ++ l).all isDig = l.all isDig
  | 0 => rfl
  | k + 1 => by
    show (isDig 48 && (zer k ++ l).all isDig) = _
    rw [all_zer l k]; rfl
theorem read_pos {n : Int} (hn : Rng n) (h : 0 ≤ n) (k : Nat) : rdE (zer k ++ itoa n) = 0 ∧ rdN (zer k ++ itoa n) = n := by
  have h0 : decide (zer k ++ itoa n = []) = false := decide_eq_false fun h => itoa_ne n (List.append_eq_nil_iff.1 h).2
  have h1 : (zer k ++ itoa n).all isDig = true := by rw [all_zer, itoa_pos h]; exact dec_digs _
  have h2 : rdF 0 (zer k ++ itoa n) = some n := by
    rw [rdF_0 h1, val_zer, itoa_pos h, val_dec, Int.toNat_of_nonneg h, if_pos (show n ≤ most from hn.2)]
  unfold rdE rdN
  rw [h0, h1, h2]
  exact ⟨rfl, rfl⟩
end Go.Am
/-
  Chars: plain words.
-/
namespace Go.Am
def wordList : List (List UInt8) := [[115, 101, 108, 101, 99, 116], [102, 114, 111, 109], [119, 104, 101, 114, 101], [119, 105, 110, 100, 111, 119], [98, 121], [107, 101, 121], [108, 97, 116, 101], [100, 114, 111, 112], [115, 105, 100, 101], [99, 111, 117, 110, 116], [115, 117, 109], [109, 105, 110], [109, 97, 120], [97, 110, 100], [111, 114], [110, 111, 116], [117, 110, 105, 111, 110], [106, 111, 105, 110], [116, 117, 109, 98, 108, 101], [115, 108, 105, 100, 101], [101, 118, 101, 114, 121], [115, 101, 115, 115, 105, 111, 110], [97], [98], [99], [100], [107], [116], [118]]
def isWord (s : List UInt8) : Bool := wordList.contains s
def kindN (c : Int) : Int :=
  bif decide (c = 32) || decide (c = 10) then 1 else bif decide (48 ≤ c) && decide (c ≤ 57) then 2 else bif decide (97 ≤ c) && decide (c ≤ 122) then 3
  else bif (decide (40 ≤ c) && decide (c ≤ 43)) || (decide (60 ≤ c) && decide (c ≤ 62)) || decide (c = 45) || decide (c = 33) then 4 else 0
/-! Symbol -/
def c0 (s : List UInt8) : Int := ((s.getD (0 : Int).toNat 0).toNat : Int)
def c1 (s : List UInt8) : Int := ((s.getD (1 : Int).toNat 0).toNat : Int)
/-! the reference's Symbol -/
/-! the reference's Word -/
def pairB (s : List UInt8) : Bool :=
  decide ((1 : Int) < (s.length : Int)) && ((decide (c0 s = 60) && decide (0 ≤ Lib.indexByte [61, 60] ((c1 s).toNat.toUInt8))) || (decide (c0 s = 62) && decide (0 ≤ Lib.indexByte [61, 62] ((c1 s).toNat.toUInt8))) || (decide (c0 s = 33) && decide (0 ≤ Lib.indexByte [61] ((c1 s).toNat.toUInt8))))
def sym0 (s : List UInt8) : Int :=
  bif decide (s = []) then 0 else bif !decide (kindN (c0 s) = 4) then 0 else bif pairB s then 2 else bif decide (c0 s = 33) then 0 else 1
end Go.Am
/-
  Chars: plain words for CharsLongest.
-/
namespace Go.Am
theorem sym_kind {s : List UInt8} (h : sym0 s ≠ 0) : s ≠ [] ∧ kindN (c0 s) = 4 := by
  unfold sym0 at h
  by_cases h0 : s = []
  · rw [decide_eq_true h0] at h; exact (h rfl).elim
  · by_cases h1 : kindN (c0 s) = 4
    · exact ⟨h0, h1⟩
    · rw [decide_eq_false h0, decide_eq_false h1] at h; exact (h rfl).elim
end Go.Am
/-
  Chars: the reference's Symbol and Word tell the same.
-/
namespace Go.Am
end Go.Am
/-
  Lexer: plain words.
-/
namespace Go.Am
open Go.Lib
def kd (c : UInt8) : Int := kindN (c.toNat : Int)
/-- how many bytes from here on have one kind -/
def runK (k : Int) : List UInt8 → Nat
  | [] => 0
  | c :: r => bif decide (kd c = k) then runK k r + 1 else 0
/-- the kind of the token in front, its length, its text, its error -/
def tkK (r : List UInt8) : Int := bif decide (kindN (c0 r) = 2) then 1 else bif decide (kindN (c0 r) = 3) then 2 else 3
def tkN (r : List UInt8) : Nat := bif decide (kindN (c0 r) = 2) then runK 2 r else bif decide (kindN (c0 r) = 3) then runK 3 r else (sym0 r).toNat
def tkT (r : List UInt8) : List UInt8 := r.take (tkN r)
/-- the error of a token -/
def tokE (k : Int) (t : List UInt8) : Int :=
  bif decide (k = 1) then rdE t else bif decide (k = 2) then (bif isWord t then 0 else 32) else bif decide (k = 3) then (bif decide (0 < sym0 t) && decide (sym0 t = (t.length : Int)) then 0 else 32) else 32
def tkF (r : List UInt8) : Int := tokE (tkK r) (tkT r)
structure LexO where
  l : List Tok
  n : Int
  e : Int
  deriving Inhabited
def LexO.cons (t : Tok) (o : LexO) : LexO := ⟨t :: o.l, o.n, o.e⟩
/-- all tokens of what is left: fuel, what is left, where it begins, how many have come -/
def lexR : Nat → List UInt8 → Int → Nat → LexO
  | 0, _, a, _ => ⟨[], a, 4⟩
  | _ + 1, [], a, _ => ⟨[], a, 0⟩
  | n + 1, c :: r, a, k =>
    bif decide (kd c = 1) then lexR n r (a + 1) k
    else bif decide (k = 200) then ⟨[], a, 4⟩
    else bif decide (tkF (c :: r) = 0) then (lexR n ((c :: r).drop (tkN (c :: r))) (a + (tkN (c :: r) : Int)) (k + 1)).cons ⟨tkK (c :: r), tkT (c :: r), a⟩
    else ⟨[], a, tkF (c :: r)⟩
def lexA (s : List UInt8) : LexO := bif decide ((400 : Int) < (s.length : Int)) then ⟨[], 0, 4⟩ else lexR (s.length + 1) s 0 0
def lexE (s : List UInt8) : Int := (lexA s).e
def lexL (s : List UInt8) : List Tok := bif decide (lexE s = 0) then (lexA s).l else []

/-! a token hangs on little -/
theorem tokE_nil (k : Int) : tokE k [] ≠ 0 := by
  unfold tokE
  have h1 : rdE [] = 12 := rfl
  have h2 : isWord [] = false := by decide
  have h3 : sym0 [] = 0 := by decide
  rw [h1, h2, h3]
  cases decide (k = 1) <;> cases decide (k = 2) <;> cases decide (k = 3) <;> decide
end Go.Am
/-
  Lexer: plain laws of all tokens of a text.
-/
namespace Go.Am
/-! somewhere else -/
def Tok.at (d : Int) (t : Tok) : Tok := ⟨t.kind, t.text, t.pos + d⟩
def Tok.kt (t : Tok) : Int × List UInt8 := (t.kind, t.text)
/-! tokens and gaps -/
/-! tokens joined -/
def joinT : List (List UInt8) → List UInt8
  | [] => []
  | [t] => t
  | t :: u :: r => t ++ 32 :: joinT (u :: r)
theorem word_kd : wordList.all (fun w => decide (kindN (c0 w) = 3) && decide (runK 3 w = w.length)) = true := by decide +kernel
theorem run_digs : ∀ t : List UInt8, t.all isDig = true → runK 2 t = t.length
  | [], _ => rfl
  | c :: r, h => by
    simp only [List.all_cons, Bool.and_eq_true] at h
    unfold runK
    rw [kd_dig h.1, run_digs r h.2]; rfl
where
  kd_dig {c : UInt8} (h : isDig c = true) : decide (kd c = 2) = true := by
    have hn := dig_nat h
    refine decide_eq_true ?_
    unfold kd kindN
    rw [decide_eq_false (show ¬ (c.toNat : Int) = 32 from by omega), decide_eq_false (show ¬ (c.toNat : Int) = 10 from by omega), decide_eq_true (show (48 : Int) ≤ (c.toNat : Int) from by omega), decide_eq_true (show (c.toNat : Int) ≤ 57 from by omega)]; rfl
theorem valid_tok {k : Int} {t : List UInt8} (h : tokE k t = 0) : ∃ c r, t = c :: r ∧ kd c ≠ 1 ∧ tkK t = k ∧ tkN t = t.length := by
  have hne : t ≠ [] := fun h0 => tokE_nil k (h0 ▸ h)
  obtain ⟨c, r, rfl⟩ : ∃ c r, t = c :: r := by
    cases t with
    | nil => exact (hne rfl).elim
    | cons c r => exact ⟨c, r, rfl⟩
  refine ⟨c, r, rfl, ?_⟩
  unfold tokE at h
  have hc0 : kindN (c0 (c :: r)) = kd c := rfl
  by_cases h1 : k = 1
  · rw [decide_eq_true h1, cond_true] at h
    have hd : (c :: r).all isDig = true := by
      cases hd : (c :: r).all isDig with
      | true => rfl
      | false => unfold rdE at h; rw [hd] at h; simp at h
    have hk : kd c = 2 := by
      have := run_digs.kd_dig (c := c) (by simp only [List.all_cons, Bool.and_eq_true] at hd; exact hd.1)
      exact of_decide_eq_true this
    refine ⟨by omega, ?_, ?_⟩
    · unfold tkK; rw [hc0, hk, h1]; rfl
    · unfold tkN; rw [hc0, hk]; exact run_digs _ hd
  rw [decide_eq_false h1, cond_false] at h
  by_cases h2 : k = 2
  · rw [decide_eq_true h2, cond_true] at h
    have hw : isWord (c :: r) = true := by
      cases hw : isWord (c :: r) with
      | true => rfl
      | false => rw [hw] at h; cases h
    have := List.all_eq_true.1 word_kd _ (List.contains_iff_mem.1 hw)
    simp only [Bool.and_eq_true, decide_eq_true_eq] at this
    have hk : kd c = 3 := this.1
    refine ⟨by omega, ?_, ?_⟩
    · unfold tkK; rw [hc0, hk, h2]; rfl
    · unfold tkN; rw [hc0, hk]; exact this.2
  rw [decide_eq_false h2, cond_false] at h
  by_cases h3 : k = 3
  · rw [decide_eq_true h3, cond_true] at h
    have hs : 0 < sym0 (c :: r) ∧ sym0 (c :: r) = ((c :: r).length : Int) := by
      by_cases h4 : 0 < sym0 (c :: r)
      · by_cases h5 : sym0 (c :: r) = ((c :: r).length : Int)
        · exact ⟨h4, h5⟩
        · rw [decide_eq_false h5, Bool.and_false] at h; cases h
      · rw [decide_eq_false h4] at h; cases h
    have hk : kd c = 4 := (sym_kind (s := c :: r) (by omega)).2
    refine ⟨by omega, ?_, ?_⟩
    · unfold tkK; rw [hc0, hk, h3]; rfl
    · unfold tkN; rw [hc0, hk]
      show (sym0 (c :: r)).toNat = _
      omega
  · rw [decide_eq_false h3] at h; cases h
end Go.Am
/-
  Lexer: plain words of joining and comparing.
-/
namespace Go.Am
def validB (t : Tok) : Bool := decide (tokE t.kind t.text = 0)
def shortT (L : List Tok) : Bool := L.all fun t => decide (t.text.length ≤ 900)
def txt (L : List Tok) : List (List UInt8) := L.map (·.text)
def jT (L : List Tok) : List UInt8 := joinT (txt L)
def jE (L : List Tok) : Int := bif decide ((200 : Int) < (L.length : Int)) then 4 else bif L.all validB then (bif decide ((400 : Int) < ((jT L).length : Int)) then 18 else 0) else 8
end Go.Am
