/-
  Texts put together: IntsPure, NodPure, IntsText, CharsPure, CharsPure2, CharsPure3, LexPure, LexPure2, LexPure3.
-/
import Derived.Test.YtdckpbeioemopabGreatDoorLibA
import Derived.Lib.Join
namespace Go.Am
def w64 (n : Int) : Int := IntKind.i64.wrap n
def ti (b : Bool) : Int := bif b then 1 else 0
theorem w64_eq (n : Int) : w64 n = (n + 9223372036854775808) % 18446744073709551616 - 9223372036854775808 := IntKind.wrap_i64 n
theorem w64_rng {n : Int} (h : Rng n) : w64 n = n := by unfold Rng at h; rw [w64_eq]; omega
def fails (p : Bool) : Bool := bif p then false else true
end Go.Am
namespace Go.Am
def prt (k : Int) : Int := bif decide (k ≤ 4) then 0 else bif decide (k ≤ 6) then 1 else 2
def knOk (k : Int) : Bool := decide (1 ≤ k) && decide (k ≤ 19)
def okN (x : Nod) (a b : Int) : Bool := decide (x.a = a ∧ x.b = b ∧ 0 ≤ x.pos ∧ x.pos ≤ 400 ∧ 0 ≤ x.n ∧ (x.kind = 1 ∨ x.n = 0))
def stepN (i : Int) (x : Nod) (S : List Top) : Option (Top × List Top) :=
  bif knOk x.kind then
    (bif decide (x.kind ≤ 4) then (bif okN x 0 0 then some (⟨i, 1, 1⟩, S) else none)
    else bif decide (x.kind ≤ 6) then (match S with
      | t :: S => bif okN x t.pos 0 then some (⟨i, 1 + t.size, max 1 (t.depth + 1)⟩, S) else none
      | [] => none)
    else match S with
      | u :: t :: S => bif okN x t.pos u.pos then some (⟨i, 1 + t.size + u.size, max (max 1 (t.depth + 1)) (u.depth + 1)⟩, S) else none
      | _ => none)
  else none
def topsN (i : Int) : List Nod → List Top → List Top → List Top × Bool
  | [], S, A => (A, decide (S.length = 1))
  | x :: l, S, A => match stepN i x S with
    | none => (A, false)
    | some (t, S') => topsN (i + 1) l (t :: S') (A ++ [t])
structure TopsO where
  ok : Bool
  a : List Top
  r : List Top
  k : Nat
  p : Bool
def topsO (i : Int) : List Nod → List Top → List Top → TopsO
  | [], S, A => ⟨true, A, S, 0, false⟩
  | x :: l, S, A => match stepN i x S with
    | none => ⟨false, A, S, (prt x.kind).toNat, knOk x.kind && decide (prt x.kind ≤ (S.length : Int))⟩
    | some (t, S') => topsO (i + 1) l (t :: S') (A ++ [t])
theorem topsO_N : ∀ (l : List Nod) (i : Int) (S A : List Top), topsN i l S A = ((topsO i l S A).a, (topsO i l S A).ok && decide ((topsO i l S A).r.length = 1))
  | [], i, S, A => by unfold topsN topsO; rfl
  | x :: l, i, S, A => by
    unfold topsN topsO
    cases stepN i x S with
    | none => rfl
    | some r => exact topsO_N l _ _ _
def lastT (A : List Top) : Top := A.getD (A.length - 1) default
def chkN (l : List Nod) : Int := bif decide (60 < l.length) then 4 else bif (topsN 0 l [] []).2 then (bif decide (20 < (lastT (topsN 0 l [] []).1).depth) then 34 else 0) else 8
def szStep (i : Int) (x : Nod) (sz dp : List Int) : Option (Int × Int) :=
  bif decide (x.kind ≤ 4) then (bif knOk x.kind && okN x 0 0 then some (1, 1) else none)
  else bif decide (i - 1 < 0) then none
  else bif decide (x.kind ≤ 6) then (bif knOk x.kind && okN x (i - 1) 0 then some (1 + sz.getD (i - 1).toNat 0, 1 + dp.getD (i - 1).toNat 0) else none)
  else bif decide (i - 1 - sz.getD (i - 1).toNat 0 < 0) then none
  else bif knOk x.kind && okN x (i - 1 - sz.getD (i - 1).toNat 0) (i - 1) then
    some (1 + sz.getD (i - 1).toNat 0 + sz.getD (i - 1 - sz.getD (i - 1).toNat 0).toNat 0, max (1 + dp.getD (i - 1).toNat 0) (1 + dp.getD (i - 1 - sz.getD (i - 1).toNat 0).toNat 0)) else none
def szGo (i : Int) : List Nod → List Int → List Int → Option (List Int × List Int)
  | [], sz, dp => some (sz, dp)
  | x :: l, sz, dp => match szStep i x sz dp with
    | none => none
    | some (s, d) => szGo (i + 1) l (sz ++ [s]) (dp ++ [d])
def Ch (A : List Top) : List Top → Nat → Prop
  | [], j => j = 0
  | t :: S, j => 1 ≤ j ∧ A[j - 1]? = some t ∧ t.pos = (j : Int) - 1 ∧ 1 ≤ t.size ∧ t.size ≤ j ∧ 1 ≤ t.depth ∧ t.depth ≤ j ∧ Ch A S (j - t.size.toNat)
theorem Ch.more {A : List Top} (B : List Top) : ∀ {S : List Top} {j : Nat}, Ch A S j → Ch (A ++ B) S j
  | [], _, h => h
  | t :: S, j, h => by
    obtain ⟨h1, h2, h3, h4, h5, h6, h7, h8⟩ := h
    have := (List.getElem?_eq_some_iff.1 h2).1
    exact ⟨h1, by rw [List.getElem?_append_left this]; exact h2, h3, h4, h5, h6, h7, h8.more B⟩
theorem Ch.step {A S S' : List Top} {i : Nat} {x : Nod} {t : Top} (h : Ch A S i) (hA : A.length = i) (hs : stepN i x S = some (t, S')) : Ch (A ++ [t]) (t :: S') (i + 1) := by
  have hget : (A ++ [t])[i + 1 - 1]? = some t := by rw [Nat.add_sub_cancel, ← hA]; simp
  unfold stepN at hs
  cases hk : knOk x.kind with
  | false => rw [hk] at hs; cases hs
  | true =>
    rw [hk, cond_true] at hs
    cases h4 : decide (x.kind ≤ 4) with
    | true =>
      rw [h4, cond_true] at hs
      cases ho : okN x 0 0 with
      | false => rw [ho] at hs; cases hs
      | true =>
        rw [ho] at hs
        cases hs
        exact ⟨by omega, hget, by simp, by simp, by simp; omega, by simp, by simp; omega, by simpa using h.more [_]⟩
    | false =>
      rw [h4, cond_false] at hs
      cases h6 : decide (x.kind ≤ 6) with
      | true =>
        rw [h6, cond_true] at hs
        cases S with
        | nil => cases hs
        | cons u S =>
          simp only at hs
          obtain ⟨g1, g2, g3, g4, g5, g6, g7, g8⟩ := h
          cases ho : okN x u.pos 0 with
          | false => rw [ho] at hs; cases hs
          | true =>
            rw [ho] at hs
            cases hs
            refine ⟨by omega, hget, by simp, by simp; omega, by simp; omega, by simp; omega, by simp; omega, ?_⟩
            rw [show i + 1 - (1 + u.size).toNat = i - u.size.toNat from by omega]
            exact g8.more _
      | false =>
        rw [h6, cond_false] at hs
        match S, h, hs with
        | [], _, hs => cases hs
        | [_], _, hs => cases hs
        | u :: t0 :: S, h, hs =>
          simp only at hs
          obtain ⟨g1, g2, g3, g4, g5, g6, g7, k1, k2, k3, k4, k5, k6, k7, k8⟩ := h
          cases ho : okN x t0.pos u.pos with
          | false => rw [ho] at hs; cases hs
          | true =>
            rw [ho] at hs
            cases hs
            refine ⟨by omega, hget, by simp, by simp; omega, by simp; omega, by simp; omega, by simp; omega, ?_⟩
            rw [show i + 1 - (1 + t0.size + u.size).toNat = i - u.size.toNat - t0.size.toNat from by omega]
            exact k8.more _
theorem Ch.le {A : List Top} : ∀ {S : List Top} {j : Nat}, Ch A S j → S.length ≤ j
  | [], _, _ => Nat.zero_le _
  | t :: S, j, h => by
    obtain ⟨h1, h2, h3, h4, h5, h6, h7, h8⟩ := h
    have := h8.le
    simp only [List.length_cons]
    omega
noncomputable def chD (A S : List Top) (j : Nat) : Bool := @decide (Ch A S j) (Classical.propDecidable _)
theorem chD_is {A S : List Top} {j : Nat} : chD A S j = true ↔ Ch A S j := by
  unfold chD
  exact @decide_eq_true_iff _ (Classical.propDecidable _)
theorem map_at {α : Type} [Inhabited α] {A : List α} {f : α → Int} {j : Nat} {t : α} (h : A[j]? = some t) : (A.map f).getD j 0 = f t := by
  simp [List.getD, h]
theorem sz_step {A S : List Top} {i : Nat} {x : Nod} (h : Ch A S i) : szStep i x (A.map Top.size) (A.map Top.depth) = (stepN i x S).map fun r => (r.1.size, r.1.depth) := by
  unfold szStep stepN
  cases h4 : decide (x.kind ≤ 4) with
  | true =>
    simp only [cond_true]
    cases knOk x.kind <;> cases okN x 0 0 <;> rfl
  | false =>
    simp only [cond_false]
    cases S with
    | nil =>
      have h : i = 0 := h
      subst h
      rw [decide_eq_true (show ((0 : Nat) : Int) - 1 < 0 by omega)]
      cases knOk x.kind <;> cases decide (x.kind ≤ 6) <;> rfl
    | cons u S =>
      obtain ⟨g1, g2, g3, g4, g5, g6, g7, g8⟩ := h
      rw [decide_eq_false (show ¬ (i : Int) - 1 < 0 by omega)]
      have e1 : ((i : Int) - 1).toNat = i - 1 := by omega
      rw [e1, map_at g2, map_at g2, ← g3]
      simp only [cond_false]
      cases h6 : decide (x.kind ≤ 6) with
      | true =>
        simp only [cond_true]
        cases knOk x.kind <;> cases okN x u.pos 0 <;> simp
        omega
      | false =>
        simp only [cond_false]
        cases S with
        | nil =>
          have g8 : i - u.size.toNat = 0 := g8
          rw [decide_eq_true (show u.pos - u.size < 0 by omega)]
          cases knOk x.kind <;> rfl
        | cons t0 S =>
          obtain ⟨k1, k2, k3, k4, k5, k6, k7, k8⟩ := g8
          have e2 : (u.pos - u.size).toNat = i - u.size.toNat - 1 := by omega
          have e3 : t0.pos = u.pos - u.size := by omega
          rw [decide_eq_false (show ¬ u.pos - u.size < 0 by omega), e2, map_at k2, map_at k2, ← e3]
          have m1 : 1 + u.size + t0.size = 1 + t0.size + u.size := by omega
          have m2 : max (1 + u.depth) (1 + t0.depth) = max (max 1 (t0.depth + 1)) (u.depth + 1) := by omega
          rw [m1, m2]
          cases knOk x.kind <;> cases ho : okN x t0.pos u.pos <;> simp [ho]
theorem sz_go : ∀ (l : List Nod) (i : Nat) (S A : List Top), Ch A S i → A.length = i →
    ((szGo i l (A.map Top.size) (A.map Top.depth) = none ∧ (topsN i l S A).2 = false) ∨
      ∃ A' S', szGo i l (A.map Top.size) (A.map Top.depth) = some (A'.map Top.size, A'.map Top.depth) ∧ topsN i l S A = (A', decide (S'.length = 1)) ∧ Ch A' S' (i + l.length) ∧ A'.length = i + l.length)
  | [], i, S, A, h, hA => .inr ⟨A, S, rfl, rfl, h, hA⟩
  | x :: l, i, S, A, h, hA => by
    unfold szGo topsN
    rw [sz_step h]
    cases hs : stepN i x S with
    | none => exact .inl ⟨rfl, rfl⟩
    | some r =>
      obtain ⟨t, S'⟩ := r
      have hc := h.step hA hs
      have ih := sz_go l (i + 1) (t :: S') (A ++ [t]) hc (by simp [hA])
      simp only [Option.map_some, List.map_append, List.map_cons, List.map_nil] at ih ⊢
      rw [show ((i : Int) + 1) = ((i + 1 : Nat) : Int) from rfl, show i + (x :: l).length = i + 1 + l.length from by simp; omega]
      exact ih
def szO (i : Int) : List Nod → List Int → List Int → Bool × List Int × List Int
  | [], sz, dp => (true, sz, dp)
  | x :: l, sz, dp => match szStep i x sz dp with
    | none => (false, sz, dp)
    | some (s, d) => szO (i + 1) l (sz ++ [s]) (dp ++ [d])
theorem szO_go : ∀ (l : List Nod) (i : Int) (sz dp : List Int), szGo i l sz dp = bif (szO i l sz dp).1 then some (szO i l sz dp).2 else none
  | [], _, _, _ => rfl
  | x :: l, i, sz, dp => by
    unfold szGo szO
    cases szStep i x sz dp with
    | none => rfl
    | some r => exact szO_go l _ _ _
def Bo (sz : List Int) : Prop := ∀ (j : Nat) v, sz[j]? = some v → 1 ≤ v ∧ v ≤ (j : Int) + 1
theorem Bo.snoc {sz : List Int} {v : Int} (h : Bo sz) (h1 : 1 ≤ v) (h2 : v ≤ (sz.length : Int) + 1) : Bo (sz ++ [v]) := fun j u hj => by
  rcases Nat.lt_or_ge j sz.length with hl | hl
  · rw [List.getElem?_append_left hl] at hj; exact h j u hj
  · rw [List.getElem?_append_right hl] at hj
    rcases Nat.eq_zero_or_pos (j - sz.length) with h0 | h0
    · rw [h0] at hj
      simp only [List.getElem?_cons_zero, Option.some.injEq] at hj
      subst hj
      exact ⟨h1, by omega⟩
    · rw [List.getElem?_eq_none (by simp; omega)] at hj; cases hj
noncomputable def boD (sz : List Int) : Bool := @decide (Bo sz) (Classical.propDecidable _)
theorem boD_is {sz : List Int} : boD sz = true ↔ Bo sz := by
  unfold boD
  exact @decide_eq_true_iff _ (Classical.propDecidable _)
theorem Bo.at {sz : List Int} (h : Bo sz) {j : Nat} (hj : j < sz.length) : 1 ≤ sz.getD j 0 ∧ sz.getD j 0 ≤ (j : Int) + 1 := by
  have := h j sz[j] (List.getElem?_eq_getElem hj)
  simpa [List.getD, hj] using this
theorem szStep_bo {i : Nat} {x : Nod} {sz dp : List Int} {s d : Int} (h1 : Bo sz) (h2 : Bo dp) (l1 : sz.length = i) (l2 : dp.length = i) (h : szStep i x sz dp = some (s, d)) : Bo (sz ++ [s]) ∧ Bo (dp ++ [d]) := by
  unfold szStep at h
  cases h4 : decide (x.kind ≤ 4) with
  | true =>
    rw [h4, cond_true] at h
    cases hb : (knOk x.kind && okN x 0 0) with
    | false => rw [hb] at h; cases h
    | true => rw [hb] at h; cases h; exact ⟨h1.snoc (by omega) (by omega), h2.snoc (by omega) (by omega)⟩
  | false =>
    rw [h4, cond_false] at h
    by_cases hi : (i : Int) - 1 < 0
    · rw [decide_eq_true hi] at h; cases h
    rw [decide_eq_false hi, cond_false] at h
    have e1 : ((i : Int) - 1).toNat = i - 1 := by omega
    rw [e1] at h
    have b1 := h1.at (j := i - 1) (by omega)
    have b2 := h2.at (j := i - 1) (by omega)
    cases h6 : decide (x.kind ≤ 6) with
    | true =>
      rw [h6, cond_true] at h
      cases hb : (knOk x.kind && okN x ((i : Int) - 1) 0) with
      | false => rw [hb] at h; cases h
      | true => rw [hb] at h; cases h; exact ⟨h1.snoc (by omega) (by omega), h2.snoc (by omega) (by omega)⟩
    | false =>
      rw [h6, cond_false] at h
      by_cases hf : (i : Int) - 1 - sz.getD (i - 1) 0 < 0
      · rw [decide_eq_true hf] at h; cases h
      rw [decide_eq_false hf, cond_false] at h
      have b3 := h1.at (j := ((i : Int) - 1 - sz.getD (i - 1) 0).toNat) (by omega)
      have b4 := h2.at (j := ((i : Int) - 1 - sz.getD (i - 1) 0).toNat) (by omega)
      generalize hb : (knOk x.kind && okN x ((i : Int) - 1 - sz.getD (i - 1) 0) ((i : Int) - 1)) = b at h
      cases b with
      | false => cases h
      | true => cases h; exact ⟨h1.snoc (by omega) (by omega), h2.snoc (by omega) (by omega)⟩
def szOk (l : List Nod) (r : List Int) : Bool := decide (0 < l.length) && decide (r.getD (l.length - 1) 0 = l.length)
def chkR (l : List Nod) : Int := bif decide (60 < l.length) then 4 else match szGo 0 l [] [] with
  | none => 8
  | some (sz, dp) => bif szOk l sz then (bif decide (20 < dp.getD (l.length - 1) 0) then 34 else 0) else 8
theorem chkR_is (l : List Nod) : chkR l = chkN l := by
  unfold chkR chkN
  cases decide (60 < l.length) with
  | true => rfl
  | false =>
    simp only [cond_false]
    have h := sz_go l 0 [] [] rfl rfl
    simp only [List.map_nil, Nat.zero_add] at h
    rw [show ((0 : Nat) : Int) = 0 from rfl] at h
    rcases h with ⟨h1, h2⟩ | ⟨A, S, h1, h2, h3, h4⟩
    · rw [h1, h2]; rfl
    · rw [h1, h2]
      simp only
      have hlast : 0 < l.length → ∃ t, A[l.length - 1]? = some t := fun h => ⟨A[l.length - 1]'(by omega), List.getElem?_eq_getElem _⟩
      have key : szOk l (A.map Top.size) = decide (S.length = 1) := by
        unfold szOk
        cases S with
        | nil => have h3 : l.length = 0 := h3; rw [h3]; rfl
        | cons t S =>
          obtain ⟨g1, g2, g3, g4, g5, g6, g7, g8⟩ := h3
          rw [map_at g2, decide_eq_true (show 0 < l.length by omega), Bool.true_and]
          cases S with
          | nil =>
            have g8 : l.length - t.size.toNat = 0 := g8
            exact decide_eq_true (by omega)
          | cons u S =>
            have := g8.1
            rw [decide_eq_false (show ¬ t.size = (l.length : Int) by omega)]
            exact (decide_eq_false (by simp)).symm
      rw [key]
      cases hS : decide (S.length = 1) with
      | false => rfl
      | true =>
        simp only [cond_true]
        have hS := of_decide_eq_true hS
        match S, hS, h3 with
        | [t], _, h3 =>
          obtain ⟨g1, g2, _⟩ := h3
          have e1 : lastT A = t := by unfold lastT; rw [h4]; simp [List.getD, g2]
          rw [map_at g2, e1]
end Go.Am
namespace Go.Am
open Go.Lib
def isDig (c : UInt8) : Bool := decide (48 ≤ c.toNat) && decide (c.toNat ≤ 57)
def digs : List UInt8 := [48, 49, 50, 51, 52, 53, 54, 55, 56, 57]
theorem digs_fin : ∀ n : Fin 256, digs.contains (UInt8.ofNat n.val) = isDig (UInt8.ofNat n.val) := by decide +kernel
theorem digs_is (c : UInt8) : digs.contains c = isDig c := by
  have := digs_fin ⟨c.toNat, c.toNat_lt⟩
  simpa using this
theorem dropWhile_nil {α : Type} {p : α → Bool} : ∀ {l : List α}, l.dropWhile p = [] ↔ l.all p = true
  | [] => by simp
  | a :: l => by
    cases h : p a with
    | true => simp [List.dropWhile, h, dropWhile_nil (l := l)]
    | false => simp [List.dropWhile, h]
theorem dropWhile_head {α : Type} {p : α → Bool} : ∀ {l : List α} {a : α} {r : List α}, l.dropWhile p = a :: r → p a = false
  | [], _, _, h => by simp at h
  | b :: l, a, r, h => by
    cases hb : p b with
    | true => simp [List.dropWhile, hb] at h; exact dropWhile_head h
    | false => simp [List.dropWhile, hb] at h; rw [← h.1]; exact hb
theorem trim_digs (s : List UInt8) : trimS s digs = [] ↔ s.all isDig = true := by
  have hp : (fun c => digs.contains c) = isDig := funext digs_is
  unfold trimS trimLeftS trimRightS
  rw [hp, dropWhile_nil]
  cases h : s.reverse.dropWhile isDig with
  | nil => rw [dropWhile_nil, List.all_reverse] at h; simp [h]
  | cons a r =>
    have ha := dropWhile_head h
    have hn : ¬ s.all isDig = true := by
      rw [← List.all_reverse, ← dropWhile_nil, h]; simp
    constructor
    · intro h2
      rw [List.all_reverse] at h2
      simp only [List.all_cons, Bool.and_eq_true] at h2
      rw [ha] at h2; simp at h2
    · intro h2; exact (hn h2).elim
def dg (c : UInt8) : Int := (c.toNat : Int) - 48
def val (acc : Int) : List UInt8 → Int
  | [] => acc
  | c :: r => val (10 * acc + dg c) r
def most : Int := 9223372036854775807
def rdF (acc : Int) : List UInt8 → Option Int
  | [] => some acc
  | c :: r => bif decide ((most - dg c).tdiv 10 < acc) then none else rdF (10 * acc + dg c) r
theorem dg_rng {c : UInt8} (h : isDig c = true) : 0 ≤ dg c ∧ dg c ≤ 9 := by
  simp only [isDig, Bool.and_eq_true, decide_eq_true_eq] at h
  unfold dg; omega
theorem val_ge {l : List UInt8} (hl : l.all isDig = true) {acc : Int} (h : 0 ≤ acc) : acc ≤ val acc l := by
  induction l generalizing acc with
  | nil => exact Int.le_refl _
  | cons c r ih =>
    simp only [List.all_cons, Bool.and_eq_true] at hl
    have hd := dg_rng hl.1
    unfold val
    have := ih hl.2 (acc := 10 * acc + dg c) (by omega)
    omega
theorem rdF_val {l : List UInt8} (hl : l.all isDig = true) {acc : Int} (h : 0 ≤ acc) : rdF acc l = if val acc l ≤ most then (some (val acc l)) else (if acc ≤ most then none else rdF acc l) := by
  induction l generalizing acc with
  | nil =>
    unfold rdF val
    split
    · rfl
    · first | rfl | (split <;> first | rfl | (exfalso; omega))
  | cons c r ih =>
    simp only [List.all_cons, Bool.and_eq_true] at hl
    have hd := dg_rng hl.1
    have hv := val_ge hl.2 (acc := 10 * acc + dg c) (by omega)
    have hmost : most = 9223372036854775807 := rfl
    unfold rdF val
    have hq : (most - dg c).tdiv 10 = (most - dg c) / 10 := Int.tdiv_eq_ediv_of_nonneg (by omega)
    rw [hq]
    by_cases hc : (most - dg c) / 10 < acc
    · rw [decide_eq_true hc, cond_true, if_neg (by omega)]
      split <;> first | rfl | (unfold rdF; rw [hq, decide_eq_true hc]; rfl)
    · have hle : 10 * acc + dg c ≤ most := by omega
      rw [decide_eq_false hc, cond_false, ih hl.2 (by omega), if_pos hle]
      split
      · rfl
      · rw [if_pos (show acc ≤ most from by omega)]
theorem rdF_0 {l : List UInt8} (hl : l.all isDig = true) : rdF 0 l = if val 0 l ≤ most then some (val 0 l) else none := by
  rw [rdF_val hl (Int.le_refl 0)]
  have : (0 : Int) ≤ most := by decide
  rw [if_pos this]
theorem dig_nat {c : UInt8} (h : isDig c = true) : 48 ≤ c.toNat ∧ c.toNat ≤ 57 := by
  simpa [isDig] using h
theorem parseM_val {l : List UInt8} (hl : l.all isDig = true) {acc : Nat} : parseUintM 18446744073709551615 acc l = if val acc l ≤ 18446744073709551615 then .ok (val acc l).toNat else (if acc ≤ 18446744073709551615 then .range else parseUintM 18446744073709551615 acc l) := by
  induction l generalizing acc with
  | nil =>
    unfold parseUintM val
    split
    · simp
    · split <;> first | rfl | (exfalso; omega)
  | cons c r ih =>
    simp only [List.all_cons, Bool.and_eq_true] at hl
    have hd := dg_rng hl.1
    have hn := dig_nat hl.1
    have hv := val_ge hl.2 (acc := 10 * (acc : Int) + dg c) (by omega)
    have e : 10 * (acc : Int) + dg c = ((acc * 10 + (c.toNat - 48) : Nat) : Int) := by unfold dg; omega
    unfold parseUintM val
    rw [if_pos hn]
    by_cases h1 : 1844674407370955162 ≤ acc
    · rw [if_pos h1, if_neg (by omega)]
      split <;> first | rfl | (unfold parseUintM; rw [if_pos hn, if_pos h1])
    · rw [if_neg h1]
      by_cases h2 : 18446744073709551615 < acc * 10 + (c.toNat - 48)
      · rw [if_pos h2, if_neg (by omega), if_pos (by omega)]
      · rw [if_neg h2, ih hl.2, ← e]
        split
        · rfl
        · rw [if_pos (by omega), if_pos (by omega)]
def rdN (s : List UInt8) : Int := bif decide (s = []) || !s.all isDig then 0 else match rdF 0 s with | some n => n | none => 0
def rdE (s : List UInt8) : Int := bif decide (s = []) || !s.all isDig then 12 else match rdF 0 s with | some _ => 0 | none => 16
theorem parse_digs {s : List UInt8} (hs : s ≠ []) (hd : s.all isDig = true) : parseIntB 64 s = match rdF 0 s with | some n => .ok n | none => .range := by
  rw [rdF_0 hd]
  cases s with
  | nil => exact (hs rfl).elim
  | cons c r =>
    have hd' := hd
    simp only [List.all_cons, Bool.and_eq_true] at hd'
    have hn := dig_nat hd'.1
    have hmost : most = 9223372036854775807 := rfl
    have h0 : (0 : Int) ≤ val 0 (c :: r) := val_ge hd (Int.le_refl 0)
    unfold parseIntB
    simp only
    rw [if_neg (show ¬ (c.toNat = 43 ∨ c.toNat = 45) from by omega)]
    have hp := parseM_val (l := c :: r) hd (acc := 0)
    have hcast : ((0 : Nat) : Int) = 0 := rfl
    rw [hcast] at hp
    rw [show parseUintB 64 (c :: r) = parseUintM 18446744073709551615 0 (c :: r) from by simp [parseUintB], hp]
    have hneg : ¬ c.toNat = 45 := by omega
    by_cases h1 : val 0 (c :: r) ≤ most
    · rw [if_pos h1, if_pos (by omega)]
      simp only [hneg]
      rw [if_neg (by omega), if_neg (by simp)]
      simp
      omega
    · rw [if_neg h1]
      by_cases h2 : val 0 (c :: r) ≤ 18446744073709551615
      · rw [if_pos h2]
        simp only [hneg]
        rw [if_pos (by constructor; simp; omega)]
      · rw [if_neg h2, if_pos (by omega)]
end Go.Am
namespace Go.Am
def wordList : List (List UInt8) := [[115, 101, 108, 101, 99, 116], [102, 114, 111, 109], [119, 104, 101, 114, 101], [119, 105, 110, 100, 111, 119], [98, 121], [107, 101, 121], [108, 97, 116, 101], [100, 114, 111, 112], [115, 105, 100, 101], [99, 111, 117, 110, 116], [115, 117, 109], [109, 105, 110], [109, 97, 120], [97, 110, 100], [111, 114], [110, 111, 116], [117, 110, 105, 111, 110], [106, 111, 105, 110], [116, 117, 109, 98, 108, 101], [115, 108, 105, 100, 101], [101, 118, 101, 114, 121], [115, 101, 115, 115, 105, 111, 110], [97], [98], [99], [100], [107], [116], [118]]
def isWord (s : List UInt8) : Bool := wordList.contains s
def sWord : FSpec
  | [.str s], [] => .leaf ⟨[.bool (isWord s)], []⟩
  | _, _ => .bad
def inB (c : Int) (t f : Option Out) : List UInt8 → Option Out
  | [] => f
  | x :: r => bif decide ((x.toNat : Int) = c) then t else inB c t f r
def u8o (n : Int) : Option Out := some ⟨[.int .u8 n], []⟩
def tw (b : Bool) : Option Out := bif b then u8o 4 else u8o 0
def btw (c lo hi : Int) (t f : Option Out) : Option Out := bif decide (lo ≤ c) then (bif decide (c ≤ hi) then t else f) else f
theorem inB_false {c : Int} {t f : Option Out} : ∀ {l : List UInt8}, (∀ x ∈ l, (x.toNat : Int) ≠ c) → inB c t f l = f
  | [], _ => rfl
  | x :: r, h => by
    unfold inB
    rw [decide_eq_false (h x (List.mem_cons_self ..)), cond_false]
    exact inB_false fun y hy => h y (List.mem_cons_of_mem _ hy)
def kindN (c : Int) : Int :=
  bif decide (c = 32) || decide (c = 10) then 1 else bif decide (48 ≤ c) && decide (c ≤ 57) then 2 else bif decide (97 ≤ c) && decide (c ≤ 122) then 3
  else bif (decide (40 ≤ c) && decide (c ≤ 43)) || (decide (60 ≤ c) && decide (c ≤ 62)) || decide (c = 45) || decide (c = 33) then 4 else 0
theorem kind_in (c : Int) : inB c (u8o 1) (inB c (u8o 2) (inB c (u8o 3) (inB c (u8o 4) (u8o 0) [40, 41, 42, 43, 45, 60, 61, 62, 33]) [97, 98, 99, 100, 101, 102, 103, 104, 105, 106, 107, 108, 109, 110, 111, 112, 113, 114, 115, 116, 117, 118, 119, 120, 121, 122]) [48, 49, 50, 51, 52, 53, 54, 55, 56, 57]) [32, 10] = u8o (kindN c) := by
  rcases Int.lt_or_le c 0 with h0 | h0
  · have hno : ∀ l : List UInt8, ∀ x ∈ l, (x.toNat : Int) ≠ c := fun l x _ => by omega
    rw [inB_false (hno _), inB_false (hno _), inB_false (hno _), inB_false (hno _)]
    have : kindN c = 0 := by
      unfold kindN
      simp only [show ¬ c = 32 from by omega, show ¬ c = 10 from by omega, show ¬ 48 ≤ c from by omega, show ¬ 97 ≤ c from by omega, show ¬ 40 ≤ c from by omega, show ¬ 60 ≤ c from by omega, show ¬ c = 45 from by omega, show ¬ c = 33 from by omega]
      rfl
    rw [this]
  · rcases Int.lt_or_le 127 c with h1 | h1
    · have hno : ∀ l : List UInt8, l.all (fun x => decide (x.toNat ≤ 127)) = true → ∀ x ∈ l, (x.toNat : Int) ≠ c := fun l hl x hx => by
        have := of_decide_eq_true (List.all_eq_true.1 hl x hx); omega
      rw [inB_false (hno _ (by decide)), inB_false (hno _ (by decide)), inB_false (hno _ (by decide)), inB_false (hno _ (by decide))]
      have : kindN c = 0 := by
        unfold kindN
        simp only [show ¬ c = 32 from by omega, show ¬ c = 10 from by omega, show ¬ c ≤ 57 from by omega, show ¬ c ≤ 122 from by omega, show ¬ c ≤ 43 from by omega, show ¬ c ≤ 62 from by omega, show ¬ c = 45 from by omega, show ¬ c = 33 from by omega]
        simp
      rw [this]
    · have key : ∀ n : Fin 128, (inB (n.val : Int) (u8o 1) (inB (n.val : Int) (u8o 2) (inB (n.val : Int) (u8o 3) (inB (n.val : Int) (u8o 4) (u8o 0) [40, 41, 42, 43, 45, 60, 61, 62, 33]) [97, 98, 99, 100, 101, 102, 103, 104, 105, 106, 107, 108, 109, 110, 111, 112, 113, 114, 115, 116, 117, 118, 119, 120, 121, 122]) [48, 49, 50, 51, 52, 53, 54, 55, 56, 57]) [32, 10]) = u8o (kindN (n.val : Int)) := by
        have h : (List.range 128).map (fun n : Nat => (inB (n : Int) (u8o 1) (inB (n : Int) (u8o 2) (inB (n : Int) (u8o 3) (inB (n : Int) (u8o 4) (u8o 0) [40, 41, 42, 43, 45, 60, 61, 62, 33]) [97, 98, 99, 100, 101, 102, 103, 104, 105, 106, 107, 108, 109, 110, 111, 112, 113, 114, 115, 116, 117, 118, 119, 120, 121, 122]) [48, 49, 50, 51, 52, 53, 54, 55, 56, 57]) [32, 10])) = (List.range 128).map (fun n : Nat => u8o (kindN (n : Int))) := by kernel_rfl
        intro n
        have := congrArg (fun l => l[n.val]?) h
        simp only [List.getElem?_map, List.getElem?_range n.isLt, Option.map_some] at this
        exact Option.some.inj this
      have := key ⟨c.toNat, by omega⟩
      simp only [show ((c.toNat : Nat) : Int) = c from by omega] at this
      exact this
def c0 (s : List UInt8) : Int := ((s.getD (0 : Int).toNat 0).toNat : Int)
def c1 (s : List UInt8) : Int := ((s.getD (1 : Int).toNat 0).toNat : Int)
def symTail (s : List UInt8) : Option Out := bif decide (0 ≤ (0 : Int) ∧ (0 : Int) < (s.length : Int)) then (bif decide (c0 s = 33) then rp 0 0 else rp 1 0) else none
def symStep (s : List UInt8) (x : Int) (beh : List UInt8) (next : Option Out) : Option Out :=
  bif decide (0 ≤ (0 : Int) ∧ (0 : Int) < (s.length : Int)) then (bif decide (c0 s = x) then (bif decide (0 ≤ (1 : Int) ∧ (1 : Int) < (s.length : Int)) then
    (bif decide (0 ≤ Lib.indexByte beh ((c1 s).toNat.toUInt8)) then rp 2 0 else next) else none) else next) else none
def symT (s : List UInt8) : Option Out :=
  bif decide (s = []) then rp 0 0 else bif decide (0 ≤ (0 : Int) ∧ (0 : Int) < (s.length : Int)) then (bif !decide (kindN (c0 s) = 4) then rp 0 0 else
    bif decide ((1 : Int) < (s.length : Int)) then symStep s 60 [61, 60] (symStep s 62 [61, 62] (symStep s 33 [61] (symTail s))) else symTail s) else none
def symbols : List (List UInt8) := [[60, 61], [60, 60], [62, 61], [62, 62], [33, 61], [40], [41], [42], [43], [45], [60], [62], [61]]
def longT (s : List UInt8) (a : Int) : List (List UInt8) → Option Out
  | [] => rp 0 0
  | l :: r => bif decide ((l.length : Int) ≤ IntKind.i64.wrap ((s.length : Int) - a)) then
      (bif decide (0 ≤ a ∧ a ≤ IntKind.i64.wrap (a + l.length) ∧ IntKind.i64.wrap (a + l.length) ≤ (s.length : Int)) then
        (bif decide ((s.take (IntKind.i64.wrap (a + l.length)).toNat).drop a.toNat = l) then rp l.length 0 else longT s a r) else none) else longT s a r
def wordT (s : List UInt8) : List (List UInt8) → Option Out
  | [] => rb false
  | l :: r => bif decide (l = s) then rb true else wordT s r
def words' : List (List UInt8) := [[115, 101, 108, 101, 99, 116], [99, 111, 117, 110, 116], [115, 117, 109], [109, 105, 110], [109, 97, 120], [102, 114, 111, 109], [117, 110, 105, 111, 110], [106, 111, 105, 110], [119, 104, 101, 114, 101], [119, 105, 110, 100, 111, 119], [116, 117, 109, 98, 108, 101], [115, 108, 105, 100, 101], [101, 118, 101, 114, 121], [115, 101, 115, 115, 105, 111, 110], [98, 121], [107, 101, 121], [108, 97, 116, 101], [100, 114, 111, 112], [115, 105, 100, 101], [97, 110, 100], [111, 114], [110, 111, 116], [97], [98], [99], [100], [107], [116], [118]]
def pairB (s : List UInt8) : Bool :=
  decide ((1 : Int) < (s.length : Int)) && ((decide (c0 s = 60) && decide (0 ≤ Lib.indexByte [61, 60] ((c1 s).toNat.toUInt8))) || (decide (c0 s = 62) && decide (0 ≤ Lib.indexByte [61, 62] ((c1 s).toNat.toUInt8))) || (decide (c0 s = 33) && decide (0 ≤ Lib.indexByte [61] ((c1 s).toNat.toUInt8))))
def sym0 (s : List UInt8) : Int :=
  bif decide (s = []) then 0 else bif !decide (kindN (c0 s) = 4) then 0 else bif pairB s then 2 else bif decide (c0 s = 33) then 0 else 1
theorem symT_is (s : List UInt8) : symT s = rp (sym0 s) 0 := by
  unfold symT sym0
  by_cases h : s = []
  · rw [decide_eq_true h]; rfl
  · have hl : 0 < s.length := List.length_pos_iff.2 h
    have r0 : decide (0 ≤ (0 : Int) ∧ (0 : Int) < (s.length : Int)) = true := decide_eq_true ⟨Int.le_refl _, by omega⟩
    rw [decide_eq_false h, cond_false, cond_false, r0, cond_true]
    unfold pairB symStep symTail
    rw [r0]
    by_cases h1 : (1 : Int) < (s.length : Int)
    · have r1 : decide (0 ≤ (1 : Int) ∧ (1 : Int) < (s.length : Int)) = true := decide_eq_true ⟨by omega, h1⟩
      rw [r1, decide_eq_true h1]
      by_cases h60 : c0 s = 60
      · rw [decide_eq_true h60, decide_eq_false (show ¬ c0 s = 62 from by omega), decide_eq_false (show ¬ c0 s = 33 from by omega)]
        cases decide (kindN (c0 s) = 4) <;> cases decide (0 ≤ Lib.indexByte [61, 60] ((c1 s).toNat.toUInt8)) <;> rfl
      · rw [decide_eq_false h60]
        by_cases h62 : c0 s = 62
        · rw [decide_eq_true h62, decide_eq_false (show ¬ c0 s = 33 from by omega)]
          cases decide (kindN (c0 s) = 4) <;> cases decide (0 ≤ Lib.indexByte [61, 62] ((c1 s).toNat.toUInt8)) <;> rfl
        · rw [decide_eq_false h62]
          cases decide (kindN (c0 s) = 4) <;> cases decide (c0 s = 33) <;> cases decide (0 ≤ Lib.indexByte [61] ((c1 s).toNat.toUInt8)) <;> rfl
    · rw [decide_eq_false h1]
      cases decide (kindN (c0 s) = 4) <;> cases decide (c0 s = 33) <;> rfl
def outA (s : List UInt8) (a : Int) : Bool := decide (a < 0) || decide ((s.length : Int) < a)
def symN (s : List UInt8) (a : Int) : Int := bif outA s a then 0 else sym0 (s.drop a.toNat)
def symE (s : List UInt8) (a : Int) : Int := bif outA s a then 2 else 0
def sSym : FSpec
  | [.str s, .int .i64 a], [] => .leaf ⟨[i64 (symN s a), i64 (symE s a)], []⟩
  | _, _ => .bad
end Go.Am
namespace Go.Am
def ch (s : List UInt8) (a : Int) : Int := ((s.getD a.toNat 0).toNat : Int)
def rI (s : List UInt8) (a : Int) : Bool := decide (0 ≤ a ∧ a < (s.length : Int))
def sL (s : List UInt8) (a u : Int) : Bool := decide (0 ≤ a ∧ a ≤ u ∧ u ≤ (s.length : Int))
def cut (s : List UInt8) (a u : Int) : List UInt8 := (s.take u.toNat).drop a.toNat
theorem wr_in {n : Int} (h0 : -1000 ≤ n) (h1 : n ≤ 1000) : wr n = n := by unfold wr; rw [IntKind.wrap_i64]; omega
theorem sym_two (c d : UInt8) (x : List UInt8) : sym0 (c :: d :: x) = sym0 [c, d] := by
  unfold sym0 pairB
  have h1 : decide ((1 : Int) < ((c :: d :: x).length : Int)) = true := decide_eq_true (by simp; omega)
  have h2 : decide ((1 : Int) < (([c, d] : List UInt8).length : Int)) = true := decide_eq_true (by simp)
  have h3 : decide ((c :: d :: x : List UInt8) = []) = false := decide_eq_false (by simp)
  have h4 : decide (([c, d] : List UInt8) = []) = false := decide_eq_false (by simp)
  rw [h1, h2, h3, h4]; rfl
theorem pair_one (c : UInt8) : pairB [c] = false := by unfold pairB; rfl
theorem sym_one (c : UInt8) : sym0 [c] = bif !decide (kindN (c.toNat : Int) = 4) then 0 else bif decide ((c.toNat : Int) = 33) then 0 else 1 := by
  unfold sym0
  rw [pair_one]; rfl
theorem sym_rng (s : List UInt8) : sym0 s = 0 ∨ sym0 s = 1 ∨ sym0 s = 2 := by
  unfold sym0
  cases decide (s = []) <;> cases decide (kindN (c0 s) = 4) <;> cases pairB s <;> cases decide (c0 s = 33) <;> simp
theorem cut_is (s : List UInt8) {a u : Int} (h0 : 0 ≤ a) (h1 : a ≤ u) : cut s a u = (s.drop a.toNat).take (u - a).toNat := by
  unfold cut
  rw [List.drop_take]
  congr 1; omega
theorem ch_is (s : List UInt8) {a : Int} (k : Nat) (h0 : 0 ≤ a) : ch s (a + k) = (((s.drop a.toNat).getD k 0).toNat : Int) := by
  unfold ch
  rw [show (a + (k : Int)).toNat = a.toNat + k from by omega]
  simp [List.getD, List.getElem?_drop]
theorem drop_len (s : List UInt8) {a : Int} (h0 : 0 ≤ a) (h1 : a ≤ (s.length : Int)) : ((s.drop a.toNat).length : Int) = (s.length : Int) - a := by
  rw [List.length_drop]; omega
def at0 {α : Type} (i : Int) (L : List (List UInt8)) (r : Option α) : Option α :=
  bif decide (0 ≤ i ∧ i < (L.length : Int)) then (bif decide (i.toNat < L.length) then r else none) else none
def longF (s : List UInt8) (a : Int) : List (List UInt8) → Option Nat
  | [] => none
  | l :: r => bif decide ((l.length : Int) ≤ (s.length : Int) - a) && decide (cut s a (a + (l.length : Int)) = l) then some l.length else longF s a r
def shortL (L : List (List UInt8)) : Bool := L.all fun l => decide (l.length ≤ 10)
def okL (s : List UInt8) (a i : Int) (L : List (List UInt8)) : Bool := decide (0 ≤ i ∧ i ≤ (L.length : Int) ∧ (L.length : Int) ≤ 900 ∧ 0 ≤ a ∧ a ≤ (s.length : Int) ∧ (s.length : Int) ≤ 900) && shortL L
theorem at0_in {α : Type} {i : Int} {L : List (List UInt8)} (r : Option α) (h0 : 0 ≤ i) (h1 : i < (L.length : Int)) : at0 i L r = r := by
  unfold at0
  rw [decide_eq_true (show 0 ≤ i ∧ i < (L.length : Int) from ⟨h0, h1⟩), decide_eq_true (show i.toNat < L.length from by omega)]; rfl
theorem getD_drop {L : List (List UInt8)} {i : Nat} {l : List UInt8} {r : List (List UInt8)} (h : L.drop i = l :: r) : L.getD i [] = l ∧ i < L.length ∧ L.drop (i + 1) = r := by
  have hlt : i < L.length := by
    rcases Nat.lt_or_ge i L.length with h1 | h1
    · exact h1
    · rw [List.drop_eq_nil_of_le h1] at h; cases h
  rw [List.drop_eq_getElem_cons hlt] at h
  cases h
  exact ⟨by simp [List.getD, hlt], hlt, rfl⟩
end Go.Am
namespace Go.Am
def preF (r : List UInt8) : List (List UInt8) → Option Nat
  | [] => none
  | l :: ls => bif r.take l.length == l then some l.length else preF r ls
theorem longF_pre {s : List UInt8} {a : Int} (h0 : 0 ≤ a) (h1 : a ≤ (s.length : Int)) : ∀ ls, longF s a ls = preF (s.drop a.toNat) ls
  | [] => rfl
  | l :: ls => by
    have hd := drop_len s h0 h1
    unfold longF preF
    rw [longF_pre h0 h1 ls, cut_is s h0 (show a ≤ a + (l.length : Int) from by omega), show (a + (l.length : Int) - a).toNat = l.length from by omega]
    by_cases hA : (l.length : Int) ≤ (s.length : Int) - a
    · rw [decide_eq_true hA, Bool.true_and]
      have e : decide ((s.drop a.toNat).take l.length = l) = ((s.drop a.toNat).take l.length == l) := by rw [Bool.eq_iff_iff]; simp
      rw [e]
    · have : ¬ (s.drop a.toNat).take l.length = l := fun h => by
        have h2 := congrArg List.length h
        rw [List.length_take] at h2
        omega
      rw [decide_eq_false hA, Bool.false_and, beq_eq_false_iff_ne.2 this]
def isTwo (c d : UInt8) : Bool := (c == 60 && (d == 61 || d == 60)) || (c == 62 && (d == 61 || d == 62)) || (c == 33 && d == 61)
def isOne (c : UInt8) : Bool := decide (kindN (c.toNat : Int) = 4) && !(c == 33)
theorem by256 {p : UInt8 → Bool} (h : (List.range 256).all (fun n => p (UInt8.ofNat n)) = true) (c : UInt8) : p c = true := by
  have := List.all_eq_true.1 h c.toNat (List.mem_range.2 c.toNat_lt)
  simpa using this
theorem one_is (c : UInt8) : preF [c] symbols = bif isOne c then some 1 else none := by
  have := by256 (p := fun c => decide (preF [c] symbols = bif isOne c then some 1 else none)) (by decide +kernel) c
  exact of_decide_eq_true this
theorem pre_one (c d : UInt8) (t : List UInt8) : preF (c :: d :: t) [[40], [41], [42], [43], [45], [60], [62], [61]] = preF [c] symbols := by
  unfold symbols
  simp only [preF, List.length_cons, List.length_nil, List.take_succ_cons, List.take_zero, List.take_nil]
  have e : ∀ x y : UInt8, (([c] : List UInt8) == [x, y]) = false := fun x y => beq_eq_false_iff_ne.2 (by simp)
  simp only [e, cond_false]
theorem two_is (c d : UInt8) (t : List UInt8) : preF (c :: d :: t) symbols = bif isTwo c d then some 2 else preF [c] symbols := by
  rw [← pre_one c d t]
  have e : ∀ x y : UInt8, (([c, d] : List UInt8) == [x, y]) = (c == x && d == y) := fun x y => by
    rw [Bool.eq_iff_iff]; simp
  show preF (c :: d :: t) ([60, 61] :: [60, 60] :: [62, 61] :: [62, 62] :: [33, 61] :: [[40], [41], [42], [43], [45], [60], [62], [61]]) = _
  generalize [[40], [41], [42], [43], [45], [60], [62], ([61] : List UInt8)] = ls
  simp only [preF, List.length_cons, List.length_nil, List.take_succ_cons, List.take_zero, e]
  unfold isTwo
  cases c == 60 <;> cases c == 62 <;> cases c == 33 <;> cases d == 61 <;> cases d == 60 <;> cases d == 62 <;> rfl
theorem idx_a (d : UInt8) : decide (0 ≤ Lib.indexByte [61, 60] d) = (d == 61 || d == 60) := by
  have := by256 (p := fun d => decide (0 ≤ Lib.indexByte [61, 60] d) == (d == 61 || d == 60)) (by decide +kernel) d
  simpa using this
theorem idx_b (d : UInt8) : decide (0 ≤ Lib.indexByte [61, 62] d) = (d == 61 || d == 62) := by
  have := by256 (p := fun d => decide (0 ≤ Lib.indexByte [61, 62] d) == (d == 61 || d == 62)) (by decide +kernel) d
  simpa using this
theorem idx_c (d : UInt8) : decide (0 ≤ Lib.indexByte [61] d) = (d == 61) := by
  have := by256 (p := fun d => decide (0 ≤ Lib.indexByte [61] d) == (d == 61)) (by decide +kernel) d
  simpa using this
theorem eq_nat (c : UInt8) (n : Nat) (hn : n < 256) : decide ((c.toNat : Int) = (n : Int)) = (c == UInt8.ofNat n) := by
  rw [Bool.eq_iff_iff]
  simp only [decide_eq_true_eq, beq_iff_eq]
  constructor
  · intro h
    have : c.toNat = n := by omega
    rw [← this]; simp
  · intro h
    subst h
    simp
    omega
theorem pair_two (c d : UInt8) : pairB [c, d] = isTwo c d := by
  have e1 : (c1 [c, d]).toNat.toUInt8 = d := by
    show ((d.toNat : Int)).toNat.toUInt8 = d
    simp
  have e2 : c0 [c, d] = (c.toNat : Int) := rfl
  have h2 : decide ((1 : Int) < (([c, d] : List UInt8).length : Int)) = true := decide_eq_true (by simp)
  unfold pairB isTwo
  rw [e1, e2, h2, idx_a, idx_b, idx_c, show decide ((c.toNat : Int) = 60) = (c == 60) from eq_nat c 60 (by decide), show decide ((c.toNat : Int) = 62) = (c == 62) from eq_nat c 62 (by decide), show decide ((c.toNat : Int) = 33) = (c == 33) from eq_nat c 33 (by decide)]
  rfl
theorem two_kind {c d : UInt8} (h : isTwo c d = true) : kindN (c.toNat : Int) = 4 := by
  unfold isTwo at h
  simp only [Bool.or_eq_true, Bool.and_eq_true, beq_iff_eq] at h
  rcases h with (⟨rfl, _⟩ | ⟨rfl, _⟩) | ⟨rfl, _⟩ <;> decide
theorem sym_pre : ∀ r : List UInt8, (((preF r symbols).getD 0 : Nat) : Int) = sym0 r
  | [] => by decide
  | [c] => by
    rw [one_is, sym_one, show decide ((c.toNat : Int) = 33) = (c == 33) from eq_nat c 33 (by decide)]
    unfold isOne
    cases decide (kindN (c.toNat : Int) = 4) <;> cases c == 33 <;> rfl
  | c :: d :: t => by
    rw [two_is, one_is, sym_two]
    unfold sym0 isOne
    rw [pair_two, show decide (([c, d] : List UInt8) = []) = false from decide_eq_false (by simp), show c0 [c, d] = (c.toNat : Int) from rfl, show decide ((c.toNat : Int) = 33) = (c == 33) from eq_nat c 33 (by decide)]
    cases h : isTwo c d with
    | true => rw [two_kind h]; rfl
    | false => cases decide (kindN (c.toNat : Int) = 4) <;> cases c == 33 <;> rfl
def longN (s : List UInt8) (a : Int) : Int := (((longF s a symbols).getD 0 : Nat) : Int)
theorem long_sym {s : List UInt8} {a : Int} (h0 : 0 ≤ a) (h1 : a ≤ (s.length : Int)) : longN s a = sym0 (s.drop a.toNat) := by
  unfold longN
  rw [longF_pre h0 h1, sym_pre]
theorem wordT_is (s : List UInt8) : ∀ l, wordT s l = rb (l.contains s)
  | [] => rfl
  | x :: r => by
    unfold wordT
    rw [wordT_is s r, List.contains_cons]
    have e : decide (x = s) = (s == x) := by
      rw [Bool.eq_iff_iff, decide_eq_true_iff, beq_iff_eq]; exact ⟨Eq.symm, Eq.symm⟩
    rw [e]
    cases s == x <;> rfl
theorem words_same (s : List UInt8) : words'.contains s = isWord s := by
  unfold isWord
  rw [Bool.eq_iff_iff, List.contains_iff_mem, List.contains_iff_mem]
  have h1 : words'.all (fun w => wordList.contains w) = true := by decide +kernel
  have h2 : wordList.all (fun w => words'.contains w) = true := by decide +kernel
  constructor
  · intro h; exact List.contains_iff_mem.1 (List.all_eq_true.1 h1 s h)
  · intro h; exact List.contains_iff_mem.1 (List.all_eq_true.1 h2 s h)
end Go.Am
namespace Go.Am
open Go.Lib
def kd (c : UInt8) : Int := kindN (c.toNat : Int)
def runK (k : Int) : List UInt8 → Nat
  | [] => 0
  | c :: r => bif decide (kd c = k) then runK k r + 1 else 0
theorem runK_cons (k : Int) (c : UInt8) (r : List UInt8) : runK k (c :: r) = bif decide (kd c = k) then runK k r + 1 else 0 := rfl
def tkK (r : List UInt8) : Int := bif decide (kindN (c0 r) = 2) then 1 else bif decide (kindN (c0 r) = 3) then 2 else 3
def tkN (r : List UInt8) : Nat := bif decide (kindN (c0 r) = 2) then runK 2 r else bif decide (kindN (c0 r) = 3) then runK 3 r else (sym0 r).toNat
def tkT (r : List UInt8) : List UInt8 := r.take (tkN r)
def tokE (k : Int) (t : List UInt8) : Int :=
  bif decide (k = 1) then rdE t else bif decide (k = 2) then (bif isWord t then 0 else 32) else bif decide (k = 3) then (bif decide (0 < sym0 t) && decide (sym0 t = (t.length : Int)) then 0 else 32) else 32
def tkF (r : List UInt8) : Int := tokE (tkK r) (tkT r)
structure LexO where
  l : List Tok
  n : Int
  e : Int
  deriving Inhabited
def LexO.cons (t : Tok) (o : LexO) : LexO := ⟨t :: o.l, o.n, o.e⟩
def lexR : Nat → List UInt8 → Int → Nat → LexO
  | 0, _, a, _ => ⟨[], a, 4⟩
  | _ + 1, [], a, _ => ⟨[], a, 0⟩
  | n + 1, c :: r, a, k =>
    bif decide (kd c = 1) then lexR n r (a + 1) k
    else bif decide (k = 200) then ⟨[], a, 4⟩
    else bif decide (tkF (c :: r) = 0) then (lexR n ((c :: r).drop (tkN (c :: r))) (a + (tkN (c :: r) : Int)) (k + 1)).cons ⟨tkK (c :: r), tkT (c :: r), a⟩
    else ⟨[], a, tkF (c :: r)⟩
def lexA (s : List UInt8) : LexO := bif decide ((400 : Int) < (s.length : Int)) then ⟨[], 0, 4⟩ else lexR (s.length + 1) s 0 0
def lexE (s : List UInt8) : Int := (lexA s).e
def lexN (s : List UInt8) : Int := (lexA s).n
def lexL (s : List UInt8) : List Tok := bif decide (lexE s = 0) then (lexA s).l else []
theorem runK_le (k : Int) : ∀ r : List UInt8, runK k r ≤ r.length
  | [] => Nat.le_refl _
  | c :: r => by
    have := runK_le k r
    unfold runK
    cases decide (kd c = k) <;> simp <;> omega
theorem sym_len (r : List UInt8) : (sym0 r).toNat ≤ r.length := by
  match r with
  | [] => decide
  | [c] =>
    rw [sym_one]
    cases decide (kindN (c.toNat : Int) = 4) <;> cases decide ((c.toNat : Int) = 33) <;> simp
  | c :: d :: x =>
    rcases sym_rng (c :: d :: x) with h | h | h <;> rw [h] <;> simp
theorem tkN_le (r : List UInt8) : tkN r ≤ r.length := by
  unfold tkN
  cases decide (kindN (c0 r) = 2)
  · cases decide (kindN (c0 r) = 3)
    · exact sym_len r
    · exact runK_le 3 r
  · exact runK_le 2 r
theorem tkT_len (r : List UInt8) : (tkT r).length = tkN r := by
  unfold tkT
  rw [List.length_take]
  have := tkN_le r
  omega
theorem tokE_nil (k : Int) : tokE k [] ≠ 0 := by
  unfold tokE
  have h1 : rdE [] = 12 := rfl
  have h2 : isWord [] = false := by decide
  have h3 : sym0 [] = 0 := by decide
  rw [h1, h2, h3]
  cases decide (k = 1) <;> cases decide (k = 2) <;> cases decide (k = 3) <;> decide
theorem tkN_pos {r : List UInt8} (h : tkF r = 0) : 0 < tkN r := by
  rcases Nat.eq_zero_or_pos (tkN r) with h0 | h0
  · have : tkT r = [] := List.eq_nil_of_length_eq_zero (by rw [tkT_len, h0])
    unfold tkF at h
    rw [this] at h
    exact (tokE_nil _ h).elim
  · exact h0
theorem sym_not2 (c : UInt8) (q : List UInt8) (h : sym0 (c :: q) ≠ 2) : sym0 (c :: q) = sym0 [c] := by
  cases q with
  | nil => rfl
  | cons d x =>
    rw [sym_two] at h ⊢
    have hp : pairB [c, d] = false := by
      cases hp : pairB [c, d] with
      | false => rfl
      | true =>
        exfalso; apply h
        have hk := two_kind (c := c) (d := d) (by rw [← pair_two]; exact hp)
        unfold sym0
        rw [hp, show decide (([c, d] : List UInt8) = []) = false from decide_eq_false (by simp), show c0 [c, d] = (c.toNat : Int) from rfl, decide_eq_true hk]; rfl
    unfold sym0
    rw [hp, pair_one]
    rfl
end Go.Am
namespace Go.Am
theorem lexR_blank {n k : Nat} {c : UInt8} {r : List UInt8} {a : Int} (h : kd c = 1) : lexR (n + 1) (c :: r) a k = lexR n r (a + 1) k := by
  show (bif decide (kd c = 1) then _ else _) = _
  rw [decide_eq_true h]; rfl
theorem lexR_many {n k : Nat} {c : UInt8} {r : List UInt8} {a : Int} (h : kd c ≠ 1) (hk : k = 200) : lexR (n + 1) (c :: r) a k = ⟨[], a, 4⟩ := by
  show (bif decide (kd c = 1) then _ else bif decide (k = 200) then _ else _) = _
  rw [decide_eq_false h, decide_eq_true hk]; rfl
theorem lexR_tok {n k : Nat} {c : UInt8} {r : List UInt8} {a : Int} (h : kd c ≠ 1) (hk : k ≠ 200) (hf : tkF (c :: r) = 0) :
    lexR (n + 1) (c :: r) a k = (lexR n ((c :: r).drop (tkN (c :: r))) (a + (tkN (c :: r) : Int)) (k + 1)).cons ⟨tkK (c :: r), tkT (c :: r), a⟩ := by
  show (bif decide (kd c = 1) then _ else bif decide (k = 200) then _ else bif decide (tkF (c :: r) = 0) then _ else _) = _
  rw [decide_eq_false h, decide_eq_false hk, decide_eq_true hf]; rfl
theorem lexR_bad {n k : Nat} {c : UInt8} {r : List UInt8} {a : Int} (h : kd c ≠ 1) (hk : k ≠ 200) (hf : tkF (c :: r) ≠ 0) : lexR (n + 1) (c :: r) a k = ⟨[], a, tkF (c :: r)⟩ := by
  show (bif decide (kd c = 1) then _ else bif decide (k = 200) then _ else bif decide (tkF (c :: r) = 0) then _ else _) = _
  rw [decide_eq_false h, decide_eq_false hk, decide_eq_false hf]; rfl
theorem drop_lt {c : UInt8} {r : List UInt8} (hf : tkF (c :: r) = 0) : ((c :: r).drop (tkN (c :: r))).length ≤ r.length := by
  have := tkN_pos hf
  rw [List.length_drop, List.length_cons]; omega
theorem lexR_fuel : ∀ (n m : Nat) (r : List UInt8) (a : Int) (k : Nat), r.length < n → r.length < m → lexR n r a k = lexR m r a k
  | 0, _, _, _, _, h, _ => by omega
  | _, 0, _, _, _, _, h => by omega
  | n + 1, m + 1, [], _, _, _, _ => rfl
  | n + 1, m + 1, c :: r, a, k, h1, h2 => by
    simp only [List.length_cons] at h1 h2
    by_cases hb : kd c = 1
    · rw [lexR_blank hb, lexR_blank hb, lexR_fuel n m r _ _ (by omega) (by omega)]
    by_cases hk : k = 200
    · rw [lexR_many hb hk, lexR_many hb hk]
    by_cases hf : tkF (c :: r) = 0
    · have := drop_lt hf
      rw [lexR_tok hb hk hf, lexR_tok hb hk hf, lexR_fuel n m _ _ _ (by omega) (by omega)]
    · rw [lexR_bad hb hk hf, lexR_bad hb hk hf]
def lx (r : List UInt8) (a : Int) (k : Nat) : LexO := lexR (r.length + 1) r a k
theorem lx_nil (a : Int) (k : Nat) : lx [] a k = ⟨[], a, 0⟩ := rfl
theorem lx_blank {k : Nat} {c : UInt8} {r : List UInt8} {a : Int} (h : kd c = 1) : lx (c :: r) a k = lx r (a + 1) k := lexR_blank h
theorem lx_many {k : Nat} {c : UInt8} {r : List UInt8} {a : Int} (h : kd c ≠ 1) (hk : k = 200) : lx (c :: r) a k = ⟨[], a, 4⟩ := lexR_many h hk
theorem lx_bad {k : Nat} {c : UInt8} {r : List UInt8} {a : Int} (h : kd c ≠ 1) (hk : k ≠ 200) (hf : tkF (c :: r) ≠ 0) : lx (c :: r) a k = ⟨[], a, tkF (c :: r)⟩ := lexR_bad h hk hf
theorem lx_tok {k : Nat} {c : UInt8} {r : List UInt8} {a : Int} (h : kd c ≠ 1) (hk : k ≠ 200) (hf : tkF (c :: r) = 0) :
    lx (c :: r) a k = (lx ((c :: r).drop (tkN (c :: r))) (a + (tkN (c :: r) : Int)) (k + 1)).cons ⟨tkK (c :: r), tkT (c :: r), a⟩ := by
  have hd := drop_lt hf
  unfold lx
  rw [lexR_tok h hk hf, lexR_fuel _ (((c :: r).drop (tkN (c :: r))).length + 1) _ _ _ (by simp only [List.length_cons]; omega) (by omega)]
theorem lx_ind {P : List UInt8 → Int → Nat → Prop} (nil : ∀ a k, P [] a k) (blank : ∀ c r a k, kd c = 1 → P r (a + 1) k → P (c :: r) a k) (many : ∀ c r a, kd c ≠ 1 → P (c :: r) a 200)
    (bad : ∀ c r a k, kd c ≠ 1 → k ≠ 200 → tkF (c :: r) ≠ 0 → P (c :: r) a k)
    (tok : ∀ c r a k, kd c ≠ 1 → k ≠ 200 → tkF (c :: r) = 0 → P ((c :: r).drop (tkN (c :: r))) (a + (tkN (c :: r) : Int)) (k + 1) → P (c :: r) a k) : ∀ r a k, P r a k := by
  suffices h : ∀ (n : Nat) (r : List UInt8), r.length ≤ n → ∀ a k, P r a k from fun r => h r.length r (Nat.le_refl _)
  intro n
  induction n with
  | zero =>
    intro r hr a k
    have : r = [] := List.eq_nil_of_length_eq_zero (by omega)
    subst this; exact nil a k
  | succ n ih =>
    intro r hr a k
    cases r with
    | nil => exact nil a k
    | cons c r =>
      simp only [List.length_cons] at hr
      by_cases hb : kd c = 1
      · exact blank c r a k hb (ih r (by omega) _ _)
      by_cases hk : k = 200
      · subst hk; exact many c r a hb
      by_cases hf : tkF (c :: r) = 0
      · have := drop_lt hf
        exact tok c r a k hb hk hf (ih _ (by omega) _ _)
      · exact bad c r a k hb hk hf
def Tok.at (d : Int) (t : Tok) : Tok := ⟨t.kind, t.text, t.pos + d⟩
theorem lx_count : ∀ r a k, k ≤ 200 → (lx r a k).l.length + k ≤ 200 := by
  refine lx_ind ?_ ?_ ?_ ?_ ?_
  · intro a k hk; simp [lx_nil]; exact hk
  · intro c r a k h ih; rw [lx_blank h]; exact ih
  · intro c r a h hk; rw [lx_many h rfl]; simp
  · intro c r a k h hk hf h2; rw [lx_bad h hk hf]; simp; omega
  · intro c r a k h hk hf ih h2
    rw [lx_tok h hk hf]
    have := ih (by omega)
    simp only [LexO.cons, List.length_cons]; omega
theorem lx_end : ∀ r a k, (lx r a k).e = 0 → (lx r a k).n = a + (r.length : Int) := by
  refine lx_ind ?_ ?_ ?_ ?_ ?_
  · intro a k _; simp [lx_nil]
  · intro c r a k h ih he
    rw [lx_blank h] at he ⊢
    rw [ih he, List.length_cons]; omega
  · intro c r a h he; rw [lx_many h rfl] at he; cases he
  · intro c r a k h hk hf he; rw [lx_bad h hk hf] at he; exact (hf he).elim
  · intro c r a k h hk hf ih he
    have e := tkN_le (c :: r)
    rw [lx_tok h hk hf] at he ⊢
    simp only [LexO.cons] at he ⊢
    rw [ih he, List.length_drop]; omega
def gap (s : List UInt8) (a b : Int) : Prop := ∀ k : Int, a ≤ k → k < b → kd (s.getD k.toNat 0) = 1
def covS (s : List UInt8) : Int → List Tok → Prop
  | a, [] => a ≤ (s.length : Int) ∧ gap s a (s.length : Int)
  | a, t :: l => a ≤ t.pos ∧ gap s a t.pos ∧ t.pos + (t.text.length : Int) ≤ (s.length : Int) ∧ cut s t.pos (t.pos + (t.text.length : Int)) = t.text ∧ tokE t.kind t.text = 0 ∧ covS s (t.pos + (t.text.length : Int)) l
theorem lx_cov (s : List UInt8) : ∀ r a k, ∀ z : Int, 0 ≤ z → z ≤ a → a ≤ (s.length : Int) → s.drop a.toNat = r → gap s z a → (lx r a k).e = 0 → covS s z (lx r a k).l := by
  refine lx_ind ?_ ?_ ?_ ?_ ?_
  · intro a k z h0 h1 h2 h3 h4 _
    have : (s.length : Int) ≤ a := by have := List.drop_eq_nil_iff.1 h3; omega
    have : a = (s.length : Int) := by omega
    rw [lx_nil]
    exact ⟨by omega, this ▸ h4⟩
  · intro c r a k h ih z h0 h1 h2 h3 h4 he
    rw [lx_blank h] at he ⊢
    have hlt : a.toNat < s.length := by
      rcases Nat.lt_or_ge a.toNat s.length with h5 | h5
      · exact h5
      · rw [List.drop_eq_nil_of_le h5] at h3; cases h3
    rw [List.drop_eq_getElem_cons hlt] at h3
    obtain ⟨hc, hr⟩ := List.cons.inj h3
    refine ih z h0 (by omega) (by omega) (by rw [show (a + 1).toNat = a.toNat + 1 from by omega]; exact hr) (fun k hk1 hk2 => ?_) he
    by_cases hka : k = a
    · subst hka
      rw [show s.getD k.toNat 0 = c from by simp [List.getD, hlt, hc]]; exact h
    · exact h4 k hk1 (by omega)
  · intro c r a h z _ _ _ _ _ he; rw [lx_many h rfl] at he; cases he
  · intro c r a k h hk hf z _ _ _ _ _ he; rw [lx_bad h hk hf] at he; exact (hf he).elim
  · intro c r a k h hk hf ih z h0 h1 h2 h3 h4 he
    rw [lx_tok h hk hf] at he ⊢
    simp only [LexO.cons] at he ⊢
    have e := tkN_le (c :: r)
    have hlen : ((c :: r).length : Int) = (s.length : Int) - a := by rw [← h3]; exact drop_len s (by omega) h2
    refine ⟨h1, h4, ?_, ?_, hf, ?_⟩
    · simp only [tkT_len]; omega
    · simp only [tkT_len]
      rw [cut_is s (by omega) (by omega), h3]
      show _ = List.take _ _
      congr 1; omega
    · simp only [tkT_len]
      refine ih _ (by omega) (Int.le_refl _) (by omega) ?_ (fun k hk1 hk2 => by omega) he
      rw [show (a + (tkN (c :: r) : Int)).toNat = a.toNat + tkN (c :: r) from by omega, ← List.drop_drop, h3]
def joinT : List (List UInt8) → List UInt8
  | [] => []
  | [t] => t
  | t :: u :: r => t ++ 32 :: joinT (u :: r)
end Go.Am
namespace Go.Am
def gT (L : List Tok) (i : Int) : Tok := L.getD i.toNat default
def atT {α : Type} (i : Int) (L : List Tok) (r : Option α) : Option α :=
  bif decide (0 ≤ i ∧ i < (L.length : Int)) then (bif decide (i.toNat < L.length) then r else none) else none
theorem atT_in {α : Type} {i : Int} {L : List Tok} (h0 : 0 ≤ i) (h1 : i < (L.length : Int)) (r : Option α) : atT i L r = r := by
  unfold atT
  rw [decide_eq_true (show 0 ≤ i ∧ i < (L.length : Int) from ⟨h0, h1⟩), decide_eq_true (show i.toNat < L.length from by omega)]; rfl
theorem tok_drop {L : List Tok} {i : Int} {t : Tok} {r : List Tok} (h0 : 0 ≤ i) (h : L.drop i.toNat = t :: r) : i < (L.length : Int) ∧ gT L i = t ∧ L.drop (i + 1).toNat = r ∧ t ∈ L := by
  have hlt : i.toNat < L.length := by
    rcases Nat.lt_or_ge i.toNat L.length with h1 | h1
    · exact h1
    · rw [List.drop_eq_nil_of_le h1] at h; cases h
  have hm : t ∈ L := List.mem_of_mem_drop (i := i.toNat) (by rw [h]; exact List.mem_cons_self ..)
  rw [List.drop_eq_getElem_cons hlt] at h
  obtain ⟨e1, e2⟩ := List.cons.inj h
  exact ⟨by omega, by unfold gT; simp [List.getD, hlt, e1], by rw [show (i + 1).toNat = i.toNat + 1 from by omega]; exact e2, hm⟩
theorem tok_end {L : List Tok} {i : Int} (h0 : 0 ≤ i) (h : L.drop i.toNat = []) : ¬ i < (L.length : Int) := by
  have := List.drop_eq_nil_iff.1 h
  omega
def validB (t : Tok) : Bool := decide (tokE t.kind t.text = 0)
def shortT (L : List Tok) : Bool := L.all fun t => decide (t.text.length ≤ 900)
theorem short_mem {L : List Tok} (h : shortT L = true) {t : Tok} (ht : t ∈ L) : t.text.length ≤ 900 := of_decide_eq_true (List.all_eq_true.1 h t ht)
theorem joinT_tail (x : List UInt8) (r : List (List UInt8)) : joinT (x :: r) = x ++ Lib.joinTail [32] r := by
  induction r generalizing x with
  | nil => simp [joinT, Lib.joinTail]
  | cons y r ih =>
    show x ++ 32 :: joinT (y :: r) = _
    rw [ih]
    simp [Lib.joinTail]
theorem joinT_is (xs : List (List UInt8)) : Lib.join xs [32] = joinT xs := by
  cases xs with
  | nil => rfl
  | cons x r => rw [Lib.join_cons, joinT_tail]
theorem joinT_len : ∀ xs : List (List UInt8), (∀ x ∈ xs, x.length ≤ 900) → (joinT xs).length ≤ 901 * xs.length
  | [], _ => by simp [joinT]
  | [x], h => by
    have := h x (List.mem_cons_self ..)
    simp only [joinT, List.length_cons, List.length_nil]; omega
  | x :: y :: r, h => by
    have h1 := h x (List.mem_cons_self ..)
    have h2 := joinT_len (y :: r) fun z hz => h z (List.mem_cons_of_mem _ hz)
    simp only [joinT, List.length_append, List.length_cons] at h2 ⊢
    omega
def txt (L : List Tok) : List (List UInt8) := L.map (·.text)
def jT (L : List Tok) : List UInt8 := joinT (txt L)
def jE (L : List Tok) : Int := bif decide ((200 : Int) < (L.length : Int)) then 4 else bif L.all validB then (bif decide ((400 : Int) < ((jT L).length : Int)) then 18 else 0) else 8
def jS (L : List Tok) : List UInt8 := bif decide (jE L = 0) then jT L else []
theorem jT_len {L : List Tok} (h : shortT L = true) : (jT L).length ≤ 901 * L.length := by
  have := joinT_len (txt L) fun x hx => by
    obtain ⟨t, ht, rfl⟩ := List.mem_map.1 hx
    exact short_mem h ht
  unfold jT
  rw [show (txt L).length = L.length from by unfold txt; simp] at this
  exact this
end Go.Am
