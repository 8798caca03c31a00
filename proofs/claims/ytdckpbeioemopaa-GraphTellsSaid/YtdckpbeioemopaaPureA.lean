/-
  Texts put together: IntsPure, NodPure, IntsText, CharsPure, CharsPure2, CharsPure3, LexPure, LexPure2, LexPure3.
-/
import Derived.Test.YtdckpbeioemopaaLibA
import Derived.Lib.Join
namespace Go.Am
def w64 (n : Int) : Int := IntKind.i64.wrap n
theorem w64_eq (n : Int) : w64 n = (n + 9223372036854775808) % 18446744073709551616 - 9223372036854775808 := IntKind.wrap_i64 n
theorem w64_rng {n : Int} (h : Rng n) : w64 n = n := by unfold Rng at h; rw [w64_eq]; omega
end Go.Am
namespace Go.Am
def prt (k : Int) : Int := bif decide (k ≤ 4) then 0 else bif decide (k ≤ 6) then 1 else 2
def knOk (k : Int) : Bool := decide (1 ≤ k) && decide (k ≤ 19)
def okN (x : Nod) (a b : Int) : Bool := decide (x.a = a ∧ x.b = b ∧ 0 ≤ x.pos ∧ x.pos ≤ 400 ∧ 0 ≤ x.n ∧ (x.kind = 1 ∨ x.n = 0))
def stepN (i : Int) (x : Nod) (S : List Top) : Option (Top × List Top) :=
  bif knOk x.kind then
    (bif decide (x.kind ≤ 4) then (bif okN x 0 0 then some (⟨i, 1, 1⟩, S) else none)
    else bif decide (x.kind ≤ 6) then (match S with
      | t :: S => bif okN x t.pos 0 then some (⟨i, 1 + t.size, max 1 (t.depth + 1)⟩, S) else none
      | [] => none)
    else match S with
      | u :: t :: S => bif okN x t.pos u.pos then some (⟨i, 1 + t.size + u.size, max (max 1 (t.depth + 1)) (u.depth + 1)⟩, S) else none
      | _ => none)
  else none
def topsN (i : Int) : List Nod → List Top → List Top → List Top × Bool
  | [], S, A => (A, decide (S.length = 1))
  | x :: l, S, A => match stepN i x S with
    | none => (A, false)
    | some (t, S') => topsN (i + 1) l (t :: S') (A ++ [t])
structure TopsO where
  ok : Bool
  a : List Top
  r : List Top
  k : Nat
  p : Bool
def topsO (i : Int) : List Nod → List Top → List Top → TopsO
  | [], S, A => ⟨true, A, S, 0, false⟩
  | x :: l, S, A => match stepN i x S with
    | none => ⟨false, A, S, (prt x.kind).toNat, knOk x.kind && decide (prt x.kind ≤ (S.length : Int))⟩
    | some (t, S') => topsO (i + 1) l (t :: S') (A ++ [t])
theorem topsO_N : ∀ (l : List Nod) (i : Int) (S A : List Top), topsN i l S A = ((topsO i l S A).a, (topsO i l S A).ok && decide ((topsO i l S A).r.length = 1))
  | [], i, S, A => by unfold topsN topsO; rfl
  | x :: l, i, S, A => by
    unfold topsN topsO
    cases stepN i x S with
    | none => rfl
    | some r => exact topsO_N l _ _ _
def lastT (A : List Top) : Top := A.getD (A.length - 1) default
def chkN (l : List Nod) : Int := bif decide (60 < l.length) then 4 else bif (topsN 0 l [] []).2 then (bif decide (20 < (lastT (topsN 0 l [] []).1).depth) then 34 else 0) else 8
def szStep (i : Int) (x : Nod) (sz dp : List Int) : Option (Int × Int) :=
  bif decide (x.kind ≤ 4) then (bif knOk x.kind && okN x 0 0 then some (1, 1) else none)
  else bif decide (i - 1 < 0) then none
  else bif decide (x.kind ≤ 6) then (bif knOk x.kind && okN x (i - 1) 0 then some (1 + sz.getD (i - 1).toNat 0, 1 + dp.getD (i - 1).toNat 0) else none)
  else bif decide (i - 1 - sz.getD (i - 1).toNat 0 < 0) then none
  else bif knOk x.kind && okN x (i - 1 - sz.getD (i - 1).toNat 0) (i - 1) then
    some (1 + sz.getD (i - 1).toNat 0 + sz.getD (i - 1 - sz.getD (i - 1).toNat 0).toNat 0, max (1 + dp.getD (i - 1).toNat 0) (1 + dp.getD (i - 1 - sz.getD (i - 1).toNat 0).toNat 0)) else none
def szGo (i : Int) : List Nod → List Int → List Int → Option (List Int × List Int)
  | [], sz, dp => some (sz, dp)
  | x :: l, sz, dp => match szStep i x sz dp with
    | none => none
    | some (s, d) => szGo (i + 1) l (sz ++ [s]) (dp ++ [d])
def Ch (A : List Top) : List Top → Nat → Prop
  | [], j => j = 0
  | t :: S, j => 1 ≤ j ∧ A[j - 1]? = some t ∧ t.pos = (j : Int) - 1 ∧ 1 ≤ t.size ∧ t.size ≤ j ∧ 1 ≤ t.depth ∧ t.depth ≤ j ∧ Ch A S (j - t.size.toNat)
theorem Ch.more {A : List Top} (B : List Top) : ∀ {S : List Top} {j : Nat}, Ch A S j → Ch (A ++ B) S j
  | [], _, h => h
  | t :: S, j, h => by
    obtain ⟨h1, h2, h3, h4, h5, h6, h7, h8⟩ := h
    have := (List.getElem?_eq_some_iff.1 h2).1
    exact ⟨h1, by rw [List.getElem?_append_left this]; exact h2, h3, h4, h5, h6, h7, h8.more B⟩
theorem Ch.step {A S S' : List Top} {i : Nat} {x : Nod} {t : Top} (h : Ch A S i) (hA : A.length = i) (hs : stepN i x S = some (t, S')) : Ch (A ++ [t]) (t :: S') (i + 1) := by
  have hget : (A ++ [t])[i + 1 - 1]? = some t := by rw [Nat.add_sub_cancel, ← hA]; simp
  unfold stepN at hs
  cases hk : knOk x.kind with
  | false => rw [hk] at hs; cases hs
  | true =>
    rw [hk, cond_true] at hs
    cases h4 : decide (x.kind ≤ 4) with
    | true =>
      rw [h4, cond_true] at hs
      cases ho : okN x 0 0 with
      | false => rw [ho] at hs; cases hs
      | true =>
        rw [ho] at hs
        cases hs
        exact ⟨by omega, hget, by simp, by simp, by simp; omega, by simp, by simp; omega, by simpa using h.more [_]⟩
    | false =>
      rw [h4, cond_false] at hs
      cases h6 : decide (x.kind ≤ 6) with
      | true =>
        rw [h6, cond_true] at hs
        cases S with
        | nil => cases hs
        | cons u S =>
          simp only at hs
          obtain ⟨g1, g2, g3, g4, g5, g6, g7, g8⟩ := h
          cases ho : okN x u.pos 0 with
          | false => rw [ho] at hs; cases hs
          | true =>
            rw [ho] at hs
            cases hs
            refine ⟨by omega, hget, by simp, by simp; omega, by simp; omega, by simp; omega, by simp; omega, ?_⟩
            rw [show i + 1 - (1 + u.size).toNat = i - u.size.toNat from by omega]
            exact g8.more _
      | false =>
        rw [h6, cond_false] at hs
        match S, h, hs with
        | [], _, hs => cases hs
        | [_], _, hs => cases hs
        | u :: t0 :: S, h, hs =>
          simp only at hs
          obtain ⟨g1, g2, g3, g4, g5, g6, g7, k1, k2, k3, k4, k5, k6, k7, k8⟩ := h
          cases ho : okN x t0.pos u.pos with
          | false => rw [ho] at hs; cases hs
          | true =>
            rw [ho] at hs
            cases hs
            refine ⟨by omega, hget, by simp, by simp; omega, by simp; omega, by simp; omega, by simp; omega, ?_⟩
            rw [show i + 1 - (1 + t0.size + u.size).toNat = i - u.size.toNat - t0.size.toNat from by omega]
            exact k8.more _
theorem Ch.le {A : List Top} : ∀ {S : List Top} {j : Nat}, Ch A S j → S.length ≤ j
  | [], _, _ => Nat.zero_le _
  | t :: S, j, h => by
    obtain ⟨h1, h2, h3, h4, h5, h6, h7, h8⟩ := h
    have := h8.le
    simp only [List.length_cons]
    omega
noncomputable def chD (A S : List Top) (j : Nat) : Bool := @decide (Ch A S j) (Classical.propDecidable _)
theorem chD_is {A S : List Top} {j : Nat} : chD A S j = true ↔ Ch A S j := by
  unfold chD
  exact @decide_eq_true_iff _ (Classical.propDecidable _)
theorem map_at {α : Type} [Inhabited α] {A : List α} {f : α → Int} {j : Nat} {t : α} (h : A[j]? = some t) : (A.map f).getD j 0 = f t := by
  simp [List.getD, h]
theorem sz_step {A S : List Top} {i : Nat} {x : Nod} (h : Ch A S i) : szStep i x (A.map Top.size) (A.map Top.depth) = (stepN i x S).map fun r => (r.1.size, r.1.depth) := by
  unfold szStep stepN
  cases h4 : decide (x.kind ≤ 4) with
  | true =>
    simp only [cond_true]
    cases knOk x.kind <;> cases okN x 0 0 <;> rfl
  | false =>
    simp only [cond_false]
    cases S with
    | nil =>
      have h : i = 0 := h
      subst h
      rw [decide_eq_true (show ((0 : Nat) : Int) - 1 < 0 by omega)]
      cases knOk x.kind <;> cases decide (x.kind ≤ 6) <;> rfl
    | cons u S =>
      obtain ⟨g1, g2, g3, g4, g5, g6, g7, g8⟩ := h
      rw [decide_eq_false (show ¬ (i : Int) - 1 < 0 by omega)]
      have e1 : ((i : Int) - 1).toNat = i - 1 := by omega
      rw [e1, map_at g2, map_at g2, ← g3]
      simp only [cond_false]
      cases h6 : decide (x.kind ≤ 6) with
      | true =>
        simp only [cond_true]
        cases knOk x.kind <;> cases okN x u.pos 0 <;> simp
        omega
      | false =>
        simp only [cond_false]
        cases S with
        | nil =>
          have g8 : i - u.size.toNat = 0 := g8
          rw [decide_eq_true (show u.pos - u.size < 0 by omega)]
          cases knOk x.kind <;> rfl
        | cons t0 S =>
          obtain ⟨k1, k2, k3, k4, k5, k6, k7, k8⟩ := g8
          have e2 : (u.pos - u.size).toNat = i - u.size.toNat - 1 := by omega
          have e3 : t0.pos = u.pos - u.size := by omega
          rw [decide_eq_false (show ¬ u.pos - u.size < 0 by omega), e2, map_at k2, map_at k2, ← e3]
          have m1 : 1 + u.size + t0.size = 1 + t0.size + u.size := by omega
          have m2 : max (1 + u.depth) (1 + t0.depth) = max (max 1 (t0.depth + 1)) (u.depth + 1) := by omega
          rw [m1, m2]
          cases knOk x.kind <;> cases ho : okN x t0.pos u.pos <;> simp [ho]
theorem sz_go : ∀ (l : List Nod) (i : Nat) (S A : List Top), Ch A S i → A.length = i →
    ((szGo i l (A.map Top.size) (A.map Top.depth) = none ∧ (topsN i l S A).2 = false) ∨
      ∃ A' S', szGo i l (A.map Top.size) (A.map Top.depth) = some (A'.map Top.size, A'.map Top.depth) ∧ topsN i l S A = (A', decide (S'.length = 1)) ∧ Ch A' S' (i + l.length) ∧ A'.length = i + l.length)
  | [], i, S, A, h, hA => .inr ⟨A, S, rfl, rfl, h, hA⟩
  | x :: l, i, S, A, h, hA => by
    unfold szGo topsN
    rw [sz_step h]
    cases hs : stepN i x S with
    | none => exact .inl ⟨rfl, rfl⟩
    | some r =>
      obtain ⟨t, S'⟩ := r
      have hc := h.step hA hs
      have ih := sz_go l (i + 1) (t :: S') (A ++ [t]) hc (by simp [hA])
      simp only [Option.map_some, List.map_append, List.map_cons, List.map_nil] at ih ⊢
      rw [show ((i : Int) + 1) = ((i + 1 : Nat) : Int) from rfl, show i + (x :: l).length = i + 1 + l.length from by simp; omega]
      exact ih
def szO (i : Int) : List Nod → List Int → List Int → Bool × List Int × List Int
  | [], sz, dp => (true, sz, dp)
  | x :: l, sz, dp => match szStep i x sz dp with
    | none => (false, sz, dp)
    | some (s, d) => szO (i + 1) l (sz ++ [s]) (dp ++ [d])
theorem szO_go : ∀ (l : List Nod) (i : Int) (sz dp : List Int), szGo i l sz dp = bif (szO i l sz dp).1 then some (szO i l sz dp).2 else none
  | [], _, _, _ => rfl
  | x :: l, i, sz, dp => by
    unfold szGo szO
    cases szStep i x sz dp with
    | none => rfl
    | some r => exact szO_go l _ _ _
def Bo (sz : List Int) : Prop := ∀ (j : Nat) v, sz[j]? = some v → 1 ≤ v ∧ v ≤ (j : Int) + 1
theorem Bo.snoc {sz : List Int} {v : Int} (h : Bo sz) (h1 : 1 ≤ v) (h2 : v ≤ (sz.length : Int) + 1) : Bo (sz ++ [v]) := fun j u hj => by
  rcases Nat.lt_or_ge j sz.length with hl | hl
  · rw [List.getElem?_append_left hl] at hj; exact h j u hj
  · rw [List.getElem?_append_right hl] at hj
    rcases Nat.eq_zero_or_pos (j - sz.length) with h0 | h0
    · rw [h0] at hj
      simp only [List.getElem?_cons_zero, Option.some.injEq] at hj
      subst hj
      exact ⟨h1, by omega⟩
    · rw [List.getElem?_eq_none (by simp; omega)] at hj; cases hj
noncomputable def boD (sz : List Int) : Bool := @decide (Bo sz) (Classical.propDecidable _)
theorem boD_is {sz : List Int} : boD sz = true ↔ Bo sz := by
  unfold boD
  exact @decide_eq_true_iff _ (Classical.propDecidable _)
theorem Bo.at {sz : List Int} (h : Bo sz) {j : Nat} (hj : j < sz.length) : 1 ≤ sz.getD j 0 ∧ sz.getD j 0 ≤ (j : Int) + 1 := by
  have := h j sz[j] (List.getElem?_eq_getElem hj)
  simpa [List.getD, hj] using this
theorem szStep_bo {i : Nat} {x : Nod} {sz dp : List Int} {s d : Int} (h1 : Bo sz) (h2 : Bo dp) (l1 : sz.length = i) (l2 : dp.length = i) (h : szStep i x sz dp = some (s, d)) : Bo (sz ++ [s]) ∧ Bo (dp ++ [d]) := by
  unfold szStep at h
  cases h4 : decide (x.kind ≤ 4) with
  | true =>
    rw [h4, cond_true] at h
    cases hb : (knOk x.kind && okN x 0 0) with
    | false => rw [hb] at h; cases h
    | true => rw [hb] at h; cases h; exact ⟨h1.snoc (by omega) (by omega), h2.snoc (by omega) (by omega)⟩
  | false =>
    rw [h4, cond_false] at h
    by_cases hi : (i : Int) - 1 < 0
    · rw [decide_eq_true hi] at h; cases h
    rw [decide_eq_false hi, cond_false] at h
    have e1 : ((i : Int) - 1).toNat = i - 1 := by omega
    rw [e1] at h
    have b1 := h1.at (j := i - 1) (by omega)
    have b2 := h2.at (j := i - 1) (by omega)
    cases h6 : decide (x.kind ≤ 6) with
    | true =>
      rw [h6, cond_true] at h
      cases hb : (knOk x.kind && okN x ((i : Int) - 1) 0) with
      | false => rw [hb] at h; cases h
      | true => rw [hb] at h; cases h; exact ⟨h1.snoc (by omega) (by omega), h2.snoc (by omega) (by omega)⟩
    | false =>
      rw [h6, cond_false] at h
      by_cases hf : (i : Int) - 1 - sz.getD (i - 1) 0 < 0
      · rw [decide_eq_true hf] at h; cases h
      rw [decide_eq_false hf, cond_false] at h
      have b3 := h1.at (j := ((i : Int) - 1 - sz.getD (i - 1) 0).toNat) (by omega)
      have b4 := h2.at (j := ((i : Int) - 1 - sz.getD (i - 1) 0).toNat) (by omega)
      generalize hb : (knOk x.kind && okN x ((i : Int) - 1 - sz.getD (i - 1) 0) ((i : Int) - 1)) = b at h
      cases b with
      | false => cases h
      | true => cases h; exact ⟨h1.snoc (by omega) (by omega), h2.snoc (by omega) (by omega)⟩
def szOk (l : List Nod) (r : List Int) : Bool := decide (0 < l.length) && decide (r.getD (l.length - 1) 0 = l.length)
def chkR (l : List Nod) : Int := bif decide (60 < l.length) then 4 else match szGo 0 l [] [] with
  | none => 8
  | some (sz, dp) => bif szOk l sz then (bif decide (20 < dp.getD (l.length - 1) 0) then 34 else 0) else 8
theorem chkR_is (l : List Nod) : chkR l = chkN l := by
  unfold chkR chkN
  cases decide (60 < l.length) with
  | true => rfl
  | false =>
    simp only [cond_false]
    have h := sz_go l 0 [] [] rfl rfl
    simp only [List.map_nil, Nat.zero_add] at h
    rw [show ((0 : Nat) : Int) = 0 from rfl] at h
    rcases h with ⟨h1, h2⟩ | ⟨A, S, h1, h2, h3, h4⟩
    · rw [h1, h2]; rfl
    · rw [h1, h2]
      simp only
      have hlast : 0 < l.length → ∃ t, A[l.length - 1]? = some t := fun h => ⟨A[l.length - 1]'(by omega), List.getElem?_eq_getElem _⟩
      have key : szOk l (A.map Top.size) = decide (S.length = 1) := by
        unfold szOk
        cases S with
        | nil => have h3 : l.length = 0 := h3; rw [h3]; rfl
        | cons t S =>
          obtain ⟨g1, g2, g3, g4, g5, g6, g7, g8⟩ := h3
          rw [map_at g2, decide_eq_true (show 0 < l.length by omega), Bool.true_and]
          cases S with
          | nil =>
            have g8 : l.length - t.size.toNat = 0 := g8
            exact decide_eq_true (by omega)
          | cons u S =>
            have := g8.1
            rw [decide_eq_false (show ¬ t.size = (l.length : Int) by omega)]
            exact (decide_eq_false (by simp)).symm
      rw [key]
      cases hS : decide (S.length = 1) with
      | false => rfl
      | true =>
        simp only [cond_true]
        have hS := of_decide_eq_true hS
        match S, hS, h3 with
        | [t], _, h3 =>
          obtain ⟨g1, g2, _⟩ := h3
          have e1 : lastT A = t := by unfold lastT; rw [h4]; simp [List.getD, g2]
          rw [map_at g2, e1]
end Go.Am
namespace Go.Am
open Go.Lib
def isDig (c : UInt8) : Bool := decide (48 ≤ c.toNat) && decide (c.toNat ≤ 57)
def dg (c : UInt8) : Int := (c.toNat : Int) - 48
def val (acc : Int) : List UInt8 → Int
  | [] => acc
  | c :: r => val (10 * acc + dg c) r
def most : Int := 9223372036854775807
def rdF (acc : Int) : List UInt8 → Option Int
  | [] => some acc
  | c :: r => bif decide ((most - dg c).tdiv 10 < acc) then none else rdF (10 * acc + dg c) r
def rdN (s : List UInt8) : Int := bif decide (s = []) || !s.all isDig then 0 else match rdF 0 s with | some n => n | none => 0
def rdE (s : List UInt8) : Int := bif decide (s = []) || !s.all isDig then 12 else match rdF 0 s with | some _ => 0 | none => 16
end Go.Am
namespace Go.Am
def wordList : List (List UInt8) := [[115, 101, 108, 101, 99, 116], [102, 114, 111, 109], [119, 104, 101, 114, 101], [119, 105, 110, 100, 111, 119], [98, 121], [107, 101, 121], [108, 97, 116, 101], [100, 114, 111, 112], [115, 105, 100, 101], [99, 111, 117, 110, 116], [115, 117, 109], [109, 105, 110], [109, 97, 120], [97, 110, 100], [111, 114], [110, 111, 116], [117, 110, 105, 111, 110], [106, 111, 105, 110], [116, 117, 109, 98, 108, 101], [115, 108, 105, 100, 101], [101, 118, 101, 114, 121], [115, 101, 115, 115, 105, 111, 110], [97], [98], [99], [100], [107], [116], [118]]
def isWord (s : List UInt8) : Bool := wordList.contains s
def kindN (c : Int) : Int :=
  bif decide (c = 32) || decide (c = 10) then 1 else bif decide (48 ≤ c) && decide (c ≤ 57) then 2 else bif decide (97 ≤ c) && decide (c ≤ 122) then 3
  else bif (decide (40 ≤ c) && decide (c ≤ 43)) || (decide (60 ≤ c) && decide (c ≤ 62)) || decide (c = 45) || decide (c = 33) then 4 else 0
def c0 (s : List UInt8) : Int := ((s.getD (0 : Int).toNat 0).toNat : Int)
def c1 (s : List UInt8) : Int := ((s.getD (1 : Int).toNat 0).toNat : Int)
def pairB (s : List UInt8) : Bool :=
  decide ((1 : Int) < (s.length : Int)) && ((decide (c0 s = 60) && decide (0 ≤ Lib.indexByte [61, 60] ((c1 s).toNat.toUInt8))) || (decide (c0 s = 62) && decide (0 ≤ Lib.indexByte [61, 62] ((c1 s).toNat.toUInt8))) || (decide (c0 s = 33) && decide (0 ≤ Lib.indexByte [61] ((c1 s).toNat.toUInt8))))
def sym0 (s : List UInt8) : Int :=
  bif decide (s = []) then 0 else bif !decide (kindN (c0 s) = 4) then 0 else bif pairB s then 2 else bif decide (c0 s = 33) then 0 else 1
end Go.Am
namespace Go.Am
def rI (s : List UInt8) (a : Int) : Bool := decide (0 ≤ a ∧ a < (s.length : Int))
end Go.Am
namespace Go.Am
end Go.Am
namespace Go.Am
open Go.Lib
def kd (c : UInt8) : Int := kindN (c.toNat : Int)
def runK (k : Int) : List UInt8 → Nat
  | [] => 0
  | c :: r => bif decide (kd c = k) then runK k r + 1 else 0
def tkK (r : List UInt8) : Int := bif decide (kindN (c0 r) = 2) then 1 else bif decide (kindN (c0 r) = 3) then 2 else 3
def tkN (r : List UInt8) : Nat := bif decide (kindN (c0 r) = 2) then runK 2 r else bif decide (kindN (c0 r) = 3) then runK 3 r else (sym0 r).toNat
def tkT (r : List UInt8) : List UInt8 := r.take (tkN r)
def tokE (k : Int) (t : List UInt8) : Int :=
  bif decide (k = 1) then rdE t else bif decide (k = 2) then (bif isWord t then 0 else 32) else bif decide (k = 3) then (bif decide (0 < sym0 t) && decide (sym0 t = (t.length : Int)) then 0 else 32) else 32
def tkF (r : List UInt8) : Int := tokE (tkK r) (tkT r)
structure LexO where
  l : List Tok
  n : Int
  e : Int
  deriving Inhabited
def LexO.cons (t : Tok) (o : LexO) : LexO := ⟨t :: o.l, o.n, o.e⟩
def lexR : Nat → List UInt8 → Int → Nat → LexO
  | 0, _, a, _ => ⟨[], a, 4⟩
  | _ + 1, [], a, _ => ⟨[], a, 0⟩
  | n + 1, c :: r, a, k =>
    bif decide (kd c = 1) then lexR n r (a + 1) k
    else bif decide (k = 200) then ⟨[], a, 4⟩
    else bif decide (tkF (c :: r) = 0) then (lexR n ((c :: r).drop (tkN (c :: r))) (a + (tkN (c :: r) : Int)) (k + 1)).cons ⟨tkK (c :: r), tkT (c :: r), a⟩
    else ⟨[], a, tkF (c :: r)⟩
def lexA (s : List UInt8) : LexO := bif decide ((400 : Int) < (s.length : Int)) then ⟨[], 0, 4⟩ else lexR (s.length + 1) s 0 0
def lexE (s : List UInt8) : Int := (lexA s).e
def lexL (s : List UInt8) : List Tok := bif decide (lexE s = 0) then (lexA s).l else []
end Go.Am
namespace Go.Am
def Tok.at (d : Int) (t : Tok) : Tok := ⟨t.kind, t.text, t.pos + d⟩
def joinT : List (List UInt8) → List UInt8
  | [] => []
  | [t] => t
  | t :: u :: r => t ++ 32 :: joinT (u :: r)
end Go.Am
namespace Go.Am
def validB (t : Tok) : Bool := decide (tokE t.kind t.text = 0)
def shortT (L : List Tok) : Bool := L.all fun t => decide (t.text.length ≤ 900)
def txt (L : List Tok) : List (List UInt8) := L.map (·.text)
def jT (L : List Tok) : List UInt8 := joinT (txt L)
def jE (L : List Tok) : Int := bif decide ((200 : Int) < (L.length : Int)) then 4 else bif L.all validB then (bif decide ((400 : Int) < ((jT L).length : Int)) then 18 else 0) else 8
def jS (L : List Tok) : List UInt8 := bif decide (jE L = 0) then jT L else []
end Go.Am
