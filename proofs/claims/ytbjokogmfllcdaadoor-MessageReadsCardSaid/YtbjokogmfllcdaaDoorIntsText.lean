/-
  Ints: plain laws of numerals: what is read, what is written.
-/
import Derived.Test.YtbjokogmfllcdaaDoorIntsPure
namespace Go.Am
open Go.Lib

def isDig (c : UInt8) : Bool := decide (48 ≤ c.toNat) && decide (c.toNat ≤ 57)
def digs : List UInt8 := [48, 49, 50, 51, 52, 53, 54, 55, 56, 57]
theorem digs_fin : ∀ n : Fin 256, digs.contains (UInt8.ofNat n.val) = isDig (UInt8.ofNat n.val) := by decide +kernel
theorem digs_is (c : UInt8) : digs.contains c = isDig c := by
  have := digs_fin ⟨c.toNat, c.toNat_lt⟩
  simpa using this
theorem dropWhile_nil {α : Type} {p : α → Bool} : ∀ {l : List α}, l.dropWhile p = [] ↔ l.all p = true
  | [] => by simp
  | a :: l => by
    cases h : p a with
    | true => simp [List.dropWhile, h, dropWhile_nil (l := l)]
    | false => simp [List.dropWhile, h]
theorem dropWhile_head {α : Type} {p : α → Bool} : ∀ {l : List α} {a : α} {r : List α}, l.dropWhile p = a :: r → p a = false
  | [], _, _, h => by simp at h
  | b :: l, a, r, h => by
    cases hb : p b with
    | true => simp [List.dropWhile, hb] at h; exact dropWhile_head h
    | false => simp [List.dropWhile, hb] at h; rw [← h.1]; exact hb
theorem trim_digs (s : List UInt8) : trimS s digs = [] ↔ s.all isDig = true := by
  have hp : (fun c => digs.contains c) = isDig := funext digs_is
  unfold trimS trimLeftS trimRightS
  rw [hp, dropWhile_nil]
  cases h : s.reverse.dropWhile isDig with
  | nil => rw [dropWhile_nil, List.all_reverse] at h; simp [h]
  | cons a r =>
    have ha := dropWhile_head h
    have hn : ¬ s.all isDig = true := by
      rw [← List.all_reverse, ← dropWhile_nil, h]; simp
    constructor
    · intro h2
      rw [List.all_reverse] at h2
      simp only [List.all_cons, Bool.and_eq_true] at h2
      rw [ha] at h2; simp at h2
    · intro h2; exact (hn h2).elim

def dg (c : UInt8) : Int := (c.toNat : Int) - 48
def val (acc : Int) : List UInt8 → Int
  | [] => acc
  | c :: r => val (10 * acc + dg c) r
def most : Int := 9223372036854775807
/-- what digits spell, or none if it is too great -/
def rdF (acc : Int) : List UInt8 → Option Int
  | [] => some acc
  | c :: r => bif decide ((most - dg c).tdiv 10 < acc) then none else rdF (10 * acc + dg c) r
theorem dg_rng {c : UInt8} (h : isDig c = true) : 0 ≤ dg c ∧ dg c ≤ 9 := by
  simp only [isDig, Bool.and_eq_true, decide_eq_true_eq] at h
  unfold dg; omega
theorem val_ge {l : List UInt8} (hl : l.all isDig = true) {acc : Int} (h : 0 ≤ acc) : acc ≤ val acc l := by
  induction l generalizing acc with
  | nil => exact Int.le_refl _
  | cons c r ih =>
    simp only [List.all_cons, Bool.and_eq_true] at hl
    have hd := dg_rng hl.1
    unfold val
    have := ih hl.2 (acc := 10 * acc + dg c) (by omega)
    omega
theorem rdF_val {l : List UInt8} (hl : l.all isDig = true) {acc : Int} (h : 0 ≤ acc) : rdF acc l = if val acc l ≤ most then (some (val acc l)) else (if acc ≤ most then none else rdF acc l) := by
  induction l generalizing acc with
  | nil =>
    unfold rdF val
    split
    · rfl
    · first | rfl | (split <;> first | rfl | (exfalso; omega))
  | cons c r ih =>
    simp only [List.all_cons, Bool.and_eq_true] at hl
    have hd := dg_rng hl.1
    have hv := val_ge hl.2 (acc := 10 * acc + dg c) (by omega)
    have hmost : most = 9223372036854775807 := rfl
    unfold rdF val
    have hq : (most - dg c).tdiv 10 = (most - dg c) / 10 := Int.tdiv_eq_ediv_of_nonneg (by omega)
    rw [hq]
    by_cases hc : (most - dg c) / 10 < acc
    · rw [decide_eq_true hc, cond_true, if_neg (by omega)]
      split <;> first | rfl | (unfold rdF; rw [hq, decide_eq_true hc]; rfl)
    · have hle : 10 * acc + dg c ≤ most := by omega
      rw [decide_eq_false hc, cond_false, ih hl.2 (by omega), if_pos hle]
      split
      · rfl
      · rw [if_pos (show acc ≤ most from by omega)]
theorem rdF_0 {l : List UInt8} (hl : l.all isDig = true) : rdF 0 l = if val 0 l ≤ most then some (val 0 l) else none := by
  rw [rdF_val hl (Int.le_refl 0)]
  have : (0 : Int) ≤ most := by decide
  rw [if_pos this]
theorem dig_nat {c : UInt8} (h : isDig c = true) : 48 ≤ c.toNat ∧ c.toNat ≤ 57 := by
  simpa [isDig] using h
theorem parseM_val {l : List UInt8} (hl : l.all isDig = true) {acc : Nat} : parseUintM 18446744073709551615 acc l = if val acc l ≤ 18446744073709551615 then .ok (val acc l).toNat else (if acc ≤ 18446744073709551615 then .range else parseUintM 18446744073709551615 acc l) := by
  induction l generalizing acc with
  | nil =>
    unfold parseUintM val
    split
    · simp
    · split <;> first | rfl | (exfalso; omega)
  | cons c r ih =>
    simp only [List.all_cons, Bool.and_eq_true] at hl
    have hd := dg_rng hl.1
    have hn := dig_nat hl.1
    have hv := val_ge hl.2 (acc := 10 * (acc : Int) + dg c) (by omega)
    have e : 10 * (acc : Int) + dg c = ((acc * 10 + (c.toNat - 48) : Nat) : Int) := by unfold dg; omega
    unfold parseUintM val
    rw [if_pos hn]
    by_cases h1 : 1844674407370955162 ≤ acc
    · rw [if_pos h1, if_neg (by omega)]
      split <;> first | rfl | (unfold parseUintM; rw [if_pos hn, if_pos h1])
    · rw [if_neg h1]
      by_cases h2 : 18446744073709551615 < acc * 10 + (c.toNat - 48)
      · rw [if_pos h2, if_neg (by omega), if_pos (by omega)]
      · rw [if_neg h2, ih hl.2, ← e]
        split
        · rfl
        · rw [if_pos (by omega), if_pos (by omega)]
/-- what Read gives -/
def rdN (s : List UInt8) : Int := bif decide (s = []) || !s.all isDig then 0 else match rdF 0 s with | some n => n | none => 0
def rdE (s : List UInt8) : Int := bif decide (s = []) || !s.all isDig then 12 else match rdF 0 s with | some _ => 0 | none => 16
theorem parse_digs {s : List UInt8} (hs : s ≠ []) (hd : s.all isDig = true) : parseIntB 64 s = match rdF 0 s with | some n => .ok n | none => .range := by
  rw [rdF_0 hd]
  cases s with
  | nil => exact (hs rfl).elim
  | cons c r =>
    have hd' := hd
    simp only [List.all_cons, Bool.and_eq_true] at hd'
    have hn := dig_nat hd'.1
    have hmost : most = 9223372036854775807 := rfl
    have h0 : (0 : Int) ≤ val 0 (c :: r) := val_ge hd (Int.le_refl 0)
    unfold parseIntB
    simp only
    rw [if_neg (show ¬ (c.toNat = 43 ∨ c.toNat = 45) from by omega)]
    have hp := parseM_val (l := c :: r) hd (acc := 0)
    have hcast : ((0 : Nat) : Int) = 0 := rfl
    rw [hcast] at hp
    rw [show parseUintB 64 (c :: r) = parseUintM 18446744073709551615 0 (c :: r) from by simp [parseUintB], hp]
    have hneg : ¬ c.toNat = 45 := by omega
    by_cases h1 : val 0 (c :: r) ≤ most
    · rw [if_pos h1, if_pos (by omega)]
      simp only [hneg]
      rw [if_neg (by omega), if_neg (by simp)]
      simp
      omega
    · rw [if_neg h1]
      by_cases h2 : val 0 (c :: r) ≤ 18446744073709551615
      · rw [if_pos h2]
        simp only [hneg]
        rw [if_pos (by constructor; simp; omega)]
      · rw [if_neg h2, if_pos (by omega)]

/-! numerals -/
theorem dec_small {u : Nat} (h : u < 10) : decDigits u = [UInt8.ofNat (48 + u)] := by rw [decDigits, dif_pos h]
theorem dec_big {u : Nat} (h : ¬ u < 10) : decDigits u = decDigits (u / 10) ++ [UInt8.ofNat (48 + u % 10)] := by rw [decDigits, dif_neg h]
theorem dec_len : ∀ (k u : Nat), u < 10 ^ k → 1 ≤ k → (decDigits u).length ≤ k
  | 0, u, _, h => by omega
  | k + 1, u, h, _ => by
    by_cases hu : u < 10
    · rw [dec_small hu]; simp
    · rw [dec_big hu]
      have h1 : 1 ≤ k := by
        cases k with
        | zero => simp at h; omega
        | succ k => omega
      have := dec_len k (u / 10) (by rw [Nat.pow_succ] at h; omega) h1
      simp; omega
theorem itoa_len {n : Int} (h : Rng n) : (itoa n).length ≤ 21 := by
  unfold Rng at h
  unfold itoa
  split
  · have := dec_len 20 n.natAbs (by have : (10 : Nat) ^ 20 = 100000000000000000000 := by decide
                                    omega) (by omega)
    simp; omega
  · have := dec_len 20 n.toNat (by have : (10 : Nat) ^ 20 = 100000000000000000000 := by decide
                                   omega) (by omega)
    omega
/-! what numerals read as -/
theorem dig_of {d : Nat} (h : d < 10) : isDig (UInt8.ofNat (48 + d)) = true ∧ dg (UInt8.ofNat (48 + d)) = (d : Int) := by
  have hn : (UInt8.ofNat (48 + d)).toNat = 48 + d := by rw [UInt8.toNat_ofNat']; omega
  unfold isDig dg
  rw [hn]
  refine ⟨?_, by omega⟩
  rw [decide_eq_true (by omega), decide_eq_true (by omega)]; rfl
theorem val_app : ∀ (l : List UInt8) (acc : Int) (c : UInt8), val acc (l ++ [c]) = 10 * val acc l + dg c
  | [], _, _ => rfl
  | a :: l, acc, c => val_app l (10 * acc + dg a) c
theorem dec_digs : ∀ u : Nat, (decDigits u).all isDig = true := by
  intro u
  induction u using Nat.strongRecOn with
  | ind u ih =>
    by_cases h : u < 10
    · rw [dec_small h]; simp only [List.all_cons, List.all_nil, (dig_of h).1, Bool.and_true]
    · rw [dec_big h, List.all_append, ih (u / 10) (by omega)]
      simp only [List.all_cons, List.all_nil, (dig_of (Nat.mod_lt u (by decide))).1, Bool.and_true]
theorem val_dec : ∀ u : Nat, val 0 (decDigits u) = (u : Int) := by
  intro u
  induction u using Nat.strongRecOn with
  | ind u ih =>
    by_cases h : u < 10
    · rw [dec_small h]
      show 10 * 0 + dg (UInt8.ofNat (48 + u)) = _
      rw [(dig_of h).2]; omega
    · rw [dec_big h, val_app, ih (u / 10) (by omega), (dig_of (Nat.mod_lt u (by decide))).2]; omega
theorem dec_ne (u : Nat) : decDigits u ≠ [] := by
  by_cases h : u < 10
  · rw [dec_small h]; simp
  · rw [dec_big h]; simp
theorem itoa_pos {n : Int} (h : 0 ≤ n) : itoa n = decDigits n.toNat := by unfold itoa; rw [if_neg (by omega)]
theorem itoa_min {n : Int} (h : n < 0) : itoa n = 45 :: decDigits n.natAbs := by unfold itoa; rw [if_pos h]
theorem itoa_ne (n : Int) : itoa n ≠ [] := by
  rcases Int.lt_or_le n 0 with h | h
  · rw [itoa_min h]; simp
  · rw [itoa_pos h]; exact dec_ne _
theorem dec_inj {a b : Nat} (h : decDigits a = decDigits b) : a = b := by
  have h1 := val_dec a
  rw [h, val_dec b] at h1; omega
theorem not_45 (u : Nat) (r : List UInt8) : decDigits u ≠ 45 :: r := by
  intro h
  have := dec_digs u
  rw [h] at this
  simp only [List.all_cons, Bool.and_eq_true] at this
  exact absurd this.1 (by decide)
theorem itoa_inj {a b : Int} : itoa a = itoa b ↔ a = b := by
  constructor
  · intro h
    rcases Int.lt_or_le a 0 with ha | ha <;> rcases Int.lt_or_le b 0 with hb | hb
    · rw [itoa_min ha, itoa_min hb] at h
      have := dec_inj (List.cons.inj h).2; omega
    · rw [itoa_min ha, itoa_pos hb] at h; exact (not_45 _ _ h.symm).elim
    · rw [itoa_pos ha, itoa_min hb] at h; exact (not_45 _ _ h).elim
    · rw [itoa_pos ha, itoa_pos hb] at h
      have := dec_inj h; omega
  · intro h; rw [h]
def zer (k : Nat) : List UInt8 := List.replicate k 48
theorem val_zer (l : List UInt8) : ∀ k, val 0 (zer k ++ l) = val 0 l
  | 0 => rfl
  | k + 1 => val_zer l k
theorem all_zer (l : List UInt8) : ∀ k, (zer k ++ l).all isDig = l.all isDig
  | 0 => rfl
  | k + 1 => by
    show (isDig 48 && (zer k ++ l).all isDig) = _
    rw [all_zer l k]; rfl
theorem read_pos {n : Int} (hn : Rng n) (h : 0 ≤ n) (k : Nat) : rdE (zer k ++ itoa n) = 0 ∧ rdN (zer k ++ itoa n) = n := by
  have h0 : decide (zer k ++ itoa n = []) = false := decide_eq_false fun h => itoa_ne n (List.append_eq_nil_iff.1 h).2
  have h1 : (zer k ++ itoa n).all isDig = true := by rw [all_zer, itoa_pos h]; exact dec_digs _
  have h2 : rdF 0 (zer k ++ itoa n) = some n := by
    rw [rdF_0 h1, val_zer, itoa_pos h, val_dec, Int.toNat_of_nonneg h, if_pos (show n ≤ most from hn.2)]
  unfold rdE rdN
  rw [h0, h1, h2]
  exact ⟨rfl, rfl⟩
theorem read_neg {n : Int} (h : n < 0) (k : Nat) : rdE (zer k ++ itoa n) = 12 := by
  have h1 : (zer k ++ itoa n).all isDig = false := by rw [all_zer, itoa_min h]; rfl
  unfold rdE
  rw [h1]
  simp
end Go.Am
