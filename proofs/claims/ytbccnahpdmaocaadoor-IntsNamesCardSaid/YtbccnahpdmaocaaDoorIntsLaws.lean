/-
  Ints: the ring, the shifts, the order: what the laws answer.
-/
import Derived.Test.YtbccnahpdmaocaaDoorIntsDo
namespace Go.Proofs.YtbccnahpdmaocaaDoor
open Go.Am
set_option maxRecDepth 100000
variable {B : Nat → Option Obj}
theorem d5 (a b : Int) : doN 5 a b = w64 (0 - a) := by kernel_rfl
theorem d6 (a b : Int) : doN 6 a b = ti (decide (a = 0)) := by kernel_rfl
theorem d7 (a b : Int) : doN 7 a b = w64 (a * b) := by kernel_rfl
theorem d8 (a b : Int) : doN 8 a b = w64 (a + b) := by kernel_rfl
theorem d9 (a b : Int) : doN 9 a b = w64 (a - b) := by kernel_rfl
theorem d10 (a b : Int) : doN 10 a b = w64 (a * 2 ^ (b % 64).toNat) := by kernel_rfl
theorem d11 (a b : Int) : doN 11 a b = a.fdiv (2 ^ (b % 64).toNat) := by kernel_rfl
theorem d12 (a b : Int) : doN 12 a b = ti (decide (a < b)) := by kernel_rfl
theorem d13 (a b : Int) : doN 13 a b = ti (decide (a ≤ b)) := by kernel_rfl
theorem d14 (a b : Int) : doN 14 a b = ti (decide (b < a)) := by kernel_rfl
theorem d15 (a b : Int) : doN 15 a b = ti (decide (b ≤ a)) := by kernel_rfl
theorem d16 (a b : Int) : doN 16 a b = ti (decide (a = b)) := by kernel_rfl
theorem d17 (a b : Int) : doN 17 a b = ti (!decide (a = b)) := by kernel_rfl
theorem d18 (a b : Int) : doN 18 a b = ti (!decide (a = 0) && !decide (b = 0)) := by kernel_rfl
theorem d19 (a b : Int) : doN 19 a b = ti (!decide (or64 a b = 0)) := by kernel_rfl

theorem tRing (a b c : Int) : runT B lAll Tryd.f10 [i64 a, i64 b, i64 c] [] =
    chain [decide (doN 8 a b = doN 8 b a), decide (doN 8 (doN 8 a b) c = doN 8 a (doN 8 b c)), decide (doN 7 a b = doN 7 b a), decide (doN 7 (doN 7 a b) c = doN 7 a (doN 7 b c)),
      decide (doN 9 a b = doN 8 a (doN 5 b 0)), decide (doN 7 (doN 8 a b) c = doN 8 (doN 7 a c) (doN 7 b c)), decide (doN 8 a 0 = a), decide (doN 7 a 1 = a)] (rb true) := by kernel_rfl
theorem ring_true {a b c : Int} (ha : Rng a) : runT B lAll Tryd.f10 [i64 a, i64 b, i64 c] [] = rb true := by
  refine (tRing a b c).trans (chain_true fun p hp => ?_)
  simp only [d5, d7, d8, d9, List.mem_cons, List.mem_nil_iff, or_false] at hp
  rcases hp with rfl | rfl | rfl | rfl | rfl | rfl | rfl | rfl <;> rw [decide_eq_true_iff]
  · rw [Int.add_comm]
  · rw [w64_add_l, w64_add_r, Int.add_assoc]
  · rw [Int.mul_comm]
  · rw [w64_mul_l, w64_mul_r, Int.mul_assoc]
  · rw [w64_add_r]; congr 1; omega
  · rw [w64_mul_l, w64_add_l, w64_add_r, Int.add_mul]
  · rw [Int.add_zero]; exact w64_rng ha
  · rw [Int.mul_one]; exact w64_rng ha

/-- how far a number may be from zero so that nothing is lost -/
def lim62 (b : Int) : Int := w64 (62 - if 62 < and63 b then 62 else and63 b)
def limit (b : Int) : Int := w64 (1 * 2 ^ min (lim62 b).toNat 64)
def shr0 (a b : Int) : Option Out := bif (decide (doN 11 a b < 0) == decide (a < 0)) then rb true else rb false
def back0 (a b : Int) : Option Out := bif decide (doN 11 (doN 10 a b) b = a) then rb true else rb false
theorem tShifts (a b : Int) : runT B lAll Tryd.f11 [i64 a, i64 b] [] =
    bif fails (decide (doN 10 a b = doN 7 a (doN 10 1 (and63 b)))) then rb false else bif fails (decide (doN 10 a (doN 8 b 64) = doN 10 a b)) then rb false else bif fails (decide (doN 11 a (doN 8 b 64) = doN 11 a b)) then rb false
    else bif decide (0 ≤ lim62 b) then (bif decide (and63 b = 0) then back0 a b else bif decide (and63 b < 63) then (bif decide (w64 (0 - limit b) ≤ a) then (bif decide (a < limit b) then back0 a b else shr0 a b) else shr0 a b) else shr0 a b) else none := by kernel_rfl
theorem fdiv_pow_neg {a : Int} (n : Nat) : (a.fdiv (2 ^ n) < 0) ↔ a < 0 := by
  have hp : (0 : Int) < 2 ^ n := Int.pow_pos (by omega)
  rw [Int.fdiv_eq_ediv_of_nonneg _ (Int.le_of_lt hp), Int.ediv_lt_iff_lt_mul hp, Int.zero_mul]
theorem shr_true (a b : Int) : shr0 a b = rb true := by
  unfold shr0
  rw [d11]
  have : decide (a.fdiv (2 ^ (b % 64).toNat) < 0) = decide (a < 0) := by rw [decide_eq_decide]; exact fdiv_pow_neg _
  rw [this]; simp
theorem back_true {a b : Int} (h : Rng (a * 2 ^ (b % 64).toNat)) : back0 a b = rb true := by
  unfold back0
  rw [d11, d10, w64_rng h]
  have hp : (0 : Int) < 2 ^ (b % 64).toNat := Int.pow_pos (by omega)
  have : (a * 2 ^ (b % 64).toNat).fdiv (2 ^ (b % 64).toNat) = a := Int.mul_fdiv_cancel a (by omega)
  rw [this]; simp
theorem shifts_true {a b : Int} (ha : Rng a) : runT B lAll Tryd.f11 [i64 a, i64 b] [] = rb true := by
  refine (tShifts a b).trans ?_
  have hm : w64 (b + 64) % 64 = b % 64 := by rw [w64_eq]; omega
  have h1 : decide (doN 10 a b = doN 7 a (doN 10 1 (and63 b))) = true := by
    rw [decide_eq_true_iff, d7, d10, d10, w64_mul_r, and63_eq, Int.one_mul, show b % 64 % 64 = b % 64 from by omega]
  have h2 : decide (doN 10 a (doN 8 b 64) = doN 10 a b) = true := by rw [decide_eq_true_iff, d10, d8, d10, hm]
  have h3 : decide (doN 11 a (doN 8 b 64) = doN 11 a b) = true := by rw [decide_eq_true_iff, d11, d8, d11, hm]
  have hl : lim62 b = 62 - if 62 < b % 64 then 62 else b % 64 := by
    unfold lim62; rw [and63_eq]; apply w64_rng; unfold Rng; split <;> omega
  have h4 : decide (0 ≤ lim62 b) = true := by rw [decide_eq_true_iff, hl]; split <;> omega
  rw [h1, h2, h3, h4]
  simp only [fails, cond_true, cond_false]
  rw [and63_eq]
  cases h5 : decide (b % 64 = 0) with
  | true =>
    have := of_decide_eq_true h5
    rw [cond_true]
    exact back_true (by rw [this]; simpa using ha)
  | false =>
    have h5 := of_decide_eq_false h5
    rw [cond_false]
    cases h6 : decide (b % 64 < 63) with
    | false => rw [cond_false]; exact shr_true a b
    | true =>
      have h6 := of_decide_eq_true h6
      rw [cond_true]
      have hlim : limit b = 2 ^ (62 - b % 64).toNat := by
        unfold limit
        rw [hl, if_neg (by omega), Int.one_mul, show min (62 - b % 64).toNat 64 = (62 - b % 64).toNat from by omega]
        apply w64_rng
        have hle : (2 : Int) ^ (62 - b % 64).toNat ≤ 2 ^ 62 := by
          have : (2 : Nat) ^ (62 - b % 64).toNat ≤ 2 ^ 62 := Nat.pow_le_pow_right (by omega) (by omega)
          exact_mod_cast this
        have hp : (0 : Int) < 2 ^ (62 - b % 64).toNat := Int.pow_pos (by omega)
        have e62 : (2 : Int) ^ 62 = 4611686018427387904 := by decide
        unfold Rng; omega
      cases h7 : decide (w64 (0 - limit b) ≤ a) with
      | false => rw [cond_false]; exact shr_true a b
      | true =>
        rw [cond_true]
        cases h8 : decide (a < limit b) with
        | false => rw [cond_false]; exact shr_true a b
        | true =>
          rw [cond_true]
          have h7 := of_decide_eq_true h7
          have h8 := of_decide_eq_true h8
          have hp : (0 : Int) < 2 ^ (62 - b % 64).toNat := Int.pow_pos (by omega)
          have hle : (2 : Int) ^ (62 - b % 64).toNat ≤ 2 ^ 62 := by
            have : (2 : Nat) ^ (62 - b % 64).toNat ≤ 2 ^ 62 := Nat.pow_le_pow_right (by omega) (by omega)
            exact_mod_cast this
          have e62 : (2 : Int) ^ 62 = 4611686018427387904 := by decide
          rw [hlim] at h7 h8
          rw [w64_rng (by unfold Rng; omega)] at h7
          apply back_true
          have hq : (0 : Int) < 2 ^ (b % 64).toNat := Int.pow_pos (by omega)
          have hprod : (2 : Int) ^ (62 - b % 64).toNat * 2 ^ (b % 64).toNat = 2 ^ 62 := by
            rw [← Int.pow_add]; congr 1; omega
          have u1 : a * 2 ^ (b % 64).toNat ≤ 2 ^ (62 - b % 64).toNat * 2 ^ (b % 64).toNat := Int.mul_le_mul_of_nonneg_right (Int.le_of_lt h8) (Int.le_of_lt hq)
          have u2 : (0 - 2 ^ (62 - b % 64).toNat) * 2 ^ (b % 64).toNat ≤ a * 2 ^ (b % 64).toNat := Int.mul_le_mul_of_nonneg_right h7 (Int.le_of_lt hq)
          rw [Int.sub_mul, Int.zero_mul, hprod] at u2
          rw [hprod] at u1
          unfold Rng; omega

def not2 (a : Int) : Int := doN 6 (doN 6 a 0) 0
def tail5 (a b : Int) : Option Out :=
  chain [decide (w64 (doN 6 a 0 + not2 a) = 1), decide (0 ≤ doN 6 a 0), decide (0 ≤ not2 a), decide (doN 18 a b = doN 6 (doN 19 (doN 6 a 0) (doN 6 b 0)) 0), decide (doN 19 a b = doN 6 (doN 18 (doN 6 a 0) (doN 6 b 0)) 0), decide (doN 16 a b = 1) == decide (a = b)] (rb true)
theorem tOrder (a b c : Int) : runT B lAll Tryd.f12 [i64 a, i64 b, i64 c] [] =
    bif fails (decide (w64 (w64 (doN 12 a b + doN 14 a b) + doN 16 a b) = 1)) then rb false else bif decide (doN 12 a b < 0) then rb false else bif decide (doN 14 a b < 0) then rb false else bif decide (doN 16 a b < 0) then rb false
    else bif fails (decide (doN 13 a b = w64 (1 - doN 14 a b))) then rb false else bif fails (decide (doN 15 a b = w64 (1 - doN 12 a b))) then rb false else bif fails (decide (doN 17 a b = w64 (1 - doN 16 a b))) then rb false
    else bif decide (doN 12 a b = 1) then (bif decide (doN 12 b c = 1) then (bif fails (decide (doN 12 a c = 1)) then rb false else tail5 a b) else tail5 a b) else tail5 a b := by kernel_rfl
theorem ti_cases (p : Bool) : (p = true ∧ ti p = 1) ∨ (p = false ∧ ti p = 0) := by cases p <;> simp [ti]
theorem w64_1 : w64 1 = 1 := by decide
theorem w64_0 : w64 0 = 0 := by decide
theorem tail_true {a b : Int} (ha : Rng a) (hb : Rng b) : tail5 a b = rb true := by
  refine chain_true fun p hp => ?_
  have ra : Rng (ti (decide (a = 0))) := by unfold Rng; rcases ti_cases (decide (a = 0)) with ⟨_, h⟩ | ⟨_, h⟩ <;> omega
  have rb' : Rng (ti (decide (b = 0))) := by unfold Rng; rcases ti_cases (decide (b = 0)) with ⟨_, h⟩ | ⟨_, h⟩ <;> omega
  simp only [not2, d6, d16, d18, d19, or_zero ha hb, or_zero ra rb', List.mem_cons, List.mem_nil_iff, or_false] at hp
  rcases hp with rfl | rfl | rfl | rfl | rfl | rfl
  all_goals
    by_cases h1 : a = 0 <;> by_cases h2 : b = 0 <;> by_cases h3 : a = b <;> first | (exfalso; omega) | (simp [h1, h2, h3, ti, w64_1]; done) | (subst h1; simp [h3, ti]; done)
theorem order_true {a b c : Int} (ha : Rng a) (hb : Rng b) : runT B lAll Tryd.f12 [i64 a, i64 b, i64 c] [] = rb true := by
  refine (tOrder a b c).trans ?_
  rw [tail_true ha hb]
  simp only [d12, d13, d14, d15, d16, d17]
  by_cases h1 : a < b
  · have e1 : ¬ b < a := by omega
    have e2 : ¬ a = b := by omega
    have e3 : a ≤ b := by omega
    have e4 : ¬ b ≤ a := by omega
    by_cases h2 : b < c
    · have e5 : a < c := by omega
      simp [h1, h2, e1, e2, e3, e4, e5, ti, fails, w64_1, w64_0]
    · simp [h1, h2, e1, e2, e3, e4, ti, fails, w64_1, w64_0]
  · by_cases h2 : b < a
    · have e2 : ¬ a = b := by omega
      have e3 : ¬ a ≤ b := by omega
      have e4 : b ≤ a := by omega
      simp [h1, h2, e2, e3, e4, ti, fails, w64_1, w64_0]
    · have e2 : a = b := by omega
      subst e2
      simp [ti, fails, w64_1, w64_0]
end Go.Proofs.YtbccnahpdmaocaaDoor
