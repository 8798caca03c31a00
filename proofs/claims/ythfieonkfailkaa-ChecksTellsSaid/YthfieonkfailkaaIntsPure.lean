/-
  Ints: plain laws of wrapped integers.
-/
import Derived.Test.YthfieonkfailkaaPlain
namespace Go.Am

def w64 (n : Int) : Int := IntKind.i64.wrap n
def ti (b : Bool) : Int := bif b then 1 else 0
theorem w64_eq (n : Int) : w64 n = (n + 9223372036854775808) % 18446744073709551616 - 9223372036854775808 := IntKind.wrap_i64 n
theorem w64_is (n : Int) : IntKind.i64.wrap n = w64 n := rfl
theorem w64_rng {n : Int} (h : Rng n) : w64 n = n := by unfold Rng at h; rw [w64_eq]; omega
theorem rng_w64 (n : Int) : Rng (w64 n) := by unfold Rng; rw [w64_eq]; omega
theorem w64_add (n q : Int) : w64 (n + 18446744073709551616 * q) = w64 n := by rw [w64_eq, w64_eq]; omega
/-- a wrapped number is the number and a multiple of 2^64 -/
theorem w64_mod (n : Int) : ∃ q, w64 n = n + 18446744073709551616 * q := by
  rw [w64_eq]
  exact ⟨-((n + 9223372036854775808) / 18446744073709551616), by omega⟩
theorem w64_mul_r (a p : Int) : w64 (a * w64 p) = w64 (a * p) := by
  obtain ⟨q, hq⟩ := w64_mod p
  rw [hq, Int.mul_add, ← Int.mul_assoc, Int.mul_comm a 18446744073709551616, Int.mul_assoc]
  exact w64_add _ _
theorem w64_mul_l (a p : Int) : w64 (w64 a * p) = w64 (a * p) := by rw [Int.mul_comm, w64_mul_r, Int.mul_comm]
theorem w64_add_r (a p : Int) : w64 (a + w64 p) = w64 (a + p) := by
  obtain ⟨q, hq⟩ := w64_mod p
  rw [hq, ← Int.add_assoc]; exact w64_add _ _
theorem w64_add_l (a p : Int) : w64 (w64 a + p) = w64 (a + p) := by rw [Int.add_comm, w64_add_r, Int.add_comm]
def and63 (b : Int) : Int := IntKind.i64.wrap ((BitVec.ofInt IntKind.i64.bits b) &&& (BitVec.ofInt IntKind.i64.bits 63)).toNat
theorem and63_eq (b : Int) : and63 b = b % 64 := by
  have h : ((BitVec.ofInt IntKind.i64.bits b) &&& (BitVec.ofInt IntKind.i64.bits 63)).toNat = (b % 18446744073709551616).toNat % 64 := by
    rw [BitVec.toNat_and, BitVec.toNat_ofInt, BitVec.toNat_ofInt]
    show (b % 18446744073709551616).toNat &&& 63 = _
    exact Nat.and_two_pow_sub_one_eq_mod _ 6
  unfold and63
  rw [h]
  show w64 _ = _
  rw [w64_rng (by unfold Rng; omega)]
  omega
def or64 (a b : Int) : Int := IntKind.i64.wrap ((BitVec.ofInt IntKind.i64.bits a) ||| (BitVec.ofInt IntKind.i64.bits b)).toNat
theorem or_zero {a b : Int} (ha : Rng a) (hb : Rng b) : decide (or64 a b = 0) = (decide (a = 0) && decide (b = 0)) := by
  rw [← Bool.decide_and, decide_eq_decide]
  unfold or64
  generalize hx : (BitVec.ofInt IntKind.i64.bits a ||| BitVec.ofInt IntKind.i64.bits b) = x
  have hlt : x.toNat < 18446744073709551616 := x.isLt
  rw [IntKind.wrap_i64]
  have h1 : x.toNat = 0 ↔ x = 0#_ := by rw [BitVec.toNat_eq]; rfl
  have hz : ∀ c : Int, -9223372036854775808 ≤ c ∧ c ≤ 9223372036854775807 → (BitVec.ofInt IntKind.i64.bits c = 0#_ ↔ c = 0) := by
    intro c hc
    rw [BitVec.toNat_eq, BitVec.toNat_ofInt]
    show (c % 18446744073709551616).toNat = 0 ↔ _
    omega
  have h2 : x = 0#_ ↔ a = 0 ∧ b = 0 := by rw [← hx, BitVec.or_eq_zero_iff, hz a ha, hz b hb]
  rw [← h2, ← h1]
  omega
/-- what an operator gives -/
def doN (k a b : Int) : Int :=
  bif decide (k = 5) then w64 (0 - a) else bif decide (k = 6) then ti (decide (a = 0)) else bif decide (k = 7) then w64 (a * b) else bif decide (k = 8) then w64 (a + b) else bif decide (k = 9) then w64 (a - b)
  else bif decide (k = 10) then w64 (a * 2 ^ (b % 64).toNat) else bif decide (k = 11) then a.fdiv (2 ^ (b % 64).toNat)
  else bif decide (k = 12) then ti (decide (a < b)) else bif decide (k = 13) then ti (decide (a ≤ b)) else bif decide (k = 14) then ti (decide (b < a)) else bif decide (k = 15) then ti (decide (b ≤ a))
  else bif decide (k = 16) then ti (decide (a = b)) else bif decide (k = 17) then ti (!decide (a = b)) else bif decide (k = 18) then ti (!decide (a = 0) && !decide (b = 0)) else bif decide (k = 19) then ti (!decide (or64 a b = 0)) else 0
def doE (k : Int) : Int := bif decide (5 ≤ k) && decide (k ≤ 19) then 0 else 2
def sDo : FSpec
  | [.int .u8 k, .int .i64 a, .int .i64 b], [] => .leaf ⟨[.int .i64 (doN k a b), .int .i64 (doE k)], []⟩
  | _, _ => .bad
def chain : List Bool → Option Out → Option Out
  | [], o => o
  | p :: r, o => bif p then chain r o else rb false
theorem chain_true {l : List Bool} {o : Option Out} (h : ∀ p ∈ l, p = true) : chain l o = o := by
  induction l with
  | nil => rfl
  | cons p r ih =>
    unfold chain
    rw [h p (List.mem_cons_self ..), cond_true]
    exact ih fun q hq => h q (List.mem_cons_of_mem _ hq)
def fails (p : Bool) : Bool := bif p then false else true
end Go.Am
