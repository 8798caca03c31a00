/-
  Texts put together: PrtTx, PrtTx2, PrtWs.
-/
import Derived.Test.YtfniiapkghpihaaDoorRefA
/-
  Printer: Text's loop by contract.
-/
namespace Go.Proofs.YtfniiapkghpihaaDoor
open Go.Am Go
set_option maxRecDepth 100000
variable {B : Nat → Option Obj}
def gS (S : List Int) (i : Int) : Int := S.getD i.toNat 0
theorem gS_is {S : List Int} {i : Nat} {x : Int} {r : List Int} (hd : S.drop i = x :: r) : gS S i = x ∧ i < S.length := by
  have hlt : i < S.length := by
    have := congrArg List.length hd
    simp only [List.length_drop, List.length_cons] at this
    omega
  refine ⟨?_, hlt⟩
  unfold gS
  rw [Int.toNat_natCast, List.getD_eq_getElem?_getD]
  have h0 : (S.drop i)[0]? = S[i]? := by rw [List.getElem?_drop, Nat.add_zero]
  rw [← h0, hd]; rfl
end Go.Proofs.YtfniiapkghpihaaDoor
/-
  Printer: Text by contract.
-/
namespace Go.Proofs.YtfniiapkghpihaaDoor
open Go.Am Go
set_option maxRecDepth 100000
variable {B : Nat → Option Obj}
def tx9 (s : List UInt8) (e : Int) : Option Out := some ⟨[.str s, i64 e], []⟩
/-! what it is -/
theorem rng64_of {n : Int} (h : Rng n) : rng64 n = true := by simpa [rng64, Rng] using h
end Go.Proofs.YtfniiapkghpihaaDoor
/-
  PrinterWrites: Text, Expr and their references by contract.
-/
namespace Go.Proofs.YtfniiapkghpihaaDoor
open Go.Am Go
set_option maxRecDepth 100000
variable {B : Nat → Option Obj}
theorem srcE_inv {l : List Int} {j : Bool} (h : srcE l j = 0) : l.length ≤ 4 ∧ 0 < l.length ∧ l.all inR = true := by
  unfold srcE at h
  cases h1 : decide (4 < l.length) with
  | true => rw [h1] at h; cases h
  | false =>
    rw [h1, cond_false] at h
    have h1 := of_decide_eq_false h1
    cases h2 : (decide (l.length = 0) || (j && !decide (l.length = 2))) with
    | true => rw [h2] at h; cases h
    | false =>
      rw [h2, cond_false] at h
      rw [Bool.or_eq_false_iff] at h2
      have h0 := of_decide_eq_false h2.1
      cases h3 : l.all inR with
      | false => rw [h3] at h; cases h
      | true => exact ⟨by omega, by omega, rfl⟩
theorem fitsW_inv {k s e : Int} (h : fitsW k s e = true) : 1 ≤ k ∧ k ≤ 3 ∧ Rng s ∧ Rng e := by
  unfold fitsW at h
  rw [Bool.and_eq_true, Bool.and_eq_true, decide_eq_true_eq, decide_eq_true_eq] at h
  obtain ⟨s1, s2, h⟩ := h
  by_cases hk : k = 2
  · rw [decide_eq_true hk, cond_true, Bool.and_eq_true, Bool.and_eq_true, decide_eq_true_eq, decide_eq_true_eq, decide_eq_true_eq] at h
    unfold Rng
    omega
  · rw [decide_eq_false hk, cond_false, Bool.and_eq_true, Bool.or_eq_true, decide_eq_true_eq, decide_eq_true_eq, decide_eq_true_eq] at h
    unfold Rng
    omega
theorem qok_of {q : Qry} (h : clkE q = 0) (hA : rngX q.arg = true) (hW : rngX q.whr = true) : QOk q := by
  unfold clkE at h
  cases c1 : (decide (q.agg < 1) || decide (4 < q.agg) || (!decide (q.late = 1) && !decide (q.late = 2))) with
  | true => rw [c1] at h; cases h
  | false =>
  rw [c1, cond_false] at h
  simp only [Bool.or_eq_false_iff, decide_eq_false_iff_not] at c1
  cases c2 : (decide (q.agg = 1) && decide (0 < q.arg.length)) with
  | true => rw [c2] at h; cases h
  | false =>
  rw [c2, cond_false] at h
  cases c3 : (!decide (q.agg = 1) && !decide (chkN q.arg = 0)) with
  | true =>
    rw [c3, cond_true] at h
    rw [Bool.and_eq_true, Bool.not_eq_true', Bool.not_eq_true', decide_eq_false_iff_not, decide_eq_false_iff_not] at c3
    exact (c3.2 h).elim
  | false =>
  rw [c3, cond_false] at h
  cases c4 : (decide (0 < q.whr.length) && !decide (chkN q.whr = 0)) with
  | true =>
    rw [c4, cond_true] at h
    rw [Bool.and_eq_true, Bool.not_eq_true', decide_eq_false_iff_not] at c4
    exact (c4.2 h).elim
  | false =>
  rw [c4, cond_false] at h
  cases c5 : (!decide (srcE q.src q.join = 0)) with
  | true =>
    rw [c5, cond_true] at h
    rw [Bool.not_eq_true', decide_eq_false_iff_not] at c5
    exact (c5 h).elim
  | false =>
  rw [c5, cond_false] at h
  rw [Bool.not_eq_false', decide_eq_true_eq] at c5
  obtain ⟨s1, s2, s3⟩ := srcE_inv c5
  cases c6 : fitsW q.wk q.ws q.we with
  | false => rw [c6] at h; cases h
  | true =>
  obtain ⟨f1, f2, f3, f4⟩ := fitsW_inv c6
  refine ⟨by omega, by omega, fun ha => ?_, hA, fun hw => ?_, hW, s1, s2, s3, f1, f2, f3, f4⟩
  · rw [decide_eq_false ha, Bool.not_false, Bool.true_and, Bool.not_eq_false', decide_eq_true_eq] at c3; exact c3
  · rw [decide_eq_true hw, Bool.true_and, Bool.not_eq_false', decide_eq_true_eq] at c4; exact c4
/-! the reference's -/
end Go.Proofs.YtfniiapkghpihaaDoor
