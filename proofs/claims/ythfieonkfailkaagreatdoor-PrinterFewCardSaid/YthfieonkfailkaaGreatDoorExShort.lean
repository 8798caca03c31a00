/-
  Expressions: plain words: as few brackets as there have to be are not more than all.
-/
import Derived.Test.YthfieonkfailkaaGreatDoorExA
namespace Go.Am
open Go.Lib
theorem brT_le {b b' : Bool} {s s' : List UInt8} (hb : b = true → b' = true) (h : s.length ≤ s'.length) : (brT b s).length ≤ (brT b' s').length := by
  unfold brT
  cases b <;> cases b' <;> simp at hb ⊢ <;> omega
theorem line_lt {k : Int} (k1 : 7 ≤ k) : lineK k < 9 := by
  unfold lineK
  rw [decide_eq_false (show ¬ k ≤ 4 by omega), decide_eq_false (show ¬ k = 5 by omega), decide_eq_false (show ¬ k = 6 by omega)]
  cases decide (k = 7) <;> cases decide (k ≤ 9) <;> cases decide (k ≤ 11) <;> cases decide (k ≤ 17) <;> cases decide (k = 18) <;> decide
theorem pcs_short : ∀ (e : Ex) (n m : Nat), e.ok = true → n ≤ m → (pcsS (e.pcs false [] n)).length ≤ (pcsS (e.pcs true [] m)).length
  | .leaf k a p, n, m, _, _ => by unfold Ex.pcs; cases decide (k = 1) <;> exact Nat.le_refl _
  | .un k p e, n, m, ho, h => by
    obtain ⟨_, _, ho⟩ := Ex.ok_un ho
    unfold Ex.pcs
    rw [pcsS_brk, pcsS_brk]
    refine brT_le (fun hb => decide_eq_true (by have := of_decide_eq_true hb; omega)) ?_
    have i1 := pcs_short e 8 9 ho (by omega)
    have i2 := pcs_short e 3 9 ho (by omega)
    cases decide (k = 5)
    · simp only [cond_false, pcsS, subL, cond_true, List.nil_append, List.length_append]
      rw [pcs_gapS false e [32], pcs_gapS true e [32]]
      simp only [List.length_append]
      omega
    · simp only [cond_true, pcsS, subL, cond_false, List.nil_append, List.length_append]
      rw [pcs_gapS true e [32]]
      simp only [List.length_append]
      omega
  | .bin k p a b, n, m, ho, h => by
    obtain ⟨k1, _, oa, ob⟩ := Ex.ok_bin ho
    unfold Ex.pcs
    rw [pcsS_brk, pcsS_brk]
    refine brT_le (fun hb => decide_eq_true (by have := of_decide_eq_true hb; omega)) ?_
    have hk := line_lt k1
    have hl : leftL k ≤ 9 := by unfold leftL; cases decide (lineK k = 4) with | true => exact (by omega : 5 ≤ 9) | false => exact lineK_le k
    have i1 := pcs_short a (leftL k) 9 oa hl
    have i2 := pcs_short b (lineK k + 1) 9 ob (by omega)
    simp only [pcsS, pcsS_app, subL, cond_true, cond_false, List.length_append]
    rw [pcs_gapS false b [32], pcs_gapS true b [32]]
    simp only [List.length_append]
    omega
end Go.Am
