/-
  Texts put together: PrtTx, PrtTx2, PrtWs.
-/
import Derived.Test.YtgpoaohglpecgaaGreatDoorRefA
namespace Go.Proofs.YtgpoaohglpecgaaGreatDoor
open Go.Am Go
set_option maxRecDepth 100000
variable {B : Nat → Option Obj}
def app9 {α : Type} (l : List (List UInt8)) (m : List (List UInt8)) (f : List (List UInt8) → Option α) : Option α := bif decide (l.length + m.length ≤ lim) then f (l ++ m) else none
def btW (j : Bool) : List UInt8 := bif j then [106, 111, 105, 110] else [117, 110, 105, 111, 110]
def gS (S : List Int) (i : Int) : Int := S.getD i.toNat 0
def wdT (j : Bool) : List (List UInt8) → List Int → List (List UInt8)
  | l, [] => l
  | l, x :: r => wdT j (l ++ [btW j] ++ [nmS x]) r
def wdF (j : Bool) (l : List (List UInt8)) : List Int → List (List UInt8)
  | [] => l
  | x :: r => wdT j (l ++ [nmS x]) r
end Go.Proofs.YtgpoaohglpecgaaGreatDoor
namespace Go.Proofs.YtgpoaohglpecgaaGreatDoor
open Go.Am Go
set_option maxRecDepth 100000
variable {B : Nat → Option Obj}
def wkL : List (List UInt8) := [[116, 117, 109, 98, 108, 101], [115, 108, 105, 100, 101], [115, 101, 115, 115, 105, 111, 110]]
def in1 {α : Type} (i : Int) (n : Nat) (r : Option α) : Option α := bif decide (0 ≤ i ∧ i < (n : Int)) then r else none
def tx9 (s : List UInt8) (e : Int) : Option Out := some ⟨[.str s, i64 e], []⟩
def xJ (l : List (List UInt8)) : Option Out := bif decide (l.length ≤ lim ∧ (Lib.join l [32]).length ≤ lim) then (bif !decide (lexE (Lib.join l [32]) = 0) then tx9 [] 18 else tx9 (Lib.join l [32]) 0) else none
def xL (lt : Int) (l : List (List UInt8)) : Option Out := bif decide (lt = 2) then app9 l [[108, 97, 116, 101], [115, 105, 100, 101]] xJ else xJ l
def xK (bk : Bool) (lt : Int) (l : List (List UInt8)) : Option Out := bif bk then app9 l [[98, 121], [107, 101, 121]] (xL lt) else xL lt l
def xE (wk we : Int) (bk : Bool) (lt : Int) (l : List (List UInt8)) : Option Out := bif decide (wk = 2) then (bif rng64 we && true then app9 l [[101, 118, 101, 114, 121], Lib.itoa we] (xK bk lt) else none) else xK bk lt l
def xW (q : Qry) (l : List (List UInt8)) : Option Out := in1 (u8 (q.wk - 1)) 3 (bif rng64 q.ws && true then app9 l [[119, 105, 110, 100, 111, 119], wkL.getD (u8 (q.wk - 1)).toNat [], Lib.itoa q.ws] (xE q.wk q.we q.byKey q.late) else none)
def xR (q : Qry) (l : List (List UInt8)) : Option Out := bif decide ((0 : Int) < (q.whr.length : Int)) then (bif rngX q.whr then app9 l [[119, 104, 101, 114, 101], prS q.whr] (xW q) else none) else xW q l
def xA (q : Qry) (g a : List UInt8) : Option Out := cat9 g [40] fun s => cat9 s a fun s => cat9 s [41] fun s =>
  bif decide (qTy = qTy) && (decide ((0 : Int) = 0 ∧ (q.src.length : Int) = (q.src.length : Int) ∧ q.src.length ≤ 4 ∧ ([[115, 101, 108, 101, 99, 116], s, [102, 114, 111, 109]] : List (List UInt8)).length ≤ 1000) && q.src.all inR) then xR q (wdF q.join [[115, 101, 108, 101, 99, 116], s, [102, 114, 111, 109]] q.src) else none
end Go.Proofs.YtgpoaohglpecgaaGreatDoor
namespace Go.Proofs.YtgpoaohglpecgaaGreatDoor
open Go.Am Go
set_option maxRecDepth 100000
variable {B : Nat → Option Obj}
theorem srcE_inv {l : List Int} {j : Bool} (h : srcE l j = 0) : l.length ≤ 4 ∧ 0 < l.length ∧ l.all inR = true := by
  unfold srcE at h
  cases h1 : decide (4 < l.length) with
  | true => rw [h1] at h; cases h
  | false =>
    rw [h1, cond_false] at h
    have h1 := of_decide_eq_false h1
    cases h2 : (decide (l.length = 0) || (j && !decide (l.length = 2))) with
    | true => rw [h2] at h; cases h
    | false =>
      rw [h2, cond_false] at h
      rw [Bool.or_eq_false_iff] at h2
      have h0 := of_decide_eq_false h2.1
      cases h3 : l.all inR with
      | false => rw [h3] at h; cases h
      | true => exact ⟨by omega, by omega, rfl⟩
theorem fitsW_inv {k s e : Int} (h : fitsW k s e = true) : 1 ≤ k ∧ k ≤ 3 ∧ Rng s ∧ Rng e := by
  unfold fitsW at h
  rw [Bool.and_eq_true, Bool.and_eq_true, decide_eq_true_eq, decide_eq_true_eq] at h
  obtain ⟨s1, s2, h⟩ := h
  by_cases hk : k = 2
  · rw [decide_eq_true hk, cond_true, Bool.and_eq_true, Bool.and_eq_true, decide_eq_true_eq, decide_eq_true_eq, decide_eq_true_eq] at h
    unfold Rng
    omega
  · rw [decide_eq_false hk, cond_false, Bool.and_eq_true, Bool.or_eq_true, decide_eq_true_eq, decide_eq_true_eq, decide_eq_true_eq] at h
    unfold Rng
    omega
theorem qok_of {q : Qry} (h : clkE q = 0) (hA : rngX q.arg = true) (hW : rngX q.whr = true) : QOk q := by
  unfold clkE at h
  cases c1 : (decide (q.agg < 1) || decide (4 < q.agg) || (!decide (q.late = 1) && !decide (q.late = 2))) with
  | true => rw [c1] at h; cases h
  | false =>
  rw [c1, cond_false] at h
  simp only [Bool.or_eq_false_iff, decide_eq_false_iff_not] at c1
  cases c2 : (decide (q.agg = 1) && decide (0 < q.arg.length)) with
  | true => rw [c2] at h; cases h
  | false =>
  rw [c2, cond_false] at h
  cases c3 : (!decide (q.agg = 1) && !decide (chkN q.arg = 0)) with
  | true =>
    rw [c3, cond_true] at h
    rw [Bool.and_eq_true, Bool.not_eq_true', Bool.not_eq_true', decide_eq_false_iff_not, decide_eq_false_iff_not] at c3
    exact (c3.2 h).elim
  | false =>
  rw [c3, cond_false] at h
  cases c4 : (decide (0 < q.whr.length) && !decide (chkN q.whr = 0)) with
  | true =>
    rw [c4, cond_true] at h
    rw [Bool.and_eq_true, Bool.not_eq_true', decide_eq_false_iff_not] at c4
    exact (c4.2 h).elim
  | false =>
  rw [c4, cond_false] at h
  cases c5 : (!decide (srcE q.src q.join = 0)) with
  | true =>
    rw [c5, cond_true] at h
    rw [Bool.not_eq_true', decide_eq_false_iff_not] at c5
    exact (c5 h).elim
  | false =>
  rw [c5, cond_false] at h
  rw [Bool.not_eq_false', decide_eq_true_eq] at c5
  obtain ⟨s1, s2, s3⟩ := srcE_inv c5
  cases c6 : fitsW q.wk q.ws q.we with
  | false => rw [c6] at h; cases h
  | true =>
  obtain ⟨f1, f2, f3, f4⟩ := fitsW_inv c6
  refine ⟨by omega, by omega, fun ha => ?_, hA, fun hw => ?_, hW, s1, s2, s3, f1, f2, f3, f4⟩
  · rw [decide_eq_false ha, Bool.not_false, Bool.true_and, Bool.not_eq_false', decide_eq_true_eq] at c3; exact c3
  · rw [decide_eq_true hw, Bool.true_and, Bool.not_eq_false', decide_eq_true_eq] at c4; exact c4
end Go.Proofs.YtgpoaohglpecgaaGreatDoor
