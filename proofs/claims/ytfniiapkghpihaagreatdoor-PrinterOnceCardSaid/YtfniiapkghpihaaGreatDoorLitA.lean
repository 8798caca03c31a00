/-
  Texts put together: LitBase, LitChk, ChkTyped, LitChk2.
-/
import Derived.Test.YtfniiapkghpihaaGreatDoorTxA
import Derived.Test.YtfniiapkghpihaaGreatDoorClsA
import Derived.Test.YtfniiapkghpihaaGreatDoorLawA
import Derived.Test.YtfniiapkghpihaaGreatDoorParA
/-
  What the laws' examples ask: a table of all that is told; the examples.
-/
namespace Go.Proofs.YtfniiapkghpihaaGreatDoor
open Go.Am Go
set_option maxRecDepth 100000
variable {B : Nat → Option Obj}
noncomputable def libE : Tb := (81, [], Pr.sExprP') :: (108, [], Pr.sNum) :: (83, [], Pr.sTake) :: (80, [], Pr.sNeed) :: (128, [], Pr.sIn) :: (104, [], Lx.sRead) :: (95, [], sParse) :: (53, [], Lx.sAll) :: (75, [], sFormat) :: (37, [], sTq) :: (69, [], sExprP) :: Ck.lb6
theorem libE_ok (hB : Laid B) : TbOk B libE := ((((((((((Ck.lb6_ok.add (okExprP hB)).add (okTq hB)).add (formatOk hB)).add (Lx.okAll hB)).add (okParse hB)).add (Lx.okRead hB)).add Pr.okIn).add Pr.okNeed).add Pr.okTake).add (Pr.okNum hB)).add (Pr.okExprQ hB)
theorem okTrue {f : FuncId} {fn : Func} (hB : Laid B) (h1 : Tryz.prog.funcs[f]? = some fn) (h2 : fn.body = some (bodyC fn)) (h3 : (fn.name == "runtime.NumGoroutine") = false) (h : runT B libE fn [] [] = rb true) : FnOk (E0 B) f sTrueF := by
  refine fnT (libE_ok hB) h1 h2 h3 fun vs bs r h' => ?_
  unfold sTrueF at h'
  split at h'
  · simp only [T.sel, Option.some.injEq] at h'; subst h'; exact h
  · simp [T.sel] at h'
end Go.Proofs.YtfniiapkghpihaaGreatDoor
/-
  Checks: the examples; ChecksNames.
-/
namespace Go.Proofs.YtfniiapkghpihaaGreatDoor
open Go.Am Go
set_option maxRecDepth 100000
variable {B : Nat → Option Obj}
end Go.Proofs.YtfniiapkghpihaaGreatDoor
/-
  ChecksTyped: what the law answers.
-/
namespace Go.Proofs.YtfniiapkghpihaaGreatDoor
open Go.Am Go Go.Proofs.YtfniiapkghpihaaGreatDoor.Kd
set_option maxRecDepth 100000
variable {B : Nat → Option Obj}
def fbQ (b : Bool) (z : Option Out) : Option Out := bif b then z else rb false
/-! ChecksBare -/
theorem clk_inv {q : Qry} (h : clkE q = 0) : (decide (q.agg < 1) || decide (4 < q.agg) || (!decide (q.late = 1) && !decide (q.late = 2))) = false ∧ (q.agg = 1 → q.arg = []) ∧ (q.agg ≠ 1 → chkN q.arg = 0) ∧ (0 < q.whr.length → chkN q.whr = 0) ∧ srcE q.src q.join = 0 ∧ (!fitsW q.wk q.ws q.we || (q.join && !decide (q.wk = 1))) = false := by
  unfold clkE at h
  cases h1 : (decide (q.agg < 1) || decide (4 < q.agg) || (!decide (q.late = 1) && !decide (q.late = 2))) with
  | true => rw [h1] at h; cases h
  | false =>
  rw [h1, cond_false] at h
  cases h2 : (decide (q.agg = 1) && decide (0 < q.arg.length)) with
  | true => rw [h2] at h; cases h
  | false =>
  rw [h2, cond_false] at h
  cases h3 : (!decide (q.agg = 1) && !decide (chkN q.arg = 0)) with
  | true => rw [h3, cond_true] at h; simp only [Bool.and_eq_true, Bool.not_eq_true', decide_eq_false_iff_not] at h3; exact (h3.2 h).elim
  | false =>
  rw [h3, cond_false] at h
  cases h4 : (decide (0 < q.whr.length) && !decide (chkN q.whr = 0)) with
  | true => rw [h4, cond_true] at h; simp only [Bool.and_eq_true, Bool.not_eq_true', decide_eq_false_iff_not] at h4; exact (h4.2 h).elim
  | false =>
  rw [h4, cond_false] at h
  cases h5 : (!decide (srcE q.src q.join = 0)) with
  | true => rw [h5, cond_true] at h; simp only [Bool.not_eq_true', decide_eq_false_iff_not] at h5; exact (h5 h).elim
  | false =>
  rw [h5, cond_false] at h
  cases h6 : (!fitsW q.wk q.ws q.we || (q.join && !decide (q.wk = 1))) with
  | true => rw [h6] at h; cases h
  | false =>
  simp only [Bool.and_eq_false_iff, decide_eq_false_iff_not, Bool.not_eq_false', decide_eq_true_eq] at h2 h3 h4 h5
  exact ⟨rfl, fun ha => List.length_eq_zero_iff.1 (by omega), fun ha => h3.resolve_left ha, fun hw => h4.resolve_left (fun g => g hw), h5, rfl⟩
theorem clk_mk {q : Qry} (h1 : (decide (q.agg < 1) || decide (4 < q.agg) || (!decide (q.late = 1) && !decide (q.late = 2))) = false) (h2 : q.agg = 1 → q.arg = []) (h3 : q.agg ≠ 1 → chkN q.arg = 0) (h4 : 0 < q.whr.length → chkN q.whr = 0) (h5 : srcE q.src q.join = 0) (h6 : (!fitsW q.wk q.ws q.we || (q.join && !decide (q.wk = 1))) = false) : clkE q = 0 := by
  have e2 : (decide (q.agg = 1) && decide (0 < q.arg.length)) = false := by
    by_cases ha : q.agg = 1
    · rw [h2 ha]; simp
    · rw [decide_eq_false ha]; rfl
  have e3 : (!decide (q.agg = 1) && !decide (chkN q.arg = 0)) = false := by
    by_cases ha : q.agg = 1
    · rw [decide_eq_true ha]; rfl
    · rw [decide_eq_true (h3 ha)]; simp
  have e4 : (decide (0 < q.whr.length) && !decide (chkN q.whr = 0)) = false := by
    by_cases hw : 0 < q.whr.length
    · rw [decide_eq_true (h4 hw)]; simp
    · rw [decide_eq_false hw]; rfl
  unfold clkE
  rw [h1, e2, e3, e4, h5, h6]; rfl
end Go.Proofs.YtfniiapkghpihaaGreatDoor
/-
  ChecksNames.
-/
namespace Go.Proofs.YtfniiapkghpihaaGreatDoor
open Go.Am Go
set_option maxRecDepth 100000
variable {B : Nat → Option Obj}
end Go.Proofs.YtfniiapkghpihaaGreatDoor
