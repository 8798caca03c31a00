/-
  The same with the printer's functions; its examples.
-/
import Derived.Test.YtdckpbeioemopabGreatDoorTxA
import Derived.Test.YtdckpbeioemopabGreatDoorLitA
namespace Go.Proofs.YtdckpbeioemopabGreatDoor
open Go.Am Go
set_option maxRecDepth 100000
variable {B : Nat → Option Obj}
noncomputable def libEP : Tb := (72, [], Pr.sExprP') :: (112, [], Pr.sNum) :: (74, [], Pr.sTake) :: (71, [], Pr.sNeed) :: (141, [], Pr.sIn) :: (96, [], Lx.sRead) :: (26, [], sParse) :: (25, [], Lx.sAll) :: (68, [], sFormat) :: (10, [], sTq) :: (33, [], sExprP) :: Ck.lb6
theorem libEP_ok (hB : Laid B) : TbOk B libEP := ((((((((((Ck.lb6_ok.add (okExprP hB)).add (okTq hB)).add (formatOk hB)).add (Lx.okAll hB)).add (okParse hB)).add (Lx.okRead hB)).add Pr.okIn).add Pr.okNeed).add Pr.okTake).add (Pr.okNum hB)).add (Pr.okExprQ hB)
theorem okTrueP {f : FuncId} {fn : Func} (hB : Laid B) (h1 : Tryz.prog.funcs[f]? = some fn) (h2 : fn.body = some (bodyC fn)) (h3 : (fn.name == "runtime.NumGoroutine") = false) (h : runT B libEP fn [] [] = rb true) : FnOk (E0 B) f sTrueF := by
  refine fnT (libEP_ok hB) h1 h2 h3 fun vs bs r h' => ?_
  unfold sTrueF at h'
  split at h'
  · simp only [T.sel, Option.some.injEq] at h'; subst h'; exact h
  · simp [T.sel] at h'
theorem tAl11 : runT B libEP Tryz.f9 [] [] = rb true := by kernel_rfl
theorem okAl11 (hB : Laid B) : FnOk (E0 B) 9 sTrueF := okTrueP hB Tryz.func9 (by kernel_rfl) (by kernel_rfl) tAl11
end Go.Proofs.YtdckpbeioemopabGreatDoor
