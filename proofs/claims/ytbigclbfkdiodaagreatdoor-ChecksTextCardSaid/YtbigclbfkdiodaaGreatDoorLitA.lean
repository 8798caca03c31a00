/-
  Texts put together: LitBase, LitAl.
-/
import Derived.Test.YtbigclbfkdiodaaGreatDoorTxA
import Derived.Test.YtbigclbfkdiodaaGreatDoorClsA
import Derived.Test.YtbigclbfkdiodaaGreatDoorLawA
import Derived.Test.YtbigclbfkdiodaaGreatDoorParA
/-
  What the laws' examples ask: a table of all that is told; the examples.
-/
namespace Go.Proofs.YtbigclbfkdiodaaGreatDoor
open Go.Am Go
set_option maxRecDepth 100000
variable {B : Nat → Option Obj}
noncomputable def libE : Tb := (79, [], Pr.sExprP') :: (112, [], Pr.sNum) :: (81, [], Pr.sTake) :: (78, [], Pr.sNeed) :: (149, [], Pr.sIn) :: (73, [], Lx.sRead) :: (23, [], sParse) :: (12, [], Lx.sAll) :: (97, [], sFormat) :: (31, [], sTq) :: (63, [], sExprP) :: Ck.lb6
theorem libE_ok (hB : Laid B) : TbOk B libE := ((((((((((Ck.lb6_ok.add (okExprP hB)).add (okTq hB)).add (formatOk hB)).add (Lx.okAll hB)).add (okParse hB)).add (Lx.okRead hB)).add Pr.okIn).add Pr.okNeed).add Pr.okTake).add (Pr.okNum hB)).add (Pr.okExprQ hB)
theorem okTrue {f : FuncId} {fn : Func} (hB : Laid B) (h1 : Tryz.prog.funcs[f]? = some fn) (h2 : fn.body = some (bodyC fn)) (h3 : (fn.name == "runtime.NumGoroutine") = false) (h : runT B libE fn [] [] = rb true) : FnOk (E0 B) f sTrueF := by
  refine fnT (libE_ok hB) h1 h2 h3 fun vs bs r h' => ?_
  unfold sTrueF at h'
  split at h'
  · simp only [T.sel, Option.some.injEq] at h'; subst h'; exact h
  · simp [T.sel] at h'
end Go.Proofs.YtbigclbfkdiodaaGreatDoor
/-
  The examples of the parser, the checks, the printer.
-/
namespace Go.Proofs.YtbigclbfkdiodaaGreatDoor
open Go.Am Go
set_option maxRecDepth 100000
variable {B : Nat → Option Obj}
theorem tAl10 : runT B libE Tryz.f26 [] [] = rb true := by kernel_rfl
theorem okAl10 (hB : Laid B) : FnOk (E0 B) 26 sTrueF := okTrue hB Tryz.func26 (by kernel_rfl) (by kernel_rfl) tAl10
end Go.Proofs.YtbigclbfkdiodaaGreatDoor
