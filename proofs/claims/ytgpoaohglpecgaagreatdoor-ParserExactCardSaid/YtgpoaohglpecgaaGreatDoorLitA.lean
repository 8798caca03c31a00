/-
  Texts put together: LitBase, LitAl.
-/
import Derived.Test.YtgpoaohglpecgaaGreatDoorTxA
import Derived.Test.YtgpoaohglpecgaaGreatDoorClsA
import Derived.Test.YtgpoaohglpecgaaGreatDoorLawA
import Derived.Test.YtgpoaohglpecgaaGreatDoorParA
namespace Go.Proofs.YtgpoaohglpecgaaGreatDoor
open Go.Am Go
set_option maxRecDepth 100000
variable {B : Nat → Option Obj}
noncomputable def libE : Tb := (109, [], Pr.sExprP') :: (150, [], Pr.sNum) :: (111, [], Pr.sTake) :: (108, [], Pr.sNeed) :: (188, [], Pr.sIn) :: (103, [], Lx.sRead) :: (27, [], sParse) :: (16, [], Lx.sAll) :: (127, [], sFormat) :: Ck.lb6
theorem libE_ok (hB : Laid B) : TbOk B libE := ((((((((Ck.lb6_ok.add (formatOk hB)).add (Lx.okAll hB)).add (okParse hB)).add (Lx.okRead hB)).add Pr.okIn).add Pr.okNeed).add Pr.okTake).add (Pr.okNum hB)).add (Pr.okExprQ hB)
theorem okTrue {f : FuncId} {fn : Func} (hB : Laid B) (h1 : Tryz.prog.funcs[f]? = some fn) (h2 : fn.body = some (bodyC fn)) (h3 : (fn.name == "runtime.NumGoroutine") = false) (h : runT B libE fn [] [] = rb true) : FnOk (E0 B) f sTrueF := by
  refine fnT (libE_ok hB) h1 h2 h3 fun vs bs r h' => ?_
  unfold sTrueF at h'
  split at h'
  · simp only [T.sel, Option.some.injEq] at h'; subst h'; exact h
  · simp [T.sel] at h'
end Go.Proofs.YtgpoaohglpecgaaGreatDoor
namespace Go.Proofs.YtgpoaohglpecgaaGreatDoor
open Go.Am Go
set_option maxRecDepth 100000
variable {B : Nat → Option Obj}
theorem tAl9 : runT B libE Tryz.f15 [] [] = rb true := by kernel_rfl
theorem okAl9 (hB : Laid B) : FnOk (E0 B) 15 sTrueF := okTrue hB Tryz.func15 (by kernel_rfl) (by kernel_rfl) tAl9
end Go.Proofs.YtgpoaohglpecgaaGreatDoor
