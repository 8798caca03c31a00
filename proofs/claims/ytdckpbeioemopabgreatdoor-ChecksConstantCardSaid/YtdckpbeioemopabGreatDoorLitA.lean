/-
  Texts put together: LitBase, LitAl.
-/
import Derived.Test.YtdckpbeioemopabGreatDoorTxA
import Derived.Test.YtdckpbeioemopabGreatDoorClsA
import Derived.Test.YtdckpbeioemopabGreatDoorLawA
import Derived.Test.YtdckpbeioemopabGreatDoorParA
namespace Go.Proofs.YtdckpbeioemopabGreatDoor
open Go.Am Go
set_option maxRecDepth 100000
variable {B : Nat → Option Obj}
noncomputable def libE : Tb := (72, [], Pr.sExprP') :: (112, [], Pr.sNum) :: (74, [], Pr.sTake) :: (71, [], Pr.sNeed) :: (141, [], Pr.sIn) :: (96, [], Lx.sRead) :: (26, [], sParse) :: (25, [], Lx.sAll) :: (68, [], sFormat) :: Ck.lb6
theorem libE_ok (hB : Laid B) : TbOk B libE := ((((((((Ck.lb6_ok.add (formatOk hB)).add (Lx.okAll hB)).add (okParse hB)).add (Lx.okRead hB)).add Pr.okIn).add Pr.okNeed).add Pr.okTake).add (Pr.okNum hB)).add (Pr.okExprQ hB)
theorem okTrue {f : FuncId} {fn : Func} (hB : Laid B) (h1 : Tryz.prog.funcs[f]? = some fn) (h2 : fn.body = some (bodyC fn)) (h3 : (fn.name == "runtime.NumGoroutine") = false) (h : runT B libE fn [] [] = rb true) : FnOk (E0 B) f sTrueF := by
  refine fnT (libE_ok hB) h1 h2 h3 fun vs bs r h' => ?_
  unfold sTrueF at h'
  split at h'
  · simp only [T.sel, Option.some.injEq] at h'; subst h'; exact h
  · simp [T.sel] at h'
end Go.Proofs.YtdckpbeioemopabGreatDoor
namespace Go.Proofs.YtdckpbeioemopabGreatDoor
open Go.Am Go
set_option maxRecDepth 100000
variable {B : Nat → Option Obj}
theorem tAl10 : runT B libE Tryz.f17 [] [] = rb true := by kernel_rfl
theorem okAl10 (hB : Laid B) : FnOk (E0 B) 17 sTrueF := okTrue hB Tryz.func17 (by kernel_rfl) (by kernel_rfl) tAl10
end Go.Proofs.YtdckpbeioemopabGreatDoor
