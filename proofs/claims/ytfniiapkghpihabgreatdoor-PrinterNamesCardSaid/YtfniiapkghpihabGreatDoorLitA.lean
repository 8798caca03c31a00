/-
  Texts put together: LitBase, LitPrt.
-/
import Derived.Test.YtfniiapkghpihabGreatDoorTxA
import Derived.Test.YtfniiapkghpihabGreatDoorClsA
import Derived.Test.YtfniiapkghpihabGreatDoorLawA
import Derived.Test.YtfniiapkghpihabGreatDoorParA
/-
  What the laws' examples ask: a table of all that is told; the examples.
-/
namespace Go.Proofs.YtfniiapkghpihabGreatDoor
open Go.Am Go
set_option maxRecDepth 100000
variable {B : Nat → Option Obj}
noncomputable def libE : Tb := (41, [], Pr.sExprP') :: (72, [], Pr.sNum) :: (43, [], Pr.sTake) :: (40, [], Pr.sNeed) :: (87, [], Pr.sIn) :: (63, [], Lx.sRead) :: (17, [], sParse) :: (16, [], Lx.sAll) :: (48, [], sFormat) :: (8, [], sTq) :: (9, [], sExprP) :: Ck.lb6
theorem libE_ok (hB : Laid B) : TbOk B libE := ((((((((((Ck.lb6_ok.add (okExprP hB)).add (okTq hB)).add (formatOk hB)).add (Lx.okAll hB)).add (okParse hB)).add (Lx.okRead hB)).add Pr.okIn).add Pr.okNeed).add Pr.okTake).add (Pr.okNum hB)).add (Pr.okExprQ hB)
end Go.Proofs.YtfniiapkghpihabGreatDoor
/-
  PrinterNames.
-/
namespace Go.Proofs.YtfniiapkghpihabGreatDoor
open Go.Am Go
set_option maxRecDepth 100000
variable {B : Nat → Option Obj}
noncomputable def libPn : Tb := (10, [], sNode) :: libE
theorem libPn_ok (hB : Laid B) : TbOk B libPn := (libE_ok hB).add okNode
theorem tNames11 : runT B libPn Tryz.f3 [] [] = rb true := by kernel_rfl
theorem okNames11 (hB : Laid B) : FnOk (E0 B) 3 (sTrue0 B) := by
  refine fnT (libPn_ok hB) Tryz.func3 (by kernel_rfl) (by kernel_rfl) fun vs bs r h => ?_
  unfold sTrue0 at h
  split at h
  · simp only [T.sel, Option.some.injEq] at h; subst h; exact tNames11
  · simp [T.sel] at h
end Go.Proofs.YtfniiapkghpihabGreatDoor
