/-
  What the laws' examples ask: a table of all that is told; the examples.
-/
import Derived.Test.YtdckpbeioemopaaGreatDoorTxA
import Derived.Test.YtdckpbeioemopaaGreatDoorClsA
import Derived.Test.YtdckpbeioemopaaGreatDoorLawA
import Derived.Test.YtdckpbeioemopaaGreatDoorParA
namespace Go.Proofs.YtdckpbeioemopaaGreatDoor
open Go.Am Go
set_option maxRecDepth 100000
variable {B : Nat → Option Obj}
noncomputable def libE : Tb := (71, [], Pr.sExprP') :: (102, [], Pr.sNum) :: (73, [], Pr.sTake) :: (70, [], Pr.sNeed) :: (122, [], Pr.sIn) :: (97, [], Lx.sRead) :: (99, [], sParse) :: (55, [], Lx.sAll) :: Ck.lb6
theorem libE_ok (hB : Laid B) : TbOk B libE := ((((((((Ck.lb6_ok).add (Lx.okAll hB)).add (okParse hB)).add (Lx.okRead hB)).add Pr.okIn).add Pr.okNeed).add Pr.okTake).add (Pr.okNum hB)).add (Pr.okExprQ hB)
end Go.Proofs.YtdckpbeioemopaaGreatDoor
