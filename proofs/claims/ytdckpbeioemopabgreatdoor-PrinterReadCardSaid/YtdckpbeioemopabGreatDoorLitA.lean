/-
  Texts put together: LitBase, LitAl.
-/
import Derived.Test.YtdckpbeioemopabGreatDoorTxA
import Derived.Test.YtdckpbeioemopabGreatDoorClsA
import Derived.Test.YtdckpbeioemopabGreatDoorLawA
import Derived.Test.YtdckpbeioemopabGreatDoorParA
namespace Go.Proofs.YtdckpbeioemopabGreatDoor
open Go.Am Go
set_option maxRecDepth 100000
variable {B : Nat → Option Obj}
end Go.Proofs.YtdckpbeioemopabGreatDoor
namespace Go.Proofs.YtdckpbeioemopabGreatDoor
open Go.Am Go
set_option maxRecDepth 100000
variable {B : Nat → Option Obj}
end Go.Proofs.YtdckpbeioemopabGreatDoor
