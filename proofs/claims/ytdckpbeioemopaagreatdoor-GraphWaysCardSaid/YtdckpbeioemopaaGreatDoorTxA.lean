/-
  Texts put together: PrtTx, PrtTx2, PrtWs.
-/
import Derived.Test.YtdckpbeioemopaaGreatDoorRefA
namespace Go.Proofs.YtdckpbeioemopaaGreatDoor
open Go.Am Go
set_option maxRecDepth 100000
variable {B : Nat → Option Obj}
end Go.Proofs.YtdckpbeioemopaaGreatDoor
namespace Go.Proofs.YtdckpbeioemopaaGreatDoor
open Go.Am Go
set_option maxRecDepth 100000
variable {B : Nat → Option Obj}
end Go.Proofs.YtdckpbeioemopaaGreatDoor
namespace Go.Proofs.YtdckpbeioemopaaGreatDoor
open Go.Am Go
set_option maxRecDepth 100000
variable {B : Nat → Option Obj}
end Go.Proofs.YtdckpbeioemopaaGreatDoor
