/-
  Texts put together: PrtTx, PrtTx2, PrtWs.
-/
import Derived.Test.YtdckpbeioemopaaRefA
namespace Go.Proofs.Ytdckpbeioemopaa
open Go.Am Go
set_option maxRecDepth 100000
variable {B : Nat → Option Obj}
end Go.Proofs.Ytdckpbeioemopaa
namespace Go.Proofs.Ytdckpbeioemopaa
open Go.Am Go
set_option maxRecDepth 100000
variable {B : Nat → Option Obj}
end Go.Proofs.Ytdckpbeioemopaa
namespace Go.Proofs.Ytdckpbeioemopaa
open Go.Am Go
set_option maxRecDepth 100000
variable {B : Nat → Option Obj}
end Go.Proofs.Ytdckpbeioemopaa
