/-
  Texts put together: PrsIs, PrsPrim, PrsPrim2, PrsPrim3, PrsPrim4, PrsOper.
-/
import Derived.Test.YtdckpbeioemopaaPrsB
import Derived.Test.YtdckpbeioemopaaLxA
namespace Go.Proofs.Ytdckpbeioemopaa
open Go.Am
set_option maxRecDepth 100000
variable {B : Nat → Option Obj}
end Go.Proofs.Ytdckpbeioemopaa
namespace Go.Proofs.Ytdckpbeioemopaa
open Go.Am
set_option maxRecDepth 100000
variable {B : Nat → Option Obj}
end Go.Proofs.Ytdckpbeioemopaa
namespace Go.Proofs.Ytdckpbeioemopaa
open Go.Am
set_option maxRecDepth 100000
variable {B : Nat → Option Obj}
end Go.Proofs.Ytdckpbeioemopaa
namespace Go.Proofs.Ytdckpbeioemopaa
open Go.Am
set_option maxRecDepth 100000
end Go.Proofs.Ytdckpbeioemopaa
namespace Go.Proofs.Ytdckpbeioemopaa
open Go.Am
set_option maxRecDepth 100000
variable {B : Nat → Option Obj}
end Go.Proofs.Ytdckpbeioemopaa
namespace Go.Proofs.Ytdckpbeioemopaa
open Go.Am
set_option maxRecDepth 100000
variable {B : Nat → Option Obj}
noncomputable def lib12 (k : Nat) : Tb := lib11 k
end Go.Proofs.Ytdckpbeioemopaa
