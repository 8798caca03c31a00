/-
  Texts put together: PrsLaws, PrsLawB, PrsWeak, PrsAsk.
-/
import Derived.Test.YtdckpbeioemopaaPrsD
import Derived.Test.YtdckpbeioemopaaPureB
import Derived.Test.YtdckpbeioemopaaLxB
namespace Go.Proofs.Ytdckpbeioemopaa
open Go.Am
set_option maxRecDepth 100000
variable {B : Nat → Option Obj}
end Go.Proofs.Ytdckpbeioemopaa
namespace Go.Proofs.Ytdckpbeioemopaa
open Go.Am Go
set_option maxRecDepth 100000
variable {B : Nat → Option Obj}
structure Lexd (l : List Pc) : Prop where
  tk : lexL (pcsS l) = pcsT 0 l
  e : lexE (pcsS l) = 0
  s : shortT (pcsT 0 l) = true
  v : (pcsT 0 l).all okV = true
  n : (pcsT 0 l).length ≤ 200
end Go.Proofs.Ytdckpbeioemopaa
namespace Go.Proofs.Ytdckpbeioemopaa
open Go.Am Go
set_option maxRecDepth 100000
variable {B : Nat → Option Obj}
end Go.Proofs.Ytdckpbeioemopaa
namespace Go.Proofs.Ytdckpbeioemopaa
open Go.Am Go
set_option maxRecDepth 100000
variable {B : Nat → Option Obj}
def rI (n : Int) : Option Out := some ⟨[i64 n], []⟩
end Go.Proofs.Ytdckpbeioemopaa
