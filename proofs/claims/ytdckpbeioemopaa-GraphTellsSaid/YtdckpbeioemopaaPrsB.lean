/-
  Texts put together: PrsFront, PrsFront2, PrsFront3, PrsPlain, PrsGood.
-/
import Derived.Test.YtdckpbeioemopaaPrsA
import Derived.Test.YtdckpbeioemopaaExA
namespace Go.Proofs.Ytdckpbeioemopaa
open Go.Am Go
set_option maxRecDepth 100000
variable {B : Nat → Option Obj}
structure PSt where
  at' : Int
  e : Int
  X : List Nod
def PSt.fit (s : PSt) : Prop := s.e = 0 → chkN s.X = 0
end Go.Proofs.Ytdckpbeioemopaa
namespace Go.Proofs.Ytdckpbeioemopaa
open Go.Am Go Go.Shelf
set_option maxRecDepth 100000
attribute [local go_sem] Oper.semAt_some
variable {B : Nat → Option Obj}
end Go.Proofs.Ytdckpbeioemopaa
namespace Go.Proofs.Ytdckpbeioemopaa
open Go.Am Go Go.Shelf
set_option maxRecDepth 100000
variable {B : Nat → Option Obj}
end Go.Proofs.Ytdckpbeioemopaa
namespace Go.Proofs.Ytdckpbeioemopaa
open Go.Am
end Go.Proofs.Ytdckpbeioemopaa
namespace Go.Proofs.Ytdckpbeioemopaa
open Go.Am
set_option maxRecDepth 100000
variable {B : Nat → Option Obj}
end Go.Proofs.Ytdckpbeioemopaa
