/-
  Texts put together: ParVal, ParVal2.
-/
import Derived.Test.YtdckpbeioemopabGreatDoorAlkA
import Derived.Test.YtdckpbeioemopabGreatDoorLitA
import Derived.Test.YtdckpbeioemopabGreatDoorChtA
namespace Go.Proofs.YtdckpbeioemopabGreatDoor.Vl
open Go.Am Go Go.Proofs.YtdckpbeioemopabGreatDoor Go.Proofs.YtdckpbeioemopabGreatDoor.Pr
set_option maxRecDepth 100000
variable {B : Nat → Option Obj}
noncomputable def lib1 : Tb := (45, [], sAlk) :: (11, [], sPar) :: (25, [], Lx.sAll) :: Ck.lib15
def sgA : LSig := { cs := [(4, 0), (6, 51)], mv := [(9, 0), (10, 0)], mo := [(9, 0)], take := [] }
end Go.Proofs.YtdckpbeioemopabGreatDoor.Vl
namespace Go.Proofs.YtdckpbeioemopabGreatDoor.Vl
open Go.Am Go Go.Proofs.YtdckpbeioemopabGreatDoor Go.Proofs.YtdckpbeioemopabGreatDoor.Pr
set_option maxRecDepth 100000
variable {B : Nat → Option Obj}
def ct (L : List Tok) : Int := (tkA L (w64 ((L.length : Int) - 1))).pos
def upT (s : List UInt8) : List UInt8 := (s.take (ct (lexL s)).toNat).drop 0
def okAl (s : List UInt8) : Option Out := bif !decide (prE (upT s) = 0) then rb true else rS (shQ (prQ (upT s))) (bif !alkB (prQ (upT s)) (prQ s) then rb true else rb false)
end Go.Proofs.YtdckpbeioemopabGreatDoor.Vl
