/-
  Texts put together: PrsMake, BackIter, PrsSign, PrsPre.
-/
import Derived.Test.YtdckpbeioemopaaNodB
import Derived.Test.YtdckpbeioemopaaExA
import Derived.Test.YtdckpbeioemopaaWordFn
import Derived.Test.YtdckpbeioemopaaNodBase
import Derived.Test.YtdckpbeioemopaaLibA
namespace Go.Proofs.Ytdckpbeioemopaa
open Go.Am
set_option maxRecDepth 100000
variable {B : Nat → Option Obj}
noncomputable def lib9 : Tb := lib8
end Go.Proofs.Ytdckpbeioemopaa
namespace Go.Proofs.Ytdckpbeioemopaa
open Go.RowKit Go.Shelf Go.Lib
attribute [local go_sem] Oper.semAt_some
end Go.Proofs.Ytdckpbeioemopaa
namespace Go.Proofs.Ytdckpbeioemopaa
open Go.Am
set_option maxRecDepth 100000
variable {B : Nat → Option Obj}
def isB (L : List Tok) (s : List UInt8) (at' : Int) {α : Type} (x y : Option α) : Option α := bif decide (at' < (L.length : Int)) then inb' at' L.length (bif !decide ((L.getD at'.toNat default).kind = 1) then inb' at' L.length (bif decide ((L.getD at'.toNat default).text = s) then x else y) else y) else y
end Go.Proofs.Ytdckpbeioemopaa
namespace Go.Proofs.Ytdckpbeioemopaa
open Go.Am
set_option maxRecDepth 100000
variable {B : Nat → Option Obj}
noncomputable def lib10 (_ : Nat) : Tb := lib9
noncomputable def lib11 (k : Nat) : Tb := lib10 k
def lB : Blk := ⟨true, .gen [23] [[.slw 5]]⟩
def opsOf : Code → Array Oper
  | .region _ ops _ => ops
  | .block _ c => opsOf c
  | .rangeFunc _ _ _ b => opsOf b
  | _ => #[]
end Go.Proofs.Ytdckpbeioemopaa
