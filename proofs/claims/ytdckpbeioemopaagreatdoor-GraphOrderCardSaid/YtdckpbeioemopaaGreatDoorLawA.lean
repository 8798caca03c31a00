/-
  Texts put together: PrsLaws, PrsLawB, PrsWeak, PrsAsk.
-/
import Derived.Test.YtdckpbeioemopaaGreatDoorPrsD
import Derived.Test.YtdckpbeioemopaaGreatDoorPureB
import Derived.Test.YtdckpbeioemopaaGreatDoorLxB
namespace Go.Proofs.YtdckpbeioemopaaGreatDoor
open Go.Am
set_option maxRecDepth 100000
variable {B : Nat → Option Obj}
end Go.Proofs.YtdckpbeioemopaaGreatDoor
namespace Go.Proofs.YtdckpbeioemopaaGreatDoor
open Go.Am Go
set_option maxRecDepth 100000
variable {B : Nat → Option Obj}
def sTrueF : FSpec
  | [], [] => .leaf ⟨[.bool true], []⟩
  | _, _ => .bad
structure Lexd (l : List Pc) : Prop where
  tk : lexL (pcsS l) = pcsT 0 l
  e : lexE (pcsS l) = 0
  s : shortT (pcsT 0 l) = true
  v : (pcsT 0 l).all okV = true
  n : (pcsT 0 l).length ≤ 200
end Go.Proofs.YtdckpbeioemopaaGreatDoor
namespace Go.Proofs.YtdckpbeioemopaaGreatDoor
open Go.Am Go
set_option maxRecDepth 100000
variable {B : Nat → Option Obj}
end Go.Proofs.YtdckpbeioemopaaGreatDoor
namespace Go.Proofs.YtdckpbeioemopaaGreatDoor
open Go.Am Go
set_option maxRecDepth 100000
variable {B : Nat → Option Obj}
noncomputable def libA : Tb := lib5
def longT (L : List Tok) : Bool := L.all fun t => decide (t.text.length ≤ Lx.lim2)
def spAk : LSpec
  | [.slw 0, .int .i64 i], [⟨false, .toks L⟩] => .node (decide (i = 0 ∧ L.length ≤ 200) && longT L) (.node (L.all okV) (.leaf (.exit 0, ⟨[.any], []⟩)) (.leaf (.ret, ⟨[i64 8], []⟩))) .bad
  | _, _ => .bad
def rI (n : Int) : Option Out := some ⟨[i64 n], []⟩
end Go.Proofs.YtdckpbeioemopaaGreatDoor
