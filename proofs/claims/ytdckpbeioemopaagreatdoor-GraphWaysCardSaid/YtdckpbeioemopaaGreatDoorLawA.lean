/-
  Texts put together: PrsLaws, PrsLawB, PrsWeak, PrsAsk.
-/
import Derived.Test.YtdckpbeioemopaaGreatDoorPrsD
import Derived.Test.YtdckpbeioemopaaGreatDoorPureB
import Derived.Test.YtdckpbeioemopaaGreatDoorLxB
namespace Go.Proofs.YtdckpbeioemopaaGreatDoor
open Go.Am
set_option maxRecDepth 100000
variable {B : Nat → Option Obj}
end Go.Proofs.YtdckpbeioemopaaGreatDoor
namespace Go.Proofs.YtdckpbeioemopaaGreatDoor
open Go.Am Go
set_option maxRecDepth 100000
variable {B : Nat → Option Obj}
def sTrueF : FSpec
  | [], [] => .leaf ⟨[.bool true], []⟩
  | _, _ => .bad
structure Lexd (l : List Pc) : Prop where
  tk : lexL (pcsS l) = pcsT 0 l
  e : lexE (pcsS l) = 0
  s : shortT (pcsT 0 l) = true
  v : (pcsT 0 l).all okV = true
  n : (pcsT 0 l).length ≤ 200
end Go.Proofs.YtdckpbeioemopaaGreatDoor
namespace Go.Proofs.YtdckpbeioemopaaGreatDoor
open Go.Am Go
set_option maxRecDepth 100000
variable {B : Nat → Option Obj}
def sAllG : FSpec
  | [.str s], [] => .node (decide (lexE s = 0)) (.leaf ⟨[.slw 0, .int .i64 (lexN s), .int .i64 0], [⟨true, .toks (lexL s)⟩]⟩) .bad
  | _, _ => .bad
def sParseG : FSpec
  | [.slw 0, .int .i64 at'], [⟨false, .toks L⟩] => .node (shortT L && decide (zE L at' = 0)) (.leaf ⟨[.slw 0, .int .i64 (zN L at'), .int .i64 0], [⟨true, .nodes (zX L at')⟩]⟩) .bad
  | _, _ => .bad
def sNodeG : FSpec
  | [.int .u8 k, .int .i64 0, .int .i64 p, .slw 0], [⟨false, .gen [t] [[.slw 1], [.slw 2]]⟩, ⟨false, .nodes L⟩, ⟨false, .nodes M⟩] => .node (Nat.beq t 23 && (decide (7 ≤ k ∧ k ≤ 19 ∧ 0 ≤ p ∧ p ≤ 400) && (decide (chkN L = 0) && (decide (chkN M = 0) && decide (chkN (biL k p L M) = 0))))) (.leaf ⟨[.slw 0, .int .i64 0], [⟨true, .nodes (biL k p L M)⟩]⟩) .bad
  | _, _ => .bad
noncomputable def libW : Tb := (99, [], sParseG) :: (55, [], sAllG) :: (162, [], sNodeG) :: lib5
end Go.Proofs.YtdckpbeioemopaaGreatDoor
namespace Go.Proofs.YtdckpbeioemopaaGreatDoor
open Go.Am Go
set_option maxRecDepth 100000
variable {B : Nat → Option Obj}
noncomputable def libA : Tb := lib5
def longT (L : List Tok) : Bool := L.all fun t => decide (t.text.length ≤ Lx.lim2)
def spAk : LSpec
  | [.slw 0, .int .i64 i], [⟨false, .toks L⟩] => .node (decide (i = 0 ∧ L.length ≤ 200) && longT L) (.node (L.all okV) (.leaf (.exit 0, ⟨[.any], []⟩)) (.leaf (.ret, ⟨[i64 8], []⟩))) .bad
  | _, _ => .bad
def rI (n : Int) : Option Out := some ⟨[i64 n], []⟩
end Go.Proofs.YtdckpbeioemopaaGreatDoor
