/-
  Texts put together: NodMake, NodMake2, NodSame.
-/
import Derived.Test.YtdckpbeioemopaaNodA
import Derived.Test.YtdckpbeioemopaaLibA
import Derived.Test.YtdckpbeioemopaaExA
namespace Go.Proofs.Ytdckpbeioemopaa
open Go.Am
set_option maxRecDepth 100000
variable {B : Nat → Option Obj}
def inb' {α : Type} (i : Int) (n : Nat) (r : Option α) : Option α := bif decide (0 ≤ i ∧ i < (n : Int)) then (bif decide (i.toNat < n) then r else none) else none
def sPrt : FSpec
  | [.int .u8 k], [] => .leaf ⟨[.int .i64 (bif knOk k then prt k else 0), .int .i64 (bif knOk k then 0 else 2)], []⟩
  | _, _ => .bad
noncomputable def lib6 : Tb := (85, [], sPrt) :: lib5
def ob (L : List Nod) : Blk := ⟨true, .nodes L⟩
noncomputable def lib7 : Tb := lib6
end Go.Proofs.Ytdckpbeioemopaa
namespace Go.Proofs.Ytdckpbeioemopaa
open Go.Am
set_option maxRecDepth 100000
variable {B : Nat → Option Obj}
def bdN (e : Int) : Option Out := some ⟨[.slw 0, i64 e], [ob []]⟩
def qN (p : Int) (K : Option Out) : Option Out := bif decide (p < 0) then bdN 2 else bif decide (400 < p) then bdN 2 else K
def ndN (cnt k n p : Int) (K : Option Out) : Option Out := bif !decide ((bif knOk k then (0 : Int) else 2) = 0) then bdN 2 else bif !decide ((bif knOk k then prt k else 0) = cnt) then bdN 2 else bif decide (n < 0) then bdN 2 else
  bif decide (0 < n) then (bif !decide (k = 1) then bdN 2 else qN p K) else qN p K
noncomputable def lib8 : Tb := lib7
end Go.Proofs.Ytdckpbeioemopaa
namespace Go.Proofs.Ytdckpbeioemopaa
open Go.Am
set_option maxRecDepth 100000
variable {B : Nat → Option Obj}
def smB (X Y : List Nod) : Bool := decide (chkN X = 0) && (decide (chkN Y = 0) && all2 eqN X Y)
end Go.Proofs.Ytdckpbeioemopaa
