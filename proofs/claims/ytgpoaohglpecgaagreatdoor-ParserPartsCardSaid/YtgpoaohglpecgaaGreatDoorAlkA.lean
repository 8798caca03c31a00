/-
  Queries compared, but for places: ref08.Alike by contract.
-/
import Derived.Test.YtgpoaohglpecgaaGreatDoorParB
import Derived.Test.YtgpoaohglpecgaaGreatDoorExA
import Derived.Test.YtgpoaohglpecgaaGreatDoorPureB
namespace Go.Proofs.YtgpoaohglpecgaaGreatDoor.Pr
open Go.Am Go Go.Proofs.YtgpoaohglpecgaaGreatDoor
set_option maxRecDepth 100000
variable {B : Nat → Option Obj}
def fbQ (b : Bool) (z : Option Out) : Option Out := bif b then z else rb false
def rS (b : Bool) (z : Option Out) : Option Out := bif b then z else none
def winE (p q : Qry) : Bool := decide (p.wk = q.wk) && (decide (p.ws = q.ws) && (decide (p.we = q.we) && true))
def shQ (p : Qry) : Bool := decide (p.arg.length ≤ 1000 ∧ p.src.length ≤ 1000 ∧ p.whr.length ≤ 1000)
def sAlk : FSpec
  | [.agg [.int .u8 ag, .slw 0, .slw 1, .bool j, .slw 2, .int .u8 wk, .int .i64 ws, .int .i64 we, .bool bk, .int .u8 lt], .agg [.int .u8 ag', .slw 3, .slw 4, .bool j', .slw 5, .int .u8 wk', .int .i64 ws', .int .i64 we', .bool bk', .int .u8 lt']], [⟨false, .nodes A⟩, ⟨false, .ints .i64 S⟩, ⟨false, .nodes W⟩, ⟨false, .nodes A'⟩, ⟨false, .ints .i64 S'⟩, ⟨false, .nodes W'⟩] =>
    .node (shQ ⟨ag, A, S, j, W, wk, ws, we, bk, lt⟩) (.leaf ⟨[.bool (alkB ⟨ag, A, S, j, W, wk, ws, we, bk, lt⟩ ⟨ag', A', S', j', W', wk', ws', we', bk', lt'⟩)], []⟩) .bad
  | _, _ => .bad
end Go.Proofs.YtgpoaohglpecgaaGreatDoor.Pr
