/-
  Queries compared, but for places: ref08.Alike by contract.
-/
import Derived.Test.YtdckpbeioemopabGreatDoorParB
import Derived.Test.YtdckpbeioemopabGreatDoorExA
import Derived.Test.YtdckpbeioemopabGreatDoorPureB
namespace Go.Proofs.YtdckpbeioemopabGreatDoor.Pr
open Go.Am Go Go.Proofs.YtdckpbeioemopabGreatDoor
set_option maxRecDepth 100000
variable {B : Nat → Option Obj}
def fbQ (b : Bool) (z : Option Out) : Option Out := bif b then z else rb false
def rS (b : Bool) (z : Option Out) : Option Out := bif b then z else none
def winE (p q : Qry) : Bool := decide (p.wk = q.wk) && (decide (p.ws = q.ws) && (decide (p.we = q.we) && true))
theorem all2_eq : ∀ L M : List Int, all2 Ck.eqInt L M = decide (L = M)
  | [], [] => rfl
  | [], _ :: _ => rfl
  | _ :: _, [] => rfl
  | x :: L, y :: M => by
    show (decide (x = y) && all2 Ck.eqInt L M) = _
    rw [all2_eq L M]
    by_cases h1 : x = y <;> by_cases h2 : L = M <;> simp [h1, h2]
def shQ (p : Qry) : Bool := decide (p.arg.length ≤ 1000 ∧ p.src.length ≤ 1000 ∧ p.whr.length ≤ 1000)
def sAlk : FSpec
  | [.agg [.int .u8 ag, .slw 0, .slw 1, .bool j, .slw 2, .int .u8 wk, .int .i64 ws, .int .i64 we, .bool bk, .int .u8 lt], .agg [.int .u8 ag', .slw 3, .slw 4, .bool j', .slw 5, .int .u8 wk', .int .i64 ws', .int .i64 we', .bool bk', .int .u8 lt']], [⟨false, .nodes A⟩, ⟨false, .ints .i64 S⟩, ⟨false, .nodes W⟩, ⟨false, .nodes A'⟩, ⟨false, .ints .i64 S'⟩, ⟨false, .nodes W'⟩] =>
    .node (shQ ⟨ag, A, S, j, W, wk, ws, we, bk, lt⟩) (.leaf ⟨[.bool (alkB ⟨ag, A, S, j, W, wk, ws, we, bk, lt⟩ ⟨ag', A', S', j', W', wk', ws', we', bk', lt'⟩)], []⟩) .bad
  | _, _ => .bad
end Go.Proofs.YtdckpbeioemopabGreatDoor.Pr
