/-
  Texts put together: LexBase, LexKind, LexRead.
-/
import Derived.Test.YtdckpbeioemopaaNodBase
import Derived.Test.YtdckpbeioemopaaProg
import Derived.Test.YtdckpbeioemopaaPureA
namespace Go.Proofs.Ytdckpbeioemopaa.Lx
open Go.Am
set_option maxRecDepth 100000
variable {B : Nat → Option Obj}
def digits : List UInt8 := [48, 49, 50, 51, 52, 53, 54, 55, 56, 57]
noncomputable def lib0 : Tb := []
end Go.Proofs.Ytdckpbeioemopaa.Lx
namespace Go.Proofs.Ytdckpbeioemopaa.Lx
open Go.Am
set_option maxRecDepth 100000
variable {B : Nat → Option Obj}
noncomputable def lib2 : Tb := lib0
noncomputable def lib3 : Tb := lib2
noncomputable def lib5 : Tb := lib3
end Go.Proofs.Ytdckpbeioemopaa.Lx
namespace Go.Proofs.Ytdckpbeioemopaa.Lx
open Go.Am
set_option maxRecDepth 100000
variable {B : Nat → Option Obj}
def rA (i : Int) (s : List UInt8) : Option (AExit × Out) := some (.normal, ⟨[.str s, i64 i], []⟩)
def sA : LSpec
  | [.str s, .int .i64 i], [] => .node (decide (0 ≤ i ∧ i ≤ s.length ∧ s.length ≤ lim)) (.node ((s.drop i.toNat).all isDig) (.leaf (.exit 0, ⟨[.any, .any], []⟩)) (.leaf (.ret, ⟨[i64 0, i64 12], []⟩))) .bad
  | _, _ => .bad
def okB (s : List UInt8) (i n : Int) : Bool := decide (0 ≤ i ∧ i ≤ s.length ∧ s.length ≤ lim ∧ 0 ≤ n ∧ n ≤ most) && (s.drop i.toNat).all isDig
def lastN (n : Int) : List UInt8 → Int
  | [] => n
  | c :: r => bif decide ((most - dg c).tdiv 10 < n) then n else lastN (10 * n + dg c) r
def sB : LSpec
  | [.str s, .int .i64 n, .int .i64 i], [] => .node (okB s i n) (.node (rdF n (s.drop i.toNat)).isSome (.leaf (.exit 2, ⟨[.any, .any, i64 (lastN n (s.drop i.toNat))], []⟩)) (.leaf (.ret, ⟨[i64 0, i64 16, i64 (lastN n (s.drop i.toNat))], []⟩))) .bad
  | _, _ => .bad
noncomputable def lib6 : Tb := lib5
end Go.Proofs.Ytdckpbeioemopaa.Lx
