/-
  Texts put together: LexBase, LexKind, LexRead.
-/
import Derived.Test.YtfniiapkghpihaaDoorNodBase
import Derived.Test.YtfniiapkghpihaaDoorLay
import Derived.Test.YtfniiapkghpihaaDoorPureA
/-
  Lexer: the library's functions by the shelf's contracts; Word by contract.
-/
namespace Go.Proofs.YtfniiapkghpihaaDoor.Lx
open Go.Am
set_option maxRecDepth 100000
variable {B : Nat → Option Obj}
def digits : List UInt8 := [48, 49, 50, 51, 52, 53, 54, 55, 56, 57]
noncomputable def lib0 : Tb := []
theorem lib0_ok (_hB : Laid B) : TbOk B lib0 := (TbOk.nil)
end Go.Proofs.YtfniiapkghpihaaDoor.Lx
/-
  Lexer: Kind, Symbol; the reference's Kind, Longest, Word: by contract.
-/
namespace Go.Proofs.YtfniiapkghpihaaDoor.Lx
open Go.Am
set_option maxRecDepth 100000
variable {B : Nat → Option Obj}
noncomputable def lib2 : Tb := lib0
theorem lib2_ok (hB : Laid B) : TbOk B lib2 := lib0_ok hB
noncomputable def lib3 : Tb := lib2
theorem lib3_ok (hB : Laid B) : TbOk B lib3 := lib2_ok hB
noncomputable def lib5 : Tb := lib3
theorem lib5_ok (hB : Laid B) : TbOk B lib5 := lib3_ok hB
end Go.Proofs.YtfniiapkghpihaaDoor.Lx
/-
  Lexer: Read and the reference's, by contract.
-/
namespace Go.Proofs.YtfniiapkghpihaaDoor.Lx
open Go.Am
set_option maxRecDepth 100000
variable {B : Nat → Option Obj}
/-! the program's Read -/
/-! the reference's Read -/
def sgA : LSig := { cs := [(0, 0)], mv := [(4, 0)], mo := [(2, 0), (3, 0)], take := [] }
def rA (i : Int) (s : List UInt8) : Option (AExit × Out) := some (.normal, ⟨[.str s, i64 i], []⟩)
noncomputable def lib6 : Tb := lib5
theorem lib6_ok (hB : Laid B) : TbOk B lib6 := lib5_ok hB
end Go.Proofs.YtfniiapkghpihaaDoor.Lx
