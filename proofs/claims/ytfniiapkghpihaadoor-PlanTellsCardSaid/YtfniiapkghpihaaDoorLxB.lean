/-
  Texts put together: LexFn, LexAll, LexRef, LexJo, LexLong.
-/
import Derived.Test.YtfniiapkghpihaaDoorLxA
import Derived.Test.YtfniiapkghpihaaDoorPureA
/-
  Lexer: same, check, token by contract.
-/
namespace Go.Proofs.YtfniiapkghpihaaDoor.Lx
open Go.Am
set_option maxRecDepth 100000
variable {B : Nat → Option Obj}
/-! same -/
/-! check -/
def r1 (n : Int) : Option Out := some ⟨[i64 n], []⟩
/-! token -/
def av (t : Tok) : AV := .agg [.int .u8 t.kind, .str t.text, .int .i64 t.pos]
noncomputable def lib7 : Tb := lib6
theorem lib7_ok (hB : Laid B) : TbOk B lib7 := lib6_ok hB
end Go.Proofs.YtfniiapkghpihaaDoor.Lx
/-
  Lexer: token and All by contract.
-/
namespace Go.Proofs.YtfniiapkghpihaaDoor.Lx
open Go.Am
set_option maxRecDepth 100000
variable {B : Nat → Option Obj}
noncomputable def lib8 : Tb := lib7
theorem lib8_ok (hB : Laid B) : TbOk B lib8 := lib7_ok hB
/-! All -/
end Go.Proofs.YtfniiapkghpihaaDoor.Lx
/-
  Lexer: the reference's run, Next, All by contract.
-/
namespace Go.Proofs.YtfniiapkghpihaaDoor.Lx
open Go.Am
set_option maxRecDepth 100000
variable {B : Nat → Option Obj}
/-! run -/
noncomputable def lib9 : Tb := lib8
theorem lib9_ok (hB : Laid B) : TbOk B lib9 := lib8_ok hB
/-! Next -/
noncomputable def lib10 : Tb := lib9
theorem lib10_ok (hB : Laid B) : TbOk B lib10 := lib9_ok hB
/-! the reference's All -/
noncomputable def lib11 : Tb := lib10
theorem lib11_ok (hB : Laid B) : TbOk B lib11 := lib10_ok hB
end Go.Proofs.YtfniiapkghpihaaDoor.Lx
/-
  Lexer: Join, and what the reference asks of tokens: by contract.
-/
namespace Go.Proofs.YtfniiapkghpihaaDoor.Lx
open Go.Am
set_option maxRecDepth 100000
variable {B : Nat → Option Obj}
noncomputable def lib12 : Tb := lib11
theorem lib12_ok (hB : Laid B) : TbOk B lib12 := lib11_ok hB
def so (s : List UInt8) (e : Int) : Option Out := some ⟨[.str s, i64 e], []⟩
noncomputable def lib13 : Tb := lib12
theorem lib13_ok (hB : Laid B) : TbOk B lib13 := lib12_ok hB
end Go.Proofs.YtfniiapkghpihaaDoor.Lx
/-
  Lexer: the reference's Read, Longest and Valid by contract, for texts of any length.
-/
namespace Go.Proofs.YtfniiapkghpihaaDoor.Lx
open Go.Am
set_option maxRecDepth 100000
variable {B : Nat → Option Obj}
end Go.Proofs.YtfniiapkghpihaaDoor.Lx
