/-
  Texts put together: PrsIs, PrsPrim, PrsPrim2, PrsPrim3, PrsPrim4, PrsOper.
-/
import Derived.Test.YtfniiapkghpihaaDoorPrsB
import Derived.Test.YtfniiapkghpihaaDoorLxA
/-
  Exprs: is by contract.
-/
namespace Go.Proofs.YtfniiapkghpihaaDoor
open Go.Am
set_option maxRecDepth 100000
variable {B : Nat → Option Obj}
end Go.Proofs.YtfniiapkghpihaaDoor
/-
  Exprs: primary by contract.
-/
namespace Go.Proofs.YtfniiapkghpihaaDoor
open Go.Am
set_option maxRecDepth 100000
variable {B : Nat → Option Obj}
end Go.Proofs.YtfniiapkghpihaaDoor
/-
  Exprs: primary by contract: the plain law.
-/
namespace Go.Proofs.YtfniiapkghpihaaDoor
open Go.Am
set_option maxRecDepth 100000
variable {B : Nat → Option Obj}
end Go.Proofs.YtfniiapkghpihaaDoor
/-
  Exprs: primary by contract: brackets.
-/
namespace Go.Proofs.YtfniiapkghpihaaDoor
open Go.Am
set_option maxRecDepth 100000
end Go.Proofs.YtfniiapkghpihaaDoor
/-
  Exprs: primary by contract.
-/
namespace Go.Proofs.YtfniiapkghpihaaDoor
open Go.Am
set_option maxRecDepth 100000
variable {B : Nat → Option Obj}
end Go.Proofs.YtfniiapkghpihaaDoor
/-
  Exprs: operand by contract.
-/
namespace Go.Proofs.YtfniiapkghpihaaDoor
open Go.Am
set_option maxRecDepth 100000
variable {B : Nat → Option Obj}
noncomputable def lib12 (k : Nat) : Tb := lib11 k
end Go.Proofs.YtfniiapkghpihaaDoor
