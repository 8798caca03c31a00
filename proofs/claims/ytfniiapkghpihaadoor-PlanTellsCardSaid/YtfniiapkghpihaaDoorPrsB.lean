/-
  Texts put together: PrsFront, PrsFront2, PrsFront3, PrsPlain, PrsGood.
-/
import Derived.Test.YtfniiapkghpihaaDoorPrsA
import Derived.Test.YtfniiapkghpihaaDoorExA
/-
  Exprs: front by contract: a range over a function.
-/
namespace Go.Proofs.YtfniiapkghpihaaDoor
open Go.Am Go
set_option maxRecDepth 100000
variable {B : Nat → Option Obj}
/-! the rounds -/
structure PSt where
  at' : Int
  e : Int
  X : List Nod
def PSt.fit (s : PSt) : Prop := s.e = 0 → chkN s.X = 0
end Go.Proofs.YtfniiapkghpihaaDoor
/-
  Exprs: front's range over a function, run.
-/
namespace Go.Proofs.YtfniiapkghpihaaDoor
open Go.Am Go Go.Shelf
set_option maxRecDepth 100000
attribute [local go_sem] Oper.semAt_some
variable {B : Nat → Option Obj}
end Go.Proofs.YtfniiapkghpihaaDoor
/-
  Exprs: front, called.
-/
namespace Go.Proofs.YtfniiapkghpihaaDoor
open Go.Am Go Go.Shelf
set_option maxRecDepth 100000
variable {B : Nat → Option Obj}
end Go.Proofs.YtfniiapkghpihaaDoor
/-
  Exprs: what front's rounds make: the plain law.
-/
namespace Go.Proofs.YtfniiapkghpihaaDoor
open Go.Am
/-! what the parser gives is good -/
end Go.Proofs.YtfniiapkghpihaaDoor
/-
  Exprs: front by contract.
-/
namespace Go.Proofs.YtfniiapkghpihaaDoor
open Go.Am
set_option maxRecDepth 100000
variable {B : Nat → Option Obj}
/-! front -/
end Go.Proofs.YtfniiapkghpihaaDoor
