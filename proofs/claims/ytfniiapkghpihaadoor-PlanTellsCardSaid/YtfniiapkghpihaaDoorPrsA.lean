/-
  Texts put together: PrsMake, BackIter, PrsSign, PrsPre.
-/
import Derived.Test.YtfniiapkghpihaaDoorNodB
import Derived.Test.YtfniiapkghpihaaDoorExA
import Derived.Test.YtfniiapkghpihaaDoorWordFn
import Derived.Test.YtfniiapkghpihaaDoorNodBase
import Derived.Test.YtfniiapkghpihaaDoorLibA
/-
  Exprs: make by contract.
-/
namespace Go.Proofs.YtfniiapkghpihaaDoor
open Go.Am
set_option maxRecDepth 100000
variable {B : Nat → Option Obj}
/-! the contract -/
noncomputable def lib9 : Tb := lib8
theorem lib9_ok : TbOk B lib9 := lib8_ok
end Go.Proofs.YtfniiapkghpihaaDoor
/-
  Exprs: the iterator of slices.Backward[[]int]: walked.
-/
namespace Go.Proofs.YtfniiapkghpihaaDoor
open Go.RowKit Go.Shelf Go.Lib
attribute [local go_sem] Oper.semAt_some

/-- what a round keeps: the slice's box, its array -/
def KpS (Bn bk : Nat) (A B : World) : Prop := B.heap[Bn]? = A.heap[Bn]? ∧ B.heap[bk]? = A.heap[bk]?
theorem KpS.t {Bn bk : Nat} {A B C : World} (h : KpS Bn bk A B) (k : KpS Bn bk B C) : KpS Bn bk A C := ⟨k.1.trans h.1, k.2.trans h.2⟩
end Go.Proofs.YtfniiapkghpihaaDoor
/-
  Exprs: the signs in front of an operand: a loop by contract.
-/
namespace Go.Proofs.YtfniiapkghpihaaDoor
open Go.Am
set_option maxRecDepth 100000
variable {B : Nat → Option Obj}
end Go.Proofs.YtfniiapkghpihaaDoor
/-
  Exprs: front, up to its range over a function.
-/
namespace Go.Proofs.YtfniiapkghpihaaDoor
open Go.Am
set_option maxRecDepth 100000
variable {B : Nat → Option Obj}
/-! what a part of the parser gives -/
noncomputable def lib10 (_ : Nat) : Tb := lib9
noncomputable def lib11 (k : Nat) : Tb := lib10 k
/-! a round -/
end Go.Proofs.YtfniiapkghpihaaDoor
