/-
  Chars: the laws' runs.
-/
import Derived.Test.YtbccnahpdmaocaaDoorCharsSym
namespace Go.Proofs.YtbccnahpdmaocaaDoor
open Go.Am
set_option maxRecDepth 100000
variable {B : Nat → Option Obj}
theorem tNames : runT B lib3 Tryd.f3 [] [] = rb true := by kernel_rfl
end Go.Proofs.YtbccnahpdmaocaaDoor
