/-
  Chars: CharsKinds' run.
-/
import Derived.Test.YtbccnahpdmaocaaDoorCharsSym
namespace Go.Proofs.YtbccnahpdmaocaaDoor
open Go.Am
set_option maxRecDepth 100000
variable {B : Nat → Option Obj}
theorem tKinds : runT B lib3 Tryd.f5 [] [] = rb true := by kernel_rfl
end Go.Proofs.YtbccnahpdmaocaaDoor
