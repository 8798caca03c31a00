/-
  Ints: what the laws' helpers compute.
-/
import Derived.Test.YtbccnahpdmaocabDoorIntsBase
namespace Go.Proofs.YtbccnahpdmaocabDoor
open Go.Am
set_option maxRecDepth 100000
variable {B : Nat → Option Obj}
noncomputable abbrev Sx (B : Nat → Option Obj) (l : List (FuncId × List Nat × FSpec)) : FuncId → Option (List Nat × FSpec) := textS (E0 B) l (fun _ => []) 300 12
noncomputable abbrev Cx (B : Nat → Option Obj) (l : List (FuncId × List Nat × FSpec)) : CallR := specC (E0 B) (Sx B l)
noncomputable abbrev runT (B : Nat → Option Obj) (l : List (FuncId × List Nat × FSpec)) (fn : Func) (vs : List AV) (bs : List Blk) : Option Out := (fnRun (E0 B) (Cx B l) (inlL (E0 B) (Cx B l) 300) fn (bodyC fn) vs bs).sel
theorem tAlive : runT B lib0 Tryd.f4 [] [] = some ⟨[.bool true], []⟩ := by kernel_rfl
end Go.Proofs.YtbccnahpdmaocabDoor
