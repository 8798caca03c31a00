/-
  Texts put together: AmBuild, AmBuild2, AmDefer, AmArg.
-/
import Derived.Test.YtdckpbeioemopabGreatDoorLibA
import Derived.Shelf.Strings.Builder1
import Derived.Defers
import Derived.Deep.Slices
import Derived.Carry
namespace Go.Am
open Go.RowKit
section
variable {ρ : Rho} {h : Heap} {w : World}
end
section
variable {E : Env} {w : World} {bs : List Blk} {ps : List Pos}
end
end Go.Am
namespace Go.Am
open Go.RowKit Go.Shelf Go.Proofs
section
variable {P : Program} {ρ : Ren}
end
end Go.Am
namespace Go.Am
section
variable {E : Env} {ρ : Rho} {h : Heap} {w w' : World} {C : CallR} {L : LoopR}
end
end Go.Am
namespace Go.Am
open Go.RowKit Go.WideShapes Go.ChangeShapes
section
variable {H : Type} {enc : TypeId × Value → H} {P : Program} {w : World} {base : Nat} {spare : Nat → Bool} {held : Bool}
end
section
variable {H : Type} {enc : TypeId × Value → H} {P : Program} {w : World} {base : Nat} {spare : Nat → Bool} {held : Bool}
end
end Go.Am
