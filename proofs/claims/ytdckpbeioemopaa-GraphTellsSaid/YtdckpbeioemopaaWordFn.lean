/-
  Chars: Word: walked.
-/
import Derived.Test.YtdckpbeioemopaaWordIter
import Derived.Scope
import Derived.Lib.SlicesS
namespace Go.Proofs.Ytdckpbeioemopaa
open Go.RowKit Go.Shelf Go.Lib
attribute [local go_sem] Oper.semAt_some
section
variable {F : Fence} {n : Nat} {P : Program} {b : Frame} {a : Act} {k : List Item} {cs : List Frame} {w : World} {Q : Exit → Act → World → Prop}
end
def markOf (D : Nat) : Deferred := { target := .collected D, args := #[] }
structure Marks (W : World) (lo : Nat) (Ds : List Nat) : Prop where
  at' : ∀ D ∈ Ds, lo ≤ D ∧ W.heap[D]? = some (.deferred (some []))
  nd : Ds.Nodup
end Go.Proofs.Ytdckpbeioemopaa
