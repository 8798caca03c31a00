/-
  Chars: the iterator of strings.FieldsSeq, on ASCII bytes: walked.
-/
import Derived.RangeFuncNested
import Derived.RangeFuncLeaves
import Derived.Shelf.Abstract
import Derived.WalkKit
import Derived.OwnWalkIn
import Derived.TacticsInMore
import Derived.LoopNIn
import Derived.LoopIn
import Derived.Lib.FieldsLaws
import Derived.Deep.LoopGhost
import Derived.Test.YtdckpbeioemopaaProg
namespace Go.Proofs.Ytdckpbeioemopaa
open Go.RowKit Go.Shelf Go.Lib
attribute [local go_sem] Oper.semAt_some
def mkS (l : List UInt8) : ByteArray := ⟨l.toArray⟩
def words (s : ByteArray) : List ByteArray := (fields s.data.toList).map mkS
end Go.Proofs.Ytdckpbeioemopaa
