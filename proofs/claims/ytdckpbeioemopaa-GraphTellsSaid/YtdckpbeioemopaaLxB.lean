/-
  Texts put together: LexFn, LexAll, LexRef, LexJo, LexLong.
-/
import Derived.Test.YtdckpbeioemopaaLxA
import Derived.Test.YtdckpbeioemopaaPureA
namespace Go.Proofs.Ytdckpbeioemopaa.Lx
open Go.Am
set_option maxRecDepth 100000
variable {B : Nat → Option Obj}
def r1 (n : Int) : Option Out := some ⟨[i64 n], []⟩
def av (t : Tok) : AV := .agg [.int .u8 t.kind, .str t.text, .int .i64 t.pos]
noncomputable def lib7 : Tb := lib6
end Go.Proofs.Ytdckpbeioemopaa.Lx
namespace Go.Proofs.Ytdckpbeioemopaa.Lx
open Go.Am
set_option maxRecDepth 100000
variable {B : Nat → Option Obj}
noncomputable def lib8 : Tb := lib7
end Go.Proofs.Ytdckpbeioemopaa.Lx
namespace Go.Proofs.Ytdckpbeioemopaa.Lx
open Go.Am
set_option maxRecDepth 100000
variable {B : Nat → Option Obj}
noncomputable def lib9 : Tb := lib8
noncomputable def lib10 : Tb := lib9
noncomputable def lib11 : Tb := lib10
end Go.Proofs.Ytdckpbeioemopaa.Lx
namespace Go.Proofs.Ytdckpbeioemopaa.Lx
open Go.Am
set_option maxRecDepth 100000
variable {B : Nat → Option Obj}
noncomputable def lib12 : Tb := lib11
def okJn (L : List Tok) (n i : Int) (X : List (List UInt8)) : Bool := decide (n = (L.length : Int) ∧ 0 ≤ i ∧ i ≤ n ∧ n ≤ 1000 ∧ (X.length : Int) ≤ i + 1000) && shortT L
def so (s : List UInt8) (e : Int) : Option Out := some ⟨[.str s, i64 e], []⟩
def sJn : FSpec
  | [.slw 0], [⟨false, .toks L⟩] => .node (shortT L) (.leaf ⟨[.str (jS L), i64 (jE L)], []⟩) .bad
  | _, _ => .bad
noncomputable def lib13 : Tb := lib12
end Go.Proofs.Ytdckpbeioemopaa.Lx
namespace Go.Proofs.Ytdckpbeioemopaa.Lx
open Go.Am
set_option maxRecDepth 100000
variable {B : Nat → Option Obj}
end Go.Proofs.Ytdckpbeioemopaa.Lx
