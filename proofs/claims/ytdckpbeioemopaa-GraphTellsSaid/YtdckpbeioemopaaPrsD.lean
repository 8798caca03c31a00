/-
  Texts put together: PrsLoop, PrsExpr, PrsExpr2, PrsExpr3, PrsParse, PrsText.
-/
import Derived.Test.YtdckpbeioemopaaPrsC
import Derived.Test.YtdckpbeioemopaaLxB
import Derived.Test.YtdckpbeioemopaaNodB
import Derived.Test.YtdckpbeioemopaaExA
namespace Go.Proofs.Ytdckpbeioemopaa
open Go.Am
end Go.Proofs.Ytdckpbeioemopaa
namespace Go.Proofs.Ytdckpbeioemopaa
open Go.Am
set_option maxRecDepth 100000
variable {B : Nat → Option Obj}
def sgnL : List (List UInt8) := [[42], [43], [45], [60, 60], [62, 62], [60], [60, 61], [62], [62, 61], [61], [33, 61], [97, 110, 100], [111, 114]]
noncomputable def lib13 (_ : Nat) : Tb := lib9
end Go.Proofs.Ytdckpbeioemopaa
namespace Go.Proofs.Ytdckpbeioemopaa
open Go.Am
set_option maxRecDepth 100000
variable {B : Nat → Option Obj}
structure PInv (L : List Tok) (st : PSt) : Prop where
  h : st.e = 0 → 0 ≤ st.at' ∧ st.at' ≤ L.length ∧ chkN st.X = 0
end Go.Proofs.Ytdckpbeioemopaa
namespace Go.Proofs.Ytdckpbeioemopaa
open Go.Am
set_option maxRecDepth 100000
variable {B : Nat → Option Obj}
end Go.Proofs.Ytdckpbeioemopaa
namespace Go.Proofs.Ytdckpbeioemopaa
open Go.Am
set_option maxRecDepth 100000
variable {B : Nat → Option Obj}
noncomputable def lib14 : Tb := lib9
def okV (t : Tok) : Bool := validB t && decide (0 ≤ t.pos ∧ t.pos ≤ 400)
end Go.Proofs.Ytdckpbeioemopaa
namespace Go.Proofs.Ytdckpbeioemopaa
open Go.Am Go.Shelf
set_option maxRecDepth 100000
variable {B : Nat → Option Obj}
def rngX (X : List Nod) : Bool := X.all fun x => rng64 x.n
noncomputable def libT (_ : Nat) : Tb := lib5
def strO (s : List UInt8) : Option Out := some ⟨[.str s], []⟩
def catO (a b : List UInt8) (f : List UInt8 → Option Out) : Option Out := bif decide (a.length + b.length ≤ lim) then f (a ++ b) else none
def u8 (n : Int) : Int := IntKind.u8.wrap n
end Go.Proofs.Ytdckpbeioemopaa
