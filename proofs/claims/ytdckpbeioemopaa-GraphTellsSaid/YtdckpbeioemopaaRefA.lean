/-
  Texts put together: RefInt, RefWr, RefWr2, RefTd, RefTd2.
-/
import Derived.Test.YtdckpbeioemopaaNodBase
import Derived.Test.YtdckpbeioemopaaPureA
import Derived.Shelf.Strconv.Itoa4
import Derived.Test.YtdckpbeioemopaaPrtP
import Derived.Test.YtdckpbeioemopaaClsA
namespace Go.Proofs.Ytdckpbeioemopaa.R1
open Go.Am Go.Shelf
set_option maxRecDepth 100000
variable {B : Nat → Option Obj}
def rs (s : List UInt8) : Option Out := some ⟨[.str s], []⟩
end Go.Proofs.Ytdckpbeioemopaa.R1
namespace Go.Proofs.Ytdckpbeioemopaa
open Go.Am Go
set_option maxRecDepth 100000
variable {B : Nat → Option Obj}
def gW (k : Nat) (X : List Nod) (i m : Int) : Bool := okX k X i && (rngX X && decide ((wrN k X i m).length ≤ 100000))
noncomputable def libR (_ : Nat) : Tb := lib5
end Go.Proofs.Ytdckpbeioemopaa
namespace Go.Proofs.Ytdckpbeioemopaa
open Go.Am Go
set_option maxRecDepth 100000
variable {B : Nat → Option Obj}
def subR (k : Nat) (X : List Nod) (j m : Int) (f : List UInt8 → Option Out) : Option Out := bif decide (m ≤ 9) && gW k X j m then f (wrN k X j m) else none
def binR (k : Nat) (X : List Nod) (x : Nod) (l : Int) : Option Out := subR k X x.a l fun s => catO s [32] fun u => inb' (u8 (x.kind - 7)) sgnL.length (catO u (sgnL.getD (u8 (x.kind - 7)).toNat []) fun v => catO v [32] fun w => subR k X x.b (w64 ((lineK x.kind : Int) + 1)) fun s' => catO w s' strO)
end Go.Proofs.Ytdckpbeioemopaa
namespace Go.Proofs.Ytdckpbeioemopaa
open Go.Am Go
set_option maxRecDepth 100000
variable {B : Nat → Option Obj}
def nmL : List (List UInt8) := [[97], [98], [99], [100]]
def nmS (n : Int) : List UInt8 := nmL.getD n.toNat []
def cat9 {α : Type} (a b : List UInt8) (f : List UInt8 → Option α) : Option α := bif decide (a.length + b.length ≤ lim) then f (a ++ b) else none
end Go.Proofs.Ytdckpbeioemopaa
namespace Go.Proofs.Ytdckpbeioemopaa
open Go.Am Go
set_option maxRecDepth 100000
variable {B : Nat → Option Obj}
def tdL (lt : Int) (s : List UInt8) : Option Out := bif decide (lt = 2) then cat9 s [32, 108, 97, 116, 101, 32, 115, 105, 100, 101] strO else strO s
structure QOk (q : Qry) : Prop where
  a1 : 1 ≤ q.agg
  a4 : q.agg ≤ 4
  arg : q.agg ≠ 1 → chkN q.arg = 0
  rA : rngX q.arg = true
  whr : 0 < q.whr.length → chkN q.whr = 0
  rW : rngX q.whr = true
  s4 : q.src.length ≤ 4
  s0 : 0 < q.src.length
  sR : q.src.all inR = true
  k1 : 1 ≤ q.wk
  k3 : q.wk ≤ 3
  ws : Rng q.ws
  we : Rng q.we
end Go.Proofs.Ytdckpbeioemopaa
