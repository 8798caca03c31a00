/-
  Texts put together: PrtBase, PrtWrite, PrtExpr, PrtExpr2, PrtExpr3, PrtExpr4.
-/
import Derived.Test.YtdckpbeioemopabGreatDoorLawA
import Derived.Test.YtdckpbeioemopabGreatDoorLayB
import Derived.Test.YtdckpbeioemopabGreatDoorLibB
namespace Go.Proofs.YtdckpbeioemopabGreatDoor
open Go.Am Go.Shelf
set_option maxRecDepth 100000
variable {B : Nat → Option Obj}
end Go.Proofs.YtdckpbeioemopabGreatDoor
namespace Go.Proofs.YtdckpbeioemopabGreatDoor
open Go.Am Go.Shelf
set_option maxRecDepth 100000
variable {B : Nat → Option Obj}
def opS (k : Int) : List UInt8 := [32] ++ (opT k ++ [32])
def leftI (k : Int) : Int := bif decide ((lineK k : Int) = 4) then 5 else (lineK k : Int)
def wrN : Nat → List Nod → Int → Int → List UInt8
  | 0, _, _, _ => []
  | n + 1, X, i, m => bif decide ((nodA X i).kind = 1) then Lib.itoa (nodA X i).n else bif decide ((nodA X i).kind ≤ 4) then fldT (nodA X i).kind else
    brT (decide ((lineK (nodA X i).kind : Int) < m)) (bif decide ((nodA X i).kind = 5) then [45] ++ wrN n X (nodA X i).a 8 else bif decide ((nodA X i).kind = 6) then [110, 111, 116, 32] ++ wrN n X (nodA X i).a 3 else
      wrN n X (nodA X i).a (leftI (nodA X i).kind) ++ (opS (nodA X i).kind ++ wrN n X (nodA X i).b ((lineK (nodA X i).kind : Int) + 1)))
def sgT : List Sgn := [⟨[45], 8⟩, ⟨[110, 111, 116, 32], 3⟩, ⟨[32, 42, 32], 7⟩, ⟨[32, 43, 32], 6⟩, ⟨[32, 45, 32], 6⟩, ⟨[32, 60, 60, 32], 5⟩, ⟨[32, 62, 62, 32], 5⟩, ⟨[32, 60, 32], 4⟩, ⟨[32, 60, 61, 32], 4⟩, ⟨[32, 62, 32], 4⟩, ⟨[32, 62, 61, 32], 4⟩, ⟨[32, 61, 32], 4⟩, ⟨[32, 33, 61, 32], 4⟩, ⟨[32, 97, 110, 100, 32], 2⟩, ⟨[32, 111, 114, 32], 1⟩]
def sgA (k : Int) : Sgn := sgT.getD (u8 (k - 5)).toNat default
end Go.Proofs.YtdckpbeioemopabGreatDoor
namespace Go.Proofs.YtdckpbeioemopabGreatDoor
open Go.Am Go.Shelf Go
set_option maxRecDepth 100000
variable {B : Nat → Option Obj}
structure WrIn (k : Nat) (X : List Nod) (i : Int) : Prop where
  i0 : 0 ≤ i
  i1 : i < X.length
  k1 : 1 ≤ (nodA X i).kind
  k19 : (nodA X i).kind ≤ 19
  n : rng64 (nodA X i).n = true
  p : 4 < (nodA X i).kind → (bif decide ((nodA X i).kind ≤ 6) then okX k X (nodA X i).a else okX k X (nodA X i).a && okX k X (nodA X i).b) = true
end Go.Proofs.YtdckpbeioemopabGreatDoor
namespace Go.Proofs.YtdckpbeioemopabGreatDoor
open Go.Am Go.Shelf Go
set_option maxRecDepth 100000
variable {B : Nat → Option Obj}
end Go.Proofs.YtdckpbeioemopabGreatDoor
namespace Go.Proofs.YtdckpbeioemopabGreatDoor
open Go.Am Go.Shelf Go
set_option maxRecDepth 100000
variable {B : Nat → Option Obj}
end Go.Proofs.YtdckpbeioemopabGreatDoor
namespace Go.Proofs.YtdckpbeioemopabGreatDoor
open Go.Am Go.Shelf Go
set_option maxRecDepth 100000
variable {B : Nat → Option Obj}
def prS (X : List Nod) : List UInt8 := bif decide (chkN X = 0) then wrN 20 X ((X.length : Int) - 1) 0 else []
def sExprP : FSpec
  | [.slw 0], [⟨false, .nodes X⟩] => .node (rngX X) (.leaf ⟨[.str (prS X), .int .i64 (chkN X)], []⟩) .bad
  | _, _ => .bad
end Go.Proofs.YtdckpbeioemopabGreatDoor
