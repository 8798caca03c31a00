/-
  Texts put together: RefInt, RefWr, RefWr2, RefTd, RefTd2.
-/
import Derived.Test.YtdckpbeioemopabGreatDoorNodBase
import Derived.Test.YtdckpbeioemopabGreatDoorPureA
import Derived.Shelf.Strconv.Itoa4
import Derived.Test.YtdckpbeioemopabGreatDoorPrtP
import Derived.Test.YtdckpbeioemopabGreatDoorClsA
namespace Go.Proofs.YtdckpbeioemopabGreatDoor.R1
open Go.Am Go.Shelf
set_option maxRecDepth 100000
variable {B : Nat → Option Obj}
def fails (p : Bool) : Bool := bif p then false else true
def rs (s : List UInt8) : Option Out := some ⟨[.str s], []⟩
end Go.Proofs.YtdckpbeioemopabGreatDoor.R1
namespace Go.Proofs.YtdckpbeioemopabGreatDoor
open Go.Am Go
set_option maxRecDepth 100000
variable {B : Nat → Option Obj}
def gW (k : Nat) (X : List Nod) (i m : Int) : Bool := okX k X i && (rngX X && decide ((wrN k X i m).length ≤ 100000))
def kIn (k : Int) (z : Option Out) : Option Out := bif decide (1 ≤ k ∧ k ≤ 19) then z else none
end Go.Proofs.YtdckpbeioemopabGreatDoor
namespace Go.Proofs.YtdckpbeioemopabGreatDoor
open Go.Am Go
set_option maxRecDepth 100000
variable {B : Nat → Option Obj}
def fldL : List (List UInt8) := [[107], [116], [118]]
def subR (k : Nat) (X : List Nod) (j m : Int) (f : List UInt8 → Option Out) : Option Out := bif decide (m ≤ 9) && gW k X j m then f (wrN k X j m) else none
def binR (k : Nat) (X : List Nod) (x : Nod) (l : Int) : Option Out := subR k X x.a l fun s => catO s [32] fun u => inb' (u8 (x.kind - 7)) sgnL.length (catO u (sgnL.getD (u8 (x.kind - 7)).toNat []) fun v => catO v [32] fun w => subR k X x.b (w64 ((lineK x.kind : Int) + 1)) fun s' => catO w s' strO)
def wrR (k : Nat) (X : List Nod) (x : Nod) : Option Out := kIn x.kind (bif decide (x.kind = 1) then (bif decide (Rng x.n) then strO (Lib.itoa x.n) else none) else bif decide ((lineK x.kind : Int) = 9) then inb' (u8 (x.kind - 2)) fldL.length (strO (fldL.getD (u8 (x.kind - 2)).toNat []))
  else bif decide ((lineK x.kind : Int) = 8) then subR k X x.a 8 (fun s => catO [45] s strO) else bif decide ((lineK x.kind : Int) = 3) then subR k X x.a 3 (fun s => catO [110, 111, 116, 32] s strO)
  else bif decide ((lineK x.kind : Int) = 4) then binR k X x 5 else binR k X x (lineK x.kind : Int))
end Go.Proofs.YtdckpbeioemopabGreatDoor
namespace Go.Proofs.YtdckpbeioemopabGreatDoor
open Go.Am Go
set_option maxRecDepth 100000
variable {B : Nat → Option Obj}
def nmL : List (List UInt8) := [[97], [98], [99], [100]]
def nmS (n : Int) : List UInt8 := nmL.getD n.toNat []
def sNm : FSpec
  | [.int .i64 n], [] => .node (inR n) (.leaf ⟨[.str (nmS n), .int .i64 0], []⟩) .bad
  | _, _ => .bad
def qTy : List TypeId := [5, 22, 23, 4, 22, 5, 2, 2, 4, 5]
def cat9 {α : Type} (a b : List UInt8) (f : List UInt8 → Option α) : Option α := bif decide (a.length + b.length ≤ lim) then f (a ++ b) else none
end Go.Proofs.YtdckpbeioemopabGreatDoor
namespace Go.Proofs.YtdckpbeioemopabGreatDoor
open Go.Am Go
set_option maxRecDepth 100000
variable {B : Nat → Option Obj}
def agL : List (List UInt8) := [[99, 111, 117, 110, 116], [115, 117, 109], [109, 105, 110], [109, 97, 120]]
def wiL : List (List UInt8) := [[116, 117, 109, 98, 108, 101, 32], [115, 108, 105, 100, 101, 32], [115, 101, 115, 115, 105, 111, 110, 32]]
def tdL (lt : Int) (s : List UInt8) : Option Out := bif decide (lt = 2) then cat9 s [32, 108, 97, 116, 101, 32, 115, 105, 100, 101] strO else strO s
def wiT (k : Int) : List UInt8 := wiL.getD (u8 (k - 1)).toNat []
def whT (q : Qry) : List UInt8 := bif decide (0 < q.whr.length) then [32, 119, 104, 101, 114, 101, 32] ++ prS q.whr else []
def evT (q : Qry) : List UInt8 := bif decide (q.wk = 2) then [32, 101, 118, 101, 114, 121, 32] ++ Lib.itoa q.we else []
structure QOk (q : Qry) : Prop where
  a1 : 1 ≤ q.agg
  a4 : q.agg ≤ 4
  arg : q.agg ≠ 1 → chkN q.arg = 0
  rA : rngX q.arg = true
  whr : 0 < q.whr.length → chkN q.whr = 0
  rW : rngX q.whr = true
  s4 : q.src.length ≤ 4
  s0 : 0 < q.src.length
  sR : q.src.all inR = true
  k1 : 1 ≤ q.wk
  k3 : q.wk ≤ 3
  ws : Rng q.ws
  we : Rng q.we
end Go.Proofs.YtdckpbeioemopabGreatDoor
