/-
  Queries: plain words.
-/
import Derived.Test.YthfieonkfailkaaGreatDoorPureA
namespace Go.Am
structure Qry where
  agg : Int
  arg : List Nod
  src : List Int
  join : Bool
  whr : List Nod
  wk : Int
  ws : Int
  we : Int
  byKey : Bool
  late : Int
  deriving Inhabited
/-- a query, its three lists in blocks -/
def Qry.av (q : Qry) (a b c : Nat) : AV := .agg [.int .u8 q.agg, .slw a, .slw b, .bool q.join, .slw c, .int .u8 q.wk, .int .i64 q.ws, .int .i64 q.we, .bool q.byKey, .int .u8 q.late]
/-! windows, sources -/
def fitsW (k s e : Int) : Bool := decide (1 ≤ s) && (decide (s ≤ 1073741824) && (bif decide (k = 2) then decide (1 ≤ e) && (decide (e ≤ s) && decide (s ≤ 16 * e)) else (decide (k = 1) || decide (k = 3)) && decide (e = 0)))
def inR (n : Int) : Bool := decide (0 ≤ n) && decide (n ≤ 3)
def dups : List Int → Bool
  | [] => false
  | x :: r => r.contains x || dups r
def srcE (l : List Int) (join : Bool) : Int := bif decide (4 < l.length) then 4 else bif decide (l.length = 0) || (join && !decide (l.length = 2)) then 8 else bif !l.all inR then 8 else bif dups l then 43 else 0
/-- a query, but for the kinds of its expressions -/
def clkE (q : Qry) : Int :=
  bif decide (q.agg < 1) || decide (4 < q.agg) || (!decide (q.late = 1) && !decide (q.late = 2)) then 8
  else bif decide (q.agg = 1) && decide (0 < q.arg.length) then 8
  else bif !decide (q.agg = 1) && !decide (chkN q.arg = 0) then chkN q.arg
  else bif decide (0 < q.whr.length) && !decide (chkN q.whr = 0) then chkN q.whr
  else bif !decide (srcE q.src q.join = 0) then srcE q.src q.join
  else bif !fitsW q.wk q.ws q.we || (q.join && !decide (q.wk = 1)) then 8 else 0
/-! kinds -/
def givesN (k : Int) : Bool := decide (k = 6) || decide (12 ≤ k)
def kindAt (l : List Nod) (i : Int) : Int := (l.getD i.toNat default).kind
def fitsN (l : List Nod) (x : Nod) : Bool :=
  bif decide (x.kind ≤ 4) then true else bif decide (x.kind = 5) then !givesN (kindAt l x.a) else bif decide (x.kind = 6) then givesN (kindAt l x.a)
  else bif decide (x.kind = 16) || decide (x.kind = 17) then (givesN (kindAt l x.a) == givesN (kindAt l x.b)) else bif decide (18 ≤ x.kind) then givesN (kindAt l x.a) && givesN (kindAt l x.b)
  else !givesN (kindAt l x.a) && !givesN (kindAt l x.b)
/-- the first one that does not fit -/
def wrongGo (l : List Nod) : List Nod → Int → Int
  | [], i => i
  | x :: r, i => bif fitsN l x then wrongGo l r (i + 1) else i
def wrongN (l : List Nod) : Int := wrongGo l l 0
def lastK (l : List Nod) : Int := kindAt l ((l.length : Int) - 1)
/-- kinds.Of -/
def kOf (l : List Nod) : Bool × Int × Int := bif !decide (chkN l = 0) then (false, 0, chkN l) else bif decide (wrongN l < (l.length : Int)) then (false, wrongN l, 42) else (givesN (lastK l), (l.length : Int) - 1, 0)
/-- what asks for a kind: where, and the error -/
def kWant (l : List Nod) (t : Bool) : Int × Int := ((kOf l).2.1, bif decide ((kOf l).2.2 = 0) && !((kOf l).1 == t) then 42 else (kOf l).2.2)
def posAt (l : List Nod) (i : Int) : Int := (l.getD i.toNat default).pos
/-- checks.Check -/
def ckW (q : Qry) : Int × Int := bif decide (0 < q.whr.length) && !decide ((kWant q.whr true).2 = 0) then (posAt q.whr (kWant q.whr true).1, (kWant q.whr true).2) else (0, 0)
def ckR (q : Qry) : Int × Int := bif decide (0 < q.arg.length) && !decide ((kWant q.arg false).2 = 0) then (posAt q.arg (kWant q.arg false).1, (kWant q.arg false).2) else ckW q
def ckE (q : Qry) : Int × Int := bif !decide (clkE q = 0) then (0, clkE q) else ckR q
/-- checks.Constant -/
def fixedN (l : List Nod) : Bool := l.all fun x => !(decide (1 < x.kind) && decide (x.kind < 5))
def conB (l : List Nod) : Bool := bif decide (chkN l = 0) then fixedN l else false
end Go.Am
