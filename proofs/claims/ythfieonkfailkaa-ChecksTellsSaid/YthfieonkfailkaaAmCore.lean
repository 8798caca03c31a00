/-
  AM: an abstract machine over the model's code: values without addresses (blocks are typed lists, named by numbers), no tape, no world. This text: its words. Nothing here is proved.
-/
import Derived.Calls
import Derived.KernelRfl
namespace Go.Am

/-- decision trees -/
inductive T (α : Type) where
  | bad
  | leaf (a : α)
  | node (b : Bool) (x y : T α)
def T.bind {α β : Type} : T α → (α → T β) → T β
  | .bad, _ => .bad
  | .leaf a, f => f a
  | .node b x y, f => .node b (x.bind f) (y.bind f)
def T.sel {α : Type} : T α → Option α
  | .bad => none
  | .leaf a => some a
  | .node b x y => bif b then x.sel else y.sel
def T.chk {α : Type} (b : Bool) (x : T α) : T α := .node b x .bad

inductive AV where
  | any
  | bool (b : Bool) | int (k : IntKind) (n : Int) | str (s : List UInt8)
  | nilp | ptr (b i j : Nat)
  | nils | slw (b : Nat) | sl (b i n : Nat)
  | nilf | fn (f : FuncId) (first caps : List AV)
  | nili | iface (t : TypeId) (v : AV)
  | agg (cs : List AV) | tup (vs : List AV)
  deriving Inhabited
def AV.isCell : AV → Bool
  | .any | .agg _ | .tup _ => false
  | _ => true

structure Tok where
  kind : Int
  text : List UInt8
  pos : Int
  deriving Inhabited, DecidableEq
structure Nod where
  kind : Int
  n : Int
  a : Int
  b : Int
  pos : Int
  deriving Inhabited, DecidableEq
structure Top where
  pos : Int
  size : Int
  depth : Int
  deriving Inhabited, DecidableEq
structure Sgn where
  sign : List UInt8
  line : Int
  deriving Inhabited, DecidableEq
structure Opr where
  kind : Int
  n : Int
  deriving Inhabited, DecidableEq
structure Chn where
  src : Int
  out : Int
  dst : Int
  inp : Int
  room : Int
  deriving Inhabited, DecidableEq

/-- kinds of elements of slices -/
inductive DK where
  | ints (k : IntKind) | bools | strs | toks | nodes | tops | sgns | oprs | chns | gen (tys : List TypeId) | bytes (t : TypeId)
  deriving Inhabited

inductive Dat where
  | gen (tys : List TypeId) (rows : List (List AV))
  | ints (k : IntKind) (l : List Int)
  | bools (l : List Bool)
  | strs (l : List (List UInt8))
  | toks (l : List Tok)
  | nodes (l : List Nod)
  | tops (l : List Top)
  | sgns (l : List Sgn)
  | oprs (l : List Opr)
  | chns (l : List Chn)
  /-- bytes in a block of its own, whose elements are of type t -/
  | bytes (t : TypeId) (l : List Int)
  deriving Inhabited

def Tok.enc (t : Tok) : List AV := [.int .u8 t.kind, .str t.text, .int .i64 t.pos]
def Nod.enc (x : Nod) : List AV := [.int .u8 x.kind, .int .i64 x.n, .int .i64 x.a, .int .i64 x.b, .int .i64 x.pos]
def Top.enc (x : Top) : List AV := [.int .i64 x.pos, .int .i64 x.size, .int .i64 x.depth]
def Sgn.enc (x : Sgn) : List AV := [.str x.sign, .int .i64 x.line]
def Opr.enc (x : Opr) : List AV := [.int .u8 x.kind, .int .i64 x.n]
def Chn.enc (x : Chn) : List AV := [.int .i64 x.src, .int .i64 x.out, .int .i64 x.dst, .int .i64 x.inp, .int .i64 x.room]
def Tok.dec : List AV → Option Tok
  | [.int .u8 k, .str s, .int .i64 p] => some ⟨k, s, p⟩
  | _ => none
def Nod.dec : List AV → Option Nod
  | [.int .u8 k, .int .i64 n, .int .i64 a, .int .i64 b, .int .i64 p] => some ⟨k, n, a, b, p⟩
  | _ => none
def Top.dec : List AV → Option Top
  | [.int .i64 a, .int .i64 b, .int .i64 p] => some ⟨a, b, p⟩
  | _ => none
def Sgn.dec : List AV → Option Sgn
  | [.str s, .int .i64 p] => some ⟨s, p⟩
  | _ => none
def Opr.dec : List AV → Option Opr
  | [.int .u8 k, .int .i64 p] => some ⟨k, p⟩
  | _ => none
def Chn.dec : List AV → Option Chn
  | [.int .i64 n, .int .i64 a, .int .i64 b, .int .i64 p, .int .i64 r] => some ⟨n, a, b, p, r⟩
  | _ => none
def intDec (k : IntKind) : List AV → Option Int
  | [.int k' n] => bif decide (k' = k) then some n else none
  | _ => none
def boolDec : List AV → Option Bool
  | [.bool n] => some n
  | _ => none
def strDec : List AV → Option (List UInt8)
  | [.str n] => some n
  | _ => none
/-- a list of cells' types may bear a mark: the type of the variable that is one block -/
def markBase : Nat := 4294967296
def isMark (t : TypeId) : Bool := Nat.ble markBase t
def wid : List TypeId → Nat
  | [] => 0
  | t :: r => bif isMark t then wid r else wid r + 1
def markOf : List TypeId → Option TypeId
  | [] => none
  | t :: r => bif isMark t then some (t - markBase) else markOf r
def unmark : List TypeId → List TypeId
  | [] => []
  | t :: r => bif isMark t then unmark r else t :: unmark r
def genDec (s : List TypeId) (r : List AV) : Option (List AV) := bif Nat.beq r.length (wid s) && r.all AV.isCell then some r else none
def sameTys : List TypeId → List TypeId → Bool
  | [], [] => true
  | a :: r, b :: q => Nat.beq a b && sameTys r q
  | _, _ => false

def Dat.len : Dat → Nat
  | .gen _ r => r.length | .ints _ l => l.length | .bools l => l.length | .strs l => l.length | .toks l => l.length | .nodes l => l.length
  | .tops l => l.length | .sgns l => l.length | .oprs l => l.length | .chns l => l.length | .bytes _ l => l.length
def Dat.stride : Dat → Nat
  | .gen s _ => wid s | .ints .. | .bools _ | .strs _ => 1 | .toks _ => 3 | .nodes _ => 5 | .tops _ => 3 | .sgns _ => 2 | .oprs _ => 2 | .chns _ => 5 | .bytes .. => 1
def Dat.row : Dat → Nat → List AV
  | .gen _ r, i => r.getD i []
  | .ints k l, i => [.int k (l.getD i 0)]
  | .bools l, i => [.bool (l.getD i false)]
  | .strs l, i => [.str (l.getD i [])]
  | .toks l, i => (l.getD i default).enc
  | .nodes l, i => (l.getD i default).enc
  | .tops l, i => (l.getD i default).enc
  | .sgns l, i => (l.getD i default).enc
  | .oprs l, i => (l.getD i default).enc
  | .chns l, i => (l.getD i default).enc
  | .bytes _ l, i => [.int .u8 (l.getD i 0)]
def decAll {α : Type} (f : List AV → Option α) : List (List AV) → Option (List α)
  | [] => some []
  | x :: r => match f x with
    | some y => (decAll f r).map (y :: ·)
    | none => none
def Dat.ofRows : DK → List (List AV) → Option Dat
  | .gen s, r => (decAll (genDec s) r).map (.gen (unmark s))
  | .ints k, r => (decAll (intDec k) r).map (.ints k)
  | .bools, r => (decAll boolDec r).map .bools
  | .strs, r => (decAll strDec r).map .strs
  | .toks, r => (decAll Tok.dec r).map .toks
  | .nodes, r => (decAll Nod.dec r).map .nodes
  | .tops, r => (decAll Top.dec r).map .tops
  | .sgns, r => (decAll Sgn.dec r).map .sgns
  | .oprs, r => (decAll Opr.dec r).map .oprs
  | .chns, r => (decAll Chn.dec r).map .chns
  | .bytes t, r => (decAll (intDec .u8) r).map (.bytes t)
def Dat.empty (k : DK) : Dat := (Dat.ofRows k []).getD default
def Dat.append : Dat → Dat → Option Dat
  | .gen s a, .gen t b => bif sameTys (unmark s) (unmark t) then some (.gen (unmark s) (a ++ b)) else none
  | .ints k a, .ints k' b => bif decide (k = k') then some (.ints k (a ++ b)) else none
  | .bools a, .bools b => some (.bools (a ++ b))
  | .strs a, .strs b => some (.strs (a ++ b))
  | .toks a, .toks b => some (.toks (a ++ b))
  | .nodes a, .nodes b => some (.nodes (a ++ b))
  | .tops a, .tops b => some (.tops (a ++ b))
  | .sgns a, .sgns b => some (.sgns (a ++ b))
  | .oprs a, .oprs b => some (.oprs (a ++ b))
  | .chns a, .chns b => some (.chns (a ++ b))
  | .bytes t a, .bytes u b => bif Nat.beq t u then some (.bytes t (a ++ b)) else none
  | .bytes t a, .ints k b => bif decide (k = .u8) then some (.bytes t (a ++ b)) else none
  | _, _ => none
def Dat.sub (i n : Nat) : Dat → Dat
  | .gen s l => .gen (unmark s) ((l.drop i).take n)
  | .ints k l => .ints k ((l.drop i).take n)
  | .bools l => .bools ((l.drop i).take n)
  | .strs l => .strs ((l.drop i).take n)
  | .toks l => .toks ((l.drop i).take n)
  | .nodes l => .nodes ((l.drop i).take n)
  | .tops l => .tops ((l.drop i).take n)
  | .sgns l => .sgns ((l.drop i).take n)
  | .oprs l => .oprs ((l.drop i).take n)
  | .chns l => .chns ((l.drop i).take n)
  | .bytes _ l => .ints .u8 ((l.drop i).take n)
def Dat.setRow (i : Nat) (row : List AV) : Dat → Option Dat
  | .gen s l => (genDec s row).map fun x => .gen s (l.set i x)
  | .ints k l => (intDec k row).map fun x => .ints k (l.set i x)
  | .bools l => (boolDec row).map fun x => .bools (l.set i x)
  | .strs l => (strDec row).map fun x => .strs (l.set i x)
  | .toks l => (Tok.dec row).map fun x => .toks (l.set i x)
  | .nodes l => (Nod.dec row).map fun x => .nodes (l.set i x)
  | .tops l => (Top.dec row).map fun x => .tops (l.set i x)
  | .sgns l => (Sgn.dec row).map fun x => .sgns (l.set i x)
  | .oprs l => (Opr.dec row).map fun x => .oprs (l.set i x)
  | .chns l => (Chn.dec row).map fun x => .chns (l.set i x)
  | .bytes t l => (intDec .u8 row).map fun x => .bytes t (l.set i x)

def Dat.mark : Dat → Option TypeId
  | .gen s _ => markOf s
  | .bytes t _ => some t
  | _ => none
/-- may a block of elements of type t be marked so? -/
def markIn (t : TypeId) : Dat → Bool
  | .gen s _ => (markOf s).isNone
  | .bytes u _ => Nat.beq u t
  | _ => true
def Dat.isGen : Dat → Bool
  | .gen .. => true
  | _ => false
structure Blk where
  own : Bool
  dat : Dat
  deriving Inhabited
abbrev Heap := Nat → Option Blk
abbrev Upd := List (Nat × Option Blk)
def updF {α : Type} (f : Nat → α) (k : Nat) (v : α) : Nat → α := fun x => bif Nat.beq x k then v else f x
def updW (h : Heap) : Upd → Heap
  | [] => h
  | (b, x) :: r => updW (updF h b x) r

structure AState where
  n : Nat
  t : Nat → AV
  h : Heap
  τ : Nat
def AState.put (st : AState) (d : Option Tmp) (v : AV) : AState :=
  match d with
  | some d => bif Nat.blt d st.n then { st with t := updF st.t d v } else st
  | none => st
inductive AExit where
  | normal | exit (id : Nat) | ret

def globBase : Nat := 1000000000000
structure Env where
  P : Program
  kind : TypeId → DK
  /-- how many package-level variables there are, and what some of them hold -/
  ng : Nat
  glob : Nat → Option Dat
  /-- what lies in the package-level variables' blocks -/
  base : Nat → Option Obj := fun _ => none

/-- constants -/
def AV.ofCell : Value → AV
  | .bool b => .bool b
  | .int k n => .int k n
  | .string s => .str s.data.toList
  | .pointer none => .nilp
  | .slice none 0 0 => .nils
  | .nilFunc => .nilf
  | .nilIface => .nili
  | _ => .any
def AV.ofVal : Value → AV
  | .agg cs => .agg (cs.toList.map AV.ofCell)
  | .tuple cs => .tup (cs.toList.map AV.ofCell)
  | v => AV.ofCell v
def ev (st : AState) : Operand → AV
  | .tmp t => st.t t
  | .const v => AV.ofVal v
  | .global g => match st.h (globBase + g) with
    | some _ => .ptr (globBase + g) 0 0
    | none => .any
  | .func f => .fn f [] []

def flatTys (E : Env) : Nat → TypeId → List TypeId
  | 0, _ => []
  | d + 1, t => match E.P.underlying t with
    | some (.struct fs) => fs.toList.flatMap fun f => flatTys E d f.type
    | some (.array n e) => (List.replicate n (flatTys E d e)).flatten
    | _ => [t]
/-- kinds of elements, by their types' shape -/
def autoKind (P : Program) (t : TypeId) : DK :=
  let E : Env := ⟨P, fun _ => .bools, 0, fun _ => none, fun _ => none⟩
  match (flatTys E 8 t).map P.underlying with
  | [some (.int .u8)] => match flatTys E 8 t with
    | [u] => bif Nat.beq u t then .bytes t else .ints .u8
    | _ => .ints .u8
  | [some (.int k)] => .ints k
  | [some .bool] => .bools
  | [some .string] => .strs
  | [some (.int .u8), some .string, some (.int .i64)] => .toks
  | [some (.int .u8), some (.int .i64), some (.int .i64), some (.int .i64), some (.int .i64)] => .nodes
  | [some (.int .i64), some (.int .i64), some (.int .i64)] => .tops
  | [some .string, some (.int .i64)] => .sgns
  | [some (.int .u8), some (.int .i64)] => .oprs
  | [some (.int .i64), some (.int .i64), some (.int .i64), some (.int .i64), some (.int .i64)] => .chns
  | _ => .gen (flatTys E 8 t)
def isAggT (E : Env) (t : TypeId) : Bool := match E.P.underlying t with | some (.struct _) | some (.array _ _) => true | _ => false
def sizeT (E : Env) (t : TypeId) : Option Nat := (E.P.info? t).map (·.size)
def zeroCells (E : Env) (t : TypeId) : Option (List AV) :=
  match E.P.info? t with
  | some i => match i.zero with
    | some v => some (v.cells.toList.map AV.ofCell)
    | none => none
  | none => none
def fieldOf (E : Env) (t : TypeId) (f : Nat) : Option (Nat × TypeId) :=
  match E.P.underlying t with
  | some (.struct fs) => (fs[f]?).map fun x => (x.offset, x.type)
  | _ => none
def AV.cells : AV → List AV
  | .agg cs => cs
  | v => [v]
def descAgg : TypeDesc → Bool
  | .struct _ | .array _ _ => true
  | _ => false
def partOf (E : Env) (t : TypeId) (cs : List AV) (off : Nat) : Option AV :=
  match E.P.underlying t with
  | none => none
  | some d => bif descAgg d then
      match sizeT E t with
      | some s => bif Nat.ble (off + s) cs.length then some (.agg ((cs.drop off).take s)) else none
      | none => none
    else cs[off]?
def setCells (cs : List AV) (off : Nat) : List AV → List AV
  | [] => cs
  | v :: r => setCells (cs.set off v) (off + 1) r
/-- the parts of a literal, one behind the other; every part lies inside -/
def fillCells (place : Nat → Option (Nat × Nat)) (cs : List AV) : List (Nat × List AV) → Option (List AV)
  | [] => some cs
  | (i, v) :: r => match place i with
    | none => none
    | some (off, size) => bif Nat.beq v.length size && Nat.ble (off + v.length) cs.length then fillCells place (setCells cs off v) r else none

def lim : Nat := 1073741824
abbrev Res := T (AV × Upd)
def valR (v : AV) : Res := .leaf (v, [])
def optR : Option AV → Res
  | some v => .leaf (v, [])
  | none => .bad

def intBin (op : BinOp) (k : IntKind) (a b : Int) : Res :=
  match op with
  | .add => valR (.int k (k.wrap (a + b)))
  | .sub => valR (.int k (k.wrap (a - b)))
  | .mul => valR (.int k (k.wrap (a * b)))
  | .quo => .node (decide (b = 0)) .bad (valR (.int k (k.wrap (a.tdiv b))))
  | .rem => .node (decide (b = 0)) .bad (valR (.int k (a.tmod b)))
  | .and => valR (.int k (k.wrap ((BitVec.ofInt k.bits a) &&& (BitVec.ofInt k.bits b)).toNat))
  | .or => valR (.int k (k.wrap ((BitVec.ofInt k.bits a) ||| (BitVec.ofInt k.bits b)).toNat))
  | .xor => valR (.int k (k.wrap ((BitVec.ofInt k.bits a) ^^^ (BitVec.ofInt k.bits b)).toNat))
  | .andNot => valR (.int k (k.wrap ((BitVec.ofInt k.bits a) &&& ~~~(BitVec.ofInt k.bits b)).toNat))
  | .eql => valR (.bool (decide (a = b)))
  | .neq => valR (.bool (!decide (a = b)))
  | .lss => valR (.bool (decide (a < b)))
  | .leq => valR (.bool (decide (a ≤ b)))
  | .gtr => valR (.bool (decide (b < a)))
  | .geq => valR (.bool (decide (b ≤ a)))
  | _ => .bad
def cellEqT (E : Env) (t : TypeId) (x y : AV) : Option Bool :=
  match E.P.underlying t with
  | some (.int _) => match x, y with
    | .int k a, .int k' b => bif decide (k = k') then some (decide (a = b)) else none
    | _, _ => none
  | some .bool => match x, y with
    | .bool a, .bool b => some (a == b)
    | _, _ => none
  | some .string => match x, y with
    | .str a, .str b => some (decide (a = b))
    | _, _ => none
  | _ => none
def eqFields (f : TypeId → AV → AV → Option Bool) (g : TypeId → List AV → Nat → Option AV) (xs ys : List AV) : List Field → Option Bool
  | [] => some true
  | x :: r => bif x.name != "_" then
      match g x.type xs x.offset, g x.type ys x.offset with
      | some a, some b => match f x.type a b with
        | some u => match eqFields f g xs ys r with
          | some v => some (u && v)
          | none => none
        | none => none
      | _, _ => none
    else none
def eqElems (f : AV → AV → Option Bool) (g : List AV → Nat → Option AV) (xs ys : List AV) (s : Nat) : Nat → Nat → Option Bool
  | _, 0 => some true
  | i, n + 1 => match g xs (i * s), g ys (i * s) with
    | some a, some b => match f a b with
      | some u => match eqElems f g xs ys s (i + 1) n with
        | some v => some (u && v)
        | none => none
      | none => none
    | _, _ => none
/-- values of a type without addresses, compared part by part -/
def eqT (E : Env) : Nat → TypeId → AV → AV → Option Bool
  | 0, _, _, _ => none
  | d + 1, t, x, y => match E.P.underlying t with
    | some .bool | some (.int _) | some .string => cellEqT E t x y
    | some (.struct fs) => match x, y with
      | .agg a, .agg b => bif E.P.stoodInHeld t then none else eqFields (eqT E d) (partOf E) a b fs.toList
      | _, _ => none
    | some (.array n e) => match x, y with
      | .agg a, .agg b => match sizeT E e with
        | some s => eqElems (eqT E d e) (partOf E e) a b s 0 n
        | none => none
      | _, _ => none
    | _ => none
def litOp : Operand → Bool
  | .const _ => true
  | _ => false
def eqAV (E : Env) (t : TypeId) (lit : Bool) : AV → AV → Option Bool
  | .agg a, .agg b => bif E.P.eqGuardType E.P.depth t then none else eqT E 10 t (.agg a) (.agg b)
  | x, y => match E.P.underlying t with
    | some (.pointer _) => match x, y with
      | .nilp, .nilp => some true | .nilp, .ptr .. => some false | .ptr .., .nilp => some false
      | _, _ => none
    | some (.interface _) => match x, y with
      | .nili, .iface .. => some false | .iface .., .nili => some false | .nili, .nili => bif lit then some true else none
      | _, _ => none
    | some (.func ..) => match x, y with
      | .nilf, .fn .. => some false | .fn .., .nilf => some false
      | _, _ => none
    | some .bool => match x, y with
      | .bool a, .bool b => some (a == b)
      | _, _ => none
    | _ => none
def shiftR (k : IntKind) (n : Int) (b : Int) : Res := .node (decide (0 ≤ b)) (valR (.int k n)) .bad
def binR (E : Env) (op : BinOp) (t : TypeId) (lit : Bool) (x y : AV) : Res :=
  match x, y with
  | .int kx a, .int ky b =>
    match op with
    | .shl => shiftR kx (kx.wrap (a * 2 ^ (min b.toNat kx.bits))) b
    | .shr => shiftR kx (a.fdiv (2 ^ (min b.toNat kx.bits))) b
    | op => bif decide (kx = ky) then intBin op kx a b else .bad
  | .str a, .str b =>
    match op with
    | .add => .node (decide (a.length + b.length ≤ lim)) (valR (.str (a ++ b))) .bad
    | .eql => valR (.bool (decide (a = b)))
    | .neq => valR (.bool (!decide (a = b)))
    | _ => .bad
  | x, y =>
    match op with
    | .eql => optR ((eqAV E t lit x y).map .bool)
    | .neq => optR ((eqAV E t lit x y).map fun b => .bool (!b))
    | _ => .bad

def datOf (h : Heap) : AV → Option Dat
  | .slw b => (h b).map (·.dat)
  | .sl b i n => (h b).map fun x => x.dat.sub i n
  | _ => none
def slLen (h : Heap) : AV → Option Nat
  | .slw b => (h b).map (·.dat.len)
  | .sl _ _ n => some n
  | .nils => some 0
  | _ => none
/-- the element that an index names: block, element -/
def slAt (v : AV) (i : Nat) : Option (Nat × Nat) :=
  match v with
  | .slw b => some (b, i)
  | .sl b o _ => some (b, o + i)
  | _ => none

def loadR (E : Env) (h : Heap) (t : TypeId) (a : AV) : Res :=
  match a with
  | .ptr b i j => match h b with
    | some x => .node (decide (i < x.dat.len)) (optR (partOf E t (x.dat.row i) j)) .bad
    | none => .bad
  | _ => .bad
def storeR (E : Env) (h : Heap) (t : TypeId) (a v : AV) : Res :=
  match a with
  | .ptr b i j => match h b with
    | some x => bif x.own && v.cells.all AV.isCell && decide (sizeT E t = some v.cells.length) && Nat.ble (j + v.cells.length) x.dat.stride then
        match x.dat.setRow i (setCells (x.dat.row i) j v.cells) with
        | some d => .node (decide (i < x.dat.len)) (.leaf (.any, [(b, some ⟨true, d⟩)])) .bad
        | none => .bad
      else .bad
    | none => .bad
  | _ => .bad
/-- the types of a variable's cells; the type itself, where one of its cells points to such a variable -/
def varTys (E : Env) (t : TypeId) : List TypeId :=
  (fun f => bif f.any (fun u => match E.P.underlying u with | some (.pointer e) => Nat.beq e t | _ => false) then f ++ [t + markBase] else f) (flatTys E 8 t)
def markFits (t : TypeId) (tys : List TypeId) : Bool := match markOf tys with
  | some u => Nat.beq u t
  | none => true
def newR (id : Nat) (t : TypeId) (tys : List TypeId) (cs : List AV) : Res :=
  bif cs.all AV.isCell && (Nat.beq cs.length (wid tys) && markFits t tys) then .leaf (.ptr id 0 0, [(id, some ⟨true, .gen tys [cs]⟩)]) else .bad
def indexAddrR (E : Env) (h : Heap) (t : TypeId) (x ix : AV) : Res :=
  match ix with
  | .int _ i => match E.P.underlying t with
    | some (.array n et) => match x with
      | .ptr b e j => match sizeT E et with
        | some s => .node (decide (0 ≤ i ∧ i < (n : Int))) (valR (.ptr b e (j + i.toNat * s))) .bad
        | none => .bad
      | _ => .bad
    | some (.slice et) => match slLen h x with
      | some n => match slAt x i.toNat with
        | some (b, e) => match h b with
          | some blk => bif decide (sizeT E et = some blk.dat.stride) then .node (decide (0 ≤ i ∧ i < (n : Int))) (valR (.ptr b e 0)) .bad else .bad
          | none => .bad
        | none => .bad
      | none => .bad
    | _ => .bad
  | _ => .bad
def indexR (E : Env) (t : TypeId) (x ix : AV) : Res :=
  match ix with
  | .int _ i => match E.P.underlying t with
    | some .string => match x with
      | .str s => .node (decide (0 ≤ i ∧ i < (s.length : Int))) (valR (.int .u8 (s.getD i.toNat 0).toNat)) .bad
      | _ => .bad
    | some (.array n e) => match x with
      | .agg cs => match sizeT E e with
        | some s => .node (decide (0 ≤ i ∧ i < (n : Int))) (optR (partOf E e cs (i.toNat * s))) .bad
        | none => .bad
      | _ => .bad
    | _ => .bad
  | _ => .bad
def boundOf : Option AV → Option (Option Int)
  | none => some none
  | some (.int _ n) => some (some n)
  | _ => none
def sliceR (E : Env) (h : Heap) (t : TypeId) (x : AV) (lo hi : Option AV) : Res :=
  match boundOf lo, boundOf hi with
  | some lo, some hi =>
    let l := lo.getD 0
    match E.P.underlying t with
    | some .string => match x with
      | .str s => match hi with
        | none => .node (decide (0 ≤ l ∧ l ≤ (s.length : Int))) (valR (.str (s.drop l.toNat))) .bad
        | some u => .node (decide (0 ≤ l ∧ l ≤ u ∧ u ≤ (s.length : Int))) (valR (.str ((s.take u.toNat).drop l.toNat))) .bad
      | _ => .bad
    | some (.slice et) => match slLen h x with
      | some n => match slAt x l.toNat with
        | some (b, e) => match h b with
          | some blk => bif decide (sizeT E et = some blk.dat.stride) then match hi with
            | none => .node (decide (0 ≤ l ∧ l ≤ (n : Int))) (valR (.sl b e (n - l.toNat))) .bad
            | some u => .node (decide (0 ≤ l ∧ l ≤ u ∧ u ≤ (n : Int))) (valR (.sl b e (u.toNat - l.toNat))) .bad
            else .bad
          | none => .bad
        | none => .bad
      | none => .bad
    | _ => .bad
  | _, _ => .bad
def appSrc (E : Env) (h : Heap) (et : TypeId) (y : AV) : Option Dat :=
  match y with
  | .str s => some (Dat.ints .u8 (s.map fun (c : UInt8) => (c.toNat : Int)))
  | .nils => some (Dat.empty (E.kind et))
  | y => datOf h y
def appendR (E : Env) (h : Heap) (id : Nat) (t : TypeId) (x y : AV) : Res :=
  match E.P.underlying t with
  | some (.slice et) =>
    match appSrc E h et y with
    | none => .bad
    | some d =>
      match E.P.info? et with
      | none => .bad
      | some i => bif Nat.beq i.size d.stride && Nat.blt 0 i.size && Nat.ble i.bytes 4096 && (match i.zero with | some z => Nat.beq z.cells.size i.size | none => false) then
        match x with
        | .nils => bif markIn et d then .node (decide (d.len ≤ lim)) (.leaf (.slw id, [(id, some ⟨true, d⟩)])) .bad else .bad
        | x => match slAt x 0 with
          | some (b, 0) => match datOf h x, h b with
            | some d0, some blk => match Dat.append d0 d with
              | some d' => bif blk.own && markIn et d' then .node (decide (d0.len + d.len ≤ lim)) (.leaf (.slw id, [(b, none), (id, some ⟨true, d'⟩)])) .bad else .bad
              | none => .bad
            | _, _ => .bad
          | _ => .bad
        else .bad
  | _ => .bad
def placesOf (E : Env) : List Field → Option (List (Nat × Nat))
  | [] => some []
  | f :: r => match sizeT E f.type with
    | some s => (placesOf E r).map ((f.offset, s) :: ·)
    | none => none
def buildR (E : Env) (t : TypeId) (parts : List (Nat × AV)) : Res :=
  bif parts.all (fun p => p.2.cells.all AV.isCell) then
    match zeroCells E t with
    | none => .bad
    | some z => match E.P.underlying t with
      | some (.struct fs) => match placesOf E fs.toList with
        | some ps => optR ((fillCells (fun i => ps[i]?) z (parts.map fun p => (p.1, p.2.cells))).map .agg)
        | none => .bad
      | some (.array _ e) => match sizeT E e with
        | some s => optR ((fillCells (fun i => some (i * s, s)) z (parts.map fun p => (p.1, p.2.cells))).map .agg)
        | none => .bad
      | _ => .bad
  else .bad
def zeroRow (z : List AV) (n : Nat) : List AV := (List.range n).map fun i => z.getD (i % z.length) .any
def chop (s : Nat) : Nat → List AV → List (List AV)
  | 0, _ => []
  | n + 1, l => l.take s :: chop s n (l.drop s)
def buildSliceR (E : Env) (id : Nat) (t : TypeId) (n : Nat) (parts : List (Nat × AV)) : Res :=
  match E.P.underlying t with
  | some (.slice e) => match zeroCells E e, sizeT E e with
    | some z, some s =>
      match fillCells (fun i => some (i * s, s)) (zeroRow z (n * s)) (parts.map fun p => (p.1, p.2.cells)) with
      | none => .bad
      | some cs => bif parts.all (fun p => p.2.cells.all AV.isCell) && Nat.beq z.length s && Nat.blt 0 s && Nat.ble (n * s) 1000000 then
          match Dat.ofRows (E.kind e) (chop s n cs) with
          | some d => bif Nat.beq d.stride s && markIn e d then .leaf (.slw id, [(id, some ⟨true, d⟩)]) else .bad
          | none => .bad
        else .bad
    | _, _ => .bad
  | _ => .bad
def Dat.rep (n : Nat) : Dat → Dat
  | .gen s l => .gen s (List.replicate n (l.getD 0 []))
  | .ints k l => .ints k (List.replicate n (l.getD 0 0))
  | .bools l => .bools (List.replicate n (l.getD 0 false))
  | .strs l => .strs (List.replicate n (l.getD 0 []))
  | .toks l => .toks (List.replicate n (l.getD 0 default))
  | .nodes l => .nodes (List.replicate n (l.getD 0 default))
  | .tops l => .tops (List.replicate n (l.getD 0 default))
  | .sgns l => .sgns (List.replicate n (l.getD 0 default))
  | .oprs l => .oprs (List.replicate n (l.getD 0 default))
  | .chns l => .chns (List.replicate n (l.getD 0 default))
  | .bytes t l => .bytes t (List.replicate n (l.getD 0 0))
def makeSliceR (E : Env) (id : Nat) (t : TypeId) (l c : AV) : Res :=
  match l, c with
  | .int _ n, .int _ m => match E.P.underlying t with
    | some (.slice e) => match E.P.info? e, zeroCells E e with
      | some i, some z => match Dat.ofRows (E.kind e) [z] with
        | some d1 => bif Nat.beq i.size d1.stride && Nat.blt 0 i.size && Nat.ble i.bytes 4096 && markIn e d1 then
            .node (decide (0 ≤ n ∧ n ≤ (lim : Int) ∧ n = m)) (.leaf (.slw id, [(id, some ⟨true, d1.rep n.toNat⟩)])) .bad
          else .bad
        | none => .bad
      | _, _ => .bad
    | _ => .bad
  | _, _ => .bad

def byteList (l : List Int) : List UInt8 := l.map fun n => UInt8.ofNat n.toNat
/-- bytes as a text -/
def bytesR (h : Heap) (y : AV) : Res := match y with
  | .nils => valR (.str [])
  | y => match datOf h y with
    | some (.ints .u8 l) => valR (.str (byteList l))
    | some (.bytes _ l) => valR (.str (byteList l))
    | _ => .bad
def appOk (E : Env) (t u : TypeId) (y : AV) : Bool :=
  match y with
  | .str _ => (match E.P.underlying u with | some .string => true | _ => false)
  | _ => decide (t = u)
abbrev CallR := FuncId → List AV → Heap → Nat → Res

/-- one operation -/
def exR (E : Env) (C : CallR) (o : Oper) (id : Nat) (e : Operand → AV) (h : Heap) : Res :=
  match o.op with
  | .move x | .assign x => valR (e x)
  | .pick c a b => match e c with
    | .bool c => match e a, e b with
      | .bool x, .bool y => valR (.bool (bif c then x else y))
      | x, y => .node c (valR x) (valR y)
    | _ => .bad
  | .extract x i => match e x with
    | .tup vs => optR vs[i]?
    | _ => .bad
  | .binOp op t x y _ => binR E op t (litOp x || litOp y) (e x) (e y)
  | .unOp op _ x => match op, e x with
    | .not, .bool b => valR (.bool (!b))
    | .neg, .int kd n => valR (.int kd (kd.wrap (0 - n)))
    | _, _ => .bad
  | .convert s d x => match E.P.underlying s, E.P.underlying d, e x with
    | some (.int _), some (.int kd), .int _ n => valR (.int kd (kd.wrap n))
    | some .string, some .string, .str s => valR (.str s)
    | some (.slice et), some .string, y => match E.P.underlying et with
      | some (.int .u8) => bytesR h y
      | _ => .bad
    | _, _, _ => .bad
  | .nilCheck x => match e x with
    | .ptr b i j => valR (.ptr b i j)
    | .fn f u c => valR (.fn f u c)
    | _ => .bad
  | .makeFunc (.func f) first caps => valR (.fn f (first.toList.map e) (caps.toList.map e))
  | .makeInterface t x => match E.P.underlying t with
    | some (.interface _) => .bad
    | some _ => valR (.iface t (e x))
    | none => .bad
  | .alloc t => match zeroCells E t with
    | some cs => newR id t (varTys E t) cs
    | none => .bad
  | .box t x => newR id t (flatTys E 8 t) (e x).cells
  | .build t parts => buildR E t (parts.toList.map fun p => (p.1, e p.2))
  | .buildSlice t n parts => buildSliceR E id t n (parts.toList.map fun p => (p.1, e p.2))
  | .load t a => loadR E h t (e a)
  | .store t a v => storeR E h t (e a) (e v)
  | .fieldAddr t x f => match e x with
    | .ptr b i j => match fieldOf E t f with
      | some (off, ft) => match sizeT E ft with
        | some (_ + 1) => valR (.ptr b i (j + off))
        | _ => .bad
      | none => .bad
    | _ => .bad
  | .field t x f => match e x with
    | .agg cs => match fieldOf E t f with
      | some (off, ft) => optR (partOf E ft cs off)
      | none => .bad
    | _ => .bad
  | .indexAddr t x ix => indexAddrR E h t (e x) (e ix)
  | .index t x ix => indexR E t (e x) (e ix)
  | .slice t x lo hi none => sliceR E h t (e x) (lo.map e) (hi.map e)
  | .makeSlice t l c => makeSliceR E id t (e l) (e c)
  | .call c => match c.callee with
    | .value f => match e f with
      | .fn g first caps => C g (first ++ c.args.toList.map e ++ caps) h id
      | _ => .bad
    | .builtin b => match b, c.argTypes.toList, c.args.toList.map e with
      | .len, [t], [x] => match E.P.underlying t with
        | some .string => match x with
          | .str s => valR (.int .i64 s.length)
          | _ => .bad
        | some (.slice _) => match slLen h x with
          | some n => valR (.int .i64 n)
          | none => .bad
        | _ => .bad
      | .append, [t, u], [x, y] => bif appOk E t u y then appendR E h id t x y else .bad
      | .max, _, [.int kd a, .int _ b] => valR (.int kd (if b > a then b else a))
      | .min, _, [.int kd a, .int _ b] => valR (.int kd (if b < a then b else a))
      | _, _, _ => .bad
    | _ => .bad
  | _ => .bad

def idBase (st : AState) : Nat := st.τ * 4096
def step1 (E : Env) (C : CallR) (o : Oper) (i : Nat) (st : AState) : T AState :=
  (exR E C o ((idBase st + i) * 64) (ev st) st.h).bind fun r => .leaf ({ st with h := updW st.h r.2 }.put o.dst r.1)
def guardTmp (ops : Array Oper) (j : Nat) : Option Tmp := (ops[j]?).bind (·.dst)
/-- operations, one behind the other -/
def opsT (E : Env) (C : CallR) (ops : Array Oper) : List Nat → AState → T AState
  | [], st => .leaf st
  | i :: rest, st => match ops[i]? with
    | none => .bad
    | some o => match o.guard with
      | none => (step1 E C o i st).bind fun st => opsT E C ops rest st
      | some (j, want) => match guardTmp ops j with
        | none => .bad
        | some d => match st.t d with
          | .bool b =>
            match want with
            | true => .node b ((step1 E C o i (st.put (some d) (.bool true))).bind fun st => opsT E C ops rest st)
                (opsT E C ops rest ((st.put (some d) (.bool false)).put o.dst (.tup [])))
            | false => .node b (opsT E C ops rest ((st.put (some d) (.bool true)).put o.dst (.tup [])))
                ((step1 E C o i (st.put (some d) (.bool false))).bind fun st => opsT E C ops rest st)
          | .tup [] => opsT E C ops rest (st.put o.dst (.tup []))
          | _ => .bad

def firstRegion : Code → Nat
  | .region id _ _ => id
  | .seq a _ => firstRegion a
  | .block _ a => firstRegion a
  | .loop a => firstRegion a
  | .scope a => firstRegion a
  | _ => 0
def opsDst (ops : Array Oper) : List Nat → List Nat
  | [] => []
  | i :: r => match (ops[i]?).bind (·.dst) with
    | some d => d :: opsDst ops r
    | none => opsDst ops r
/-- the slots that a piece of code may write -/
def writes : Code → List Nat
  | .region _ ops _ => opsDst ops (List.range ops.size)
  | .seq a b => writes a ++ writes b
  | .cond _ a b => writes a ++ writes b
  | .block _ a => writes a
  | .loop a => writes a
  | .scope a => writes a
  | _ => []
abbrev LoopR := Code → AState → T (AExit × AState)

/-! regions whose order is drawn: each operation sees only what must run before it -/
def ov {β : Type} (f : Nat → β) : List (Nat × β) → Nat → β
  | [] => f
  | p :: r => ov (updF f p.1 p.2) r
def ovAll {β : Type} (P : Nat → Bool) : List (Nat × List (Nat × β)) → (Nat → β) → Nat → β
  | [], f => f
  | x :: r, f => ovAll P r (bif P x.1 then ov f x.2 else f)
def memb (l : List Nat) (k : Nat) : Bool := l.any (Nat.beq k)
def edgesOf (o : Oper) : List Nat := o.after.toList.filterMap fun e => bif Region.binds .any e then some e.on else none
/-- each once -/
def uniq : List Nat → List Nat
  | [] => []
  | x :: r => (fun q => bif memb q x then q else x :: q) (uniq r)
def depsGo : List Oper → List (List Nat) → List (List Nat)
  | [], acc => acc
  | o :: r, acc => depsGo r (acc ++ [uniq ((edgesOf o).flatMap fun d => d :: acc.getD d [])])
def heapFree : Op → Bool
  | .move _ | .assign _ | .pick .. | .extract .. | .binOp .. | .unOp .. | .nilCheck _ | .makeInterface .. | .alloc _ | .box .. | .build .. | .buildSlice .. | .fieldAddr .. | .field .. | .index .. | .makeSlice .. => true
  | _ => false
structure DRes where
  k : Nat
  dst : Option Tmp
  v : AV
  W : Upd
def DRes.tu (r : DRes) : Nat × List (Nat × AV) := (r.k, match r.dst with | some d => [(d, r.v)] | none => [])
def DRes.hu (r : DRes) : Nat × List (Nat × Option Blk) := (r.k, r.W)
def hasName (W : Upd) (b : Nat) : Bool := W.any fun p => Nat.beq b p.1
def inRange (id b : Nat) : Bool := Nat.ble id b && Nat.blt b (id + 64)
def drawId (τ k : Nat) : Nat := (τ * 4096 + k) * 64
/-- what operation k sees of the slots -/
def drawT (ops : List Oper) (ds : List (List Nat)) (k : Nat) (st : AState) (rs : List DRes) : Nat → AV := fun i =>
  bif (ops.zipIdx.any fun p => (match p.1.dst with | some d => Nat.beq d i | none => false) && (!memb (ds.getD k []) p.2 && !memb (ds.getD p.2 []) k)) then .any else ovAll (memb (ds.getD k [])) (rs.map DRes.tu) st.t i
def drawH (dk : List Nat) (st : AState) (rs : List DRes) : Heap := fun b =>
  bif (rs.any fun r => !memb dk r.k && hasName r.W b) then none else ovAll (memb dk) (rs.map DRes.hu) st.h b
def globH (h : Heap) : Heap := fun b => bif Nat.ble globBase b then h b else none
def sameDst (a b : Option Tmp) : Bool := match a, b with | some x, some y => Nat.beq x y | _, _ => false
/-- the block that a value leads to -/
def rdOf : AV → Option Nat
  | .slw b => some b
  | .sl b _ _ => some b
  | .ptr b _ _ => some b
  | .str _ => some 0
  | .int _ _ => some 0
  | _ => none
/-- the block that an operation reads, if it reads no other one -/
def readsAt (ops : List Oper) (ds : List (List Nat)) (st : AState) (rs : List DRes) (q : Oper) (k : Nat) : Option Nat := match q.op with
  | .load _ a => match ev { st with t := drawT ops ds k st (rs.take k), h := globH st.h } a with
    | .ptr b _ _ => some b
    | _ => none
  | .slice _ x _ _ none => rdOf (ev { st with t := drawT ops ds k st (rs.take k), h := globH st.h } x)
  | .indexAddr _ x _ => rdOf (ev { st with t := drawT ops ds k st (rs.take k), h := globH st.h } x)
  | .convert _ _ x => rdOf (ev { st with t := drawT ops ds k st (rs.take k), h := globH st.h } x)
  | _ => none
def freeOf (ops : List Oper) (ds : List (List Nat)) (st : AState) (rs : List DRes) (W : Upd) (q : Oper) (k : Nat) : Bool := heapFree q.op || match readsAt ops ds st rs q k with
  | some b => !hasName W b
  | none => false
/-- what is asked of an operation's outcome, that it does not matter when it runs -/
def drawFits (ops : List Oper) (ds : List (List Nat)) (dk : List Nat) (st : AState) (o : Oper) (k : Nat) (W : Upd) (rs : List DRes) : Bool :=
  (rs.all fun r => memb dk r.k || !sameDst r.dst o.dst) &&
  (rs.all fun r => memb dk r.k || r.W.all fun p => !hasName W p.1) &&
  (rs.all fun r => r.W.all fun p => !inRange (drawId st.τ k) p.1) &&
  (W.all (fun p => inRange (drawId st.τ k) p.1) || rs.all fun r => memb dk r.k || (match ops[r.k]? with | some q => freeOf ops ds st rs W q r.k | none => false)) &&
  (match o.dst with | some d => Nat.blt d st.n | none => true) &&
  ((edgesOf o).all fun e => Nat.blt e k) &&
  (W.all fun p => Nat.blt p.1 globBase)
def drawOne (E : Env) (C : CallR) (ops : Array Oper) (ds : List (List Nat)) (st : AState) (k : Nat) (rs : List DRes) : T DRes :=
  match ops[k]? with
  | none => .bad
  | some o =>
    let dk := ds.getD k []
    let t := drawT ops.toList ds k st rs
    let go : T DRes := (exR E C o (drawId st.τ k) (ev { st with t := t, h := globH st.h }) (drawH dk st rs)).bind fun r => bif drawFits ops.toList ds dk st o k r.2 rs then .leaf ⟨k, o.dst, r.1, r.2⟩ else .bad
    let skip : T DRes := bif drawFits ops.toList ds dk st o k [] rs then .leaf ⟨k, o.dst, .tup [], []⟩ else .bad
    match o.guard with
    | none => go
    | some (j, want) => match guardTmp ops j with
      | none => .bad
      | some d => match t d with
        | .bool b => match want with
          | true => .node b go skip
          | false => .node b skip go
        | .tup [] => skip
        | _ => .bad
def drawGo (E : Env) (C : CallR) (ops : Array Oper) (ds : List (List Nat)) (st : AState) : List Nat → List DRes → T (List DRes)
  | [], rs => .leaf rs
  | k :: l, rs => (drawOne E C ops ds st k rs).bind fun r => drawGo E C ops ds st l (rs ++ [r])
/-- a guard's outcome, once asked, is known to all that follow -/
def guardT {β : Type} (j : Nat) (f : List DRes → T β) : List DRes → List DRes → T β
  | pre, [] => f pre
  | pre, r :: rs => bif Nat.beq r.k j then
      match r.v with
      | .bool b => .node b (f (pre ++ { r with v := .bool true } :: rs)) (f (pre ++ { r with v := .bool false } :: rs))
      | _ => f (pre ++ r :: rs)
    else guardT j f (pre ++ [r]) rs
def drawGo2 (E : Env) (C : CallR) (ops : Array Oper) (ds : List (List Nat)) (st : AState) : List Nat → List DRes → T (List DRes)
  | [], rs => .leaf rs
  | k :: l, rs => match (ops[k]?).bind (·.guard) with
    | some (j, _) => guardT j (fun rs => (drawOne E C ops ds st k rs).bind fun r => drawGo2 E C ops ds st l (rs ++ [r])) [] rs
    | none => (drawOne E C ops ds st k rs).bind fun r => drawGo2 E C ops ds st l (rs ++ [r])
def drawAll (E : Env) (C : CallR) (ops : Array Oper) (st : AState) : T AState :=
  bif E.P.follows .mixedOrders then
    (drawGo2 E C ops (depsGo ops.toList []) st (List.range ops.size) []).bind fun rs =>
      .leaf { st with t := ovAll (fun _ => true) (rs.map DRes.tu) st.t, h := ovAll (fun _ => true) (rs.map DRes.hu) st.h }
  else .bad

/-- a condition, once asked, is known in its branches -/
def litSt (st : AState) (c : Operand) (v : Bool) : AState := match c with
  | .tmp d => st.put (some d) (.bool v)
  | _ => st
def run (E : Env) (C : CallR) (L : LoopR) : Code → AState → T (AExit × AState)
  | .skip, st => .leaf (.normal, st)
  | .region _ ops draw, st => bif Nat.ble ops.size 4096 && Nat.blt st.τ 1000000 then
      (bif draw then drawAll E C ops st else opsT E C ops (List.range ops.size) st).bind fun st => .leaf (.normal, { st with τ := st.τ + 1 })
    else .bad
  | .seq a b, st => (run E C L a st).bind fun r => match r.1 with
    | .normal => run E C L b r.2
    | e => .leaf (e, r.2)
  | .cond c a b, st => match ev st c with
    | .bool v => .node v (run E C L a (litSt st c true)) (run E C L b (litSt st c false))
    | _ => .bad
  | .block id a, st => (run E C L a st).bind fun r => match r.1 with
    | .exit j => bif Nat.beq j id then .leaf (.normal, r.2) else .leaf (.exit j, r.2)
    | e => .leaf (e, r.2)
  | .loop a, st => L a st
  | .scope a, st => run E C L a st
  | .label _, st => .leaf (.normal, st)
  | .exit id, st => .leaf (.exit id, st)
  | .ret, st => .leaf (.ret, st)
  | _, _ => .bad

/-! data without addresses -/
def AV.isScalar : AV → Bool
  | .bool _ | .int .. | .str _ | .nilp | .nils | .nilf | .nili => true
  | _ => false
def Dat.plain : Dat → Bool
  | .gen _ rows => rows.all fun r => r.all AV.isScalar
  | _ => true
end Go.Am
