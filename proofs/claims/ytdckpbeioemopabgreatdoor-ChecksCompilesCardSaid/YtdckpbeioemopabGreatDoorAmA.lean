/-
  Texts put together: AmCore, AmSem, AmOps1, AmOps2, AmDat, AmOps3, AmOps4, AmHeap.
-/
import Derived.Calls
import Derived.KernelRfl
import Derived.Below
import Derived.Laws.StructEq
import Derived.Laws.Slices
import Derived.Laws.AppendOwn
import Derived.Laws.MakeOwn
import Derived.Laws.Strings
namespace Go.Am
inductive T (α : Type) where
  | bad
  | leaf (a : α)
  | node (b : Bool) (x y : T α)
def T.bind {α β : Type} : T α → (α → T β) → T β
  | .bad, _ => .bad
  | .leaf a, f => f a
  | .node b x y, f => .node b (x.bind f) (y.bind f)
def T.sel {α : Type} : T α → Option α
  | .bad => none
  | .leaf a => some a
  | .node b x y => bif b then x.sel else y.sel
inductive AV where
  | any
  | bool (b : Bool) | int (k : IntKind) (n : Int) | str (s : List UInt8)
  | nilp | ptr (b i j : Nat)
  | nils | slw (b : Nat) | sl (b i n : Nat)
  | foc (b : Nat) (t : Int) (n : Nat)
  | nilf | fn (f : FuncId) (first caps : List AV)
  | nili | iface (t : TypeId) (v : AV)
  | agg (cs : List AV) | tup (vs : List AV)
  deriving Inhabited
def AV.isCell : AV → Bool
  | .any | .agg _ | .tup _ | .foc .. => false
  | _ => true
structure Tok where
  kind : Int
  text : List UInt8
  pos : Int
  deriving Inhabited, DecidableEq
structure Nod where
  kind : Int
  n : Int
  a : Int
  b : Int
  pos : Int
  deriving Inhabited, DecidableEq
structure Top where
  pos : Int
  size : Int
  depth : Int
  deriving Inhabited, DecidableEq
structure Sgn where
  sign : List UInt8
  line : Int
  deriving Inhabited, DecidableEq
structure Opr where
  kind : Int
  n : Int
  deriving Inhabited, DecidableEq
structure Chn where
  src : Int
  out : Int
  dst : Int
  inp : Int
  room : Int
  deriving Inhabited, DecidableEq
inductive DK where
  | ints (k : IntKind) | bools | strs | toks | nodes | tops | sgns | oprs | chns | gen (tys : List TypeId) | bytes (t : TypeId)
  deriving Inhabited
inductive Dat where
  | gen (tys : List TypeId) (rows : List (List AV))
  | ints (k : IntKind) (l : List Int)
  | bools (l : List Bool)
  | strs (l : List (List UInt8))
  | toks (l : List Tok)
  | nodes (l : List Nod)
  | tops (l : List Top)
  | sgns (l : List Sgn)
  | oprs (l : List Opr)
  | chns (l : List Chn)
  | bytes (t : TypeId) (l : List Int)
  deriving Inhabited
def Tok.enc (t : Tok) : List AV := [.int .u8 t.kind, .str t.text, .int .i64 t.pos]
def Nod.enc (x : Nod) : List AV := [.int .u8 x.kind, .int .i64 x.n, .int .i64 x.a, .int .i64 x.b, .int .i64 x.pos]
def Top.enc (x : Top) : List AV := [.int .i64 x.pos, .int .i64 x.size, .int .i64 x.depth]
def Sgn.enc (x : Sgn) : List AV := [.str x.sign, .int .i64 x.line]
def Opr.enc (x : Opr) : List AV := [.int .u8 x.kind, .int .i64 x.n]
def Chn.enc (x : Chn) : List AV := [.int .i64 x.src, .int .i64 x.out, .int .i64 x.dst, .int .i64 x.inp, .int .i64 x.room]
def Tok.dec : List AV → Option Tok
  | [.int .u8 k, .str s, .int .i64 p] => some ⟨k, s, p⟩
  | _ => none
def Nod.dec : List AV → Option Nod
  | [.int .u8 k, .int .i64 n, .int .i64 a, .int .i64 b, .int .i64 p] => some ⟨k, n, a, b, p⟩
  | _ => none
def Top.dec : List AV → Option Top
  | [.int .i64 a, .int .i64 b, .int .i64 p] => some ⟨a, b, p⟩
  | _ => none
def Sgn.dec : List AV → Option Sgn
  | [.str s, .int .i64 p] => some ⟨s, p⟩
  | _ => none
def Opr.dec : List AV → Option Opr
  | [.int .u8 k, .int .i64 p] => some ⟨k, p⟩
  | _ => none
def Chn.dec : List AV → Option Chn
  | [.int .i64 n, .int .i64 a, .int .i64 b, .int .i64 p, .int .i64 r] => some ⟨n, a, b, p, r⟩
  | _ => none
def intDec (k : IntKind) : List AV → Option Int
  | [.int k' n] => bif decide (k' = k) then some n else none
  | _ => none
def boolDec : List AV → Option Bool
  | [.bool n] => some n
  | _ => none
def strDec : List AV → Option (List UInt8)
  | [.str n] => some n
  | _ => none
def markBase : Nat := 4294967296
def isMark (t : TypeId) : Bool := Nat.ble markBase t
def wid : List TypeId → Nat
  | [] => 0
  | t :: r => bif isMark t then wid r else wid r + 1
def markOf : List TypeId → Option TypeId
  | [] => none
  | t :: r => bif isMark t then some (t - markBase) else markOf r
def unmark : List TypeId → List TypeId
  | [] => []
  | t :: r => bif isMark t then unmark r else t :: unmark r
def genDec (s : List TypeId) (r : List AV) : Option (List AV) := bif Nat.beq r.length (wid s) && r.all AV.isCell then some r else none
def sameTys : List TypeId → List TypeId → Bool
  | [], [] => true
  | a :: r, b :: q => Nat.beq a b && sameTys r q
  | _, _ => false
def Dat.len : Dat → Nat
  | .gen _ r => r.length | .ints _ l => l.length | .bools l => l.length | .strs l => l.length | .toks l => l.length | .nodes l => l.length
  | .tops l => l.length | .sgns l => l.length | .oprs l => l.length | .chns l => l.length | .bytes _ l => l.length
def Dat.stride : Dat → Nat
  | .gen s _ => wid s | .ints .. | .bools _ | .strs _ => 1 | .toks _ => 3 | .nodes _ => 5 | .tops _ => 3 | .sgns _ => 2 | .oprs _ => 2 | .chns _ => 5 | .bytes .. => 1
def Dat.row : Dat → Nat → List AV
  | .gen _ r, i => r.getD i []
  | .ints k l, i => [.int k (l.getD i 0)]
  | .bools l, i => [.bool (l.getD i false)]
  | .strs l, i => [.str (l.getD i [])]
  | .toks l, i => (l.getD i default).enc
  | .nodes l, i => (l.getD i default).enc
  | .tops l, i => (l.getD i default).enc
  | .sgns l, i => (l.getD i default).enc
  | .oprs l, i => (l.getD i default).enc
  | .chns l, i => (l.getD i default).enc
  | .bytes _ l, i => [.int .u8 (l.getD i 0)]
def decAll {α : Type} (f : List AV → Option α) : List (List AV) → Option (List α)
  | [] => some []
  | x :: r => match f x with
    | some y => (decAll f r).map (y :: ·)
    | none => none
def Dat.ofRows : DK → List (List AV) → Option Dat
  | .gen s, r => (decAll (genDec s) r).map (.gen (unmark s))
  | .ints k, r => (decAll (intDec k) r).map (.ints k)
  | .bools, r => (decAll boolDec r).map .bools
  | .strs, r => (decAll strDec r).map .strs
  | .toks, r => (decAll Tok.dec r).map .toks
  | .nodes, r => (decAll Nod.dec r).map .nodes
  | .tops, r => (decAll Top.dec r).map .tops
  | .sgns, r => (decAll Sgn.dec r).map .sgns
  | .oprs, r => (decAll Opr.dec r).map .oprs
  | .chns, r => (decAll Chn.dec r).map .chns
  | .bytes t, r => (decAll (intDec .u8) r).map (.bytes t)
def Dat.empty (k : DK) : Dat := (Dat.ofRows k []).getD default
def Dat.append : Dat → Dat → Option Dat
  | .gen s a, .gen t b => bif sameTys (unmark s) (unmark t) then some (.gen (unmark s) (a ++ b)) else none
  | .ints k a, .ints k' b => bif decide (k = k') then some (.ints k (a ++ b)) else none
  | .bools a, .bools b => some (.bools (a ++ b))
  | .strs a, .strs b => some (.strs (a ++ b))
  | .toks a, .toks b => some (.toks (a ++ b))
  | .nodes a, .nodes b => some (.nodes (a ++ b))
  | .tops a, .tops b => some (.tops (a ++ b))
  | .sgns a, .sgns b => some (.sgns (a ++ b))
  | .oprs a, .oprs b => some (.oprs (a ++ b))
  | .chns a, .chns b => some (.chns (a ++ b))
  | .bytes t a, .bytes u b => bif Nat.beq t u then some (.bytes t (a ++ b)) else none
  | .bytes t a, .ints k b => bif decide (k = .u8) then some (.bytes t (a ++ b)) else none
  | _, _ => none
def Dat.sub (i n : Nat) : Dat → Dat
  | .gen s l => .gen (unmark s) ((l.drop i).take n)
  | .ints k l => .ints k ((l.drop i).take n)
  | .bools l => .bools ((l.drop i).take n)
  | .strs l => .strs ((l.drop i).take n)
  | .toks l => .toks ((l.drop i).take n)
  | .nodes l => .nodes ((l.drop i).take n)
  | .tops l => .tops ((l.drop i).take n)
  | .sgns l => .sgns ((l.drop i).take n)
  | .oprs l => .oprs ((l.drop i).take n)
  | .chns l => .chns ((l.drop i).take n)
  | .bytes _ l => .ints .u8 ((l.drop i).take n)
def Dat.setRow (i : Nat) (row : List AV) : Dat → Option Dat
  | .gen s l => (genDec s row).map fun x => .gen s (l.set i x)
  | .ints k l => (intDec k row).map fun x => .ints k (l.set i x)
  | .bools l => (boolDec row).map fun x => .bools (l.set i x)
  | .strs l => (strDec row).map fun x => .strs (l.set i x)
  | .toks l => (Tok.dec row).map fun x => .toks (l.set i x)
  | .nodes l => (Nod.dec row).map fun x => .nodes (l.set i x)
  | .tops l => (Top.dec row).map fun x => .tops (l.set i x)
  | .sgns l => (Sgn.dec row).map fun x => .sgns (l.set i x)
  | .oprs l => (Opr.dec row).map fun x => .oprs (l.set i x)
  | .chns l => (Chn.dec row).map fun x => .chns (l.set i x)
  | .bytes t l => (intDec .u8 row).map fun x => .bytes t (l.set i x)
def Dat.mark : Dat → Option TypeId
  | .gen s _ => markOf s
  | .bytes t _ => some t
  | _ => none
def markIn (t : TypeId) : Dat → Bool
  | .gen s _ => (markOf s).isNone
  | .bytes u _ => Nat.beq u t
  | _ => true
def Dat.isGen : Dat → Bool
  | .gen .. => true
  | _ => false
structure Blk where
  own : Bool
  dat : Dat
  deriving Inhabited
abbrev Heap := Nat → Option Blk
abbrev Upd := List (Nat × Option Blk)
def updF {α : Type} (f : Nat → α) (k : Nat) (v : α) : Nat → α := fun x => bif Nat.beq x k then v else f x
def updW (h : Heap) : Upd → Heap
  | [] => h
  | (b, x) :: r => updW (updF h b x) r
structure AState where
  n : Nat
  t : Nat → AV
  h : Heap
  τ : Nat
def AState.put (st : AState) (d : Option Tmp) (v : AV) : AState :=
  match d with
  | some d => bif Nat.blt d st.n then { st with t := updF st.t d v } else st
  | none => st
inductive AExit where
  | normal | exit (id : Nat) | ret
def globBase : Nat := 1000000000000
structure Env where
  P : Program
  kind : TypeId → DK
  ng : Nat
  glob : Nat → Option Dat
  base : Nat → Option Obj := fun _ => none
def AV.ofCell : Value → AV
  | .bool b => .bool b
  | .int k n => .int k n
  | .string s => .str s.data.toList
  | .pointer none => .nilp
  | .slice none 0 0 => .nils
  | .nilFunc => .nilf
  | .nilIface => .nili
  | _ => .any
def AV.ofVal : Value → AV
  | .agg cs => .agg (cs.toList.map AV.ofCell)
  | .tuple cs => .tup (cs.toList.map AV.ofCell)
  | v => AV.ofCell v
def ev (st : AState) : Operand → AV
  | .tmp t => st.t t
  | .const v => AV.ofVal v
  | .global g => match st.h (globBase + g) with
    | some _ => .ptr (globBase + g) 0 0
    | none => .any
  | .func f => .fn f [] []
def flatTys (E : Env) : Nat → TypeId → List TypeId
  | 0, _ => []
  | d + 1, t => match E.P.underlying t with
    | some (.struct fs) => fs.toList.flatMap fun f => flatTys E d f.type
    | some (.array n e) => (List.replicate n (flatTys E d e)).flatten
    | _ => [t]
def autoKind (P : Program) (t : TypeId) : DK :=
  let E : Env := ⟨P, fun _ => .bools, 0, fun _ => none, fun _ => none⟩
  match (flatTys E 8 t).map P.underlying with
  | [some (.int .u8)] => match flatTys E 8 t with
    | [u] => bif Nat.beq u t then .bytes t else .ints .u8
    | _ => .ints .u8
  | [some (.int k)] => .ints k
  | [some .bool] => .bools
  | [some .string] => .strs
  | [some (.int .u8), some .string, some (.int .i64)] => .toks
  | [some (.int .u8), some (.int .i64), some (.int .i64), some (.int .i64), some (.int .i64)] => .nodes
  | [some (.int .i64), some (.int .i64), some (.int .i64)] => .tops
  | [some .string, some (.int .i64)] => .sgns
  | [some (.int .u8), some (.int .i64)] => .oprs
  | [some (.int .i64), some (.int .i64), some (.int .i64), some (.int .i64), some (.int .i64)] => .chns
  | _ => .gen (flatTys E 8 t)
def sizeT (E : Env) (t : TypeId) : Option Nat := (E.P.info? t).map (·.size)
def zeroCells (E : Env) (t : TypeId) : Option (List AV) :=
  match E.P.info? t with
  | some i => match i.zero with
    | some v => some (v.cells.toList.map AV.ofCell)
    | none => none
  | none => none
def fieldOf (E : Env) (t : TypeId) (f : Nat) : Option (Nat × TypeId) :=
  match E.P.underlying t with
  | some (.struct fs) => (fs[f]?).map fun x => (x.offset, x.type)
  | _ => none
def AV.cells : AV → List AV
  | .agg cs => cs
  | v => [v]
def descAgg : TypeDesc → Bool
  | .struct _ | .array _ _ => true
  | _ => false
def partOf (E : Env) (t : TypeId) (cs : List AV) (off : Nat) : Option AV :=
  match E.P.underlying t with
  | none => none
  | some d => bif descAgg d then
      match sizeT E t with
      | some s => bif Nat.ble (off + s) cs.length then some (.agg ((cs.drop off).take s)) else none
      | none => none
    else cs[off]?
def setCells (cs : List AV) (off : Nat) : List AV → List AV
  | [] => cs
  | v :: r => setCells (cs.set off v) (off + 1) r
def fillCells (place : Nat → Option (Nat × Nat)) (cs : List AV) : List (Nat × List AV) → Option (List AV)
  | [] => some cs
  | (i, v) :: r => match place i with
    | none => none
    | some (off, size) => bif Nat.beq v.length size && Nat.ble (off + v.length) cs.length then fillCells place (setCells cs off v) r else none
def lim : Nat := 1073741824
abbrev Res := T (AV × Upd)
def valR (v : AV) : Res := .leaf (v, [])
def optR : Option AV → Res
  | some v => .leaf (v, [])
  | none => .bad
def intBin (op : BinOp) (k : IntKind) (a b : Int) : Res :=
  match op with
  | .add => valR (.int k (k.wrap (a + b)))
  | .sub => valR (.int k (k.wrap (a - b)))
  | .mul => valR (.int k (k.wrap (a * b)))
  | .quo => .node (decide (b = 0)) .bad (valR (.int k (k.wrap (a.tdiv b))))
  | .rem => .node (decide (b = 0)) .bad (valR (.int k (a.tmod b)))
  | .and => valR (.int k (k.wrap ((BitVec.ofInt k.bits a) &&& (BitVec.ofInt k.bits b)).toNat))
  | .or => valR (.int k (k.wrap ((BitVec.ofInt k.bits a) ||| (BitVec.ofInt k.bits b)).toNat))
  | .xor => valR (.int k (k.wrap ((BitVec.ofInt k.bits a) ^^^ (BitVec.ofInt k.bits b)).toNat))
  | .andNot => valR (.int k (k.wrap ((BitVec.ofInt k.bits a) &&& ~~~(BitVec.ofInt k.bits b)).toNat))
  | .eql => valR (.bool (decide (a = b)))
  | .neq => valR (.bool (!decide (a = b)))
  | .lss => valR (.bool (decide (a < b)))
  | .leq => valR (.bool (decide (a ≤ b)))
  | .gtr => valR (.bool (decide (b < a)))
  | .geq => valR (.bool (decide (b ≤ a)))
  | _ => .bad
def cellEqT (E : Env) (t : TypeId) (x y : AV) : Option Bool :=
  match E.P.underlying t with
  | some (.int _) => match x, y with
    | .int k a, .int k' b => bif decide (k = k') then some (decide (a = b)) else none
    | _, _ => none
  | some .bool => match x, y with
    | .bool a, .bool b => some (a == b)
    | _, _ => none
  | some .string => match x, y with
    | .str a, .str b => some (decide (a = b))
    | _, _ => none
  | _ => none
def eqFields (f : TypeId → AV → AV → Option Bool) (g : TypeId → List AV → Nat → Option AV) (xs ys : List AV) : List Field → Option Bool
  | [] => some true
  | x :: r => bif x.name != "_" then
      match g x.type xs x.offset, g x.type ys x.offset with
      | some a, some b => match f x.type a b with
        | some u => match eqFields f g xs ys r with
          | some v => some (u && v)
          | none => none
        | none => none
      | _, _ => none
    else none
def eqElems (f : AV → AV → Option Bool) (g : List AV → Nat → Option AV) (xs ys : List AV) (s : Nat) : Nat → Nat → Option Bool
  | _, 0 => some true
  | i, n + 1 => match g xs (i * s), g ys (i * s) with
    | some a, some b => match f a b with
      | some u => match eqElems f g xs ys s (i + 1) n with
        | some v => some (u && v)
        | none => none
      | none => none
    | _, _ => none
def eqT (E : Env) : Nat → TypeId → AV → AV → Option Bool
  | 0, _, _, _ => none
  | d + 1, t, x, y => match E.P.underlying t with
    | some .bool | some (.int _) | some .string => cellEqT E t x y
    | some (.struct fs) => match x, y with
      | .agg a, .agg b => bif E.P.stoodInHeld t then none else eqFields (eqT E d) (partOf E) a b fs.toList
      | _, _ => none
    | some (.array n e) => match x, y with
      | .agg a, .agg b => match sizeT E e with
        | some s => eqElems (eqT E d e) (partOf E e) a b s 0 n
        | none => none
      | _, _ => none
    | _ => none
def litOp : Operand → Bool
  | .const _ => true
  | _ => false
def eqAV (E : Env) (t : TypeId) (lit : Bool) : AV → AV → Option Bool
  | .agg a, .agg b => bif E.P.eqGuardType E.P.depth t then none else eqT E 10 t (.agg a) (.agg b)
  | x, y => match E.P.underlying t with
    | some (.pointer _) => match x, y with
      | .nilp, .nilp => some true | .nilp, .ptr .. => some false | .ptr .., .nilp => some false
      | _, _ => none
    | some (.interface _) => match x, y with
      | .nili, .iface .. => some false | .iface .., .nili => some false | .nili, .nili => bif lit then some true else none
      | _, _ => none
    | some (.func ..) => match x, y with
      | .nilf, .fn .. => some false | .fn .., .nilf => some false
      | _, _ => none
    | some .bool => match x, y with
      | .bool a, .bool b => some (a == b)
      | _, _ => none
    | _ => none
def shiftR (k : IntKind) (n : Int) (b : Int) : Res := .node (decide (0 ≤ b)) (valR (.int k n)) .bad
def binR (E : Env) (op : BinOp) (t : TypeId) (lit : Bool) (x y : AV) : Res :=
  match x, y with
  | .int kx a, .int ky b =>
    match op with
    | .shl => shiftR kx (kx.wrap (a * 2 ^ (min b.toNat kx.bits))) b
    | .shr => shiftR kx (a.fdiv (2 ^ (min b.toNat kx.bits))) b
    | op => bif decide (kx = ky) then intBin op kx a b else .bad
  | .str a, .str b =>
    match op with
    | .add => .node (decide (a.length + b.length ≤ lim)) (valR (.str (a ++ b))) .bad
    | .eql => valR (.bool (decide (a = b)))
    | .neq => valR (.bool (!decide (a = b)))
    | _ => .bad
  | x, y =>
    match op with
    | .eql => optR ((eqAV E t lit x y).map .bool)
    | .neq => optR ((eqAV E t lit x y).map fun b => .bool (!b))
    | _ => .bad
def datOf (h : Heap) : AV → Option Dat
  | .slw b => (h b).map (·.dat)
  | .sl b i n => (h b).map fun x => x.dat.sub i n
  | _ => none
def slLen (h : Heap) : AV → Option Nat
  | .slw b => (h b).map (·.dat.len)
  | .sl _ _ n => some n
  | .nils => some 0
  | _ => none
def slAt (v : AV) (i : Nat) : Option (Nat × Nat) :=
  match v with
  | .slw b => some (b, i)
  | .sl b o _ => some (b, o + i)
  | _ => none
def Dat.rw : Dat → Nat → Nat → Nat
  | .ints _ _, i, j => i + j
  | _, i, _ => i
def Dat.cl : Dat → Nat → Nat
  | .ints _ _, _ => 0
  | _, j => j
def loadA (E : Env) (t : TypeId) (x : Dat) (i : Nat) : Option (List AV) := match x with
  | .ints k l => match E.P.underlying t with
    | some (.array _ _) => match sizeT E t with
      | some s => bif Nat.beq i 0 && Nat.beq s l.length then some (l.map fun n => .int k n) else none
      | none => none
    | _ => none
  | _ => none
def loadR (E : Env) (h : Heap) (t : TypeId) (a : AV) : Res :=
  match a with
  | .ptr b i j => match h b with
    | some x => match loadA E t x.dat (x.dat.rw i j) with
      | some l => .leaf (.agg l, [])
      | none => .node (decide (x.dat.rw i j < x.dat.len)) (optR (partOf E t (x.dat.row (x.dat.rw i j)) (x.dat.cl j))) .bad
    | none => .bad
  | _ => .bad
def storeR0 (E : Env) (h : Heap) (t : TypeId) (a v : AV) : Res :=
  match a with
  | .ptr b i j => match h b with
    | some x => bif x.own && v.cells.all AV.isCell && decide (sizeT E t = some v.cells.length) && Nat.ble (x.dat.cl j + v.cells.length) x.dat.stride then
        match x.dat.setRow (x.dat.rw i j) (setCells (x.dat.row (x.dat.rw i j)) (x.dat.cl j) v.cells) with
        | some d => .node (decide (x.dat.rw i j < x.dat.len)) (.leaf (.any, [(b, some ⟨true, d⟩)])) .bad
        | none => .bad
      else .bad
    | none => .bad
  | _ => .bad
def arrD (E : Env) (t : TypeId) (cs : List AV) : Option Dat := match E.P.underlying t with
  | some (.array _ e) => match E.P.underlying e with
    | some (.int k) => bif Nat.ble cs.length 100000 && Nat.blt 0 cs.length then Dat.ofRows (.ints k) (cs.map fun c => [c]) else none
    | _ => none
  | _ => none
def storeA (E : Env) (h : Heap) (t : TypeId) (a v : AV) : Option (Nat × Dat) := match arrD E t v.cells with
  | none => none
  | some d => match a with
    | .ptr b 0 0 => match h b with
      | some x => bif x.own && v.cells.all AV.isCell && decide (sizeT E t = some v.cells.length) && (Nat.beq x.dat.stride 1 && Nat.beq x.dat.len d.len) then some (b, d) else none
      | none => none
    | _ => none
def storeR (E : Env) (h : Heap) (t : TypeId) (a v : AV) : Res := match storeA E h t a v with
  | some (b, d) => .leaf (.any, [(b, some ⟨true, d⟩)])
  | none => storeR0 E h t a v
def varTys (E : Env) (t : TypeId) : List TypeId :=
  (fun f => bif f.any (fun u => match E.P.underlying u with | some (.pointer e) => Nat.beq e t | _ => false) then f ++ [t + markBase] else f) (flatTys E 8 t)
def markFits (t : TypeId) (tys : List TypeId) : Bool := match markOf tys with
  | some u => Nat.beq u t
  | none => true
def newR (id : Nat) (t : TypeId) (tys : List TypeId) (cs : List AV) : Res :=
  bif cs.all AV.isCell && (Nat.beq cs.length (wid tys) && markFits t tys) then .leaf (.ptr id 0 0, [(id, some ⟨true, .gen tys [cs]⟩)]) else .bad
def indexAddrR (E : Env) (h : Heap) (t : TypeId) (x ix : AV) : Res :=
  match ix with
  | .int _ i => match E.P.underlying t with
    | some (.array n et) => match x with
      | .ptr b e j => match sizeT E et with
        | some s => .node (decide (0 ≤ i ∧ i < (n : Int))) (valR (.ptr b e (j + i.toNat * s))) .bad
        | none => .bad
      | _ => .bad
    | some (.slice et) => match x with
      | .foc b t n => match h b with
        | some blk => bif decide (sizeT E et = some blk.dat.stride) then .node (decide (i = t ∧ 0 ≤ t ∧ t < (n : Int))) (valR (.ptr b 0 0)) .bad else .bad
        | none => .bad
      | x => match slLen h x with
        | some n => match slAt x i.toNat with
          | some (b, e) => match h b with
            | some blk => bif decide (sizeT E et = some blk.dat.stride) then .node (decide (0 ≤ i ∧ i < (n : Int))) (valR (.ptr b e 0)) .bad else .bad
            | none => .bad
          | none => .bad
        | none => .bad
    | _ => .bad
  | _ => .bad
def strsIn (E : Env) (e : TypeId) (s : Nat) (cs : List AV) : Option (List (List UInt8)) := bif Nat.beq s 1 then (match E.P.underlying e with
  | some .string => decAll strDec (cs.map fun c => [c])
  | _ => none) else none
def indexR (E : Env) (t : TypeId) (x ix : AV) : Res :=
  match ix with
  | .int _ i => match E.P.underlying t with
    | some .string => match x with
      | .str s => .node (decide (0 ≤ i ∧ i < (s.length : Int))) (valR (.int .u8 (s.getD i.toNat 0).toNat)) .bad
      | _ => .bad
    | some (.array n e) => match x with
      | .agg cs => match sizeT E e with
        | some s => .node (decide (0 ≤ i ∧ i < (n : Int))) (match strsIn E e s cs with
          | some l => bif Nat.ble n l.length then valR (.str (l.getD i.toNat [])) else .bad
          | none => optR (partOf E e cs (i.toNat * s))) .bad
        | none => .bad
      | _ => .bad
    | _ => .bad
  | _ => .bad
def boundOf : Option AV → Option (Option Int)
  | none => some none
  | some (.int _ n) => some (some n)
  | _ => none
def sliceR (E : Env) (h : Heap) (t : TypeId) (x : AV) (lo hi : Option AV) : Res :=
  match boundOf lo, boundOf hi with
  | some lo, some hi =>
    let l := lo.getD 0
    match E.P.underlying t with
    | some .string => match x with
      | .str s => match hi with
        | none => .node (decide (0 ≤ l ∧ l ≤ (s.length : Int))) (valR (.str (s.drop l.toNat))) .bad
        | some u => .node (decide (0 ≤ l ∧ l ≤ u ∧ u ≤ (s.length : Int))) (valR (.str ((s.take u.toNat).drop l.toNat))) .bad
      | _ => .bad
    | some (.slice et) => match slLen h x with
      | some n => match slAt x l.toNat with
        | some (b, e) => match h b with
          | some blk => bif decide (sizeT E et = some blk.dat.stride) then match hi with
            | none => .node (decide (0 ≤ l ∧ l ≤ (n : Int))) (valR (.sl b e (n - l.toNat))) .bad
            | some u => .node (decide (0 ≤ l ∧ l ≤ u ∧ u ≤ (n : Int))) (valR (.sl b e (u.toNat - l.toNat))) .bad
            else .bad
          | none => .bad
        | none => .bad
      | none => .bad
    | _ => .bad
  | _, _ => .bad
def appSrc (E : Env) (h : Heap) (et : TypeId) (y : AV) : Option Dat :=
  match y with
  | .str s => some (Dat.ints .u8 (s.map fun (c : UInt8) => (c.toNat : Int)))
  | .nils => some (Dat.empty (E.kind et))
  | y => datOf h y
def appendR (E : Env) (h : Heap) (id : Nat) (t : TypeId) (x y : AV) : Res :=
  match E.P.underlying t with
  | some (.slice et) =>
    match appSrc E h et y with
    | none => .bad
    | some d =>
      match E.P.info? et with
      | none => .bad
      | some i => bif Nat.beq i.size d.stride && Nat.blt 0 i.size && Nat.ble i.bytes 4096 && (match i.zero with | some z => Nat.beq z.cells.size i.size | none => false) then
        match x with
        | .nils => bif markIn et d then .node (decide (d.len ≤ lim)) (.leaf (.slw id, [(id, some ⟨true, d⟩)])) .bad else .bad
        | x => match slAt x 0 with
          | some (b, 0) => match datOf h x, h b with
            | some d0, some blk => match Dat.append d0 d with
              | some d' => bif blk.own && markIn et d' then .node (decide (d0.len + d.len ≤ lim)) (.leaf (.slw id, [(b, none), (id, some ⟨true, d'⟩)])) .bad else .bad
              | none => .bad
            | _, _ => .bad
          | _ => .bad
        else .bad
  | _ => .bad
def placesOf (E : Env) : List Field → Option (List (Nat × Nat))
  | [] => some []
  | f :: r => match sizeT E f.type with
    | some s => (placesOf E r).map ((f.offset, s) :: ·)
    | none => none
def buildR (E : Env) (t : TypeId) (parts : List (Nat × AV)) : Res :=
  bif parts.all (fun p => p.2.cells.all AV.isCell) then
    match zeroCells E t with
    | none => .bad
    | some z => match E.P.underlying t with
      | some (.struct fs) => match placesOf E fs.toList with
        | some ps => optR ((fillCells (fun i => ps[i]?) z (parts.map fun p => (p.1, p.2.cells))).map .agg)
        | none => .bad
      | some (.array _ e) => match sizeT E e with
        | some s => optR ((fillCells (fun i => some (i * s, s)) z (parts.map fun p => (p.1, p.2.cells))).map .agg)
        | none => .bad
      | _ => .bad
  else .bad
def zeroRow (z : List AV) (n : Nat) : List AV := (List.range n).map fun i => z.getD (i % z.length) .any
def chop (s : Nat) : Nat → List AV → List (List AV)
  | 0, _ => []
  | n + 1, l => l.take s :: chop s n (l.drop s)
def buildSliceR (E : Env) (id : Nat) (t : TypeId) (n : Nat) (parts : List (Nat × AV)) : Res :=
  match E.P.underlying t with
  | some (.slice e) => match zeroCells E e, sizeT E e with
    | some z, some s =>
      match fillCells (fun i => some (i * s, s)) (zeroRow z (n * s)) (parts.map fun p => (p.1, p.2.cells)) with
      | none => .bad
      | some cs => bif parts.all (fun p => p.2.cells.all AV.isCell) && Nat.beq z.length s && Nat.blt 0 s && Nat.ble (n * s) 1000000 then
          match Dat.ofRows (E.kind e) (chop s n cs) with
          | some d => bif Nat.beq d.stride s && markIn e d then .leaf (.slw id, [(id, some ⟨true, d⟩)]) else .bad
          | none => .bad
        else .bad
    | _, _ => .bad
  | _ => .bad
def Dat.rep (n : Nat) : Dat → Dat
  | .gen s l => .gen s (List.replicate n (l.getD 0 []))
  | .ints k l => .ints k (List.replicate n (l.getD 0 0))
  | .bools l => .bools (List.replicate n (l.getD 0 false))
  | .strs l => .strs (List.replicate n (l.getD 0 []))
  | .toks l => .toks (List.replicate n (l.getD 0 default))
  | .nodes l => .nodes (List.replicate n (l.getD 0 default))
  | .tops l => .tops (List.replicate n (l.getD 0 default))
  | .sgns l => .sgns (List.replicate n (l.getD 0 default))
  | .oprs l => .oprs (List.replicate n (l.getD 0 default))
  | .chns l => .chns (List.replicate n (l.getD 0 default))
  | .bytes t l => .bytes t (List.replicate n (l.getD 0 0))
def makeSliceR (E : Env) (id : Nat) (t : TypeId) (l c : AV) : Res :=
  match l, c with
  | .int _ n, .int _ m => match E.P.underlying t with
    | some (.slice e) => match E.P.info? e, zeroCells E e with
      | some i, some z => match Dat.ofRows (E.kind e) [z] with
        | some d1 => bif Nat.beq i.size d1.stride && Nat.blt 0 i.size && Nat.ble i.bytes 4096 && markIn e d1 then
            .node (decide (0 ≤ n ∧ n ≤ (lim : Int) ∧ n = m)) (.leaf (.slw id, [(id, some ⟨true, d1.rep n.toNat⟩)])) .bad
          else .bad
        | none => .bad
      | _, _ => .bad
    | _ => .bad
  | _, _ => .bad
def byteList (l : List Int) : List UInt8 := l.map fun n => UInt8.ofNat n.toNat
def nilOp : Operand → Bool
  | .const (.slice none 0 0) => true
  | _ => false
def nilR (E : Env) (h : Heap) (op : BinOp) (t : TypeId) (x y : AV) : Res :=
  match E.P.underlying t, slLen h x, y with
  | some (.slice _), some n, .nils => match op with
    | .eql => .node (decide (0 < n)) (valR (.bool false)) .bad
    | .neq => .node (decide (0 < n)) (valR (.bool true)) .bad
    | _ => .bad
  | _, _, _ => .bad
def bytesR (h : Heap) (y : AV) : Res := match y with
  | .nils => valR (.str [])
  | y => match datOf h y with
    | some (.ints .u8 l) => valR (.str (byteList l))
    | some (.bytes _ l) => valR (.str (byteList l))
    | _ => .bad
def appOk (E : Env) (t u : TypeId) (y : AV) : Bool :=
  match y with
  | .str _ => (match E.P.underlying u with | some .string => true | _ => false)
  | _ => decide (t = u)
abbrev CallR := FuncId → List AV → Heap → Nat → Res
def exR (E : Env) (C : CallR) (o : Oper) (id : Nat) (e : Operand → AV) (h : Heap) : Res :=
  match o.op with
  | .move x | .assign x => valR (e x)
  | .pick c a b => match e c with
    | .bool c => match e a, e b with
      | .bool x, .bool y => valR (.bool (bif c then x else y))
      | x, y => .node c (valR x) (valR y)
    | _ => .bad
  | .extract x i => match e x with
    | .tup vs => optR vs[i]?
    | _ => .bad
  | .binOp op t x y _ => bif nilOp y then nilR E h op t (e x) (e y) else binR E op t (litOp x || litOp y) (e x) (e y)
  | .unOp op _ x => match op, e x with
    | .not, .bool b => valR (.bool (!b))
    | .neg, .int kd n => valR (.int kd (kd.wrap (0 - n)))
    | _, _ => .bad
  | .convert s d x => match E.P.underlying s, E.P.underlying d, e x with
    | some (.int _), some (.int kd), .int _ n => valR (.int kd (kd.wrap n))
    | some .string, some .string, .str s => valR (.str s)
    | some (.slice et), some .string, y => match E.P.underlying et with
      | some (.int .u8) => bytesR h y
      | _ => .bad
    | _, _, _ => .bad
  | .nilCheck x => match e x with
    | .ptr b i j => valR (.ptr b i j)
    | .fn f u c => valR (.fn f u c)
    | _ => .bad
  | .makeFunc (.func f) first caps => valR (.fn f (first.toList.map e) (caps.toList.map e))
  | .makeInterface t x => match E.P.underlying t with
    | some (.interface _) => .bad
    | some _ => valR (.iface t (e x))
    | none => .bad
  | .alloc t => match zeroCells E t with
    | some cs => match arrD E t cs with
      | some d => .leaf (.ptr id 0 0, [(id, some ⟨true, d⟩)])
      | none => newR id t (varTys E t) cs
    | none => .bad
  | .box t x => newR id t (flatTys E 8 t) (e x).cells
  | .build t parts => buildR E t (parts.toList.map fun p => (p.1, e p.2))
  | .buildSlice t n parts => buildSliceR E id t n (parts.toList.map fun p => (p.1, e p.2))
  | .load t a => loadR E h t (e a)
  | .store t a v => storeR E h t (e a) (e v)
  | .fieldAddr t x f => match e x with
    | .ptr b i j => match fieldOf E t f with
      | some (off, ft) => match sizeT E ft with
        | some (_ + 1) => valR (.ptr b i (j + off))
        | _ => .bad
      | none => .bad
    | _ => .bad
  | .field t x f => match e x with
    | .agg cs => match fieldOf E t f with
      | some (off, ft) => optR (partOf E ft cs off)
      | none => .bad
    | _ => .bad
  | .indexAddr t x ix => indexAddrR E h t (e x) (e ix)
  | .index t x ix => indexR E t (e x) (e ix)
  | .slice t x lo hi none => sliceR E h t (e x) (lo.map e) (hi.map e)
  | .makeSlice t l c => makeSliceR E id t (e l) (e c)
  | .call c => match c.callee with
    | .value f => match e f with
      | .fn g first caps => C g (first ++ c.args.toList.map e ++ caps) h id
      | _ => .bad
    | .builtin b => match b, c.argTypes.toList, c.args.toList.map e with
      | .len, [t], [x] => match E.P.underlying t with
        | some .string => match x with
          | .str s => valR (.int .i64 s.length)
          | _ => .bad
        | some (.slice _) => match slLen h x with
          | some n => valR (.int .i64 n)
          | none => .bad
        | _ => .bad
      | .append, [t, u], [x, y] => bif appOk E t u y then appendR E h id t x y else .bad
      | .max, _, [.int kd a, .int _ b] => valR (.int kd (if b > a then b else a))
      | .min, _, [.int kd a, .int _ b] => valR (.int kd (if b < a then b else a))
      | _, _, _ => .bad
    | _ => .bad
  | _ => .bad
def idBase (st : AState) : Nat := st.τ * 4096
def step1 (E : Env) (C : CallR) (o : Oper) (i : Nat) (st : AState) : T AState :=
  (exR E C o ((idBase st + i) * 64) (ev st) st.h).bind fun r => .leaf ({ st with h := updW st.h r.2 }.put o.dst r.1)
def guardTmp (ops : Array Oper) (j : Nat) : Option Tmp := (ops[j]?).bind (·.dst)
def opsT (E : Env) (C : CallR) (ops : Array Oper) : List Nat → AState → T AState
  | [], st => .leaf st
  | i :: rest, st => match ops[i]? with
    | none => .bad
    | some o => match o.guard with
      | none => (step1 E C o i st).bind fun st => opsT E C ops rest st
      | some (j, want) => match guardTmp ops j with
        | none => .bad
        | some d => match st.t d with
          | .bool b =>
            match want with
            | true => .node b ((step1 E C o i (st.put (some d) (.bool true))).bind fun st => opsT E C ops rest st)
                (opsT E C ops rest ((st.put (some d) (.bool false)).put o.dst (.tup [])))
            | false => .node b (opsT E C ops rest ((st.put (some d) (.bool true)).put o.dst (.tup [])))
                ((step1 E C o i (st.put (some d) (.bool false))).bind fun st => opsT E C ops rest st)
          | .tup [] => opsT E C ops rest (st.put o.dst (.tup []))
          | _ => .bad
def firstRegion : Code → Nat
  | .region id _ _ => id
  | .seq a _ => firstRegion a
  | .block _ a => firstRegion a
  | .loop a => firstRegion a
  | .scope a => firstRegion a
  | _ => 0
def opsDst (ops : Array Oper) : List Nat → List Nat
  | [] => []
  | i :: r => match (ops[i]?).bind (·.dst) with
    | some d => d :: opsDst ops r
    | none => opsDst ops r
def writes : Code → List Nat
  | .region _ ops _ => opsDst ops (List.range ops.size)
  | .seq a b => writes a ++ writes b
  | .cond _ a b => writes a ++ writes b
  | .block _ a => writes a
  | .loop a => writes a
  | .scope a => writes a
  | _ => []
abbrev LoopR := Code → AState → T (AExit × AState)
def ov {β : Type} (f : Nat → β) : List (Nat × β) → Nat → β
  | [] => f
  | p :: r => ov (updF f p.1 p.2) r
def ovAll {β : Type} (P : Nat → Bool) : List (Nat × List (Nat × β)) → (Nat → β) → Nat → β
  | [], f => f
  | x :: r, f => ovAll P r (bif P x.1 then ov f x.2 else f)
def memb (l : List Nat) (k : Nat) : Bool := l.any (Nat.beq k)
def edgesOf (o : Oper) : List Nat := o.after.toList.filterMap fun e => bif Region.binds .any e then some e.on else none
def uniq : List Nat → List Nat
  | [] => []
  | x :: r => (fun q => bif memb q x then q else x :: q) (uniq r)
def depsGo : List Oper → List (List Nat) → List (List Nat)
  | [], acc => acc
  | o :: r, acc => depsGo r (acc ++ [uniq ((edgesOf o).flatMap fun d => d :: acc.getD d [])])
def heapFree : Op → Bool
  | .binOp _ _ _ y _ => !nilOp y
  | .move _ | .assign _ | .pick .. | .extract .. | .unOp .. | .nilCheck _ | .makeInterface .. | .alloc _ | .box .. | .build .. | .buildSlice .. | .fieldAddr .. | .field .. | .index .. | .makeSlice .. | .makeFunc .. => true
  | _ => false
structure DRes where
  k : Nat
  dst : Option Tmp
  v : AV
  W : Upd
def DRes.tu (r : DRes) : Nat × List (Nat × AV) := (r.k, match r.dst with | some d => [(d, r.v)] | none => [])
def DRes.hu (r : DRes) : Nat × List (Nat × Option Blk) := (r.k, r.W)
def hasName (W : Upd) (b : Nat) : Bool := W.any fun p => Nat.beq b p.1
def inRange (id b : Nat) : Bool := Nat.ble id b && Nat.blt b (id + 64)
def drawId (τ k : Nat) : Nat := (τ * 4096 + k) * 64
def drawT (ops : List Oper) (ds : List (List Nat)) (k : Nat) (st : AState) (rs : List DRes) : Nat → AV := fun i =>
  bif (ops.zipIdx.any fun p => (match p.1.dst with | some d => Nat.beq d i | none => false) && (!memb (ds.getD k []) p.2 && !memb (ds.getD p.2 []) k)) then .any else ovAll (memb (ds.getD k [])) (rs.map DRes.tu) st.t i
def drawH (dk : List Nat) (st : AState) (rs : List DRes) : Heap := fun b =>
  bif (rs.any fun r => !memb dk r.k && hasName r.W b) then none else ovAll (memb dk) (rs.map DRes.hu) st.h b
def globH (h : Heap) : Heap := fun b => bif Nat.ble globBase b then h b else none
def sameDst (a b : Option Tmp) : Bool := match a, b with | some x, some y => Nat.beq x y | _, _ => false
def rdOf : AV → Option Nat
  | .slw b => some b
  | .sl b _ _ => some b
  | .foc b _ _ => some b
  | .ptr b _ _ => some b
  | .str _ => some 0
  | .int _ _ => some 0
  | _ => none
def readsAt (ops : List Oper) (ds : List (List Nat)) (st : AState) (rs : List DRes) (q : Oper) (k : Nat) : Option Nat := match q.op with
  | .load _ a => match ev { st with t := drawT ops ds k st (rs.take k), h := globH st.h } a with
    | .ptr b _ _ => some b
    | _ => none
  | .slice _ x _ _ none => rdOf (ev { st with t := drawT ops ds k st (rs.take k), h := globH st.h } x)
  | .indexAddr _ x _ => rdOf (ev { st with t := drawT ops ds k st (rs.take k), h := globH st.h } x)
  | .convert _ _ x => rdOf (ev { st with t := drawT ops ds k st (rs.take k), h := globH st.h } x)
  | _ => none
def freeOf (ops : List Oper) (ds : List (List Nat)) (st : AState) (rs : List DRes) (W : Upd) (q : Oper) (k : Nat) : Bool := heapFree q.op || match readsAt ops ds st rs q k with
  | some b => !hasName W b
  | none => false
def drawFits (ops : List Oper) (ds : List (List Nat)) (dk : List Nat) (st : AState) (o : Oper) (k : Nat) (W : Upd) (rs : List DRes) : Bool :=
  (rs.all fun r => memb dk r.k || !sameDst r.dst o.dst) &&
  (rs.all fun r => memb dk r.k || r.W.all fun p => !hasName W p.1) &&
  (rs.all fun r => r.W.all fun p => !inRange (drawId st.τ k) p.1) &&
  (W.all (fun p => inRange (drawId st.τ k) p.1) || rs.all fun r => memb dk r.k || (match ops[r.k]? with | some q => freeOf ops ds st rs W q r.k | none => false)) &&
  (match o.dst with | some d => Nat.blt d st.n | none => true) &&
  ((edgesOf o).all fun e => Nat.blt e k) &&
  (W.all fun p => Nat.blt p.1 globBase)
def drawOne (E : Env) (C : CallR) (ops : Array Oper) (ds : List (List Nat)) (st : AState) (k : Nat) (rs : List DRes) : T DRes :=
  match ops[k]? with
  | none => .bad
  | some o =>
    let dk := ds.getD k []
    let t := drawT ops.toList ds k st rs
    let go : T DRes := (exR E C o (drawId st.τ k) (ev { st with t := t, h := globH st.h }) (drawH dk st rs)).bind fun r => bif drawFits ops.toList ds dk st o k r.2 rs then .leaf ⟨k, o.dst, r.1, r.2⟩ else .bad
    let skip : T DRes := bif drawFits ops.toList ds dk st o k [] rs then .leaf ⟨k, o.dst, .tup [], []⟩ else .bad
    match o.guard with
    | none => go
    | some (j, want) => match guardTmp ops j with
      | none => .bad
      | some d => match t d with
        | .bool b => match want with
          | true => .node b go skip
          | false => .node b skip go
        | .tup [] => skip
        | _ => .bad
def drawGo (E : Env) (C : CallR) (ops : Array Oper) (ds : List (List Nat)) (st : AState) : List Nat → List DRes → T (List DRes)
  | [], rs => .leaf rs
  | k :: l, rs => (drawOne E C ops ds st k rs).bind fun r => drawGo E C ops ds st l (rs ++ [r])
def guardT {β : Type} (j : Nat) (f : List DRes → T β) : List DRes → List DRes → T β
  | pre, [] => f pre
  | pre, r :: rs => bif Nat.beq r.k j then
      match r.v with
      | .bool b => .node b (f (pre ++ { r with v := .bool true } :: rs)) (f (pre ++ { r with v := .bool false } :: rs))
      | _ => f (pre ++ r :: rs)
    else guardT j f (pre ++ [r]) rs
def drawGo2 (E : Env) (C : CallR) (ops : Array Oper) (ds : List (List Nat)) (st : AState) : List Nat → List DRes → T (List DRes)
  | [], rs => .leaf rs
  | k :: l, rs => match (ops[k]?).bind (·.guard) with
    | some (j, _) => guardT j (fun rs => (drawOne E C ops ds st k rs).bind fun r => drawGo2 E C ops ds st l (rs ++ [r])) [] rs
    | none => (drawOne E C ops ds st k rs).bind fun r => drawGo2 E C ops ds st l (rs ++ [r])
def drawAll (E : Env) (C : CallR) (ops : Array Oper) (st : AState) : T AState :=
  bif E.P.follows .mixedOrders then
    (drawGo2 E C ops (depsGo ops.toList []) st (List.range ops.size) []).bind fun rs =>
      .leaf { st with t := ovAll (fun _ => true) (rs.map DRes.tu) st.t, h := ovAll (fun _ => true) (rs.map DRes.hu) st.h }
  else .bad
def litSt (st : AState) (c : Operand) (v : Bool) : AState := match c with
  | .tmp d => st.put (some d) (.bool v)
  | _ => st
def run (E : Env) (C : CallR) (L : LoopR) : Code → AState → T (AExit × AState)
  | .skip, st => .leaf (.normal, st)
  | .region _ ops draw, st => bif Nat.ble ops.size 4096 && Nat.blt st.τ 1000000 then
      (bif draw then drawAll E C ops st else opsT E C ops (List.range ops.size) st).bind fun st => .leaf (.normal, { st with τ := st.τ + 1 })
    else .bad
  | .seq a b, st => (run E C L a st).bind fun r => match r.1 with
    | .normal => run E C L b r.2
    | e => .leaf (e, r.2)
  | .cond c a b, st => match ev st c with
    | .bool v => .node v (run E C L a (litSt st c true)) (run E C L b (litSt st c false))
    | _ => .bad
  | .block id a, st => (run E C L a st).bind fun r => match r.1 with
    | .exit j => bif Nat.beq j id then .leaf (.normal, r.2) else .leaf (.exit j, r.2)
    | e => .leaf (e, r.2)
  | .loop a, st => L a st
  | .scope a, st => run E C L a st
  | .label _, st => .leaf (.normal, st)
  | .exit id, st => .leaf (.exit id, st)
  | .ret, st => .leaf (.ret, st)
  | _, _ => .bad
def AV.isScalar : AV → Bool
  | .bool _ | .int .. | .str _ | .nilp | .nils | .nilf | .nili => true
  | _ => false
def Dat.plain : Dat → Bool
  | .gen _ rows => rows.all fun r => r.all AV.isScalar
  | _ => true
end Go.Am
namespace Go.Am
structure Pos where
  block : Nat
  off : Nat
  stride : Nat
  len : Nat
  cap : Nat
  rest : Option (Array Value)
def Pos.addr (p : Pos) (i j : Nat) : Addr := ⟨p.block, p.off + i * p.stride + j, none⟩
abbrev Rho := Nat → Option Pos
def SlV (p : Pos) (i n : Nat) (v : Value) : Prop := ∃ a, v = .slice a n (p.cap - i) ∧ (i < p.cap → a = some (p.addr i 0))
mutual
def V (ρ : Rho) : AV → Value → Prop
  | .any, _ => True
  | .bool b, v => v = .bool b
  | .int k n, v => v = .int k n
  | .str s, v => v = .string ⟨s.toArray⟩
  | .nilp, v => v = .pointer none
  | .ptr b i j, v => ∃ p, ρ b = some p ∧ v = .pointer (some (p.addr i j))
  | .nils, v => v = .slice none 0 0
  | .slw b, v => ∃ p, ρ b = some p ∧ p.len ≤ p.cap ∧ SlV p 0 p.len v
  | .sl b i n, v => ∃ p, ρ b = some p ∧ p.len ≤ p.cap ∧ i + n ≤ p.len ∧ SlV p i n v
  | .foc b t n, v => ∃ p, ρ b = some p ∧ ∃ (o : Nat) (c : Nat), v = .slice (some ⟨p.block, o, none⟩) n c ∧ o + t.toNat * p.stride = p.off
  | .nilf, v => v = .nilFunc
  | .fn f us cs, v => ∃ fs vs, v = .func (.func f) fs vs ∧ VL ρ us fs.toList ∧ VL ρ cs vs.toList
  | .nili, v => v = .nilIface
  | .iface t x, v => ∃ y, v = .iface t y ∧ V ρ x y
  | .agg cs, v => ∃ vs, v = .agg vs ∧ VL ρ cs vs.toList
  | .tup cs, v => ∃ vs, v = .tuple vs ∧ VL ρ cs vs.toList
def VL (ρ : Rho) : List AV → List Value → Prop
  | [], vs => vs = []
  | a :: as, vs => ∃ v r, vs = v :: r ∧ V ρ a v ∧ VL ρ as r
end
def Rho.le (ρ ρ' : Rho) : Prop := ∀ b p, ρ b = some p → ρ' b = some p
theorem Rho.le.refl (ρ : Rho) : ρ.le ρ := fun _ _ h => h
theorem Rho.le.trans {a b c : Rho} (h : a.le b) (h' : b.le c) : a.le c := fun x p hx => h' x p (h x p hx)
mutual
theorem V.mono {ρ ρ' : Rho} (h : ρ.le ρ') : ∀ (a : AV) (v : Value), V ρ a v → V ρ' a v
  | .any, _, hv => hv
  | .bool _, _, hv => hv
  | .int .., _, hv => hv
  | .str _, _, hv => hv
  | .nilp, _, hv => hv
  | .ptr .., _, hv => by
    simp only [V] at hv ⊢; obtain ⟨p, hp, e⟩ := hv; exact ⟨p, h _ _ hp, e⟩
  | .nils, _, hv => hv
  | .slw _, _, hv => by
    simp only [V] at hv ⊢; obtain ⟨p, hp, e⟩ := hv; exact ⟨p, h _ _ hp, e⟩
  | .sl .., _, hv => by
    simp only [V] at hv ⊢; obtain ⟨p, hp, e⟩ := hv; exact ⟨p, h _ _ hp, e⟩
  | .foc .., _, hv => by
    simp only [V] at hv ⊢; obtain ⟨p, hp, e⟩ := hv; exact ⟨p, h _ _ hp, e⟩
  | .nilf, _, hv => hv
  | .fn _ us cs, _, hv => by
    simp only [V] at hv ⊢; obtain ⟨fs, vs, e, hu, hl⟩ := hv; exact ⟨fs, vs, e, VL.mono h us _ hu, VL.mono h cs _ hl⟩
  | .nili, _, hv => hv
  | .iface _ x, _, hv => by
    simp only [V] at hv ⊢; obtain ⟨y, e, hl⟩ := hv; exact ⟨y, e, V.mono h x _ hl⟩
  | .agg cs, _, hv => by
    simp only [V] at hv ⊢; obtain ⟨vs, e, hl⟩ := hv; exact ⟨vs, e, VL.mono h cs _ hl⟩
  | .tup cs, _, hv => by
    simp only [V] at hv ⊢; obtain ⟨vs, e, hl⟩ := hv; exact ⟨vs, e, VL.mono h cs _ hl⟩
theorem VL.mono {ρ ρ' : Rho} (h : ρ.le ρ') : ∀ (as : List AV) (vs : List Value), VL ρ as vs → VL ρ' as vs
  | [], _, hv => hv
  | a :: as, _, hv => by
    simp only [VL] at hv ⊢; obtain ⟨v, r, e, h1, h2⟩ := hv; exact ⟨v, r, e, V.mono h a _ h1, VL.mono h as _ h2⟩
end
section VL
variable {ρ : Rho}
theorem VL.length : ∀ {as : List AV} {vs : List Value}, VL ρ as vs → vs.length = as.length
  | [], _, h => by simp only [VL] at h; subst h; rfl
  | a :: as, _, h => by
    simp only [VL] at h; obtain ⟨v, r, rfl, _, h2⟩ := h; simp [VL.length h2]
theorem VL.get : ∀ {as : List AV} {vs : List Value}, VL ρ as vs → ∀ {i : Nat} {a : AV}, as[i]? = some a → ∃ v, vs[i]? = some v ∧ V ρ a v
  | [], _, _, i, a, e => by simp at e
  | x :: as, _, h, i, a, e => by
    simp only [VL] at h; obtain ⟨v, r, rfl, h1, h2⟩ := h
    cases i with
    | zero => simp at e; subst e; exact ⟨v, rfl, h1⟩
    | succ i => simp at e; obtain ⟨w, hw, hv⟩ := VL.get h2 e; exact ⟨w, by simpa using hw, hv⟩
theorem VL.of_get : ∀ {as : List AV} {vs : List Value}, vs.length = as.length → (∀ (i : Nat) (a : AV) (v : Value), as[i]? = some a → vs[i]? = some v → V ρ a v) → VL ρ as vs
  | [], vs, hl, _ => by simp only [VL]; exact List.eq_nil_of_length_eq_zero hl
  | a :: as, [], hl, _ => by simp at hl
  | a :: as, v :: vs, hl, h => by
    simp only [VL]
    exact ⟨v, vs, rfl, h 0 a v rfl rfl, VL.of_get (by simpa using hl) fun i b u e1 e2 => h (i + 1) b u (by simpa using e1) (by simpa using e2)⟩
theorem VL.append {as bs : List AV} {vs us : List Value} (h : VL ρ as vs) (h' : VL ρ bs us) : VL ρ (as ++ bs) (vs ++ us) := by
  induction as generalizing vs with
  | nil => simp only [VL] at h; subst h; simpa using h'
  | cons a as ih =>
    simp only [VL] at h; obtain ⟨v, r, rfl, h1, h2⟩ := h
    simp only [List.cons_append, VL]
    exact ⟨v, _, rfl, h1, ih h2⟩
theorem VL.drop {as : List AV} {vs : List Value} (h : VL ρ as vs) (n : Nat) : VL ρ (as.drop n) (vs.drop n) :=
  VL.of_get (by simp [h.length]) fun i a v e1 e2 => by
    rw [List.getElem?_drop] at e1 e2
    obtain ⟨u, hu, hv⟩ := h.get e1
    rw [e2] at hu; cases hu; exact hv
theorem VL.take {as : List AV} {vs : List Value} (h : VL ρ as vs) (n : Nat) : VL ρ (as.take n) (vs.take n) :=
  VL.of_get (by simp [h.length]) fun i a v e1 e2 => by
    rw [List.getElem?_take] at e1 e2
    split at e1
    · rename_i hlt; rw [if_pos hlt] at e2
      obtain ⟨u, hu, hv⟩ := h.get e1
      rw [e2] at hu; cases hu; exact hv
    · cases e1
theorem VL.set {as : List AV} {vs : List Value} (h : VL ρ as vs) (n : Nat) {a : AV} {v : Value} (hv : V ρ a v) : VL ρ (as.set n a) (vs.set n v) :=
  VL.of_get (by simp [h.length]) fun i b u e1 e2 => by
    rw [List.getElem?_set] at e1 e2
    split at e1
    · rename_i hn
      subst hn
      simp only [if_true] at e2
      split at e1
      · cases e1
        split at e2
        · cases e2; exact hv
        · cases e2
      · cases e1
    · rename_i hn
      rw [if_neg hn] at e2
      obtain ⟨w, hw, hv'⟩ := h.get e1
      rw [e2] at hw; cases hw; exact hv'
end VL
def RestOk (p : Pos) (cs : Array Value) : Prop := ∀ r, p.rest = some r → cs.size = r.size ∧ ∀ j, (j < p.off ∨ p.off + p.cap * p.stride ≤ j) → cs[j]? = r[j]?
theorem RestOk.none {p : Pos} {cs : Array Value} (h : p.rest = none) : RestOk p cs := fun r hr => by rw [h] at hr; cases hr
def MarkOk (d : Dat) (p : Pos) (cs : Array Value) (e : TypeId) : Prop := (∀ T, d.mark = some T → e = T ∧ p.off = 0 ∧ (d.isGen = true → cs.size = d.stride)) ∧ RestOk p cs
theorem MarkOk.none {d : Dat} {p : Pos} {cs : Array Value} {e : TypeId} (h : d.mark = none) (hr : p.rest = none) : MarkOk d p cs e := ⟨(fun T hT => by rw [h] at hT; cases hT), RestOk.none hr⟩
theorem mid_size {cs : Array Value} {l : List Value} {o : Nat} (h : o + l.length ≤ cs.size) : (cs.toList.take o ++ l ++ cs.toList.drop (o + l.length)).toArray.size = cs.size := by
  simp only [List.size_toArray, List.length_append, List.length_take, List.length_drop, Array.length_toList]
  omega
theorem mid_get {cs : Array Value} {l : List Value} {o q : Nat} (h : o + l.length ≤ cs.size) (hq : q < o ∨ o + l.length ≤ q) : (cs.toList.take o ++ l ++ cs.toList.drop (o + l.length)).toArray[q]? = cs[q]? := by
  have hm : (List.take o cs.toList).length = o := by simp; omega
  simp only [List.getElem?_toArray]
  rw [List.append_assoc]
  rcases hq with hq | hq
  · rw [List.getElem?_append_left (by omega), List.getElem?_take, if_pos hq]; simp
  · rw [List.getElem?_append_right (by omega), hm, List.getElem?_append_right (by omega), List.getElem?_drop]
    rw [show o + l.length + (q - o - l.length) = q by omega]; simp
theorem RestOk.mid {p : Pos} {cs : Array Value} (hr : RestOk p cs) {l : List Value} {o : Nat} (h : o + l.length ≤ cs.size) (h1 : p.off ≤ o) (h2 : o + l.length ≤ p.off + p.cap * p.stride) : RestOk p (cs.toList.take o ++ l ++ cs.toList.drop (o + l.length)).toArray := fun r hr' => by
  obtain ⟨n1, n2⟩ := hr r hr'
  exact ⟨(mid_size h).trans n1, fun j hj => (mid_get h (by omega)).trans (n2 j hj)⟩
structure SatH (ρ : Rho) (h : Heap) (w : World) : Prop where
  pos : ∀ b x, h b = some x → ∃ p, ρ b = some p ∧ p.stride = x.dat.stride ∧ p.len = x.dat.len ∧ p.len ≤ p.cap ∧ p.cap ≤ maxLen
  wf : ∀ b x, h b = some x → ∀ i, i < x.dat.len → (x.dat.row i).length = x.dat.stride ∧ (x.dat.row i).all AV.isCell = true
  cells : ∀ b x p, h b = some x → ρ b = some p → ∀ i, i < x.dat.len → ∀ j av, (x.dat.row i)[j]? = some av → ∃ c, w.cell? (p.addr i j) = some c ∧ V ρ av c
  own : ∀ b x p, h b = some x → x.own = true → ρ b = some p → 0 < p.cap → ∃ cs e, w.heap[p.block]? = some (.cells cs e (0, 0)) ∧ p.off + p.cap * p.stride ≤ cs.size ∧ MarkOk x.dat p cs e
  apart : ∀ b x p b' x' p', h b = some x → x.own = true → ρ b = some p → 0 < p.cap → h b' = some x' → ρ b' = some p' → b ≠ b' →
    ((x'.own = true ∧ 0 < p'.cap) ∨ (0 < p'.len ∧ 0 < p'.stride)) → p.block ≠ p'.block
def ownB (ρ : Rho) (h : Heap) (k : Nat) : Prop := ∃ b x p, h b = some x ∧ x.own = true ∧ ρ b = some p ∧ 0 < p.cap ∧ p.block = k
def liveB (ρ : Rho) (h : Heap) (k : Nat) : Prop := ∃ b x p, h b = some x ∧ ρ b = some p ∧ ((x.own = true ∧ 0 < p.cap) ∨ (0 < p.len ∧ 0 < p.stride)) ∧ p.block = k
structure Dom where
  own : Nat → Prop
  live : Nat → Prop
def domB (ρ : Rho) (h : Heap) : Dom := ⟨ownB ρ h, liveB ρ h⟩
structure Ext (O : Nat → Prop) (w w' : World) : Prop where
  os : w'.os = w.os
  tape : w'.tape = w.tape
  output : w'.output = w.output
  size : w.heap.size ≤ w'.heap.size
  block : ∀ k, k < w.heap.size → ¬ O k → w'.heap[k]? = w.heap[k]?
  frozen : ∀ a : Addr, a.block < w.heap.size → ¬ O a.block → w'.frozen? a = w.frozen? a
theorem Ext.refl (O : Nat → Prop) (w : World) : Ext O w w := ⟨rfl, rfl, rfl, Nat.le_refl _, fun _ _ _ => rfl, fun _ _ _ => rfl⟩
theorem Ext.drew (O : Nat → Prop) (w : World) : Ext O w w.drew := ⟨rfl, rfl, rfl, Nat.le_refl _, fun _ _ _ => rfl, fun _ _ _ => rfl⟩
theorem Ext.mono {O O' : Nat → Prop} {w w' : World} (h : Ext O w w') (ho : ∀ k, k < w.heap.size → O k → O' k) : Ext O' w w' :=
  ⟨h.os, h.tape, h.output, h.size, fun k hk hn => h.block k hk fun hO => hn (ho k hk hO), fun a ha hn => h.frozen a ha fun hO => hn (ho _ ha hO)⟩
structure Stp (O O' : Dom) (w w' : World) : Prop where
  ext : Ext O.own w w'
  sub : ∀ k, O'.own k → O.own k ∨ w.heap.size ≤ k
  src : ∀ k, O'.live k → O.live k ∨ w.heap.size ≤ k
theorem Stp.refl (O : Dom) (w : World) : Stp O O w w := ⟨Ext.refl _ _, fun _ h => .inl h, fun _ h => .inl h⟩
theorem Stp.trans {A B C : Dom} {u v w : World} (h : Stp A B u v) (h' : Stp B C v w) : Stp A C u w where
  ext := ⟨h'.ext.os.trans h.ext.os, h'.ext.tape.trans h.ext.tape, h'.ext.output.trans h.ext.output, Nat.le_trans h.ext.size h'.ext.size, fun k hk hn => by
    rw [h'.ext.block k (Nat.lt_of_lt_of_le hk h.ext.size) fun hB => ?_, h.ext.block k hk hn]
    rcases h.sub k hB with h1 | h1
    · exact hn h1
    · omega, fun a ha hn => (h'.ext.frozen a (Nat.lt_of_lt_of_le ha h.ext.size) fun hB => by
      rcases h.sub _ hB with h1 | h1
      · exact hn h1
      · omega).trans (h.ext.frozen a ha hn)⟩
  sub k hC := by
    rcases h'.sub k hC with h1 | h1
    · exact h.sub k h1
    · exact .inr (Nat.le_trans h.ext.size h1)
  src k hC := by
    rcases h'.src k hC with h1 | h1
    · exact h.src k h1
    · exact .inr (Nat.le_trans h.ext.size h1)
structure RdD (w : World) (d : Dat) (p : Pos) : Prop where
  stride : p.stride = d.stride
  len : p.len = d.len
  cap : p.len ≤ p.cap
  max : p.cap ≤ maxLen
  wf : ∀ i, i < d.len → (d.row i).length = d.stride ∧ (d.row i).all AV.isCell = true
  cells : ∀ i, i < d.len → ∀ j av, (d.row i)[j]? = some av → ∃ c, w.cell? (p.addr i j) = some c ∧ V (fun _ => none) av c
def globPos (g : Nat) (d : Dat) : Pos := ⟨g, 0, d.stride, d.len, d.len, none⟩
structure GOk (E : Env) (O : Nat → Prop) (w : World) : Prop where
  laid : ∀ g d, E.glob g = some d → False
  size : E.ng ≤ w.heap.size
  base : ∀ g, g < E.ng → w.heap[g]? = E.base g
  own : ∀ k, O k → E.ng ≤ k
theorem GOk.step {E : Env} {O O' : Dom} {w w' : World} (h : GOk E O.own w) (hs : Stp O O' w w') : GOk E O'.own w' where
  laid := h.laid
  size := Nat.le_trans h.size hs.ext.size
  base g hg := (hs.ext.block g (by have := h.size; omega) fun hO => by have := h.own g hO; omega).trans (h.base g hg)
  own k hk := by
    rcases hs.sub k hk with h1 | h1
    · exact h.own k h1
    · exact Nat.le_trans h.size h1
structure Sat (E : Env) (ρ : Rho) (st : AState) (a : Act) (w : World) : Prop where
  h : SatH ρ st.h w
  g : GOk E (ownB ρ st.h) w
  size : a.tmps.size = st.n
  t : ∀ i, V ρ (st.t i) (a.tmps.getD i undef)
  dom : ∀ b, ρ b ≠ none → b < st.τ * 262144 ∨ globBase ≤ b
  glob : ∀ g p, ρ (globBase + g) = some p → p.block = g ∧ p.off = 0
theorem bytes_mk (s : ByteArray) : (⟨s.data.toList.toArray⟩ : ByteArray) = s := by cases s; simp
theorem ofCell_V (ρ : Rho) (v : Value) : V ρ (AV.ofCell v) v := by
  unfold AV.ofCell
  split <;> simp [V]
theorem ofVal_V (ρ : Rho) (v : Value) : V ρ (AV.ofVal v) v := by
  unfold AV.ofVal
  have key : ∀ l : List Value, VL ρ (l.map AV.ofCell) l := by
    intro l
    induction l with
    | nil => simp [VL]
    | cons x l ih => simp only [List.map_cons, VL]; exact ⟨x, l, rfl, ofCell_V ρ x, ih⟩
  split
  · simp only [V]; exact ⟨_, rfl, key _⟩
  · simp only [V]; exact ⟨_, rfl, key _⟩
  · exact ofCell_V ρ _
theorem Sat.ev {E : Env} {ρ : Rho} {st : AState} {a : Act} {w : World} (h : Sat E ρ st a w) (o : Operand) : V ρ (Am.ev st o) (a.eval o) := by
  cases o with
  | tmp t => exact h.t t
  | const v => exact ofVal_V ρ v
  | global g =>
    simp only [Am.ev, Act.eval]
    split
    · rename_i x hx
      obtain ⟨p, hp, _⟩ := h.h.pos _ x hx
      obtain ⟨hb, ho⟩ := h.glob g p hp
      simp only [V]
      exact ⟨p, hp, by simp [Pos.addr, hb, ho]⟩
    · simp [V]
  | func f => simp [Am.ev, Act.eval, V, VL]
end Go.Am
namespace Go.Am
def OpRes (P : Program) (ρ : Rho) (h : Heap) (w : World) (id : Nat) (s : Sem Next) (v : AV) (W : Upd) : Prop :=
  ∃ cv w' ρ', (s.run P w = .ok (.value cv) w' ∨ (s.run P w = .ok .skip w' ∧ cv = undef)) ∧ ρ.le ρ' ∧ V ρ' v cv ∧ SatH ρ' (updW h W) w' ∧
    Stp (domB ρ h) (domB ρ' (updW h W)) w w' ∧ (∀ b, ρ' b ≠ none → ρ b = none → id ≤ b ∧ b < id + 64)
theorem OpRes.val {P : Program} {ρ : Rho} {h : Heap} {w : World} {id : Nat} {s : Sem Next} {v : AV} {cv : Value} (hs : SatH ρ h w)
    (hr : s.run P w = .ok (.value cv) w) (hv : V ρ v cv) : OpRes P ρ h w id s v [] :=
  ⟨cv, w, ρ, .inl hr, Rho.le.refl _, hv, hs, Stp.refl _ _, fun _ h1 h2 => (h1 h2).elim⟩
def Pure (ρ : Rho) (P : Program) (w : World) (r : Res) (s : Sem Value) : Prop :=
  ∀ v W, r.sel = some (v, W) → W = [] ∧ ∃ cv, s.run P w = .ok cv w ∧ V ρ v cv
theorem Pure.bad {ρ : Rho} {P : Program} {w : World} {s : Sem Value} : Pure ρ P w .bad s := fun _ _ h => by simp [T.sel] at h
theorem Pure.leaf {ρ : Rho} {P : Program} {w : World} {s : Sem Value} {v : AV} {cv : Value} (hr : s.run P w = .ok cv w) (hv : V ρ v cv) : Pure ρ P w (valR v) s := by
  intro v' W h
  simp [valR, T.sel] at h
  obtain ⟨rfl, rfl⟩ := h
  exact ⟨rfl, cv, hr, hv⟩
theorem Pure.node {ρ : Rho} {P : Program} {w : World} {s : Sem Value} {b : Bool} {x y : Res} (hx : b = true → Pure ρ P w x s) (hy : b = false → Pure ρ P w y s) : Pure ρ P w (.node b x y) s := by
  intro v W h
  cases b with
  | true => exact hx rfl v W (by simpa [T.sel] using h)
  | false => exact hy rfl v W (by simpa [T.sel] using h)
theorem Pure.opt {ρ : Rho} {P : Program} {w : World} {s : Sem Value} {o : Option AV} (h : ∀ v, o = some v → ∃ cv, s.run P w = .ok cv w ∧ V ρ v cv) : Pure ρ P w (optR o) s := by
  cases o with
  | none => exact Pure.bad
  | some v => obtain ⟨cv, hr, hv⟩ := h v rfl; exact Pure.leaf hr hv
theorem Pure.res {ρ : Rho} {P : Program} {w : World} {r : Res} {s : Sem Value} {h : Heap} {id : Nat} {v : AV} {W : Upd} (hp : Pure ρ P w r s) (hs : SatH ρ h w)
    (hsel : r.sel = some (v, W)) : OpRes P ρ h w id (do pure (.value (← s))) v W := by
  obtain ⟨rfl, cv, hr, hv⟩ := hp v W hsel
  exact OpRes.val hs (by simp [hr]) hv
section
variable {ρ : Rho} {E : Env} {w : World}
theorem beq_eq_dec (a b : Int) : (a == b) = decide (a = b) := by rw [Bool.eq_iff_iff]; simp
theorem bne_eq_dec (a b : Int) : (a != b) = !decide (a = b) := by rw [Bool.eq_iff_iff]; simp
theorem toList_mk (l : List UInt8) : (⟨l.toArray⟩ : ByteArray).toList = l := by rw [ByteArray.toList_eq]
theorem size_mk (l : List UInt8) : (⟨l.toArray⟩ : ByteArray).size = l.length := rfl
theorem intBin_pure (op : BinOp) (t : TypeId) (k : IntKind) (a b : Int) : Pure ρ E.P w (intBin op k a b) (binOp op t (.int k a) (.int k b)) := by
  cases op <;> simp only [intBin] <;> try exact Pure.bad
  case quo =>
    refine Pure.node (fun _ => Pure.bad) fun hb => ?_
    have hb' : ¬ b = 0 := by simpa using hb
    exact Pure.leaf (cv := .int k (k.wrap (a.tdiv b))) (by simp [binOp, Op.intDiv, hb']) (by simp [V])
  case rem =>
    refine Pure.node (fun _ => Pure.bad) fun hb => ?_
    have hb' : ¬ b = 0 := by simpa using hb
    exact Pure.leaf (cv := .int k (a.tmod b)) (by simp [binOp, Op.intDiv, hb']) (by simp [V])
  case eql => exact Pure.leaf (cv := .bool (a == b)) (by simp [binOp, Op.intCmp]) (by simp only [V, beq_eq_dec])
  case neq => exact Pure.leaf (cv := .bool (a != b)) (by simp [binOp, Op.intCmp]) (by simp only [V, bne_eq_dec])
  all_goals
    refine Pure.leaf (by simp [binOp, Op.intArith, Op.intBits, Op.intCmp]; rfl) ?_
    simp [V]
theorem shiftR_pure (k : IntKind) (n b : Int) (s : Sem Value) (hs : 0 ≤ b → s.run E.P w = .ok (.int k n) w) : Pure ρ E.P w (shiftR k n b) s := by
  unfold shiftR
  refine Pure.node (fun hb => ?_) (fun _ => Pure.bad)
  exact Pure.leaf (hs (by simpa using hb)) (by simp [V])
theorem run_und {P : Program} {t : TypeId} {d : TypeDesc} (h : P.underlying t = some d) (w : World) : (underlying t).run P w = .ok d w := run_underlying h w
theorem run_isAgg_of {P : Program} {t : TypeId} {d : TypeDesc} (h : P.underlying t = some d) (w : World) :
    (isAgg t).run P w = .ok (descAgg d) w := by
  unfold isAgg
  simp only [Sem.run_bind, run_und h, Result.andThen_ok]
  cases d <;> rfl
theorem sizeT_run {t : TypeId} {s : Nat} (h : sizeT E t = some s) (w : World) : (sizeOf t).run E.P w = .ok s w := by
  unfold sizeT at h
  cases hi : E.P.info? t with
  | none => simp [hi] at h
  | some i => simp [hi] at h; subst h; simp [sizeOf, typeInfo, hi]
theorem partOf_run {t : TypeId} {cs : List AV} {off : Nat} {v : AV} (h : partOf E t cs off = some v) {vs : Array Value} (hv : VL ρ cs vs.toList) (w : World) :
    ∃ cv, (part t vs off).run E.P w = .ok cv w ∧ V ρ v cv := by
  unfold partOf at h
  split at h
  · cases h
  rename_i d hd
  have hp := run_isAgg_of hd w
  cases hda : descAgg d with
  | true =>
    rw [hda] at hp
    simp only [hda, cond_true] at h
    split at h
    · rename_i s hs
      cases hb : Nat.ble (off + s) cs.length with
      | false => simp [hb] at h
      | true =>
        simp [hb] at h; subst h
        refine ⟨.agg (vs.extract off (off + s)), ?_, ?_⟩
        · unfold part; simp [hp, sizeT_run hs]
        · simp only [V]
          refine ⟨_, rfl, ?_⟩
          rw [Array.toList_extract]
          have := (hv.drop off).take s
          simpa [List.take_drop, List.extract_eq_take_drop, Nat.add_sub_cancel_left] using this
    · cases h
  | false =>
    rw [hda] at hp
    simp only [hda, cond_false] at h
    obtain ⟨cv, hcv, hV⟩ := hv.get h
    have hcv' : vs[off]? = some cv := by simpa using hcv
    exact ⟨cv, by unfold part; simp [hp, hcv'], hV⟩
theorem dec_beq_int (a b : Int) : (a == b) = decide (a = b) := by rw [Bool.eq_iff_iff]; simp
theorem dec_beq_bytes (a b : List UInt8) : (a == b) = decide (a = b) := by rw [Bool.eq_iff_iff]; simp
theorem cellEqT_run {t : TypeId} {x y : AV} {r : Bool} (h : cellEqT E t x y = some r) {a b : Value} (ha : V ρ x a) (hb : V ρ y b) (d : Nat) (w : World) :
    (Op.equalIn (d + 1) t a b).run E.P w = .ok r w := by
  unfold cellEqT at h
  split at h
  · rename_i kk hk
    split at h
    · rename_i k1 n1 k2 n2
      simp only [V] at ha hb; subst ha; subst hb
      by_cases he : k1 = k2
      · subst he; simp at h; subst h
        rw [run_equalIn_int w d t k1 _ n1 n2 hk, dec_beq_int]
      · simp [he] at h
    · cases h
  · rename_i hk
    split at h
    · simp only [V] at ha hb; subst ha; subst hb
      simp at h; subst h
      rw [run_equalIn_bool w d t _ _ hk]
    · cases h
  · rename_i hk
    split at h
    · simp only [V] at ha hb; subst ha; subst hb
      simp at h; subst h
      rw [run_equalIn_string w d t _ _ hk, toList_mk, toList_mk, dec_beq_bytes]
    · cases h
  · cases h
theorem eqFields_run {d : Nat} {f : TypeId → AV → AV → Option Bool}
    (hf : ∀ t x y r, f t x y = some r → ∀ a b, V ρ x a → V ρ y b → (Op.equalIn d t a b).run E.P w = .ok r w)
    {xs ys : List AV} {as bs : Array Value} (ha : VL ρ xs as.toList) (hb : VL ρ ys bs.toList) :
    ∀ (fs : List Field) (r : Bool), eqFields f (partOf E) xs ys fs = some r → (Op.eqFields d as bs fs).run E.P w = .ok r w
  | [], r, h => by simp [eqFields] at h; subst h; simp [Op.eqFields]
  | x :: fs, r, h => by
    unfold eqFields at h
    cases hn : (x.name != "_") with
    | false => simp [hn] at h
    | true =>
      simp only [hn, cond_true] at h
      have hn' : x.name ≠ "_" := by simpa using hn
      split at h
      · rename_i p q hp hq
        split at h
        · rename_i u hu
          split at h
          · rename_i v hv
            simp at h; subst h
            obtain ⟨cp, hrp, hVp⟩ := partOf_run hp ha w
            obtain ⟨cq, hrq, hVq⟩ := partOf_run hq hb w
            have he := hf _ _ _ _ hu cp cq hVp hVq
            have ih := eqFields_run hf ha hb fs v hv
            unfold Op.eqFields
            rw [if_pos hn']
            simp only [Sem.run_bind, hrp, hrq, he, Result.andThen_ok]
            cases u <;> simp [ih]
          · cases h
        · cases h
      · cases h
theorem eqElems_run {d : Nat} {e : TypeId} {s : Nat} (hs : (sizeOf e).run E.P w = .ok s w) {f : AV → AV → Option Bool}
    (hf : ∀ x y r, f x y = some r → ∀ a b, V ρ x a → V ρ y b → (Op.equalIn d e a b).run E.P w = .ok r w)
    {xs ys : List AV} {as bs : Array Value} (ha : VL ρ xs as.toList) (hb : VL ρ ys bs.toList) :
    ∀ (n i : Nat) (r : Bool), eqElems f (partOf E e) xs ys s i n = some r →
      (forIn (List.range' i n) ((none, ()) : Option Bool × Unit) fun j _ => do
          let a ← part e as (j * s)
          let b ← part e bs (j * s)
          let q ← Op.equalIn d e a b
          if (!q) = true then pure (ForInStep.done (some false, ())) else pure (ForInStep.yield (none, ())) : Sem (Option Bool × Unit)).run E.P w = .ok (bif r then (none, ()) else (some false, ())) w
  | 0, i, r, h => by simp [eqElems] at h; subst h; simp
  | n + 1, i, r, h => by
    unfold eqElems at h
    split at h
    · rename_i p q hp hq
      split at h
      · rename_i u hu
        split at h
        · rename_i v hv
          simp at h; subst h
          obtain ⟨cp, hrp, hVp⟩ := partOf_run hp ha w
          obtain ⟨cq, hrq, hVq⟩ := partOf_run hq hb w
          have he := hf _ _ _ hu cp cq hVp hVq
          have ih := eqElems_run hs hf ha hb n (i + 1) v hv
          rw [List.range'_succ]
          simp only [List.forIn_cons, Sem.run_bind, hrp, hrq, he, Result.andThen_ok]
          cases u
          · simp
          · simp only [Bool.not_true, Bool.false_eq_true, if_false, Sem.run_pure, Result.andThen_ok, Bool.true_and]
            exact ih
        · cases h
      · cases h
    · cases h
end
end Go.Am
namespace Go.Am
section
variable {ρ : Rho} {E : Env} {w : World}
theorem range_forIn {β : Type} (n : Nat) (b : β) (f : Nat → β → Sem (ForInStep β)) :
    (forIn (Std.Legacy.Range.mk 0 n 1 (by decide)) b f) = forIn (List.range' 0 n) b f := by
  rw [Std.Legacy.Range.forIn_eq_forIn_range']
  simp [Std.Legacy.Range.size]
theorem eqT_run : ∀ (d : Nat) (t : TypeId) (x y : AV) (r : Bool), eqT E d t x y = some r → ∀ a b, V ρ x a → V ρ y b → ∀ k, (Op.equalIn (d + k) t a b).run E.P w = .ok r w
  | 0, _, _, _, _, h => by simp [eqT] at h
  | d + 1, t, x, y, r, h => by
    intro a b ha hb k
    rw [show d + 1 + k = (d + k) + 1 from by omega]
    have ih : ∀ t x y r, eqT E d t x y = some r → ∀ a b, V ρ x a → V ρ y b → (Op.equalIn (d + k) t a b).run E.P w = .ok r w :=
      fun t x y r h a b ha hb => eqT_run d t x y r h a b ha hb k
    unfold eqT at h
    split at h
    · exact cellEqT_run h ha hb _ w
    · exact cellEqT_run h ha hb _ w
    · exact cellEqT_run h ha hb _ w
    · rename_i fs hfs
      split at h
      · rename_i xs ys
        simp only [V] at ha hb
        obtain ⟨as, rfl, ha⟩ := ha
        obtain ⟨bs, rfl, hb⟩ := hb
        cases hp : E.P.stoodInHeld t with
        | true => simp [hp] at h
        | false =>
          simp only [hp, cond_false] at h
          have hfs' : E.P.underlying t = some (.struct (E.P.fieldsOf t)) := by simp [Program.fieldsOf, hfs]
          have hfo : E.P.fieldsOf t = fs := by simp [Program.fieldsOf, hfs]
          rw [run_equalIn_struct w (d + k) t as bs hfs' hp, hfo]
          exact eqFields_run (fun t x y r h a b ha hb => ih t x y r h a b ha hb) ha hb _ r h
      · cases h
    · rename_i n e hne
      split at h
      · rename_i xs ys
        simp only [V] at ha hb
        obtain ⟨as, rfl, ha⟩ := ha
        obtain ⟨bs, rfl, hb⟩ := hb
        split at h
        · rename_i s hs
          have hq := eqElems_run (sizeT_run hs w) (fun x y r h a b ha hb => ih e x y r h a b ha hb) ha hb n 0 r h
          unfold Op.equalIn
          simp only [Sem.run_bind, run_und hne, Result.andThen_ok, sizeT_run hs]
          rw [range_forIn]
          simp only [hq, Result.andThen_ok]
          cases r <;> rfl
        · cases h
      · cases h
    · cases h
theorem eq_pp (d : Nat) {t e : TypeId} (h : E.P.underlying t = some (.pointer e)) (x : Option Addr) : (Op.equalIn (d + 1) t (.pointer none) (.pointer x)).run E.P w = .ok x.isNone w := by
  simp [Op.equalIn, run_und h]
theorem eq_pn (d : Nat) {t e : TypeId} (h : E.P.underlying t = some (.pointer e)) (x : Addr) : (Op.equalIn (d + 1) t (.pointer (some x)) (.pointer none)).run E.P w = .ok false w := by
  simp [Op.equalIn, run_und h]
theorem eq_in (d : Nat) {t : TypeId} {m : Array (String × TypeId)} (h : E.P.underlying t = some (.interface m)) (u : TypeId) (x : Value) : (Op.equalIn (d + 1) t .nilIface (.iface u x)).run E.P w = .ok false w ∧ (Op.equalIn (d + 1) t (.iface u x) .nilIface).run E.P w = .ok false w := by
  constructor <;> simp [Op.equalIn, run_und h]
theorem eq_nn (d : Nat) {t : TypeId} {m : Array (String × TypeId)} (h : E.P.underlying t = some (.interface m)) : (Op.equalIn (d + 1) t .nilIface .nilIface).run E.P w = .ok true w := by
  simp [Op.equalIn, run_und h]
theorem eq_fn (d : Nat) {t : TypeId} {a b : Array TypeId} {v : Bool} (h : E.P.underlying t = some (.func a b v)) (f : Fn) (x y : Array Value) : (Op.equalIn (d + 1) t .nilFunc (.func f x y)).run E.P w = .ok false w ∧ (Op.equalIn (d + 1) t (.func f x y) .nilFunc).run E.P w = .ok false w := by
  constructor <;> simp [Op.equalIn, run_und h]
theorem eqAV_run (w : World) {t : TypeId} {x y : AV} {r : Bool} {p q : Operand} (h : eqAV E t (litOp p || litOp q) x y = some r) {a b : Value} (ha : V ρ x a) (hb : V ρ y b) :
    (eqGuard .eql t p q a b).run E.P w = .ok () w ∧ (eqGuard .neq t p q a b).run E.P w = .ok () w ∧ (Op.equalIn 10000 t a b).run E.P w = .ok r w ∧
    (binOp .eql t a b = do pure (.bool (← Op.equal t a b))) ∧ (binOp .neq t a b = do pure (.bool (!(← Op.equal t a b)))) := by
  unfold eqAV at h
  split at h
  · rename_i xs ys
    cases hg : E.P.eqGuardType E.P.depth t with
    | true => simp [hg] at h
    | false =>
      simp only [hg, cond_false] at h
      have he := eqT_run (w := w) 10 t _ _ r h a b ha hb 9990
      simp only [V] at ha hb
      obtain ⟨as, rfl, ha⟩ := ha
      obtain ⟨bs, rfl, hb⟩ := hb
      exact ⟨run_eqGuard_agg w .eql t p q as bs hg, run_eqGuard_agg w .neq t p q as bs hg, he, rfl, rfl⟩
  · split at h
    · rename_i e he
      split at h
      · cases h; simp only [V] at ha hb; subst ha; subst hb
        exact ⟨by simp [eqGuard], by simp [eqGuard], eq_pp 9999 he none, rfl, rfl⟩
      · cases h; simp only [V] at ha hb; obtain ⟨p1, hp1, rfl⟩ := hb; subst ha
        exact ⟨by simp [eqGuard], by simp [eqGuard], eq_pp 9999 he _, rfl, rfl⟩
      · cases h; simp only [V] at ha hb; obtain ⟨p1, hp1, rfl⟩ := ha; subst hb
        exact ⟨by simp [eqGuard], by simp [eqGuard], eq_pn 9999 he _, rfl, rfl⟩
      · cases h
    · rename_i e he
      split at h
      · cases h; simp only [V] at ha hb; obtain ⟨p1, rfl, hp1⟩ := hb; subst ha
        exact ⟨by simp [eqGuard], by simp [eqGuard], (eq_in 9999 he _ _).1, rfl, rfl⟩
      · cases h; simp only [V] at ha hb; obtain ⟨p1, rfl, hp1⟩ := ha; subst hb
        exact ⟨by simp [eqGuard], by simp [eqGuard], (eq_in 9999 he _ _).2, rfl, rfl⟩
      · cases hl : (litOp p || litOp q) with
        | false => rw [hl] at h; cases h
        | true =>
          rw [hl, cond_true, Option.some.injEq] at h; subst h
          simp only [V] at ha hb; subst ha; subst hb
          refine ⟨?_, ?_, eq_nn 9999 he, rfl, rfl⟩ <;> (cases p <;> cases q <;> first | (simp [litOp] at hl; done) | simp [eqGuard])
      · cases h
    · rename_i e1 e2 e3 he
      split at h
      · cases h; simp only [V] at ha hb; obtain ⟨p0, p1, rfl, hp1⟩ := hb; subst ha
        exact ⟨by simp [eqGuard], by simp [eqGuard], (eq_fn 9999 he _ _ _).1, rfl, rfl⟩
      · cases h; simp only [V] at ha hb; obtain ⟨p0, p1, rfl, hp1⟩ := ha; subst hb
        exact ⟨by simp [eqGuard], by simp [eqGuard], (eq_fn 9999 he _ _ _).2, rfl, rfl⟩
      · cases h
    · rename_i he
      split at h
      · cases h
        simp only [V] at ha hb; subst ha; subst hb
        exact ⟨by simp [eqGuard], by simp [eqGuard], run_equalIn_bool w 9999 t _ _ he, rfl, rfl⟩
      · cases h
    · cases h
theorem eqGuard_int (op : BinOp) (t : TypeId) (p q : Operand) (k k' : IntKind) (a b : Int) : (eqGuard op t p q (.int k a) (.int k' b)).run E.P w = .ok () w := by
  cases op <;> simp [eqGuard]
theorem eqGuard_str (op : BinOp) (t : TypeId) (p q : Operand) (a b : ByteArray) : (eqGuard op t p q (.string a) (.string b)).run E.P w = .ok () w := by
  cases op <;> simp [eqGuard]
theorem str_append (a b : List UInt8) : (⟨a.toArray⟩ ++ ⟨b.toArray⟩ : ByteArray) = ⟨(a ++ b).toArray⟩ := by
  apply ByteArray.ext
  simp [ByteArray.data_append]
theorem binR_pure (op : BinOp) (t : TypeId) (x y : AV) {a b : Value} (ha : V ρ x a) (hb : V ρ y b) (p q : Operand) :
    Pure ρ E.P w (binR E op t (litOp p || litOp q) x y) (do eqGuard op t p q a b; binOp op t a b) := by
  have lift : ∀ {r : Res} {s : Sem Value}, (eqGuard op t p q a b).run E.P w = .ok () w → Pure ρ E.P w r s → Pure ρ E.P w r (do eqGuard op t p q a b; s) := by
    intro r s hg hp v W hsel
    obtain ⟨rfl, cv, hr, hv⟩ := hp v W hsel
    exact ⟨rfl, cv, by simp [hg, hr], hv⟩
  unfold binR
  split
  · rename_i k1 n1 k2 n2
    simp only [V] at ha hb; subst ha; subst hb
    refine lift (eqGuard_int ..) ?_
    split
    · exact shiftR_pure _ _ _ _ fun h0 => by
        simp [binOp, Op.shift, show ¬ n2 < 0 from by omega]
    · exact shiftR_pure _ _ _ _ fun h0 => by
        simp [binOp, Op.shift, show ¬ n2 < 0 from by omega]
    · rename_i h1 h2
      by_cases hk : k1 = k2
      · subst hk; simpa using intBin_pure op t k1 n1 n2
      · simp [hk]; exact Pure.bad
  · rename_i s1 s2
    simp only [V] at ha hb; subst ha; subst hb
    refine lift (eqGuard_str ..) ?_
    split
    · refine Pure.node (fun hl => ?_) (fun _ => Pure.bad)
      have hl' : s1.length + s2.length ≤ lim := of_decide_eq_true hl
      simp only [lim] at hl'
      refine Pure.leaf (cv := .string ⟨(s1 ++ s2).toArray⟩) ?_ (by simp [V])
      have hn : ¬ (((⟨s1.toArray⟩ : ByteArray).size + (⟨s2.toArray⟩ : ByteArray).size : Nat) : Int) > IntKind.i64.max := by
        rw [size_mk, size_mk, show IntKind.i64.max = 9223372036854775807 from rfl]; omega
      simp only [binOp, Op.stringOp]
      rw [if_neg hn, str_append]
      rfl
    · exact Pure.leaf (cv := .bool (decide (s1 = s2))) (by simp only [binOp, Op.stringOp, toList_mk, dec_beq_bytes]; rfl) (by simp only [V])
    · exact Pure.leaf (cv := .bool (!decide (s1 = s2))) (by simp only [binOp, Op.stringOp, toList_mk, dec_beq_bytes]; rfl) (by simp only [V])
    · exact Pure.bad
  · split
    · refine Pure.opt fun v hv => ?_
      simp only [Option.map_eq_some_iff] at hv
      obtain ⟨r, hr, rfl⟩ := hv
      obtain ⟨h1, h2, h3, h4, h5⟩ := eqAV_run w hr ha hb
      have h3' : (Op.equal t a b).run E.P w = .ok r w := h3
      exact ⟨.bool r, by rw [h4]; simp [h1, h3'], by simp [V]⟩
    · refine Pure.opt fun v hv => ?_
      simp only [Option.map_eq_some_iff] at hv
      obtain ⟨r, hr, rfl⟩ := hv
      obtain ⟨h1, h2, h3, h4, h5⟩ := eqAV_run w hr ha hb
      have h3' : (Op.equal t a b).run E.P w = .ok r w := h3
      exact ⟨.bool (!r), by rw [h5]; simp [h2, h3'], by simp [V]⟩
    · exact Pure.bad
end
end Go.Am
namespace Go.Am
theorem getD_set {α : Type} (l : List α) (i : Nat) (x d : α) (k : Nat) (h : k < l.length) : (l.set i x).getD k d = if k = i then x else l.getD k d := by
  by_cases hk : k = i
  · subst hk; simp [List.getD, h]
  · have : i ≠ k := fun e => hk e.symm
    simp [List.getD, this, hk]
theorem getD_append {α : Type} (l m : List α) (d : α) (k : Nat) : (l ++ m).getD k d = if k < l.length then l.getD k d else m.getD (k - l.length) d := by
  by_cases hk : k < l.length
  · simp [List.getD, hk, List.getElem?_append_left hk]
  · simp [List.getD, hk, List.getElem?_append_right (Nat.le_of_not_lt hk)]
theorem getD_sub {α : Type} (l : List α) (d : α) (i n k : Nat) (h : k < n) : ((l.drop i).take n).getD k d = l.getD (i + k) d := by
  simp [List.getD, h]
theorem decAll_spec {α : Type} {f : List AV → Option α} : ∀ {rs : List (List AV)} {l : List α}, decAll f rs = some l →
    l.length = rs.length ∧ ∀ i, i < rs.length → f (rs.getD i []) = l[i]?
  | [], l, h => by simp [decAll] at h; subst h; simp
  | x :: r, l, h => by
    unfold decAll at h
    split at h
    · rename_i y hy
      simp only [Option.map_eq_some_iff] at h
      obtain ⟨ys, hys, rfl⟩ := h
      obtain ⟨h1, h2⟩ := decAll_spec hys
      refine ⟨by simp [h1], fun i hi => ?_⟩
      cases i with
      | zero => simpa [List.getD] using hy
      | succ i => simpa [List.getD] using h2 i (by simpa using hi)
    · cases h
theorem intDec_spec {k : IntKind} {r : List AV} {x : Int} (h : intDec k r = some x) : r = [.int k x] := by
  unfold intDec at h
  split at h
  · rename_i k' n
    by_cases hk : k' = k
    · subst hk; simp at h; subst h; rfl
    · simp [hk] at h
  · cases h
theorem boolDec_spec {r : List AV} {x : Bool} (h : boolDec r = some x) : r = [.bool x] := by
  unfold boolDec at h; split at h <;> simp at h; subst h; rfl
theorem strDec_spec {r : List AV} {x : List UInt8} (h : strDec r = some x) : r = [.str x] := by
  unfold strDec at h; split at h <;> simp at h; subst h; rfl
theorem Tok.dec_spec {r : List AV} {x : Tok} (h : Tok.dec r = some x) : r = x.enc := by
  unfold Tok.dec at h; split at h <;> simp at h; subst h; rfl
theorem Nod.dec_spec {r : List AV} {x : Nod} (h : Nod.dec r = some x) : r = x.enc := by
  unfold Nod.dec at h; split at h <;> simp at h; subst h; rfl
theorem Top.dec_spec {r : List AV} {x : Top} (h : Top.dec r = some x) : r = x.enc := by
  unfold Top.dec at h; split at h <;> simp at h; subst h; rfl
theorem Sgn.dec_spec {r : List AV} {x : Sgn} (h : Sgn.dec r = some x) : r = x.enc := by
  unfold Sgn.dec at h; split at h <;> simp at h; subst h; rfl
theorem Opr.dec_spec {r : List AV} {x : Opr} (h : Opr.dec r = some x) : r = x.enc := by
  unfold Opr.dec at h; split at h <;> simp at h; subst h; rfl
theorem Chn.dec_spec {r : List AV} {x : Chn} (h : Chn.dec r = some x) : r = x.enc := by
  unfold Chn.dec at h; split at h <;> simp at h; subst h; rfl
theorem wid_unmark : ∀ s : List TypeId, wid (unmark s) = wid s
  | [] => rfl
  | t :: r => by
    cases h : isMark t with
    | true => simp only [unmark, wid, h, cond_true]; exact wid_unmark r
    | false => simp only [unmark, wid, h, cond_false]; rw [wid_unmark r]
theorem mark_unmark : ∀ s : List TypeId, markOf (unmark s) = none
  | [] => rfl
  | t :: r => by
    cases h : isMark t with
    | true => simp only [unmark, h, cond_true]; exact mark_unmark r
    | false => simp only [unmark, markOf, h, cond_false]; exact mark_unmark r
theorem genDec_spec {s : List TypeId} {r x : List AV} (h : genDec s r = some x) : x = r ∧ r.length = wid s ∧ r.all AV.isCell = true := by
  unfold genDec at h
  cases h1 : Nat.beq r.length (wid s) with
  | false => simp [h1] at h
  | true =>
    cases h2 : r.all AV.isCell with
    | false => simp [h1, h2] at h
    | true => simp [h1, h2] at h; exact ⟨h.symm, Nat.eq_of_beq_eq_true h1, rfl⟩
def Dat.WF (d : Dat) : Prop := ∀ i, i < d.len → (d.row i).length = d.stride ∧ (d.row i).all AV.isCell = true
theorem Dat.wf_typed (d : Dat) (h : ∀ s l, d ≠ .gen s l) : d.WF := by
  intro i _
  cases d <;> first | (exact (h _ _ rfl).elim) | simp [Dat.row, Dat.stride, Tok.enc, Nod.enc, Top.enc, Sgn.enc, Opr.enc, Chn.enc, AV.isCell]
structure SetSpec (d d' : Dat) (i : Nat) (row : List AV) : Prop where
  stride : d'.stride = d.stride
  len : d'.len = d.len
  wf : row.length = d.stride ∧ row.all AV.isCell = true
  row : ∀ k, k < d.len → d'.row k = if k = i then row else d.row k
theorem Dat.setRow_spec {d d' : Dat} {i : Nat} {row : List AV} (h : d.setRow i row = some d') : SetSpec d d' i row := by
  cases d <;> simp only [Dat.setRow, Option.map_eq_some_iff] at h <;> obtain ⟨x, hx, rfl⟩ := h
  case gen s l =>
    obtain ⟨rfl, h1, h2⟩ := genDec_spec hx
    exact ⟨rfl, by simp [Dat.len], ⟨h1, h2⟩, fun k hk => by simp only [Dat.row]; rw [getD_set _ _ _ _ _ (by simpa [Dat.len] using hk)]⟩
  case ints k l =>
    have e := intDec_spec hx; subst e
    exact ⟨rfl, by simp [Dat.len], ⟨rfl, rfl⟩, fun k hk => by simp only [Dat.row]; rw [getD_set _ _ _ _ _ (by simpa [Dat.len] using hk)]; split <;> rfl⟩
  case bools l =>
    have e := boolDec_spec hx; subst e
    exact ⟨rfl, by simp [Dat.len], ⟨rfl, rfl⟩, fun k hk => by simp only [Dat.row]; rw [getD_set _ _ _ _ _ (by simpa [Dat.len] using hk)]; split <;> rfl⟩
  case strs l =>
    have e := strDec_spec hx; subst e
    exact ⟨rfl, by simp [Dat.len], ⟨rfl, rfl⟩, fun k hk => by simp only [Dat.row]; rw [getD_set _ _ _ _ _ (by simpa [Dat.len] using hk)]; split <;> rfl⟩
  case toks l =>
    have e := Tok.dec_spec hx; subst e
    exact ⟨rfl, by simp [Dat.len], ⟨rfl, rfl⟩, fun k hk => by simp only [Dat.row]; rw [getD_set _ _ _ _ _ (by simpa [Dat.len] using hk)]; split <;> rfl⟩
  case nodes l =>
    have e := Nod.dec_spec hx; subst e
    exact ⟨rfl, by simp [Dat.len], ⟨rfl, rfl⟩, fun k hk => by simp only [Dat.row]; rw [getD_set _ _ _ _ _ (by simpa [Dat.len] using hk)]; split <;> rfl⟩
  case tops l =>
    have e := Top.dec_spec hx; subst e
    exact ⟨rfl, by simp [Dat.len], ⟨rfl, rfl⟩, fun k hk => by simp only [Dat.row]; rw [getD_set _ _ _ _ _ (by simpa [Dat.len] using hk)]; split <;> rfl⟩
  case sgns l =>
    have e := Sgn.dec_spec hx; subst e
    exact ⟨rfl, by simp [Dat.len], ⟨rfl, rfl⟩, fun k hk => by simp only [Dat.row]; rw [getD_set _ _ _ _ _ (by simpa [Dat.len] using hk)]; split <;> rfl⟩
  case oprs l =>
    have e := Opr.dec_spec hx; subst e
    exact ⟨rfl, by simp [Dat.len], ⟨rfl, rfl⟩, fun k hk => by simp only [Dat.row]; rw [getD_set _ _ _ _ _ (by simpa [Dat.len] using hk)]; split <;> rfl⟩
  case chns l =>
    have e := Chn.dec_spec hx; subst e
    exact ⟨rfl, by simp [Dat.len], ⟨rfl, rfl⟩, fun k hk => by simp only [Dat.row]; rw [getD_set _ _ _ _ _ (by simpa [Dat.len] using hk)]; split <;> rfl⟩
  case bytes t l =>
    have e := intDec_spec hx; subst e
    exact ⟨rfl, by simp [Dat.len], ⟨rfl, rfl⟩, fun k hk => by simp only [Dat.row]; rw [getD_set _ _ _ _ _ (by simpa [Dat.len] using hk)]; split <;> rfl⟩
theorem Dat.setRow_gen {d d' : Dat} {i : Nat} {row : List AV} (h : d.setRow i row = some d') : d'.isGen = d.isGen := by
  cases d <;> simp only [Dat.setRow, Option.map_eq_some_iff] at h <;> obtain ⟨x, hx, rfl⟩ := h <;> rfl
theorem markIn_ok {t : TypeId} {d : Dat} (h : markIn t d = true) {n m : Nat} : ∀ T, d.mark = some T → t = T ∧ (d.isGen = true → n = m) := by
  intro T hT
  cases d <;> simp only [Dat.mark] at hT <;> try cases hT
  · simp only [markIn, hT] at h; cases h
  · exact ⟨(Nat.eq_of_beq_eq_true h).symm, fun h => by cases h⟩
structure AppSpec (d e r : Dat) : Prop where
  stride : r.stride = d.stride
  same : e.stride = d.stride
  len : r.len = d.len + e.len
  row : ∀ k, r.row k = if k < d.len then d.row k else e.row (k - d.len)
theorem sameTys_eq : ∀ {s t : List TypeId}, sameTys s t = true → s = t
  | [], [], _ => rfl
  | a :: r, b :: q, h => by
    simp only [sameTys, Bool.and_eq_true] at h
    rw [Nat.eq_of_beq_eq_true h.1, sameTys_eq h.2]
  | [], _ :: _, h => by simp [sameTys] at h
  | _ :: _, [], h => by simp [sameTys] at h
theorem Dat.append_spec {d e r : Dat} (h : d.append e = some r) : AppSpec d e r := by
  unfold Dat.append at h
  split at h
  · rename_i s a t b
    cases hs : sameTys (unmark s) (unmark t) with
    | false => simp [hs] at h
    | true =>
      simp [hs] at h; subst h
      have := sameTys_eq hs
      exact ⟨wid_unmark s, by show wid t = wid s; rw [← wid_unmark t, ← this, wid_unmark], by simp [Dat.len], fun k => by simp only [Dat.row, Dat.len]; exact getD_append _ _ _ _⟩
  · rename_i k a k' b
    by_cases hk : k = k'
    · subst hk; simp at h; subst h
      exact ⟨rfl, rfl, by simp [Dat.len], fun k => by simp only [Dat.row, Dat.len]; rw [getD_append]; split <;> simp [*]⟩
    · simp [hk] at h
  case h_11 =>
    rename_i t a u b
    cases hs : Nat.beq t u with
    | false => simp [hs] at h
    | true => simp [hs] at h; subst h; exact ⟨rfl, rfl, by simp [Dat.len], fun k => by simp only [Dat.row, Dat.len]; rw [getD_append]; split <;> simp [*]⟩
  case h_12 =>
    rename_i t a k b
    by_cases hk : k = .u8
    · subst hk; simp at h; subst h
      exact ⟨rfl, rfl, by simp [Dat.len], fun k => by simp only [Dat.row, Dat.len]; rw [getD_append]; split <;> simp [*]⟩
    · simp [hk] at h
  all_goals first
    | (cases h; exact ⟨rfl, rfl, by simp [Dat.len], fun k => by simp only [Dat.row, Dat.len]; rw [getD_append]; split <;> simp [*]⟩)
    | (cases h; done)
theorem Dat.append_wf {d e r : Dat} (h : d.append e = some r) (hd : d.WF) (he : e.WF) : r.WF := by
  have s := Dat.append_spec h
  intro k hk
  rw [s.row k, s.stride]
  split
  · rename_i h1; exact hd k h1
  · rename_i h1; rw [← s.same]; exact he _ (by have := s.len; omega)
structure SubSpec (d r : Dat) (i n : Nat) : Prop where
  stride : r.stride = d.stride
  len : r.len = n
  row : ∀ k, k < n → r.row k = d.row (i + k)
theorem Dat.sub_spec (d : Dat) (i n : Nat) (h : i + n ≤ d.len) : SubSpec d (d.sub i n) i n := by
  cases d <;> simp only [Dat.len] at h <;>
    exact ⟨by first | rfl | exact wid_unmark _, by simp only [Dat.sub, Dat.len, List.length_take, List.length_drop]; omega, fun k hk => by simp only [Dat.sub, Dat.row]; rw [getD_sub _ _ _ _ _ hk]⟩
theorem Dat.sub_mark (d : Dat) (i n : Nat) : (d.sub i n).mark = none := by
  cases d <;> first | rfl | exact mark_unmark _
theorem Dat.append_mark {d e r : Dat} (h : d.append e = some r) : ∀ T, r.mark = some T → d.mark = some T ∧ r.isGen = false := by
  intro T hT
  unfold Dat.append at h
  split at h
  · rename_i s a t b
    cases hs : sameTys (unmark s) (unmark t) with
    | false => simp [hs] at h
    | true => simp [hs] at h; subst h; rw [show (Dat.gen (unmark s) (a ++ b)).mark = markOf (unmark s) from rfl, mark_unmark] at hT; cases hT
  · rename_i k a k' b
    by_cases hk : k = k'
    · subst hk; simp at h; subst h; cases hT
    · simp [hk] at h
  case h_11 =>
    rename_i t a u b
    cases hs : Nat.beq t u with
    | false => simp [hs] at h
    | true => simp [hs] at h; subst h; exact ⟨hT, rfl⟩
  case h_12 =>
    rename_i t a k b
    by_cases hk : k = .u8
    · subst hk; simp at h; subst h; exact ⟨hT, rfl⟩
    · simp [hk] at h
  all_goals first
    | (cases h; cases hT; done)
    | (cases h; done)
theorem Dat.setRow_mark {d d' : Dat} {i : Nat} {row : List AV} (h : d.setRow i row = some d') : d'.mark = d.mark := by
  cases d <;> simp only [Dat.setRow, Option.map_eq_some_iff] at h <;> obtain ⟨x, hx, rfl⟩ := h <;> rfl
structure RowsSpec (d : Dat) (rs : List (List AV)) : Prop where
  len : d.len = rs.length
  row : ∀ i, i < rs.length → d.row i = rs.getD i []
  wf : d.WF
theorem rowOf {α : Type} {f : List AV → Option α} {enc : α → List AV} (hf : ∀ r x, f r = some x → r = enc x) {rs : List (List AV)} {l : List α} (h : decAll f rs = some l) (d : α) (i : Nat) (hi : i < rs.length) :
    enc (l.getD i d) = rs.getD i [] := by
  obtain ⟨h1, h2⟩ := decAll_spec h
  have := h2 i hi
  have hl : i < l.length := by omega
  rw [List.getElem?_eq_getElem hl] at this
  rw [hf _ _ this]
  simp [List.getD, hl]
theorem Dat.ofRows_spec {k : DK} {rs : List (List AV)} {d : Dat} (h : Dat.ofRows k rs = some d) : RowsSpec d rs := by
  cases k <;> simp only [Dat.ofRows, Option.map_eq_some_iff] at h <;> obtain ⟨l, hl, rfl⟩ := h
  case gen s =>
    have hr : ∀ i, i < rs.length → l.getD i [] = rs.getD i [] ∧ (rs.getD i []).length = wid s ∧ (rs.getD i []).all AV.isCell = true := fun i hi => by
      have h2 := (decAll_spec hl).2 i hi
      have hlt : i < l.length := by have := (decAll_spec hl).1; omega
      rw [List.getElem?_eq_getElem hlt] at h2
      obtain ⟨e, h3, h4⟩ := genDec_spec h2
      exact ⟨by rw [← e]; simp [List.getD, hlt], h3, h4⟩
    refine ⟨(decAll_spec hl).1, fun i hi => (hr i hi).1, fun i hi => ?_⟩
    have hi' : i < rs.length := by rw [← (decAll_spec hl).1]; exact hi
    obtain ⟨h1, h2, h3⟩ := hr i hi'
    exact ⟨by show (l.getD i []).length = wid (unmark s); rw [wid_unmark]; rw [h1, h2], by show (l.getD i []).all AV.isCell = true; rw [h1, h3]⟩
  case bytes t => exact ⟨(decAll_spec hl).1, fun i hi => rowOf (enc := fun x => [.int .u8 x]) (fun _ _ => intDec_spec) hl 0 i hi, Dat.wf_typed _ (by intro s l; simp)⟩
  case ints k => exact ⟨(decAll_spec hl).1, fun i hi => rowOf (enc := fun x => [.int k x]) (fun _ _ => intDec_spec) hl 0 i hi, Dat.wf_typed _ (by intro s l; simp)⟩
  case bools => exact ⟨(decAll_spec hl).1, fun i hi => rowOf (enc := fun x => [.bool x]) (fun _ _ => boolDec_spec) hl false i hi, Dat.wf_typed _ (by intro s l; simp)⟩
  case strs => exact ⟨(decAll_spec hl).1, fun i hi => rowOf (enc := fun x => [.str x]) (fun _ _ => strDec_spec) hl [] i hi, Dat.wf_typed _ (by intro s l; simp)⟩
  case toks => exact ⟨(decAll_spec hl).1, fun i hi => rowOf (enc := Tok.enc) (fun _ _ => Tok.dec_spec) hl default i hi, Dat.wf_typed _ (by intro s l; simp)⟩
  case nodes => exact ⟨(decAll_spec hl).1, fun i hi => rowOf (enc := Nod.enc) (fun _ _ => Nod.dec_spec) hl default i hi, Dat.wf_typed _ (by intro s l; simp)⟩
  case tops => exact ⟨(decAll_spec hl).1, fun i hi => rowOf (enc := Top.enc) (fun _ _ => Top.dec_spec) hl default i hi, Dat.wf_typed _ (by intro s l; simp)⟩
  case sgns => exact ⟨(decAll_spec hl).1, fun i hi => rowOf (enc := Sgn.enc) (fun _ _ => Sgn.dec_spec) hl default i hi, Dat.wf_typed _ (by intro s l; simp)⟩
  case oprs => exact ⟨(decAll_spec hl).1, fun i hi => rowOf (enc := Opr.enc) (fun _ _ => Opr.dec_spec) hl default i hi, Dat.wf_typed _ (by intro s l; simp)⟩
  case chns => exact ⟨(decAll_spec hl).1, fun i hi => rowOf (enc := Chn.enc) (fun _ _ => Chn.dec_spec) hl default i hi, Dat.wf_typed _ (by intro s l; simp)⟩
end Go.Am
namespace Go.Am
section
variable {ρ : Rho} {E : Env} {w : World} {h : Heap}
theorem pos_add (p : Pos) (i j k : Nat) : (p.addr i j).add k = p.addr i (j + k) := by
  simp [Pos.addr, Addr.add_lit, Nat.add_assoc]
theorem cells_list (hs : SatH ρ h w) {b : Nat} {x : Blk} {p : Pos} (hb : h b = some x) (hp : ρ b = some p) {i : Nat} (hi : i < x.dat.len) (j s : Nat) (hjs : j + s ≤ (x.dat.row i).length) :
    ∃ cs : List Value, cs.length = s ∧ (∀ k v, cs[k]? = some v → w.cell? ((p.addr i j).add k) = some v) ∧ VL ρ (((x.dat.row i).drop j).take s) cs := by
  refine ⟨(List.range s).map fun k => (w.cell? (p.addr i (j + k))).getD undef, by simp, ?_, ?_⟩
  · intro k v hk
    simp only [List.getElem?_map, Option.map_eq_some_iff] at hk
    obtain ⟨k', hk', rfl⟩ := hk
    have hks : k < s ∧ k' = k := by
      have := List.getElem?_eq_some_iff.1 hk'
      obtain ⟨h1, h2⟩ := this
      simp at h1 h2
      exact ⟨h1, h2.symm⟩
    obtain ⟨hks, rfl⟩ := hks
    have hlt : j + k' < (x.dat.row i).length := by omega
    obtain ⟨c, hc, hv⟩ := hs.cells b x p hb hp i hi (j + k') _ (List.getElem?_eq_getElem hlt)
    rw [pos_add, hc]; rfl
  · refine VL.of_get (by simp; omega) fun k a v ha hv => ?_
    rw [List.getElem?_take] at ha
    split at ha
    · rename_i hks
      rw [List.getElem?_drop] at ha
      obtain ⟨c, hc, hV⟩ := hs.cells b x p hb hp i hi (j + k) a ha
      simp only [List.getElem?_map, Option.map_eq_some_iff] at hv
      obtain ⟨k', hk', rfl⟩ := hv
      have : k' = k := by
        have := List.getElem?_eq_some_iff.1 hk'
        obtain ⟨h1, h2⟩ := this
        simpa using h2.symm
      subst this
      rw [hc]; exact hV
    · cases ha
theorem nrm_addr (hs : SatH ρ h w) {b : Nat} {x : Blk} {p : Pos} (hx : h b = some x) (hp : ρ b = some p) (i j : Nat) : p.addr i j = p.addr (x.dat.rw i j) (x.dat.cl j) := by
  obtain ⟨p', hp', e1, _⟩ := hs.pos b x hx
  rw [hp] at hp'; cases hp'
  cases hd : x.dat <;> try rfl
  rw [hd] at e1
  have e1 : p.stride = 1 := e1
  simp only [Pos.addr, Dat.rw, Dat.cl, e1]
  congr 1
  omega
theorem loadA_inv {t : TypeId} {x : Dat} {i : Nat} {l : List AV} (h : loadA E t x i = some l) : ∃ k ns, x = .ints k ns ∧ i = 0 ∧ l = (ns.map fun n => .int k n) ∧ sizeT E t = some ns.length ∧ ∃ d, E.P.underlying t = some d ∧ descAgg d = true := by
  unfold loadA at h
  split at h
  · rename_i k ns
    split at h
    · rename_i n e hu
      split at h
      · rename_i s hs
        cases hb : (Nat.beq i 0 && Nat.beq s ns.length) with
        | false => rw [hb] at h; cases h
        | true =>
          rw [hb, cond_true, Option.some.injEq] at h
          rw [Bool.and_eq_true] at hb
          exact ⟨k, ns, rfl, Nat.eq_of_beq_eq_true hb.1, h.symm, (Nat.eq_of_beq_eq_true hb.2) ▸ hs, _, hu, rfl⟩
      · cases h
    · cases h
  · cases h
theorem cells_nums (hs : SatH ρ h w) {b : Nat} {x : Blk} {p : Pos} {k : IntKind} {ns : List Int} (hb : h b = some x) (hp : ρ b = some p) (hx : x.dat = .ints k ns) :
    ∀ j v, (ns.map fun n => Value.int k n)[j]? = some v → w.cell? ((p.addr 0 0).add j) = some v := fun j v hj => by
  obtain ⟨p', hp', e1, _⟩ := hs.pos b x hb
  rw [hp] at hp'; cases hp'
  rw [hx] at e1
  have e1 : p.stride = 1 := e1
  have hlt : j < ns.length := by
    have := (List.getElem?_eq_some_iff.1 hj).1
    simpa using this
  obtain ⟨c, hc, hV⟩ := hs.cells b x p hb hp j (by rw [hx]; exact hlt) 0 (.int k (ns.getD j 0)) (by rw [hx]; rfl)
  simp only [V] at hV
  subst hV
  have : v = .int k (ns.getD j 0) := by
    rw [List.getElem?_map, Option.map_eq_some_iff] at hj
    obtain ⟨n, hn, rfl⟩ := hj
    simp [List.getD, hn]
  rw [this, ← hc]
  simp [Pos.addr, Addr.add_lit, e1]
theorem nums_VL (k : IntKind) : ∀ ns : List Int, VL ρ (ns.map fun n => AV.int k n) (ns.map fun n => Value.int k n)
  | [] => by simp [VL]
  | n :: r => by
    simp only [List.map_cons, VL]
    exact ⟨_, _, rfl, by simp only [V], nums_VL k r⟩
theorem loadR_pure (hs : SatH ρ h w) (t : TypeId) (a : AV) {ca : Value} (ha : V ρ a ca) : Pure ρ E.P w (loadR E h t a) (Instr.loadAt t ca) := by
  unfold loadR
  split
  · rename_i b i j
    split
    · rename_i x hx
      cases hA : loadA E t x.dat (x.dat.rw i j) with
      | some l =>
        obtain ⟨k, ns, e1, e2, rfl, e3, d, hd, hda⟩ := loadA_inv hA
        simp only [V] at ha
        obtain ⟨p, hp, rfl⟩ := ha
        have hagg := run_isAgg_of hd w
        rw [hda] at hagg
        have haddr : p.addr i j = p.addr 0 0 := by
          rw [nrm_addr hs hx hp i j, e2, e1]; rfl
        rw [haddr]
        have hr := run_loadCells_list (P := E.P) w (p.addr 0 0) _ (cells_nums hs hx hp e1)
        rw [List.length_map] at hr
        refine Pure.leaf (cv := .agg (ns.map fun n => Value.int k n).toArray) ?_ ?_
        · simp [Instr.loadAt, Instr.sureAddr, loadVar, hagg, sizeT_run e3, hr]
        · simp only [V]; exact ⟨_, rfl, nums_VL k ns⟩
      | none =>
      refine Pure.node (fun hi => ?_) (fun _ => Pure.bad)
      have hi := of_decide_eq_true hi
      refine Pure.opt fun v hv => ?_
      simp only [V] at ha
      obtain ⟨p, hp, rfl⟩ := ha
      rw [nrm_addr hs hx hp i j]
      generalize x.dat.rw i j = i at *
      generalize x.dat.cl j = j at *
      unfold partOf at hv
      split at hv
      · cases hv
      rename_i d hd
      have hagg := run_isAgg_of hd w
      cases hda : descAgg d with
      | true =>
        rw [hda] at hagg
        simp only [hda, cond_true] at hv
        split at hv
        · rename_i s hsz
          cases hble : Nat.ble (j + s) (x.dat.row i).length with
          | false => simp [hble] at hv
          | true =>
            simp [hble] at hv; subst hv
            obtain ⟨cs, hl, hc, hV⟩ := cells_list hs hx hp hi j s (Nat.le_of_ble_eq_true hble)
            refine ⟨.agg cs.toArray, ?_, ?_⟩
            · have hr := run_loadCells_list (P := E.P) w (p.addr i j) cs hc
              rw [hl] at hr
              simp [Instr.loadAt, Instr.sureAddr, loadVar, hagg, sizeT_run hsz, hr]
            · simp only [V]; exact ⟨_, rfl, hV⟩
        · cases hv
      | false =>
        rw [hda] at hagg
        simp only [hda, cond_false] at hv
        obtain ⟨c, hc, hV⟩ := hs.cells b x p hx hp i hi j v hv
        exact ⟨c, by simp [Instr.loadAt, Instr.sureAddr, loadVar, hagg, hc], hV⟩
    · exact Pure.bad
  · exact Pure.bad
theorem slLen_V (hs : SatH ρ h w) {x : AV} {n : Nat} (hn : slLen h x = some n) {cv : Value} (hv : V ρ x cv) : ∃ a c, cv = .slice a n c ∧ n ≤ c := by
  unfold slLen at hn
  split at hn
  · rename_i b
    simp only [Option.map_eq_some_iff] at hn
    obtain ⟨y, hy, rfl⟩ := hn
    simp only [V] at hv
    obtain ⟨p, hp, hc, a, rfl, _⟩ := hv
    obtain ⟨p', hp', _, h2, _⟩ := hs.pos b y hy
    rw [hp] at hp'; cases hp'
    exact ⟨a, _, by rw [h2], by omega⟩
  · cases hn
    simp only [V] at hv
    obtain ⟨p, hp, hc, hl, a, rfl, _⟩ := hv
    exact ⟨a, _, rfl, by omega⟩
  · cases hn; simp only [V] at hv; exact ⟨none, 0, hv, Nat.le_refl _⟩
  · cases hn
theorem slAt_V (hs : SatH ρ h w) {x : AV} {n i b e : Nat} {y : Blk} (hn : slLen h x = some n) (hat : slAt x i = some (b, e)) (hy : h b = some y) {cv : Value} (hv : V ρ x cv) :
    ∃ p, ρ b = some p ∧ p.stride = y.dat.stride ∧ p.len = y.dat.len ∧ p.len ≤ p.cap ∧ p.cap ≤ maxLen ∧ e = (e - i) + i ∧ (e - i) + n ≤ p.len ∧ SlV p (e - i) n cv := by
  unfold slAt at hat
  split at hat
  · rename_i b'
    cases hat
    simp only [V] at hv
    obtain ⟨p, hp, hc, hsl⟩ := hv
    obtain ⟨p', hp', h1, h2, h3, h4⟩ := hs.pos b y hy
    rw [hp] at hp'; cases hp'
    simp only [slLen, hy, Option.map_some, Option.some.injEq] at hn
    subst hn
    simp only [Nat.sub_self, Nat.zero_add, true_and]
    refine ⟨p, hp, h1, h2, h3, h4, by omega, ?_⟩
    rw [← h2]; exact hsl
  · rename_i b' o n'
    cases hat
    simp only [V] at hv
    obtain ⟨p, hp, hc, hl, hsl⟩ := hv
    obtain ⟨p', hp', h1, h2, h3, h4⟩ := hs.pos b y hy
    rw [hp] at hp'; cases hp'
    simp only [slLen, Option.some.injEq] at hn
    subst hn
    exact ⟨p, hp, h1, h2, h3, h4, by omega, by omega, by simpa using hsl⟩
  · cases hat
theorem asInt_run (k : IntKind) (n : Int) (w : World) : (asIntOf (.int k n)).run E.P w = .ok (k, n) w := rfl
theorem indexAddrR_pure (hs : SatH ρ h w) (t : TypeId) (x ix : AV) {cx ci : Value} (hx : V ρ x cx) (hi : V ρ ix ci) : Pure ρ E.P w (indexAddrR E h t x ix) (Instr.indexAt t cx ci) := by
  unfold indexAddrR
  split
  · rename_i k i
    simp only [V] at hi; subst hi
    split
    · rename_i n et ht
      split
      · rename_i b e j
        split
        · rename_i s hsz
          refine Pure.node (fun hc => ?_) (fun _ => Pure.bad)
          have hc : 0 ≤ i ∧ i < (n : Int) := of_decide_eq_true hc
          simp only [V] at hx
          obtain ⟨p, hp, rfl⟩ := hx
          refine Pure.leaf (cv := .pointer (some (p.addr e (j + i.toNat * s)))) ?_ (by simp only [V]; exact ⟨p, hp, rfl⟩)
          simp [Instr.indexAt, asInt_run, run_und ht, Instr.sureAddr, hc, sizeT_run hsz, pos_add]
        · exact Pure.bad
      · exact Pure.bad
    · rename_i et ht
      split
      · rename_i b t n
        split
        · rename_i blk hblk
          by_cases hsz : sizeT E et = some blk.dat.stride
          · simp only [hsz, decide_true, cond_true]
            refine Pure.node (fun hc => ?_) (fun _ => Pure.bad)
            obtain ⟨rfl, hc⟩ : i = t ∧ 0 ≤ t ∧ t < (n : Int) := of_decide_eq_true hc
            simp only [V] at hx
            obtain ⟨p, hp, o, c, rfl, ho⟩ := hx
            obtain ⟨p', hp', h1, _⟩ := hs.pos b blk hblk
            rw [hp] at hp'; cases hp'
            refine Pure.leaf (cv := .pointer (some (p.addr 0 0))) ?_ (by simp only [V]; exact ⟨p, hp, rfl⟩)
            have hadd : (⟨p.block, o, none⟩ : Addr).add (i.toNat * blk.dat.stride) = p.addr 0 0 := by
              rw [← h1, Pos.addr, ← ho]
              simp [Addr.add]
            simp [Instr.indexAt, asInt_run, run_und ht, hc, sizeT_run hsz, hadd]
          · simp only [hsz, decide_false, cond_false]; exact Pure.bad
        · exact Pure.bad
      split
      · rename_i n hn
        split
        · rename_i b e hat
          split
          · rename_i blk hblk
            by_cases hsz : sizeT E et = some blk.dat.stride
            · simp only [hsz, decide_true, cond_true]
              refine Pure.node (fun hc => ?_) (fun _ => Pure.bad)
              have hc : 0 ≤ i ∧ i < (n : Int) := of_decide_eq_true hc
              obtain ⟨p, hp, h1, h2, h3, h4, h5, h6, a, rfl, ha⟩ := slAt_V hs hn hat hblk hx
              have hin : i.toNat < n := by omega
              have ha' := ha (by omega)
              subst ha'
              refine Pure.leaf (cv := .pointer (some (p.addr e 0))) ?_ (by simp only [V]; exact ⟨p, hp, rfl⟩)
              have hadd : (p.addr (e - i.toNat) 0).add (i.toNat * blk.dat.stride) = p.addr e 0 := by
                have e1 : e * p.stride = (e - i.toNat) * p.stride + i.toNat * p.stride := by rw [← Nat.add_mul]; congr 1
                rw [pos_add, Pos.addr, Pos.addr, ← h1, e1]
                simp [Nat.add_assoc]
              simp [Instr.indexAt, asInt_run, run_und ht, hc, sizeT_run hsz, hadd]
            · simp only [hsz, decide_false, cond_false]; exact Pure.bad
          · exact Pure.bad
        · exact Pure.bad
      · exact Pure.bad
    · exact Pure.bad
  · exact Pure.bad
theorem strsIn_one {e : TypeId} {s : Nat} {cs : List AV} {l : List (List UInt8)} (h : strsIn E e s cs = some l) : s = 1 := by
  unfold strsIn at h
  cases hs : Nat.beq s 1 with
  | false => rw [hs] at h; cases h
  | true => exact Nat.eq_of_beq_eq_true hs
theorem strsIn_run {e : TypeId} {s : Nat} {cs : List AV} {l : List (List UInt8)} (h : strsIn E e s cs = some l) {vs : Array Value} (hv : VL ρ cs vs.toList) {i : Nat} (hi : i < l.length) (w : World) :
    ∃ cv, (part e vs (i * s)).run E.P w = .ok cv w ∧ V ρ (.str (l.getD i [])) cv := by
  have h1 := strsIn_one h
  subst h1
  unfold strsIn at h
  rw [show Nat.beq 1 1 = true from rfl, cond_true] at h
  split at h
  · rename_i hd
    obtain ⟨h2, h3⟩ := decAll_spec h
    have hi2 : i < cs.length := by rw [h2] at hi; simpa using hi
    have h4 := h3 i (by simpa using hi2)
    have h5 : (cs.map fun c => [c]).getD i [] = [cs[i]] := by simp [List.getD, hi2]
    rw [h5, List.getElem?_eq_getElem hi] at h4
    have h6 := strDec_spec h4
    simp only [List.cons.injEq, and_true] at h6
    obtain ⟨cv, hcv, hV⟩ := hv.get (List.getElem?_eq_getElem hi2)
    have hcv' : vs[i]? = some cv := by simpa using hcv
    refine ⟨cv, ?_, ?_⟩
    · unfold part
      simp [run_isAgg_of hd, descAgg, hcv']
    · have h7 : l.getD i [] = l[i] := by simp [List.getD, hi]
      rw [h7, ← h6]; exact hV
  · cases h
theorem indexR_pure (t : TypeId) (x ix : AV) {cx ci : Value} (hx : V ρ x cx) (hi : V ρ ix ci) : Pure ρ E.P w (indexR E t x ix) (Instr.index t cx ci) := by
  unfold indexR
  split
  · rename_i k i
    simp only [V] at hi; subst hi
    split
    · rename_i ht
      split
      · rename_i s
        refine Pure.node (fun hc => ?_) (fun _ => Pure.bad)
        have hc : 0 ≤ i ∧ i < (s.length : Int) := of_decide_eq_true hc
        simp only [V] at hx; subst hx
        refine Pure.leaf (cv := .int .u8 (s.getD i.toNat 0).toNat) ?_ (by simp only [V])
        have hlt : i.toNat < s.length := by omega
        have e : (⟨s.toArray⟩ : ByteArray)[i.toNat]? = some (s.getD i.toNat 0) := by
          show (if h : i.toNat < (⟨s.toArray⟩ : ByteArray).size then some ((⟨s.toArray⟩ : ByteArray)[i.toNat]'h) else none) = _
          rw [dif_pos (by simpa [size_mk] using hlt)]
          simp [List.getD, hlt]
          rfl
        simp [Instr.index, asInt_run, run_und ht, hc.1, e]
      · exact Pure.bad
    · rename_i n e ht
      split
      · rename_i cs
        split
        · rename_i s hsz
          refine Pure.node (fun hc => ?_) (fun _ => Pure.bad)
          have hc : 0 ≤ i ∧ i < (n : Int) := of_decide_eq_true hc
          simp only [V] at hx
          obtain ⟨vs, rfl, hl⟩ := hx
          split
          · rename_i l hstr
            cases hnl : Nat.ble n l.length with
            | false => exact Pure.bad
            | true =>
              have hnl := Nat.le_of_ble_eq_true hnl
              obtain ⟨cv, hr, hV⟩ := strsIn_run hstr hl (show i.toNat < l.length by omega) w
              refine Pure.leaf (cv := cv) ?_ hV
              simp [Instr.index, asInt_run, run_und ht, hc, sizeT_run hsz, hr]
          · refine Pure.opt fun v hv => ?_
            obtain ⟨cv, hr, hV⟩ := partOf_run hv hl w
            exact ⟨cv, by simp [Instr.index, asInt_run, run_und ht, hc, sizeT_run hsz, hr], hV⟩
        · exact Pure.bad
      · exact Pure.bad
    · exact Pure.bad
  · exact Pure.bad
end
end Go.Am
namespace Go.Am
section
variable {ρ : Rho} {E : Env} {w : World} {h : Heap}
theorem extract_mk (s : List UInt8) (l u : Nat) : (⟨s.toArray⟩ : ByteArray).extract l u = ⟨((s.take u).drop l).toArray⟩ := by
  apply ByteArray.ext
  rw [ByteArray.data_extract]
  simp [List.drop_take]
def OV (ρ : Rho) : Option AV → Option Value → Prop
  | none, none => True
  | some a, some v => V ρ a v
  | _, _ => False
theorem boundOf_V {o : Option AV} {r : Option Int} (hb : boundOf o = some r) {v : Option Value} (hv : OV ρ o v) :
    (r = none ∧ v = none) ∨ ∃ k n, r = some n ∧ v = some (.int k n) := by
  unfold boundOf at hb
  split at hb
  · cases hb
    cases v with
    | none => exact .inl ⟨rfl, rfl⟩
    | some v => simp [OV] at hv
  · rename_i k n
    cases hb
    cases v with
    | none => simp [OV] at hv
    | some v => simp only [OV, V] at hv; subst hv; exact .inr ⟨k, n, rfl, rfl⟩
  · cases hb
theorem bound_run (k : IntKind) (i : Int) (y : Nat) (c : BoundsCode) (h0 : 0 ≤ i) (h1 : i ≤ (y : Int)) (w : World) : (Instr.sliceBound (.int k i) y c).run E.P w = .ok i.toNat w := by
  unfold Instr.sliceBound
  simp [asInt_run, h0, h1]
theorem bounds_run (isS : Bool) (n c : Nat) (hnc : n ≤ c) {lo hi : Option Int} {vl vh : Option Value}
    (hl : (lo = none ∧ vl = none) ∨ ∃ k m, lo = some m ∧ vl = some (.int k m)) (hh : (hi = none ∧ vh = none) ∨ ∃ k m, hi = some m ∧ vh = some (.int k m))
    (u : Int) (hu : hi.getD n = u) (h0 : 0 ≤ lo.getD 0) (h1 : lo.getD 0 ≤ u) (h2 : u ≤ (n : Int)) (w : World) :
    (Instr.sliceBounds isS n c vl vh none).run E.P w = .ok ((lo.getD 0).toNat, u.toNat, c) w := by
  unfold Instr.sliceBounds
  have hu' : u.toNat = u.toNat := rfl
  rcases hh with ⟨rfl, rfl⟩ | ⟨kh, mh, rfl, rfl⟩
  · simp at hu
    subst hu
    rcases hl with ⟨rfl, rfl⟩ | ⟨kl, ml, rfl, rfl⟩
    · simp
    · simp at h0 h1
      simp [bound_run kl ml n _ h0 h1]
  · simp at hu; subst hu
    have b1 := fun cd => bound_run (E := E) kh mh c cd (by omega) (by omega) w
    rcases hl with ⟨rfl, rfl⟩ | ⟨kl, ml, rfl, rfl⟩
    · cases isS <;> simp [b1]
    · simp at h0 h1
      have b2 := fun cd => bound_run (E := E) kl ml mh.toNat cd h0 (by omega) w
      cases isS <;> simp [b1, b2]
theorem sliceR_pure (hs : SatH ρ h w) (t : TypeId) (x : AV) (lo hi : Option AV) {cx : Value} {vl vh : Option Value} (hx : V ρ x cx) (hlo : OV ρ lo vl) (hhi : OV ρ hi vh) :
    Pure ρ E.P w (sliceR E h t x lo hi) (Instr.sliceAt t cx vl vh none) := by
  unfold sliceR
  split
  rotate_left
  · exact Pure.bad
  rename_i lo' hi' e1 e2
  have bl := boundOf_V e1 hlo
  have bh := boundOf_V e2 hhi
  dsimp only
  split
  · rename_i ht
    split
    · rename_i s
      simp only [V] at hx; subst hx
      have hat : ∀ u : Int, hi'.getD s.length = u → 0 ≤ lo'.getD 0 → lo'.getD 0 ≤ u → u ≤ (s.length : Int) →
          (Instr.sliceAt t (.string ⟨s.toArray⟩) vl vh none).run E.P w = .ok (.string ⟨((s.take u.toNat).drop (lo'.getD 0).toNat).toArray⟩) w := by
        intro u hu h0 h1 h2
        have hb := bounds_run (E := E) false s.length s.length (Nat.le_refl _) bl bh u hu h0 h1 h2 w
        unfold Instr.sliceAt
        simp only [Sem.run_bind, run_und ht, Result.andThen_ok]
        unfold Instr.slice
        simp [run_und ht, size_mk, hb, extract_mk]
      split
      · refine Pure.node (fun hc => ?_) (fun _ => Pure.bad)
        have hc := of_decide_eq_true hc
        refine Pure.leaf (hat s.length (by simp) hc.1 hc.2 (Int.le_refl _)) ?_
        simp [V]
      · rename_i u
        refine Pure.node (fun hc => ?_) (fun _ => Pure.bad)
        have hc := of_decide_eq_true hc
        refine Pure.leaf (hat u (by simp) hc.1 hc.2.1 hc.2.2) ?_
        simp [V]
    · exact Pure.bad
  · rename_i et ht
    split
    · rename_i n hn
      split
      · rename_i b e hat
        split
        · rename_i blk hblk
          by_cases hsz : sizeT E et = some blk.dat.stride
          · simp only [hsz, decide_true, cond_true]
            obtain ⟨p, hp, h1, h2, h3, h4, h5, h6, a, rfl, ha⟩ := slAt_V hs hn hat hblk hx
            have key : ∀ u : Int, hi'.getD n = u → 0 ≤ lo'.getD 0 → lo'.getD 0 ≤ u → u ≤ (n : Int) →
                ∃ cv, (Instr.sliceAt t (.slice a n (p.cap - (e - (lo'.getD 0).toNat))) vl vh none).run E.P w = .ok cv w ∧ V ρ (.sl b e (u.toNat - (lo'.getD 0).toNat)) cv := by
              intro u hu h0 h1' h2'
              have hb := bounds_run (E := E) true n (p.cap - (e - (lo'.getD 0).toNat)) (by omega) bl bh u hu h0 h1' h2' w
              refine ⟨.slice (if p.cap - (e - (lo'.getD 0).toNat) = (lo'.getD 0).toNat then a else a.map (·.add ((lo'.getD 0).toNat * blk.dat.stride))) (u.toNat - (lo'.getD 0).toNat) (p.cap - (e - (lo'.getD 0).toNat) - (lo'.getD 0).toNat), ?_, ?_⟩
              · unfold Instr.sliceAt
                simp only [Sem.run_bind, run_und ht, Result.andThen_ok]
                unfold Instr.slice
                simp [run_und ht, hb, sizeT_run hsz]
              · simp only [V]
                refine ⟨p, hp, h3, by omega, _, by rw [show p.cap - (e - (lo'.getD 0).toNat) - (lo'.getD 0).toNat = p.cap - e from by omega], fun hlt => ?_⟩
                rw [if_neg (by omega), ha (by omega)]
                simp only [Option.map_some, Option.some.injEq]
                have e1 : e * p.stride = (e - (lo'.getD 0).toNat) * p.stride + (lo'.getD 0).toNat * p.stride := by rw [← Nat.add_mul]; congr 1
                rw [pos_add, Pos.addr, Pos.addr, ← h1, e1]
                simp [Nat.add_assoc]
            split
            · refine Pure.node (fun hc => ?_) (fun _ => Pure.bad)
              have hc := of_decide_eq_true hc
              obtain ⟨cv, hr, hv⟩ := key n (by simp) hc.1 hc.2 (Int.le_refl _)
              exact Pure.leaf hr (by simpa using hv)
            · rename_i u
              refine Pure.node (fun hc => ?_) (fun _ => Pure.bad)
              have hc := of_decide_eq_true hc
              obtain ⟨cv, hr, hv⟩ := key u (by simp) hc.1 hc.2.1 hc.2.2
              exact Pure.leaf hr hv
          · simp only [hsz, decide_false, cond_false]; exact Pure.bad
        · exact Pure.bad
      · exact Pure.bad
    · exact Pure.bad
  · exact Pure.bad
end
end Go.Am
namespace Go.Am
theorem updF_same {α : Type} (f : Nat → α) (k : Nat) (v : α) : updF f k v k = v := by simp [updF]
theorem updF_other {α : Type} (f : Nat → α) (k : Nat) (v : α) {x : Nat} (h : x ≠ k) : updF f k v x = f x := by
  have : Nat.beq x k = false := by rw [← Bool.not_eq_true]; intro e; exact h (Nat.eq_of_beq_eq_true e)
  simp [updF, this]
section
variable {ρ : Rho} {h : Heap} {w : World}
theorem SatH.drop (hs : SatH ρ h w) (b : Nat) : SatH ρ (updF h b none) w := by
  have key : ∀ c x, updF h b none c = some x → h c = some x := by
    intro c x hc
    by_cases e : c = b
    · subst e; rw [updF_same] at hc; cases hc
    · rwa [updF_other _ _ _ e] at hc
  exact ⟨fun c x hc => hs.pos c x (key c x hc), fun c x hc => hs.wf c x (key c x hc), fun c x p hc => hs.cells c x p (key c x hc),
    fun c x p hc => hs.own c x p (key c x hc), fun c x p c' x' p' hc ho hp h0 hc' => hs.apart c x p c' x' p' (key c x hc) ho hp h0 (key c' x' hc')⟩
theorem ownB_drop {k b : Nat} (hk : ownB ρ (updF h b none) k) : ownB ρ h k := by
  obtain ⟨c, x, p, hc, r⟩ := hk
  by_cases e : c = b
  · subst e; rw [updF_same] at hc; cases hc
  · rw [updF_other _ _ _ e] at hc; exact ⟨c, x, p, hc, r⟩
theorem liveB_drop {k b : Nat} (hk : liveB ρ (updF h b none) k) : liveB ρ h k := by
  obtain ⟨c, x, p, hc, r⟩ := hk
  by_cases e : c = b
  · subst e; rw [updF_same] at hc; cases hc
  · rw [updF_other _ _ _ e] at hc; exact ⟨c, x, p, hc, r⟩
theorem liveB_add {k id : Nat} {p : Pos} {x : Blk} (hk : liveB (updF ρ id (some p)) (updF h id (some x)) k) : liveB ρ h k ∨ (((x.own = true ∧ 0 < p.cap) ∨ (0 < p.len ∧ 0 < p.stride)) ∧ k = p.block) := by
  obtain ⟨c, y, q, hc, hq, hl, rfl⟩ := hk
  by_cases e : c = id
  · subst e
    rw [updF_same] at hc hq
    cases hc; cases hq
    exact .inr ⟨hl, rfl⟩
  · rw [updF_other _ _ _ e] at hc hq
    exact .inl ⟨c, y, q, hc, hq, hl, rfl⟩
theorem SatH.world {w' : World} (hs : SatH ρ h w) (hw : ∀ b x p, h b = some x → ρ b = some p → ((x.own = true ∧ 0 < p.cap) ∨ (0 < p.len ∧ 0 < p.stride)) → p.block < w.heap.size → w'.heap[p.block]? = w.heap[p.block]?) : SatH ρ h w' where
  pos := hs.pos
  wf := hs.wf
  cells b x p hb hp i hi j av hav := by
    obtain ⟨c, hc, hv⟩ := hs.cells b x p hb hp i hi j av hav
    refine ⟨c, ?_, hv⟩
    have hlt : p.block < w.heap.size := World.block_lt_of_cell? w _ hc
    obtain ⟨p', hp', h1, h2, _⟩ := hs.pos b x hb
    rw [hp] at hp'; cases hp'
    have hl := (hs.wf b x hb i hi).1
    have hj : j < (x.dat.row i).length := (List.getElem?_eq_some_iff.1 hav).1
    have := hw b x p hb hp (.inr ⟨by omega, by omega⟩) hlt
    rw [World.cell?_of_block this]; exact hc
  own b x p hb ho hp h0 := by
    obtain ⟨cs, e, hcs, hsz⟩ := hs.own b x p hb ho hp h0
    have hlt : p.block < w.heap.size := (Array.getElem?_eq_some_iff.1 hcs).1
    rw [hw b x p hb hp (.inl ⟨ho, h0⟩) hlt]
    exact ⟨cs, e, hcs, hsz⟩
  apart := hs.apart
theorem SatH.drew (hs : SatH ρ h w) : SatH ρ h w.drew := hs.world fun _ _ _ _ _ _ _ => rfl
theorem SatH.add (hs : SatH ρ h w) {id : Nat} (hid : ρ id = none) (p : Pos) (x : Blk) (h1 : p.stride = x.dat.stride) (h2 : p.len = x.dat.len) (h3 : p.len ≤ p.cap) (h4 : p.cap ≤ maxLen) (hwf : x.dat.WF)
    (hc : ∀ i, i < x.dat.len → ∀ j av, (x.dat.row i)[j]? = some av → ∃ c, w.cell? (p.addr i j) = some c ∧ V ρ av c)
    (ho : x.own = true → 0 < p.cap → ∃ cs e, w.heap[p.block]? = some (.cells cs e (0, 0)) ∧ p.off + p.cap * p.stride ≤ cs.size ∧ MarkOk x.dat p cs e)
    (ha : ∀ b y q, h b = some y → ρ b = some q → (y.own = true ∧ 0 < q.cap) ∨ (x.own = true ∧ 0 < p.cap ∧ 0 < q.len ∧ 0 < q.stride) → ((x.own = true ∧ 0 < p.cap) ∨ (0 < p.len ∧ 0 < p.stride)) → q.block ≠ p.block) :
    ρ.le (updF ρ id (some p)) ∧ SatH (updF ρ id (some p)) (updF h id (some x)) w ∧ (∀ k, ownB (updF ρ id (some p)) (updF h id (some x)) k → ownB ρ h k ∨ (x.own = true ∧ 0 < p.cap ∧ k = p.block)) ∧
      (∀ b, updF ρ id (some p) b ≠ none → ρ b = none → b = id) := by
  have hle : ρ.le (updF ρ id (some p)) := fun b q hq => by
    by_cases e : b = id
    · subst e; rw [hid] at hq; cases hq
    · rw [updF_other _ _ _ e]; exact hq
  have hno : h id = none := by
    cases hh : h id with
    | none => rfl
    | some y => obtain ⟨q, hq, _⟩ := hs.pos id y hh; rw [hid] at hq; cases hq
  refine ⟨hle, ⟨?_, ?_, ?_, ?_, ?_⟩, ?_, ?_⟩
  · intro b y hb
    by_cases e : b = id
    · subst e; rw [updF_same] at hb; cases hb; exact ⟨p, updF_same _ _ _, h1, h2, h3, h4⟩
    · rw [updF_other _ _ _ e] at hb; rw [updF_other _ _ _ e]; exact hs.pos b y hb
  · intro b y hb
    by_cases e : b = id
    · subst e; rw [updF_same] at hb; cases hb; exact hwf
    · rw [updF_other _ _ _ e] at hb; exact hs.wf b y hb
  · intro b y q hb hq i hi j av hav
    by_cases e : b = id
    · subst e; rw [updF_same] at hb hq; cases hb; cases hq
      obtain ⟨c, h5, h6⟩ := hc i hi j av hav
      exact ⟨c, h5, V.mono hle _ _ h6⟩
    · rw [updF_other _ _ _ e] at hb hq
      obtain ⟨c, h5, h6⟩ := hs.cells b y q hb hq i hi j av hav
      exact ⟨c, h5, V.mono hle _ _ h6⟩
  · intro b y q hb hown hq h0
    by_cases e : b = id
    · subst e; rw [updF_same] at hb hq; cases hb; cases hq; exact ho hown h0
    · rw [updF_other _ _ _ e] at hb hq; exact hs.own b y q hb hown hq h0
  · intro b y q b' y' q' hb hown hq h0 hb' hq' hne hl
    by_cases e : b = id
    · subst e; rw [updF_same] at hb hq; cases hb; cases hq
      rw [updF_other _ _ _ (Ne.symm hne)] at hb' hq'
      have := ha b' y' q' hb' hq' (by rcases hl with hl | hl; exact .inl hl; exact .inr ⟨hown, h0, hl⟩) (.inl ⟨hown, h0⟩)
      exact fun e => this e.symm
    · rw [updF_other _ _ _ e] at hb hq
      by_cases e' : b' = id
      · subst e'; rw [updF_same] at hb' hq'; cases hb'; cases hq'
        exact ha b y q hb hq (.inl ⟨hown, h0⟩) hl
      · rw [updF_other _ _ _ e'] at hb' hq'
        exact hs.apart b y q b' y' q' hb hown hq h0 hb' hq' hne hl
  · rintro k ⟨b, y, q, hb, hown, hq, h0, rfl⟩
    by_cases e : b = id
    · subst e; rw [updF_same] at hb hq; cases hb; cases hq; exact .inr ⟨hown, h0, rfl⟩
    · rw [updF_other _ _ _ e] at hb hq; exact .inl ⟨b, y, q, hb, hown, hq, h0, rfl⟩
  · intro b hb hn
    by_cases e : b = id
    · exact e
    · rw [updF_other _ _ _ e] at hb; exact (hb hn).elim
theorem heap_lt {w : World} {k : Nat} {o : Obj} (h : w.heap[k]? = some o) : k < w.heap.size := (Array.getElem?_eq_some_iff.1 h).1
theorem SatH.lt (hs : SatH ρ h w) {b : Nat} {x : Blk} {p : Pos} (hb : h b = some x) (hp : ρ b = some p) (hl : (x.own = true ∧ 0 < p.cap) ∨ (0 < p.len ∧ 0 < p.stride)) : p.block < w.heap.size := by
  rcases hl with ⟨ho, h0⟩ | ⟨h0, h1⟩
  · obtain ⟨cs, e, hcs, _⟩ := hs.own b x p hb ho hp h0
    exact heap_lt hcs
  · obtain ⟨p', hp', e1, e2, _⟩ := hs.pos b x hb
    rw [hp] at hp'; cases hp'
    have hw := (hs.wf b x hb 0 (by omega)).1
    have hj : 0 < (x.dat.row 0).length := by omega
    obtain ⟨c, hc, _⟩ := hs.cells b x p hb hp 0 (by omega) 0 _ (List.getElem?_eq_getElem hj)
    exact World.block_lt_of_cell? w _ hc
theorem frozen_alloc (w : World) (c : Array Value) (t : TypeId) (a : Addr) : (w.alloc (.cells c t)).frozen? a = w.frozen? a := by
  by_cases h : a.block = w.heap.size
  · have e1 : (w.alloc (.cells c t)).heap[a.block]? = some (.cells c t) := by rw [h]; exact heap_alloc_new w _
    have e2 : w.heap[a.block]? = none := by rw [h]; simp
    simp [World.frozen?, e1, e2]
  · by_cases h2 : a.block < w.heap.size
    · have e1 : (w.alloc (.cells c t)).heap[a.block]? = w.heap[a.block]? := heap_alloc_old w _ _ h2
      simp [World.frozen?, e1]
    · have e1 : (w.alloc (.cells c t)).heap[a.block]? = none := by
        rw [Array.getElem?_eq_none_iff]
        have : (w.alloc (.cells c t)).heap.size = w.heap.size + 1 := by simp
        omega
      have e2 : w.heap[a.block]? = none := by rw [Array.getElem?_eq_none_iff]; omega
      simp [World.frozen?, e1, e2]
theorem frozen_setRow (w : World) (g : Nat) (cs : Array Value) (a : Addr) : (w.setRow g cs).frozen? a = w.frozen? a := by
  simp only [World.frozen?, World.setRow, Array.getElem?_modify]
  by_cases e : g = a.block
  · subst e
    simp only [if_true]
    cases w.heap[a.block]? with
    | none => rfl
    | some o => cases o <;> rfl
  · simp [e]
theorem SatH.alloc (hs : SatH ρ h w) {id : Nat} (hid : ρ id = none) (d : Dat) (cs : Array Value) (e : TypeId) (cap : Nat) (hcap : d.len ≤ cap) (hm : cap ≤ maxLen) (hwf : d.WF)
    (hcs : cap * d.stride ≤ cs.size) (hc : ∀ i, i < d.len → ∀ j av, (d.row i)[j]? = some av → ∃ c, cs[i * d.stride + j]? = some c ∧ V ρ av c) (hmk : ∀ T, d.mark = some T → e = T ∧ (d.isGen = true → cs.size = d.stride)) :
    let p : Pos := ⟨w.heap.size, 0, d.stride, d.len, cap, none⟩
    ρ.le (updF ρ id (some p)) ∧ SatH (updF ρ id (some p)) (updF h id (some ⟨true, d⟩)) (w.alloc (.cells cs e)) ∧
      Stp (domB ρ h) (domB (updF ρ id (some p)) (updF h id (some ⟨true, d⟩))) w (w.alloc (.cells cs e)) ∧ (∀ b, updF ρ id (some p) b ≠ none → ρ b = none → b = id) := by
  intro p
  have hs' : SatH ρ h (w.alloc (.cells cs e)) := hs.world fun b x q hb hq hl hlt => heap_alloc_old w _ _ hlt
  have hnew := heap_alloc_new w (.cells cs e)
  have := hs'.add hid p ⟨true, d⟩ rfl rfl hcap hm hwf
    (fun i hi j av hav => by
      obtain ⟨c, h1, h2⟩ := hc i hi j av hav
      refine ⟨c, ?_, h2⟩
      rw [show p.addr i j = ⟨w.heap.size, i * d.stride + j, none⟩ from by simp [Pos.addr, p]]
      rw [World.cell?_alloc_new]; exact h1)
    (fun _ _ => ⟨cs, e, hnew, by simpa [p] using hcs, ⟨fun T hT => ⟨(hmk T hT).1, rfl, (hmk T hT).2⟩, RestOk.none rfl⟩⟩)
    (fun b y q hb hq hl _ => by
      have : q.block < w.heap.size := hs.lt hb hq (by rcases hl with h | h; exact .inl h; exact .inr ⟨h.2.2.1, h.2.2.2⟩)
      simp only [p]; omega)
  obtain ⟨h1, h2, h3, h4⟩ := this
  refine ⟨h1, h2, ⟨⟨rfl, rfl, rfl, by simp, fun k hk _ => heap_alloc_old w _ _ hk, fun a _ _ => frozen_alloc w cs e a⟩, fun k hk => ?_, fun k hk => ?_⟩, h4⟩
  · rcases h3 k hk with h5 | ⟨_, _, h5⟩
    · exact .inl h5
    · exact .inr (by simp [p] at h5; omega)
  · rcases liveB_add hk with h5 | ⟨_, h5⟩
    · exact .inl h5
    · exact .inr (by simp [p] at h5; omega)
theorem SatH.row_gone (hs : SatH ρ h w) {b : Nat} {x : Blk} {p : Pos} (hb : h b = some x) (ho : x.own = true) (hp : ρ b = some p) (h0 : 0 < p.cap) (cs : Array Value) :
    SatH ρ (updF h b none) (w.setRow p.block cs) := by
  refine (hs.drop b).world fun c y q hc hq hl hlt => setRow_other w p.block q.block cs ?_
  by_cases e : c = b
  · subst e; rw [updF_same] at hc; cases hc
  · rw [updF_other _ _ _ e] at hc
    exact fun e2 => hs.apart b x p c y q hb ho hp h0 hc hq (Ne.symm e) hl e2.symm
end
end Go.Am
