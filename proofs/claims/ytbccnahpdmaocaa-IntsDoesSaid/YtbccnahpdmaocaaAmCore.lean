/-
  AM: an abstract machine over the model's code: values without addresses (blocks are typed lists, named by numbers), no tape, no world. This text: its words. Nothing here is proved.
-/
import Derived.Calls
import Derived.KernelRfl
namespace Go.Am

/-- decision trees -/
inductive T (α : Type) where
  | bad
  | leaf (a : α)
  | node (b : Bool) (x y : T α)
def T.bind {α β : Type} : T α → (α → T β) → T β
  | .bad, _ => .bad
  | .leaf a, f => f a
  | .node b x y, f => .node b (x.bind f) (y.bind f)
def T.sel {α : Type} : T α → Option α
  | .bad => none
  | .leaf a => some a
  | .node b x y => bif b then x.sel else y.sel
def T.chk {α : Type} (b : Bool) (x : T α) : T α := .node b x .bad

inductive AV where
  | any
  | bool (b : Bool) | int (k : IntKind) (n : Int) | str (s : List UInt8)
  | nilp | ptr (b i j : Nat)
  | nils | slw (b : Nat) | sl (b i n : Nat)
  | nilf | fn (f : FuncId) (caps : List AV)
  | nili | iface (t : TypeId) (v : AV)
  | agg (cs : List AV) | tup (vs : List AV)
  deriving Inhabited
def AV.isCell : AV → Bool
  | .any | .agg _ | .tup _ => false
  | _ => true

structure Tok where
  kind : Int
  text : List UInt8
  pos : Int
  deriving Inhabited, DecidableEq
structure Nod where
  kind : Int
  n : Int
  a : Int
  b : Int
  pos : Int
  deriving Inhabited, DecidableEq
structure Top where
  pos : Int
  size : Int
  depth : Int
  deriving Inhabited, DecidableEq
structure Sgn where
  sign : List UInt8
  line : Int
  deriving Inhabited, DecidableEq
structure Opr where
  kind : Int
  n : Int
  deriving Inhabited, DecidableEq
structure Chn where
  src : Int
  out : Int
  dst : Int
  inp : Int
  room : Int
  deriving Inhabited, DecidableEq

/-- kinds of elements of slices -/
inductive DK where
  | ints (k : IntKind) | bools | strs | toks | nodes | tops | sgns | oprs | chns | gen (stride : Nat)
  deriving Inhabited

inductive Dat where
  | gen (stride : Nat) (rows : List (List AV))
  | ints (k : IntKind) (l : List Int)
  | bools (l : List Bool)
  | strs (l : List (List UInt8))
  | toks (l : List Tok)
  | nodes (l : List Nod)
  | tops (l : List Top)
  | sgns (l : List Sgn)
  | oprs (l : List Opr)
  | chns (l : List Chn)
  deriving Inhabited

def Tok.enc (t : Tok) : List AV := [.int .u8 t.kind, .str t.text, .int .i64 t.pos]
def Nod.enc (x : Nod) : List AV := [.int .u8 x.kind, .int .i64 x.n, .int .i64 x.a, .int .i64 x.b, .int .i64 x.pos]
def Top.enc (x : Top) : List AV := [.int .i64 x.pos, .int .i64 x.size, .int .i64 x.depth]
def Sgn.enc (x : Sgn) : List AV := [.str x.sign, .int .i64 x.line]
def Opr.enc (x : Opr) : List AV := [.int .u8 x.kind, .int .i64 x.n]
def Chn.enc (x : Chn) : List AV := [.int .i64 x.src, .int .i64 x.out, .int .i64 x.dst, .int .i64 x.inp, .int .i64 x.room]
def Tok.dec : List AV → Option Tok
  | [.int .u8 k, .str s, .int .i64 p] => some ⟨k, s, p⟩
  | _ => none
def Nod.dec : List AV → Option Nod
  | [.int .u8 k, .int .i64 n, .int .i64 a, .int .i64 b, .int .i64 p] => some ⟨k, n, a, b, p⟩
  | _ => none
def Top.dec : List AV → Option Top
  | [.int .i64 a, .int .i64 b, .int .i64 p] => some ⟨a, b, p⟩
  | _ => none
def Sgn.dec : List AV → Option Sgn
  | [.str s, .int .i64 p] => some ⟨s, p⟩
  | _ => none
def Opr.dec : List AV → Option Opr
  | [.int .u8 k, .int .i64 p] => some ⟨k, p⟩
  | _ => none
def Chn.dec : List AV → Option Chn
  | [.int .i64 n, .int .i64 a, .int .i64 b, .int .i64 p, .int .i64 r] => some ⟨n, a, b, p, r⟩
  | _ => none
def intDec (k : IntKind) : List AV → Option Int
  | [.int k' n] => bif decide (k' = k) then some n else none
  | _ => none
def boolDec : List AV → Option Bool
  | [.bool n] => some n
  | _ => none
def strDec : List AV → Option (List UInt8)
  | [.str n] => some n
  | _ => none
def genDec (s : Nat) (r : List AV) : Option (List AV) := bif Nat.beq r.length s && r.all AV.isCell then some r else none

def Dat.len : Dat → Nat
  | .gen _ r => r.length | .ints _ l => l.length | .bools l => l.length | .strs l => l.length | .toks l => l.length | .nodes l => l.length
  | .tops l => l.length | .sgns l => l.length | .oprs l => l.length | .chns l => l.length
def Dat.stride : Dat → Nat
  | .gen s _ => s | .ints .. | .bools _ | .strs _ => 1 | .toks _ => 3 | .nodes _ => 5 | .tops _ => 3 | .sgns _ => 2 | .oprs _ => 2 | .chns _ => 5
def Dat.row : Dat → Nat → List AV
  | .gen _ r, i => r.getD i []
  | .ints k l, i => [.int k (l.getD i 0)]
  | .bools l, i => [.bool (l.getD i false)]
  | .strs l, i => [.str (l.getD i [])]
  | .toks l, i => (l.getD i default).enc
  | .nodes l, i => (l.getD i default).enc
  | .tops l, i => (l.getD i default).enc
  | .sgns l, i => (l.getD i default).enc
  | .oprs l, i => (l.getD i default).enc
  | .chns l, i => (l.getD i default).enc
def decAll {α : Type} (f : List AV → Option α) : List (List AV) → Option (List α)
  | [] => some []
  | x :: r => match f x with
    | some y => (decAll f r).map (y :: ·)
    | none => none
def Dat.ofRows : DK → List (List AV) → Option Dat
  | .gen s, r => (decAll (genDec s) r).map (.gen s)
  | .ints k, r => (decAll (intDec k) r).map (.ints k)
  | .bools, r => (decAll boolDec r).map .bools
  | .strs, r => (decAll strDec r).map .strs
  | .toks, r => (decAll Tok.dec r).map .toks
  | .nodes, r => (decAll Nod.dec r).map .nodes
  | .tops, r => (decAll Top.dec r).map .tops
  | .sgns, r => (decAll Sgn.dec r).map .sgns
  | .oprs, r => (decAll Opr.dec r).map .oprs
  | .chns, r => (decAll Chn.dec r).map .chns
def Dat.empty (k : DK) : Dat := (Dat.ofRows k []).getD default
def Dat.append : Dat → Dat → Option Dat
  | .gen s a, .gen t b => bif Nat.beq s t then some (.gen s (a ++ b)) else none
  | .ints k a, .ints k' b => bif decide (k = k') then some (.ints k (a ++ b)) else none
  | .bools a, .bools b => some (.bools (a ++ b))
  | .strs a, .strs b => some (.strs (a ++ b))
  | .toks a, .toks b => some (.toks (a ++ b))
  | .nodes a, .nodes b => some (.nodes (a ++ b))
  | .tops a, .tops b => some (.tops (a ++ b))
  | .sgns a, .sgns b => some (.sgns (a ++ b))
  | .oprs a, .oprs b => some (.oprs (a ++ b))
  | .chns a, .chns b => some (.chns (a ++ b))
  | _, _ => none
def Dat.sub (i n : Nat) : Dat → Dat
  | .gen s l => .gen s ((l.drop i).take n)
  | .ints k l => .ints k ((l.drop i).take n)
  | .bools l => .bools ((l.drop i).take n)
  | .strs l => .strs ((l.drop i).take n)
  | .toks l => .toks ((l.drop i).take n)
  | .nodes l => .nodes ((l.drop i).take n)
  | .tops l => .tops ((l.drop i).take n)
  | .sgns l => .sgns ((l.drop i).take n)
  | .oprs l => .oprs ((l.drop i).take n)
  | .chns l => .chns ((l.drop i).take n)
def Dat.setRow (i : Nat) (row : List AV) : Dat → Option Dat
  | .gen s l => (genDec s row).map fun x => .gen s (l.set i x)
  | .ints k l => (intDec k row).map fun x => .ints k (l.set i x)
  | .bools l => (boolDec row).map fun x => .bools (l.set i x)
  | .strs l => (strDec row).map fun x => .strs (l.set i x)
  | .toks l => (Tok.dec row).map fun x => .toks (l.set i x)
  | .nodes l => (Nod.dec row).map fun x => .nodes (l.set i x)
  | .tops l => (Top.dec row).map fun x => .tops (l.set i x)
  | .sgns l => (Sgn.dec row).map fun x => .sgns (l.set i x)
  | .oprs l => (Opr.dec row).map fun x => .oprs (l.set i x)
  | .chns l => (Chn.dec row).map fun x => .chns (l.set i x)

structure Blk where
  own : Bool
  dat : Dat
  deriving Inhabited
abbrev Heap := Nat → Option Blk
abbrev Upd := List (Nat × Option Blk)
def updF {α : Type} (f : Nat → α) (k : Nat) (v : α) : Nat → α := fun x => bif Nat.beq x k then v else f x
def updW (h : Heap) : Upd → Heap
  | [] => h
  | (b, x) :: r => updW (updF h b x) r

structure AState where
  n : Nat
  t : Nat → AV
  h : Heap
  τ : Nat
def AState.put (st : AState) (d : Option Tmp) (v : AV) : AState :=
  match d with
  | some d => bif Nat.blt d st.n then { st with t := updF st.t d v } else st
  | none => st
inductive AExit where
  | normal | exit (id : Nat) | ret

def globBase : Nat := 1000000000000
structure Env where
  P : Program
  kind : TypeId → DK
  /-- how many package-level variables there are, and what some of them hold -/
  ng : Nat
  glob : Nat → Option Dat

/-- constants -/
def AV.ofCell : Value → AV
  | .bool b => .bool b
  | .int k n => .int k n
  | .string s => .str s.data.toList
  | .pointer none => .nilp
  | .slice none 0 0 => .nils
  | .nilFunc => .nilf
  | .nilIface => .nili
  | _ => .any
def AV.ofVal : Value → AV
  | .agg cs => .agg (cs.toList.map AV.ofCell)
  | .tuple cs => .tup (cs.toList.map AV.ofCell)
  | v => AV.ofCell v
def ev (st : AState) : Operand → AV
  | .tmp t => st.t t
  | .const v => AV.ofVal v
  | .global g => match st.h (globBase + g) with
    | some _ => .ptr (globBase + g) 0 0
    | none => .any
  | .func f => .fn f []

def isAggT (E : Env) (t : TypeId) : Bool := match E.P.underlying t with | some (.struct _) | some (.array _ _) => true | _ => false
def sizeT (E : Env) (t : TypeId) : Option Nat := (E.P.info? t).map (·.size)
def zeroCells (E : Env) (t : TypeId) : Option (List AV) :=
  match E.P.info? t with
  | some i => match i.zero with
    | some v => some (v.cells.toList.map AV.ofCell)
    | none => none
  | none => none
def fieldOf (E : Env) (t : TypeId) (f : Nat) : Option (Nat × TypeId) :=
  match E.P.underlying t with
  | some (.struct fs) => (fs[f]?).map fun x => (x.offset, x.type)
  | _ => none
def AV.cells : AV → List AV
  | .agg cs => cs
  | v => [v]
def descAgg : TypeDesc → Bool
  | .struct _ | .array _ _ => true
  | _ => false
def partOf (E : Env) (t : TypeId) (cs : List AV) (off : Nat) : Option AV :=
  match E.P.underlying t with
  | none => none
  | some d => bif descAgg d then
      match sizeT E t with
      | some s => bif Nat.ble (off + s) cs.length then some (.agg ((cs.drop off).take s)) else none
      | none => none
    else cs[off]?
def setCells (cs : List AV) (off : Nat) : List AV → List AV
  | [] => cs
  | v :: r => setCells (cs.set off v) (off + 1) r
/-- the parts of a literal, one behind the other; every part lies inside -/
def fillCells (place : Nat → Option (Nat × Nat)) (cs : List AV) : List (Nat × List AV) → Option (List AV)
  | [] => some cs
  | (i, v) :: r => match place i with
    | none => none
    | some (off, size) => bif Nat.beq v.length size && Nat.ble (off + v.length) cs.length then fillCells place (setCells cs off v) r else none

def lim : Nat := 1073741824
abbrev Res := T (AV × Upd)
def valR (v : AV) : Res := .leaf (v, [])
def optR : Option AV → Res
  | some v => .leaf (v, [])
  | none => .bad

def intBin (op : BinOp) (k : IntKind) (a b : Int) : Res :=
  match op with
  | .add => valR (.int k (k.wrap (a + b)))
  | .sub => valR (.int k (k.wrap (a - b)))
  | .mul => valR (.int k (k.wrap (a * b)))
  | .quo => .node (decide (b = 0)) .bad (valR (.int k (k.wrap (a.tdiv b))))
  | .rem => .node (decide (b = 0)) .bad (valR (.int k (a.tmod b)))
  | .and => valR (.int k (k.wrap ((BitVec.ofInt k.bits a) &&& (BitVec.ofInt k.bits b)).toNat))
  | .or => valR (.int k (k.wrap ((BitVec.ofInt k.bits a) ||| (BitVec.ofInt k.bits b)).toNat))
  | .xor => valR (.int k (k.wrap ((BitVec.ofInt k.bits a) ^^^ (BitVec.ofInt k.bits b)).toNat))
  | .andNot => valR (.int k (k.wrap ((BitVec.ofInt k.bits a) &&& ~~~(BitVec.ofInt k.bits b)).toNat))
  | .eql => valR (.bool (decide (a = b)))
  | .neq => valR (.bool (!decide (a = b)))
  | .lss => valR (.bool (decide (a < b)))
  | .leq => valR (.bool (decide (a ≤ b)))
  | .gtr => valR (.bool (decide (b < a)))
  | .geq => valR (.bool (decide (b ≤ a)))
  | _ => .bad
def cellEqT (E : Env) (t : TypeId) (x y : AV) : Option Bool :=
  match E.P.underlying t with
  | some (.int _) => match x, y with
    | .int k a, .int k' b => bif decide (k = k') then some (decide (a = b)) else none
    | _, _ => none
  | some .bool => match x, y with
    | .bool a, .bool b => some (a == b)
    | _, _ => none
  | some .string => match x, y with
    | .str a, .str b => some (decide (a = b))
    | _, _ => none
  | _ => none
def eqFields (f : TypeId → AV → AV → Option Bool) (g : TypeId → List AV → Nat → Option AV) (xs ys : List AV) : List Field → Option Bool
  | [] => some true
  | x :: r => bif x.name != "_" then
      match g x.type xs x.offset, g x.type ys x.offset with
      | some a, some b => match f x.type a b with
        | some u => match eqFields f g xs ys r with
          | some v => some (u && v)
          | none => none
        | none => none
      | _, _ => none
    else none
def eqElems (f : AV → AV → Option Bool) (g : List AV → Nat → Option AV) (xs ys : List AV) (s : Nat) : Nat → Nat → Option Bool
  | _, 0 => some true
  | i, n + 1 => match g xs (i * s), g ys (i * s) with
    | some a, some b => match f a b with
      | some u => match eqElems f g xs ys s (i + 1) n with
        | some v => some (u && v)
        | none => none
      | none => none
    | _, _ => none
/-- values of a type without addresses, compared part by part -/
def eqT (E : Env) : Nat → TypeId → AV → AV → Option Bool
  | 0, _, _, _ => none
  | d + 1, t, x, y => match E.P.underlying t with
    | some .bool | some (.int _) | some .string => cellEqT E t x y
    | some (.struct fs) => match x, y with
      | .agg a, .agg b => bif E.P.stoodInHeld t then none else eqFields (eqT E d) (partOf E) a b fs.toList
      | _, _ => none
    | some (.array n e) => match x, y with
      | .agg a, .agg b => match sizeT E e with
        | some s => eqElems (eqT E d e) (partOf E e) a b s 0 n
        | none => none
      | _, _ => none
    | _ => none
def eqAV (E : Env) (t : TypeId) : AV → AV → Option Bool
  | .agg a, .agg b => bif E.P.eqGuardType E.P.depth t then none else eqT E 10 t (.agg a) (.agg b)
  | x, y => match E.P.underlying t with
    | some (.pointer _) => match x, y with
      | .nilp, .nilp => some true | .nilp, .ptr .. => some false | .ptr .., .nilp => some false
      | _, _ => none
    | some (.interface _) => match x, y with
      | .nili, .iface .. => some false | .iface .., .nili => some false
      | _, _ => none
    | some (.func ..) => match x, y with
      | .nilf, .fn .. => some false | .fn .., .nilf => some false
      | _, _ => none
    | some .bool => match x, y with
      | .bool a, .bool b => some (a == b)
      | _, _ => none
    | _ => none
def shiftR (k : IntKind) (n : Int) (b : Int) : Res := .node (decide (0 ≤ b)) (valR (.int k n)) .bad
def binR (E : Env) (op : BinOp) (t : TypeId) (x y : AV) : Res :=
  match x, y with
  | .int kx a, .int ky b =>
    match op with
    | .shl => shiftR kx (kx.wrap (a * 2 ^ (min b.toNat kx.bits))) b
    | .shr => shiftR kx (a.fdiv (2 ^ (min b.toNat kx.bits))) b
    | op => bif decide (kx = ky) then intBin op kx a b else .bad
  | .str a, .str b =>
    match op with
    | .add => .node (decide (a.length + b.length ≤ lim)) (valR (.str (a ++ b))) .bad
    | .eql => valR (.bool (decide (a = b)))
    | .neq => valR (.bool (!decide (a = b)))
    | _ => .bad
  | x, y =>
    match op with
    | .eql => optR ((eqAV E t x y).map .bool)
    | .neq => optR ((eqAV E t x y).map fun b => .bool (!b))
    | _ => .bad

def datOf (h : Heap) : AV → Option Dat
  | .slw b => (h b).map (·.dat)
  | .sl b i n => (h b).map fun x => x.dat.sub i n
  | _ => none
def slLen (h : Heap) : AV → Option Nat
  | .slw b => (h b).map (·.dat.len)
  | .sl _ _ n => some n
  | .nils => some 0
  | _ => none
/-- the element that an index names: block, element -/
def slAt (v : AV) (i : Nat) : Option (Nat × Nat) :=
  match v with
  | .slw b => some (b, i)
  | .sl b o _ => some (b, o + i)
  | _ => none

def loadR (E : Env) (h : Heap) (t : TypeId) (a : AV) : Res :=
  match a with
  | .ptr b i j => match h b with
    | some x => .node (decide (i < x.dat.len)) (optR (partOf E t (x.dat.row i) j)) .bad
    | none => .bad
  | _ => .bad
def storeR (E : Env) (h : Heap) (t : TypeId) (a v : AV) : Res :=
  match a with
  | .ptr b i j => match h b with
    | some x => bif x.own && v.cells.all AV.isCell && decide (sizeT E t = some v.cells.length) && Nat.ble (j + v.cells.length) x.dat.stride then
        match x.dat.setRow i (setCells (x.dat.row i) j v.cells) with
        | some d => .node (decide (i < x.dat.len)) (.leaf (.any, [(b, some ⟨true, d⟩)])) .bad
        | none => .bad
      else .bad
    | none => .bad
  | _ => .bad
def newR (id : Nat) (cs : List AV) : Res :=
  bif cs.all AV.isCell then .leaf (.ptr id 0 0, [(id, some ⟨true, .gen cs.length [cs]⟩)]) else .bad
def indexAddrR (E : Env) (h : Heap) (t : TypeId) (x ix : AV) : Res :=
  match ix with
  | .int _ i => match E.P.underlying t with
    | some (.array n et) => match x with
      | .ptr b e j => match sizeT E et with
        | some s => .node (decide (0 ≤ i ∧ i < (n : Int))) (valR (.ptr b e (j + i.toNat * s))) .bad
        | none => .bad
      | _ => .bad
    | some (.slice et) => match slLen h x with
      | some n => match slAt x i.toNat with
        | some (b, e) => match h b with
          | some blk => bif decide (sizeT E et = some blk.dat.stride) then .node (decide (0 ≤ i ∧ i < (n : Int))) (valR (.ptr b e 0)) .bad else .bad
          | none => .bad
        | none => .bad
      | none => .bad
    | _ => .bad
  | _ => .bad
def indexR (E : Env) (t : TypeId) (x ix : AV) : Res :=
  match ix with
  | .int _ i => match E.P.underlying t with
    | some .string => match x with
      | .str s => .node (decide (0 ≤ i ∧ i < (s.length : Int))) (valR (.int .u8 (s.getD i.toNat 0).toNat)) .bad
      | _ => .bad
    | some (.array n e) => match x with
      | .agg cs => match sizeT E e with
        | some s => .node (decide (0 ≤ i ∧ i < (n : Int))) (optR (partOf E e cs (i.toNat * s))) .bad
        | none => .bad
      | _ => .bad
    | _ => .bad
  | _ => .bad
def boundOf : Option AV → Option (Option Int)
  | none => some none
  | some (.int _ n) => some (some n)
  | _ => none
def sliceR (E : Env) (h : Heap) (t : TypeId) (x : AV) (lo hi : Option AV) : Res :=
  match boundOf lo, boundOf hi with
  | some lo, some hi =>
    let l := lo.getD 0
    match E.P.underlying t with
    | some .string => match x with
      | .str s => match hi with
        | none => .node (decide (0 ≤ l ∧ l ≤ (s.length : Int))) (valR (.str (s.drop l.toNat))) .bad
        | some u => .node (decide (0 ≤ l ∧ l ≤ u ∧ u ≤ (s.length : Int))) (valR (.str ((s.take u.toNat).drop l.toNat))) .bad
      | _ => .bad
    | some (.slice et) => match slLen h x with
      | some n => match slAt x l.toNat with
        | some (b, e) => match h b with
          | some blk => bif decide (sizeT E et = some blk.dat.stride) then match hi with
            | none => .node (decide (0 ≤ l ∧ l ≤ (n : Int))) (valR (.sl b e (n - l.toNat))) .bad
            | some u => .node (decide (0 ≤ l ∧ l ≤ u ∧ u ≤ (n : Int))) (valR (.sl b e (u.toNat - l.toNat))) .bad
            else .bad
          | none => .bad
        | none => .bad
      | none => .bad
    | _ => .bad
  | _, _ => .bad
def appendR (E : Env) (h : Heap) (id : Nat) (t : TypeId) (x y : AV) : Res :=
  match E.P.underlying t with
  | some (.slice et) =>
    match (match y with | .str s => some (Dat.ints .u8 (s.map fun (c : UInt8) => (c.toNat : Int))) | .nils => some (Dat.empty (E.kind et)) | y => datOf h y) with
    | none => .bad
    | some d =>
      match E.P.info? et with
      | none => .bad
      | some i => bif Nat.beq i.size d.stride && Nat.blt 0 i.size && Nat.ble i.bytes 4096 && (match i.zero with | some z => Nat.beq z.cells.size i.size | none => false) then
        match x with
        | .nils => .node (decide (d.len ≤ lim)) (.leaf (.slw id, [(id, some ⟨true, d⟩)])) .bad
        | x => match slAt x 0 with
          | some (b, 0) => match datOf h x, h b with
            | some d0, some blk => match Dat.append d0 d with
              | some d' => bif blk.own then .node (decide (d0.len + d.len ≤ lim)) (.leaf (.slw id, [(b, none), (id, some ⟨true, d'⟩)])) .bad else .bad
              | none => .bad
            | _, _ => .bad
          | _ => .bad
        else .bad
  | _ => .bad
def placesOf (E : Env) : List Field → Option (List (Nat × Nat))
  | [] => some []
  | f :: r => match sizeT E f.type with
    | some s => (placesOf E r).map ((f.offset, s) :: ·)
    | none => none
def buildR (E : Env) (t : TypeId) (parts : List (Nat × AV)) : Res :=
  bif parts.all (fun p => p.2.cells.all AV.isCell) then
    match zeroCells E t with
    | none => .bad
    | some z => match E.P.underlying t with
      | some (.struct fs) => match placesOf E fs.toList with
        | some ps => optR ((fillCells (fun i => ps[i]?) z (parts.map fun p => (p.1, p.2.cells))).map .agg)
        | none => .bad
      | some (.array _ e) => match sizeT E e with
        | some s => optR ((fillCells (fun i => some (i * s, s)) z (parts.map fun p => (p.1, p.2.cells))).map .agg)
        | none => .bad
      | _ => .bad
  else .bad
def zeroRow (z : List AV) (n : Nat) : List AV := (List.range n).map fun i => z.getD (i % z.length) .any
def chop (s : Nat) : Nat → List AV → List (List AV)
  | 0, _ => []
  | n + 1, l => l.take s :: chop s n (l.drop s)
def buildSliceR (E : Env) (id : Nat) (t : TypeId) (n : Nat) (parts : List (Nat × AV)) : Res :=
  match E.P.underlying t with
  | some (.slice e) => match zeroCells E e, sizeT E e with
    | some z, some s =>
      match fillCells (fun i => some (i * s, s)) (zeroRow z (n * s)) (parts.map fun p => (p.1, p.2.cells)) with
      | none => .bad
      | some cs => bif parts.all (fun p => p.2.cells.all AV.isCell) && Nat.beq z.length s && Nat.blt 0 s && Nat.ble (n * s) 1000000 then
          match Dat.ofRows (E.kind e) (chop s n cs) with
          | some d => bif Nat.beq d.stride s then .leaf (.slw id, [(id, some ⟨true, d⟩)]) else .bad
          | none => .bad
        else .bad
    | _, _ => .bad
  | _ => .bad
def Dat.rep (n : Nat) : Dat → Dat
  | .gen s l => .gen s (List.replicate n (l.getD 0 []))
  | .ints k l => .ints k (List.replicate n (l.getD 0 0))
  | .bools l => .bools (List.replicate n (l.getD 0 false))
  | .strs l => .strs (List.replicate n (l.getD 0 []))
  | .toks l => .toks (List.replicate n (l.getD 0 default))
  | .nodes l => .nodes (List.replicate n (l.getD 0 default))
  | .tops l => .tops (List.replicate n (l.getD 0 default))
  | .sgns l => .sgns (List.replicate n (l.getD 0 default))
  | .oprs l => .oprs (List.replicate n (l.getD 0 default))
  | .chns l => .chns (List.replicate n (l.getD 0 default))
def makeSliceR (E : Env) (id : Nat) (t : TypeId) (l c : AV) : Res :=
  match l, c with
  | .int _ n, .int _ m => match E.P.underlying t with
    | some (.slice e) => match E.P.info? e, zeroCells E e with
      | some i, some z => match Dat.ofRows (E.kind e) [z] with
        | some d1 => bif Nat.beq i.size d1.stride && Nat.blt 0 i.size && Nat.ble i.bytes 4096 then
            .node (decide (0 ≤ n ∧ n ≤ (lim : Int) ∧ n = m)) (.leaf (.slw id, [(id, some ⟨true, d1.rep n.toNat⟩)])) .bad
          else .bad
        | none => .bad
      | _, _ => .bad
    | _ => .bad
  | _, _ => .bad

def appOk (E : Env) (t u : TypeId) (y : AV) : Bool :=
  match y with
  | .str _ => (match E.P.underlying u with | some .string => true | _ => false)
  | _ => decide (t = u)
abbrev CallR := FuncId → List AV → Heap → Nat → Res

/-- one operation -/
def exR (E : Env) (C : CallR) (o : Oper) (id : Nat) (e : Operand → AV) (h : Heap) : Res :=
  match o.op with
  | .move x | .assign x => valR (e x)
  | .pick c a b => match e c with
    | .bool c => match e a, e b with
      | .bool x, .bool y => valR (.bool (bif c then x else y))
      | x, y => .node c (valR x) (valR y)
    | _ => .bad
  | .extract x i => match e x with
    | .tup vs => optR vs[i]?
    | _ => .bad
  | .binOp op t x y _ => binR E op t (e x) (e y)
  | .unOp op _ x => match op, e x with
    | .not, .bool b => valR (.bool (!b))
    | .neg, .int kd n => valR (.int kd (kd.wrap (0 - n)))
    | _, _ => .bad
  | .convert s d x => match E.P.underlying s, E.P.underlying d, e x with
    | some (.int _), some (.int kd), .int _ n => valR (.int kd (kd.wrap n))
    | some .string, some .string, .str s => valR (.str s)
    | _, _, _ => .bad
  | .nilCheck x => match e x with
    | .ptr b i j => valR (.ptr b i j)
    | .fn f c => valR (.fn f c)
    | _ => .bad
  | .makeFunc (.func f) first caps => match first.toList with
    | [] => valR (.fn f (caps.toList.map e))
    | _ => .bad
  | .makeInterface t x => match E.P.underlying t with
    | some (.interface _) => .bad
    | some _ => valR (.iface t (e x))
    | none => .bad
  | .alloc t => match zeroCells E t with
    | some cs => newR id cs
    | none => .bad
  | .box _ x => newR id (e x).cells
  | .build t parts => buildR E t (parts.toList.map fun p => (p.1, e p.2))
  | .buildSlice t n parts => buildSliceR E id t n (parts.toList.map fun p => (p.1, e p.2))
  | .load t a => loadR E h t (e a)
  | .store t a v => storeR E h t (e a) (e v)
  | .fieldAddr t x f => match e x with
    | .ptr b i j => match fieldOf E t f with
      | some (off, ft) => match sizeT E ft with
        | some (_ + 1) => valR (.ptr b i (j + off))
        | _ => .bad
      | none => .bad
    | _ => .bad
  | .field t x f => match e x with
    | .agg cs => match fieldOf E t f with
      | some (off, ft) => optR (partOf E ft cs off)
      | none => .bad
    | _ => .bad
  | .indexAddr t x ix => indexAddrR E h t (e x) (e ix)
  | .index t x ix => indexR E t (e x) (e ix)
  | .slice t x lo hi none => sliceR E h t (e x) (lo.map e) (hi.map e)
  | .makeSlice t l c => makeSliceR E id t (e l) (e c)
  | .call c => match c.callee with
    | .value f => match e f with
      | .fn g caps => C g (c.args.toList.map e ++ caps) h id
      | _ => .bad
    | .builtin b => match b, c.argTypes.toList, c.args.toList.map e with
      | .len, [t], [x] => match E.P.underlying t with
        | some .string => match x with
          | .str s => valR (.int .i64 s.length)
          | _ => .bad
        | some (.slice _) => match slLen h x with
          | some n => valR (.int .i64 n)
          | none => .bad
        | _ => .bad
      | .append, [t, u], [x, y] => bif appOk E t u y then appendR E h id t x y else .bad
      | .max, _, [.int kd a, .int _ b] => valR (.int kd (if b > a then b else a))
      | .min, _, [.int kd a, .int _ b] => valR (.int kd (if b < a then b else a))
      | _, _, _ => .bad
    | _ => .bad
  | _ => .bad

def idBase (st : AState) : Nat := st.τ * 4096
def step1 (E : Env) (C : CallR) (o : Oper) (i : Nat) (st : AState) : T AState :=
  (exR E C o ((idBase st + i) * 64) (ev st) st.h).bind fun r => .leaf ({ st with h := updW st.h r.2 }.put o.dst r.1)
def guardTmp (ops : Array Oper) (j : Nat) : Option Tmp := (ops[j]?).bind (·.dst)
/-- operations, one behind the other -/
def opsT (E : Env) (C : CallR) (ops : Array Oper) : List Nat → AState → T AState
  | [], st => .leaf st
  | i :: rest, st => match ops[i]? with
    | none => .bad
    | some o => match o.guard with
      | none => (step1 E C o i st).bind fun st => opsT E C ops rest st
      | some (j, want) => match guardTmp ops j with
        | none => .bad
        | some d => match st.t d with
          | .bool b =>
            match want with
            | true => .node b ((step1 E C o i (st.put (some d) (.bool true))).bind fun st => opsT E C ops rest st)
                (opsT E C ops rest ((st.put (some d) (.bool false)).put o.dst .any))
            | false => .node b (opsT E C ops rest ((st.put (some d) (.bool true)).put o.dst .any))
                ((step1 E C o i (st.put (some d) (.bool false))).bind fun st => opsT E C ops rest st)
          | _ => .bad

def firstRegion : Code → Nat
  | .region id _ _ => id
  | .seq a _ => firstRegion a
  | .block _ a => firstRegion a
  | .loop a => firstRegion a
  | _ => 0
def opsDst (ops : Array Oper) : List Nat → List Nat
  | [] => []
  | i :: r => match (ops[i]?).bind (·.dst) with
    | some d => d :: opsDst ops r
    | none => opsDst ops r
/-- the slots that a piece of code may write -/
def writes : Code → List Nat
  | .region _ ops _ => opsDst ops (List.range ops.size)
  | .seq a b => writes a ++ writes b
  | .cond _ a b => writes a ++ writes b
  | .block _ a => writes a
  | .loop a => writes a
  | _ => []
abbrev LoopR := Nat → AState → T (AExit × AState)
def drawOk (_ops : Array Oper) : Bool := false

def run (E : Env) (C : CallR) (L : LoopR) : Code → AState → T (AExit × AState)
  | .skip, st => .leaf (.normal, st)
  | .region _ ops draw, st => bif (!draw || drawOk ops) && Nat.ble ops.size 4096 && Nat.blt st.τ 1000000 then
      (opsT E C ops (List.range ops.size) st).bind fun st => .leaf (.normal, { st with τ := st.τ + 1 })
    else .bad
  | .seq a b, st => (run E C L a st).bind fun r => match r.1 with
    | .normal => run E C L b r.2
    | e => .leaf (e, r.2)
  | .cond c a b, st => match ev st c with
    | .bool v => .node v (run E C L a st) (run E C L b st)
    | _ => .bad
  | .block id a, st => (run E C L a st).bind fun r => match r.1 with
    | .exit j => bif Nat.beq j id then .leaf (.normal, r.2) else .leaf (.exit j, r.2)
    | e => .leaf (e, r.2)
  | .loop a, st => L (firstRegion a) st
  | .exit id, st => .leaf (.exit id, st)
  | .ret, st => .leaf (.ret, st)
  | _, _ => .bad

/-! functions -/
/-- deep values: what a function takes and gives, without addresses -/
inductive RC where
  | any | bool (b : Bool) | int (k : IntKind) (n : Int) | str (s : List UInt8) | nilp | nili | nilf | sl (d : Dat) | fn (f : FuncId) | ifc (t : TypeId)
  deriving Inhabited
inductive RA where
  | c (x : RC) | agg (l : List RC)
  deriving Inhabited
inductive RV where
  | one (x : RA) | tup (l : List RA)
  deriving Inhabited

def impC (id : Nat) : RC → AV × List Dat
  | .any => (.any, []) | .bool b => (.bool b, []) | .int k n => (.int k n, []) | .str s => (.str s, []) | .nilp => (.nilp, []) | .nili => (.nili, []) | .nilf => (.nilf, [])
  | .sl d => (.slw id, [d]) | .fn f => (.fn f [], []) | .ifc t => (.iface t .any, [])
def impCs (id : Nat) : List RC → List AV × List Dat
  | [] => ([], [])
  | x :: r => match impC id x with
    | (a, ds) => match impCs (id + ds.length) r with
      | (as, es) => (a :: as, ds ++ es)
def impA (id : Nat) : RA → AV × List Dat
  | .c x => impC id x
  | .agg l => match impCs id l with | (as, ds) => (.agg as, ds)
def impAs (id : Nat) : List RA → List AV × List Dat
  | [] => ([], [])
  | x :: r => match impA id x with
    | (a, ds) => match impAs (id + ds.length) r with
      | (as, es) => (a :: as, ds ++ es)
def impV (id : Nat) : RV → AV × List Dat
  | .one x => impA id x
  | .tup l => match impAs id l with | (as, ds) => (.tup as, ds)
def updsOf (own : Bool) (id : Nat) : List Dat → Upd
  | [] => []
  | d :: r => (id, some ⟨own, d⟩) :: updsOf own (id + 1) r

def AV.isScalar : AV → Bool
  | .bool _ | .int .. | .str _ | .nilp | .nils | .nilf | .nili => true
  | _ => false
def Dat.plain : Dat → Bool
  | .gen _ rows => rows.all fun r => r.all AV.isScalar
  | _ => true
def flatTys (E : Env) : Nat → TypeId → List TypeId
  | 0, _ => []
  | d + 1, t => match E.P.underlying t with
    | some (.struct fs) => fs.toList.flatMap fun f => flatTys E d f.type
    | some (.array n e) => (List.replicate n (flatTys E d e)).flatten
    | _ => [t]
/-- a cell, told deeply, and the block that it leads to -/
def expC (E : Env) (h : Heap) (t : TypeId) : AV → Option (RC × List Nat)
  | .any => some (.any, []) | .bool b => some (.bool b, []) | .int k n => some (.int k n, []) | .str s => some (.str s, [])
  | .nilp => some (.nilp, []) | .nili => some (.nili, []) | .nilf => some (.nilf, [])
  | .nils => match E.P.underlying t with
    | some (.slice e) => some (.sl (Dat.empty (E.kind e)), [])
    | _ => none
  | .slw b => match h b with
    | some x => bif x.dat.plain then some (.sl x.dat, [b]) else none
    | none => none
  | .sl b i n => match h b with
    | some x => bif x.dat.plain then some (.sl (x.dat.sub i n), [b]) else none
    | none => none
  | .fn f [] => some (.fn f, [])
  | .iface t _ => some (.ifc t, [])
  | _ => none
def expCs (E : Env) (h : Heap) : List TypeId → List AV → Option (List RC × List Nat)
  | _, [] => some ([], [])
  | t :: ts, a :: as => match expC E h t a with
    | some (x, ps) => match expCs E h ts as with
      | some (xs, qs) => some (x :: xs, ps ++ qs)
      | none => none
    | none => none
  | [], _ => none
def expA (E : Env) (h : Heap) (t : TypeId) : AV → Option (RA × List Nat)
  | .agg cs => match expCs E h (flatTys E 8 t) cs with
    | some (xs, ps) => some (.agg xs, ps)
    | none => none
  | a => match expC E h t a with
    | some (x, ps) => some (.c x, ps)
    | none => none
def expAs (E : Env) (h : Heap) : List TypeId → List AV → Option (List RA × List Nat)
  | [], [] => some ([], [])
  | t :: ts, a :: as => match expA E h t a with
    | some (x, ps) => match expAs E h ts as with
      | some (xs, qs) => some (x :: xs, ps ++ qs)
      | none => none
    | none => none
  | _, _ => none

abbrev FSpec := List RA → T RV
/-- calls by what is known of them -/
def specC (E : Env) (S : FuncId → Option FSpec) : CallR := fun f args h id =>
  match S f with
  | none => .bad
  | some s => match E.P.funcs[f]? with
    | none => .bad
    | some fn => match expAs E h fn.params.toList args with
      | none => .bad
      | some (ras, _) => (s ras).bind fun r => match impV id r with
        | (a, ds) => bif Nat.ble ds.length 64 then .leaf (a, updsOf true id ds) else .bad

def resultsR (E : Env) (st : AState) : List ResultVar → T (List AV)
  | [] => .leaf []
  | .tmp t :: r => (resultsR E st r).bind fun l => .leaf (st.t t :: l)
  | .cell a t :: r => (loadR E st.h t (st.t a)).bind fun p => (resultsR E st r).bind fun l => .leaf (p.1 :: l)
def ownAll (h : Heap) : List Nat → Bool
  | [] => true
  | b :: r => (match h b with | some x => x.own | none => false) && ownAll h r
def nodupB : List Nat → Bool
  | [] => true
  | b :: r => !(r.any (Nat.beq b)) && nodupB r
def oneOrTup : List RA → RV
  | [x] => .one x
  | l => .tup l
def startH (E : Env) (ds : List Dat) : Heap := fun b =>
  bif Nat.ble globBase b then (E.glob (b - globBase)).map (Blk.mk false) else (ds[b]?).map (Blk.mk false)
def listT : List AV → Nat → AV
  | [], _ => .any
  | v :: _, 0 => v
  | _ :: r, k + 1 => listT r k
def startSt (E : Env) (fn : Func) (ras : List RA) : AState :=
  { n := fn.ntmps, t := listT (impAs 0 ras).1, h := startH E (impAs 0 ras).2, τ := 1 }
def endR (E : Env) (fn : Func) (r : AExit × AState) : T RV :=
  match r.1 with
  | .exit _ => .bad
  | _ => (resultsR E r.2 fn.results.toList).bind fun l => match expAs E r.2.h fn.resultTypes.toList l with
    | some (xs, ps) => bif ownAll r.2.h ps && nodupB ps then .leaf (oneOrTup xs) else .bad
    | none => .bad
/-- a function by its text -/
def fnRun (E : Env) (C : CallR) (L : LoopR) (fn : Func) (c : Code) (ras : List RA) : T RV :=
  bif Nat.ble (impAs 0 ras).1.length fn.ntmps && Nat.ble (impAs 0 ras).2.length 1000 then (run E C L c (startSt E fn ras)).bind (endR E fn) else .bad

/-! loops -/
structure LSig where
  /-- slots that a turn may change: their slices are the state's own -/
  mv : List (Nat × TypeId)
  /-- slots that the loop reads and does not write -/
  cs : List (Nat × TypeId)
  /-- slots that are told behind the loop -/
  mo : List (Nat × TypeId)
abbrev LSpec := List RA → List RA → T (AExit × List RA)
def slotTys (l : List (Nat × TypeId)) : List TypeId := l.map (·.2)
def slotAVs (st : AState) (l : List (Nat × TypeId)) : List AV := l.map fun p => st.t p.1
def putAll : List (Nat × TypeId) → List AV → (Nat → AV) → Nat → AV
  | p :: l, a :: as, t => putAll l as (updF t p.1 a)
  | _, _, t => t
def expOwn (E : Env) (st : AState) (l : List (Nat × TypeId)) : T (List RA) :=
  match expAs E st.h (slotTys l) (slotAVs st l) with
  | some (xs, bs) => bif ownAll st.h bs && nodupB bs then .leaf xs else .bad
  | none => .bad
def loopSt (E : Env) (n : Nat) (sg : LSig) (m c : List RA) : AState :=
  { n := n
    t := putAll sg.mv (impAs (impAs 0 c).2.length m).1 (putAll sg.cs (impAs 0 c).1 fun _ => .any)
    h := updW (startH E (impAs 0 c).2) (updsOf true (impAs 0 c).2.length (impAs (impAs 0 c).2.length m).2)
    τ := 1 }
/-- one turn -/
def turn (E : Env) (C : CallR) (L : LoopR) (n : Nat) (sg : LSig) (body : Code) (m c : List RA) : T (AExit × List RA) :=
  bif Nat.ble ((impAs 0 c).2.length + (impAs (impAs 0 c).2.length m).2.length) 1000 then
    (run E C L body (loopSt E n sg m c)).bind fun r => match r.1 with
      | .normal => (expOwn E r.2 sg.mv).bind fun y => .leaf (.normal, y)
      | e => (expOwn E r.2 sg.mo).bind fun y => .leaf (e, y)
  else .bad
def turns (E : Env) (C : CallR) (L : LoopR) (n : Nat) (sg : LSig) (body : Code) : Nat → LSpec
  | 0, _, _ => .bad
  | k + 1, m, c => (turn E C L n sg body m c).bind fun r => match r.1 with
    | .normal => turns E C L n sg body k r.2 c
    | e => .leaf (e, r.2)
def disj (as bs : List Nat) : Bool := as.all fun a => !(bs.any (Nat.beq a))
def dropAll (h : Heap) (bs : List Nat) : Heap := fun b => bif bs.any (Nat.beq b) then none else h b
def anyOn (wr : List Nat) (t : Nat → AV) : Nat → AV := fun i => bif wr.any (Nat.beq i) then .any else t i
/-- a loop by what is known of it -/
def useL (E : Env) (sg : LSig) (s : LSpec) (wr : List Nat) (st : AState) : T (AExit × AState) :=
  match expAs E st.h (slotTys sg.mv) (slotAVs st sg.mv), expAs E st.h (slotTys sg.cs) (slotAVs st sg.cs) with
  | some (ms, mb), some (cs, cb) =>
    bif ownAll st.h mb && nodupB mb && disj mb cb && Nat.blt st.τ 1000000 then
      (s ms cs).bind fun r => match impAs (st.τ * 262144) r.2 with
        | (as, ds) => bif Nat.ble ds.length 64 then
            .leaf (r.1, { st with t := putAll sg.mo as (anyOn wr st.t), h := updW (dropAll st.h mb) (updsOf true (st.τ * 262144) ds), τ := st.τ + 1 })
          else .bad
    else .bad
  | _, _ => .bad

end Go.Am
