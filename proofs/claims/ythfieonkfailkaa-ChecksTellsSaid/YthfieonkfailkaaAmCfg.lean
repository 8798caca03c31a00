/-
  AM3: what calls and loops take and give: values over blocks that are numbered anew (in the order in which they are met). Definitions.
-/
import Derived.Test.YthfieonkfailkaaAmRun2
namespace Go.Am

/-- a block that is told: where it is from (none: of a nil slice), from which element on, whether a pointer leads there; whether it is given away, and what lies there -/
structure Ent where
  src : Option Nat
  i : Nat
  box : Bool
  blk : Blk
def srcIs (b : Nat) : Option Nat → Bool
  | some c => Nat.beq c b
  | none => false
def boxAt (b : Nat) : List Ent → Nat → Option Nat
  | [], _ => none
  | e :: r, k => bif e.box && srcIs b e.src then some k else boxAt b r (k + 1)
/-- entry, by pointer, own: is it given away? -/
abbrev Fl := Nat → Bool → Bool → Bool
def gas : Nat := 60
mutual
def visA (E : Env) (h : Heap) (fl : Fl) : Nat → TypeId → AV → List Ent → Option (AV × List Ent)
  | 0, _, _, _ => none
  | g + 1, t, a, es => match a with
    | .any => some (.any, es) | .bool b => some (.bool b, es) | .int k n => some (.int k n, es) | .str s => some (.str s, es)
    | .nilp => some (.nilp, es) | .nili => some (.nili, es) | .nilf => some (.nilf, es)
    | .nils => match E.P.underlying t with
      | some (.slice e) => some (.slw es.length, es ++ [⟨none, 0, false, ⟨fl es.length false true, Dat.empty (E.kind e)⟩⟩])
      | _ => some (.nils, es)
    | .slw b => match h b with
      | some x => bif fl es.length false x.own then (match boxAt b es 0 with
          | some k => some (.slw k, es)
          | none => some (.slw es.length, es ++ [⟨some b, 0, true, ⟨fl es.length true x.own, x.dat⟩⟩]))
        else some (.slw es.length, es ++ [⟨some b, 0, false, ⟨fl es.length false x.own, x.dat⟩⟩])
      | none => none
    | .sl b i n => match h b with
      | some x => bif fl es.length false x.own then (match boxAt b es 0 with
          | some k => some (.sl k i n, es)
          | none => some (.sl es.length i n, es ++ [⟨some b, 0, true, ⟨fl es.length true x.own, x.dat⟩⟩]))
        else some (.slw es.length, es ++ [⟨some b, i, false, ⟨fl es.length false x.own, x.dat.sub i n⟩⟩])
      | none => none
    | .ptr b 0 0 => match boxAt b es 0 with
      | some k => some (.ptr k 0 0, es)
      | none => match h b with
        | some x => some (.ptr es.length 0 0, es ++ [⟨some b, 0, true, ⟨fl es.length true x.own, x.dat⟩⟩])
        | none => none
    | .fn f us cs => match visL E h fl g [] us es with
      | some (us, es) => match visL E h fl g [] cs es with
        | some (cs, es) => some (.fn f us cs, es)
        | none => none
      | none => none
    | .iface u x => match visA E h fl g u x es with
      | some (x, es) => some (.iface u x, es)
      | none => none
    | .agg cs => match visL E h fl g (flatTys E 8 t) cs es with
      | some (cs, es) => some (.agg cs, es)
      | none => none
    | _ => none
def visL (E : Env) (h : Heap) (fl : Fl) : Nat → List TypeId → List AV → List Ent → Option (List AV × List Ent)
  | _, _, [], es => some ([], es)
  | 0, _, _ :: _, _ => none
  | g + 1, ts, a :: as, es => match visA E h fl g (ts.headD 0) a es with
    | some (a, es) => match visL E h fl g ts.tail as es with
      | some (as, es) => some (a :: as, es)
      | none => none
    | none => none
end
def visRows (E : Env) (h : Heap) (fl : Fl) (tys : List TypeId) : List (List AV) → List Ent → Option (List (List AV) × List Ent)
  | [], es => some ([], es)
  | r :: rs, es => match visL E h fl gas tys r es with
    | some (r, es) => match visRows E h fl tys rs es with
      | some (rs, es) => some (r :: rs, es)
      | none => none
    | none => none
def visD (E : Env) (h : Heap) (fl : Fl) : Dat → List Ent → Option (Dat × List Ent)
  | .gen tys rows, es => match visRows E h fl tys rows es with
    | some (rows, es) => some (.gen tys rows, es)
    | none => none
  | d, es => some (d, es)
/-- the blocks, one behind the other -/
def visGo (E : Env) (h : Heap) (fl : Fl) : Nat → Nat → List Ent → Option (List Blk × List Ent)
  | 0, _, _ => none
  | f + 1, k, es => match es[k]? with
    | none => some ([], es)
    | some e => match visD E h fl e.blk.dat es with
      | some (d, es) => match visGo E h fl f (k + 1) es with
        | some (bs, es) => some (⟨e.blk.own, d⟩ :: bs, es)
        | none => none
      | none => none
def clashE (a b : Ent) : Bool := (a.blk.own || b.blk.own) && match a.src, b.src with | some x, some y => Nat.beq x y | _, _ => false
/-- what is given away is the state's own, and told once -/
def entsOk (h : Heap) : List Ent → Bool
  | [] => true
  | x :: r => (match x.src with | some b => (match h b with | some y => !x.blk.own || y.own | none => false) | none => true) && r.all (fun y => !clashE x y) && entsOk h r
/-- values, told: their blocks numbered anew -/
def expAll (E : Env) (h : Heap) (fl : Fl) (ts : List TypeId) (vs : List AV) : Option (List AV × List Blk × List Ent) :=
  match visL E h fl gas ts vs [] with
  | some (vs, es) => match visGo E h fl 200 0 es with
    | some (bs, es) => bif entsOk h es && Nat.ble bs.length 1000 then some (vs, bs, es) else none
    | none => none
  | none => none
/-- boxes are given away where they are own; slices where the list says so -/
def takeFl (take : List Nat) : Fl := fun k box own => bif box then own else memb take k
def keepFl : Fl := fun _ _ own => own

mutual
/-- the own boxes that values lead to by themselves -/
def persA (bs : List Blk) : AV → List Nat → List Nat
  | .ptr k _ _, acc => match bs[k]? with
    | some x => bif x.own && !memb acc k then acc ++ [k] else acc
    | none => acc
  | .fn _ us cs, acc => persL bs cs (persL bs us acc)
  | .iface _ x, acc => persA bs x acc
  | .agg cs, acc => persL bs cs acc
  | _, acc => acc
def persL (bs : List Blk) : List AV → List Nat → List Nat
  | [], acc => acc
  | a :: r, acc => persL bs r (persA bs a acc)
end
def pers (vs : List AV) (bs : List Blk) : List Nat := persL bs vs []

mutual
/-- values under other names -/
def renA (f : Nat → Nat) : AV → AV
  | .ptr b i j => .ptr (f b) i j
  | .slw b => .slw (f b)
  | .sl b i n => .sl (f b) i n
  | .fn g us cs => .fn g (renL f us) (renL f cs)
  | .iface t x => .iface t (renA f x)
  | .agg cs => .agg (renL f cs)
  | .tup cs => .tup (renL f cs)
  | .any => .any | .bool b => .bool b | .int k n => .int k n | .str s => .str s | .nilp => .nilp | .nils => .nils | .nilf => .nilf | .nili => .nili
def renL (f : Nat → Nat) : List AV → List AV
  | [] => []
  | a :: r => renA f a :: renL f r
end
def renD (f : Nat → Nat) : Dat → Dat
  | .gen tys rows => .gen tys (rows.map (renL f))
  | d => d
def renB (f : Nat → Nat) (x : Blk) : Blk := ⟨x.own, renD f x.dat⟩

/-- the name of a told box -/
def srcOf (es : List Ent) (k : Nat) : Nat := match es[k]? with
  | some e => e.src.getD 0
  | none => 0
/-- the lent boxes are told as such, each once -/
def persOk (es : List Ent) : List Nat → Bool
  | [] => true
  | k :: r => (match es[k]? with | some e => e.box && e.blk.own && e.src.isSome | none => false) && !memb r k && persOk es r
/-- names of what is given back: the boxes that were lent, then new ones -/
def backN (es : List Ent) (P : List Nat) (id : Nat) (k : Nat) : Nat := match P[k]? with
  | some j => srcOf es j
  | none => id + k
def dropOwn : List Ent → Upd
  | [] => []
  | e :: r => match e.src with
    | some b => bif e.blk.own then (b, none) :: dropOwn r else dropOwn r
    | none => dropOwn r
/-- told blocks are nobody's from now on -/
def demote (h : Heap) : List Ent → Upd
  | [] => []
  | e :: r => match e.src with
    | some b => bif e.blk.own then demote h r else match h b with
      | some x => (b, some ⟨false, x.dat⟩) :: demote h r
      | none => demote h r
    | none => demote h r
def backUpd (f : Nat → Nat) : Nat → List Blk → Upd
  | _, [] => []
  | k, x :: r => (f k, some (renB f x)) :: backUpd f (k + 1) r
def importOut (h : Heap) (es : List Ent) (P : List Nat) (id : Nat) (bs : List Blk) : Upd :=
  (bif bs.all (·.own) then [] else demote h es) ++ (dropOwn es ++ backUpd (backN es P id) 0 bs)

structure Out where
  vals : List AV
  blks : List Blk
abbrev FSpec := List AV → List Blk → T Out
def oneOrTup : List AV → AV
  | [x] => x
  | l => .tup l
/-- calls by what is known of them -/
def specC (E : Env) (S : FuncId → Option (List Nat × FSpec)) : CallR := fun f args h id =>
  match S f with
  | none => .bad
  | some s => match E.P.funcs[f]? with
    | none => .bad
    | some fn => match expAll E h (takeFl s.1) fn.params.toList args with
      | none => .bad
      | some (vs, bs, es) => (s.2 vs bs).bind fun out =>
          bif Nat.ble out.blks.length 64 && persOk es (pers vs bs) then .leaf (oneOrTup (renL (backN es (pers vs bs) id) out.vals), importOut h es (pers vs bs) id out.blks) else .bad

def blkH (bs : List Blk) : Heap := fun b => bs[b]?
def startH (E : Env) (bs : List Blk) : Heap := fun b =>
  bif Nat.ble globBase b then (E.glob (b - globBase)).map (Blk.mk false) else bs[b]?
def listT : List AV → Nat → AV
  | [], _ => .any
  | v :: _, 0 => v
  | _ :: r, k + 1 => listT r k
def startSt (E : Env) (fn : Func) (vs : List AV) (bs : List Blk) : AState :=
  { n := fn.ntmps, t := listT vs, h := startH E bs, τ := 1 }
def resultsR (E : Env) (st : AState) : List ResultVar → T (List AV)
  | [] => .leaf []
  | .tmp t :: r => (resultsR E st r).bind fun l => .leaf (st.t t :: l)
  | .cell a t :: r => (loadR E st.h t (st.t a)).bind fun p => (resultsR E st r).bind fun l => .leaf (p.1 :: l)
/-- the lent boxes come first, each under its own name -/
def sameBoxes : List Nat → List Ent → Bool
  | [], _ => true
  | _ :: _, [] => false
  | k :: P, e :: es => e.box && srcIs k e.src && sameBoxes P es
/-- what is nobody's has been told before -/
def oldConst (n : Nat) (es : List Ent) : Bool := es.all fun e => e.blk.own || match e.src with | some b => Nat.blt b n | none => true
def ptrs (P : List Nat) : List AV := P.map fun k => .ptr k 0 0
/-- what is told at the end: the lent boxes first -/
def expEnd (E : Env) (h : Heap) (n : Nat) (P : List Nat) (ts : List TypeId) (l : List AV) : T Out :=
  match expAll E h keepFl (P.map (fun _ => 0) ++ ts) (ptrs P ++ l) with
  | some (vs, bs, es) => bif sameBoxes P es && oldConst n es then .leaf ⟨vs.drop P.length, bs⟩ else .bad
  | none => .bad
def endR (E : Env) (fn : Func) (n : Nat) (P : List Nat) (r : AExit × AState) : T Out :=
  match r.1 with
  | .exit _ => .bad
  | _ => (resultsR E r.2 fn.results.toList).bind fun l => expEnd E r.2.h n P fn.resultTypes.toList l
/-- a function by its text -/
def fnRun (E : Env) (C : CallR) (L : LoopR) (fn : Func) (c : Code) (vs : List AV) (bs : List Blk) : T Out :=
  bif Nat.ble vs.length fn.ntmps && Nat.ble bs.length 1000 then (run E C L c (startSt E fn vs bs)).bind (endR E fn bs.length (pers vs bs)) else .bad

/-! loops -/
structure LSig where
  /-- slots that the loop reads and does not write -/
  cs : List (Nat × TypeId)
  /-- slots that a turn may change -/
  mv : List (Nat × TypeId)
  /-- slots that are told behind the loop -/
  mo : List (Nat × TypeId)
  /-- slices that are given away -/
  take : List Nat
abbrev LSpec := List AV → List Blk → T (AExit × Out)
def slotTys (l : List (Nat × TypeId)) : List TypeId := l.map (·.2)
def slotAVs (st : AState) (l : List (Nat × TypeId)) : List AV := l.map fun p => st.t p.1
def putAll : List (Nat × TypeId) → List AV → (Nat → AV) → Nat → AV
  | p :: l, a :: as, t => putAll l as (updF t p.1 a)
  | _, _, t => t
def loopSt (E : Env) (n : Nat) (sg : LSig) (vs : List AV) (bs : List Blk) : AState :=
  { n := n, t := putAll (sg.cs ++ sg.mv) vs (fun _ => .any), h := startH E bs, τ := 1 }
def srcList : List Nat → List Nat → List Ent → Bool
  | [], [], _ => true
  | k :: P, j :: P', es => (match es[j]? with | some e => e.box && srcIs k e.src | none => false) && srcList P P' es
  | _, _, _ => false
/-- what is told between two turns: the lent boxes are the same -/
def expTurn (E : Env) (h : Heap) (n : Nat) (P : List Nat) (take : List Nat) (ts : List TypeId) (l : List AV) : T Out :=
  match expAll E h (takeFl take) ts l with
  | some (vs, bs, es) => bif srcList P (pers vs bs) es && oldConst n es then .leaf ⟨vs, bs⟩ else .bad
  | none => .bad
/-- one turn -/
def turn (E : Env) (C : CallR) (L : LoopR) (n : Nat) (sg : LSig) (body : Code) : LSpec := fun vs bs =>
  bif Nat.ble bs.length 1000 && Nat.beq vs.length (sg.cs ++ sg.mv).length then
    (run E C L body (loopSt E n sg vs bs)).bind fun r => match r.1 with
      | .normal => (expTurn E r.2.h bs.length (pers vs bs) sg.take (slotTys (sg.cs ++ sg.mv)) (slotAVs r.2 (sg.cs ++ sg.mv))).bind fun o => .leaf (.normal, o)
      | e => (expEnd E r.2.h bs.length (pers vs bs) (slotTys sg.mo) (slotAVs r.2 sg.mo)).bind fun o => .leaf (e, o)
  else .bad
def turns (E : Env) (C : CallR) (L : LoopR) (n : Nat) (sg : LSig) (body : Code) : Nat → LSpec
  | 0, _, _ => .bad
  | k + 1, vs, bs => (turn E C L n sg body vs bs).bind fun r => match r.1 with
    | .normal => turns E C L n sg body k r.2.vals r.2.blks
    | e => .leaf (e, r.2)
def anyOn (wr : List Nat) (t : Nat → AV) : Nat → AV := fun i => bif wr.any (Nat.beq i) then .any else t i
/-- a loop by what is known of it -/
def useL (E : Env) (sg : LSig) (s : LSpec) (wr : List Nat) (st : AState) : T (AExit × AState) :=
  match expAll E st.h (takeFl sg.take) (slotTys (sg.cs ++ sg.mv)) (slotAVs st (sg.cs ++ sg.mv)) with
  | some (vs, bs, es) => bif Nat.blt st.τ 1000000 then
      (s vs bs).bind fun r => bif Nat.ble r.2.blks.length 64 && persOk es (pers vs bs) then
          .leaf (r.1, { st with t := putAll sg.mo (renL (backN es (pers vs bs) (st.τ * 262144)) r.2.vals) (anyOn wr st.t), h := updW st.h (importOut st.h es (pers vs bs) (st.τ * 262144) r.2.blks), τ := st.τ + 1 })
        else .bad
    else .bad
  | none => .bad
end Go.Am
