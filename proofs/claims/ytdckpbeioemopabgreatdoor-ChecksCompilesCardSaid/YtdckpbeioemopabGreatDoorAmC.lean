/-
  Texts put together: AmCfg, AmExp, AmExp2, AmImp, AmFn3, AmFnR, AmLoop3, AmUse3.
-/
import Derived.Test.YtdckpbeioemopabGreatDoorAmB
import Derived.LoopN
namespace Go.Am
structure Ent where
  src : Option Nat
  i : Nat
  box : Bool
  blk : Blk
def srcIs (b : Nat) : Option Nat → Bool
  | some c => Nat.beq c b
  | none => false
def boxAt (b : Nat) : List Ent → Nat → Option Nat
  | [], _ => none
  | e :: r, k => bif e.box && srcIs b e.src then some k else boxAt b r (k + 1)
abbrev Fl := Nat → Bool → Bool → Bool
def gas : Nat := 60
mutual
def visA (E : Env) (h : Heap) (fl : Fl) : Nat → TypeId → AV → List Ent → Option (AV × List Ent)
  | 0, _, _, _ => none
  | g + 1, t, a, es => match a with
    | .any => some (.any, es) | .bool b => some (.bool b, es) | .int k n => some (.int k n, es) | .str s => some (.str s, es)
    | .nilp => some (.nilp, es) | .nili => some (.nili, es) | .nilf => some (.nilf, es)
    | .nils => match E.P.underlying t with
      | some (.slice e) => some (.slw es.length, es ++ [⟨none, 0, false, ⟨fl es.length false true, Dat.empty (E.kind e)⟩⟩])
      | _ => some (.nils, es)
    | .slw b => match h b with
      | some x => bif fl es.length false x.own then (match boxAt b es 0 with
          | some k => some (.slw k, es)
          | none => some (.slw es.length, es ++ [⟨some b, 0, true, ⟨fl es.length true x.own, x.dat⟩⟩]))
        else some (.slw es.length, es ++ [⟨some b, 0, false, ⟨fl es.length false x.own, x.dat⟩⟩])
      | none => none
    | .sl b i n => match h b with
      | some x => bif fl es.length false x.own then (match boxAt b es 0 with
          | some k => some (.sl k i n, es)
          | none => some (.sl es.length i n, es ++ [⟨some b, 0, true, ⟨fl es.length true x.own, x.dat⟩⟩]))
        else some (.slw es.length, es ++ [⟨some b, i, false, ⟨fl es.length false x.own, x.dat.sub i n⟩⟩])
      | none => none
    | .ptr b 0 0 => match boxAt b es 0 with
      | some k => some (.ptr k 0 0, es)
      | none => match h b with
        | some x => some (.ptr es.length 0 0, es ++ [⟨some b, 0, true, ⟨fl es.length true x.own, x.dat⟩⟩])
        | none => none
    | .fn f us cs => match visL E h fl g [] us es with
      | some (us, es) => match visL E h fl g [] cs es with
        | some (cs, es) => some (.fn f us cs, es)
        | none => none
      | none => none
    | .iface u x => match visA E h fl g u x es with
      | some (x, es) => some (.iface u x, es)
      | none => none
    | .agg cs => match visL E h fl g (flatTys E 8 t) cs es with
      | some (cs, es) => some (.agg cs, es)
      | none => none
    | _ => none
def visL (E : Env) (h : Heap) (fl : Fl) : Nat → List TypeId → List AV → List Ent → Option (List AV × List Ent)
  | _, _, [], es => some ([], es)
  | 0, _, _ :: _, _ => none
  | g + 1, ts, a :: as, es => match visA E h fl g (ts.headD 0) a es with
    | some (a, es) => match visL E h fl g ts.tail as es with
      | some (as, es) => some (a :: as, es)
      | none => none
    | none => none
end
def visRows (E : Env) (h : Heap) (fl : Fl) (tys : List TypeId) : List (List AV) → List Ent → Option (List (List AV) × List Ent)
  | [], es => some ([], es)
  | r :: rs, es => match visL E h fl gas tys r es with
    | some (r, es) => match visRows E h fl tys rs es with
      | some (rs, es) => some (r :: rs, es)
      | none => none
    | none => none
def visD (E : Env) (h : Heap) (fl : Fl) : Dat → List Ent → Option (Dat × List Ent)
  | .gen tys rows, es => match visRows E h fl tys rows es with
    | some (rows, es) => some (.gen tys rows, es)
    | none => none
  | d, es => some (d, es)
def visGo (E : Env) (h : Heap) (fl : Fl) : Nat → Nat → List Ent → Option (List Blk × List Ent)
  | 0, _, _ => none
  | f + 1, k, es => match es[k]? with
    | none => some ([], es)
    | some e => match visD E h fl e.blk.dat es with
      | some (d, es) => match visGo E h fl f (k + 1) es with
        | some (bs, es) => some (⟨e.blk.own, d⟩ :: bs, es)
        | none => none
      | none => none
def clashE (a b : Ent) : Bool := (a.blk.own || b.blk.own) && match a.src, b.src with | some x, some y => Nat.beq x y | _, _ => false
def entsOk (h : Heap) : List Ent → Bool
  | [] => true
  | x :: r => (match x.src with | some b => (match h b with | some y => !x.blk.own || y.own | none => false) | none => true) && r.all (fun y => !clashE x y) && entsOk h r
def expAll (E : Env) (h : Heap) (fl : Fl) (ts : List TypeId) (vs : List AV) : Option (List AV × List Blk × List Ent) :=
  match visL E h fl gas ts vs [] with
  | some (vs, es) => match visGo E h fl 200 0 es with
    | some (bs, es) => bif entsOk h es && Nat.ble bs.length 1000 then some (vs, bs, es) else none
    | none => none
  | none => none
def takeFl (take : List Nat) : Fl := fun k box own => bif box then own else memb take k
def keepFl : Fl := fun _ _ own => own
mutual
def persA (bs : List Blk) : AV → List Nat → List Nat
  | .ptr k _ _, acc => match bs[k]? with
    | some x => bif x.own && !memb acc k then acc ++ [k] else acc
    | none => acc
  | .fn _ us cs, acc => persL bs cs (persL bs us acc)
  | .iface _ x, acc => persA bs x acc
  | .agg cs, acc => persL bs cs acc
  | _, acc => acc
def persL (bs : List Blk) : List AV → List Nat → List Nat
  | [], acc => acc
  | a :: r, acc => persL bs r (persA bs a acc)
end
def persRows (bs : List Blk) : List (List AV) → List Nat → List Nat
  | [], acc => acc
  | r :: rs, acc => persRows bs rs (persL bs r acc)
def persGo (bs : List Blk) : Nat → Nat → List Nat → List Nat
  | 0, _, acc => acc
  | f + 1, j, acc => match acc[j]? with
    | none => acc
    | some k => persGo bs f (j + 1) (match bs[k]? with
      | some ⟨_, .gen _ rows⟩ => persRows bs rows acc
      | _ => acc)
def pers (vs : List AV) (bs : List Blk) : List Nat := persGo bs gas 0 (persL bs vs [])
mutual
def renA (f : Nat → Nat) : AV → AV
  | .ptr b i j => .ptr (f b) i j
  | .slw b => .slw (f b)
  | .sl b i n => .sl (f b) i n
  | .foc b t n => .foc (f b) t n
  | .fn g us cs => .fn g (renL f us) (renL f cs)
  | .iface t x => .iface t (renA f x)
  | .agg cs => .agg (renL f cs)
  | .tup cs => .tup (renL f cs)
  | .any => .any | .bool b => .bool b | .int k n => .int k n | .str s => .str s | .nilp => .nilp | .nils => .nils | .nilf => .nilf | .nili => .nili
def renL (f : Nat → Nat) : List AV → List AV
  | [] => []
  | a :: r => renA f a :: renL f r
end
def renD (f : Nat → Nat) : Dat → Dat
  | .gen tys rows => .gen tys (rows.map (renL f))
  | d => d
def renB (f : Nat → Nat) (x : Blk) : Blk := ⟨x.own, renD f x.dat⟩
def srcOf (es : List Ent) (k : Nat) : Nat := match es[k]? with
  | some e => e.src.getD 0
  | none => 0
def persOk (es : List Ent) : List Nat → Bool
  | [] => true
  | k :: r => (match es[k]? with | some e => e.box && e.blk.own && e.src.isSome | none => false) && !memb r k && persOk es r
def backN (es : List Ent) (P : List Nat) (id : Nat) (k : Nat) : Nat := match P[k]? with
  | some j => srcOf es j
  | none => id + k
def dropOwn : List Ent → Upd
  | [] => []
  | e :: r => match e.src with
    | some b => bif e.blk.own then (b, none) :: dropOwn r else dropOwn r
    | none => dropOwn r
def demote (h : Heap) : List Ent → Upd
  | [] => []
  | e :: r => match e.src with
    | some b => bif e.blk.own then demote h r else match h b with
      | some x => (b, some ⟨false, x.dat⟩) :: demote h r
      | none => demote h r
    | none => demote h r
def backUpd (f : Nat → Nat) : Nat → List Blk → Upd
  | _, [] => []
  | k, x :: r => (f k, some (renB f x)) :: backUpd f (k + 1) r
def importOut (h : Heap) (es : List Ent) (P : List Nat) (id : Nat) (bs : List Blk) : Upd :=
  (bif bs.all (·.own) then [] else demote h es) ++ (dropOwn es ++ backUpd (backN es P id) 0 bs)
structure Out where
  vals : List AV
  blks : List Blk
abbrev FSpec := List AV → List Blk → T Out
def oneOrTup : List AV → AV
  | [x] => x
  | l => .tup l
def specC (E : Env) (S : FuncId → Option (List Nat × FSpec)) : CallR := fun f args h id =>
  match S f with
  | none => .bad
  | some s => match E.P.funcs[f]? with
    | none => .bad
    | some fn => match expAll E h (takeFl s.1) fn.params.toList args with
      | none => .bad
      | some (vs, bs, es) => (s.2 vs bs).bind fun out =>
          bif Nat.ble out.blks.length 64 && persOk es (pers vs bs) then .leaf (oneOrTup (renL (backN es (pers vs bs) id) out.vals), importOut h es (pers vs bs) id out.blks) else .bad
def blkH (bs : List Blk) : Heap := fun b => bs[b]?
def startH (E : Env) (bs : List Blk) : Heap := fun b =>
  bif Nat.ble globBase b then (E.glob (b - globBase)).map (Blk.mk false) else bs[b]?
def listT : List AV → Nat → AV
  | [], _ => .any
  | v :: _, 0 => v
  | _ :: r, k + 1 => listT r k
def startSt (E : Env) (fn : Func) (vs : List AV) (bs : List Blk) : AState :=
  { n := fn.ntmps, t := listT vs, h := startH E bs, τ := 1 }
def resultsR (E : Env) (st : AState) : List ResultVar → T (List AV)
  | [] => .leaf []
  | .tmp t :: r => (resultsR E st r).bind fun l => .leaf (st.t t :: l)
  | .cell a t :: r => (loadR E st.h t (st.t a)).bind fun p => (resultsR E st r).bind fun l => .leaf (p.1 :: l)
def sameBoxes : List Nat → List Ent → Bool
  | [], _ => true
  | _ :: _, [] => false
  | k :: P, e :: es => e.box && srcIs k e.src && sameBoxes P es
def ptrs (P : List Nat) : List AV := P.map fun k => .ptr k 0 0
def expEnd (E : Env) (h : Heap) (_ : Nat) (P : List Nat) (ts : List TypeId) (l : List AV) : T Out :=
  match expAll E h keepFl (P.map (fun _ => 0) ++ ts) (ptrs P ++ l) with
  | some (vs, bs, es) => bif sameBoxes P es then .leaf ⟨vs.drop P.length, bs⟩ else .bad
  | none => .bad
def endR (E : Env) (fn : Func) (n : Nat) (P : List Nat) (r : AExit × AState) : T Out :=
  match r.1 with
  | .exit _ => .bad
  | _ => (resultsR E r.2 fn.results.toList).bind fun l => expEnd E r.2.h n P fn.resultTypes.toList l
def fnRun (E : Env) (C : CallR) (L : LoopR) (fn : Func) (c : Code) (vs : List AV) (bs : List Blk) : T Out :=
  bif Nat.ble vs.length fn.ntmps && Nat.ble bs.length 1000 then (run E C L c (startSt E fn vs bs)).bind (endR E fn bs.length (pers vs bs)) else .bad
structure LSig where
  cs : List (Nat × TypeId)
  mv : List (Nat × TypeId)
  mo : List (Nat × TypeId)
  take : List Nat
abbrev LSpec := List AV → List Blk → T (AExit × Out)
def slotTys (l : List (Nat × TypeId)) : List TypeId := l.map (·.2)
def slotAVs (st : AState) (l : List (Nat × TypeId)) : List AV := l.map fun p => st.t p.1
def putAll : List (Nat × TypeId) → List AV → (Nat → AV) → Nat → AV
  | p :: l, a :: as, t => putAll l as (updF t p.1 a)
  | _, _, t => t
def loopSt (E : Env) (n : Nat) (sg : LSig) (vs : List AV) (bs : List Blk) : AState :=
  { n := n, t := putAll (sg.cs ++ sg.mv) vs (fun _ => .any), h := startH E bs, τ := 1 }
def srcList : List Nat → List Nat → List Ent → Bool
  | [], [], _ => true
  | k :: P, j :: P', es => (match es[j]? with | some e => e.box && srcIs k e.src | none => false) && srcList P P' es
  | _, _, _ => false
def srcPre : List Nat → List Nat → List Ent → Bool
  | [], _, _ => true
  | k :: P, j :: P', es => (match es[j]? with | some e => e.box && srcIs k e.src | none => false) && srcPre P P' es
  | _, _, _ => false
def expTurn (E : Env) (h : Heap) (_ : Nat) (P : List Nat) (take : List Nat) (ts : List TypeId) (l : List AV) : T Out :=
  match expAll E h (takeFl take) ts l with
  | some (vs, bs, es) => bif srcPre P (pers vs bs) es then .leaf ⟨vs, bs⟩ else .bad
  | none => .bad
def turn (E : Env) (C : CallR) (L : LoopR) (n : Nat) (sg : LSig) (body : Code) : LSpec := fun vs bs =>
  bif Nat.ble bs.length 1000 && Nat.beq vs.length (sg.cs ++ sg.mv).length then
    (run E C L body (loopSt E n sg vs bs)).bind fun r => match r.1 with
      | .normal => (expTurn E r.2.h bs.length (pers vs bs) sg.take (slotTys (sg.cs ++ sg.mv)) (slotAVs r.2 (sg.cs ++ sg.mv))).bind fun o => .leaf (.normal, o)
      | e => (expEnd E r.2.h bs.length (pers vs bs) (slotTys sg.mo) (slotAVs r.2 sg.mo)).bind fun o => .leaf (e, o)
  else .bad
def turns (E : Env) (C : CallR) (L : LoopR) (n : Nat) (sg : LSig) (body : Code) : Nat → LSpec
  | 0, _, _ => .bad
  | k + 1, vs, bs => (turn E C L n sg body vs bs).bind fun r => match r.1 with
    | .normal => turns E C L n sg body k r.2.vals r.2.blks
    | e => .leaf (e, r.2)
def anyOn (wr : List Nat) (t : Nat → AV) : Nat → AV := fun i => bif wr.any (Nat.beq i) then .any else t i
def useL (E : Env) (sg : LSig) (s : LSpec) (wr : List Nat) (st : AState) : T (AExit × AState) :=
  match expAll E st.h (takeFl sg.take) (slotTys (sg.cs ++ sg.mv)) (slotAVs st (sg.cs ++ sg.mv)) with
  | some (vs, bs, es) => bif Nat.blt st.τ 1000000 then
      (s vs bs).bind fun r => bif Nat.ble r.2.blks.length 64 && persOk es (pers vs bs) then
          .leaf (r.1, { st with t := putAll sg.mo (renL (backN es (pers vs bs) (st.τ * 262144)) r.2.vals) (anyOn wr st.t), h := updW st.h (importOut st.h es (pers vs bs) (st.τ * 262144) r.2.blks), τ := st.τ + 1 })
        else .bad
    else .bad
  | none => .bad
end Go.Am
namespace Go.Am
def Live (p : Pos) : Prop := 0 < p.len ∧ 0 < p.stride
structure RdP (ρ : Rho) (w : World) (d : Dat) (p : Pos) : Prop where
  stride : p.stride = d.stride
  len : p.len = d.len
  cap : p.len ≤ p.cap
  max : p.cap ≤ maxLen
  wf : ∀ i, i < d.len → (d.row i).length = d.stride ∧ (d.row i).all AV.isCell = true
  cells : ∀ i, i < d.len → ∀ j av, (d.row i)[j]? = some av → ∃ c, w.cell? (p.addr i j) = some c ∧ V ρ av c
def Pos.win (p : Pos) (i n : Nat) : Pos := ⟨p.block, p.off + i * p.stride, p.stride, n, p.cap - i, if i = 0 then p.rest else none⟩
theorem Pos.win_zero (p : Pos) : p.win 0 p.len = p := by simp [Pos.win]
def place (ρ : Rho) (e : Ent) : Option Pos := match e.src with
  | none => some ⟨0, 0, e.blk.dat.stride, 0, 0, none⟩
  | some b => (ρ b).map fun p => p.win e.i e.blk.dat.len
def Agree (ρ ρ' : Rho) (es : List Ent) : Prop := ∀ k e, es[k]? = some e → ∃ p, place ρ e = some p ∧ ρ' k = some p
theorem Agree.pre {ρ ρ' : Rho} {es es' : List Ent} (h : Agree ρ ρ' es') (hp : es <+: es') : Agree ρ ρ' es := by
  obtain ⟨t, rfl⟩ := hp
  exact fun k e hk => h k e (by rw [List.getElem?_append_left (List.getElem?_eq_some_iff.1 hk).1]; exact hk)
theorem Agree.last {ρ ρ' : Rho} {es : List Ent} {e : Ent} (h : Agree ρ ρ' (es ++ [e])) : ∃ p, place ρ e = some p ∧ ρ' es.length = some p := h es.length e (by simp)
section
variable {E : Env} {ρ ρ' : Rho} {h : Heap} {w : World} {fl : Fl}
theorem SatH.rdP (hs : SatH ρ h w) {b : Nat} {x : Blk} {p : Pos} (hb : h b = some x) (hp : ρ b = some p) : RdP ρ w x.dat p := by
  obtain ⟨p', hp', h1, h2, h3, h4⟩ := hs.pos b x hb
  rw [hp] at hp'; cases hp'
  exact ⟨h1, h2, h3, h4, hs.wf b x hb, hs.cells b x p hb hp⟩
theorem RdP.sub {d : Dat} {p : Pos} (hd : RdP ρ w d p) (i n : Nat) (hin : i + n ≤ d.len) : RdP ρ w (d.sub i n) (p.win i n) := by
  have sp := Dat.sub_spec d i n hin
  refine ⟨by rw [sp.stride]; exact hd.stride, sp.len.symm, by have := hd.cap; have := hd.len; simp only [Pos.win]; omega, by have := hd.max; simp only [Pos.win]; omega, fun k hk => ?_, fun k hk j av hav => ?_⟩
  · rw [sp.len] at hk; rw [sp.row k hk, sp.stride]; exact hd.wf _ (by omega)
  · rw [sp.len] at hk
    rw [sp.row k hk] at hav
    obtain ⟨c, hc, hv⟩ := hd.cells (i + k) (by omega) j av hav
    refine ⟨c, ?_, hv⟩
    rw [← hc]
    simp only [Pos.addr, Pos.win]
    congr 2
    rw [Nat.add_mul]; omega
theorem RdP.mono {d : Dat} {p : Pos} (hd : RdP ρ w d p) (hv : ∀ (i : Nat), i < d.len → ∀ (j : Nat) (av : AV), (d.row i)[j]? = some av → ∀ c, V ρ av c → V ρ' av c) : RdP ρ' w d p :=
  ⟨hd.stride, hd.len, hd.cap, hd.max, hd.wf, fun i hi j av hav => by
    obtain ⟨c, hc, h⟩ := hd.cells i hi j av hav
    exact ⟨c, hc, hv i hi j av hav c h⟩⟩
def EntRd (ρ : Rho) (h : Heap) (w : World) (e : Ent) : Prop :=
  ∃ p, place ρ e = some p ∧ RdP ρ w e.blk.dat p ∧ match e.src with
    | none => p.cap = 0
    | some b => ∃ x q, h b = some x ∧ ρ b = some q ∧ p.block = q.block ∧ p.off + p.cap * p.stride ≤ q.off + q.cap * q.stride ∧ p.cap ≤ q.cap ∧ (Live p → Live q) ∧ (e.box = true → p = q) ∧ (∀ T, e.blk.dat.mark = some T → p = q ∧ x.dat.mark = some T ∧ e.blk.dat.isGen = x.dat.isGen)
structure Vis (ρ : Rho) (h : Heap) (w : World) (es es' : List Ent) : Prop where
  pre : es <+: es'
  rd : ∀ e ∈ es', e ∈ es ∨ EntRd ρ h w e
theorem Vis.refl (es : List Ent) : Vis ρ h w es es := ⟨List.prefix_refl _, fun _ h => .inl h⟩
theorem Vis.trans {a b c : List Ent} (h1 : Vis ρ h w a b) (h2 : Vis ρ h w b c) : Vis ρ h w a c :=
  ⟨h1.pre.trans h2.pre, fun e he => (h2.rd e he).elim (h1.rd e) .inr⟩
theorem Vis.add {es : List Ent} {e : Ent} (he : EntRd ρ h w e) : Vis ρ h w es (es ++ [e]) :=
  ⟨List.prefix_append _ _, fun x hx => by
    rcases List.mem_append.1 hx with h | h
    · exact .inl h
    · simp only [List.mem_singleton] at h; subst h; exact .inr he⟩
theorem entRd_whole (hs : SatH ρ h w) {b : Nat} {x : Blk} (hb : h b = some x) {box o : Bool} : EntRd ρ h w ⟨some b, 0, box, ⟨o, x.dat⟩⟩ := by
  obtain ⟨p, hp, h1, h2, _⟩ := hs.pos b x hb
  have hw : p.win 0 x.dat.len = p := by rw [← h2]; exact p.win_zero
  exact ⟨p, by simp only [place, hp, Option.map_some, hw], (hs.rdP hb hp : RdP ρ w x.dat p), x, p, hb, hp, rfl, Nat.le_refl _, Nat.le_refl _, id, fun _ => rfl, fun T hT => ⟨rfl, hT, rfl⟩⟩
theorem entRd_win (hs : SatH ρ h w) {b i n : Nat} {x : Blk} (hb : h b = some x) {p : Pos} (hp : ρ b = some p) (hc : p.len ≤ p.cap) (hin : i + n ≤ p.len) {o : Bool} : EntRd ρ h w ⟨some b, i, false, ⟨o, x.dat.sub i n⟩⟩ := by
  have hd := hs.rdP hb hp
  have hl := hd.len
  have hsub := hd.sub i n (by omega)
  have sp := Dat.sub_spec x.dat i n (by omega)
  refine ⟨p.win i n, by simp only [place, hp, Option.map_some, sp.len], hsub, x, p, hb, hp, rfl, ?_, by simp only [Pos.win]; omega, fun hl => ⟨by have := hl.1; simp only [Pos.win] at this; omega, hl.2⟩, (fun h => by cases h), fun T hT => by rw [Dat.sub_mark] at hT; cases hT⟩
  simp only [Pos.win]
  have : i * p.stride + (p.cap - i) * p.stride = p.cap * p.stride := by rw [← Nat.add_mul]; congr 1; omega
  omega
theorem empty_len (k : DK) : (Dat.empty k).len = 0 := by cases k <;> rfl
theorem entRd_nil {k : DK} {o : Bool} : EntRd ρ h w ⟨none, 0, false, ⟨o, Dat.empty k⟩⟩ :=
  ⟨_, rfl, ⟨rfl, (empty_len k).symm, Nat.le_refl _, Nat.zero_le _, fun i hi => by rw [empty_len] at hi; omega, fun i hi => by rw [empty_len] at hi; omega⟩, rfl⟩
theorem boxAt_spec {b : Nat} : ∀ {es : List Ent} {i k : Nat}, boxAt b es i = some k → i ≤ k ∧ ∃ e, es[k - i]? = some e ∧ e.box = true ∧ e.src = some b
  | [], i, k, hk => by simp [boxAt] at hk
  | e :: r, i, k, hk => by
    unfold boxAt at hk
    cases hc : (e.box && srcIs b e.src) with
    | true =>
      rw [hc, cond_true, Option.some.injEq] at hk
      subst hk
      simp only [Bool.and_eq_true] at hc
      refine ⟨Nat.le_refl _, e, by simp, hc.1, ?_⟩
      have := hc.2
      unfold srcIs at this
      split at this
      · rename_i c hsrc; rw [hsrc, Nat.eq_of_beq_eq_true this]
      · cases this
    | false =>
      rw [hc, cond_false] at hk
      obtain ⟨h1, e', h2, h3⟩ := boxAt_spec hk
      refine ⟨by omega, e', ?_, h3⟩
      rw [show k - i = (k - (i + 1)) + 1 from by omega]; simpa using h2
def BoxAll (ρ : Rho) (h : Heap) (w : World) (es : List Ent) : Prop := ∀ e ∈ es, EntRd ρ h w e
theorem Vis.all {es es' : List Ent} (h1 : Vis ρ h w es es') (h2 : BoxAll ρ h w es) : BoxAll ρ h w es' := fun e he => (h1.rd e he).elim (h2 e) id
mutual
theorem visA_ok (hs : SatH ρ h w) : ∀ (g : Nat) (t : TypeId) (a : AV) (es : List Ent) (a' : AV) (es' : List Ent), visA E h fl g t a es = some (a', es') → ∀ (v : Value), V ρ a v → BoxAll ρ h w es →
    Vis ρ h w es es' ∧ (∀ ρ', Agree ρ ρ' es' → V ρ' a' v) ∧ (a.isCell = true → a'.isCell = true)
  | 0, t, a, es, a', es', he => by simp [visA] at he
  | g + 1, t, a, es, a', es', he => by
    intro v hv hall
    unfold visA at he
    split at he
    · cases he; exact ⟨Vis.refl _, fun _ _ => hv, fun h => h⟩
    · cases he; exact ⟨Vis.refl _, fun _ _ => hv, fun h => h⟩
    · cases he; exact ⟨Vis.refl _, fun _ _ => hv, fun h => h⟩
    · cases he; exact ⟨Vis.refl _, fun _ _ => hv, fun h => h⟩
    · cases he; exact ⟨Vis.refl _, fun _ _ => hv, fun h => h⟩
    · cases he; exact ⟨Vis.refl _, fun _ _ => hv, fun h => h⟩
    · cases he; exact ⟨Vis.refl _, fun _ _ => hv, fun h => h⟩
    · split at he
      · cases he
        refine ⟨Vis.add entRd_nil, fun ρ' ha => ?_, fun _ => rfl⟩
        obtain ⟨p, hp, hρ⟩ := ha.last
        simp only [place, Option.some.injEq] at hp
        subst hp
        simp only [V] at hv ⊢
        exact ⟨_, hρ, Nat.le_refl _, none, hv, fun h => by simp at h⟩
      · cases he; exact ⟨Vis.refl _, fun _ _ => hv, fun h => h⟩
    · rename_i b
      split at he
      · rename_i x hx
        simp only [V] at hv
        obtain ⟨q, hq, hc, hsl⟩ := hv
        cases hfl : fl es.length false x.own with
        | true =>
          rw [hfl, cond_true] at he
          split at he
          · rename_i k hk
            cases he
            refine ⟨Vis.refl _, fun ρ' ha => ?_, fun _ => rfl⟩
            obtain ⟨_, e, h1, h2, h3⟩ := boxAt_spec hk
            rw [Nat.sub_zero] at h1
            obtain ⟨p, hp, hρ⟩ := ha k e h1
            obtain ⟨p', hp', _, hr⟩ := hall e (List.mem_of_getElem? h1)
            rw [hp] at hp'; cases hp'
            rw [h3] at hr
            obtain ⟨_, q1, _, hq1, _, _, _, _, hpq, _⟩ := hr
            have := hpq h2; subst this
            rw [hq] at hq1; cases hq1
            simp only [V]
            exact ⟨_, hρ, hc, hsl⟩
          · cases he
            have hr := entRd_whole (box := true) (o := fl es.length true x.own) hs hx
            refine ⟨Vis.add hr, fun ρ' ha => ?_, fun _ => rfl⟩
            obtain ⟨p, hp, hρ⟩ := ha.last
            obtain ⟨q', hq', h1, h2, _⟩ := hs.pos b x hx
            rw [hq] at hq'; cases hq'
            have : q.win 0 x.dat.len = q := by rw [← h2]; exact q.win_zero
            simp only [place, hq, Option.map_some, this, Option.some.injEq] at hp
            subst hp
            simp only [V]
            exact ⟨_, hρ, hc, hsl⟩
        | false =>
          rw [hfl, cond_false] at he
          cases he
          have hr := entRd_whole (box := false) (o := false) hs hx
          refine ⟨Vis.add hr, fun ρ' ha => ?_, fun _ => rfl⟩
          obtain ⟨p, hp, hρ⟩ := ha.last
          simp only [V]
          obtain ⟨q', hq', h1, h2, _⟩ := hs.pos b x hx
          rw [hq] at hq'; cases hq'
          have : q.win 0 x.dat.len = q := by rw [← h2]; exact q.win_zero
          simp only [place, hq, Option.map_some, this, Option.some.injEq] at hp
          subst hp
          exact ⟨_, hρ, hc, hsl⟩
      · cases he
    · rename_i b i n
      split at he
      · rename_i x hx
        simp only [V] at hv
        obtain ⟨q, hq, hc, hin, hsl⟩ := hv
        cases hfl : fl es.length false x.own with
        | true =>
          rw [hfl, cond_true] at he
          split at he
          · rename_i k hk
            cases he
            refine ⟨Vis.refl _, fun ρ' ha => ?_, fun _ => rfl⟩
            obtain ⟨_, e, h1, h2, h3⟩ := boxAt_spec hk
            rw [Nat.sub_zero] at h1
            obtain ⟨p, hp, hρ⟩ := ha k e h1
            obtain ⟨p', hp', _, hr⟩ := hall e (List.mem_of_getElem? h1)
            rw [hp] at hp'; cases hp'
            rw [h3] at hr
            obtain ⟨_, q1, _, hq1, _, _, _, _, hpq, _⟩ := hr
            have := hpq h2; subst this
            rw [hq] at hq1; cases hq1
            simp only [V]
            exact ⟨_, hρ, hc, hin, hsl⟩
          · cases he
            have hr := entRd_whole (box := true) (o := fl es.length true x.own) hs hx
            refine ⟨Vis.add hr, fun ρ' ha => ?_, fun _ => rfl⟩
            obtain ⟨p, hp, hρ⟩ := ha.last
            obtain ⟨q', hq', h1, h2, _⟩ := hs.pos b x hx
            rw [hq] at hq'; cases hq'
            have : q.win 0 x.dat.len = q := by rw [← h2]; exact q.win_zero
            simp only [place, hq, Option.map_some, this, Option.some.injEq] at hp
            subst hp
            simp only [V]
            exact ⟨_, hρ, hc, hin, hsl⟩
        | false =>
        rw [hfl, cond_false] at he
        cases he
        have hr := entRd_win (o := false) hs hx hq hc hin
        refine ⟨Vis.add hr, fun ρ' ha => ?_, fun _ => rfl⟩
        obtain ⟨p, hp, hρ⟩ := ha.last
        obtain ⟨q', hq', h1, h2, _⟩ := hs.pos b x hx
        rw [hq] at hq'; cases hq'
        have sp := Dat.sub_spec x.dat i n (by omega)
        simp only [place, hq, Option.map_some, sp.len, Option.some.injEq] at hp
        subst hp
        simp only [V]
        refine ⟨_, hρ, by simp only [Pos.win]; omega, ?_⟩
        obtain ⟨a, e, ha⟩ := hsl
        refine ⟨a, by simpa [Pos.win] using e, fun hlt => ?_⟩
        simp only [Pos.win] at hlt
        rw [ha (by omega)]
        simp [Pos.addr, Pos.win]
      · cases he
    · rename_i b
      split at he
      · rename_i k hk
        cases he
        refine ⟨Vis.refl _, fun ρ' ha => ?_, fun _ => rfl⟩
        obtain ⟨_, e, h1, h2, h3⟩ := boxAt_spec hk
        rw [Nat.sub_zero] at h1
        obtain ⟨p, hp, hρ⟩ := ha k e h1
        obtain ⟨p', hp', _, hr⟩ := hall e (List.mem_of_getElem? h1)
        rw [hp] at hp'; cases hp'
        rw [h3] at hr
        obtain ⟨x, q, _, hq, _, _, _, _, hpq, _⟩ := hr
        have := hpq h2; subst this
        simp only [V] at hv ⊢
        obtain ⟨r, hr1, hr2⟩ := hv
        rw [hq] at hr1; cases hr1
        exact ⟨_, hρ, hr2⟩
      · split at he
        · rename_i x hx
          cases he
          have hr := entRd_whole (box := true) (o := fl es.length true x.own) hs hx
          refine ⟨Vis.add hr, fun ρ' ha => ?_, fun _ => rfl⟩
          obtain ⟨p, hp, hρ⟩ := ha.last
          simp only [V] at hv ⊢
          obtain ⟨q, hq, hv⟩ := hv
          obtain ⟨q', hq', h1, h2, _⟩ := hs.pos b x hx
          rw [hq] at hq'; cases hq'
          have : q.win 0 x.dat.len = q := by rw [← h2]; exact q.win_zero
          simp only [place, hq, Option.map_some, this, Option.some.injEq] at hp
          subst hp
          exact ⟨_, hρ, hv⟩
        · cases he
    · split at he
      · rename_i us es1 h1
        split at he
        · rename_i cs es2 h2
          cases he
          simp only [V] at hv
          obtain ⟨fs, vs, rfl, hu, hc⟩ := hv
          obtain ⟨v1, r1, _⟩ := visL_ok hs g [] _ es us es1 h1 _ hu hall
          obtain ⟨v2, r2, _⟩ := visL_ok hs g [] _ es1 cs es' h2 _ hc (v1.all hall)
          refine ⟨v1.trans v2, fun ρ' ha => ?_, fun _ => rfl⟩
          simp only [V]
          exact ⟨fs, vs, rfl, r1 ρ' (ha.pre v2.pre), r2 ρ' ha⟩
        · cases he
      · cases he
    · split at he
      · rename_i x1 es1 h1
        cases he
        simp only [V] at hv
        obtain ⟨y, rfl, hy⟩ := hv
        obtain ⟨v1, r1, _⟩ := visA_ok hs g _ _ es x1 es' h1 _ hy hall
        refine ⟨v1, fun ρ' ha => ?_, fun _ => rfl⟩
        simp only [V]
        exact ⟨y, rfl, r1 ρ' ha⟩
      · cases he
    · split at he
      · rename_i cs es1 h1
        cases he
        simp only [V] at hv
        obtain ⟨vs, rfl, hy⟩ := hv
        obtain ⟨v1, r1, _⟩ := visL_ok hs g _ _ es cs es' h1 _ hy hall
        refine ⟨v1, fun ρ' ha => ?_, fun h => by simp [AV.isCell] at h⟩
        simp only [V]
        exact ⟨vs, rfl, r1 ρ' ha⟩
      · cases he
    · cases he
theorem visL_ok (hs : SatH ρ h w) : ∀ (g : Nat) (ts : List TypeId) (as : List AV) (es : List Ent) (as' : List AV) (es' : List Ent), visL E h fl g ts as es = some (as', es') → ∀ (vs : List Value), VL ρ as vs → BoxAll ρ h w es →
    Vis ρ h w es es' ∧ (∀ ρ', Agree ρ ρ' es' → VL ρ' as' vs) ∧ (as.all AV.isCell = true → as'.all AV.isCell = true)
  | g, ts, [], es, as', es', he => by
    intro vs hv hall
    have : some (([] : List AV), es) = some (as', es') := by cases g <;> simpa only [visL] using he
    cases this
    exact ⟨Vis.refl _, fun _ _ => by simpa only [VL] using hv, fun h => h⟩
  | 0, ts, a :: as, es, as', es', he => by simp [visL] at he
  | g + 1, ts, a :: as, es, as', es', he => by
    intro vs hv hall
    unfold visL at he
    split at he
    · rename_i a1 es1 h1
      split at he
      · rename_i as1 es2 h2
        cases he
        simp only [VL] at hv
        obtain ⟨v, r, rfl, hv1, hv2⟩ := hv
        obtain ⟨v1, r1, c1⟩ := visA_ok hs g _ _ es a1 es1 h1 _ hv1 hall
        obtain ⟨v2, r2, c2⟩ := visL_ok hs g _ _ es1 as1 es' h2 _ hv2 (v1.all hall)
        refine ⟨v1.trans v2, fun ρ' ha => ?_, fun h => ?_⟩
        · simp only [VL]
          exact ⟨v, r, rfl, r1 ρ' (ha.pre v2.pre), r2 ρ' ha⟩
        · simp only [List.all_cons, Bool.and_eq_true] at h ⊢
          exact ⟨c1 h.1, c2 h.2⟩
      · cases he
    · cases he
end
end
end Go.Am
namespace Go.Am
section
variable {E : Env} {ρ ρ' : Rho} {h : Heap} {w : World} {fl : Fl}
theorem V_scalar {a : AV} (ha : a.isScalar = true) {v : Value} (hv : V ρ a v) : V ρ' a v := by
  cases a <;> simp only [AV.isScalar, Bool.false_eq_true] at ha <;> simpa only [V] using hv
theorem Dat.row_scalar {d : Dat} (hd : ∀ s l, d ≠ .gen s l) {i j : Nat} {av : AV} (h : (d.row i)[j]? = some av) : av.isScalar = true := by
  cases d with
  | gen s l => exact (hd s l rfl).elim
  | _ =>
    simp only [Dat.row, Tok.enc, Nod.enc, Top.enc, Sgn.enc, Opr.enc, Chn.enc] at h
    have hm := List.mem_of_getElem? h
    simp only [List.mem_cons, List.mem_nil_iff, or_false] at hm
    rcases hm with rfl | rfl | rfl | rfl | rfl <;> rfl
theorem VL.choose {ρ : Rho} : ∀ {as : List AV} {P : Nat → Value → Prop}, (∀ (j : Nat) av, as[j]? = some av → ∃ c, P j c ∧ V ρ av c) → ∃ vs : List Value, (∀ (j : Nat) c, vs[j]? = some c → P j c) ∧ VL ρ as vs
  | [], P, _ => ⟨[], fun j c hj => by simp at hj, by simp [VL]⟩
  | a :: as, P, h => by
    obtain ⟨c, hc, hv⟩ := h 0 a rfl
    obtain ⟨vs, h1, h2⟩ := VL.choose (as := as) (P := fun j => P (j + 1)) fun j av hj => h (j + 1) av (by simpa using hj)
    refine ⟨c :: vs, fun j d hj => ?_, ?_⟩
    · cases j with
      | zero => simp at hj; subst hj; exact hc
      | succ j => exact h1 j d (by simpa using hj)
    · simp only [VL]; exact ⟨c, vs, rfl, hv, h2⟩
theorem RdP.row {d : Dat} {p : Pos} (hd : RdP ρ w d p) {i : Nat} (hi : i < d.len) : ∃ vs : List Value, (∀ (j : Nat) c, vs[j]? = some c → w.cell? (p.addr i j) = some c) ∧ VL ρ (d.row i) vs :=
  VL.choose (P := fun j c => w.cell? (p.addr i j) = some c) fun j av hj => hd.cells i hi j av hj
theorem getD_succ {α : Type} (x : α) (r : List α) (i : Nat) (d : α) : (x :: r).getD (i + 1) d = r.getD i d := by simp [List.getD]
theorem visRows_ok (hs : SatH ρ h w) {tys : List TypeId} : ∀ (rows : List (List AV)) (es : List Ent) (rows' : List (List AV)) (es' : List Ent), visRows E h fl tys rows es = some (rows', es') → BoxAll ρ h w es →
    (∀ i, i < rows.length → ∃ vs, VL ρ (rows.getD i []) vs) →
    Vis ρ h w es es' ∧ rows'.length = rows.length ∧ ∀ i, i < rows.length → ∀ vs, VL ρ (rows.getD i []) vs → (∀ ρ', Agree ρ ρ' es' → VL ρ' (rows'.getD i []) vs) ∧ ((rows.getD i []).all AV.isCell = true → (rows'.getD i []).all AV.isCell = true)
  | [], es, rows', es', he, hall, _ => by
    simp only [visRows, Option.some.injEq, Prod.mk.injEq] at he
    obtain ⟨rfl, rfl⟩ := he
    exact ⟨Vis.refl _, rfl, fun i hi => by simp at hi⟩
  | r :: rs, es, rows', es', he, hall, hex => by
    unfold visRows at he
    split at he
    · rename_i r1 es1 h1
      split at he
      · rename_i rs1 es2 h2
        cases he
        obtain ⟨vs0, hv0⟩ := hex 0 (by simp)
        obtain ⟨v1, a1, c1⟩ := visL_ok hs _ _ _ _ _ _ h1 vs0 hv0 hall
        obtain ⟨v2, l2, a2⟩ := visRows_ok hs rs es1 rs1 es' h2 (v1.all hall) fun i hi => by
          obtain ⟨vs, hv⟩ := hex (i + 1) (by simpa using hi)
          exact ⟨vs, by rwa [getD_succ] at hv⟩
        refine ⟨v1.trans v2, by simp [l2], fun i hi vs hv => ?_⟩
        cases i with
        | zero =>
          obtain ⟨_, b1, d1⟩ := visL_ok hs _ _ _ _ _ _ h1 vs hv hall
          exact ⟨fun ρ' ha => b1 ρ' (ha.pre v2.pre), d1⟩
        | succ i =>
          rw [getD_succ] at hv ⊢
          rw [getD_succ]
          exact a2 i (by simpa using hi) vs hv
      · cases he
    · cases he
theorem visD_ok (hs : SatH ρ h w) {d d' : Dat} {es es' : List Ent} (he : visD E h fl d es = some (d', es')) (hall : BoxAll ρ h w es) {p : Pos} (hd : RdP ρ w d p) :
    Vis ρ h w es es' ∧ ∀ ρ', Agree ρ ρ' es' → RdP ρ' w d' p := by
  by_cases hg : ∃ s l, d = .gen s l
  · obtain ⟨tys, rows, rfl⟩ := hg
    unfold visD at he
    split at he
    · rename_i t2 r2 heq
      cases heq
      split at he
      · rename_i rows1 es1 h1
        cases he
        have hrow : ∀ i, i < rows.length → ∃ vs : List Value, (∀ (j : Nat) c, vs[j]? = some c → w.cell? (p.addr i j) = some c) ∧ VL ρ (rows.getD i []) vs := fun i hi => hd.row (i := i) hi
        obtain ⟨v1, l1, a1⟩ := visRows_ok hs _ _ _ _ h1 hall fun i hi => by obtain ⟨vs, _, hv⟩ := hrow i hi; exact ⟨vs, hv⟩
        refine ⟨v1, fun ρ' ha => ⟨hd.stride, by rw [hd.len]; exact l1.symm, hd.cap, hd.max, fun i hi => ?_, fun i hi j av hav => ?_⟩⟩
        · have hi' : i < rows.length := by rw [← l1]; exact hi
          obtain ⟨vs, _, hv⟩ := hrow i hi'
          obtain ⟨b1, c1⟩ := a1 i hi' vs hv
          have hwf := hd.wf i hi'
          refine ⟨?_, c1 hwf.2⟩
          have e1 := (b1 ρ' ha).length
          have e2 := hv.length
          show (rows1.getD i []).length = wid tys
          have e3 : (rows.getD i []).length = wid tys := hwf.1
          omega
        · have hi' : i < rows.length := by rw [← l1]; exact hi
          obtain ⟨vs, hc, hv⟩ := hrow i hi'
          obtain ⟨b1, _⟩ := a1 i hi' vs hv
          obtain ⟨c, hc1, hc2⟩ := (b1 ρ' ha).get hav
          exact ⟨c, hc j c hc1, hc2⟩
      · cases he
    · rename_i hn
      exact (hn tys rows rfl).elim
  · have hg' : ∀ s l, d ≠ .gen s l := fun s l e => hg ⟨s, l, e⟩
    have : visD E h fl d es = some (d, es) := by
      cases d <;> first | rfl | exact (hg' _ _ rfl).elim
    rw [this] at he
    cases he
    exact ⟨Vis.refl _, fun ρ' _ => hd.mono fun i hi j av hav c hv => V_scalar (Dat.row_scalar hg' hav) hv⟩
theorem visD_mark {d d' : Dat} {es es' : List Ent} (he : visD E h fl d es = some (d', es')) : d'.mark = d.mark := by
  unfold visD at he
  split at he
  · split at he
    · cases he; rfl
    · cases he
  · cases he; rfl
theorem visD_gen {d d' : Dat} {es es' : List Ent} (he : visD E h fl d es = some (d', es')) : d'.isGen = d.isGen := by
  unfold visD at he
  split at he
  · split at he
    · cases he; rfl
    · cases he
  · cases he; rfl
theorem visGo_ok (hs : SatH ρ h w) : ∀ (f k : Nat) (es : List Ent) (bs : List Blk) (es' : List Ent), visGo E h fl f k es = some (bs, es') → BoxAll ρ h w es → k ≤ es.length →
    Vis ρ h w es es' ∧ k + bs.length = es'.length ∧ ∀ (i : Nat) e, es'[k + i]? = some e → ∃ x, bs[i]? = some x ∧ x.own = e.blk.own ∧ (x.dat.mark = e.blk.dat.mark ∧ x.dat.isGen = e.blk.dat.isGen) ∧ ∀ p, place ρ e = some p → ∀ ρ', Agree ρ ρ' es' → RdP ρ' w x.dat p
  | 0, k, es, bs, es', he, _, _ => by simp [visGo] at he
  | f + 1, k, es, bs, es', he, hall, hk => by
    unfold visGo at he
    split at he
    · rename_i hn
      cases he
      have : es.length ≤ k := by simpa using hn
      refine ⟨Vis.refl _, by simp; omega, fun i e hi => ?_⟩
      have := (List.getElem?_eq_some_iff.1 hi).1; omega
    · rename_i e hek
      split at he
      · rename_i d es1 h1
        split at he
        · rename_i bs1 es2 h2
          cases he
          have hem := List.mem_of_getElem? hek
          obtain ⟨p, hp, hrd, _⟩ := hall e hem
          obtain ⟨v1, a1⟩ := visD_ok hs h1 hall hrd
          have hlt := (List.getElem?_eq_some_iff.1 hek).1
          obtain ⟨v2, l2, a2⟩ := visGo_ok hs f (k + 1) es1 bs1 es' h2 (v1.all hall) (by
            have := v1.pre.length_le; omega)
          refine ⟨v1.trans v2, by simp only [List.length_cons]; omega, fun i e' hi => ?_⟩
          cases i with
          | zero =>
            obtain ⟨t, ht⟩ := (v1.trans v2).pre
            have : es'[k]? = some e := by rw [← ht, List.getElem?_append_left hlt]; exact hek
            rw [Nat.add_zero, this] at hi; cases hi
            refine ⟨_, rfl, rfl, ⟨visD_mark h1, visD_gen h1⟩, fun p' hp' ρ' ha => ?_⟩
            rw [hp] at hp'; cases hp'
            exact a1 ρ' (ha.pre v2.pre)
          | succ i =>
            obtain ⟨x, hx, r⟩ := a2 i e' (by rw [show k + 1 + i = k + (i + 1) from by omega]; exact hi)
            exact ⟨x, by simpa using hx, r⟩
        · cases he
      · cases he
def psRho (ps : List Pos) : Rho := fun b => ps[b]?
structure CfgOk (E : Env) (w : World) (bs : List Blk) (ps : List Pos) : Prop where
  sat : SatH (psRho ps) (blkH bs) w
  g : GOk E (ownB (psRho ps) (blkH bs)) w
  len : ps.length = bs.length
  few : bs.length ≤ 1000
theorem entsOk_some : ∀ {l : List Ent}, entsOk h l = true → ∀ e ∈ l, ∀ b, e.src = some b → ∃ y, h b = some y ∧ (e.blk.own = true → y.own = true)
  | [], _, e, he, _, _ => by cases he
  | x :: r, hk, e, he, b, hb => by
    simp only [entsOk, Bool.and_eq_true] at hk
    rcases List.mem_cons.1 he with rfl | he
    · have := hk.1.1
      rw [hb] at this
      simp only at this
      cases hy : h b with
      | none => rw [hy] at this; cases this
      | some y =>
        rw [hy] at this
        refine ⟨y, rfl, fun ho => ?_⟩
        rw [ho] at this; simpa using this
    · exact entsOk_some hk.2 e he b hb
theorem entsOk_own {l : List Ent} (hk : entsOk h l = true) (e : Ent) (he : e ∈ l) (ho : e.blk.own = true) (b : Nat) (hb : e.src = some b) : ∃ y, h b = some y ∧ y.own = true := by
  obtain ⟨y, h1, h2⟩ := entsOk_some hk e he b hb
  exact ⟨y, h1, h2 ho⟩
theorem entsOk_pw : ∀ {l : List Ent}, entsOk h l = true → ∀ (i j : Nat) a b x y, i ≠ j → l[i]? = some a → l[j]? = some b → (a.blk.own = true ∨ b.blk.own = true) → a.src = some x → b.src = some y → x ≠ y
  | [], _, i, j, a, b, x, y, _, e, _, _, _, _ => by simp at e
  | z :: r, hk, i, j, a, b, x, y, hij, e1, e2, ho, hx, hy => by
    simp only [entsOk, Bool.and_eq_true, List.all_eq_true, Bool.not_eq_true'] at hk
    have key : ∀ {u v : Ent} {x y : Nat}, clashE u v = false → (u.blk.own = true ∨ v.blk.own = true) → u.src = some x → v.src = some y → x ≠ y := by
      intro u v x y hc ho hx hy
      unfold clashE at hc
      rw [hx, hy] at hc
      simp only [Bool.and_eq_false_iff, Bool.or_eq_false_iff] at hc
      rintro rfl
      rcases hc with ⟨h1, h2⟩ | hc
      · rw [h1, h2] at ho; simp at ho
      · rw [Nat.beq_refl] at hc; cases hc
    cases i with
    | zero =>
      cases j with
      | zero => exact (hij rfl).elim
      | succ j =>
        simp at e1; subst e1
        exact key (hk.1.2 b (List.mem_of_getElem? (by simpa using e2))) ho hx hy
    | succ i =>
      cases j with
      | zero =>
        simp at e2; subst e2
        exact (key (hk.1.2 a (List.mem_of_getElem? (by simpa using e1))) ho.symm hy hx).symm
      | succ j => exact entsOk_pw hk.2 i j a b x y (by omega) (by simpa using e1) (by simpa using e2) ho hx hy
structure ExpOk (E : Env) (ρ : Rho) (h : Heap) (w : World) (vs : List AV) (cvs : List Value) (bs : List Blk) (es : List Ent) (ps : List Pos) : Prop where
  cfg : CfgOk E w bs ps
  vals : VL (psRho ps) vs cvs
  ents : bs.length = es.length
  ent : ∀ (k : Nat) e, es[k]? = some e → ∃ p x, ps[k]? = some p ∧ bs[k]? = some x ∧ x.own = e.blk.own ∧ place ρ e = some p ∧ EntRd ρ h w e
  own : ∀ e ∈ es, e.blk.own = true → ∀ b, e.src = some b → ∃ y, h b = some y ∧ y.own = true
  pw : ∀ (i j : Nat) a b x y, i ≠ j → es[i]? = some a → es[j]? = some b → (a.blk.own = true ∨ b.blk.own = true) → a.src = some x → b.src = some y → x ≠ y
theorem expAll_ok (hs : SatH ρ h w) (hg : GOk E (ownB ρ h) w) {ts : List TypeId} {as vs : List AV} {bs : List Blk} {es : List Ent} (he : expAll E h fl ts as = some (vs, bs, es)) {cvs : List Value} (hv : VL ρ as cvs) :
    ∃ ps, ExpOk E ρ h w vs cvs bs es ps := by
  unfold expAll at he
  split at he
  · rename_i vs1 es1 h1
    split at he
    · rename_i bs1 es2 h2
      cases hk : (entsOk h es2 && Nat.ble bs1.length 1000) with
      | false => simp [hk] at he
      | true =>
        rw [hk, cond_true] at he
        cases he
        simp only [Bool.and_eq_true] at hk
        obtain ⟨hk, hfew⟩ := hk
        obtain ⟨v1, a1, _⟩ := visL_ok hs _ _ _ _ _ _ h1 cvs hv (fun e he => by cases he)
        have hall1 := v1.all (fun e he => by cases he)
        obtain ⟨v2, l2, a2⟩ := visGo_ok hs _ _ _ _ _ h2 hall1 (Nat.zero_le _)
        have hall := v2.all hall1
        have hex : ∀ e ∈ es, ∃ p, place ρ e = some p := fun e he => by obtain ⟨p, hp, _⟩ := hall e he; exact ⟨p, hp⟩
        let ps : List Pos := es.map fun e => (place ρ e).getD ⟨0, 0, 0, 0, 0, none⟩
        have hps : ∀ (k : Nat) e, es[k]? = some e → ∃ p, place ρ e = some p ∧ ps[k]? = some p := fun k e hk => by
          obtain ⟨p, hp⟩ := hex e (List.mem_of_getElem? hk)
          exact ⟨p, hp, by simp [ps, hk, hp]⟩
        have hag : Agree ρ (psRho ps) es := hps
        have hent : ∀ (k : Nat) e, es[k]? = some e → ∃ p x, ps[k]? = some p ∧ bs[k]? = some x ∧ x.own = e.blk.own ∧ place ρ e = some p ∧ EntRd ρ h w e ∧ RdP (psRho ps) w x.dat p ∧ x.dat.mark = e.blk.dat.mark ∧ x.dat.isGen = e.blk.dat.isGen := fun k e hk => by
          obtain ⟨p, hp, hpk⟩ := hps k e hk
          obtain ⟨x, hx, ho, hmk, hrd⟩ := a2 k e (by rw [Nat.zero_add]; exact hk)
          exact ⟨p, x, hpk, hx, ho, hp, hall e (List.mem_of_getElem? hk), hrd p hp _ hag, hmk⟩
        have hblk : ∀ (k : Nat) x, bs[k]? = some x → ∃ e, es[k]? = some e := fun k x hx => by
          have := (List.getElem?_eq_some_iff.1 hx).1
          exact ⟨es[k]'(by omega), List.getElem?_eq_getElem _⟩
        have hsrc : ∀ e, EntRd ρ h w e → ∀ p, place ρ e = some p → 0 < p.cap ∨ Live p → ∃ b x q, e.src = some b ∧ h b = some x ∧ ρ b = some q ∧ p.block = q.block ∧ p.off + p.cap * p.stride ≤ q.off + q.cap * q.stride ∧ p.cap ≤ q.cap ∧ (Live p → Live q) := fun e hr p hp hl => by
          obtain ⟨p', hp', hrd, hm⟩ := hr
          rw [hp] at hp'; cases hp'
          have hc : 0 < p.cap := by
            rcases hl with hl | hl
            · exact hl
            · have := hl.1; have := hrd.cap; omega
          cases hsr : e.src with
          | none => rw [hsr] at hm; simp only at hm; omega
          | some b =>
            rw [hsr] at hm
            obtain ⟨x, q, e1, e2, e3, e4, e5, e6, _⟩ := hm
            exact ⟨b, x, q, rfl, e1, e2, e3, e4, e5, e6⟩
        have hownb : ∀ (k : Nat) (e : Ent) (p : Pos) (x : Blk), es[k]? = some e → place ρ e = some p → x.own = e.blk.own → EntRd ρ h w e → x.own = true → 0 < p.cap → ∃ b y q, e.src = some b ∧ h b = some y ∧ y.own = true ∧ ρ b = some q ∧ p.block = q.block ∧ p.off + p.cap * p.stride ≤ q.off + q.cap * q.stride ∧ 0 < q.cap := by
          intro k e p x hke hp hxo hr ho h0
          obtain ⟨b, x', q, e1, e2, e3, e4, e5, e6, _⟩ := hsrc e hr p hp (.inl h0)
          obtain ⟨y, hy, hyo⟩ := entsOk_own hk e (List.mem_of_getElem? hke) (by rw [← hxo]; exact ho) b e1
          exact ⟨b, y, q, e1, hy, hyo, e3, e4, e5, by omega⟩
        refine ⟨ps, ⟨⟨?_, ?_, by simp [ps]; omega, Nat.le_of_ble_eq_true hfew⟩, a1 _ (hag.pre v2.pre), by omega, fun k e hk => by
          obtain ⟨p, x, c1, c2, c3, c4, c5, _⟩ := hent k e hk
          exact ⟨p, x, c1, c2, c3, c4, c5⟩, fun e he ho b hb => entsOk_own hk e he ho b hb, fun i j a b x y => entsOk_pw hk i j a b x y⟩⟩
        · refine ⟨fun b x hb => ?_, fun b x hb => ?_, fun b x p hb hp => ?_, fun b x p hb ho hp h0 => ?_, fun b x p b' x' p' hb ho hp h0 hb' hp' hne hl => ?_⟩
          · obtain ⟨e, he⟩ := hblk b x hb
            obtain ⟨p, x', c1, c2, _, _, _, c6, _⟩ := hent b e he
            rw [show bs[b]? = some x from hb] at c2; cases c2
            exact ⟨p, c1, c6.stride, c6.len, c6.cap, c6.max⟩
          · obtain ⟨e, he⟩ := hblk b x hb
            obtain ⟨p, x', c1, c2, _, _, _, c6, _⟩ := hent b e he
            rw [show bs[b]? = some x from hb] at c2; cases c2
            exact c6.wf
          · obtain ⟨e, he⟩ := hblk b x hb
            obtain ⟨p', x', c1, c2, _, _, _, c6, _⟩ := hent b e he
            rw [show bs[b]? = some x from hb] at c2; cases c2
            rw [show ps[b]? = some p from hp] at c1; cases c1
            exact c6.cells
          · obtain ⟨e, he⟩ := hblk b x hb
            obtain ⟨p', x', c1, c2, c3, c4, c5, c6, c7, c8⟩ := hent b e he
            rw [show bs[b]? = some x from hb] at c2; cases c2
            rw [show ps[b]? = some p from hp] at c1; cases c1
            obtain ⟨n, y, q, d1, d2, d3, d4, d5, d6, d7⟩ := hownb b e p x he c4 c3 c5 ho h0
            obtain ⟨cs, ty, hcs, hsz, hmk⟩ := hs.own n y q d2 d3 d4 d7
            refine ⟨cs, ty, by rw [d5]; exact hcs, Nat.le_trans d6 hsz, fun T hT => ?_, fun r hr => ?_⟩
            rotate_left
            · have c9 := c4
              unfold place at c9
              rw [d1] at c9
              simp only [d4, Option.map_some, Option.some.injEq] at c9
              subst c9
              simp only [Pos.win] at hr
              split at hr
              · rename_i h0
                obtain ⟨n1, n2⟩ := hmk.2 r hr
                refine ⟨n1, fun j hj => n2 j ?_⟩
                simp only [Pos.win, h0, Nat.zero_mul, Nat.add_zero, Nat.sub_zero] at hj
                exact hj
              · cases hr
            obtain ⟨p9, hp9, hrd9, hm9⟩ := c5
            rw [c4] at hp9; cases hp9
            rw [d1] at hm9
            obtain ⟨y9, q9, i1, i2, _, _, _, _, _, i8⟩ := hm9
            rw [d2] at i1; cases i1
            rw [d4] at i2; cases i2
            obtain ⟨rfl, hmT, i9⟩ := i8 T (by rw [← c7]; exact hT)
            obtain ⟨m1, m2, m3⟩ := hmk.1 T hmT
            obtain ⟨_, e9, s1, _⟩ := hs.pos n y d2
            rw [d4] at e9; cases e9
            refine ⟨m1, m2, fun hg => ?_⟩
            have hgen : y.dat.isGen = true := by rw [← i9, ← c8]; exact hg
            rw [m3 hgen, ← s1, c6.stride]
          · obtain ⟨e, he⟩ := hblk b x hb
            obtain ⟨p1, x1, c1, c2, c3, c4, c5, c6, _⟩ := hent b e he
            rw [show bs[b]? = some x from hb] at c2; cases c2
            rw [show ps[b]? = some p from hp] at c1; cases c1
            obtain ⟨e', he'⟩ := hblk b' x' hb'
            obtain ⟨p2, x2, f1, f2, f3, f4, f5, f6, _⟩ := hent b' e' he'
            rw [show bs[b']? = some x' from hb'] at f2; cases f2
            rw [show ps[b']? = some p' from hp'] at f1; cases f1
            obtain ⟨n, y, q, d1, d2, d3, d4, d5, d6, d7⟩ := hownb b e p x he c4 c3 c5 ho h0
            obtain ⟨n', y', q', g1, g2, g3, g4, g5, g6, g7⟩ := hsrc e' f5 p' f4 (hl.elim (fun h => .inl h.2) (fun h => .inr h))
            have hnn : n ≠ n' := entsOk_pw hk b b' e e' n n' hne he he' (.inl (by rw [← c3]; exact ho)) d1 g1
            rw [d5, g4]
            refine hs.apart n y q n' y' q' d2 d3 d4 d7 g2 g3 hnn ?_
            rcases hl with hl | hl
            · obtain ⟨n2, y2, q2, i1, i2, i3, i4, _, _, i7⟩ := hownb b' e' p' x' he' f4 f3 f5 hl.1 hl.2
              rw [g1] at i1; cases i1
              rw [g2] at i2; cases i2
              rw [g3] at i4; cases i4
              exact .inl ⟨i3, i7⟩
            · exact .inr (g7 hl)
        · refine ⟨hg.laid, hg.size, hg.base, ?_⟩
          rintro k ⟨b, x, p, hb, ho, hp, h0, rfl⟩
          obtain ⟨e, he⟩ := hblk b x hb
          obtain ⟨p', x', c1, c2, c3, c4, c5, c6, c7⟩ := hent b e he
          rw [show bs[b]? = some x from hb] at c2; cases c2
          rw [show ps[b]? = some p from hp] at c1; cases c1
          obtain ⟨n, y, q, d1, d2, d3, d4, d5, d6, d7⟩ := hownb b e p x he c4 c3 c5 ho h0
          rw [d5]
          exact hg.own _ ⟨n, y, q, d2, d3, d4, d7, rfl⟩
    · cases he
  · cases he
end
end Go.Am
namespace Go.Am
structure Mv (w : World) (bs : List Blk) (ps : List Pos) (w' : World) (bs' : List Blk) (ps' : List Pos) : Prop where
  stp : Stp (domB (psRho ps) (blkH bs)) (domB (psRho ps') (blkH bs')) w w'
  src : ∀ (k : Nat) x p, bs'[k]? = some x → ps'[k]? = some p → ((x.own = true ∧ 0 < p.cap) ∨ Live p) → w.heap.size ≤ p.block ∨ ∃ (k0 : Nat) (x0 : Blk) (p0 : Pos), bs[k0]? = some x0 ∧ ps[k0]? = some p0 ∧ ((x0.own = true ∧ 0 < p0.cap) ∨ Live p0) ∧ p0.block = p.block
section
variable {E : Env} {ρ ρ' : Rho} {h : Heap} {w w' : World}
mutual
theorem V.ren {f : Nat → Nat} (hf : ∀ k p, ρ k = some p → ρ' (f k) = some p) : ∀ (a : AV) (v : Value), V ρ a v → V ρ' (renA f a) v
  | .any, _, h => by simp [renA, V]
  | .bool _, _, h => by simpa only [renA, V] using h
  | .int .., _, h => by simpa only [renA, V] using h
  | .str _, _, h => by simpa only [renA, V] using h
  | .nilp, _, h => by simpa only [renA, V] using h
  | .nils, _, h => by simpa only [renA, V] using h
  | .nilf, _, h => by simpa only [renA, V] using h
  | .nili, _, h => by simpa only [renA, V] using h
  | .ptr .., _, h => by
    simp only [renA, V] at h ⊢; obtain ⟨p, hp, e⟩ := h; exact ⟨p, hf _ _ hp, e⟩
  | .slw _, _, h => by
    simp only [renA, V] at h ⊢; obtain ⟨p, hp, e⟩ := h; exact ⟨p, hf _ _ hp, e⟩
  | .sl .., _, h => by
    simp only [renA, V] at h ⊢; obtain ⟨p, hp, e⟩ := h; exact ⟨p, hf _ _ hp, e⟩
  | .foc .., _, h => by
    simp only [renA, V] at h ⊢; obtain ⟨p, hp, e⟩ := h; exact ⟨p, hf _ _ hp, e⟩
  | .fn _ us cs, _, h => by
    simp only [renA, V] at h ⊢; obtain ⟨fs, vs, e, h1, h2⟩ := h; exact ⟨fs, vs, e, VL.ren hf us _ h1, VL.ren hf cs _ h2⟩
  | .iface _ x, _, h => by
    simp only [renA, V] at h ⊢; obtain ⟨y, e, h1⟩ := h; exact ⟨y, e, V.ren hf x _ h1⟩
  | .agg cs, _, h => by
    simp only [renA, V] at h ⊢; obtain ⟨vs, e, h1⟩ := h; exact ⟨vs, e, VL.ren hf cs _ h1⟩
  | .tup cs, _, h => by
    simp only [renA, V] at h ⊢; obtain ⟨vs, e, h1⟩ := h; exact ⟨vs, e, VL.ren hf cs _ h1⟩
theorem VL.ren {f : Nat → Nat} (hf : ∀ k p, ρ k = some p → ρ' (f k) = some p) : ∀ (as : List AV) (vs : List Value), VL ρ as vs → VL ρ' (renL f as) vs
  | [], _, h => by simpa only [renL, VL] using h
  | a :: as, _, h => by
    simp only [renL, VL] at h ⊢; obtain ⟨v, r, e, h1, h2⟩ := h; exact ⟨v, r, e, V.ren hf a _ h1, VL.ren hf as _ h2⟩
end
theorem renL_len (f : Nat → Nat) (as : List AV) : (renL f as).length = as.length := by
  induction as with
  | nil => rfl
  | cons a as ih => simp [renL, ih]
theorem renA_cell (f : Nat → Nat) (a : AV) : (renA f a).isCell = a.isCell := by cases a <;> rfl
theorem renL_cells (f : Nat → Nat) (as : List AV) : (renL f as).all AV.isCell = as.all AV.isCell := by
  induction as with
  | nil => rfl
  | cons a as ih => simp [renL, renA_cell, ih]
theorem oneOrTup_ren (f : Nat → Nat) (l : List AV) : oneOrTup (renL f l) = renA f (oneOrTup l) := by
  cases l with
  | nil => simp [oneOrTup, renL, renA]
  | cons a r => cases r <;> simp [oneOrTup, renL, renA]
theorem renD_len (f : Nat → Nat) (d : Dat) : (renD f d).len = d.len := by cases d <;> simp [renD, Dat.len]
theorem renD_stride (f : Nat → Nat) (d : Dat) : (renD f d).stride = d.stride := by cases d <;> rfl
theorem renD_mark (f : Nat → Nat) (d : Dat) : (renD f d).mark = d.mark := by cases d <;> rfl
theorem renD_gen (f : Nat → Nat) (d : Dat) : (renD f d).isGen = d.isGen := by cases d <;> rfl
theorem renD_row (f : Nat → Nat) (d : Dat) (i : Nat) (hg : ∃ s l, d = .gen s l) : (renD f d).row i = renL f (d.row i) := by
  obtain ⟨s, l, rfl⟩ := hg
  simp only [renD, Dat.row, List.getD, List.getElem?_map]
  cases l[i]? <;> rfl
theorem RdP.ren {f : Nat → Nat} (hf : ∀ k p, ρ k = some p → ρ' (f k) = some p) {d : Dat} {p : Pos} (hd : RdP ρ w d p) : RdP ρ' w (renD f d) p := by
  by_cases hg : ∃ s l, d = .gen s l
  · refine ⟨by rw [renD_stride]; exact hd.stride, by rw [renD_len]; exact hd.len, hd.cap, hd.max, fun i hi => ?_, fun i hi j av hav => ?_⟩
    · rw [renD_len] at hi
      rw [renD_row f d i hg, renL_len, renL_cells, renD_stride]; exact hd.wf i hi
    · rw [renD_len] at hi
      rw [renD_row f d i hg] at hav
      obtain ⟨vs, h1, h2⟩ := hd.row hi
      obtain ⟨c, hc, hv⟩ := (VL.ren hf _ _ h2).get hav
      exact ⟨c, h1 j c hc, hv⟩
  · have hg' : ∀ s l, d ≠ .gen s l := fun s l e => hg ⟨s, l, e⟩
    have : renD f d = d := by cases d <;> first | rfl | exact (hg' _ _ rfl).elim
    rw [this]
    exact hd.mono fun i hi j av hav c hv => V_scalar (Dat.row_scalar hg' hav) hv
theorem updW_append (h : Heap) (U W : Upd) : updW h (U ++ W) = updW (updW h U) W := by
  induction U generalizing h with
  | nil => rfl
  | cons p r ih => obtain ⟨b, x⟩ := p; simp only [List.cons_append, updW]; exact ih _
theorem updW_get : ∀ (W : Upd) (h : Heap) (b : Nat), (b, updW h W b) ∈ W ∨ ((∀ z, (b, z) ∉ W) ∧ updW h W b = h b)
  | [], h, b => .inr ⟨fun z hz => (by cases hz), rfl⟩
  | (c, x) :: r, h, b => by
    simp only [updW]
    rcases updW_get r (updF h c x) b with h1 | ⟨h1, h2⟩
    · exact .inl (List.mem_cons_of_mem _ h1)
    · by_cases e : b = c
      · subst e
        left
        rw [h2, updF_same]
        exact List.mem_cons_self ..
      · right
        refine ⟨fun z hz => ?_, by rw [h2, updF_other _ _ _ e]⟩
        rcases List.mem_cons.1 hz with h3 | h3
        · cases h3; exact e rfl
        · exact h1 z h3
theorem mem_dropOwn {es : List Ent} {b : Nat} {z : Option Blk} (hm : (b, z) ∈ dropOwn es) : z = none := by
  induction es with
  | nil => cases hm
  | cons e r ih =>
    unfold dropOwn at hm
    split at hm
    · cases ho : e.blk.own with
      | true =>
        rw [ho, cond_true] at hm
        rcases List.mem_cons.1 hm with h1 | h1
        · cases h1; rfl
        · exact ih h1
      | false => rw [ho, cond_false] at hm; exact ih hm
    · exact ih hm
theorem dropOwn_mem {es : List Ent} {e : Ent} (he : e ∈ es) (ho : e.blk.own = true) {b : Nat} (hb : e.src = some b) : (b, none) ∈ dropOwn es := by
  induction es with
  | nil => cases he
  | cons x r ih =>
    unfold dropOwn
    rcases List.mem_cons.1 he with rfl | he
    · rw [hb]; simp only; rw [ho, cond_true]; exact List.mem_cons_self ..
    · split
      · cases x.blk.own
        · exact ih he
        · exact List.mem_cons_of_mem _ (ih he)
      · exact ih he
theorem mem_demote {es : List Ent} {b : Nat} {z : Option Blk} (hm : (b, z) ∈ demote h es) : ∃ x, h b = some x ∧ z = some ⟨false, x.dat⟩ := by
  induction es with
  | nil => cases hm
  | cons e r ih =>
    unfold demote at hm
    split at hm
    · cases ho : e.blk.own with
      | true => rw [ho, cond_true] at hm; exact ih hm
      | false =>
        rw [ho, cond_false] at hm
        split at hm
        · rename_i x hx
          rcases List.mem_cons.1 hm with h1 | h1
          · cases h1; exact ⟨x, hx, rfl⟩
          · exact ih h1
        · exact ih hm
    · exact ih hm
theorem demote_mem {es : List Ent} {e : Ent} (he : e ∈ es) (ho : e.blk.own = false) {b : Nat} (hb : e.src = some b) {x : Blk} (hx : h b = some x) : (b, some ⟨false, x.dat⟩) ∈ demote h es := by
  induction es with
  | nil => cases he
  | cons y r ih =>
    unfold demote
    rcases List.mem_cons.1 he with rfl | he
    · rw [hb]; simp only; rw [ho, cond_false, hx]; exact List.mem_cons_self ..
    · split
      · cases y.blk.own
        · simp only [cond_false]
          split
          · exact List.mem_cons_of_mem _ (ih he)
          · exact ih he
        · exact ih he
      · exact ih he
theorem mem_backUpd {f : Nat → Nat} : ∀ {bs : List Blk} {k b : Nat} {z : Option Blk}, (b, z) ∈ backUpd f k bs → ∃ (j : Nat) (x : Blk), bs[j]? = some x ∧ b = f (k + j) ∧ z = some (renB f x)
  | [], _, _, _, hm => by cases hm
  | x :: r, k, b, z, hm => by
    unfold backUpd at hm
    rcases List.mem_cons.1 hm with h1 | h1
    · cases h1; exact ⟨0, x, rfl, rfl, rfl⟩
    · obtain ⟨j, y, h2, h3, h4⟩ := mem_backUpd h1
      exact ⟨j + 1, y, by simpa using h2, by rw [h3]; congr 1; omega, h4⟩
theorem persOk_get {es : List Ent} : ∀ {P : List Nat}, persOk es P = true → ∀ (j : Nat) k, P[j]? = some k → ∃ e b, es[k]? = some e ∧ e.box = true ∧ e.blk.own = true ∧ e.src = some b
  | [], _, j, k, hj => by simp at hj
  | x :: r, hp, j, k, hj => by
    simp only [persOk, Bool.and_eq_true] at hp
    cases j with
    | zero =>
      simp at hj; subst hj
      have := hp.1.1
      split at this
      · rename_i e he
        simp only [Bool.and_eq_true] at this
        cases hs : e.src with
        | none => rw [hs] at this; simp at this
        | some b => exact ⟨e, b, he, this.1.1, this.1.2, hs⟩
      · cases this
    | succ j => exact persOk_get hp.2 j k (by simpa using hj)
theorem import_ok (hs : SatH ρ h w) {vs : List AV} {cvs : List Value} {bs : List Blk} {es : List Ent} {ps : List Pos} (hx : ExpOk E ρ h w vs cvs bs es ps)
    {P : List Nat} (hP : persOk es P = true) {bs' : List Blk} {ps' : List Pos} (hc : CfgOk E w' bs' ps') (hm : Mv w bs ps w' bs' ps') (hsame : ∀ (j : Nat) k, P[j]? = some k → ps'[j]? = ps[k]?)
    {id m : Nat} (hid : ∀ b, id ≤ b → b < id + m → ρ b = none) (hlen : bs'.length ≤ m) :
    ∃ ρ', ρ.le ρ' ∧ SatH ρ' (updW h (importOut h es P id bs')) w' ∧ Stp (domB ρ h) (domB ρ' (updW h (importOut h es P id bs'))) w w' ∧ (∀ b, ρ' b ≠ none → ρ b = none → id ≤ b ∧ b < id + m) ∧
      ∀ a v, V (psRho ps') a v → V ρ' (renA (backN es P id) a) v := by
  have hpl := hc.len
  let ρ' : Rho := fun b => if id + P.length ≤ b ∧ b < id + ps'.length then ps'[b - id]? else ρ b
  have hle : ρ.le ρ' := fun b p hb => by
    show (if _ then _ else _) = _
    rw [if_neg]
    · exact hb
    · rintro ⟨h1, h2⟩
      have := hid b (by omega) (by omega)
      rw [hb] at this; cases this
  have hf : ∀ k p, psRho ps' k = some p → ρ' (backN es P id k) = some p := fun k p hk => by
    have hk' : ps'[k]? = some p := hk
    unfold backN
    split
    · rename_i j hj
      obtain ⟨e, b, e1, e2, e3, e4⟩ := persOk_get hP k j hj
      obtain ⟨q, x, f1, f2, f3, f4, q', f5, _, f6⟩ := hx.ent j e e1
      rw [f4] at f5; cases f5
      rw [e4] at f6
      obtain ⟨y, r, g1, g2, _, _, _, _, g3⟩ := f6
      have := g3.1 e2; subst this
      have hsrc : srcOf es j = b := by unfold srcOf; rw [e1]; simp [e4]
      rw [hsrc]
      have := hsame k j hj
      rw [hk', f1] at this
      cases this
      exact hle _ _ g2
    · rename_i hj
      have hkP : P.length ≤ k := by simpa using hj
      have hkl := (List.getElem?_eq_some_iff.1 hk').1
      show (if _ then _ else _) = _
      rw [if_pos ⟨by omega, by omega⟩, show id + k - id = k from by omega]; exact hk'
  have horg : ∀ b y, updW h (importOut h es P id bs') b = some y →
      (∃ (j : Nat) (x : Blk) (p : Pos), bs'[j]? = some x ∧ ps'[j]? = some p ∧ b = backN es P id j ∧ y = renB (backN es P id) x ∧ ρ' b = some p) ∨
      (∃ (x : Blk) (p : Pos), h b = some x ∧ y.dat = x.dat ∧ (y.own = true → x.own = true) ∧ ρ b = some p ∧ ρ' b = some p ∧ (∀ e ∈ es, e.blk.own = true → e.src ≠ some b) ∧ ((∃ z ∈ bs', z.own = false) → y.own = true → ∀ e ∈ es, e.src ≠ some b)) := by
    intro b y hb
    unfold importOut at hb
    rw [updW_append, updW_append] at hb
    rcases updW_get (backUpd (backN es P id) 0 bs') (updW (updW h (bif bs'.all (·.own) then [] else demote h es)) (dropOwn es)) b with h1 | ⟨h1, h2⟩
    · rw [hb] at h1
      obtain ⟨j, x, e1, e2, e3⟩ := mem_backUpd h1
      rw [Nat.zero_add] at e2
      cases e3
      have hj := (List.getElem?_eq_some_iff.1 e1).1
      have hp : ps'[j]? = some (ps'[j]'(by omega)) := List.getElem?_eq_getElem _
      exact .inl ⟨j, x, _, e1, hp, e2, rfl, by rw [e2]; exact hf j _ hp⟩
    · right
      rw [h2] at hb
      rcases updW_get (dropOwn es) (updW h (bif bs'.all (·.own) then [] else demote h es)) b with h3 | ⟨h3, h4⟩
      · rw [hb] at h3; have := mem_dropOwn h3; cases this
      · rw [h4] at hb
        have hno : ∀ e ∈ es, e.blk.own = true → e.src ≠ some b := fun e he ho hsrc => h3 none (dropOwn_mem he ho hsrc)
        rcases updW_get (bif bs'.all (·.own) then [] else demote h es) h b with h5 | ⟨h5, h6⟩
        · rw [hb] at h5
          cases ha : bs'.all (·.own) with
          | true => rw [ha, cond_true] at h5; cases h5
          | false =>
            rw [ha, cond_false] at h5
            obtain ⟨x, e1, e2⟩ := mem_demote h5
            cases e2
            obtain ⟨p, hp, _⟩ := hs.pos b x e1
            exact ⟨x, p, e1, rfl, fun h => (by cases h), hp, hle _ _ hp, hno, fun _ h => (by cases h)⟩
        · rw [h6] at hb
          obtain ⟨p, hp, _⟩ := hs.pos b y hb
          refine ⟨y, p, hb, rfl, fun h => h, hp, hle _ _ hp, hno, fun ⟨z, hz, hz2⟩ ho e he hsrc => ?_⟩
          cases heo : e.blk.own with
          | true => exact hno e he heo hsrc
          | false =>
            have hall : bs'.all (·.own) = false := by
              rw [List.all_eq_false]; exact ⟨z, hz, by rw [hz2]; simp⟩
            refine h5 (some ⟨false, y.dat⟩) ?_
            rw [hall, cond_false]
            exact demote_mem he heo hsrc hb
  have hname : ∀ (k : Nat) x p, bs[k]? = some x → ps[k]? = some p → ((x.own = true ∧ 0 < p.cap) ∨ Live p) → ∃ e b y q, es[k]? = some e ∧ e.src = some b ∧ h b = some y ∧ ρ b = some q ∧ p.block = q.block ∧ ((y.own = true ∧ 0 < q.cap ∧ e.blk.own = true) ∨ Live q) ∧ (x.own = e.blk.own) := by
    intro k x p hk hp hl
    have hke : k < es.length := by rw [← hx.ents]; exact (List.getElem?_eq_some_iff.1 hk).1
    obtain ⟨p', x', f1, f2, f3, f4, q', f5, frd, f6⟩ := hx.ent k _ (List.getElem?_eq_getElem hke)
    rw [hk] at f2; cases f2
    rw [hp] at f1; cases f1
    rw [f4] at f5; cases f5
    have hcap : 0 < p.cap := by
      rcases hl with hl | hl
      · exact hl.2
      · have := hl.1; have := frd.cap; omega
    cases hsr : (es[k]).src with
    | none => rw [hsr] at f6; simp only at f6; omega
    | some b =>
      rw [hsr] at f6
      obtain ⟨y, q, g1, g2, g3, g4, g5, g6, _⟩ := f6
      refine ⟨_, b, y, q, List.getElem?_eq_getElem hke, hsr, g1, g2, g3, ?_, f3⟩
      rcases hl with hl | hl
      · have ho : (es[k]).blk.own = true := by rw [← f3]; exact hl.1
        obtain ⟨y', hy', ho'⟩ := hx.own _ (List.getElem_mem hke) ho b hsr
        rw [g1] at hy'; cases hy'
        exact .inl ⟨ho', by omega, ho⟩
      · exact .inr (g6 hl)
  have hsubown : ∀ k, ownB (psRho ps) (blkH bs) k → ∃ e b y q, e ∈ es ∧ e.blk.own = true ∧ e.src = some b ∧ h b = some y ∧ y.own = true ∧ ρ b = some q ∧ 0 < q.cap ∧ q.block = k := by
    rintro k ⟨b, x, p, hb, ho, hp, h0, rfl⟩
    obtain ⟨e, c, y, q, e1, e2, e3, e4, e5, e6, e7⟩ := hname b x p hb hp (.inl ⟨ho, h0⟩)
    have heo : e.blk.own = true := by rw [← e7]; exact ho
    obtain ⟨y', hy', ho'⟩ := hx.own e (List.mem_of_getElem? e1) heo c e2
    rw [e3] at hy'; cases hy'
    refine ⟨e, c, y, q, List.mem_of_getElem? e1, heo, e2, e3, ho', e4, ?_, e5.symm⟩
    rcases e6 with e6 | e6
    · exact e6.2.1
    · obtain ⟨q', hq', _, _, h3, _⟩ := hs.pos c y e3
      rw [e4] at hq'; cases hq'
      have := e6.1; omega
  have hkeep : ∀ b x p, h b = some x → ρ b = some p → (∀ e ∈ es, e.blk.own = true → e.src ≠ some b) → ((x.own = true ∧ 0 < p.cap) ∨ Live p) → w'.heap[p.block]? = w.heap[p.block]? := by
    intro b x p hb hp hno hl
    refine hm.stp.ext.block _ (hs.lt hb hp hl) fun hO => ?_
    obtain ⟨e, c, y, q, e1, e2, e3, e4, e5, e6, e7, e8⟩ := hsubown _ hO
    have hne : c ≠ b := fun e => hno _ e1 e2 (by rw [e3, e])
    exact hs.apart c y q b x p e4 e5 e6 e7 hb hp hne hl e8
  have hcross : ∀ (j : Nat) x p b x0 p0 (y0 : Blk), bs'[j]? = some x → ps'[j]? = some p → ((x.own = true ∧ 0 < p.cap) ∨ Live p) → h b = some x0 → ρ b = some p0 → (y0.own = true → x0.own = true) → (∀ e ∈ es, e.blk.own = true → e.src ≠ some b) →
      ((∃ z ∈ bs', z.own = false) → y0.own = true → ∀ e ∈ es, e.src ≠ some b) → (((x.own = true ∧ 0 < p.cap) ∧ ((y0.own = true ∧ 0 < p0.cap) ∨ Live p0)) ∨ (y0.own = true ∧ 0 < p0.cap)) → p.block ≠ p0.block := by
    intro j x p b x0 p0 y0 hj hp hl hb hp0 hyx hno hno2 hcl
    have hl0 : (x0.own = true ∧ 0 < p0.cap) ∨ Live p0 := by
      rcases hcl with ⟨_, h1 | h1⟩ | h1
      · exact .inl ⟨hyx h1.1, h1.2⟩
      · exact .inr h1
      · exact .inl ⟨hyx h1.1, h1.2⟩
    have hlt := hs.lt hb hp0 hl0
    rcases hm.src j x p hj hp hl with h1 | ⟨k0, x1, p1, h1, h2, h3, h4⟩
    · omega
    · obtain ⟨e, c, y, q, e1, e2, e3, e4, e5, e6, e7⟩ := hname k0 x1 p1 h1 h2 h3
      have hqcap : 0 < q.cap := by
        rcases e6 with e6 | e6
        · exact e6.2.1
        · obtain ⟨q', hq', _, _, h3, _⟩ := hs.pos c y e3
          rw [e4] at hq'; cases hq'
          have := e6.1; omega
      rw [← h4, e5]
      by_cases hxo : x.own = true ∧ 0 < p.cap
      ·
        rcases hm.stp.sub p.block ⟨j, x, p, hj, hxo.1, hp, hxo.2, rfl⟩ with h5 | h5
        · obtain ⟨e', c', y', q', f1, f2, f3, f4, f5, f6, f7, f8⟩ := hsubown _ h5
          have hne : c' ≠ b := fun e => hno _ f1 f2 (by rw [f3, e])
          have := hs.apart c' y' q' b x0 p0 f4 f5 f6 f7 hb hp0 hne hl0
          rw [f8, ← h4, e5] at this; exact this
        · omega
      · have hy0 : y0.own = true ∧ 0 < p0.cap := by
          rcases hcl with h5 | h5
          · exact (hxo h5.1).elim
          · exact h5
        cases heo : e.blk.own with
        | true =>
          have hne : c ≠ b := fun h => hno e (List.mem_of_getElem? e1) heo (by rw [e2, h])
          obtain ⟨y', hy', ho'⟩ := hx.own e (List.mem_of_getElem? e1) heo c e2
          rw [e3] at hy'; cases hy'
          exact hs.apart c y q b x0 p0 e3 ho' e4 hqcap hb hp0 hne hl0
        | false =>
          by_cases hz : ∃ z ∈ bs', z.own = false
          · have hne : b ≠ c := fun h => hno2 hz hy0.1 e (List.mem_of_getElem? e1) (by rw [e2, h])
            have := hs.apart b x0 p0 c y q hb (hyx hy0.1) hp0 hy0.2 e3 e4 hne (by
              rcases e6 with e6 | e6
              · exact .inl ⟨e6.1, e6.2.1⟩
              · exact .inr e6)
            exact this.symm
          · exfalso
            have hxo' : x.own = true := by
              cases hxx : x.own with
              | true => rfl
              | false => exact (hz ⟨x, List.mem_of_getElem? hj, hxx⟩).elim
            have hpc : 0 < p.cap := by
              rcases hl with hl | hl
              · exact hl.2
              · obtain ⟨p', hp', _, _, h6, _⟩ := hc.sat.pos j x hj
                rw [show psRho ps' j = some p from hp] at hp'; cases hp'
                have := hl.1; omega
            exact hxo ⟨hxo', hpc⟩
  have hrd : ∀ (j : Nat) x p, bs'[j]? = some x → ps'[j]? = some p → RdP ρ' w' (renB (backN es P id) x).dat p := fun j x p hj hp => (hc.sat.rdP (b := j) hj hp).ren hf
  refine ⟨ρ', hle, ⟨fun b y hb => ?_, fun b y hb => ?_, fun b y p hb hp => ?_, fun b y p hb ho hp h0 => ?_, fun b y p b' y' p' hb ho hp h0 hb' hp' hne hl => ?_⟩, ⟨hm.stp.ext.mono fun k _ hk => ?_, ?_, ?_⟩, fun b hb hn => ?_, fun a v hv => V.ren hf a v hv⟩
  · rcases horg b y hb with ⟨j, x, p, e1, e2, e3, rfl, e4⟩ | ⟨x, p, e1, e2, e3, e4, e5, _⟩
    · have := hrd j x p e1 e2
      exact ⟨p, e4, this.stride, this.len, this.cap, this.max⟩
    · obtain ⟨q, hq, h1⟩ := hs.pos b x e1
      rw [e4] at hq; cases hq
      exact ⟨p, e5, by rw [e2]; exact h1⟩
  · rcases horg b y hb with ⟨j, x, p, e1, e2, e3, rfl, e4⟩ | ⟨x, p, e1, e2, e3, e4, e5, _⟩
    · exact (hrd j x p e1 e2).wf
    · rw [e2]; exact hs.wf b x e1
  · rcases horg b y hb with ⟨j, x, q, e1, e2, e3, rfl, e4⟩ | ⟨x, q, e1, e2, e3, e4, e5, e6, _⟩
    · rw [e4] at hp; cases hp
      exact (hrd j x p e1 e2).cells
    · rw [e5] at hp; cases hp
      intro i hi j av hav
      rw [e2] at hi hav
      obtain ⟨c, hcc, hv⟩ := hs.cells b x p e1 e4 i hi j av hav
      refine ⟨c, ?_, V.mono hle _ _ hv⟩
      have hwf := (hs.wf b x e1 i hi).1
      obtain ⟨q, hq, h1, h2, _⟩ := hs.pos b x e1
      rw [e4] at hq; cases hq
      have hj := (List.getElem?_eq_some_iff.1 hav).1
      have := hkeep b x p e1 e4 e6 (.inr ⟨by omega, by omega⟩)
      rw [World.cell?_of_block this]; exact hcc
  · rcases horg b y hb with ⟨j, x, q, e1, e2, e3, rfl, e4⟩ | ⟨x, q, e1, e2, e3, e4, e5, e6, _⟩
    · rw [e4] at hp; cases hp
      obtain ⟨cs, e, h1, h2, h3⟩ := hc.sat.own j x p e1 ho e2 h0
      exact ⟨cs, e, h1, h2, fun T hT => by
        have := h3.1 T (by rw [← renD_mark (backN es P id) x.dat]; exact hT)
        exact ⟨this.1, this.2.1, fun hg => (this.2.2 (by rw [← renD_gen (backN es P id) x.dat]; exact hg)).trans (renD_stride (backN es P id) x.dat).symm⟩, h3.2⟩
    · rw [e5] at hp; cases hp
      obtain ⟨cs, e, h1, h2⟩ := hs.own b x p e1 (e3 ho) e4 h0
      exact ⟨cs, e, by rw [hkeep b x p e1 e4 e6 (.inl ⟨e3 ho, h0⟩)]; exact h1, by rw [e2]; exact h2⟩
  · rcases horg b y hb with ⟨j, x, q, e1, e2, e3, rfl, e4⟩ | ⟨x, q, e1, e2, e3, e4, e5, e6, e7⟩
    · rw [e4] at hp; cases hp
      rcases horg b' y' hb' with ⟨j', x', q', f1, f2, f3, rfl, f4⟩ | ⟨x', q', f1, f2, f3, f4, f5, f6, f7⟩
      · rw [f4] at hp'; cases hp'
        refine hc.sat.apart j x p j' x' p' e1 ho e2 h0 f1 f2 (fun e => hne ?_) hl
        rw [e3, f3, e]
      · rw [f5] at hp'; cases hp'
        exact hcross j x p b' x' p' y' e1 e2 (.inl ⟨ho, h0⟩) f1 f4 f3 f6 f7 (.inl ⟨⟨ho, h0⟩, hl⟩)
    · rw [e5] at hp; cases hp
      rcases horg b' y' hb' with ⟨j', x', q', f1, f2, f3, rfl, f4⟩ | ⟨x', q', f1, f2, f3, f4, f5, f6, f7⟩
      · rw [f4] at hp'; cases hp'
        exact (hcross j' x' p' b x p y f1 f2 hl e1 e4 e3 e6 e7 (.inr ⟨ho, h0⟩)).symm
      · rw [f5] at hp'; cases hp'
        exact hs.apart b x p b' x' p' e1 (e3 ho) e4 h0 f1 f4 hne (hl.imp (fun h => ⟨f3 h.1, h.2⟩) fun h => h)
  · obtain ⟨e, c, y, q, _, _, _, f1, f2, f3, f4, f5⟩ := hsubown k hk
    exact ⟨c, y, q, f1, f2, f3, f4, f5⟩
  · rintro k ⟨b, y, p, hb, ho, hp, h0, rfl⟩
    rcases horg b y hb with ⟨j, x, q, e1, e2, e3, rfl, e4⟩ | ⟨x, q, e1, e2, e3, e4, e5, e6, e7⟩
    · rw [e4] at hp; cases hp
      rcases hm.stp.sub p.block ⟨j, x, p, e1, ho, e2, h0, rfl⟩ with h5 | h5
      · obtain ⟨e, c, y, q, _, _, _, f1, f2, f3, f4, f5⟩ := hsubown _ h5
        exact .inl ⟨c, y, q, f1, f2, f3, f4, f5⟩
      · exact .inr h5
    · rw [e5] at hp; cases hp
      exact .inl ⟨b, x, p, e1, e3 ho, e4, h0, rfl⟩
  · rintro k ⟨b, y, p, hb, hp, hl, rfl⟩
    rcases horg b y hb with ⟨j, x, q, e1, e2, e3, rfl, e4⟩ | ⟨x, q, e1, e2, e3, e4, e5, e6, e7⟩
    · rw [e4] at hp; cases hp
      rcases hm.src j x p e1 e2 hl with h5 | ⟨k0, x0, p0, h5, h6, h7, h8⟩
      · exact .inr h5
      · obtain ⟨e, c, z, r, f1, f2, f3, f4, f5, f6, f7⟩ := hname k0 x0 p0 h5 h6 h7
        refine .inl ⟨c, z, r, f3, f4, ?_, f5.symm.trans h8⟩
        rcases f6 with f6 | f6
        · exact .inl ⟨f6.1, f6.2.1⟩
        · exact .inr f6
    · rw [e5] at hp; cases hp
      exact .inl ⟨b, x, p, e1, e4, hl.imp (fun h => ⟨e3 h.1, h.2⟩) fun h => h, rfl⟩
  · have hb' : (if id + P.length ≤ b ∧ b < id + ps'.length then ps'[b - id]? else ρ b) ≠ none := hb
    split at hb'
    · rename_i h1; omega
    · exact (hb' hn).elim
end
end Go.Am
namespace Go.Am
structure FnAt (P : Program) (f : FuncId) (fn : Func) (c : Code) : Prop where
  func : P.funcs[f]? = some fn
  body : fn.body = some c
  name : fn.name ≠ "runtime.NumGoroutine"
def FnOk (E : Env) (f : FuncId) (s : FSpec) : Prop :=
  (∃ fn c, FnAt E.P f fn c) ∧
  ∀ (vs : List AV) (bs : List Blk) (out : Out), (s vs bs).sel = some out → ∀ (w : World) (cargs : List Value) (ps : List Pos), CfgOk E w bs ps → VL (psRho ps) vs cargs →
    Calls E.P f cargs.toArray w fun e w' => ∃ cv ps', e = .returned cv ∧ CfgOk E w' out.blks ps' ∧ V (psRho ps') (oneOrTup out.vals) cv ∧ Mv w bs ps w' out.blks ps' ∧ ∀ (j : Nat) k, (pers vs bs)[j]? = some k → ps'[j]? = ps[k]?
section
variable {E : Env} {ρ : Rho} {h h' : Heap} {w : World}
theorem specC_call {S : FuncId → Option (List Nat × FSpec)} (hS : ∀ f s, S f = some s → FnOk E f s.2) : CallOk E (specC E S) := by
  intro f args h id v W hsel
  unfold specC at hsel
  split at hsel
  · simp [T.sel] at hsel
  · rename_i s hs
    obtain ⟨⟨fn0, c, hat⟩, hcalls⟩ := hS f s hs
    split at hsel
    · simp [T.sel] at hsel
    · rename_i fn hfn
      have hff : fn0 = fn := by have := hat.func; rw [hfn] at this; exact (Option.some.inj this).symm
      subst hff
      split at hsel
      · simp [T.sel] at hsel
      · rename_i vs bs es hx
        obtain ⟨out, h1, h2⟩ := T.bind_sel _ _ _ hsel
        cases hc : (Nat.ble out.blks.length 64 && persOk es (pers vs bs)) with
        | false => rw [hc] at h2; simp [T.sel] at h2
        | true =>
          rw [hc, cond_true] at h2
          simp only [T.sel, Option.some.injEq, Prod.mk.injEq] at h2
          obtain ⟨rfl, rfl⟩ := h2
          simp only [Bool.and_eq_true] at hc
          refine ⟨⟨fn0, hfn, by rw [hat.body]; rfl, hat.name⟩, fun ρ w cargs hsat hg hargs hid => ?_⟩
          obtain ⟨ps, hxo⟩ := expAll_ok hsat hg hx hargs
          refine (hcalls vs bs out h1 w cargs ps hxo.cfg hxo.vals).mono fun e w' ⟨cv, ps', he, hcfg, hcv, hmv, hsame⟩ => ?_
          obtain ⟨ρ', g1, g2, g3, g4, g5⟩ := import_ok (id := id) (m := 64) hsat hxo hc.2 hcfg hmv hsame (fun b h1 h2 => hid b h1 h2) (Nat.le_of_ble_eq_true hc.1)
          exact ⟨cv, ρ', he, g1, by rw [oneOrTup_ren]; exact g5 _ _ hcv, g2, g3, g4⟩
mutual
theorem visA_mono {fl : Fl} (hl : HLe h h') : ∀ (g : Nat) (t : TypeId) (a : AV) (es : List Ent) (r : AV × List Ent), visA E h fl g t a es = some r → visA E h' fl g t a es = some r
  | 0, t, a, es, r, he => by simp [visA] at he
  | g + 1, t, a, es, r, he => by
    unfold visA at he ⊢
    split at he <;> first | exact he | skip
    · split at he
      · rename_i x hx; simp only [hl _ _ hx]
        cases hfl : fl es.length false x.own with
        | true =>
          rw [hfl, cond_true] at he
          rw [cond_true]
          exact he
        | false =>
          rw [hfl, cond_false] at he
          rw [cond_false]; exact he
      · cases he
    · split at he
      · rename_i x hx; simp only [hl _ _ hx]
        cases hfl : fl es.length false x.own with
        | true =>
          rw [hfl, cond_true] at he
          rw [cond_true]
          exact he
        | false =>
          rw [hfl, cond_false] at he
          rw [cond_false]; exact he
      · cases he
    · split at he
      · exact he
      · split at he
        · rename_i x hx; simp only [hl _ _ hx]; exact he
        · cases he
    · split at he
      · rename_i us es1 h1
        split at he
        · rename_i cs es2 h2
          simp only [visL_mono hl g _ _ _ _ h1, visL_mono hl g _ _ _ _ h2]; exact he
        · cases he
      · cases he
    · split at he
      · rename_i x es1 h1
        simp only [visA_mono hl g _ _ _ _ h1]; exact he
      · cases he
    · split at he
      · rename_i x es1 h1
        simp only [visL_mono hl g _ _ _ _ h1]; exact he
      · cases he
theorem visL_mono {fl : Fl} (hl : HLe h h') : ∀ (g : Nat) (ts : List TypeId) (as : List AV) (es : List Ent) (r : List AV × List Ent), visL E h fl g ts as es = some r → visL E h' fl g ts as es = some r
  | g, ts, [], es, r, he => by cases g <;> simpa only [visL] using he
  | 0, ts, a :: as, es, r, he => by simp [visL] at he
  | g + 1, ts, a :: as, es, r, he => by
    unfold visL at he ⊢
    split at he
    · rename_i a1 es1 h1
      split at he
      · rename_i as1 es2 h2
        simp only [visA_mono hl g _ _ _ _ h1, visL_mono hl g _ _ _ _ h2]; exact he
      · cases he
    · cases he
end
theorem visRows_mono {fl : Fl} (hl : HLe h h') {tys : List TypeId} : ∀ (rows : List (List AV)) (es : List Ent) (r : List (List AV) × List Ent), visRows E h fl tys rows es = some r → visRows E h' fl tys rows es = some r
  | [], es, r, he => he
  | x :: xs, es, r, he => by
    unfold visRows at he ⊢
    split at he
    · rename_i a1 es1 h1
      split at he
      · rename_i as1 es2 h2
        simp only [visL_mono hl _ _ _ _ _ h1, visRows_mono hl _ _ _ h2]; exact he
      · cases he
    · cases he
theorem visD_mono {fl : Fl} (hl : HLe h h') {d : Dat} {es : List Ent} {r : Dat × List Ent} (he : visD E h fl d es = some r) : visD E h' fl d es = some r := by
  cases d with
  | gen tys rows =>
    unfold visD at he ⊢
    simp only at he ⊢
    split at he
    · rename_i a1 es1 h1
      simp only [visRows_mono hl _ _ _ h1]; exact he
    · cases he
  | _ => exact he
theorem visGo_mono {fl : Fl} (hl : HLe h h') : ∀ (f k : Nat) (es : List Ent) (r : List Blk × List Ent), visGo E h fl f k es = some r → visGo E h' fl f k es = some r
  | 0, k, es, r, he => by simp [visGo] at he
  | f + 1, k, es, r, he => by
    unfold visGo at he ⊢
    split at he
    · exact he
    · split at he
      · rename_i d es1 h1
        split at he
        · rename_i bs1 es2 h2
          simp only [visD_mono hl h1, visGo_mono hl f _ _ _ h2]; exact he
        · cases he
      · cases he
theorem entsOk_mono (hl : HLe h h') : ∀ {es : List Ent}, entsOk h es = true → entsOk h' es = true
  | [], he => he
  | x :: r, he => by
    simp only [entsOk, Bool.and_eq_true] at he ⊢
    refine ⟨⟨?_, he.1.2⟩, entsOk_mono hl he.2⟩
    have := he.1.1
    split at this
    · split at this
      · rename_i y hy; rw [hl _ _ hy]; exact this
      · cases this
    · rfl
theorem demote_mono (hl : HLe h h') : ∀ {es : List Ent}, (∀ e ∈ es, ∀ b, e.src = some b → ∃ y, h b = some y) → demote h' es = demote h es
  | [], _ => rfl
  | e :: r, hs => by
    unfold demote
    have ih := demote_mono hl (es := r) fun e he => hs e (List.mem_cons_of_mem _ he)
    rw [ih]
    split
    · rename_i b hb
      obtain ⟨y, hy⟩ := hs e (List.mem_cons_self ..) b hb
      rw [hy, hl _ _ hy]
    · rfl
theorem expAll_mono {fl : Fl} (hl : HLe h h') {ts : List TypeId} {as : List AV} {r : List AV × List Blk × List Ent} (he : expAll E h fl ts as = some r) : expAll E h' fl ts as = some r := by
  unfold expAll at he ⊢
  split at he
  · rename_i vs es h1
    split at he
    · rename_i bs es2 h2
      simp only [visL_mono hl _ _ _ _ _ h1, visGo_mono hl _ _ _ _ h2]
      cases hk : (entsOk h es2 && Nat.ble bs.length 1000) with
      | false => simp [hk] at he
      | true =>
        simp only [Bool.and_eq_true] at hk
        simp only [entsOk_mono hl hk.1, hk.2]
        rw [hk.1, hk.2] at he; exact he
    · cases he
  · cases he
theorem expAll_some {fl : Fl} {ts : List TypeId} {as vs : List AV} {bs : List Blk} {es : List Ent} (he : expAll E h fl ts as = some (vs, bs, es)) : ∀ e ∈ es, ∀ b, e.src = some b → ∃ y, h b = some y := by
  unfold expAll at he
  split at he
  · split at he
    · rename_i vs1 es1 h1 bs2 es2 h2
      cases hk : (entsOk h es2 && Nat.ble bs2.length 1000) with
      | false => simp [hk] at he
      | true =>
        rw [hk, cond_true] at he
        cases he
        simp only [Bool.and_eq_true] at hk
        intro e he b hb
        obtain ⟨y, hy, _⟩ := entsOk_some hk.1 e he b hb
        exact ⟨y, hy⟩
    · cases he
  · cases he
theorem specC_mono (S : FuncId → Option (List Nat × FSpec)) : CallMono (specC E S) := by
  intro f args h h' id hl r hr
  unfold specC at hr ⊢
  split at hr
  · simp [T.sel] at hr
  · split at hr
    · simp [T.sel] at hr
    · split at hr
      · simp [T.sel] at hr
      · rename_i hx
        rw [expAll_mono hl hx]
        simp only
        have : ∀ P id bs, importOut h' _ P id bs = importOut h _ P id bs := fun P id bs => by
          unfold importOut
          rw [demote_mono hl (expAll_some hx)]
        simp only [this]
        exact hr
theorem specC_ok {S : FuncId → Option (List Nat × FSpec)} (hS : ∀ f s, S f = some s → FnOk E f s.2) : CG E (specC E S) := ⟨specC_call hS, specC_mono S⟩
end
end Go.Am
namespace Go.Am
mutual
theorem persA_mem {bs : List Blk} : ∀ (a : AV) (acc : List Nat), (∀ k ∈ acc, ∃ x, bs[k]? = some x ∧ x.own = true) → ∀ k ∈ persA bs a acc, ∃ x, bs[k]? = some x ∧ x.own = true
  | .ptr k _ _, acc, ha, j, hj => by
    unfold persA at hj
    split at hj
    · rename_i x hx
      cases hc : (x.own && !memb acc k) with
      | true =>
        rw [hc, cond_true] at hj
        simp only [Bool.and_eq_true] at hc
        rcases List.mem_append.1 hj with h | h
        · exact ha j h
        · simp only [List.mem_singleton] at h; subst h; exact ⟨x, hx, hc.1⟩
      | false => rw [hc, cond_false] at hj; exact ha j hj
    · exact ha j hj
  | .fn _ us cs, acc, ha, j, hj => by
    unfold persA at hj
    exact persL_mem cs _ (persL_mem us acc ha) j hj
  | .iface _ x, acc, ha, j, hj => by unfold persA at hj; exact persA_mem x acc ha j hj
  | .agg cs, acc, ha, j, hj => by unfold persA at hj; exact persL_mem cs acc ha j hj
  | .any, acc, ha, j, hj => by simp only [persA] at hj; exact ha j hj
  | .bool _, acc, ha, j, hj => by simp only [persA] at hj; exact ha j hj
  | .int .., acc, ha, j, hj => by simp only [persA] at hj; exact ha j hj
  | .str _, acc, ha, j, hj => by simp only [persA] at hj; exact ha j hj
  | .nilp, acc, ha, j, hj => by simp only [persA] at hj; exact ha j hj
  | .nils, acc, ha, j, hj => by simp only [persA] at hj; exact ha j hj
  | .slw _, acc, ha, j, hj => by simp only [persA] at hj; exact ha j hj
  | .sl .., acc, ha, j, hj => by simp only [persA] at hj; exact ha j hj
  | .nilf, acc, ha, j, hj => by simp only [persA] at hj; exact ha j hj
  | .nili, acc, ha, j, hj => by simp only [persA] at hj; exact ha j hj
  | .foc .., acc, ha, j, hj => by simp only [persA] at hj; exact ha j hj
  | .tup _, acc, ha, j, hj => by simp only [persA] at hj; exact ha j hj
theorem persL_mem {bs : List Blk} : ∀ (as : List AV) (acc : List Nat), (∀ k ∈ acc, ∃ x, bs[k]? = some x ∧ x.own = true) → ∀ k ∈ persL bs as acc, ∃ x, bs[k]? = some x ∧ x.own = true
  | [], acc, ha, j, hj => by simp only [persL] at hj; exact ha j hj
  | a :: r, acc, ha, j, hj => by unfold persL at hj; exact persL_mem r _ (persA_mem a acc ha) j hj
end
theorem persRows_mem {bs : List Blk} : ∀ (rs : List (List AV)) (acc : List Nat), (∀ k ∈ acc, ∃ x, bs[k]? = some x ∧ x.own = true) → ∀ k ∈ persRows bs rs acc, ∃ x, bs[k]? = some x ∧ x.own = true
  | [], _, h => h
  | r :: rs, acc, h => persRows_mem rs _ (persL_mem r acc h)
theorem persGo_mem {bs : List Blk} : ∀ (f j : Nat) (acc : List Nat), (∀ k ∈ acc, ∃ x, bs[k]? = some x ∧ x.own = true) → ∀ k ∈ persGo bs f j acc, ∃ x, bs[k]? = some x ∧ x.own = true
  | 0, _, _, h => h
  | f + 1, j, acc, h => by
    unfold persGo
    split
    · exact h
    · refine persGo_mem f _ _ ?_
      split
      · exact persRows_mem _ _ h
      · exact h
theorem pers_mem {vs : List AV} {bs : List Blk} {k : Nat} (hk : k ∈ pers vs bs) : ∃ x, bs[k]? = some x ∧ x.own = true := persGo_mem gas 0 _ (persL_mem vs [] (fun _ h => by cases h)) k hk
def startRho (E : Env) (ps : List Pos) : Rho := fun b =>
  bif Nat.ble globBase b then (E.glob (b - globBase)).map (globPos (b - globBase)) else ps[b]?
section
variable {E : Env} {ρ : Rho} {h : Heap} {w w' : World}
theorem ExpOk.name {vs : List AV} {cvs : List Value} {bs : List Blk} {es : List Ent} {ps : List Pos} (hx : ExpOk E ρ h w vs cvs bs es ps) (k : Nat) (x : Blk) (p : Pos) (hk : bs[k]? = some x) (hp : ps[k]? = some p) (hl : (x.own = true ∧ 0 < p.cap) ∨ Live p) :
    ∃ e b y q, es[k]? = some e ∧ e.src = some b ∧ h b = some y ∧ ρ b = some q ∧ p.block = q.block ∧ 0 < q.cap ∧ (Live p → Live q) ∧ (e.blk.own = true → y.own = true) ∧ x.own = e.blk.own := by
  have hke : k < es.length := by rw [← hx.ents]; exact (List.getElem?_eq_some_iff.1 hk).1
  obtain ⟨p', x', f1, f2, f3, f4, q', f5, frd, f6⟩ := hx.ent k _ (List.getElem?_eq_getElem hke)
  rw [hk] at f2; cases f2
  rw [hp] at f1; cases f1
  rw [f4] at f5; cases f5
  have hcap : 0 < p.cap := by
    rcases hl with hl | hl
    · exact hl.2
    · have := hl.1; have := frd.cap; omega
  cases hsr : (es[k]).src with
  | none => rw [hsr] at f6; simp only at f6; omega
  | some b =>
    rw [hsr] at f6
    obtain ⟨y, q, g1, g2, g3, g4, g5, g6, _⟩ := f6
    exact ⟨_, b, y, q, List.getElem?_eq_getElem hke, hsr, g1, g2, g3, by omega, g6, fun ho => by
      obtain ⟨y', hy', ho'⟩ := hx.own _ (List.getElem_mem hke) ho b hsr
      rw [g1] at hy'; cases hy'; exact ho', f3⟩
theorem glob_false {E : Env} {bs : List Blk} {ps : List Pos} (hc : CfgOk E w bs ps) {b : Nat} {p : Pos} (hb : ps[b]? = some p) : Nat.ble globBase b = false := by
  have := (List.getElem?_eq_some_iff.1 hb).1
  have := hc.len; have := hc.few
  cases hbb : Nat.ble globBase b with
  | false => rfl
  | true => have := Nat.le_of_ble_eq_true hbb; simp only [globBase] at this; omega
theorem startRho_get {bs : List Blk} {ps : List Pos} (hc : CfgOk E w bs ps) {b : Nat} {p : Pos} (hb : ps[b]? = some p) : startRho E ps b = some p := by
  unfold startRho; rw [glob_false hc hb, cond_false]; exact hb
theorem listT_get : ∀ (l : List AV) (i : Nat), listT l i = (l[i]?).getD .any
  | [], i => by simp [listT]
  | v :: r, 0 => by simp [listT]
  | v :: r, i + 1 => by simp [listT, listT_get r i]
theorem start_satH {bs : List Blk} {ps : List Pos} (hc : CfgOk E w bs ps) :
    SatH (startRho E ps) (startH E bs) w ∧ (∀ k, ownB (startRho E ps) (startH E bs) k → ownB (psRho ps) (blkH bs) k) ∧ (∀ k, ownB (psRho ps) (blkH bs) k → ownB (startRho E ps) (startH E bs) k) ∧ (psRho ps).le (startRho E ps) := by
  have hle : (psRho ps).le (startRho E ps) := fun b p hb => startRho_get hc hb
  have horg : ∀ b x, startH E bs b = some x → (bs[b]? = some x ∧ ∃ p, ps[b]? = some p ∧ startRho E ps b = some p) ∨ (∃ g d, b = globBase + g ∧ E.glob g = some d ∧ x = ⟨false, d⟩ ∧ startRho E ps b = some (globPos g d)) := by
    intro b x hb
    unfold startH at hb
    cases hbb : Nat.ble globBase b with
    | true =>
      right
      rw [hbb, cond_true, Option.map_eq_some_iff] at hb
      obtain ⟨d, hd, rfl⟩ := hb
      have := Nat.le_of_ble_eq_true hbb
      exact ⟨b - globBase, d, by omega, hd, rfl, by unfold startRho; rw [hbb, cond_true, hd]; rfl⟩
    | false =>
      left
      rw [hbb, cond_false] at hb
      have hlt := (List.getElem?_eq_some_iff.1 hb).1
      have hp : ps[b]? = some (ps[b]'(by have := hc.len; omega)) := List.getElem?_eq_getElem _
      exact ⟨hb, _, hp, startRho_get hc hp⟩
  have hown : ∀ k, ownB (startRho E ps) (startH E bs) k → ownB (psRho ps) (blkH bs) k := by
    rintro k ⟨b, x, p, hb, ho, hp, h0, rfl⟩
    rcases horg b x hb with ⟨h1, q, h2, h3⟩ | ⟨g, d, rfl, h1, rfl, h2⟩
    · rw [h3] at hp; cases hp
      exact ⟨b, x, p, h1, ho, h2, h0, rfl⟩
    · cases ho
  refine ⟨⟨fun b x hb => ?_, fun b x hb => ?_, fun b x p hb hp => ?_, fun b x p hb ho hp h0 => ?_, fun b x p b' x' p' hb ho hp h0 hb' hp' hne hl => ?_⟩, hown, ?_, hle⟩
  · rcases horg b x hb with ⟨h1, q, h2, h3⟩ | ⟨g, d, rfl, h1, rfl, h2⟩
    · obtain ⟨p, hp, r⟩ := hc.sat.pos b x h1
      exact ⟨p, hle _ _ hp, r⟩
    · exact (hc.g.laid g d h1).elim
  · rcases horg b x hb with ⟨h1, q, h2, h3⟩ | ⟨g, d, rfl, h1, rfl, h2⟩
    · exact hc.sat.wf b x h1
    · exact (hc.g.laid g d h1).elim
  · rcases horg b x hb with ⟨h1, q, h2, h3⟩ | ⟨g, d, rfl, h1, rfl, h2⟩
    · rw [h3] at hp; cases hp
      intro i hi j av hav
      obtain ⟨c, hcc, hv⟩ := hc.sat.cells b x p h1 h2 i hi j av hav
      exact ⟨c, hcc, V.mono hle _ _ hv⟩
    · exact (hc.g.laid g d h1).elim
  · rcases horg b x hb with ⟨h1, q, h2, h3⟩ | ⟨g, d, rfl, h1, rfl, h2⟩
    · rw [h3] at hp; cases hp
      exact hc.sat.own b x p h1 ho h2 h0
    · cases ho
  · rcases horg b x hb with ⟨h1, q, h2, h3⟩ | ⟨g, d, rfl, h1, rfl, h2⟩
    · rw [h3] at hp; cases hp
      rcases horg b' x' hb' with ⟨f1, q', f2, f3⟩ | ⟨g, d, rfl, f1, rfl, f2⟩
      · rw [f3] at hp'; cases hp'
        exact hc.sat.apart b x p b' x' p' h1 ho h2 h0 f1 f2 hne hl
      · exact (hc.g.laid g d f1).elim
    · cases ho
  · rintro k ⟨b, x, p, hb, ho, hp, h0, rfl⟩
    refine ⟨b, x, p, ?_, ho, hle _ _ hp, h0, rfl⟩
    unfold startH
    rw [glob_false hc hp, cond_false]; exact hb
theorem start_live {bs : List Blk} {ps : List Pos} (hc : CfgOk E w bs ps) {k : Nat} (hk : liveB (startRho E ps) (startH E bs) k) : liveB (psRho ps) (blkH bs) k := by
  obtain ⟨b, x, p, hb, hp, hl, rfl⟩ := hk
  unfold startH at hb
  cases hbb : Nat.ble globBase b with
  | true =>
    rw [hbb, cond_true, Option.map_eq_some_iff] at hb
    obtain ⟨d, hd, rfl⟩ := hb
    exact (hc.g.laid _ d hd).elim
  | false =>
    rw [hbb, cond_false] at hb
    have hlt := (List.getElem?_eq_some_iff.1 hb).1
    have hp2 : ps[b]? = some (ps[b]'(by have := hc.len; omega)) := List.getElem?_eq_getElem _
    rw [startRho_get hc hp2] at hp; cases hp
    exact ⟨b, x, _, hb, hp2, hl, rfl⟩
theorem ExpOk.mvp {bs bs' : List Blk} {ps ps' : List Pos} (hc : CfgOk E w bs ps) (hst : Stp (domB (startRho E ps) (startH E bs)) (domB ρ h) w w') {vs : List AV} {cvs : List Value} {es : List Ent} (hxo : ExpOk E ρ h w' vs cvs bs' es ps') : Mv w bs ps w' bs' ps' := by
  obtain ⟨_, hs1, hs2, _⟩ := start_satH hc
  have hlive : ∀ (k : Nat) x p, bs'[k]? = some x → ps'[k]? = some p → ((x.own = true ∧ 0 < p.cap) ∨ Live p) → liveB (psRho ps) (blkH bs) p.block ∨ w.heap.size ≤ p.block := by
    intro k x p hb hp hl
    obtain ⟨e, c, y, q, e1, e2, e3, e4, e5, e6, e7, e8, e9⟩ := hxo.name k x p hb hp hl
    have : liveB ρ h p.block := ⟨c, y, q, e3, e4, by
      rcases hl with hl | hl
      · exact .inl ⟨e8 (by rw [← e9]; exact hl.1), e6⟩
      · exact .inr (e7 hl), e5.symm⟩
    rcases hst.src _ this with h1 | h1
    · exact .inl (start_live hc h1)
    · exact .inr h1
  refine ⟨⟨hst.ext.mono fun k _ hk => hs1 k hk, ?_, ?_⟩, ?_⟩
  · rintro k ⟨b, x, p, hb, ho, hp, h0, rfl⟩
    obtain ⟨e, c, y, q, e1, e2, e3, e4, e5, e6, _, e8, e9⟩ := hxo.name b x p hb hp (.inl ⟨ho, h0⟩)
    have : ownB ρ h p.block := ⟨c, y, q, e3, e8 (by rw [← e9]; exact ho), e4, e6, e5.symm⟩
    rcases hst.sub _ this with h1 | h1
    · exact .inl (hs1 _ h1)
    · exact .inr h1
  · rintro k ⟨b, x, p, hb, hp, hl, rfl⟩
    exact hlive b x p hb hp hl
  · intro k x p hb hp hl
    rcases hlive k x p hb hp hl with ⟨b, y, q, h1, h2, h3, h4⟩ | h1
    · exact .inr ⟨b, y, q, h1, h2, h3, h4⟩
    · exact .inl h1
theorem expEnd_ok {n : Nat} {P : List Nat} {bs : List Blk} {ps : List Pos} (hc : CfgOk E w bs ps) (_hn : n = bs.length) (hP : ∀ k ∈ P, ∃ x, bs[k]? = some x ∧ x.own = true)
    (hs : SatH ρ h w') (hg : GOk E (ownB ρ h) w') (hle : (startRho E ps).le ρ) (hst : Stp (domB (startRho E ps) (startH E bs)) (domB ρ h) w w') {ts : List TypeId} {l : List AV} {out : Out} (he : (expEnd E h n P ts l).sel = some out) {cvs : List Value} (hv : VL ρ l cvs) :
    ∃ ps', CfgOk E w' out.blks ps' ∧ VL (psRho ps') out.vals cvs ∧ Mv w bs ps w' out.blks ps' ∧ ∀ (j : Nat) k, P[j]? = some k → ps'[j]? = ps[k]? := by
  obtain ⟨_, hs1, hs2, hle0⟩ := start_satH hc
  have hpsn : ∀ k ∈ P, ∃ p, ps[k]? = some p := fun k hk => by
    obtain ⟨x, hx, _⟩ := hP k hk
    have := (List.getElem?_eq_some_iff.1 hx).1
    exact ⟨ps[k]'(by have := hc.len; omega), List.getElem?_eq_getElem _⟩
  have hptr : ∃ pv : List Value, VL ρ (ptrs P) pv := by
    clear he
    induction P with
    | nil => exact ⟨[], by simp [ptrs, VL]⟩
    | cons k P ih =>
      obtain ⟨pv, h1⟩ := ih (fun k hk => hP k (List.mem_cons_of_mem _ hk)) fun k hk => hpsn k (List.mem_cons_of_mem _ hk)
      obtain ⟨p, hp⟩ := hpsn k (List.mem_cons_self ..)
      refine ⟨.pointer (some (p.addr 0 0)) :: pv, ?_⟩
      simp only [ptrs, List.map_cons, VL]
      exact ⟨_, pv, rfl, by simp only [V]; exact ⟨p, hle _ _ (startRho_get hc hp), rfl⟩, h1⟩
  obtain ⟨pv, hpv⟩ := hptr
  unfold expEnd at he
  split at he
  · rename_i vs bs' es hx
    cases hk : sameBoxes P es with
    | false => rw [hk] at he; simp [T.sel] at he
    | true =>
      rw [hk, cond_true] at he
      simp only [T.sel, Option.some.injEq] at he
      subst he
      have hk1 := hk
      obtain ⟨ps', hxo⟩ := expAll_ok hs hg hx (hpv.append hv)
      refine ⟨ps', hxo.cfg, ?_, hxo.mvp hc hst, ?_⟩
      · have hpl : pv.length = P.length := by rw [hpv.length]; simp [ptrs]
        have := hxo.vals.drop P.length
        rwa [← hpl, List.drop_left, hpl] at this
      · have hsb : ∀ (P : List Nat) (es : List Ent), sameBoxes P es = true → ∀ (j : Nat) k, P[j]? = some k → ∃ e, es[j]? = some e ∧ e.box = true ∧ e.src = some k := by
          intro P
          induction P with
          | nil => intro es _ j k hj; simp at hj
          | cons z P ih =>
            intro es hsb j k hj
            cases es with
            | nil => simp [sameBoxes] at hsb
            | cons e es =>
              simp only [sameBoxes, Bool.and_eq_true] at hsb
              cases j with
              | zero =>
                simp at hj; subst hj
                refine ⟨e, rfl, hsb.1.1, ?_⟩
                have := hsb.1.2
                unfold srcIs at this
                split at this
                · rename_i c hc'; rw [hc', Nat.eq_of_beq_eq_true this]
                · cases this
              | succ j => exact ih es hsb.2 j k (by simpa using hj)
        intro j k hj
        obtain ⟨e, e1, e2, e3⟩ := hsb P es hk1 j k hj
        obtain ⟨p, x, f1, f2, f3, f4, q', f5, f6, f7⟩ := hxo.ent j e e1
        rw [f4] at f5; cases f5
        rw [e3] at f7
        obtain ⟨y, r, g1, g2, _, _, _, _, g3⟩ := f7
        have := g3.1 e2; subst this
        obtain ⟨p0, hp0⟩ := hpsn k (List.mem_of_getElem? hj)
        have := hle _ _ (startRho_get hc hp0)
        rw [g2] at this; cases this
        rw [f1, hp0]
  · simp [T.sel] at he
theorem start_sat {bs : List Blk} {ps : List Pos} (hc : CfgOk E w bs ps) {fn : Func} {vs : List AV} {cargs : List Value} (hv : VL (psRho ps) vs cargs) (h1 : vs.length ≤ fn.ntmps) :
    Sat E (startRho E ps) (startSt E fn vs bs) { tmps := cargs.toArray ++ Array.replicate (fn.ntmps - cargs.toArray.size) undef, defers := [] } w := by
  obtain ⟨hsat, hs1, hs2, hle⟩ := start_satH hc
  have hcl : cargs.length = vs.length := hv.length
  refine ⟨hsat, ⟨hc.g.laid, hc.g.size, hc.g.base, fun k hk => hc.g.own k (hs1 k hk)⟩, ?_, ?_, ?_, ?_⟩
  · simp [startSt]; omega
  · intro i
    simp only [startSt]
    rw [listT_get]
    cases hi : vs[i]? with
    | none => simp [V]
    | some a =>
      obtain ⟨v, hvv, hV⟩ := hv.get hi
      have hlt := (List.getElem?_eq_some_iff.1 hvv).1
      have : (cargs.toArray ++ Array.replicate (fn.ntmps - cargs.toArray.size) undef).getD i undef = v := by
        rw [Array.getD_eq_getD_getElem?, Array.getElem?_append_left (by simpa using hlt)]
        simp [hvv]
      rw [this]; exact V.mono hle _ _ hV
  · intro b hb
    simp only [startSt]
    cases hbb : Nat.ble globBase b with
    | true => exact .inr (Nat.le_of_ble_eq_true hbb)
    | false =>
      left
      unfold startRho at hb
      rw [hbb, cond_false] at hb
      have : b < ps.length := by
        rcases Nat.lt_or_ge b ps.length with h | h
        · exact h
        · rw [List.getElem?_eq_none h] at hb; exact (hb rfl).elim
      have := hc.len; have := hc.few
      omega
  · intro g p hp
    unfold startRho at hp
    have hbb : Nat.ble globBase (globBase + g) = true := Nat.ble_eq_true_of_le (Nat.le_add_right _ _)
    rw [hbb, cond_true] at hp
    simp only [Option.map_eq_some_iff] at hp
    obtain ⟨d, _, rfl⟩ := hp
    simp [globPos]
theorem resultsR_ok (hs : SatH ρ h w) {st : AState} (hh : st.h = h) {tmps : Array Value} (ht : ∀ i, V ρ (st.t i) (tmps.getD i undef)) : ∀ (rs : List ResultVar) (l : List AV), (resultsR E st rs).sel = some l →
    ∃ vs : List Value, (rs.mapM fun
      | .tmp t => pure (tmps.getD t undef)
      | .cell a t => do loadVar t (← asAddr (tmps.getD a undef)) : Sem (List Value)).run E.P w = .ok vs w ∧ VL ρ l vs
  | [], l, hsel => by
    simp only [resultsR, T.sel, Option.some.injEq] at hsel
    subst hsel
    exact ⟨[], by simp, by simp [VL]⟩
  | .tmp t :: r, l, hsel => by
    unfold resultsR at hsel
    obtain ⟨l', h1, h2⟩ := T.bind_sel _ _ _ hsel
    simp only [T.sel, Option.some.injEq] at h2
    subst h2
    obtain ⟨vs, hr, hv⟩ := resultsR_ok hs hh ht r l' h1
    refine ⟨tmps.getD t undef :: vs, ?_, ?_⟩
    · rw [List.mapM_cons]
      simp only [Sem.run_bind, Sem.run_pure, Result.andThen_ok, hr]
    · simp only [VL]; exact ⟨_, vs, rfl, ht t, hv⟩
  | .cell a t :: r, l, hsel => by
    unfold resultsR at hsel
    obtain ⟨⟨v, W⟩, h0, h1'⟩ := T.bind_sel _ _ _ hsel
    obtain ⟨l', h1, h2⟩ := T.bind_sel _ _ _ h1'
    simp only [T.sel, Option.some.injEq] at h2
    subst h2
    obtain ⟨vs, hr, hv⟩ := resultsR_ok hs hh ht r l' h1
    rw [hh] at h0
    obtain ⟨_, cv, hcv, hV⟩ := loadR_pure hs t _ (ht a) v W h0
    refine ⟨cv :: vs, ?_, ?_⟩
    · rw [List.mapM_cons]
      have : (do loadVar t (← asAddr (tmps.getD a undef)) : Sem Value).run E.P w = .ok cv w := by
        have hVa := ht a
        unfold loadR at h0
        split at h0
        · rename_i b i j he
          rw [he] at hVa
          simp only [V] at hVa
          obtain ⟨p, _, hpa⟩ := hVa
          rw [hpa] at hcv ⊢
          simpa [asAddr, Instr.loadAt, Instr.sureAddr] using hcv
        · simp [T.sel] at h0
      simp only [Sem.run_bind] at this ⊢
      simp only [this, Result.andThen_ok, Sem.run_pure, hr]
    · simp only [VL]; exact ⟨_, vs, rfl, hV, hv⟩
theorem oneOrTup_V {xs : List AV} {vs : List Value} (hv : VL ρ xs vs) : V ρ (oneOrTup xs) (if h : vs.toArray.size = 1 then vs.toArray[0] else .tuple vs.toArray) := by
  cases xs with
  | nil => simp only [VL] at hv; subst hv; simp [oneOrTup, V, VL]
  | cons x r =>
    cases r with
    | nil =>
      simp only [VL] at hv
      obtain ⟨v, us, rfl, h1, rfl⟩ := hv
      simpa [oneOrTup] using h1
    | cons y r =>
      have h' := hv
      simp only [VL] at hv
      obtain ⟨v, us, rfl, h1, v2, us2, rfl, h3, h4⟩ := hv
      simp only [oneOrTup, V]
      exact ⟨(v :: v2 :: us2).toArray, by simp, by simpa using h'⟩
theorem fnRun_ok {C : CallR} {L : LoopR} {f : FuncId} {fn : Func} {c : Code} (hat : FnAt E.P f fn c) (hC : CG E C) (hL : LoopsOk E L c) {s : FSpec}
    (hspec : ∀ vs bs r, (s vs bs).sel = some r → (fnRun E C L fn c vs bs).sel = some r) : FnOk E f s := by
  refine ⟨⟨fn, c, hat⟩, fun vs bs out hsel w cargs ps hcfg hv => ?_⟩
  have hrun := hspec vs bs out hsel
  unfold fnRun at hrun
  cases hc : (Nat.ble vs.length fn.ntmps && Nat.ble bs.length 1000) with
  | false => simp [hc, T.sel] at hrun
  | true =>
    simp only [hc, cond_true] at hrun
    simp only [Bool.and_eq_true] at hc
    have hsat := start_sat hcfg (fn := fn) hv (Nat.le_of_ble_eq_true hc.1)
    obtain ⟨⟨e, st'⟩, h1, h2⟩ := T.bind_sel _ _ _ hrun
    have hcs := run_ok hC c hL _ e st' h1
    refine calls_of_wp hat.func hat.body (hcs _ _ w hsat _ fun ρ' a' w' hs' hst hle hkd => ?_)
    have key : a'.defers = [] ∧ ∃ v, (results fn a'.tmps).run E.P w' = .ok v w' ∧ ∃ cv ps', Ending.returned v = .returned cv ∧ CfgOk E w' out.blks ps' ∧ V (psRho ps') (oneOrTup out.vals) cv ∧ Mv w bs ps w' out.blks ps' ∧ ∀ (j : Nat) k, (pers vs bs)[j]? = some k → ps'[j]? = ps[k]? := by
      unfold endR at h2
      have h3 : ((resultsR E st' fn.results.toList).bind fun l => expEnd E st'.h bs.length (pers vs bs) fn.resultTypes.toList l).sel = some out := by
        cases e with
        | exit id => simp [T.sel] at h2
        | normal => exact h2
        | ret => exact h2
      obtain ⟨l, h4, h5⟩ := T.bind_sel _ _ _ h3
      obtain ⟨cvs, h6, h7⟩ := resultsR_ok hs'.h rfl hs'.t _ l h4
      obtain ⟨ps', g1, g2, g3, g4⟩ := expEnd_ok hcfg rfl (fun k hk => pers_mem hk) hs'.h hs'.g hle hst h5 h7
      refine ⟨hkd.d, (if h : cvs.toArray.size = 1 then cvs.toArray[0] else .tuple cvs.toArray), ?_, _, ps', rfl, g1, oneOrTup_V g2, g3, g4⟩
      unfold results
      rw [Array.mapM_eq_mapM_toList, map_eq_pure_bind]
      simp only [Sem.run_bind, Sem.run_pure]
      exact congrArg (fun r : Result (List Value) => (r.andThen fun a w' => Result.ok a.toArray w').andThen fun a w' => Result.ok (if h : a.size = 1 then a[0] else Value.tuple a) w') h6
    cases e with
    | exit id => simp [endR, T.sel] at h2
    | normal => exact key
    | ret => exact key
end
end Go.Am
namespace Go.Am
theorem Mv.trans {w1 w2 w3 : World} {b1 b2 b3 : List Blk} {p1 p2 p3 : List Pos} (h : Mv w1 b1 p1 w2 b2 p2) (h' : Mv w2 b2 p2 w3 b3 p3) : Mv w1 b1 p1 w3 b3 p3 where
  stp := h.stp.trans h'.stp
  src k x p hk hp hl := by
    rcases h'.src k x p hk hp hl with h1 | ⟨k0, x0, p0, h1, h2, h3, h4⟩
    · exact .inl (Nat.le_trans h.stp.ext.size h1)
    · rcases h.src k0 x0 p0 h1 h2 h3 with h5 | ⟨k1, x1, q1, h5, h6, h7, h8⟩
      · exact .inl (by rw [← h4]; exact h5)
      · exact .inr ⟨k1, x1, q1, h5, h6, h7, h8.trans h4⟩
section
variable {E : Env} {C : CallR} {L : LoopR} {ρ : Rho} {h : Heap} {w w' : World}
def slotVs (a : Act) (l : List (Nat × TypeId)) : List Value := l.map fun p => a.tmps.getD p.1 undef
theorem slot_VL {t : Nat → AV} {a : Act} (ht : ∀ i, V ρ (t i) (a.tmps.getD i undef)) : ∀ l : List (Nat × TypeId), VL ρ (l.map fun p => t p.1) (slotVs a l)
  | [] => by simp [slotVs, VL]
  | p :: l => by
    simp only [slotVs, List.map_cons, VL]
    exact ⟨_, _, rfl, ht p.1, slot_VL ht l⟩
theorem putAll_V {a : Act} : ∀ (l : List (Nat × TypeId)) (as : List AV) (t : Nat → AV), (∀ i, V ρ (t i) (a.tmps.getD i undef)) → VL ρ as (slotVs a l) → ∀ i, V ρ (putAll l as t i) (a.tmps.getD i undef)
  | [], as, t, ht, _, i => by cases as <;> exact ht i
  | p :: l, [], t, ht, hv, i => by simp [slotVs, VL] at hv
  | p :: l, b :: as, t, ht, hv, i => by
    simp only [slotVs, List.map_cons, VL] at hv
    obtain ⟨v, r, e, h1, h2⟩ := hv
    cases e
    simp only [putAll]
    refine putAll_V l as _ (fun j => ?_) h2 i
    by_cases e : j = p.1
    · subst e; rw [updF_same]; exact h1
    · rw [updF_other _ _ _ e]; exact ht j
theorem expTurn_ok {n : Nat} {P : List Nat} {bs : List Blk} {ps : List Pos} (hc : CfgOk E w bs ps) (_hn : n = bs.length) (hP : ∀ k ∈ P, ∃ x, bs[k]? = some x ∧ x.own = true)
    (hs : SatH ρ h w') (hg : GOk E (ownB ρ h) w') (hle : (startRho E ps).le ρ) (hst : Stp (domB (startRho E ps) (startH E bs)) (domB ρ h) w w') {take : List Nat} {ts : List TypeId} {l : List AV} {out : Out} (he : (expTurn E h n P take ts l).sel = some out) {cvs : List Value} (hv : VL ρ l cvs) :
    ∃ ps', CfgOk E w' out.blks ps' ∧ VL (psRho ps') out.vals cvs ∧ Mv w bs ps w' out.blks ps' ∧ P.length ≤ (pers out.vals out.blks).length ∧ ∀ (j : Nat) k k', P[j]? = some k → (pers out.vals out.blks)[j]? = some k' → ps'[k']? = ps[k]? := by
  obtain ⟨_, hs1, hs2, hle0⟩ := start_satH hc
  have hpsn : ∀ k ∈ P, ∃ p, ps[k]? = some p := fun k hk => by
    obtain ⟨x, hx, _⟩ := hP k hk
    have := (List.getElem?_eq_some_iff.1 hx).1
    exact ⟨ps[k]'(by have := hc.len; omega), List.getElem?_eq_getElem _⟩
  unfold expTurn at he
  split at he
  · rename_i vs bs' es hx
    cases hk : srcPre P (pers vs bs') es with
    | false => rw [hk] at he; simp [T.sel] at he
    | true =>
      rw [hk, cond_true] at he
      simp only [T.sel, Option.some.injEq] at he
      subst he
      have hk1 := hk
      obtain ⟨ps', hxo⟩ := expAll_ok hs hg hx hv
      have hsl : ∀ (P P' : List Nat), srcPre P P' es = true → P.length ≤ P'.length ∧ ∀ (j : Nat) k k', P[j]? = some k → P'[j]? = some k' → ∃ e, es[k']? = some e ∧ e.box = true ∧ e.src = some k := by
        intro P
        induction P with
        | nil =>
          intro P' h
          exact ⟨Nat.zero_le _, fun j k k' hj => by simp at hj⟩
        | cons z P ih =>
          intro P' h
          cases P' with
          | nil => simp [srcPre] at h
          | cons z' P' =>
            simp only [srcPre, Bool.and_eq_true] at h
            obtain ⟨h1, h2⟩ := ih P' h.2
            refine ⟨Nat.succ_le_succ h1, fun j k k' hj hj' => ?_⟩
            cases j with
            | zero =>
              simp at hj hj'; subst hj; subst hj'
              have := h.1
              split at this
              · rename_i e he
                simp only [Bool.and_eq_true] at this
                refine ⟨e, he, this.1, ?_⟩
                have := this.2
                unfold srcIs at this
                split at this
                · rename_i c hc'; rw [hc', Nat.eq_of_beq_eq_true this]
                · cases this
              · cases this
            | succ j => exact h2 j k k' (by simpa using hj) (by simpa using hj')
      obtain ⟨hlen, hget⟩ := hsl _ _ hk1
      refine ⟨ps', hxo.cfg, hxo.vals, hxo.mvp hc hst, hlen, ?_⟩
      · intro j k k' hj hj'
        obtain ⟨e, e1, e2, e3⟩ := hget j k k' hj hj'
        obtain ⟨p, x, f1, f2, f3, f4, q', f5, f6, f7⟩ := hxo.ent k' e e1
        rw [f4] at f5; cases f5
        rw [e3] at f7
        obtain ⟨y, r, g1, g2, _, _, _, _, g3⟩ := f7
        have := g3.1 e2; subst this
        obtain ⟨p0, hp0⟩ := hpsn k (List.mem_of_getElem? hj)
        have := hle _ _ (startRho_get hc hp0)
        rw [g2] at this; cases this
        rw [f1, hp0]
  · simp [T.sel] at he
theorem loop_sat {bs : List Blk} {ps : List Pos} (hc : CfgOk E w bs ps) {n : Nat} {sg : LSig} {vs : List AV} {a : Act} (hn : a.tmps.size = n) (hv : VL (psRho ps) vs (slotVs a (sg.cs ++ sg.mv))) :
    Sat E (startRho E ps) (loopSt E n sg vs bs) a w := by
  have hsat0 := start_sat hc (fn := { (default : Func) with ntmps := 0 }) (vs := []) (cargs := []) (by simp [VL]) (Nat.le_refl _)
  obtain ⟨hsat, hs1, hs2, hle⟩ := start_satH hc
  exact ⟨hsat, hsat0.g, hn, putAll_V _ _ _ (fun i => by simp [V]) (VL.mono hle _ _ hv), hsat0.dom, hsat0.glob⟩
def toSlots (sg : LSig) : AExit → List (Nat × TypeId)
  | .normal => sg.cs ++ sg.mv
  | _ => sg.mo
def SameB (e : AExit) (vs : List AV) (bs : List Blk) (ps : List Pos) (o : Out) (ps' : List Pos) : Prop :=
  match e with
  | .normal => (pers vs bs).length ≤ (pers o.vals o.blks).length ∧ ∀ (j : Nat) k k', (pers vs bs)[j]? = some k → (pers o.vals o.blks)[j]? = some k' → ps'[k']? = ps[k]?
  | _ => ∀ (j : Nat) k, (pers vs bs)[j]? = some k → ps'[j]? = ps[k]?
def DSem (E : Env) (n : Nat) (sg : LSig) (body : Code) (W : (Exit → Act → World → Prop) → Act → World → Prop) (vs : List AV) (bs : List Blk) (e : AExit) (o : Out) : Prop :=
  ∀ (a : Act) (w : World) (ps : List Pos), a.tmps.size = n → CfgOk E w bs ps → VL (psRho ps) vs (slotVs a (sg.cs ++ sg.mv)) → ∀ (Q : Exit → Act → World → Prop),
    (∀ a' w' ps', a'.tmps.size = n → CfgOk E w' o.blks ps' → VL (psRho ps') o.vals (slotVs a' (toSlots sg e)) → Mv w bs ps w' o.blks ps' → SameB e vs bs ps o ps' → Keeps (writes body) a a' → Q (toExit e) a' w') → W Q a w
theorem turn_ok (hC : CG E C) {body : Code} (hL : LoopsOk E L body) {n : Nat} {sg : LSig} {vs : List AV} {bs : List Blk} {e : AExit} {o : Out} (h : (turn E C L n sg body vs bs).sel = some (e, o)) :
    DSem E n sg body (fun Q a w => body.wp E.P Q a w) vs bs e o := by
  unfold turn at h
  cases hc : (Nat.ble bs.length 1000 && Nat.beq vs.length (sg.cs ++ sg.mv).length) with
  | false => rw [hc] at h; simp [T.sel] at h
  | true =>
    rw [hc, cond_true] at h
    obtain ⟨⟨e1, st1⟩, h1, h2⟩ := T.bind_sel _ _ _ h
    intro a w ps hn hcfg hv Q hQ
    have hsat := loop_sat hcfg hn hv
    refine run_ok hC body hL _ e1 st1 h1 _ a w hsat Q fun ρ' a' w' hs' hst hle hk => ?_
    have hend : ∀ {e2 : AExit} {o2 : Out}, e2 ≠ .normal → ((expEnd E st1.h bs.length (pers vs bs) (slotTys sg.mo) (slotAVs st1 sg.mo)).bind fun o => T.leaf (e2, o)).sel = some (e, o) → e1 = e2 → Q (toExit e1) a' w' := by
      intro e2 o2 hne hsel heq
      obtain ⟨o3, h3, h4⟩ := T.bind_sel _ _ _ hsel
      simp only [T.sel, Option.some.injEq, Prod.mk.injEq] at h4
      obtain ⟨rfl, rfl⟩ := h4
      subst heq
      obtain ⟨ps', g1, g2, g3, g4⟩ := expEnd_ok hcfg rfl (fun k hk => pers_mem hk) hs'.h hs'.g hle hst h3 (slot_VL hs'.t sg.mo)
      refine hQ a' w' ps' (hk.size.trans hn) g1 ?_ g3 ?_ hk
      · cases e1 <;> first | exact (hne rfl).elim | exact g2
      · cases e1 <;> first | exact (hne rfl).elim | exact g4
    cases e1 with
    | normal =>
      simp only at h2
      obtain ⟨o3, h3, h4⟩ := T.bind_sel _ _ _ h2
      simp only [T.sel, Option.some.injEq, Prod.mk.injEq] at h4
      obtain ⟨rfl, rfl⟩ := h4
      obtain ⟨ps', g1, g2, g3, g4, g5⟩ := expTurn_ok hcfg rfl (fun k hk => pers_mem hk) hs'.h hs'.g hle hst h3 (slot_VL hs'.t (sg.cs ++ sg.mv))
      exact hQ a' w' ps' (hk.size.trans hn) g1 g2 g3 ⟨g4, g5⟩ hk
    | exit id => exact hend (o2 := o) (by simp) h2 rfl
    | ret => exact hend (o2 := o) (by simp) h2 rfl
theorem SameB.trans {e : AExit} {vs vs1 : List AV} {bs bs1 : List Blk} {ps ps1 ps2 : List Pos} {o : Out} (h : SameB .normal vs bs ps ⟨vs1, bs1⟩ ps1) (h' : SameB e vs1 bs1 ps1 o ps2) : SameB e vs bs ps o ps2 := by
  obtain ⟨hl, hg⟩ := h
  have mid : ∀ (j : Nat) k, (pers vs bs)[j]? = some k → ∃ k1, (pers vs1 bs1)[j]? = some k1 ∧ ps1[k1]? = ps[k]? := fun j k hj => by
    have := (List.getElem?_eq_some_iff.1 hj).1
    have h1 : (pers vs1 bs1)[j]? = some ((pers vs1 bs1)[j]'(by simp only at hl; omega)) := List.getElem?_eq_getElem _
    exact ⟨_, h1, hg j k _ hj h1⟩
  cases e with
  | normal =>
    refine ⟨Nat.le_trans hl h'.1, fun j k k' hj hj' => ?_⟩
    obtain ⟨k1, h1, h2⟩ := mid j k hj
    rw [h'.2 j k1 k' h1 hj', h2]
  | exit id =>
    intro j k hj
    obtain ⟨k1, h1, h2⟩ := mid j k hj
    rw [h' j k1 h1, h2]
  | ret =>
    intro j k hj
    obtain ⟨k1, h1, h2⟩ := mid j k hj
    rw [h' j k1 h1, h2]
theorem turns_ok (hC : CG E C) {body : Code} (hL : LoopsOk E L body) {n : Nat} {sg : LSig} : ∀ (k : Nat) {vs : List AV} {bs : List Blk} {e : AExit} {o : Out}, (turns E C L n sg body k vs bs).sel = some (e, o) → e ≠ .normal ∧
    DSem E n sg body (fun Q a w => Code.rounds E.P body Q k a w) vs bs e o
  | 0, _, _, _, _, h => by simp [turns, T.sel] at h
  | k + 1, vs, bs, e, o, h => by
    unfold turns at h
    obtain ⟨⟨e1, o1⟩, h1, h2⟩ := T.bind_sel _ _ _ h
    have ht := turn_ok hC hL h1
    cases e1 with
    | normal =>
      simp only at h2
      obtain ⟨h3, h4⟩ := turns_ok hC hL k h2
      refine ⟨h3, fun a w ps hn hc hv Q hQ => ?_⟩
      show Code.rounds E.P body Q (k + 1) a w
      rw [rounds_succ]
      refine ht a w ps hn hc hv _ fun a1 w1 ps1 hn1 hc1 hv1 hm1 hb1 hk1 => ?_
      show Code.rounds E.P body Q k a1 w1
      exact h4 a1 w1 ps1 hn1 hc1 hv1 Q fun a2 w2 ps2 hn2 hc2 hv2 hm2 hb2 hk2 => hQ a2 w2 ps2 hn2 hc2 hv2 (hm1.trans hm2) (hb1.trans hb2) ((hk1.trans hk2).mono fun i hi => (List.mem_append.1 hi).elim (fun h => h) fun h => h)
    | exit id =>
      simp only [T.sel, Option.some.injEq, Prod.mk.injEq] at h2
      obtain ⟨rfl, rfl⟩ := h2
      refine ⟨by simp, fun a w ps hn hc hv Q hQ => ?_⟩
      show Code.rounds E.P body Q (k + 1) a w
      rw [rounds_succ]
      exact ht a w ps hn hc hv _ fun a1 w1 ps1 hn1 hc1 hv1 hm1 hb1 hk1 => hQ a1 w1 ps1 hn1 hc1 hv1 hm1 hb1 hk1
    | ret =>
      simp only [T.sel, Option.some.injEq, Prod.mk.injEq] at h2
      obtain ⟨rfl, rfl⟩ := h2
      refine ⟨by simp, fun a w ps hn hc hv Q hQ => ?_⟩
      show Code.rounds E.P body Q (k + 1) a w
      rw [rounds_succ]
      exact ht a w ps hn hc hv _ fun a1 w1 ps1 hn1 hc1 hv1 hm1 hb1 hk1 => hQ a1 w1 ps1 hn1 hc1 hv1 hm1 hb1 hk1
def LoopOk (E : Env) (n : Nat) (sg : LSig) (body : Code) (s : LSpec) : Prop :=
  ∀ vs bs e o, (s vs bs).sel = some (e, o) → e ≠ .normal ∧ DSem E n sg body (fun Q a w => (Code.loop body).wp E.P Q a w) vs bs e o
theorem loop_turns (hC : CG E C) {body : Code} (hL : LoopsOk E L body) {n : Nat} {sg : LSig} {s : LSpec}
    (hs : ∀ vs bs e o, (s vs bs).sel = some (e, o) → ∃ k, (turns E C L n sg body k vs bs).sel = some (e, o)) : LoopOk E n sg body s := by
  intro vs bs e o h
  obtain ⟨k, hk⟩ := hs vs bs e o h
  obtain ⟨h1, h2⟩ := turns_ok hC hL k hk
  exact ⟨h1, fun a w ps hn hc hv Q hQ => wp_loop_rounds k (h2 a w ps hn hc hv Q hQ)⟩
theorem anyOn_V {a a' : Act} {D : List Nat} (hk : Keeps D a a') {t : Nat → AV} (ht : ∀ i, V ρ (t i) (a.tmps.getD i undef)) (i : Nat) : V ρ (anyOn D t i) (a'.tmps.getD i undef) := by
  unfold anyOn
  cases hi : D.any (Nat.beq i) with
  | true => simp [V]
  | false =>
    rw [cond_false, hk.at' i fun hm => ?_]
    · exact ht i
    · rw [List.any_eq_false] at hi
      exact hi i hm (Nat.beq_refl i)
theorem useL_ok {sg : LSig} {body : Code} {s : LSpec} {st st' : AState} {e : AExit} (hl : LoopOk E st.n sg body s) (h : (useL E sg s (writes body) st).sel = some (e, st')) : CSem E (.loop body) st e st' := by
  intro ρ a w hsat Q hQ
  unfold useL at h
  split at h
  rotate_left
  · simp [T.sel] at h
  rename_i vs bs es hx
  cases hτ : Nat.blt st.τ 1000000 with
  | false => rw [hτ] at h; simp [T.sel] at h
  | true =>
    rw [hτ, cond_true] at h
    have hτ : st.τ < 1000000 := lt_of_blt hτ
    obtain ⟨⟨e1, o⟩, h1, h2⟩ := T.bind_sel _ _ _ h
    simp only at h2
    cases hc : (Nat.ble o.blks.length 64 && persOk es (pers vs bs)) with
    | false => rw [hc] at h2; simp [T.sel] at h2
    | true =>
      rw [hc, cond_true] at h2
      simp only [T.sel, Option.some.injEq, Prod.mk.injEq] at h2
      obtain ⟨rfl, rfl⟩ := h2
      simp only [Bool.and_eq_true] at hc
      obtain ⟨ps, hxo⟩ := expAll_ok hsat.h hsat.g hx (slot_VL hsat.t (sg.cs ++ sg.mv))
      obtain ⟨hne, hsem⟩ := hl vs bs e1 o h1
      refine hsem a w ps hsat.size hxo.cfg hxo.vals Q fun a' w' ps' hn' hcfg hv' hmv hsame hk => ?_
      have hslots : toSlots sg e1 = sg.mo := by cases e1; exact (hne rfl).elim; rfl; rfl
      rw [hslots] at hv'
      have hsame' : ∀ (j : Nat) k, (pers vs bs)[j]? = some k → ps'[j]? = ps[k]? := by cases e1; exact (hne rfl).elim; exact hsame; exact hsame
      have hid : ∀ b, st.τ * 262144 ≤ b → b < st.τ * 262144 + 64 → ρ b = none := by
        intro b hb1 hb2
        cases hρ : ρ b with
        | none => rfl
        | some p =>
          exfalso
          rcases hsat.dom b (by rw [hρ]; simp) with h | h
          · omega
          · simp only [globBase] at h; omega
      obtain ⟨ρ', g1, g2, g3, g4, g5⟩ := import_ok (id := st.τ * 262144) (m := 64) hsat.h hxo hc.2 hcfg hmv hsame' hid (Nat.le_of_ble_eq_true hc.1)
      refine hQ ρ' a' w' ⟨g2, hsat.g.step g3, hn', ?_, ?_, ?_⟩ g3 g1 hk
      · refine putAll_V _ _ _ (anyOn_V hk fun i => V.mono g1 _ _ (hsat.t i)) ?_
        have key : ∀ (f : Nat → Nat), (∀ a v, V (psRho ps') a v → V ρ' (renA f a) v) → ∀ (as : List AV) (vs : List Value), VL (psRho ps') as vs → VL ρ' (renL f as) vs := by
          intro f hf as
          induction as with
          | nil => intro vs hv; simpa only [renL, VL] using hv
          | cons a as ih =>
            intro vs hv
            simp only [renL, VL] at hv ⊢
            obtain ⟨v, r, e, h1, h2⟩ := hv
            exact ⟨v, r, e, hf _ _ h1, ih _ h2⟩
        exact key _ g5 _ _ hv'
      · intro b hb
        cases hρ : ρ b with
        | none =>
          have := g4 b hb hρ
          left
          simp only
          rw [Nat.add_mul, Nat.one_mul]; omega
        | some p =>
          rcases hsat.dom b (by rw [hρ]; simp) with h | h
          · exact .inl (dom_le h)
          · exact .inr h
      · intro g p hp
        cases hρ : ρ (globBase + g) with
        | none =>
          have := g4 (globBase + g) (by rw [hp]; simp) hρ
          simp only [globBase] at this; omega
        | some q =>
          have := g1 _ _ hρ
          rw [hp] at this; cases this
          exact hsat.glob g p hρ
end
end Go.Am
namespace Go.Am
def bodyC (fn : Func) : Code := match fn.body with
  | some c => c
  | none => .skip
def loopsOf : Code → List Code
  | .seq a b => loopsOf a ++ loopsOf b
  | .cond _ a b => loopsOf a ++ loopsOf b
  | .block _ a => loopsOf a
  | .scope a => loopsOf a
  | .loop a => a :: loopsOf a
  | _ => []
def loopAt (id : Nat) : List Code → Code
  | [] => .skip
  | c :: r => bif Nat.beq (firstRegion c) id then c else loopAt id r
structure LEnt where
  id : Nat
  n : Nat
  sg : LSig
  wr : List Nat
  s : LSpec
def loopL (E : Env) (L : LoopR) : List LEnt → LoopR
  | [], a, st => L a st
  | x :: r, a, st => bif Nat.beq x.id (firstRegion a) then (bif Nat.beq st.n x.n then useL E x.sg x.s x.wr st else .bad) else loopL E L r a st
def noL : LoopR := fun _ _ => .bad
def inlL (E : Env) (C : CallR) : Nat → LoopR
  | 0 => noL
  | n + 1 => fun a st => (run E C (inlL E C n) a st).bind fun r => match r.1 with
    | .normal => inlL E C n a r.2
    | e => .leaf (e, r.2)
def tab : List (FuncId × List Nat × FSpec) → FuncId → Option (List Nat × FSpec)
  | [], _ => none
  | x :: r, f => bif Nat.beq x.1 f then some x.2 else tab r f
section
variable {E : Env} {C : CallR} {L : LoopR}
theorem loopsOk_of : ∀ (c : Code), (∀ b ∈ loopsOf c, ∀ st e st', (L b st).sel = some (e, st') → CSem E (.loop b) st e st') → LoopsOk E L c
  | .seq a b, h => ⟨loopsOk_of a fun x hx => h x (List.mem_append_left _ hx), loopsOk_of b fun x hx => h x (List.mem_append_right _ hx)⟩
  | .cond _ a b, h => ⟨loopsOk_of a fun x hx => h x (List.mem_append_left _ hx), loopsOk_of b fun x hx => h x (List.mem_append_right _ hx)⟩
  | .block _ a, h => loopsOk_of a fun x hx => h x hx
  | .scope a, h => loopsOk_of a fun x hx => h x hx
  | .loop a, h => fun st e st' hs => h a (List.mem_cons_self ..) st e st' hs
  | .skip, _ => trivial
  | .region .., _ => trivial
  | .rangeFunc .., _ => trivial
  | .exit _, _ => trivial
  | .label _, _ => trivial
  | .goto _, _ => trivial
  | .ret, _ => trivial
  | .refuse _, _ => trivial
def LSem (E : Env) (b : Code) (st : AState) (e : AExit) (st' : AState) (k : Nat) : Prop :=
  ∀ (ρ : Rho) (a : Act) (w : World), Sat E ρ st a w → ∀ (Q : Exit → Act → World → Prop), (∀ ρ' a' w', Sat E ρ' st' a' w' → Stp (domB ρ st.h) (domB ρ' st'.h) w w' → ρ.le ρ' → Keeps (writes b) a a' → Q (toExit e) a' w') → Code.rounds E.P b Q k a w
theorem inlL_ok (hC : CG E C) : ∀ (n : Nat), (∀ (b : Code) st e st', (inlL E C n b st).sel = some (e, st') → ∃ k, LSem E b st e st' k) ∧ ∀ c, LoopsOk E (inlL E C n) c := by
  intro n
  have second : (∀ (b : Code) st e st', (inlL E C n b st).sel = some (e, st') → ∃ k, LSem E b st e st' k) → ∀ c, LoopsOk E (inlL E C n) c := fun h c => loopsOk_of c fun b _ st e st' hs => by
    obtain ⟨k, hk⟩ := h b st e st' hs
    exact fun ρ a w hsat Q hQ => wp_loop_rounds k (hk ρ a w hsat Q hQ)
  suffices h : ∀ (b : Code) st e st', (inlL E C n b st).sel = some (e, st') → ∃ k, LSem E b st e st' k from ⟨h, second h⟩
  clear second
  induction n with
  | zero => intro b st e st' h; simp [inlL, noL, T.sel] at h
  | succ n ih =>
    have hL : ∀ c, LoopsOk E (inlL E C n) c := fun c => loopsOk_of c fun b _ st e st' hs => by
      obtain ⟨k, hk⟩ := ih b st e st' hs
      exact fun ρ a w hsat Q hQ => wp_loop_rounds k (hk ρ a w hsat Q hQ)
    intro b st e st' h
    unfold inlL at h
    obtain ⟨⟨e1, st1⟩, h1, h2⟩ := T.bind_sel _ _ _ h
    have hb := run_ok hC b (hL b) st e1 st1 h1
    cases e1 with
    | normal =>
      obtain ⟨k, hk⟩ := ih b st1 e st' h2
      refine ⟨k + 1, fun ρ a w hs Q hQ => ?_⟩
      rw [rounds_succ]
      refine hb ρ a w hs _ fun ρ1 a1 w1 g1 g2 g3 g4 => ?_
      exact hk ρ1 a1 w1 g1 Q fun ρ2 a2 w2 i1 i2 i3 i4 => hQ ρ2 a2 w2 i1 (g2.trans i2) (g3.trans i3) ((g4.trans i4).mono fun i hi => (List.mem_append.1 hi).elim (fun h => h) fun h => h)
    | exit id =>
      simp only [T.sel, Option.some.injEq, Prod.mk.injEq] at h2
      obtain ⟨rfl, rfl⟩ := h2
      refine ⟨1, fun ρ a w hs Q hQ => ?_⟩
      rw [rounds_succ]
      exact hb ρ a w hs _ fun ρ1 a1 w1 g1 g2 g3 g4 => hQ ρ1 a1 w1 g1 g2 g3 g4
    | ret =>
      simp only [T.sel, Option.some.injEq, Prod.mk.injEq] at h2
      obtain ⟨rfl, rfl⟩ := h2
      refine ⟨1, fun ρ a w hs Q hQ => ?_⟩
      rw [rounds_succ]
      exact hb ρ a w hs _ fun ρ1 a1 w1 g1 g2 g3 g4 => hQ ρ1 a1 w1 g1 g2 g3 g4
theorem inl_ok (hC : CG E C) (n : Nat) (c : Code) : LoopsOk E (inlL E C n) c := (inlL_ok hC n).2 c
theorem noL_ok (c : Code) : LoopsOk E noL c := loopsOk_of c fun b _ st e st' h => by simp [noL, T.sel] at h
theorem loopL_ok {c : Code} : ∀ {l : List LEnt}, (∀ x ∈ l, ∀ b ∈ loopsOf c, firstRegion b = x.id → x.wr = writes b ∧ LoopOk E x.n x.sg b x.s) → (∀ c, LoopsOk E L c) → LoopsOk E (loopL E L l) c := by
  intro l hl hL
  refine loopsOk_of c fun b hb st e st' hsel => ?_
  induction l with
  | nil => exact hL (.loop b) st e st' hsel
  | cons x r ih =>
    unfold loopL at hsel
    cases hx : Nat.beq x.id (firstRegion b) with
    | false =>
      rw [hx, cond_false] at hsel
      exact ih (fun y hy => hl y (List.mem_cons_of_mem _ hy)) hsel
    | true =>
      rw [hx, cond_true] at hsel
      cases hn : Nat.beq st.n x.n with
      | false => rw [hn] at hsel; simp [T.sel] at hsel
      | true =>
        rw [hn, cond_true] at hsel
        obtain ⟨h1, h2⟩ := hl x (List.mem_cons_self ..) b hb (Nat.eq_of_beq_eq_true hx).symm
        rw [h1] at hsel
        rw [← Nat.eq_of_beq_eq_true hn] at h2
        exact useL_ok h2 hsel
def loopsAt (id : Nat) : List Code → List Code
  | [] => []
  | c :: r => bif Nat.beq (firstRegion c) id then c :: loopsAt id r else loopsAt id r
theorem loopsAt_mem {id : Nat} {b : Code} : ∀ {l : List Code}, b ∈ l → firstRegion b = id → b ∈ loopsAt id l
  | c :: r, hb, hf => by
    unfold loopsAt
    rcases List.mem_cons.1 hb with rfl | hb
    · rw [hf, Nat.beq_refl, cond_true]; exact List.mem_cons_self ..
    · cases Nat.beq (firstRegion c) id
      · exact loopsAt_mem hb hf
      · exact List.mem_cons_of_mem _ (loopsAt_mem hb hf)
structure EntFits (E : Env) (c : Code) (x : LEnt) (b : Code) : Prop where
  at' : loopsAt x.id (loopsOf c) = [b]
  wr : x.wr = writes b
  ok : LoopOk E x.n x.sg b x.s
theorem loopL_fits {c : Code} {l : List LEnt} (h : ∀ x ∈ l, ∃ b, EntFits E c x b) (hL : ∀ c, LoopsOk E L c) : LoopsOk E (loopL E L l) c :=
  loopL_ok (fun x hx b hb hf => by
    obtain ⟨b', h1, h2, h3⟩ := h x hx
    have := loopsAt_mem hb hf
    rw [h1, List.mem_singleton] at this
    subst this
    exact ⟨h2, h3⟩) hL
theorem tab_ok {l : List (FuncId × List Nat × FSpec)} (h : ∀ x ∈ l, FnOk E x.1 x.2.2) : ∀ f s, tab l f = some s → FnOk E f s.2 := by
  intro f s hs
  induction l with
  | nil => simp [tab] at hs
  | cons x r ih =>
    unfold tab at hs
    cases hx : Nat.beq x.1 f with
    | true =>
      rw [hx, cond_true, Option.some.injEq] at hs
      rw [← Nat.eq_of_beq_eq_true hx, ← hs]
      exact h x (List.mem_cons_self ..)
    | false =>
      rw [hx, cond_false] at hs
      exact ih (fun y hy => h y (List.mem_cons_of_mem _ hy)) hs
theorem tab_nil {f : FuncId} {s : List Nat × FSpec} (h : tab [] f = some s) : FnOk E f s.2 := by simp [tab] at h
def textS (E : Env) (l : List (FuncId × List Nat × FSpec)) (tk : FuncId → List Nat) (m : Nat) : Nat → FuncId → Option (List Nat × FSpec)
  | 0, f => tab l f
  | n + 1, f => match tab l f with
    | some s => some s
    | none => match E.P.funcs[f]? with
      | none => none
      | some fn => bif fn.name == "runtime.NumGoroutine" then none else match fn.body with
        | none => none
        | some c => some (tk f, fnRun E (specC E (textS E l tk m n)) (inlL E (specC E (textS E l tk m n)) m) fn c)
theorem textS_ok {l : List (FuncId × List Nat × FSpec)} (h : ∀ x ∈ l, FnOk E x.1 x.2.2) (tk : FuncId → List Nat) (m : Nat) : ∀ (n : Nat) f s, textS E l tk m n f = some s → FnOk E f s.2
  | 0, f, s, hs => tab_ok h f s hs
  | n + 1, f, s, hs => by
    unfold textS at hs
    split at hs
    · rename_i s' hs'
      cases hs
      exact tab_ok h f s hs'
    · split at hs
      · cases hs
      · rename_i fn hfn
        cases hname : (fn.name == "runtime.NumGoroutine") with
        | true => rw [hname] at hs; cases hs
        | false =>
          rw [hname, cond_false] at hs
          split at hs
          · cases hs
          · rename_i c hc
            cases hs
            have hC : CG E (specC E (textS E l tk m n)) := specC_ok (textS_ok h tk m n)
            exact fnRun_ok ⟨hfn, hc, by simpa using hname⟩ hC (inl_ok hC m c) fun vs bs r hr => hr
theorem fn_ok {f : FuncId} {fn : Func} {c : Code} (h1 : E.P.funcs[f]? = some fn) (h2 : fn.body = some c) (h3 : (fn.name == "runtime.NumGoroutine") = false) (hC : CG E C) (hL : LoopsOk E L c) {s : FSpec}
    (hspec : ∀ vs bs r, (s vs bs).sel = some r → (fnRun E C L fn c vs bs).sel = some r) : FnOk E f s :=
  fnRun_ok ⟨h1, h2, by simpa using h3⟩ hC hL hspec
theorem sel_bind {α β : Type} (x : T α) (f : α → T β) : (x.bind f).sel = match x.sel with | none => none | some a => (f a).sel := by
  induction x with
  | bad => rfl
  | leaf a => rfl
  | node b x y ihx ihy => cases b <;> simp only [T.bind, T.sel, cond_true, cond_false] <;> assumption
theorem turns_more {n : Nat} {sg : LSig} {body : Code} {k : Nat} {vs : List AV} {bs : List Blk} {o : Out} (h : (turn E C L n sg body vs bs).sel = some (.normal, o)) {r : AExit × Out} (hr : (turns E C L n sg body k o.vals o.blks).sel = some r) :
    (turns E C L n sg body (k + 1) vs bs).sel = some r := by
  show ((turn E C L n sg body vs bs).bind _).sel = some r
  rw [sel_bind, h]; exact hr
theorem turns_done {n : Nat} {sg : LSig} {body : Code} {vs : List AV} {bs : List Blk} {o : Out} {e : AExit} (h : (turn E C L n sg body vs bs).sel = some (e, o)) (he : e ≠ .normal) :
    (turns E C L n sg body 1 vs bs).sel = some (e, o) := by
  show ((turn E C L n sg body vs bs).bind _).sel = some (e, o)
  rw [sel_bind, h]
  cases e <;> first | rfl | exact (he rfl).elim
end
end Go.Am
