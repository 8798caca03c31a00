/-
  Texts put together: AmLib, Plain, AmLib2, AmIn, AmMid, AmScan, AmLend.
-/
import Derived.Test.YtdckpbeioemopaaAmC
import Derived.RowKit3
import Derived.Shelf.Strconv.Itoa4
import Derived.Shelf.Strconv.ErrVarParseInt
import Derived.Shelf.Strings.SlTrimAscii
import Derived.Shelf.Strings.OnBuilder
import Derived.RangeFuncFrom
import Derived.RangeFuncLeaves
import Derived.RangeFuncRecord
import Derived.OwnWalkIn
namespace Go.Am
open Go.RowKit
theorem ext_below {w w' : World} (h : Below w.heap.size w w') : Ext (fun _ => False) w w' :=
  ⟨h.os, h.tape, h.output, h.size, fun k hk _ => h.block k hk, fun _ ha _ => h.frozen ha⟩
theorem below_ext {w w' : World} (h : Ext (fun _ => False) w w') : Below w.heap.size w w' :=
  ⟨h.os, h.tape, h.output, h.size, fun k hk => h.block k hk fun h => h⟩
theorem psRho_nil : psRho [] = fun _ => none := by funext b; simp [psRho]
theorem cfg_nil {E : Env} {w : World} (hg : GOk E (fun _ => False) w) : CfgOk E w [] [] :=
  ⟨⟨fun b x hb => by simp [blkH] at hb, fun b x hb => by simp [blkH] at hb, fun b x p hb => by simp [blkH] at hb, fun b x p hb => by simp [blkH] at hb, fun b x p b' x' p' hb => by simp [blkH] at hb⟩,
   ⟨hg.laid, hg.size, hg.base, fun k ⟨b, x, p, hb, _⟩ => by simp [blkH] at hb⟩, rfl, Nat.zero_le _⟩
theorem own_nil (k : Nat) : ¬ ownB (psRho []) (blkH []) k := fun ⟨b, x, p, hb, _⟩ => by simp [blkH] at hb
theorem live_nil (k : Nat) : ¬ liveB (psRho []) (blkH []) k := fun ⟨b, x, p, hb, _⟩ => by simp [blkH] at hb
def domN : Dom := ⟨fun _ => False, fun _ => False⟩
theorem gok_any {E : Env} {O : Nat → Prop} {w : World} (h : GOk E O w) : GOk E (fun _ => False) w := ⟨h.laid, h.size, h.base, fun _ h => h.elim⟩
def rng64 (n : Int) : Bool := decide (-9223372036854775808 ≤ n ∧ n ≤ 9223372036854775807)
structure ParseOk (E : Env) (f : FuncId) (te t5 : TypeId) : Prop where
  ok : ∀ (s : ByteArray) (v : Int) (w : World), s.size ≤ lim → Lib.parseIntB 64 s.data.toList = .ok v → Calls E.P f #[.string s, .int .i64 10, .int .i64 64] w fun e w' => e = .returned (.tuple #[.int .i64 v, .nilIface]) ∧ (w' = w ∨ ∃ t, w' = Lib.bytesWorld w t5 t)
  syn : ∀ (s : ByteArray) (w : World), GOk E (fun _ => False) w → s.size ≤ lim → (∀ v, Lib.parseIntB 64 s.data.toList ≠ .ok v) → Lib.parseIntB 64 s.data.toList ≠ .range → Calls E.P f #[.string s, .int .i64 10, .int .i64 64] w fun e w' => ∃ x, e = .returned (.tuple #[.int .i64 0, .iface te x]) ∧ Below w.heap.size w w'
  range : ∀ (s : ByteArray) (w : World), GOk E (fun _ => False) w → s.size ≤ lim → Lib.parseIntB 64 s.data.toList = .range → Calls E.P f #[.string s, .int .i64 10, .int .i64 64] w fun e w' => ∃ x, e = .returned (.tuple #[.int .i64 (Lib.intSat 64 s.data.toList), .iface te x]) ∧ Below w.heap.size w w'
end Go.Am
namespace Go.Am
def i64 (n : Int) : AV := .int .i64 n
def rb (b : Bool) : Option Out := some ⟨[.bool b], []⟩
def Rng (a : Int) : Prop := -9223372036854775808 ≤ a ∧ a ≤ 9223372036854775807
instance (a : Int) : Decidable (Rng a) := by unfold Rng; exact inferInstance
def wr (n : Int) : Int := IntKind.i64.wrap n
end Go.Am
namespace Go.Am
open Go.RowKit
theorem fnOk_reads {E : Env} {f : FuncId} {s : FSpec} (hat : ∃ fn c, FnAt E.P f fn c)
    (h : ∀ vs bs out, (s vs bs).sel = some out → pers vs bs = [] ∧ out.blks = [] ∧ ∀ (w : World) (cargs : List Value) (ps : List Pos), CfgOk E w bs ps → VL (psRho ps) vs cargs →
      Calls E.P f cargs.toArray w fun e w' => ∃ cv, e = .returned cv ∧ V (fun _ => none) (oneOrTup out.vals) cv ∧ Below w.heap.size w w') : FnOk E f s := by
  refine ⟨hat, fun vs bs out hsel w cargs ps hc hv => ?_⟩
  obtain ⟨h1, h3, h4⟩ := h vs bs out hsel
  have hg := gok_any hc.g
  refine (h4 w cargs ps hc hv).mono fun e w' ⟨cv, he, hcv, hb⟩ => ⟨cv, [], he, ?_, ?_, ⟨?_, ?_⟩, fun j k hj => ?_⟩
  · rw [h3]
    have hs : Stp domN domN w w' := ⟨ext_below hb, fun _ h => h.elim, fun _ h => h.elim⟩
    exact cfg_nil (GOk.step (O := domN) (O' := domN) hg hs)
  · rw [psRho_nil]; exact hcv
  · rw [h3]
    exact ⟨(ext_below hb).mono fun _ _ h => h.elim, fun k hk => (own_nil k hk).elim, fun k hk => (live_nil k hk).elim⟩
  · intro k x p hk
    rw [h3] at hk; simp at hk
  · rw [h1] at hj; simp at hj
theorem cell_lt {w : World} {a : Addr} {v : Value} (h : w.cell? a = some v) : a.block < w.heap.size := by
  rcases Nat.lt_or_ge a.block w.heap.size with h1 | h1
  · exact h1
  · unfold World.cell? at h
    rw [Array.getElem?_eq_none h1] at h
    simp at h
theorem turns_more' {E : Env} {C : CallR} {L : LoopR} {n : Nat} {sg : LSig} {body : Code} {k : Nat} {vs : List AV} {bs : List Blk} {o : Out} (h : (turn E C L n sg body vs bs).sel = some (.normal, o)) :
    (turns E C L n sg body (k + 1) vs bs).sel = (turns E C L n sg body k o.vals o.blks).sel := by
  show ((turn E C L n sg body vs bs).bind _).sel = _
  rw [sel_bind, h]
def sJoin : FSpec
  | [.slw 0, .str sep], [⟨_, .strs L⟩] => .node (decide (L.length ≤ lim ∧ (Lib.join L sep).length ≤ lim)) (.leaf ⟨[.str (Lib.join L sep)], []⟩) .bad
  | _, _ => .bad
end Go.Am
namespace Go.Am
open Go.RowKit
section
variable {P : Program}
end
def rturn (E : Env) (C : CallR) (n : Nat) (sg : LSig) (ops : Array Oper) (vs : List AV) (bs : List Blk) : T Out :=
  bif Nat.ble bs.length 1000 && (Nat.beq vs.length (sg.cs ++ sg.mv).length && Nat.ble ops.size 4096) then
    (opsT E C ops (List.range ops.size) (loopSt E n sg vs bs)).bind fun st => expTurn E st.h bs.length (pers vs bs) sg.take (slotTys (sg.cs ++ sg.mv)) (slotAVs st (sg.cs ++ sg.mv))
  else .bad
section
variable {E : Env} {C : CallR} {w : World}
theorem rturn_ok (hC : CG E C) {n : Nat} {sg : LSig} {ops : Array Oper} {vs : List AV} {bs : List Blk} {o : Out} (h : (rturn E C n sg ops vs bs).sel = some o) (ht : (loopSt E n sg vs bs).τ < 1000000)
    {a : Act} {ps : List Pos} (hn : a.tmps.size = n) (hcfg : CfgOk E w bs ps) (hv : VL (psRho ps) vs (slotVs a (sg.cs ++ sg.mv))) {R : Act → World → Prop}
    (hR : ∀ a' w' ps', CfgOk E w' o.blks ps' → VL (psRho ps') o.vals (slotVs a' (sg.cs ++ sg.mv)) → Mv w bs ps w' o.blks ps' → SameB .normal vs bs ps o ps' → Keeps (opsDst ops (List.range ops.size)) a a' → R a' w') :
    wpOps E.P ops (fun e a w => e = .normal ∧ R a w) (List.range ops.size) a w := by
  unfold rturn at h
  cases hc : (Nat.ble bs.length 1000 && (Nat.beq vs.length (sg.cs ++ sg.mv).length && Nat.ble ops.size 4096)) with
  | false => rw [hc] at h; simp [T.sel] at h
  | true =>
    rw [hc, cond_true] at h
    simp only [Bool.and_eq_true] at hc
    have h4 := Nat.le_of_ble_eq_true hc.2.2
    obtain ⟨st1, h1, h2⟩ := T.bind_sel _ _ _ h
    have hsat := loop_sat hcfg hn hv
    refine ops_ok hC.ok ops _ _ st1 h1 _ a w _ hsat.rsat List.nodup_range (fun _ _ h => h) (fun _ h => h.elim) (fun i hi => by have := List.mem_range.1 hi; omega) ht _ fun ρ' a' w' hs' hst hle hk => ?_
    obtain ⟨ps', g1, g2, g3, g4, g5⟩ := expTurn_ok hcfg rfl (fun k hk => pers_mem hk) hs'.h hs'.g hle hst h2 (slot_VL hs'.t (sg.cs ++ sg.mv))
    exact ⟨rfl, hR a' w' ps' g1 g2 g3 ⟨g4, g5⟩ hk⟩
theorem cell_isCells {a : Addr} {v : Value} (h : w.cell? a = some v) : ∃ o : Obj, w.heap[a.block]? = some o ∧ o.isCells = true := by
  unfold World.cell? at h
  split at h
  · rename_i c t u hb; exact ⟨_, hb, rfl⟩
  · cases h
theorem cell_grown {w' : World} {row : Option Nat} (hg : w.grownBy w' row) (hr : ∀ r, row = some r → ∃ o : Obj, w.heap[r]? = some o ∧ o.isCells = false) {a : Addr} {v : Value} (h : w.cell? a = some v) : w'.cell? a = some v := by
  refine hg.cell h fun e => ?_
  obtain ⟨o, h1, h2⟩ := hr a.block e.symm
  obtain ⟨o', h3, h4⟩ := cell_isCells h
  rw [h1] at h3; cases h3
  rw [h2] at h4; cases h4
theorem cells_grown {w' : World} {row : Option Nat} (hg : w.grownBy w' row) (hr : ∀ r, row = some r → ∃ o : Obj, w.heap[r]? = some o ∧ o.isCells = false) {k : Nat} {cs : Array Value} {e : TypeId} {u : Nat × Nat} (h : w.heap[k]? = some (.cells cs e u)) : w'.heap[k]? = some (.cells cs e u) := by
  rw [hg.block k (Array.getElem?_eq_some_iff.1 h).1 fun e' => ?_, h]
  obtain ⟨o, h1, h2⟩ := hr k e'.symm
  rw [h] at h1; cases h1
  cases h2
theorem satH_grown {ρ : Rho} {h : Heap} {w' : World} {row : Option Nat} (hs : SatH ρ h w) (hg : w.grownBy w' row) (hr : ∀ r, row = some r → ∃ o : Obj, w.heap[r]? = some o ∧ o.isCells = false) : SatH ρ h w' where
  pos := hs.pos
  wf := hs.wf
  cells b x p hb hp i hi j av hav := by
    obtain ⟨c, h1, h2⟩ := hs.cells b x p hb hp i hi j av hav
    exact ⟨c, cell_grown hg hr h1, h2⟩
  own b x p hb ho hp h0 := by
    obtain ⟨cs, e, h1, h2⟩ := hs.own b x p hb ho hp h0
    exact ⟨cs, e, cells_grown hg hr h1, h2⟩
  apart := hs.apart
theorem gok_grown {O : Nat → Prop} {w' : World} {row : Option Nat} (h : GOk E O w) (hg : w.grownBy w' row) (hr : ∀ r, row = some r → E.ng ≤ r ∧ ∃ o : Obj, w.heap[r]? = some o ∧ o.isCells = false) : GOk E O w' where
  laid := h.laid
  size := Nat.le_trans h.size hg.size
  base g hgl := (hg.block g (Nat.lt_of_lt_of_le hgl h.size) fun e => by have := (hr g e.symm).1; omega).trans (h.base g hgl)
  own := h.own
theorem cfg_grown {bs : List Blk} {ps : List Pos} {w' : World} {row : Option Nat} (h : CfgOk E w bs ps) (hg : w.grownBy w' row) (hr : ∀ r, row = some r → E.ng ≤ r ∧ ∃ o : Obj, w.heap[r]? = some o ∧ o.isCells = false) : CfgOk E w' bs ps :=
  ⟨satH_grown h.sat hg fun r e => (hr r e).2, gok_grown h.g hg hr, h.len, h.few⟩
theorem mv_grown {w0 : World} {b0 bs : List Blk} {p0 ps : List Pos} {w' : World} {row : Option Nat} (h : Mv w0 b0 p0 w bs ps) (hg : w.grownBy w' row) (hr : ∀ r, row = some r → w0.heap.size ≤ r) : Mv w0 b0 p0 w' bs ps where
  stp := ⟨⟨hg.os.trans h.stp.ext.os, hg.tape.trans h.stp.ext.tape, hg.output.trans h.stp.ext.output, Nat.le_trans h.stp.ext.size hg.size, fun k hk hn =>
      (hg.block k (Nat.lt_of_lt_of_le hk h.stp.ext.size) fun e => by have := hr k e.symm; omega).trans (h.stp.ext.block k hk hn), fun a ha hn =>
      (World.frozen?_of_block (hg.block a.block (Nat.lt_of_lt_of_le ha h.stp.ext.size) fun e => by have := hr a.block e.symm; omega)).trans (h.stp.ext.frozen a ha hn)⟩, h.stp.sub, h.stp.src⟩
  src := h.src
theorem keeps_others {bs bs' : List Blk} {ps ps' : List Pos} {w' : World} (hc : CfgOk E w bs ps) (h : Mv w bs ps w' bs' ps') : KeepsOthers w w' where
  size := h.stp.ext.size
  same k o hk ho := by
    refine (h.stp.ext.block k (Array.getElem?_eq_some_iff.1 hk).1 ?_).trans hk
    rintro ⟨b, x, p, hb, hx, hp, h0, rfl⟩
    obtain ⟨cs, e, h1, _⟩ := hc.sat.own b x p hb hx hp h0
    rw [hk] at h1; cases h1
    cases ho
end
end Go.Am
namespace Go.Am
def runs (E : Env) (C : CallR) (L : LoopR) : List Code → AState → T AState
  | [], st => .leaf st
  | c :: cs, st => (run E C L c st).bind fun r => match r.1 with
    | .normal => runs E C L cs r.2
    | _ => .bad
section
variable {E : Env} {ρ : Rho} {h : Heap} {w w' : World} {C : CallR} {L : LoopR}
structure Back (w : World) (v : Value) (f : FuncId) (l : List Int) (Bn Bo bk off cap : Nat) (a : Option Addr) : Prop where
  fn : v = .func (.func f) #[] #[.pointer (some ⟨Bn, Bo, none⟩)]
  box : w.cell? ⟨Bn, Bo, none⟩ = some (.slice a l.length cap)
  sl : 0 < l.length → a = some ⟨bk, off, none⟩
  el : ∀ (i : Nat) x, l[i]? = some x → w.cell? ⟨bk, off + i, none⟩ = some (.int .i64 x)
  lb : Bn < w.heap.size
  lk : bk < w.heap.size
end
end Go.Am
namespace Go.Am
def firstB (bad : Nat → Bool) : Nat → Nat → Nat
  | 0, i => i
  | f + 1, i => bif bad i then i else firstB bad f (i + 1)
theorem firstB_any (bad : Nat → Bool) : ∀ f i, decide (firstB bad f i < i + f) = (List.range' i f).any bad
  | 0, i => by simp [firstB]
  | f + 1, i => by
    unfold firstB
    have ih := firstB_any bad f (i + 1)
    rw [List.range'_succ, List.any_cons, ← ih]
    cases bad i with
    | true => simp
    | false =>
      simp only [cond_false, Bool.false_or]
      congr 1
      exact propext ⟨fun h => by omega, fun h => by omega⟩
def firstL {α : Type} (p : α → Bool) : List α → Nat
  | [] => 0
  | x :: l => bif p x then 0 else firstL p l + 1
theorem firstB_list {α : Type} [Inhabited α] (p : α → Bool) : ∀ (r l : List α) (i : Nat), l.drop i = r → firstB (fun j => p (l.getD j default)) r.length i = i + firstL p r
  | [], l, i, h => rfl
  | x :: r, l, i, h => by
    have hlt : i < l.length := by
      rcases Nat.lt_or_ge i l.length with h1 | h1
      · exact h1
      · rw [List.drop_eq_nil_of_le h1] at h; cases h
    have hx : l.getD i default = x := by
      rw [List.drop_eq_getElem_cons hlt] at h
      injection h with h1 h2
      simp [List.getD, hlt, h1]
    have hr : l.drop (i + 1) = r := by
      rw [List.drop_eq_getElem_cons hlt] at h
      injection h with h1 h2
    rw [List.length_cons]
    unfold firstB firstL
    rw [hx]
    cases p x with
    | true => rfl
    | false => simp only [cond_false]; rw [firstB_list p r l (i + 1) hr]; omega
theorem firstL_any {α : Type} (p : α → Bool) : ∀ l : List α, decide (firstL p l < l.length) = l.any p
  | [] => rfl
  | x :: l => by
    unfold firstL
    rw [List.any_cons, ← firstL_any p l]
    cases p x with
    | true => simp
    | false =>
      simp only [cond_false, Bool.false_or, List.length_cons]
      congr 1
      exact propext ⟨fun h => by omega, fun h => by omega⟩
section
variable {E : Env} {C : CallR} {L : LoopR} {n : Nat} {sg : LSig} {body : Code}
theorem scan_turns {st : Int → List AV} {bs : List Blk} {len : Nat} {bad : Nat → Bool} {ob : Nat → Out} {k : Nat} {oe : Out}
    (h : ∀ i : Nat, i ≤ len → (turn E C L n sg body (st i) bs).sel = bif decide (i < len) then (bif bad i then some (.ret, ob i) else some (.normal, ⟨st (i + 1 : Nat), bs⟩)) else some (.exit k, oe)) :
    ∀ (f i : Nat), i + f = len → ∃ m, (turns E C L n sg body m (st i) bs).sel = bif decide (firstB bad f i < len) then some (.ret, ob (firstB bad f i)) else some (.exit k, oe)
  | 0, i, hi => by
    have ht := h i (by omega)
    rw [decide_eq_false (by omega), cond_false] at ht
    refine ⟨1, (turns_done ht (by simp)).trans ?_⟩
    unfold firstB
    rw [decide_eq_false (by omega)]; rfl
  | f + 1, i, hi => by
    have ht := h i (by omega)
    rw [decide_eq_true (show i < len by omega), cond_true] at ht
    unfold firstB
    cases hb : bad i with
    | true =>
      rw [hb, cond_true] at ht
      refine ⟨1, (turns_done ht (by simp)).trans ?_⟩
      simp only [cond_true]
      rw [decide_eq_true (show i < len by omega)]; rfl
    | false =>
      rw [hb, cond_false] at ht
      obtain ⟨m, hm⟩ := scan_turns h f (i + 1) (by omega)
      exact ⟨m + 1, (turns_more' ht).trans hm⟩
end
theorem in_range {α : Type} {i n : Nat} (h : i < n) (r : Option α) : (bif decide ((0 : Int) ≤ (i : Int) ∧ (i : Int) < (n : Int)) then (bif decide (((i : Int)).toNat < n) then r else none) else none) = r := by
  rw [decide_eq_true (show (0 : Int) ≤ (i : Int) ∧ (i : Int) < (n : Int) from ⟨by omega, by omega⟩), decide_eq_true (show ((i : Int)).toNat < n by omega)]; rfl
def all2 {α : Type} (e : α → α → Bool) : List α → List α → Bool
  | [], [] => true
  | x :: l, y :: m => e x y && all2 e l m
  | _, _ => false
theorem firstB_congr {b b' : Nat → Bool} : ∀ (f i : Nat), (∀ j, i ≤ j → j < i + f → b j = b' j) → firstB b f i = firstB b' f i
  | 0, _, _ => rfl
  | f + 1, i, h => by
    unfold firstB
    rw [h i (Nat.le_refl _) (by omega), firstB_congr f (i + 1) fun j h1 h2 => h j (by omega) (by omega)]
theorem zip_any {α : Type} {e : α → α → Bool} : ∀ {l m : List α}, l.length = m.length → (l.zip m).any (fun z => !e z.1 z.2) = !all2 e l m
  | [], [], _ => rfl
  | x :: l, y :: m, h => by
    rw [List.zip_cons_cons, List.any_cons, zip_any (by simpa using h)]
    show (!e x y || !all2 e l m) = !(e x y && all2 e l m)
    rw [Bool.not_and]
  | [], _ :: _, h => by simp at h
  | _ :: _, [], h => by simp at h
theorem first2 {α : Type} [Inhabited α] {e : α → α → Bool} {l m : List α} (h : l.length = m.length) : decide (firstB (fun j => !e (l.getD j default) (m.getD j default)) l.length 0 < l.length) = !all2 e l m := by
  have hz : (l.zip m).length = l.length := by rw [List.length_zip, h, Nat.min_self]
  rw [← zip_any h, ← firstL_any, hz]
  congr 1
  have := firstB_list (fun z : α × α => !e z.1 z.2) (l.zip m) (l.zip m) 0 rfl
  rw [Nat.zero_add, hz] at this
  rw [← this]
  congr 1
  refine firstB_congr _ _ fun j _ hj => ?_
  have h1 : j < l.length := by omega
  have h2 : j < m.length := by omega
  have h3 : j < (l.zip m).length := by omega
  have h4 : (l.zip m)[j]? = some (l[j], m[j]) := by rw [List.getElem?_eq_getElem h3, List.getElem_zip]
  simp [List.getD, h1, h2, h4]
theorem all2_len {α : Type} {e : α → α → Bool} : ∀ {l m : List α}, all2 e l m = true → l.length = m.length
  | [], [], _ => rfl
  | x :: l, y :: m, h => by
    have h : (e x y && all2 e l m) = true := h
    rw [Bool.and_eq_true] at h
    rw [List.length_cons, List.length_cons, all2_len h.2]
  | [], _ :: _, h => by cases h
  | _ :: _, [], h => by cases h
end Go.Am
namespace Go.Am
open Go.RowKit
end Go.Am
