/-
  Texts put together: AmLib, Plain, AmLib2, AmIn, AmMid, AmScan, AmLend.
-/
import Derived.Test.YtdckpbeioemopabGreatDoorAmC
import Derived.RowKit3
import Derived.Shelf.Strconv.Itoa4
import Derived.Shelf.Strconv.ErrVarParseInt
import Derived.Shelf.Strings.SlTrimAscii
import Derived.Shelf.Strings.OnBuilder
import Derived.RangeFuncFrom
import Derived.RangeFuncLeaves
import Derived.RangeFuncRecord
import Derived.OwnWalkIn
namespace Go.Am
open Go.RowKit
theorem ext_below {w w' : World} (h : Below w.heap.size w w') : Ext (fun _ => False) w w' :=
  ⟨h.os, h.tape, h.output, h.size, fun k hk _ => h.block k hk, fun _ ha _ => h.frozen ha⟩
theorem below_ext {w w' : World} (h : Ext (fun _ => False) w w') : Below w.heap.size w w' :=
  ⟨h.os, h.tape, h.output, h.size, fun k hk => h.block k hk fun h => h⟩
theorem psRho_nil : psRho [] = fun _ => none := by funext b; simp [psRho]
theorem cfg_nil {E : Env} {w : World} (hg : GOk E (fun _ => False) w) : CfgOk E w [] [] :=
  ⟨⟨fun b x hb => by simp [blkH] at hb, fun b x hb => by simp [blkH] at hb, fun b x p hb => by simp [blkH] at hb, fun b x p hb => by simp [blkH] at hb, fun b x p b' x' p' hb => by simp [blkH] at hb⟩,
   ⟨hg.laid, hg.size, hg.base, fun k ⟨b, x, p, hb, _⟩ => by simp [blkH] at hb⟩, rfl, Nat.zero_le _⟩
theorem own_nil (k : Nat) : ¬ ownB (psRho []) (blkH []) k := fun ⟨b, x, p, hb, _⟩ => by simp [blkH] at hb
theorem live_nil (k : Nat) : ¬ liveB (psRho []) (blkH []) k := fun ⟨b, x, p, hb, _⟩ => by simp [blkH] at hb
def domN : Dom := ⟨fun _ => False, fun _ => False⟩
theorem gok_any {E : Env} {O : Nat → Prop} {w : World} (h : GOk E O w) : GOk E (fun _ => False) w := ⟨h.laid, h.size, h.base, fun _ h => h.elim⟩
theorem stp_below {w w' : World} (h : Below w.heap.size w w') : Stp (domB (psRho []) (blkH [])) (domB (psRho []) (blkH [])) w w' :=
  ⟨(ext_below h).mono fun _ _ h => h.elim, fun k hk => (own_nil k hk).elim, fun k hk => (live_nil k hk).elim⟩
theorem fnOk_plain {E : Env} {f : FuncId} {s : FSpec} (hat : ∃ fn c, FnAt E.P f fn c)
    (h : ∀ vs bs out, (s vs bs).sel = some out → pers vs bs = [] ∧ bs = [] ∧ out.blks = [] ∧ ∀ (w : World) (cargs : List Value), GOk E (fun _ => False) w → VL (fun _ => none) vs cargs →
      Calls E.P f cargs.toArray w fun e w' => ∃ cv, e = .returned cv ∧ V (fun _ => none) (oneOrTup out.vals) cv ∧ Below w.heap.size w w') : FnOk E f s := by
  refine ⟨hat, fun vs bs out hsel w cargs ps hc hv => ?_⟩
  obtain ⟨h1, rfl, h3, h4⟩ := h vs bs out hsel
  have hps : ps = [] := List.eq_nil_of_length_eq_zero hc.len
  subst hps
  rw [psRho_nil] at hv
  have hg := gok_any hc.g
  refine (h4 w cargs hg hv).mono fun e w' ⟨cv, he, hcv, hb⟩ => ⟨cv, [], he, ?_, ?_, ⟨?_, ?_⟩, fun j k hj => ?_⟩
  · rw [h3]
    have hs : Stp domN domN w w' := ⟨ext_below hb, fun _ h => h.elim, fun _ h => h.elim⟩
    exact cfg_nil (GOk.step (O := domN) (O' := domN) hg hs)
  · rw [psRho_nil]; exact hcv
  · rw [h3]; exact stp_below hb
  · intro k x p hk
    rw [h3] at hk; simp at hk
  · rw [h1] at hj; simp at hj
theorem bytes_eq (s : List UInt8) : (⟨s.toArray⟩ : ByteArray).data.toList = s := by simp
theorem size_eq (s : List UInt8) : (⟨s.toArray⟩ : ByteArray).size = s.length := by simp [ByteArray.size]
def sTrim (cut : List UInt8) : FSpec
  | [.str s, .str c], [] => .node (decide (s.length ≤ lim ∧ c = cut)) (.leaf ⟨[.str (Lib.trimS s cut)], []⟩) .bad
  | _, _ => .bad
theorem trim_ok {E : Env} {f : FuncId} (hat : ∃ fn c, FnAt E.P f fn c) {cut : List UInt8}
    (h : ∀ (s : ByteArray) (w : World), s.size ≤ lim → Calls E.P f #[.string s, .string ⟨cut.toArray⟩] w fun e w' => e = .returned (.string ⟨(Lib.trimS s.data.toList cut).toArray⟩) ∧ Below w.heap.size w w') : FnOk E f (sTrim cut) := by
  refine fnOk_plain hat fun vs bs out hsel => ?_
  unfold sTrim at hsel
  split at hsel
  · rename_i s c
    rcases T.node_sel hsel with ⟨hc, hs2⟩ | ⟨_, hs2⟩
    · have hc := of_decide_eq_true hc
      obtain ⟨hl, rfl⟩ := hc
      simp only [T.sel, Option.some.injEq] at hs2
      subst hs2
      refine ⟨rfl, rfl, rfl, fun w cargs hg hv => ?_⟩
      simp only [VL, V] at hv
      obtain ⟨v, r, rfl, rfl, v2, r2, rfl, rfl, rfl⟩ := hv
      refine (h ⟨s.toArray⟩ w (by rw [size_eq]; exact hl)).mono fun e w' ⟨he, hb⟩ => ⟨_, he, ?_, hb⟩
      simp [oneOrTup, V]
    · simp [T.sel] at hs2
  · simp [T.sel] at hsel
def rng64 (n : Int) : Bool := decide (-9223372036854775808 ≤ n ∧ n ≤ 9223372036854775807)
def sFormat : FSpec
  | [.int .i64 n, .int .i64 b], [] => .node (rng64 n && decide (b = 10)) (.leaf ⟨[.str (Lib.itoa n)], []⟩) .bad
  | _, _ => .bad
def pOk (s : List UInt8) : Bool := match Lib.parseIntB 64 s with
  | .ok _ => true
  | _ => false
def pVal (s : List UInt8) : Int := match Lib.parseIntB 64 s with
  | .ok v => v
  | _ => 0
def pBad (s : List UInt8) : Int := match Lib.parseIntB 64 s with
  | .range => Lib.intSat 64 s
  | _ => 0
def sParse (te : TypeId) : FSpec
  | [.str s, .int .i64 b, .int .i64 n], [] => .node (decide (s.length ≤ lim) && (decide (b = 10) && decide (n = 64))) (.node (pOk s) (.leaf ⟨[.int .i64 (pVal s), .nili], []⟩) (.leaf ⟨[.int .i64 (pBad s), .iface te .any], []⟩)) .bad
  | _, _ => .bad
structure ParseOk (E : Env) (f : FuncId) (te t5 : TypeId) : Prop where
  ok : ∀ (s : ByteArray) (v : Int) (w : World), s.size ≤ lim → Lib.parseIntB 64 s.data.toList = .ok v → Calls E.P f #[.string s, .int .i64 10, .int .i64 64] w fun e w' => e = .returned (.tuple #[.int .i64 v, .nilIface]) ∧ (w' = w ∨ ∃ t, w' = Lib.bytesWorld w t5 t)
  syn : ∀ (s : ByteArray) (w : World), GOk E (fun _ => False) w → s.size ≤ lim → (∀ v, Lib.parseIntB 64 s.data.toList ≠ .ok v) → Lib.parseIntB 64 s.data.toList ≠ .range → Calls E.P f #[.string s, .int .i64 10, .int .i64 64] w fun e w' => ∃ x, e = .returned (.tuple #[.int .i64 0, .iface te x]) ∧ Below w.heap.size w w'
  range : ∀ (s : ByteArray) (w : World), GOk E (fun _ => False) w → s.size ≤ lim → Lib.parseIntB 64 s.data.toList = .range → Calls E.P f #[.string s, .int .i64 10, .int .i64 64] w fun e w' => ∃ x, e = .returned (.tuple #[.int .i64 (Lib.intSat 64 s.data.toList), .iface te x]) ∧ Below w.heap.size w w'
theorem parse_ok {E : Env} {f : FuncId} {te t5 : TypeId} (hat : ∃ fn c, FnAt E.P f fn c) (h : ParseOk E f te t5) : FnOk E f (sParse te) := by
  refine fnOk_plain hat fun vs bs out hsel => ?_
  unfold sParse at hsel
  split at hsel
  · rename_i s b n
    rcases T.node_sel hsel with ⟨hc, hs2⟩ | ⟨_, hs2⟩
    · simp only [Bool.and_eq_true, decide_eq_true_eq] at hc
      obtain ⟨hl, rfl, rfl⟩ := hc
      have hpers : pers [AV.str s, .int .i64 10, .int .i64 64] [] = [] := rfl
      have hsz : (⟨s.toArray⟩ : ByteArray).size ≤ lim := by rw [size_eq]; exact hl
      have open3 : ∀ cargs, VL (fun _ => none) [AV.str s, .int .i64 10, .int .i64 64] cargs → cargs = [.string ⟨s.toArray⟩, .int .i64 10, .int .i64 64] := fun cargs hv => by
        simp only [VL, V] at hv
        obtain ⟨v, r, rfl, rfl, v2, r2, rfl, rfl, v3, r3, rfl, rfl, rfl⟩ := hv
        rfl
      rcases T.node_sel hs2 with ⟨hp, hs3⟩ | ⟨hp, hs3⟩
      · simp only [T.sel, Option.some.injEq] at hs3
        subst hs3
        refine ⟨hpers, rfl, rfl, fun w cargs hg hv => ?_⟩
        rw [open3 cargs hv]
        cases hq : Lib.parseIntB 64 s with
        | ok v =>
          refine (h.ok ⟨s.toArray⟩ v w hsz (by rw [bytes_eq]; exact hq)).mono fun e w' ⟨he, hw⟩ => ⟨_, he, ?_, ?_⟩
          · simp only [pVal, hq, oneOrTup, V, VL]
            exact ⟨_, rfl, _, _, rfl, rfl, _, _, rfl, rfl, rfl⟩
          · rcases hw with rfl | ⟨t, rfl⟩
            · exact Below.refl _ _
            · exact Lib.bytesWorld_below w t5 t
        | range => simp [pOk, hq] at hp
        | _ => simp [pOk, hq] at hp
      · simp only [T.sel, Option.some.injEq] at hs3
        subst hs3
        refine ⟨hpers, rfl, rfl, fun w cargs hg hv => ?_⟩
        rw [open3 cargs hv]
        cases hq : Lib.parseIntB 64 s with
        | ok v => simp [pOk, hq] at hp
        | range =>
          refine (h.range ⟨s.toArray⟩ w hg hsz (by rw [bytes_eq]; exact hq)).mono fun e w' ⟨x, he, hb⟩ => ⟨_, he, ?_, hb⟩
          simp only [pBad, hq, oneOrTup, V, VL]
          exact ⟨_, rfl, _, _, rfl, rfl, _, _, rfl, ⟨x, rfl, trivial⟩, rfl⟩
        | _ =>
          refine (h.syn ⟨s.toArray⟩ w hg hsz (by rw [bytes_eq, hq]; intro v e; cases e) (by rw [bytes_eq, hq]; intro e; cases e)).mono fun e w' ⟨x, he, hb⟩ => ⟨_, he, ?_, hb⟩
          simp only [pBad, hq, oneOrTup, V, VL]
          exact ⟨_, rfl, _, _, rfl, rfl, _, _, rfl, ⟨x, rfl, trivial⟩, rfl⟩
    · simp [T.sel] at hs2
  · simp [T.sel] at hsel
theorem law_calls {E : Env} {f : FuncId} {s : FSpec} (h : FnOk E f s) {vs : List AV} (hs : (s vs []).sel = some ⟨[.bool true], []⟩) {w : World} {cargs : List Value} (hg : GOk E (fun _ => False) w) (hv : VL (fun _ => none) vs cargs) :
    Calls E.P f cargs.toArray w fun e w' => e = .returned (.bool true) ∧ Below w.heap.size w w' := by
  refine (h.2 vs [] _ hs w cargs [] (cfg_nil hg) (by rw [psRho_nil]; exact hv)).mono fun e w' ⟨cv, ps', he, hc, hcv, hm, _⟩ => ?_
  have hps : ps' = [] := List.eq_nil_of_length_eq_zero hc.len
  subst hps
  simp only [oneOrTup, V] at hcv
  exact ⟨by rw [he, hcv], below_ext (hm.stp.ext.mono fun k _ hk => (own_nil k hk).elim)⟩
end Go.Am
namespace Go.Am
def i64 (n : Int) : AV := .int .i64 n
def rb (b : Bool) : Option Out := some ⟨[.bool b], []⟩
def rp (x e : Int) : Option Out := some ⟨[i64 x, i64 e], []⟩
def Rng (a : Int) : Prop := -9223372036854775808 ≤ a ∧ a ≤ 9223372036854775807
instance (a : Int) : Decidable (Rng a) := by unfold Rng; exact inferInstance
def wr (n : Int) : Int := IntKind.i64.wrap n
end Go.Am
namespace Go.Am
open Go.RowKit
theorem fnOk_reads {E : Env} {f : FuncId} {s : FSpec} (hat : ∃ fn c, FnAt E.P f fn c)
    (h : ∀ vs bs out, (s vs bs).sel = some out → pers vs bs = [] ∧ out.blks = [] ∧ ∀ (w : World) (cargs : List Value) (ps : List Pos), CfgOk E w bs ps → VL (psRho ps) vs cargs →
      Calls E.P f cargs.toArray w fun e w' => ∃ cv, e = .returned cv ∧ V (fun _ => none) (oneOrTup out.vals) cv ∧ Below w.heap.size w w') : FnOk E f s := by
  refine ⟨hat, fun vs bs out hsel w cargs ps hc hv => ?_⟩
  obtain ⟨h1, h3, h4⟩ := h vs bs out hsel
  have hg := gok_any hc.g
  refine (h4 w cargs ps hc hv).mono fun e w' ⟨cv, he, hcv, hb⟩ => ⟨cv, [], he, ?_, ?_, ⟨?_, ?_⟩, fun j k hj => ?_⟩
  · rw [h3]
    have hs : Stp domN domN w w' := ⟨ext_below hb, fun _ h => h.elim, fun _ h => h.elim⟩
    exact cfg_nil (GOk.step (O := domN) (O' := domN) hg hs)
  · rw [psRho_nil]; exact hcv
  · rw [h3]
    exact ⟨(ext_below hb).mono fun _ _ h => h.elim, fun k hk => (own_nil k hk).elim, fun k hk => (live_nil k hk).elim⟩
  · intro k x p hk
    rw [h3] at hk; simp at hk
  · rw [h1] at hj; simp at hj
theorem cell_lt {w : World} {a : Addr} {v : Value} (h : w.cell? a = some v) : a.block < w.heap.size := by
  rcases Nat.lt_or_ge a.block w.heap.size with h1 | h1
  · exact h1
  · unfold World.cell? at h
    rw [Array.getElem?_eq_none h1] at h
    simp at h
theorem strs_of {E : Env} {w : World} {bs : List Blk} {ps : List Pos} (hc : CfgOk E w bs ps) {k : Nat} {o : Bool} {L : List (List UInt8)} (hk : bs[k]? = some ⟨o, .strs L⟩) {v : Value} (hv : V (psRho ps) (.slw k) v) :
    ∃ a c, v = .slice a L.length c ∧ L.length ≤ c ∧ (L ≠ [] → ∃ b off, a = some ⟨b, off, none⟩ ∧ b < w.heap.size ∧ ∀ (j : Nat) (x : List UInt8), L[j]? = some x → w.cell? ⟨b, off + j, none⟩ = some (.string ⟨x.toArray⟩)) := by
  simp only [V] at hv
  obtain ⟨p, hp, hle, a, rfl, ha⟩ := hv
  have hb : blkH bs k = some ⟨o, .strs L⟩ := hk
  obtain ⟨q, hq, hs, hl, hcap, hmax⟩ := hc.sat.pos k _ hb
  rw [hp] at hq; cases hq
  have hs : p.stride = 1 := hs
  have hl : p.len = L.length := hl
  rw [hl]
  refine ⟨a, _, rfl, by omega, fun hne => ?_⟩
  have hpos : 0 < L.length := List.length_pos_iff.2 hne
  have hcells : ∀ (j : Nat) (x : List UInt8), L[j]? = some x → w.cell? ⟨p.block, p.off + j, none⟩ = some (.string ⟨x.toArray⟩) := fun j x hj => by
    have hlt : j < L.length := (List.getElem?_eq_some_iff.1 hj).1
    obtain ⟨c, h1, h2⟩ := hc.sat.cells k _ p hb hp j hlt 0 (.str x) (by simp [Dat.row, List.getD, hj])
    simp only [V] at h2
    subst h2
    simpa [Pos.addr, hs] using h1
  have := ha (by omega)
  simp only [Pos.addr, hs] at this
  refine ⟨p.block, p.off, by rw [this]; simp, ?_, hcells⟩
  obtain ⟨x, hx⟩ : ∃ x, L[0]? = some x := ⟨L[0], List.getElem?_eq_getElem hpos⟩
  exact cell_lt (hcells 0 x hx)
theorem turns_more' {E : Env} {C : CallR} {L : LoopR} {n : Nat} {sg : LSig} {body : Code} {k : Nat} {vs : List AV} {bs : List Blk} {o : Out} (h : (turn E C L n sg body vs bs).sel = some (.normal, o)) :
    (turns E C L n sg body (k + 1) vs bs).sel = (turns E C L n sg body k o.vals o.blks).sel := by
  show ((turn E C L n sg body vs bs).bind _).sel = _
  rw [sel_bind, h]
def sJoin : FSpec
  | [.slw 0, .str sep], [⟨_, .strs L⟩] => .node (decide (L.length ≤ lim ∧ (Lib.join L sep).length ≤ lim)) (.leaf ⟨[.str (Lib.join L sep)], []⟩) .bad
  | _, _ => .bad
theorem join_ok {E : Env} {f : FuncId} (hat : ∃ fn c, FnAt E.P f fn c)
    (h0 : ∀ (a : Option Addr) (c : Nat) (sep : ByteArray) (w : World), Calls E.P f #[.slice a 0 c, .string sep] w fun e w' => e = .returned (.string ⟨#[]⟩) ∧ w' = w)
    (h1 : ∀ (b o c : Nat) (xs : List ByteArray) (sep : ByteArray) (w : World), (∀ (j : Nat) x, xs[j]? = some x → w.cell? ⟨b, o + j, none⟩ = some (.string x)) → b < w.heap.size → xs.length ≤ 140737488355328 → xs.length ≤ c →
      (Lib.join (xs.map (·.data.toList)) sep.data.toList).length ≤ 140737488355328 → Calls E.P f #[.slice (some ⟨b, o, none⟩) xs.length c, .string sep] w fun e w' => e = .returned (.string ⟨(Lib.join (xs.map (·.data.toList)) sep.data.toList).toArray⟩) ∧ Below w.heap.size w w') : FnOk E f sJoin := by
  refine fnOk_reads hat fun vs bs out hsel => ?_
  unfold sJoin at hsel
  split at hsel
  · rename_i sep o L
    rcases T.node_sel hsel with ⟨hc, hs2⟩ | ⟨_, hs2⟩
    · obtain ⟨hl, hj⟩ := of_decide_eq_true hc
      simp only [T.sel, Option.some.injEq] at hs2
      subst hs2
      refine ⟨rfl, rfl, fun w cargs ps hcfg hv => ?_⟩
      simp only [VL] at hv
      obtain ⟨v, r, rfl, hv0, v2, r2, rfl, hv2, rfl⟩ := hv
      simp only [V] at hv2
      subst hv2
      obtain ⟨a, c, rfl, hcap, hcell⟩ := strs_of hcfg (k := 0) rfl hv0
      by_cases hL : L = []
      · subst hL
        refine (h0 a c ⟨sep.toArray⟩ w).mono fun e w' ⟨he, hw⟩ => ⟨_, he, ?_, hw ▸ Below.refl _ _⟩
        simp [oneOrTup, V, Lib.join_nil]
      · obtain ⟨b, off, rfl, hb, hcl⟩ := hcell hL
        have e1 : (L.map fun x => (⟨x.toArray⟩ : ByteArray)).map (·.data.toList) = L := by
          simp [Function.comp_def]
        have := h1 b off c (L.map fun x => (⟨x.toArray⟩ : ByteArray)) ⟨sep.toArray⟩ w (fun j x hx => by
          rw [List.getElem?_map, Option.map_eq_some_iff] at hx
          obtain ⟨y, hy, rfl⟩ := hx
          exact hcl j y hy) hb (by rw [List.length_map]; exact Nat.le_trans hl (by decide)) (by rw [List.length_map]; exact hcap) (by rw [e1, bytes_eq]; exact Nat.le_trans hj (by decide))
        rw [e1, bytes_eq, List.length_map] at this
        refine this.mono fun e w' ⟨he, hw⟩ => ⟨_, he, ?_, hw⟩
        simp [oneOrTup, V]
    · simp [T.sel] at hs2
  · simp [T.sel] at hsel
end Go.Am
namespace Go.Am
open Go.RowKit
section
variable {P : Program}
theorem callsIn_round {l n : Nat} {f : FuncId} {args : Array Value} {w : World} {R : Ending → World → Prop} (h : Calls P f args w R) : CallsIn (Fence.wide.inRound l) n P f args w R :=
  ⟨trivial, fun cs _ => (callsIn_wide (n := n)).2 h |>.2 cs (room_wide _)⟩
theorem opIn {l n : Nat} {o : Oper} {a : Act} {w : World} {next : Act → World → Prop} {Q : Exit → Act → World → Prop} (hnd : ∀ c, o.op ≠ .defer c) (h : o.wp P a w next Q) : o.wpIn (Fence.wide.inRound l) n P a w next Q := by
  refine ⟨fun _ _ => trivial, ?_⟩
  rw [Oper.semAt_plain (Fence.wide.inRound l) a.eval o hnd]
  unfold Oper.wp at h
  generalize (execOp a.eval o).run P w = r at h
  unfold Oper.upon at h
  unfold Oper.uponIn
  split at h
  · exact h
  · exact h
  · exact h
  · exact ⟨fun _ => by contradiction, callsIn_round h⟩
  · exact ⟨fun _ => by contradiction, fun c cs _ => let ⟨v, w', r, s⟩ := h c cs; ⟨v, w', r, stepsIn_wide.2 s⟩⟩
  · exact h
  · exact h.elim
theorem opsIn {l n : Nat} {ops : Array Oper} {Q : Exit → Act → World → Prop} (hnd : ∀ (i : Nat) o, ops[i]? = some o → ∀ c, o.op ≠ .defer c) (hq : ¬ LetsOut Q) : ∀ (L : List Nat) (a : Act) (w : World), wpOps P ops Q L a w → wpOpsIn (Fence.wide.inRound l) n P ops Q L a w
  | [], _, _, h => h
  | i :: rest, a, w, h => by
    unfold wpOps at h
    unfold wpOpsIn
    split
    · rename_i ho
      rw [ho] at h
      exact opsIn hnd hq rest a w h
    · rename_i o ho
      rw [ho] at h
      simp only at h
      split
      · rename_i hw
        rw [if_pos hw] at h
        rcases h with h | ⟨_, h⟩
        · exact Oper.wpIn_mono (fun a w => opsIn hnd hq rest a w) (opIn (hnd i o ho) h)
        · exact (hq h).elim
      · rename_i hw
        rw [if_neg hw] at h
        exact ⟨fun _ _ => trivial, opsIn hnd hq rest _ w h⟩
end
def rturn (E : Env) (C : CallR) (n : Nat) (sg : LSig) (ops : Array Oper) (vs : List AV) (bs : List Blk) : T Out :=
  bif Nat.ble bs.length 1000 && (Nat.beq vs.length (sg.cs ++ sg.mv).length && Nat.ble ops.size 4096) then
    (opsT E C ops (List.range ops.size) (loopSt E n sg vs bs)).bind fun st => expTurn E st.h bs.length (pers vs bs) sg.take (slotTys (sg.cs ++ sg.mv)) (slotAVs st (sg.cs ++ sg.mv))
  else .bad
section
variable {E : Env} {C : CallR} {w : World}
theorem rturn_ok (hC : CG E C) {n : Nat} {sg : LSig} {ops : Array Oper} {vs : List AV} {bs : List Blk} {o : Out} (h : (rturn E C n sg ops vs bs).sel = some o) (ht : (loopSt E n sg vs bs).τ < 1000000)
    {a : Act} {ps : List Pos} (hn : a.tmps.size = n) (hcfg : CfgOk E w bs ps) (hv : VL (psRho ps) vs (slotVs a (sg.cs ++ sg.mv))) {R : Act → World → Prop}
    (hR : ∀ a' w' ps', CfgOk E w' o.blks ps' → VL (psRho ps') o.vals (slotVs a' (sg.cs ++ sg.mv)) → Mv w bs ps w' o.blks ps' → SameB .normal vs bs ps o ps' → Keeps (opsDst ops (List.range ops.size)) a a' → R a' w') :
    wpOps E.P ops (fun e a w => e = .normal ∧ R a w) (List.range ops.size) a w := by
  unfold rturn at h
  cases hc : (Nat.ble bs.length 1000 && (Nat.beq vs.length (sg.cs ++ sg.mv).length && Nat.ble ops.size 4096)) with
  | false => rw [hc] at h; simp [T.sel] at h
  | true =>
    rw [hc, cond_true] at h
    simp only [Bool.and_eq_true] at hc
    have h4 := Nat.le_of_ble_eq_true hc.2.2
    obtain ⟨st1, h1, h2⟩ := T.bind_sel _ _ _ h
    have hsat := loop_sat hcfg hn hv
    refine ops_ok hC.ok ops _ _ st1 h1 _ a w _ hsat.rsat List.nodup_range (fun _ _ h => h) (fun _ h => h.elim) (fun i hi => by have := List.mem_range.1 hi; omega) ht _ fun ρ' a' w' hs' hst hle hk => ?_
    obtain ⟨ps', g1, g2, g3, g4, g5⟩ := expTurn_ok hcfg rfl (fun k hk => pers_mem hk) hs'.h hs'.g hle hst h2 (slot_VL hs'.t (sg.cs ++ sg.mv))
    exact ⟨rfl, hR a' w' ps' g1 g2 g3 ⟨g4, g5⟩ hk⟩
theorem cell_isCells {a : Addr} {v : Value} (h : w.cell? a = some v) : ∃ o : Obj, w.heap[a.block]? = some o ∧ o.isCells = true := by
  unfold World.cell? at h
  split at h
  · rename_i c t u hb; exact ⟨_, hb, rfl⟩
  · cases h
theorem cell_grown {w' : World} {row : Option Nat} (hg : w.grownBy w' row) (hr : ∀ r, row = some r → ∃ o : Obj, w.heap[r]? = some o ∧ o.isCells = false) {a : Addr} {v : Value} (h : w.cell? a = some v) : w'.cell? a = some v := by
  refine hg.cell h fun e => ?_
  obtain ⟨o, h1, h2⟩ := hr a.block e.symm
  obtain ⟨o', h3, h4⟩ := cell_isCells h
  rw [h1] at h3; cases h3
  rw [h2] at h4; cases h4
theorem cells_grown {w' : World} {row : Option Nat} (hg : w.grownBy w' row) (hr : ∀ r, row = some r → ∃ o : Obj, w.heap[r]? = some o ∧ o.isCells = false) {k : Nat} {cs : Array Value} {e : TypeId} {u : Nat × Nat} (h : w.heap[k]? = some (.cells cs e u)) : w'.heap[k]? = some (.cells cs e u) := by
  rw [hg.block k (Array.getElem?_eq_some_iff.1 h).1 fun e' => ?_, h]
  obtain ⟨o, h1, h2⟩ := hr k e'.symm
  rw [h] at h1; cases h1
  cases h2
theorem satH_grown {ρ : Rho} {h : Heap} {w' : World} {row : Option Nat} (hs : SatH ρ h w) (hg : w.grownBy w' row) (hr : ∀ r, row = some r → ∃ o : Obj, w.heap[r]? = some o ∧ o.isCells = false) : SatH ρ h w' where
  pos := hs.pos
  wf := hs.wf
  cells b x p hb hp i hi j av hav := by
    obtain ⟨c, h1, h2⟩ := hs.cells b x p hb hp i hi j av hav
    exact ⟨c, cell_grown hg hr h1, h2⟩
  own b x p hb ho hp h0 := by
    obtain ⟨cs, e, h1, h2⟩ := hs.own b x p hb ho hp h0
    exact ⟨cs, e, cells_grown hg hr h1, h2⟩
  apart := hs.apart
theorem gok_grown {O : Nat → Prop} {w' : World} {row : Option Nat} (h : GOk E O w) (hg : w.grownBy w' row) (hr : ∀ r, row = some r → E.ng ≤ r ∧ ∃ o : Obj, w.heap[r]? = some o ∧ o.isCells = false) : GOk E O w' where
  laid := h.laid
  size := Nat.le_trans h.size hg.size
  base g hgl := (hg.block g (Nat.lt_of_lt_of_le hgl h.size) fun e => by have := (hr g e.symm).1; omega).trans (h.base g hgl)
  own := h.own
theorem cfg_grown {bs : List Blk} {ps : List Pos} {w' : World} {row : Option Nat} (h : CfgOk E w bs ps) (hg : w.grownBy w' row) (hr : ∀ r, row = some r → E.ng ≤ r ∧ ∃ o : Obj, w.heap[r]? = some o ∧ o.isCells = false) : CfgOk E w' bs ps :=
  ⟨satH_grown h.sat hg fun r e => (hr r e).2, gok_grown h.g hg hr, h.len, h.few⟩
theorem mv_grown {w0 : World} {b0 bs : List Blk} {p0 ps : List Pos} {w' : World} {row : Option Nat} (h : Mv w0 b0 p0 w bs ps) (hg : w.grownBy w' row) (hr : ∀ r, row = some r → w0.heap.size ≤ r) : Mv w0 b0 p0 w' bs ps where
  stp := ⟨⟨hg.os.trans h.stp.ext.os, hg.tape.trans h.stp.ext.tape, hg.output.trans h.stp.ext.output, Nat.le_trans h.stp.ext.size hg.size, fun k hk hn =>
      (hg.block k (Nat.lt_of_lt_of_le hk h.stp.ext.size) fun e => by have := hr k e.symm; omega).trans (h.stp.ext.block k hk hn), fun a ha hn =>
      (World.frozen?_of_block (hg.block a.block (Nat.lt_of_lt_of_le ha h.stp.ext.size) fun e => by have := hr a.block e.symm; omega)).trans (h.stp.ext.frozen a ha hn)⟩, h.stp.sub, h.stp.src⟩
  src := h.src
theorem keeps_others {bs bs' : List Blk} {ps ps' : List Pos} {w' : World} (hc : CfgOk E w bs ps) (h : Mv w bs ps w' bs' ps') : KeepsOthers w w' where
  size := h.stp.ext.size
  same k o hk ho := by
    refine (h.stp.ext.block k (Array.getElem?_eq_some_iff.1 hk).1 ?_).trans hk
    rintro ⟨b, x, p, hb, hx, hp, h0, rfl⟩
    obtain ⟨cs, e, h1, _⟩ := hc.sat.own b x p hb hx hp h0
    rw [hk] at h1; cases h1
    cases ho
end
end Go.Am
namespace Go.Am
def offE (offs : List Nat) (es : List Ent) : Bool := es.all fun e => offs.all fun b => !(srcIs b e.src)
def capOf (h : Heap) : AV → Option (FuncId × Nat × Option Nat × List Int)
  | .fn f [] [.ptr b 0 0] => match h b with
    | some ⟨true, .gen [_] [[.slw c]]⟩ => match h c with
      | some ⟨_, .ints .i64 l⟩ => some (f, b, some c, l)
      | _ => none
    | some ⟨true, .gen [_] [[.nils]]⟩ => some (f, b, none, [])
    | _ => none
  | _ => none
def expAt (E : Env) (h : Heap) (_ : Nat) (P J : List Nat) (offs : List Nat) (take : List Nat) (ts : List TypeId) (l : List AV) : T Out :=
  match expAll E h (takeFl take) ts l with
  | some (vs, bs, es) => bif srcList P J es && offE offs es then .leaf ⟨vs, bs⟩ else .bad
  | none => .bad
def runs (E : Env) (C : CallR) (L : LoopR) : List Code → AState → T AState
  | [], st => .leaf st
  | c :: cs, st => (run E C L c st).bind fun r => match r.1 with
    | .normal => runs E C L cs r.2
    | _ => .bad
def nest (blk tail : Code) : List Code → Code
  | [] => .skip
  | [x] => .seq (.seq x blk) tail
  | x :: y :: xs => .seq x (nest blk tail (y :: xs))
def piecesOf : Nat → Code → List Code
  | n + 1, .seq a b => a :: piecesOf n b
  | 0, .seq (.seq a _) _ => [a]
  | _, _ => []
def blkOf : Nat → Code → Code
  | n + 1, .seq _ b => blkOf n b
  | 0, .seq (.seq _ b) _ => b
  | _, _ => .skip
def tailOf : Nat → Code → Code
  | n + 1, .seq _ b => tailOf n b
  | 0, .seq (.seq _ _) t => t
  | _, _ => .skip
def midT (E : Env) (C : CallR) (L : LoopR) (cs : List Code) (st0 : AState) (n : Nat) (P J take : List Nat) (sl : List (Nat × TypeId)) (g : Nat) (f : FuncId) : T (Out × List Int) :=
  (runs E C L cs st0).bind fun r => match capOf r.h (r.t g) with
      | some (f', b, k, l) => bif Nat.beq f' f then (expAt E r.h n P J (b :: k.toList) take (slotTys sl) (slotAVs r sl)).bind fun o => .leaf (o, l) else .bad
      | none => .bad
def endT (E : Env) (C : CallR) (L : LoopR) (c : Code) (st0 : AState) (n : Nat) (P : List Nat) (sl : List (Nat × TypeId)) : T Out :=
  (run E C L c st0).bind fun r => match r.1 with
    | .ret => expEnd E r.2.h n P (slotTys sl) (slotAVs r.2 sl)
    | _ => .bad
section
variable {E : Env} {ρ : Rho} {h : Heap} {w w' : World} {C : CallR} {L : LoopR}
def Off (bs : List Blk) (ps : List Pos) (k : Nat) : Prop := ¬ ownB (psRho ps) (blkH bs) k
theorem Off.mv {bs bs' : List Blk} {ps ps' : List Pos} {k : Nat} (h : Off bs ps k) (hk : k < w.heap.size) (hm : Mv w bs ps w' bs' ps') : Off bs' ps' k := fun ho => by
  rcases hm.stp.sub k ho with h1 | h1
  · exact h h1
  · omega
theorem Off.same {bs bs' : List Blk} {ps ps' : List Pos} {k : Nat} (h : Off bs ps k) (hk : k < w.heap.size) (hm : Mv w bs ps w' bs' ps') : w'.heap[k]? = w.heap[k]? := hm.stp.ext.block k hk h
theorem expAt_ok {n : Nat} {P : List Nat} {bs : List Blk} {ps : List Pos} (hc : CfgOk E w bs ps) (_hn : n = bs.length) {J : List Nat} (hP : ∀ k ∈ P, ∃ x, bs[k]? = some x ∧ x.own = true)
    (hs : SatH ρ h w') (hg : GOk E (ownB ρ h) w') (hle : (startRho E ps).le ρ) (hst : Stp (domB (startRho E ps) (startH E bs)) (domB ρ h) w w') {offs take : List Nat} {ts : List TypeId} {l : List AV} {out : Out} (he : (expAt E h n P J offs take ts l).sel = some out) {cvs : List Value} (hv : VL ρ l cvs) :
    ∃ ps', CfgOk E w' out.blks ps' ∧ VL (psRho ps') out.vals cvs ∧ Mv w bs ps w' out.blks ps' ∧ (∀ (j : Nat) k k', P[j]? = some k → J[j]? = some k' → ps'[k']? = ps[k]?) ∧ ∀ b ∈ offs, ∀ x p, h b = some x → ρ b = some p → ((x.own = true ∧ 0 < p.cap) ∨ (0 < p.len ∧ 0 < p.stride)) → Off out.blks ps' p.block := by
  obtain ⟨_, hs1, hs2, hle0⟩ := start_satH hc
  have hpsn : ∀ k ∈ P, ∃ p, ps[k]? = some p := fun k hk => by
    obtain ⟨x, hx, _⟩ := hP k hk
    have := (List.getElem?_eq_some_iff.1 hx).1
    exact ⟨ps[k]'(by have := hc.len; omega), List.getElem?_eq_getElem _⟩
  unfold expAt at he
  split at he
  · rename_i vs bs' es hx
    cases hk : (srcList P J es && offE offs es) with
    | false => rw [hk] at he; simp [T.sel] at he
    | true =>
      rw [hk, cond_true] at he
      simp only [T.sel, Option.some.injEq] at he
      subst he
      simp only [Bool.and_eq_true] at hk
      obtain ⟨hk1, hk3⟩ := hk
      obtain ⟨ps', hxo⟩ := expAll_ok hs hg hx hv
      have hsl : ∀ (P P' : List Nat), srcList P P' es = true → P.length = P'.length ∧ ∀ (j : Nat) k k', P[j]? = some k → P'[j]? = some k' → ∃ e, es[k']? = some e ∧ e.box = true ∧ e.src = some k := by
        intro P
        induction P with
        | nil =>
          intro P' h
          cases P' with
          | nil => exact ⟨rfl, fun j k k' hj => by simp at hj⟩
          | cons => simp [srcList] at h
        | cons z P ih =>
          intro P' h
          cases P' with
          | nil => simp [srcList] at h
          | cons z' P' =>
            simp only [srcList, Bool.and_eq_true] at h
            obtain ⟨h1, h2⟩ := ih P' h.2
            refine ⟨by simp [h1], fun j k k' hj hj' => ?_⟩
            cases j with
            | zero =>
              simp at hj hj'; subst hj; subst hj'
              have := h.1
              split at this
              · rename_i e he
                simp only [Bool.and_eq_true] at this
                refine ⟨e, he, this.1, ?_⟩
                have := this.2
                unfold srcIs at this
                split at this
                · rename_i c hc'; rw [hc', Nat.eq_of_beq_eq_true this]
                · cases this
              · cases this
            | succ j => exact h2 j k k' (by simpa using hj) (by simpa using hj')
      obtain ⟨_, hget⟩ := hsl _ _ hk1
      refine ⟨ps', hxo.cfg, hxo.vals, hxo.mvp hc hst, ?_, ?_⟩
      · intro j k k' hj hj'
        obtain ⟨e, e1, e2, e3⟩ := hget j k k' hj hj'
        obtain ⟨p, x, f1, f2, f3, f4, q', f5, f6, f7⟩ := hxo.ent k' e e1
        rw [f4] at f5; cases f5
        rw [e3] at f7
        obtain ⟨y, r, g1, g2, _, _, _, _, g3⟩ := f7
        have := g3.1 e2; subst this
        obtain ⟨p0, hp0⟩ := hpsn k (List.mem_of_getElem? hj)
        have := hle _ _ (startRho_get hc hp0)
        rw [g2] at this; cases this
        rw [f1, hp0]
      · rintro b hb x p hx hp hlx ⟨i, y, q, hy, hyo, hq, hq0, hqb⟩
        obtain ⟨e, c, z, r, e1, e2, e3, e4, e5, e6, e7, e8, e9⟩ := hxo.name i y q hy hq (.inl ⟨hyo, hq0⟩)
        have hbc : c ≠ b := by
          rintro rfl
          unfold offE at hk3
          rw [List.all_eq_true] at hk3
          have := hk3 e (List.mem_of_getElem? e1)
          rw [List.all_eq_true] at this
          have := this c hb
          rw [e2] at this
          simp [srcIs] at this
        have := hs.apart c z r b x p e3 (e8 (by rw [← e9]; exact hyo)) e4 e6 hx hp hbc hlx
        omega
  · simp [T.sel] at he
theorem runs_ok (hC : CG E C) {blk tail : Code} {Q : Exit → Act → World → Prop} : ∀ (cs : List Code), cs ≠ [] → (∀ x ∈ cs, LoopsOk E L x) → ∀ (st st' : AState), (runs E C L cs st).sel = some st' → ∀ (ρ : Rho) (a : Act) (w : World), Sat E ρ st a w →
    (∀ ρ' a' w', Sat E ρ' st' a' w' → Stp (domB ρ st.h) (domB ρ' st'.h) w w' → ρ.le ρ' → a'.tmps.size = a.tmps.size → a'.defers = a.defers → blk.wp E.P (Exit.then (tail.wp E.P Q) Q) a' w') → (nest blk tail cs).wp E.P Q a w
  | [], hne, _, _, _, _, _, _, _, _, _ => (hne rfl).elim
  | [x], _, hL, st, st', h, ρ, a, w, hs, hq => by
    obtain ⟨⟨e1, st1⟩, h1, h2⟩ := T.bind_sel _ _ _ h
    cases e1 with
    | normal =>
      simp only [runs, T.sel, Option.some.injEq] at h2
      subst h2
      refine wp_seq (wp_seq (run_ok hC x (hL x (by simp)) _ _ _ h1 ρ a w hs _ fun ρ' a' w' h3 h4 h5 h6 => ?_))
      exact hq ρ' a' w' h3 h4 h5 h6.size h6.d
    | exit id => simp [T.sel] at h2
    | ret => simp [T.sel] at h2
  | x :: y :: xs, _, hL, st, st', h, ρ, a, w, hs, hq => by
    obtain ⟨⟨e1, st1⟩, h1, h2⟩ := T.bind_sel _ _ _ h
    cases e1 with
    | normal =>
      refine wp_seq (run_ok hC x (hL x (by simp)) _ _ _ h1 ρ a w hs _ fun ρ' a' w' h3 h4 h5 h6 => ?_)
      exact runs_ok hC (y :: xs) (by simp) (fun z hz => hL z (List.mem_cons_of_mem _ hz)) st1 st' h2 ρ' a' w' h3 fun ρ2 a2 w2 k1 k2 k3 k4 k5 => hq ρ2 a2 w2 k1 (h4.trans k2) (h5.trans k3) (k4.trans h6.size) (k5.trans h6.d)
    | exit id => simp [T.sel] at h2
    | ret => simp [T.sel] at h2
theorem nest_loops {blk tail : Code} : ∀ (cs : List Code), LoopsOk E L (nest blk tail cs) → ∀ x ∈ cs, LoopsOk E L x
  | [], _, _, h => by cases h
  | [x], h, z, hz => by
    simp only [List.mem_singleton] at hz; subst hz
    exact h.1.1
  | x :: y :: xs, h, z, hz => by
    rcases List.mem_cons.1 hz with rfl | hz
    · exact h.1
    · exact nest_loops (y :: xs) h.2 z hz
structure Back (w : World) (v : Value) (f : FuncId) (l : List Int) (Bn Bo bk off cap : Nat) (a : Option Addr) : Prop where
  fn : v = .func (.func f) #[] #[.pointer (some ⟨Bn, Bo, none⟩)]
  box : w.cell? ⟨Bn, Bo, none⟩ = some (.slice a l.length cap)
  sl : 0 < l.length → a = some ⟨bk, off, none⟩
  el : ∀ (i : Nat) x, l[i]? = some x → w.cell? ⟨bk, off + i, none⟩ = some (.int .i64 x)
  lb : Bn < w.heap.size
  lk : bk < w.heap.size
theorem midT_ok (hC : CG E C) {blk tail : Code} {c : List Code} (hne : c ≠ []) (hL : ∀ x ∈ c, LoopsOk E L x) {bs : List Blk} {ps : List Pos} (hcfg : CfgOk E w bs ps) {st0 : AState} {a : Act} (hsat : Sat E (startRho E ps) st0 a w) (h0 : st0.h = startH E bs) {P J take : List Nat} (hP : ∀ k ∈ P, ∃ x, bs[k]? = some x ∧ x.own = true)
    {sl : List (Nat × TypeId)} {g f : Nat} {o : Out} {l : List Int} (h : (midT E C L c st0 bs.length P J take sl g f).sel = some (o, l)) {Q : Exit → Act → World → Prop}
    (hQ : ∀ a' w' ps' Bn Bo bk off cap ad, CfgOk E w' o.blks ps' → VL (psRho ps') o.vals (slotVs a' sl) → Mv w bs ps w' o.blks ps' → (∀ (j : Nat) k k', P[j]? = some k → J[j]? = some k' → ps'[k']? = ps[k]?) → a'.tmps.size = a.tmps.size → a'.defers = a.defers →
      Back w' (a'.tmps.getD g undef) f l Bn Bo bk off cap ad → Off o.blks ps' Bn → Off o.blks ps' bk → blk.wp E.P (Exit.then (tail.wp E.P Q) Q) a' w') : (nest blk tail c).wp E.P Q a w := by
  unfold midT at h
  obtain ⟨st1, h1, h2⟩ := T.bind_sel _ _ _ h
  refine runs_ok hC c hne hL _ st1 h1 _ a w hsat fun ρ' a' w' hs' hst hle hk1 hk2 => ?_
  split at h2
  · rename_i f' b k l' hcap
    cases hf : Nat.beq f' f with
    | false => rw [hf] at h2; simp [T.sel] at h2
    | true =>
        rw [hf, cond_true] at h2
        obtain rfl := Nat.eq_of_beq_eq_true hf
        obtain ⟨o', h3, h4⟩ := T.bind_sel _ _ _ h2
        simp only [T.sel, Option.some.injEq, Prod.mk.injEq] at h4
        obtain ⟨rfl, rfl⟩ := h4
        obtain ⟨ps', g1, g2, g3, g4, g5⟩ := expAt_ok hcfg rfl hP hs'.h hs'.g hle (h0 ▸ hst) h3 (slot_VL hs'.t sl)
        have hv := hs'.t g
        unfold capOf at hcap
        split at hcap
        · rename_i f1 b1 hfn
          rw [hfn] at hv
          simp only [V, VL] at hv
          obtain ⟨fs, cs, e, hfs, v, r, hcs, ⟨p, hp, rfl⟩, rfl⟩ := hv
          have hfs : fs = #[] := by apply Array.ext'; exact hfs
          have hcs : cs = #[.pointer (some (p.addr 0 0))] := by apply Array.ext'; exact hcs
          subst hfs hcs
          split at hcap
          · rename_i t c1 hb
            split at hcap
            · rename_i l2 hc1
              simp only [Option.some.injEq, Prod.mk.injEq] at hcap
              obtain ⟨rfl, rfl, rfl, hll⟩ := hcap
              subst hll
              obtain ⟨_, q1, q2, q3, q4, q5⟩ := hs'.h.pos b1 _ hb
              rw [hp] at q1; cases q1
              have q3 : p.len = 1 := q3
              obtain ⟨cv, hcell, hcv⟩ := hs'.h.cells b1 _ p hb hp 0 (by show 0 < 1; omega) 0 (.slw c1) rfl
              simp only [V] at hcv
              obtain ⟨q, hq, hqc, ad, rfl, had⟩ := hcv
              obtain ⟨_, r1, r2, r3, r4, r5⟩ := hs'.h.pos c1 _ hc1
              rw [hq] at r1; cases r1
              have r2 : q.stride = 1 := r2
              have r3 : q.len = l2.length := r3
              have ob := g5 b1 (List.mem_cons_self ..) _ p hb hp (.inl ⟨rfl, by omega⟩)
              have hel : ∀ (i : Nat) x, l2[i]? = some x → w'.cell? ⟨q.block, q.off + i, none⟩ = some (.int .i64 x) := by
                intro i x hx
                have hi := (List.getElem?_eq_some_iff.1 hx).1
                obtain ⟨cv, hcell, hcv⟩ := hs'.h.cells c1 _ q hc1 hq i (by show i < l2.length; omega) 0 (.int .i64 x) (by show (((Dat.ints .i64 l2).row i)[0]?) = _; simp [Dat.row, hx])
                simp only [V] at hcv
                subst hcv
                have : q.addr i 0 = ⟨q.block, q.off + i, none⟩ := by simp [Pos.addr, r2]
                rw [← this]; exact hcell
              by_cases hz : 0 < l2.length
              · refine hQ a' w' ps' p.block (p.addr 0 0).off q.block q.off q.cap ad g1 g2 g3 g4 hk1 hk2 ⟨e, ?_, fun _ => ?_, hel, World.block_lt_of_cell? w' _ hcell, World.block_lt_of_cell? w' _ (hel 0 _ (List.getElem?_eq_getElem hz))⟩ ob (g5 c1 (by simp) _ q hc1 hq (.inr ⟨by omega, by omega⟩))
                · rw [← r3]; exact hcell
                · rw [had (by omega)]; simp [Pos.addr]
              · refine hQ a' w' ps' p.block (p.addr 0 0).off p.block 0 q.cap ad g1 g2 g3 g4 hk1 hk2 ⟨e, ?_, fun h => (hz h).elim, fun i x hx => (hz (by have := (List.getElem?_eq_some_iff.1 hx).1; omega)).elim, World.block_lt_of_cell? w' _ hcell, World.block_lt_of_cell? w' _ hcell⟩ ob ob
                rw [← r3]; exact hcell
            · cases hcap
          · rename_i t hb
            cases hcap
            obtain ⟨_, q1, q2, q3, q4, q5⟩ := hs'.h.pos b _ hb
            rw [hp] at q1; cases q1
            have q3 : p.len = 1 := q3
            obtain ⟨cv, hcell, hcv⟩ := hs'.h.cells b _ p hb hp 0 (by show 0 < 1; omega) 0 .nils rfl
            simp only [V] at hcv
            subst hcv
            have ob := g5 b (List.mem_cons_self ..) _ p hb hp (.inl ⟨rfl, by omega⟩)
            exact hQ a' w' ps' p.block (p.addr 0 0).off p.block 0 0 none g1 g2 g3 g4 hk1 hk2 ⟨e, hcell, fun h => by simp at h, fun i x hx => by simp at hx, World.block_lt_of_cell? w' _ hcell, World.block_lt_of_cell? w' _ hcell⟩ ob ob
          · cases hcap
        · cases hcap
  · simp [T.sel] at h2
theorem endT_ok (hC : CG E C) {c : Code} (hL : LoopsOk E L c) {bs : List Blk} {ps : List Pos} (hcfg : CfgOk E w bs ps) {st0 : AState} {a : Act} (hsat : Sat E (startRho E ps) st0 a w) (h0 : st0.h = startH E bs) {P : List Nat} (hP : ∀ k ∈ P, ∃ x, bs[k]? = some x ∧ x.own = true)
    {sl : List (Nat × TypeId)} {o : Out} (h : (endT E C L c st0 bs.length P sl).sel = some o) {Q : Exit → Act → World → Prop}
    (hQ : ∀ a' w' ps', CfgOk E w' o.blks ps' → VL (psRho ps') o.vals (slotVs a' sl) → Mv w bs ps w' o.blks ps' → (∀ (j : Nat) k, P[j]? = some k → ps'[j]? = ps[k]?) → Keeps (writes c) a a' → Q .ret a' w') : c.wp E.P Q a w := by
  unfold endT at h
  obtain ⟨⟨e1, st1⟩, h1, h2⟩ := T.bind_sel _ _ _ h
  refine run_ok hC c hL _ e1 st1 h1 _ a w hsat Q fun ρ' a' w' hs' hst hle hk => ?_
  cases e1 with
  | ret =>
    obtain ⟨ps', g1, g2, g3, g4⟩ := expEnd_ok hcfg rfl hP hs'.h hs'.g hle (h0 ▸ hst) h2 (slot_VL hs'.t sl)
    exact hQ a' w' ps' g1 g2 g3 g4 hk
  | exit id => simp [T.sel] at h2
  | normal => simp [T.sel] at h2
end
end Go.Am
namespace Go.Am
def firstB (bad : Nat → Bool) : Nat → Nat → Nat
  | 0, i => i
  | f + 1, i => bif bad i then i else firstB bad f (i + 1)
def firstL {α : Type} (p : α → Bool) : List α → Nat
  | [] => 0
  | x :: l => bif p x then 0 else firstL p l + 1
theorem firstB_list {α : Type} [Inhabited α] (p : α → Bool) : ∀ (r l : List α) (i : Nat), l.drop i = r → firstB (fun j => p (l.getD j default)) r.length i = i + firstL p r
  | [], l, i, h => rfl
  | x :: r, l, i, h => by
    have hlt : i < l.length := by
      rcases Nat.lt_or_ge i l.length with h1 | h1
      · exact h1
      · rw [List.drop_eq_nil_of_le h1] at h; cases h
    have hx : l.getD i default = x := by
      rw [List.drop_eq_getElem_cons hlt] at h
      injection h with h1 h2
      simp [List.getD, hlt, h1]
    have hr : l.drop (i + 1) = r := by
      rw [List.drop_eq_getElem_cons hlt] at h
      injection h with h1 h2
    rw [List.length_cons]
    unfold firstB firstL
    rw [hx]
    cases p x with
    | true => rfl
    | false => simp only [cond_false]; rw [firstB_list p r l (i + 1) hr]; omega
theorem firstL_any {α : Type} (p : α → Bool) : ∀ l : List α, decide (firstL p l < l.length) = l.any p
  | [] => rfl
  | x :: l => by
    unfold firstL
    rw [List.any_cons, ← firstL_any p l]
    cases p x with
    | true => simp
    | false =>
      simp only [cond_false, Bool.false_or, List.length_cons]
      congr 1
      exact propext ⟨fun h => by omega, fun h => by omega⟩
section
variable {E : Env} {C : CallR} {L : LoopR} {n : Nat} {sg : LSig} {body : Code}
theorem scan_turns {st : Int → List AV} {bs : List Blk} {len : Nat} {bad : Nat → Bool} {ob : Nat → Out} {k : Nat} {oe : Out}
    (h : ∀ i : Nat, i ≤ len → (turn E C L n sg body (st i) bs).sel = bif decide (i < len) then (bif bad i then some (.ret, ob i) else some (.normal, ⟨st (i + 1 : Nat), bs⟩)) else some (.exit k, oe)) :
    ∀ (f i : Nat), i + f = len → ∃ m, (turns E C L n sg body m (st i) bs).sel = bif decide (firstB bad f i < len) then some (.ret, ob (firstB bad f i)) else some (.exit k, oe)
  | 0, i, hi => by
    have ht := h i (by omega)
    rw [decide_eq_false (by omega), cond_false] at ht
    refine ⟨1, (turns_done ht (by simp)).trans ?_⟩
    unfold firstB
    rw [decide_eq_false (by omega)]; rfl
  | f + 1, i, hi => by
    have ht := h i (by omega)
    rw [decide_eq_true (show i < len by omega), cond_true] at ht
    unfold firstB
    cases hb : bad i with
    | true =>
      rw [hb, cond_true] at ht
      refine ⟨1, (turns_done ht (by simp)).trans ?_⟩
      simp only [cond_true]
      rw [decide_eq_true (show i < len by omega)]; rfl
    | false =>
      rw [hb, cond_false] at ht
      obtain ⟨m, hm⟩ := scan_turns h f (i + 1) (by omega)
      exact ⟨m + 1, (turns_more' ht).trans hm⟩
end
theorem in_range {α : Type} {i n : Nat} (h : i < n) (r : Option α) : (bif decide ((0 : Int) ≤ (i : Int) ∧ (i : Int) < (n : Int)) then (bif decide (((i : Int)).toNat < n) then r else none) else none) = r := by
  rw [decide_eq_true (show (0 : Int) ≤ (i : Int) ∧ (i : Int) < (n : Int) from ⟨by omega, by omega⟩), decide_eq_true (show ((i : Int)).toNat < n by omega)]; rfl
def all2 {α : Type} (e : α → α → Bool) : List α → List α → Bool
  | [], [] => true
  | x :: l, y :: m => e x y && all2 e l m
  | _, _ => false
theorem firstB_congr {b b' : Nat → Bool} : ∀ (f i : Nat), (∀ j, i ≤ j → j < i + f → b j = b' j) → firstB b f i = firstB b' f i
  | 0, _, _ => rfl
  | f + 1, i, h => by
    unfold firstB
    rw [h i (Nat.le_refl _) (by omega), firstB_congr f (i + 1) fun j h1 h2 => h j (by omega) (by omega)]
theorem zip_any {α : Type} {e : α → α → Bool} : ∀ {l m : List α}, l.length = m.length → (l.zip m).any (fun z => !e z.1 z.2) = !all2 e l m
  | [], [], _ => rfl
  | x :: l, y :: m, h => by
    rw [List.zip_cons_cons, List.any_cons, zip_any (by simpa using h)]
    show (!e x y || !all2 e l m) = !(e x y && all2 e l m)
    rw [Bool.not_and]
  | [], _ :: _, h => by simp at h
  | _ :: _, [], h => by simp at h
theorem first2 {α : Type} [Inhabited α] {e : α → α → Bool} {l m : List α} (h : l.length = m.length) : decide (firstB (fun j => !e (l.getD j default) (m.getD j default)) l.length 0 < l.length) = !all2 e l m := by
  have hz : (l.zip m).length = l.length := by rw [List.length_zip, h, Nat.min_self]
  rw [← zip_any h, ← firstL_any, hz]
  congr 1
  have := firstB_list (fun z : α × α => !e z.1 z.2) (l.zip m) (l.zip m) 0 rfl
  rw [Nat.zero_add, hz] at this
  rw [← this]
  congr 1
  refine firstB_congr _ _ fun j _ hj => ?_
  have h1 : j < l.length := by omega
  have h2 : j < m.length := by omega
  have h3 : j < (l.zip m).length := by omega
  have h4 : (l.zip m)[j]? = some (l[j], m[j]) := by rw [List.getElem?_eq_getElem h3, List.getElem_zip]
  simp [List.getD, h1, h2, h4]
theorem all2_len {α : Type} {e : α → α → Bool} : ∀ {l m : List α}, all2 e l m = true → l.length = m.length
  | [], [], _ => rfl
  | x :: l, y :: m, h => by
    have h : (e x y && all2 e l m) = true := h
    rw [Bool.and_eq_true] at h
    rw [List.length_cons, List.length_cons, all2_len h.2]
  | [], _ :: _, h => by cases h
  | _ :: _, [], h => by cases h
end Go.Am
namespace Go.Am
open Go.RowKit
def lendB (x : Blk) : Blk := ⟨false, x.dat⟩
theorem lend_blk {bs : List Blk} {b : Nat} {x : Blk} (h : blkH (bs.map lendB) b = some x) : ∃ y, blkH bs b = some y ∧ x = lendB y := by
  have h : (bs.map lendB)[b]? = some x := h
  rw [List.getElem?_map, Option.map_eq_some_iff] at h
  obtain ⟨y, h1, h2⟩ := h
  exact ⟨y, h1, h2.symm⟩
theorem lend_own {ρ : Rho} {bs : List Blk} {k : Nat} (h : ownB ρ (blkH (bs.map lendB)) k) : False := by
  obtain ⟨b, x, p, hb, ho, _⟩ := h
  obtain ⟨y, _, rfl⟩ := lend_blk hb
  cases ho
theorem lend_cfg {E : Env} {w : World} {bs : List Blk} {ps : List Pos} (h : CfgOk E w bs ps) : CfgOk E w (bs.map lendB) ps := by
  refine ⟨⟨fun b x hb => ?_, fun b x hb => ?_, fun b x p hb => ?_, fun b x p hb ho => ?_, fun b x p b' x' p' hb ho => ?_⟩, ⟨h.g.laid, h.g.size, h.g.base, fun k hk => (lend_own hk).elim⟩, by rw [List.length_map]; exact h.len, by rw [List.length_map]; exact h.few⟩
  · obtain ⟨y, h1, rfl⟩ := lend_blk hb; exact h.sat.pos b y h1
  · obtain ⟨y, h1, rfl⟩ := lend_blk hb; exact h.sat.wf b y h1
  · obtain ⟨y, h1, rfl⟩ := lend_blk hb; exact h.sat.cells b y p h1
  · obtain ⟨y, h1, rfl⟩ := lend_blk hb; cases ho
  · obtain ⟨y, h1, rfl⟩ := lend_blk hb; cases ho
theorem fnOk_lend {E : Env} {f : FuncId} {s s' : FSpec} (h : FnOk E f s) (hs : ∀ vs bs o', (s' vs bs).sel = some o' → ∃ o, (s vs bs).sel = some o ∧ o'.vals = o.vals ∧ o'.blks = o.blks.map lendB) : FnOk E f s' := by
  refine ⟨h.1, fun vs bs o' hsel w cargs ps hc hv => ?_⟩
  obtain ⟨o, h1, h2, h3⟩ := hs vs bs o' hsel
  refine (h.2 vs bs o h1 w cargs ps hc hv).mono fun e w' ⟨cv, ps', he, hcfg, hV, hM, hp⟩ => ⟨cv, ps', he, by rw [h3]; exact lend_cfg hcfg, by rw [h2]; exact hV, ?_, hp⟩
  rw [h3]
  refine ⟨⟨hM.stp.ext, fun k hk => (lend_own hk).elim, fun k hk => ?_⟩, fun k x p hk hpk hl => ?_⟩
  · obtain ⟨b, x, p, hb, hp, hl, he⟩ := hk
    obtain ⟨y, h4, rfl⟩ := lend_blk hb
    exact hM.stp.src k ⟨b, y, p, h4, hp, .inr (hl.resolve_left (fun h => by cases h.1)), he⟩
  · rw [List.getElem?_map, Option.map_eq_some_iff] at hk
    obtain ⟨y, h4, rfl⟩ := hk
    exact hM.src k y p h4 hpk (.inr (hl.resolve_left (fun h => by cases h.1)))
end Go.Am
