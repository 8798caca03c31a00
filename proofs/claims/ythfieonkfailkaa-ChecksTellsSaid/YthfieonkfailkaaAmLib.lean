/-
  AM3: functions of the library by the shelf's contracts: calls that give plain values and leave all that was as it was; and a law's last step.
-/
import Derived.Test.YthfieonkfailkaaAmUse3
import Derived.RowKit3
import Derived.Shelf.Strconv.Itoa4
import Derived.Shelf.Strconv.ErrVarParseInt
import Derived.Shelf.Strings.SlTrimAscii
namespace Go.Am
open Go.RowKit

theorem ext_below {w w' : World} (h : Below w.heap.size w w') : Ext (fun _ => False) w w' :=
  ⟨h.os, h.tape, h.output, h.size, fun k hk _ => h.block k hk, fun _ ha _ => h.frozen ha⟩
theorem below_ext {w w' : World} (h : Ext (fun _ => False) w w') : Below w.heap.size w w' :=
  ⟨h.os, h.tape, h.output, h.size, fun k hk => h.block k hk fun h => h⟩
theorem psRho_nil : psRho [] = fun _ => none := by funext b; simp [psRho]
theorem cfg_nil {E : Env} {w : World} (hg : GOk E (fun _ => False) w) : CfgOk E w [] [] :=
  ⟨⟨fun b x hb => by simp [blkH] at hb, fun b x hb => by simp [blkH] at hb, fun b x p hb => by simp [blkH] at hb, fun b x p hb => by simp [blkH] at hb, fun b x p b' x' p' hb => by simp [blkH] at hb⟩,
   ⟨hg.laid, hg.size, hg.base, fun k ⟨b, x, p, hb, _⟩ => by simp [blkH] at hb⟩, rfl, Nat.zero_le _⟩
theorem own_nil (k : Nat) : ¬ ownB (psRho []) (blkH []) k := fun ⟨b, x, p, hb, _⟩ => by simp [blkH] at hb
theorem gok_any {E : Env} {O : Nat → Prop} {w : World} (h : GOk E O w) : GOk E (fun _ => False) w := ⟨h.laid, h.size, h.base, fun _ h => h.elim⟩
theorem stp_below {w w' : World} (h : Below w.heap.size w w') : Stp (ownB (psRho []) (blkH [])) (ownB (psRho []) (blkH [])) w w' :=
  ⟨(ext_below h).mono fun _ _ h => h.elim, fun k hk => (own_nil k hk).elim⟩

/-- a call that takes and gives plain values, and lays new memory at most -/
theorem fnOk_plain {E : Env} {f : FuncId} {s : FSpec} (hat : ∃ fn c, FnAt E.P f fn c)
    (h : ∀ vs bs out, (s vs bs).sel = some out → pers vs bs = [] ∧ bs = [] ∧ out.blks = [] ∧ ∀ (w : World) (cargs : List Value), GOk E (fun _ => False) w → VL (fun _ => none) vs cargs →
      Calls E.P f cargs.toArray w fun e w' => ∃ cv, e = .returned cv ∧ V (fun _ => none) (oneOrTup out.vals) cv ∧ Below w.heap.size w w') : FnOk E f s := by
  refine ⟨hat, fun vs bs out hsel w cargs ps hc hv => ?_⟩
  obtain ⟨h1, rfl, h3, h4⟩ := h vs bs out hsel
  have hps : ps = [] := List.eq_nil_of_length_eq_zero hc.len
  subst hps
  rw [psRho_nil] at hv
  have hg := gok_any hc.g
  refine (h4 w cargs hg hv).mono fun e w' ⟨cv, he, hcv, hb⟩ => ⟨cv, [], he, ?_, ?_, ⟨?_, ?_⟩, fun j k hj => ?_⟩
  · rw [h3]
    have hs := stp_below hb
    exact cfg_nil ⟨(hc.g.step hs).laid, (hc.g.step hs).size, (hc.g.step hs).base, fun _ h => h.elim⟩
  · rw [psRho_nil]; exact hcv
  · rw [h3]; exact stp_below hb
  · intro k x p hk
    rw [h3] at hk; simp at hk
  · rw [h1] at hj; simp at hj

theorem bytes_eq (s : List UInt8) : (⟨s.toArray⟩ : ByteArray).data.toList = s := by simp
theorem size_eq (s : List UInt8) : (⟨s.toArray⟩ : ByteArray).size = s.length := by simp [ByteArray.size]

/-! strings.Trim -/
def sTrim (cut : List UInt8) : FSpec
  | [.str s, .str c], [] => .node (decide (s.length ≤ lim ∧ c = cut)) (.leaf ⟨[.str (Lib.trimS s cut)], []⟩) .bad
  | _, _ => .bad
theorem trim_ok {E : Env} {f : FuncId} (hat : ∃ fn c, FnAt E.P f fn c) {cut : List UInt8}
    (h : ∀ (s : ByteArray) (w : World), s.size ≤ lim → Calls E.P f #[.string s, .string ⟨cut.toArray⟩] w fun e w' => e = .returned (.string ⟨(Lib.trimS s.data.toList cut).toArray⟩) ∧ Below w.heap.size w w') : FnOk E f (sTrim cut) := by
  refine fnOk_plain hat fun vs bs out hsel => ?_
  unfold sTrim at hsel
  split at hsel
  · rename_i s c
    rcases T.node_sel hsel with ⟨hc, hs2⟩ | ⟨_, hs2⟩
    · have hc := of_decide_eq_true hc
      obtain ⟨hl, rfl⟩ := hc
      simp only [T.sel, Option.some.injEq] at hs2
      subst hs2
      refine ⟨rfl, rfl, rfl, fun w cargs hg hv => ?_⟩
      simp only [VL, V] at hv
      obtain ⟨v, r, rfl, rfl, v2, r2, rfl, rfl, rfl⟩ := hv
      refine (h ⟨s.toArray⟩ w (by rw [size_eq]; exact hl)).mono fun e w' ⟨he, hb⟩ => ⟨_, he, ?_, hb⟩
      simp [oneOrTup, V]
    · simp [T.sel] at hs2
  · simp [T.sel] at hsel

/-! strconv.FormatInt at base 10 -/
def rng64 (n : Int) : Bool := decide (-9223372036854775808 ≤ n ∧ n ≤ 9223372036854775807)
def sFormat : FSpec
  | [.int .i64 n, .int .i64 b], [] => .node (rng64 n && decide (b = 10)) (.leaf ⟨[.str (Lib.itoa n)], []⟩) .bad
  | _, _ => .bad
theorem grow_below (w : World) (k : Nat) (os : Array Obj) : Below w.heap.size w (Sort.grow (w.drewN k) os) :=
  ⟨rfl, rfl, rfl, by simp [Sort.grow, World.drewN], fun i hi => by
    simp only [Sort.grow]
    rw [Array.getElem?_append_left (by exact hi)]; rfl⟩
theorem format_ok {E : Env} {f : FuncId} (hat : ∃ fn c, FnAt E.P f fn c)
    (h : ∀ (n : Int) (w : World), GOk E (fun _ => False) w → -9223372036854775808 ≤ n → n ≤ 9223372036854775807 → Calls E.P f #[.int .i64 n, .int .i64 10] w fun e w' => e = .returned (.string ⟨(Lib.itoa n).toArray⟩) ∧ ∃ k os, w' = Sort.grow (w.drewN k) os) : FnOk E f sFormat := by
  refine fnOk_plain hat fun vs bs out hsel => ?_
  unfold sFormat at hsel
  split at hsel
  · rename_i n b
    rcases T.node_sel hsel with ⟨hc, hs2⟩ | ⟨_, hs2⟩
    · simp only [rng64, Bool.and_eq_true, decide_eq_true_eq] at hc
      obtain ⟨⟨h0, h1⟩, rfl⟩ := hc
      simp only [T.sel, Option.some.injEq] at hs2
      subst hs2
      refine ⟨rfl, rfl, rfl, fun w cargs hg hv => ?_⟩
      simp only [VL, V] at hv
      obtain ⟨v, r, rfl, rfl, v2, r2, rfl, rfl, rfl⟩ := hv
      refine (h n w hg h0 h1).mono fun e w' ⟨he, k, os, hw⟩ => ⟨_, he, ?_, ?_⟩
      · simp [oneOrTup, V]
      · rw [hw]; exact grow_below w k os
    · simp [T.sel] at hs2
  · simp [T.sel] at hsel

/-! strconv.ParseInt at base 10, 64 bits -/
def pOk (s : List UInt8) : Bool := match Lib.parseIntB 64 s with
  | .ok _ => true
  | _ => false
def pVal (s : List UInt8) : Int := match Lib.parseIntB 64 s with
  | .ok v => v
  | _ => 0
def pBad (s : List UInt8) : Int := match Lib.parseIntB 64 s with
  | .range => Lib.intSat 64 s
  | _ => 0
def sParse (te : TypeId) : FSpec
  | [.str s, .int .i64 b, .int .i64 n], [] => .node (decide (s.length ≤ lim) && (decide (b = 10) && decide (n = 64))) (.node (pOk s) (.leaf ⟨[.int .i64 (pVal s), .nili], []⟩) (.leaf ⟨[.int .i64 (pBad s), .iface te .any], []⟩)) .bad
  | _, _ => .bad
/-- the shelf's three contracts -/
structure ParseOk (E : Env) (f : FuncId) (te t5 : TypeId) : Prop where
  ok : ∀ (s : ByteArray) (v : Int) (w : World), s.size ≤ lim → Lib.parseIntB 64 s.data.toList = .ok v → Calls E.P f #[.string s, .int .i64 10, .int .i64 64] w fun e w' => e = .returned (.tuple #[.int .i64 v, .nilIface]) ∧ (w' = w ∨ ∃ t, w' = Lib.bytesWorld w t5 t)
  syn : ∀ (s : ByteArray) (w : World), GOk E (fun _ => False) w → s.size ≤ lim → (∀ v, Lib.parseIntB 64 s.data.toList ≠ .ok v) → Lib.parseIntB 64 s.data.toList ≠ .range → Calls E.P f #[.string s, .int .i64 10, .int .i64 64] w fun e w' => ∃ x, e = .returned (.tuple #[.int .i64 0, .iface te x]) ∧ Below w.heap.size w w'
  range : ∀ (s : ByteArray) (w : World), GOk E (fun _ => False) w → s.size ≤ lim → Lib.parseIntB 64 s.data.toList = .range → Calls E.P f #[.string s, .int .i64 10, .int .i64 64] w fun e w' => ∃ x, e = .returned (.tuple #[.int .i64 (Lib.intSat 64 s.data.toList), .iface te x]) ∧ Below w.heap.size w w'
theorem parse_ok {E : Env} {f : FuncId} {te t5 : TypeId} (hat : ∃ fn c, FnAt E.P f fn c) (h : ParseOk E f te t5) : FnOk E f (sParse te) := by
  refine fnOk_plain hat fun vs bs out hsel => ?_
  unfold sParse at hsel
  split at hsel
  · rename_i s b n
    rcases T.node_sel hsel with ⟨hc, hs2⟩ | ⟨_, hs2⟩
    · simp only [Bool.and_eq_true, decide_eq_true_eq] at hc
      obtain ⟨hl, rfl, rfl⟩ := hc
      have hpers : pers [AV.str s, .int .i64 10, .int .i64 64] [] = [] := rfl
      have hsz : (⟨s.toArray⟩ : ByteArray).size ≤ lim := by rw [size_eq]; exact hl
      have open3 : ∀ cargs, VL (fun _ => none) [AV.str s, .int .i64 10, .int .i64 64] cargs → cargs = [.string ⟨s.toArray⟩, .int .i64 10, .int .i64 64] := fun cargs hv => by
        simp only [VL, V] at hv
        obtain ⟨v, r, rfl, rfl, v2, r2, rfl, rfl, v3, r3, rfl, rfl, rfl⟩ := hv
        rfl
      rcases T.node_sel hs2 with ⟨hp, hs3⟩ | ⟨hp, hs3⟩
      · simp only [T.sel, Option.some.injEq] at hs3
        subst hs3
        refine ⟨hpers, rfl, rfl, fun w cargs hg hv => ?_⟩
        rw [open3 cargs hv]
        cases hq : Lib.parseIntB 64 s with
        | ok v =>
          refine (h.ok ⟨s.toArray⟩ v w hsz (by rw [bytes_eq]; exact hq)).mono fun e w' ⟨he, hw⟩ => ⟨_, he, ?_, ?_⟩
          · simp only [pVal, hq, oneOrTup, V, VL]
            exact ⟨_, rfl, _, _, rfl, rfl, _, _, rfl, rfl, rfl⟩
          · rcases hw with rfl | ⟨t, rfl⟩
            · exact Below.refl _ _
            · exact Lib.bytesWorld_below w t5 t
        | range => simp [pOk, hq] at hp
        | _ => simp [pOk, hq] at hp
      · simp only [T.sel, Option.some.injEq] at hs3
        subst hs3
        refine ⟨hpers, rfl, rfl, fun w cargs hg hv => ?_⟩
        rw [open3 cargs hv]
        cases hq : Lib.parseIntB 64 s with
        | ok v => simp [pOk, hq] at hp
        | range =>
          refine (h.range ⟨s.toArray⟩ w hg hsz (by rw [bytes_eq]; exact hq)).mono fun e w' ⟨x, he, hb⟩ => ⟨_, he, ?_, hb⟩
          simp only [pBad, hq, oneOrTup, V, VL]
          exact ⟨_, rfl, _, _, rfl, rfl, _, _, rfl, ⟨x, rfl, trivial⟩, rfl⟩
        | _ =>
          refine (h.syn ⟨s.toArray⟩ w hg hsz (by rw [bytes_eq, hq]; intro v e; cases e) (by rw [bytes_eq, hq]; intro e; cases e)).mono fun e w' ⟨x, he, hb⟩ => ⟨_, he, ?_, hb⟩
          simp only [pBad, hq, oneOrTup, V, VL]
          exact ⟨_, rfl, _, _, rfl, rfl, _, _, rfl, ⟨x, rfl, trivial⟩, rfl⟩
    · simp [T.sel] at hs2
  · simp [T.sel] at hsel

/-! a law -/
/-- a law of plain values that answers true -/
theorem law_calls {E : Env} {f : FuncId} {s : FSpec} (h : FnOk E f s) {vs : List AV} (hs : (s vs []).sel = some ⟨[.bool true], []⟩) {w : World} {cargs : List Value} (hg : GOk E (fun _ => False) w) (hv : VL (fun _ => none) vs cargs) :
    Calls E.P f cargs.toArray w fun e w' => e = .returned (.bool true) ∧ Below w.heap.size w w' := by
  refine (h.2 vs [] _ hs w cargs [] (cfg_nil hg) (by rw [psRho_nil]; exact hv)).mono fun e w' ⟨cv, ps', he, hc, hcv, hm, _⟩ => ?_
  have hps : ps' = [] := List.eq_nil_of_length_eq_zero hc.len
  subst hps
  simp only [oneOrTup, V] at hcv
  exact ⟨by rw [he, hcv], below_ext (hm.stp.ext.mono fun k _ hk => (own_nil k hk).elim)⟩
/-- what a package's variable holds -/
theorem var_base {E : Env} {w W : World} (hg : GOk E (fun _ => False) w) (hb : ∀ g, g < E.ng → E.base g = W.heap[g]?) {P : Program} {name : String} {g : Nat} (hn : P.globalNamed name = some g) (hlt : g < E.ng) : w.var? P name = W.var? P name := by
  unfold World.var?
  rw [hn]
  simp only [Option.bind_some]
  rw [hg.base g hlt, hb g hlt]
end Go.Am
