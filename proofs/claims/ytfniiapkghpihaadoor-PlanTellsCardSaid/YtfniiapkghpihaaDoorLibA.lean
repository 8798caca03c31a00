/-
  Texts put together: AmLib, Plain, AmLib2, AmIn, AmMid, AmScan, AmLend.
-/
import Derived.Test.YtfniiapkghpihaaDoorAmC
import Derived.RowKit3
import Derived.Shelf.Strconv.Itoa4
import Derived.Shelf.Strconv.ErrVarParseInt
import Derived.Shelf.Strings.SlTrimAscii
import Derived.Shelf.Strings.OnBuilder
import Derived.RangeFuncFrom
import Derived.RangeFuncLeaves
import Derived.RangeFuncRecord
import Derived.OwnWalkIn
/-
  AM3: functions of the library by the shelf's contracts: calls that give plain values and leave all that was as it was; and a law's last step.
-/
namespace Go.Am
open Go.RowKit

theorem ext_below {w w' : World} (h : Below w.heap.size w w') : Ext (fun _ => False) w w' :=
  ⟨h.os, h.tape, h.output, h.size, fun k hk _ => h.block k hk, fun _ ha _ => h.frozen ha⟩
theorem below_ext {w w' : World} (h : Ext (fun _ => False) w w') : Below w.heap.size w w' :=
  ⟨h.os, h.tape, h.output, h.size, fun k hk => h.block k hk fun h => h⟩
theorem psRho_nil : psRho [] = fun _ => none := by funext b; simp [psRho]
theorem cfg_nil {E : Env} {w : World} (hg : GOk E (fun _ => False) w) : CfgOk E w [] [] :=
  ⟨⟨fun b x hb => by simp [blkH] at hb, fun b x hb => by simp [blkH] at hb, fun b x p hb => by simp [blkH] at hb, fun b x p hb => by simp [blkH] at hb, fun b x p b' x' p' hb => by simp [blkH] at hb⟩,
   ⟨hg.laid, hg.size, hg.base, fun k ⟨b, x, p, hb, _⟩ => by simp [blkH] at hb⟩, rfl, Nat.zero_le _⟩
theorem own_nil (k : Nat) : ¬ ownB (psRho []) (blkH []) k := fun ⟨b, x, p, hb, _⟩ => by simp [blkH] at hb
theorem live_nil (k : Nat) : ¬ liveB (psRho []) (blkH []) k := fun ⟨b, x, p, hb, _⟩ => by simp [blkH] at hb
def domN : Dom := ⟨fun _ => False, fun _ => False⟩
theorem gok_any {E : Env} {O : Nat → Prop} {w : World} (h : GOk E O w) : GOk E (fun _ => False) w := ⟨h.laid, h.size, h.base, fun _ h => h.elim⟩
theorem stp_below {w w' : World} (h : Below w.heap.size w w') : Stp (domB (psRho []) (blkH [])) (domB (psRho []) (blkH [])) w w' :=
  ⟨(ext_below h).mono fun _ _ h => h.elim, fun k hk => (own_nil k hk).elim, fun k hk => (live_nil k hk).elim⟩

/-- a call that takes and gives plain values, and lays new memory at most -/
theorem fnOk_plain {E : Env} {f : FuncId} {s : FSpec} (hat : ∃ fn c, FnAt E.P f fn c)
    (h : ∀ vs bs out, (s vs bs).sel = some out → pers vs bs = [] ∧ bs = [] ∧ out.blks = [] ∧ ∀ (w : World) (cargs : List Value), GOk E (fun _ => False) w → VL (fun _ => none) vs cargs →
      Calls E.P f cargs.toArray w fun e w' => ∃ cv, e = .returned cv ∧ V (fun _ => none) (oneOrTup out.vals) cv ∧ Below w.heap.size w w') : FnOk E f s := by
  refine ⟨hat, fun vs bs out hsel w cargs ps hc hv => ?_⟩
  obtain ⟨h1, rfl, h3, h4⟩ := h vs bs out hsel
  have hps : ps = [] := List.eq_nil_of_length_eq_zero hc.len
  subst hps
  rw [psRho_nil] at hv
  have hg := gok_any hc.g
  refine (h4 w cargs hg hv).mono fun e w' ⟨cv, he, hcv, hb⟩ => ⟨cv, [], he, ?_, ?_, ⟨?_, ?_⟩, fun j k hj => ?_⟩
  · rw [h3]
    have hs : Stp domN domN w w' := ⟨ext_below hb, fun _ h => h.elim, fun _ h => h.elim⟩
    exact cfg_nil (GOk.step (O := domN) (O' := domN) hg hs)
  · rw [psRho_nil]; exact hcv
  · rw [h3]; exact stp_below hb
  · intro k x p hk
    rw [h3] at hk; simp at hk
  · rw [h1] at hj; simp at hj

/-! strings.Trim -/
/-! strconv.FormatInt at base 10 -/
def rng64 (n : Int) : Bool := decide (-9223372036854775808 ≤ n ∧ n ≤ 9223372036854775807)
def sFormat : FSpec
  | [.int .i64 n, .int .i64 b], [] => .node (rng64 n && decide (b = 10)) (.leaf ⟨[.str (Lib.itoa n)], []⟩) .bad
  | _, _ => .bad
theorem grow_below (w : World) (k : Nat) (os : Array Obj) : Below w.heap.size w (Sort.grow (w.drewN k) os) :=
  ⟨rfl, rfl, rfl, by simp [Sort.grow, World.drewN], fun i hi => by
    simp only [Sort.grow]
    rw [Array.getElem?_append_left (by exact hi)]; rfl⟩
theorem format_ok {E : Env} {f : FuncId} (hat : ∃ fn c, FnAt E.P f fn c)
    (h : ∀ (n : Int) (w : World), GOk E (fun _ => False) w → -9223372036854775808 ≤ n → n ≤ 9223372036854775807 → Calls E.P f #[.int .i64 n, .int .i64 10] w fun e w' => e = .returned (.string ⟨(Lib.itoa n).toArray⟩) ∧ ∃ k os, w' = Sort.grow (w.drewN k) os) : FnOk E f sFormat := by
  refine fnOk_plain hat fun vs bs out hsel => ?_
  unfold sFormat at hsel
  split at hsel
  · rename_i n b
    rcases T.node_sel hsel with ⟨hc, hs2⟩ | ⟨_, hs2⟩
    · simp only [rng64, Bool.and_eq_true, decide_eq_true_eq] at hc
      obtain ⟨⟨h0, h1⟩, rfl⟩ := hc
      simp only [T.sel, Option.some.injEq] at hs2
      subst hs2
      refine ⟨rfl, rfl, rfl, fun w cargs hg hv => ?_⟩
      simp only [VL, V] at hv
      obtain ⟨v, r, rfl, rfl, v2, r2, rfl, rfl, rfl⟩ := hv
      refine (h n w hg h0 h1).mono fun e w' ⟨he, k, os, hw⟩ => ⟨_, he, ?_, ?_⟩
      · simp [oneOrTup, V]
      · rw [hw]; exact grow_below w k os
    · simp [T.sel] at hs2
  · simp [T.sel] at hsel

/-! strconv.ParseInt at base 10, 64 bits -/
/-- the shelf's three contracts -/
structure ParseOk (E : Env) (f : FuncId) (te t5 : TypeId) : Prop where
  ok : ∀ (s : ByteArray) (v : Int) (w : World), s.size ≤ lim → Lib.parseIntB 64 s.data.toList = .ok v → Calls E.P f #[.string s, .int .i64 10, .int .i64 64] w fun e w' => e = .returned (.tuple #[.int .i64 v, .nilIface]) ∧ (w' = w ∨ ∃ t, w' = Lib.bytesWorld w t5 t)
  syn : ∀ (s : ByteArray) (w : World), GOk E (fun _ => False) w → s.size ≤ lim → (∀ v, Lib.parseIntB 64 s.data.toList ≠ .ok v) → Lib.parseIntB 64 s.data.toList ≠ .range → Calls E.P f #[.string s, .int .i64 10, .int .i64 64] w fun e w' => ∃ x, e = .returned (.tuple #[.int .i64 0, .iface te x]) ∧ Below w.heap.size w w'
  range : ∀ (s : ByteArray) (w : World), GOk E (fun _ => False) w → s.size ≤ lim → Lib.parseIntB 64 s.data.toList = .range → Calls E.P f #[.string s, .int .i64 10, .int .i64 64] w fun e w' => ∃ x, e = .returned (.tuple #[.int .i64 (Lib.intSat 64 s.data.toList), .iface te x]) ∧ Below w.heap.size w w'
/-! a law -/
end Go.Am
/-
  Plain words that all texts share.
-/
namespace Go.Am
def i64 (n : Int) : AV := .int .i64 n
def rb (b : Bool) : Option Out := some ⟨[.bool b], []⟩
def Rng (a : Int) : Prop := -9223372036854775808 ≤ a ∧ a ≤ 9223372036854775807
instance (a : Int) : Decidable (Rng a) := by unfold Rng; exact inferInstance
def wr (n : Int) : Int := IntKind.i64.wrap n
end Go.Am
/-
  AM3: a function of the library that reads a slice and gives plain values; strings.Join.
-/
namespace Go.Am
open Go.RowKit

/-- a call that gives plain values, and lays new memory at most -/
theorem fnOk_reads {E : Env} {f : FuncId} {s : FSpec} (hat : ∃ fn c, FnAt E.P f fn c)
    (h : ∀ vs bs out, (s vs bs).sel = some out → pers vs bs = [] ∧ out.blks = [] ∧ ∀ (w : World) (cargs : List Value) (ps : List Pos), CfgOk E w bs ps → VL (psRho ps) vs cargs →
      Calls E.P f cargs.toArray w fun e w' => ∃ cv, e = .returned cv ∧ V (fun _ => none) (oneOrTup out.vals) cv ∧ Below w.heap.size w w') : FnOk E f s := by
  refine ⟨hat, fun vs bs out hsel w cargs ps hc hv => ?_⟩
  obtain ⟨h1, h3, h4⟩ := h vs bs out hsel
  have hg := gok_any hc.g
  refine (h4 w cargs ps hc hv).mono fun e w' ⟨cv, he, hcv, hb⟩ => ⟨cv, [], he, ?_, ?_, ⟨?_, ?_⟩, fun j k hj => ?_⟩
  · rw [h3]
    have hs : Stp domN domN w w' := ⟨ext_below hb, fun _ h => h.elim, fun _ h => h.elim⟩
    exact cfg_nil (GOk.step (O := domN) (O' := domN) hg hs)
  · rw [psRho_nil]; exact hcv
  · rw [h3]
    exact ⟨(ext_below hb).mono fun _ _ h => h.elim, fun k hk => (own_nil k hk).elim, fun k hk => (live_nil k hk).elim⟩
  · intro k x p hk
    rw [h3] at hk; simp at hk
  · rw [h1] at hj; simp at hj
theorem cell_lt {w : World} {a : Addr} {v : Value} (h : w.cell? a = some v) : a.block < w.heap.size := by
  rcases Nat.lt_or_ge a.block w.heap.size with h1 | h1
  · exact h1
  · unfold World.cell? at h
    rw [Array.getElem?_eq_none h1] at h
    simp at h
theorem turns_more' {E : Env} {C : CallR} {L : LoopR} {n : Nat} {sg : LSig} {body : Code} {k : Nat} {vs : List AV} {bs : List Blk} {o : Out} (h : (turn E C L n sg body vs bs).sel = some (.normal, o)) :
    (turns E C L n sg body (k + 1) vs bs).sel = (turns E C L n sg body k o.vals o.blks).sel := by
  show ((turn E C L n sg body vs bs).bind _).sel = _
  rw [sel_bind, h]

/-! strings.Join -/
end Go.Am
/-
  AM3: a region inside a range over a function: whatever it gives by itself, it gives there; what is told of blocks stays while memory is only laid.
-/
namespace Go.Am
open Go.RowKit
section
variable {P : Program}
end
/-! a region as a turn -/
section
variable {E : Env} {C : CallR} {w : World}
/-! memory is only laid -/
end
end Go.Am
/-
  AM3: in the midst of a function: what has been run so far, told as a configuration; and the rest, run from there.
-/
namespace Go.Am
/-- pieces of code, one behind the other -/
def runs (E : Env) (C : CallR) (L : LoopR) : List Code → AState → T AState
  | [], st => .leaf st
  | c :: cs, st => (run E C L c st).bind fun r => match r.1 with
    | .normal => runs E C L cs r.2
    | _ => .bad
/-- pieces of code, then blk, then tail -/
def nest (blk tail : Code) : List Code → Code
  | [] => .skip
  | [x] => .seq (.seq x blk) tail
  | x :: y :: xs => .seq x (nest blk tail (y :: xs))
def piecesOf : Nat → Code → List Code
  | n + 1, .seq a b => a :: piecesOf n b
  | 0, .seq (.seq a _) _ => [a]
  | _, _ => []
def blkOf : Nat → Code → Code
  | n + 1, .seq _ b => blkOf n b
  | 0, .seq (.seq _ b) _ => b
  | _, _ => .skip
def tailOf : Nat → Code → Code
  | n + 1, .seq _ b => tailOf n b
  | 0, .seq (.seq _ _) t => t
  | _, _ => .skip
section
variable {E : Env} {ρ : Rho} {h : Heap} {w w' : World} {C : CallR} {L : LoopR}
/-! what is nobody's -/
/-- a block of the model's that is not the configuration's own -/
def Off (bs : List Blk) (ps : List Pos) (k : Nat) : Prop := ¬ ownB (psRho ps) (blkH bs) k
theorem Off.mv {bs bs' : List Blk} {ps ps' : List Pos} {k : Nat} (h : Off bs ps k) (hk : k < w.heap.size) (hm : Mv w bs ps w' bs' ps') : Off bs' ps' k := fun ho => by
  rcases hm.stp.sub k ho with h1 | h1
  · exact h h1
  · omega
theorem Off.same {bs bs' : List Blk} {ps ps' : List Pos} {k : Nat} (h : Off bs ps k) (hk : k < w.heap.size) (hm : Mv w bs ps w' bs' ps') : w'.heap[k]? = w.heap[k]? := hm.stp.ext.block k hk h
theorem runs_ok (hC : CG E C) {blk tail : Code} {Q : Exit → Act → World → Prop} : ∀ (cs : List Code), cs ≠ [] → (∀ x ∈ cs, LoopsOk E L x) → ∀ (st st' : AState), (runs E C L cs st).sel = some st' → ∀ (ρ : Rho) (a : Act) (w : World), Sat E ρ st a w →
    (∀ ρ' a' w', Sat E ρ' st' a' w' → Stp (domB ρ st.h) (domB ρ' st'.h) w w' → ρ.le ρ' → a'.tmps.size = a.tmps.size → a'.defers = a.defers → blk.wp E.P (Exit.then (tail.wp E.P Q) Q) a' w') → (nest blk tail cs).wp E.P Q a w
  | [], hne, _, _, _, _, _, _, _, _, _ => (hne rfl).elim
  | [x], _, hL, st, st', h, ρ, a, w, hs, hq => by
    obtain ⟨⟨e1, st1⟩, h1, h2⟩ := T.bind_sel _ _ _ h
    cases e1 with
    | normal =>
      simp only [runs, T.sel, Option.some.injEq] at h2
      subst h2
      refine wp_seq (wp_seq (run_ok hC x (hL x (by simp)) _ _ _ h1 ρ a w hs _ fun ρ' a' w' h3 h4 h5 h6 => ?_))
      exact hq ρ' a' w' h3 h4 h5 h6.size h6.d
    | exit id => simp [T.sel] at h2
    | ret => simp [T.sel] at h2
  | x :: y :: xs, _, hL, st, st', h, ρ, a, w, hs, hq => by
    obtain ⟨⟨e1, st1⟩, h1, h2⟩ := T.bind_sel _ _ _ h
    cases e1 with
    | normal =>
      refine wp_seq (run_ok hC x (hL x (by simp)) _ _ _ h1 ρ a w hs _ fun ρ' a' w' h3 h4 h5 h6 => ?_)
      exact runs_ok hC (y :: xs) (by simp) (fun z hz => hL z (List.mem_cons_of_mem _ hz)) st1 st' h2 ρ' a' w' h3 fun ρ2 a2 w2 k1 k2 k3 k4 k5 => hq ρ2 a2 w2 k1 (h4.trans k2) (h5.trans k3) (k4.trans h6.size) (k5.trans h6.d)
    | exit id => simp [T.sel] at h2
    | ret => simp [T.sel] at h2
/-- what the model has of the list -/
structure Back (w : World) (v : Value) (f : FuncId) (l : List Int) (Bn Bo bk off cap : Nat) (a : Option Addr) : Prop where
  fn : v = .func (.func f) #[] #[.pointer (some ⟨Bn, Bo, none⟩)]
  box : w.cell? ⟨Bn, Bo, none⟩ = some (.slice a l.length cap)
  sl : 0 < l.length → a = some ⟨bk, off, none⟩
  el : ∀ (i : Nat) x, l[i]? = some x → w.cell? ⟨bk, off + i, none⟩ = some (.int .i64 x)
  lb : Bn < w.heap.size
  lk : bk < w.heap.size
end
end Go.Am
/-
  AM3: loops that go over places and stop at the first one that is told, turn by turn.
-/
namespace Go.Am
/-- the first place from i on, among f, that is told; or the one behind them -/
def firstB (bad : Nat → Bool) : Nat → Nat → Nat
  | 0, i => i
  | f + 1, i => bif bad i then i else firstB bad f (i + 1)
/-- the first element that is told -/
def firstL {α : Type} (p : α → Bool) : List α → Nat
  | [] => 0
  | x :: l => bif p x then 0 else firstL p l + 1
theorem firstB_list {α : Type} [Inhabited α] (p : α → Bool) : ∀ (r l : List α) (i : Nat), l.drop i = r → firstB (fun j => p (l.getD j default)) r.length i = i + firstL p r
  | [], l, i, h => rfl
  | x :: r, l, i, h => by
    have hlt : i < l.length := by
      rcases Nat.lt_or_ge i l.length with h1 | h1
      · exact h1
      · rw [List.drop_eq_nil_of_le h1] at h; cases h
    have hx : l.getD i default = x := by
      rw [List.drop_eq_getElem_cons hlt] at h
      injection h with h1 h2
      simp [List.getD, hlt, h1]
    have hr : l.drop (i + 1) = r := by
      rw [List.drop_eq_getElem_cons hlt] at h
      injection h with h1 h2
    rw [List.length_cons]
    unfold firstB firstL
    rw [hx]
    cases p x with
    | true => rfl
    | false => simp only [cond_false]; rw [firstB_list p r l (i + 1) hr]; omega
theorem firstL_any {α : Type} (p : α → Bool) : ∀ l : List α, decide (firstL p l < l.length) = l.any p
  | [] => rfl
  | x :: l => by
    unfold firstL
    rw [List.any_cons, ← firstL_any p l]
    cases p x with
    | true => simp
    | false =>
      simp only [cond_false, Bool.false_or, List.length_cons]
      congr 1
      exact propext ⟨fun h => by omega, fun h => by omega⟩
section
variable {E : Env} {C : CallR} {L : LoopR} {n : Nat} {sg : LSig} {body : Code}
theorem scan_turns {st : Int → List AV} {bs : List Blk} {len : Nat} {bad : Nat → Bool} {ob : Nat → Out} {k : Nat} {oe : Out}
    (h : ∀ i : Nat, i ≤ len → (turn E C L n sg body (st i) bs).sel = bif decide (i < len) then (bif bad i then some (.ret, ob i) else some (.normal, ⟨st (i + 1 : Nat), bs⟩)) else some (.exit k, oe)) :
    ∀ (f i : Nat), i + f = len → ∃ m, (turns E C L n sg body m (st i) bs).sel = bif decide (firstB bad f i < len) then some (.ret, ob (firstB bad f i)) else some (.exit k, oe)
  | 0, i, hi => by
    have ht := h i (by omega)
    rw [decide_eq_false (by omega), cond_false] at ht
    refine ⟨1, (turns_done ht (by simp)).trans ?_⟩
    unfold firstB
    rw [decide_eq_false (by omega)]; rfl
  | f + 1, i, hi => by
    have ht := h i (by omega)
    rw [decide_eq_true (show i < len by omega), cond_true] at ht
    unfold firstB
    cases hb : bad i with
    | true =>
      rw [hb, cond_true] at ht
      refine ⟨1, (turns_done ht (by simp)).trans ?_⟩
      simp only [cond_true]
      rw [decide_eq_true (show i < len by omega)]; rfl
    | false =>
      rw [hb, cond_false] at ht
      obtain ⟨m, hm⟩ := scan_turns h f (i + 1) (by omega)
      exact ⟨m + 1, (turns_more' ht).trans hm⟩
end
theorem in_range {α : Type} {i n : Nat} (h : i < n) (r : Option α) : (bif decide ((0 : Int) ≤ (i : Int) ∧ (i : Int) < (n : Int)) then (bif decide (((i : Int)).toNat < n) then r else none) else none) = r := by
  rw [decide_eq_true (show (0 : Int) ≤ (i : Int) ∧ (i : Int) < (n : Int) from ⟨by omega, by omega⟩), decide_eq_true (show ((i : Int)).toNat < n by omega)]; rfl
/-! two lists, side by side -/
def all2 {α : Type} (e : α → α → Bool) : List α → List α → Bool
  | [], [] => true
  | x :: l, y :: m => e x y && all2 e l m
  | _, _ => false
theorem firstB_congr {b b' : Nat → Bool} : ∀ (f i : Nat), (∀ j, i ≤ j → j < i + f → b j = b' j) → firstB b f i = firstB b' f i
  | 0, _, _ => rfl
  | f + 1, i, h => by
    unfold firstB
    rw [h i (Nat.le_refl _) (by omega), firstB_congr f (i + 1) fun j h1 h2 => h j (by omega) (by omega)]
theorem zip_any {α : Type} {e : α → α → Bool} : ∀ {l m : List α}, l.length = m.length → (l.zip m).any (fun z => !e z.1 z.2) = !all2 e l m
  | [], [], _ => rfl
  | x :: l, y :: m, h => by
    rw [List.zip_cons_cons, List.any_cons, zip_any (by simpa using h)]
    show (!e x y || !all2 e l m) = !(e x y && all2 e l m)
    rw [Bool.not_and]
  | [], _ :: _, h => by simp at h
  | _ :: _, [], h => by simp at h
theorem first2 {α : Type} [Inhabited α] {e : α → α → Bool} {l m : List α} (h : l.length = m.length) : decide (firstB (fun j => !e (l.getD j default) (m.getD j default)) l.length 0 < l.length) = !all2 e l m := by
  have hz : (l.zip m).length = l.length := by rw [List.length_zip, h, Nat.min_self]
  rw [← zip_any h, ← firstL_any, hz]
  congr 1
  have := firstB_list (fun z : α × α => !e z.1 z.2) (l.zip m) (l.zip m) 0 rfl
  rw [Nat.zero_add, hz] at this
  rw [← this]
  congr 1
  refine firstB_congr _ _ fun j _ hj => ?_
  have h1 : j < l.length := by omega
  have h2 : j < m.length := by omega
  have h3 : j < (l.zip m).length := by omega
  have h4 : (l.zip m)[j]? = some (l[j], m[j]) := by rw [List.getElem?_eq_getElem h3, List.getElem_zip]
  simp [List.getD, h1, h2, h4]
theorem all2_eq {α : Type} [DecidableEq α] {e : α → α → Bool} (he : ∀ x y, e x y = decide (x = y)) : ∀ l m : List α, all2 e l m = decide (l = m)
  | [], [] => rfl
  | x :: l, y :: m => by
    show (e x y && all2 e l m) = _
    rw [he, all2_eq he l m]
    by_cases h1 : x = y <;> by_cases h2 : l = m <;> simp [h1, h2]
  | [], _ :: _ => rfl
  | _ :: _, [] => rfl
theorem all2_len {α : Type} {e : α → α → Bool} : ∀ {l m : List α}, all2 e l m = true → l.length = m.length
  | [], [], _ => rfl
  | x :: l, y :: m, h => by
    have h : (e x y && all2 e l m) = true := h
    rw [Bool.and_eq_true] at h
    rw [List.length_cons, List.length_cons, all2_len h.2]
  | [], _ :: _, h => by cases h
  | _ :: _, [], h => by cases h
end Go.Am
/-
  AM3: what comes back may be told as lent; an empty slice of which no more is known.
-/
namespace Go.Am
open Go.RowKit
def lendB (x : Blk) : Blk := ⟨false, x.dat⟩
theorem lend_blk {bs : List Blk} {b : Nat} {x : Blk} (h : blkH (bs.map lendB) b = some x) : ∃ y, blkH bs b = some y ∧ x = lendB y := by
  have h : (bs.map lendB)[b]? = some x := h
  rw [List.getElem?_map, Option.map_eq_some_iff] at h
  obtain ⟨y, h1, h2⟩ := h
  exact ⟨y, h1, h2.symm⟩
theorem lend_own {ρ : Rho} {bs : List Blk} {k : Nat} (h : ownB ρ (blkH (bs.map lendB)) k) : False := by
  obtain ⟨b, x, p, hb, ho, _⟩ := h
  obtain ⟨y, _, rfl⟩ := lend_blk hb
  cases ho
theorem lend_cfg {E : Env} {w : World} {bs : List Blk} {ps : List Pos} (h : CfgOk E w bs ps) : CfgOk E w (bs.map lendB) ps := by
  refine ⟨⟨fun b x hb => ?_, fun b x hb => ?_, fun b x p hb => ?_, fun b x p hb ho => ?_, fun b x p b' x' p' hb ho => ?_⟩, ⟨h.g.laid, h.g.size, h.g.base, fun k hk => (lend_own hk).elim⟩, by rw [List.length_map]; exact h.len, by rw [List.length_map]; exact h.few⟩
  · obtain ⟨y, h1, rfl⟩ := lend_blk hb; exact h.sat.pos b y h1
  · obtain ⟨y, h1, rfl⟩ := lend_blk hb; exact h.sat.wf b y h1
  · obtain ⟨y, h1, rfl⟩ := lend_blk hb; exact h.sat.cells b y p h1
  · obtain ⟨y, h1, rfl⟩ := lend_blk hb; cases ho
  · obtain ⟨y, h1, rfl⟩ := lend_blk hb; cases ho
theorem fnOk_lend {E : Env} {f : FuncId} {s s' : FSpec} (h : FnOk E f s) (hs : ∀ vs bs o', (s' vs bs).sel = some o' → ∃ o, (s vs bs).sel = some o ∧ o'.vals = o.vals ∧ o'.blks = o.blks.map lendB) : FnOk E f s' := by
  refine ⟨h.1, fun vs bs o' hsel w cargs ps hc hv => ?_⟩
  obtain ⟨o, h1, h2, h3⟩ := hs vs bs o' hsel
  refine (h.2 vs bs o h1 w cargs ps hc hv).mono fun e w' ⟨cv, ps', he, hcfg, hV, hM, hp⟩ => ⟨cv, ps', he, by rw [h3]; exact lend_cfg hcfg, by rw [h2]; exact hV, ?_, hp⟩
  rw [h3]
  refine ⟨⟨hM.stp.ext, fun k hk => (lend_own hk).elim, fun k hk => ?_⟩, fun k x p hk hpk hl => ?_⟩
  · obtain ⟨b, x, p, hb, hp, hl, he⟩ := hk
    obtain ⟨y, h4, rfl⟩ := lend_blk hb
    exact hM.stp.src k ⟨b, y, p, h4, hp, .inr (hl.resolve_left (fun h => by cases h.1)), he⟩
  · rw [List.getElem?_map, Option.map_eq_some_iff] at hk
    obtain ⟨y, h4, rfl⟩ := hk
    exact hM.src k y p h4 hpk (.inr (hl.resolve_left (fun h => by cases h.1)))
/-- a call that gives one empty slice, and lays new memory at most -/
theorem fnOk_empty {E : Env} {f : FuncId} {s : FSpec} (hat : ∃ fn c, FnAt E.P f fn c) {d : Dat} (hd : d.len = 0)
    (h : ∀ vs bs out, (s vs bs).sel = some out → pers vs bs = [] ∧ out = ⟨[.slw 0], [⟨false, d⟩]⟩ ∧ ∀ (w : World) (cargs : List Value) (ps : List Pos), CfgOk E w bs ps → VL (psRho ps) vs cargs →
      Calls E.P f cargs.toArray w fun e w' => ∃ (p : Pos) (v : Value), e = .returned v ∧ p.stride = d.stride ∧ p.len = 0 ∧ p.cap ≤ maxLen ∧ SlV p 0 0 v ∧ Below w.heap.size w w') : FnOk E f s := by
  refine ⟨hat, fun vs bs out hsel w cargs ps hc hv => ?_⟩
  obtain ⟨h1, rfl, h4⟩ := h vs bs out hsel
  have hg := gok_any hc.g
  refine (h4 w cargs ps hc hv).mono fun e w' ⟨p, v, he, p1, p2, p3, hV, hb⟩ => ⟨v, [p], he, ?_, ?_, ⟨?_, ?_⟩, fun j k hj => ?_⟩
  · have key : ∀ b x, blkH [⟨false, d⟩] b = some x → b = 0 ∧ x = ⟨false, d⟩ := fun b x hb => by
      match b, hb with
      | 0, hb => exact ⟨rfl, (Option.some.inj hb).symm⟩
    refine ⟨⟨fun b x hb => ?_, fun b x hb i hi => ?_, fun b x q hb _ i hi => ?_, fun b x q hb ho => ?_, fun b x q b' x' q' hb ho => ?_⟩, ⟨hg.laid, Nat.le_trans hg.size hb.size, fun g hg' => (hb.block g (by have := hg.size; omega)).trans (hg.base g hg'), fun k hk => ?_⟩, rfl, by simp⟩
    · obtain ⟨rfl, rfl⟩ := key b x hb
      exact ⟨p, rfl, p1, p2.trans hd.symm, by omega, p3⟩
    · obtain ⟨rfl, rfl⟩ := key b x hb
      have hi : i < d.len := hi
      omega
    · obtain ⟨rfl, rfl⟩ := key b x hb
      have hi : i < d.len := hi
      omega
    · obtain ⟨rfl, rfl⟩ := key b x hb
      cases ho
    · obtain ⟨rfl, rfl⟩ := key b x hb
      cases ho
    · obtain ⟨b, x, q, h5, ho, _⟩ := hk
      obtain ⟨rfl, rfl⟩ := key b x h5
      cases ho
  · simp only [oneOrTup, V]
    exact ⟨p, rfl, by omega, by rw [p2]; exact hV⟩
  · refine ⟨(ext_below hb).mono fun _ _ h => h.elim, fun k hk => ?_, fun k hk => ?_⟩
    · obtain ⟨b, x, q, h5, ho, _⟩ := hk
      match b, h5 with
      | 0, h5 => cases h5; cases ho
    · obtain ⟨b, x, q, h5, hq, hl, _⟩ := hk
      match b, h5 with
      | 0, h5 =>
        cases h5
        have hq : p = q := Option.some.inj hq
        subst hq
        rcases hl with hl | hl
        · cases hl.1
        · omega
  · intro k x q hk hq hl
    match k, hk with
    | 0, hk =>
      cases hk
      have hq : p = q := Option.some.inj hq
      subst hq
      rcases hl with hl | hl
      · cases hl.1
      · have := hl.1
        omega
  · rw [h1] at hj; simp at hj
end Go.Am
