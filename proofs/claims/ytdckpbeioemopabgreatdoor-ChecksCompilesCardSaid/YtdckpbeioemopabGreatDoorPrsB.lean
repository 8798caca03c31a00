/-
  Texts put together: PrsFront, PrsFront2, PrsFront3, PrsPlain, PrsGood.
-/
import Derived.Test.YtdckpbeioemopabGreatDoorPrsA
import Derived.Test.YtdckpbeioemopabGreatDoorExA
namespace Go.Proofs.YtdckpbeioemopabGreatDoor
open Go.Am Go
set_option maxRecDepth 100000
variable {B : Nat → Option Obj}
def noDefer (ops : Array Oper) : Bool := ops.toList.all fun o => match o.op with | .defer _ => false | _ => true
theorem noDefer_is {ops : Array Oper} (h : noDefer ops = true) (i : Nat) (o : Oper) (ho : ops[i]? = some o) (c : Call) : o.op ≠ .defer c := by
  unfold noDefer at h
  rw [List.all_eq_true] at h
  intro e
  have := h o (by rw [← Array.getElem?_toList] at ho; exact List.mem_of_getElem? ho)
  rw [e] at this
  cases this
def asOf : Code → Array Oper
  | .block _ c => asOf c
  | .rangeFunc _ _ (.region _ ops _) _ => ops
  | _ => #[]
noncomputable def fAs : Array Oper := asOf fBlk
noncomputable def fRange : Code := .rangeFunc (.tmp 37) #[38, 39] (.region 10 fAs false) (.block 3 (.region 11 fOps false))
theorem fBlk_eq : fBlk = .block 2 fRange := by kernel_rfl
theorem pers_R (L : List Tok) (kd A E tk : Int) (X : List Nod) : pers (vsR tk) (bsR L kd A E X) = [0, 1, 2, 3] := by kernel_rfl
theorem round_in {l n : Nat} {L : List Tok} {kd A E tk A' E' : Int} {X X' : List Nod} (h : (rturn (E0 B) (Cx B lib9) 47 sgR fOps (vsR tk) (bsR L kd A E X)).sel = some ⟨vsR tk, bsR L kd A' E' X'⟩) {w : World} {ps : List Pos} (hc : CfgOk (E0 B) w (bsR L kd A E X) ps) {a : Act} (hn : a.tmps.size = 47)
    (hv : VL (psRho ps) (vsR tk) (slotVs a (sgR.cs ++ sgR.mv))) : (Code.block 3 (.region 11 fOps false)).wpIn (Fence.wide.inRound l) n Tryz.prog (fun e _ w' => e = .normal ∧ ∃ ps', CfgOk (E0 B) w' (bsR L kd A' E' X') ps' ∧ Mv w (bsR L kd A E X) ps w' (bsR L kd A' E' X') ps' ∧ ∀ j, j < 4 → ps'[j]? = ps[j]?) a w := by
  have hq : ¬ LetsOut (fun (e : Exit) (_ : Act) (w' : World) => e = .normal ∧ ∃ ps', CfgOk (E0 B) w' (bsR L kd A' E' X') ps' ∧ Mv w (bsR L kd A E X) ps w' (bsR L kd A' E' X') ps' ∧ ∀ j, j < 4 → ps'[j]? = ps[j]?) := fun ⟨_, _, h, _⟩ => by cases h
  have ht : (loopSt (E0 B) 47 sgR (vsR tk) (bsR L kd A E X)).τ < 1000000 := by show 1 < 1000000; decide
  refine wpIn_block (wpIn_mono (wpIn_region (opsIn (noDefer_is (by kernel_rfl)) hq _ _ _ (rturn_ok (cxOk lib9_ok) h ht hn hc hv (R := fun _ w' => ∃ ps', CfgOk (E0 B) w' (bsR L kd A' E' X') ps' ∧ Mv w (bsR L kd A E X) ps w' (bsR L kd A' E' X') ps' ∧ ∀ j, j < 4 → ps'[j]? = ps[j]?) fun a' w' ps' g1 g2 g3 g4 _ => ⟨ps', g1, g3, fun j hj => ?_⟩))) fun e a w ⟨h1, h2⟩ => ?_)
  · have g4 := g4.2
    rw [pers_R, pers_R] at g4
    have hk : j = 0 ∨ j = 1 ∨ j = 2 ∨ j = 3 := by omega
    rcases hk with rfl | rfl | rfl | rfl
    · exact g4 0 0 0 rfl rfl
    · exact g4 1 1 1 rfl rfl
    · exact g4 2 2 2 rfl rfl
    · exact g4 3 3 3 rfl rfl
  · subst h1
    exact ⟨rfl, h2⟩
structure PSt where
  at' : Int
  e : Int
  X : List Nod
def stepA (L : List Tok) (kd : Int) (s : PSt) (tk : Int) : PSt := ⟨mkA s.e s.at' tk (unL kd (tkP L tk) s.X), mkE s.e (unL kd (tkP L tk) s.X), mkX (decide (s.e = 0) && decide (chkN (unL kd (tkP L tk) s.X) = 0)) (unL kd (tkP L tk) s.X)⟩
def PSt.fit (s : PSt) : Prop := s.e = 0 → chkN s.X = 0
theorem step_fit (L : List Tok) (kd : Int) {s : PSt} (_ : s.fit) (tk : Int) : (stepA L kd s tk).fit := by
  unfold PSt.fit stepA mkE mkX
  by_cases h0 : s.e = 0
  · by_cases h1 : chkN (unL kd (tkP L tk) s.X) = 0
    · simp [h0, h1]
    · simp [h0, h1]
  · simp [h0]
def bsP (L : List Tok) (kd : Int) (s : PSt) : List Blk := bsR L kd s.at' s.e s.X
def tkOk (L : List Tok) (tk : Int) : Prop := 0 ≤ tk ∧ tk < (L.length : Int) ∧ 0 ≤ tkP L tk ∧ tkP L tk ≤ 400
theorem round_st {L : List Tok} {kd tk : Int} {s : PSt} (hf : s.fit) (hk : kd = 5 ∨ kd = 6) (ht : tkOk L tk) :
    (rturn (E0 B) (Cx B lib9) 47 sgR fOps (vsR tk) (bsP L kd s)).sel = some ⟨vsR tk, bsP L kd (stepA L kd s tk)⟩ := by
  obtain ⟨h1, h2, h3, h4⟩ := ht
  refine (round_is L kd s.at' s.e tk s.X).trans ?_
  have hg : (!decide (s.e = 0) || (decide (0 ≤ tk ∧ tk < (L.length : Int)) && (decide (5 ≤ kd ∧ kd ≤ 6 ∧ 0 ≤ tkP L tk ∧ tkP L tk ≤ 400) && decide (chkN s.X = 0)))) = true := by
    by_cases h0 : s.e = 0
    · rw [decide_eq_true (show 0 ≤ tk ∧ tk < (L.length : Int) from ⟨h1, h2⟩), decide_eq_true (show 5 ≤ kd ∧ kd ≤ 6 ∧ 0 ≤ tkP L tk ∧ tkP L tk ≤ 400 from ⟨by omega, by omega, h3, h4⟩), decide_eq_true (hf h0)]
      simp
    · simp [h0]
  rw [hg]; rfl
def foldS (L : List Tok) (kd : Int) (s : PSt) (l : List Int) : PSt := l.foldl (stepA L kd) s
def plc (l : List Int) (pre : List (Fin l.length)) : List Int := pre.map fun i => l[i]
theorem fold_fit (L : List Tok) (kd : Int) : ∀ (l : List Int) {s : PSt}, s.fit → (foldS L kd s l).fit
  | [], _, h => h
  | x :: l, _, h => fold_fit L kd l (step_fit L kd h x)
theorem fold_snoc (L : List Tok) (kd : Int) (s : PSt) (l : List Int) (x : Int) : foldS L kd s (l ++ [x]) = stepA L kd (foldS L kd s l) x := by
  unfold foldS; rw [List.foldl_append]; rfl
end Go.Proofs.YtdckpbeioemopabGreatDoor
namespace Go.Proofs.YtdckpbeioemopabGreatDoor
open Go.Am Go Go.Shelf
set_option maxRecDepth 100000
attribute [local go_sem] Oper.semAt_some
variable {B : Nat → Option Obj}
def InvR (B : Nat → Option Obj) (L : List Tok) (kd : Int) (s0 : PSt) (l : List Int) (w : World) (ps : List Pos) (pre : List (Fin l.length)) (W : World) : Prop :=
  ∃ ps', CfgOk (E0 B) W (bsP L kd (foldS L kd s0 (plc l pre))) ps' ∧ Mv w (bsP L kd s0) ps W (bsP L kd (foldS L kd s0 (plc l pre))) ps' ∧ ∀ j, j < 4 → ps'[j]? = ps[j]?
theorem invR_own {L : List Tok} {kd : Int} {s0 : PSt} {l : List Int} {w : World} {ps : List Pos} (hng : (E0 B).ng ≤ w.heap.size) : OwnFrom w.heap.size (InvR B L kd s0 l w ps) := fun pre W W' row hs hg hr => by
  obtain ⟨ps', h1, h2, h3⟩ := hs
  exact ⟨ps', cfg_grown h1 hg (fun r e => ⟨Nat.le_trans hng (hr r e).1, (hr r e).2⟩), mv_grown h2 hg (fun r e => (hr r e).1), h3⟩
theorem invR_step {L : List Tok} {kd : Int} {s0 : PSt} {l : List Int} {w : World} {ps : List Pos} {pre : List (Fin l.length)} {x : Fin l.length} {W W' : World} {ps1 ps2 : List Pos}
    (h2 : Mv w (bsP L kd s0) ps W (bsP L kd (foldS L kd s0 (plc l pre))) ps1) (h3 : ∀ j, j < 4 → ps1[j]? = ps[j]?) (g1 : CfgOk (E0 B) W' (bsP L kd (stepA L kd (foldS L kd s0 (plc l pre)) l[x])) ps2) (g2 : Mv W (bsP L kd (foldS L kd s0 (plc l pre))) ps1 W' (bsP L kd (stepA L kd (foldS L kd s0 (plc l pre)) l[x])) ps2) (g3 : ∀ j, j < 4 → ps2[j]? = ps1[j]?) :
    InvR B L kd s0 l w ps (pre ++ [x]) W' := by
  have e : plc l (pre ++ [x]) = plc l pre ++ [l[x]] := by simp [plc]
  unfold InvR
  rw [e, fold_snoc]
  exact ⟨ps2, g1, h2.trans g2, fun j hj => (g3 j hj).trans (h3 j hj)⟩
def slots3 (t : Array Value) (x y : Value) : Array Value := ((t.setIfInBounds 38 x).setIfInBounds 39 y).setIfInBounds 11 y
theorem slots3_get {t : Array Value} {x y : Value} {i : Nat} (h1 : i ≠ 38) (h2 : i ≠ 39) (h3 : i ≠ 11) : (slots3 t x y).getD i undef = t.getD i undef := by
  unfold slots3
  simp only [Array.getD_eq_getD_getElem?]
  rw [Array.getElem?_setIfInBounds_ne (Ne.symm h3), Array.getElem?_setIfInBounds_ne (Ne.symm h2), Array.getElem?_setIfInBounds_ne (Ne.symm h1)]
theorem slots3_at {t : Array Value} {x y : Value} (h : t.size = 47) : (slots3 t x y).getD 11 undef = y := by
  unfold slots3
  simp [h]
theorem vl_R {ps ps' : List Pos} {a : Act} {tk : Int} {x : Value} (hs : a.tmps.size = 47) (hp : ∀ j, j < 4 → ps'[j]? = ps[j]?) (hv : VL (psRho ps) vsE (slotVs a slF)) : VL (psRho ps') (vsR tk) (slotVs { tmps := slots3 a.tmps x (.int .i64 tk), defers := [] } (sgR.cs ++ sgR.mv)) := by
  have e0 := hp 0 (by omega)
  have e1 := hp 1 (by omega)
  have e2 := hp 2 (by omega)
  have e3 := hp 3 (by omega)
  simp only [vsE, slF, slotVs, List.map_cons, List.map_nil, VL, V, psRho, List.cons.injEq] at hv
  simp only [vsR, sgR, slotVs, List.cons_append, List.nil_append, List.map_cons, List.map_nil, VL, V, psRho, List.cons.injEq, slots3_at hs]
  rw [slots3_get (by decide) (by decide) (by decide), slots3_get (by decide) (by decide) (by decide), slots3_get (by decide) (by decide) (by decide), slots3_get (by decide) (by decide) (by decide)]
  obtain ⟨_, _, ⟨rfl, rfl⟩, k0, _, _, h1, k1, _, _, h2, k2, _, _, h3, k3, rfl⟩ := hv
  injection h1 with h1 h1'
  subst h1 h1'
  injection h2 with h2 h2'
  subst h2 h2'
  injection h3 with h3 _
  subst h3
  rw [e0, e1, e2, e3]
  exact ⟨_, _, ⟨rfl, rfl⟩, k0, _, _, rfl, k1, _, _, rfl, k2, _, _, rfl, k3, .int .i64 tk, _, rfl, by simp only [i64, V], rfl⟩
def tA : Nat := 3
noncomputable def fAs1 : Oper := fAs.getD 0 default
theorem fAs_eq : fAs = #[{ dst := some 11, op := Op.assign (Operand.tmp 39), type := fAs1.type, pos := fAs1.pos, after := fAs1.after, guard := none }] := by kernel_rfl
theorem range_in {L : List Tok} {kd : Int} {s0 : PSt} {l : List Int} (hf : s0.fit) (hk : kd = 5 ∨ kd = 6) (hl : l.length < 1000) (hl2 : ∀ x ∈ l, tkOk L x) {w : World} {ps : List Pos} (hc : CfgOk (E0 B) w (bsP L kd s0) ps) {a : Act} (hn : a.tmps.size = 47)
    (hv : VL (psRho ps) vsE (slotVs a slF)) {Bn Bo bk off cap : Nat} {ad : Option Addr} (hb : Back w (a.tmps.getD 37 undef) 189 l Bn Bo bk off cap ad) (o1 : Off (bsP L kd s0) ps Bn) (o2 : Off (bsP L kd s0) ps bk) {Q : Exit → Act → World → Prop}
    (hQ : ∀ D W ps', w.heap.size ≤ D → W.heap[D]? = some (.deferred (some [])) → CfgOk (E0 B) W (bsP L kd (foldS L kd s0 (plc l (dn l.length)))) ps' → Mv w (bsP L kd s0) ps W (bsP L kd (foldS L kd s0 (plc l (dn l.length)))) ps' → (∀ j, j < 4 → ps'[j]? = ps[j]?) →
      Q .normal { a with defers := { target := .collected D, args := #[] } :: a.defers } W) : fRange.wpIn Fence.wide 4 Tryz.prog Q a w := by
  have hng : (E0 B).ng ≤ w.heap.size := hc.g.size
  refine wpIn_rangeFunc_ownF (F := Fence.wide) (n := 4) (α := Fin l.length) rfl (by omega) (gf := 189) (lb := #[.pointer (some ⟨Bn, Bo, none⟩)]) hb.fn trivial (enters_of Tryz.func189 (by kernel_rfl) rfl)
    (bk_stops Fence.wide 3 trivial rfl (by omega) Bn Bo ad bk off cap l (by omega) w hb.lb hb.box ⟨hb.sl, hb.el⟩) KpS.t
    (fun W d o o' hd _ _ _ => ⟨World.putObj_heap_other (by have := hb.lb; omega), World.putObj_heap_other (by have := hb.lk; omega)⟩) (RowKit.Below.refl _ _) (fun _ => rfl)
    (InvR B L kd s0 l w ps) (fun _ _ _ => False) (invR_own hng) (fun _ _ _ _ _ h => h.elim) ⟨ps, hc, ?start, fun _ _ => rfl⟩
    (fun x => { tmps := slots3 a.tmps (.int .i64 (x.val : Int)) (.int .i64 l[x]), defers := [] }) ?assign ?body ?done (fun _ _ _ _ _ _ h _ => h.elim)
  case start => exact ⟨Stp.refl _ _, fun k x p h1 h2 h3 => .inr ⟨k, x, p, h1, h2, h3, rfl⟩⟩
  case assign =>
    intro y x W K hK
    rw [fAs_eq]
    gi_wp2
    exact hK
  case body =>
    rintro y pre x W ⟨ps1, h1, h2, h3⟩ hlen
    have hx : tkOk L l[x] := hl2 _ (List.getElem_mem _)
    have hround := round_st (B := B) (fold_fit L kd (plc l pre) hf) hk hx
    refine wpIn_mono (round_in (l := y) (n := 4 - 1 - 1) hround h1 (a := { tmps := slots3 a.tmps (.int .i64 (x.val : Int)) (.int .i64 l[x]), defers := [] }) (by simp [slots3, hn]) (vl_R hn h3 hv)) ?_
    rintro e a' W' ⟨rfl, ps2, g1, g2, g3⟩
    refine ⟨keeps_others h1 g2, ⟨?_, ?_⟩, invR_step h2 h3 g1 g2 g3⟩
    · exact (o1.mv hb.lb h2).same (Nat.lt_of_lt_of_le hb.lb h2.stp.ext.size) g2
    · exact (o2.mv hb.lk h2).same (Nat.lt_of_lt_of_le hb.lk h2.stp.ext.size) g2
  case done =>
    rintro D xs W hD rfl ⟨ps1, h1, h2, h3⟩ hK
    exact hQ D W ps1 hD hK h1 h2 h3
end Go.Proofs.YtdckpbeioemopabGreatDoor
namespace Go.Proofs.YtdckpbeioemopabGreatDoor
open Go.Am Go Go.Shelf
set_option maxRecDepth 100000
variable {B : Nat → Option Obj}
theorem fLoops (c : Code) (hc : c = fC) : LoopsOk (E0 B) (LF B) c := by
  subst hc
  refine loopL_fits (fun x hx => ?_) noL_ok
  simp only [List.mem_singleton] at hx; subst hx
  exact ⟨bSg, by kernel_rfl, rfl, loopSg⟩
theorem pers_0 (L : List Tok) (s at' : Int) : pers [.ptr 0 0 0, i64 s] [pB 1 at' 0, tkb L] = [0] := by kernel_rfl
theorem vl_E {ps ps' : List Pos} {a : Act} {ds : List Deferred} (hp : ∀ j, j < 4 → ps'[j]? = ps[j]?) (hv : VL (psRho ps) vsE (slotVs a slF)) : VL (psRho ps') vsE (slotVs { tmps := a.tmps, defers := ds } (slF ++ [])) := by
  have e0 := hp 0 (by omega)
  have e1 := hp 1 (by omega)
  have e2 := hp 2 (by omega)
  have e3 := hp 3 (by omega)
  simp only [vsE, slF, slotVs, List.map_cons, List.map_nil, VL, V, psRho, List.cons.injEq] at hv
  simp only [vsE, slF, slotVs, List.append_nil, List.map_cons, List.map_nil, VL, V, psRho, List.cons.injEq]
  rw [e0, e1, e2, e3]
  exact hv
theorem front_calls {k : Nat} (hT : TbOk B (lib11 k)) {s at' : Int} {L : List Tok} {kd : Int} {x : PR} {l : List Int} (hpre : (preF B k s at' L).sel = some (fO L kd x, l)) (hf : (⟨prAt L x, prEr x, prNd x⟩ : PSt).fit) (hk : kd = 5 ∨ kd = 6) (hl : l.length < 1000) (hl2 : ∀ x ∈ l, tkOk L x)
    {w : World} {cargs : List Value} {ps : List Pos} (hc : CfgOk (E0 B) w [pB 1 at' 0, tkb L] ps) (hv : VL (psRho ps) [.ptr 0 0 0, i64 s] cargs) {st : PSt} (hst : st = foldS L kd ⟨prAt L x, prEr x, prNd x⟩ (plc l (dn l.length))) {out : Out} (ho : pOut L st.at' st.e st.X = some out) :
    Calls Tryz.prog 132 cargs.toArray w fun e w' => ∃ cv ps', e = .returned cv ∧ CfgOk (E0 B) w' out.blks ps' ∧ V (psRho ps') (oneOrTup out.vals) cv ∧ Mv w [pB 1 at' 0, tkb L] ps w' out.blks ps' ∧ ∀ (j : Nat) k, (pers [.ptr 0 0 0, i64 s] [pB 1 at' 0, tkb L])[j]? = some k → ps'[j]? = ps[k]? := by
  refine (callsIn_wide (n := 4)).1 (callsIn_of_wp_marks (c := fC) Tryz.func132 (by kernel_rfl) trivial ?_)
  refine wpIn_wide.2 ?_
  rw [fC_eq]
  have hsat := start_sat hc (fn := Tryz.f132) hv (by show 2 ≤ 47; decide)
  have hP : ∀ k ∈ [0], ∃ y, [pB 1 at' 0, tkb L][k]? = some y ∧ y.own = true := fun k hk => by
    simp only [List.mem_singleton] at hk; subst hk; exact ⟨_, rfl, rfl⟩
  refine midT_ok (cxOk hT) (by intro h; have : fPcs.length = 7 := by kernel_rfl
                               rw [h] at this; cases this) (nest_loops fPcs (fLoops _ fC_eq.symm)) hc hsat rfl hP hpre fun a' w1 ps1 Bn Bo bk off cap ad c1 v1 m1 p1 hs hd hb o1 o2 => ?_
  rw [fBlk_eq]
  have hsz : a'.tmps.size = 47 := hs.trans (by
    have := hv.length
    simp [this])
  refine wp_block (wpIn_wide.1 (range_in hf hk hl hl2 c1 hsz v1 hb o1 o2 fun D W ps2 hD hK g1 g2 g3 => ?_))
  rw [← hst] at g1 g2
  show fTail.wp _ _ _ _
  have hP2 : ∀ k ∈ [0], ∃ y, (bsP L kd st)[k]? = some y ∧ y.own = true := fun k hk => by
    simp only [List.mem_singleton] at hk; subst hk; exact ⟨_, rfl, rfl⟩
  have hend := (end_is (B := B) L kd st.at' st.e st.X).trans ho
  have hv2 : VL (psRho ps2) vsE (slotVs { tmps := a'.tmps, defers := { target := .collected D, args := #[] } :: a'.defers } (slF ++ [])) := vl_E g3 v1
  refine endT_ok (cxOk lib9_ok) (noL_ok _) g1 (loop_sat (n := 47) (sg := ⟨slF, [], [], []⟩) (a := { tmps := a'.tmps, defers := { target := .collected D, args := #[] } :: a'.defers }) g1 hsz hv2) rfl hP2 hend fun a3 w3 ps3 k1 k2 k3 k4 k5 => ?_
  have hD3 : w3.heap[D]? = some (.deferred (some [])) := (keeps_others g1 k3).same D _ hK rfl
  have hd3 : a3.defers = [{ target := .collected D, args := #[] }] := k5.d.trans (by show _ :: a'.defers = _; rw [hd])
  show LeavesInM _ _ _ _ _ _ a3.defers .returning w3
  rw [hd3]
  have hng : (E0 B).ng ≤ w.heap.size := hc.g.size
  have hDw : w.heap.size ≤ D := Nat.le_trans m1.stp.ext.size hD
  have hrow : ∀ r, some D = some r → (E0 B).ng ≤ r ∧ ∃ o : Obj, w3.heap[r]? = some o ∧ o.isCells = false := fun r e => by cases e; exact ⟨by omega, _, hD3, rfl⟩
  have hgr := grownBy_putObj' w3 D (.deferred none)
  have hm := (m1.trans g2).trans k3
  refine ⟨by simp, .inl ⟨D, _, rfl, run_takeDeferred hD3, ⟨_, results_tmp rfl _ _ _, ?_⟩⟩⟩
  refine ⟨_, ps3, rfl, cfg_grown k1 hgr hrow, ?_, mv_grown hm hgr (fun r e => by cases e; exact hDw), ?_⟩
  · unfold pOut at ho
    cases ho
    simp only [slotVs, List.map_cons, List.map_nil, VL] at k2
    obtain ⟨_, _, h1, h2, _⟩ := k2
    injection h1 with h1 _
    subst h1
    exact h2
  · rw [pers_0]
    intro j k hj
    have hj0 : j = 0 := by
      have := (List.getElem?_eq_some_iff.1 hj).1
      simp at this; exact this
    subst hj0
    cases hj
    rw [k4 0 0 rfl, g3 0 (by omega), p1 0 0 0 rfl rfl]
end Go.Proofs.YtdckpbeioemopabGreatDoor
namespace Go.Proofs.YtdckpbeioemopabGreatDoor
open Go.Am
def goodR : PR → Prop
  | .ok e _ => e.ok = true ∧ e.size ≤ 60 ∧ e.depth ≤ 20
  | .bad err _ => err ≠ 0
  | .out => False
def stOf (L : List Tok) (x : PR) : PSt := ⟨prAt L x, prEr x, prNd x⟩
theorem tkP_is {L : List Tok} {a : Nat} {t : Tok} {q : List Tok} (h : L.drop a = t :: q) : tkP L (a : Int) = t.pos ∧ a < L.length ∧ L.length = a + (q.length + 1) ∧ t ∈ L := by
  have hlt : a < L.length := by
    rcases Nat.lt_or_ge a L.length with h1 | h1
    · exact h1
    · rw [List.drop_eq_nil_of_le h1] at h; cases h
  have hl := congrArg List.length h
  rw [List.length_drop, List.length_cons] at hl
  have ht : L[a] = t := by
    rw [List.drop_eq_getElem_cons hlt] at h
    injection h with h1 h2
  refine ⟨?_, hlt, by omega, ht ▸ List.getElem_mem hlt⟩
  unfold tkP
  rw [Int.toNat_natCast, List.getD_eq_getElem?_getD, List.getElem?_eq_getElem hlt, ← ht]; rfl
theorem node1_good {e : Ex} (h : e.ok = true) (n : Nat) (r : List Tok) : goodR (node1 e n r) := by
  unfold node1
  by_cases h1 : 60 < e.size
  · rw [decide_eq_true h1]; simp [goodR]
  · rw [decide_eq_false h1, cond_false]
    by_cases h2 : 20 < e.depth
    · rw [decide_eq_true h2]; simp [goodR]
    · rw [decide_eq_false h2]; exact ⟨h, by omega, by omega⟩
theorem step_node {L : List Tok} {kd : Int} (hk : kd = 5 ∨ kd = 6) {a : Nat} {t : Tok} {q : List Tok} (h : L.drop a = t :: q) (ht : L.all okTk = true) {y : PR} (hy : goodR y) :
    stepA L kd (stOf L y) a = stOf L (y.then fun e r => node1 (.un kd t.pos e) (q.length + 1) r) ∧ goodR (y.then fun e r => node1 (.un kd t.pos e) (q.length + 1) r) := by
  obtain ⟨h1, h2, h3, h4⟩ := tkP_is h
  have hp := of_decide_eq_true (List.all_eq_true.1 ht t h4)
  cases y with
  | out => exact hy.elim
  | bad err n =>
    have hy : err ≠ 0 := hy
    refine ⟨?_, hy⟩
    simp [PR.then, stOf, stepA, prEr, prNd, prAt, mkA, mkE, mkX, hy]
  | ok e r =>
    obtain ⟨he, _, _⟩ := hy
    have hok : (Ex.un kd t.pos e).ok = true := by
      simp only [Ex.ok, Bool.and_eq_true, he, and_true, decide_eq_true_eq]
      omega
    refine ⟨?_, node1_good hok _ _⟩
    have hc := chkN_flat hok
    simp only [PR.then, stOf, stepA, prEr, prNd, prAt, mkA, mkE, mkX, h1, unL_is, hc]
    unfold node1
    by_cases h5 : 60 < (Ex.un kd t.pos e).size
    · simp only [decide_eq_true h5, cond_true]
      simp [h3]
    · simp only [decide_eq_false h5, cond_false]
      by_cases h6 : 20 < (Ex.un kd t.pos e).depth
      · simp only [decide_eq_true h6, cond_true]
        simp [h3]
      · simp only [decide_eq_false h6, cond_false]
        simp
theorem fold_un {L : List Tok} {kd : Int} (hk : kd = 5 ∨ kd = 6) (ht : L.all okTk = true) {x : PR} (hx : goodR x) : ∀ (n a : Nat) (r : List Tok), L.drop a = r → n ≤ r.length →
    foldS L kd (stOf L x) (upto a n).reverse = stOf L (unW kd n r x) ∧ goodR (unW kd n r x)
  | 0, _, _, _, _ => ⟨rfl, hx⟩
  | n + 1, a, [], h, hn => by simp at hn
  | n + 1, a, t :: q, h, hn => by
    obtain ⟨h1, h2⟩ := fold_un hk ht hx n (a + 1) q (drop_tail h) (by simpa using hn)
    rw [upto, List.reverse_cons, fold_snoc, h1]
    exact step_node hk h ht h2
theorem plc_dn (l : List Int) : plc l (dn l.length) = l.reverse := by
  unfold plc dn
  rw [List.map_reverse]
  congr 1
  apply List.ext_getElem
  · simp
  · intro i h1 h2
    simp
theorem upto_ok {L : List Tok} (ht : L.all okTk = true) : ∀ (n a : Nat) (r : List Tok), L.drop a = r → n ≤ r.length → ∀ x ∈ upto a n, tkOk L x
  | 0, _, _, _, _, _, h => by cases h
  | n + 1, a, [], h, hn, _, _ => by simp at hn
  | n + 1, a, t :: q, h, hn, x, hx => by
    rw [upto] at hx
    rcases List.mem_cons.1 hx with rfl | hx
    · obtain ⟨h1, h2, _, h4⟩ := tkP_is h
      have hp := of_decide_eq_true (List.all_eq_true.1 ht t h4)
      exact ⟨by omega, by omega, by rw [h1]; exact hp.1, by rw [h1]; exact hp.2.1⟩
    · exact upto_ok ht n (a + 1) q (drop_tail h) (by simpa using hn) x hx
theorem upto_len : ∀ (n a : Nat), (upto a n).length = n
  | 0, _ => rfl
  | n + 1, a => by rw [upto, List.length_cons, upto_len n]
theorem sgnN_le (s : List UInt8) : ∀ r : List Tok, sgnN s r ≤ r.length
  | [] => Nat.le_refl _
  | t :: q => by
    unfold sgnN
    have := sgnN_le s q
    cases t.is s <;> simp <;> omega
theorem good_fit {L : List Tok} {x : PR} (h : goodR x) : (stOf L x).fit := by
  intro h0
  cases x with
  | ok e r =>
    obtain ⟨h1, h2, h3⟩ := h
    show chkN (e.flat 0) = 0
    rw [chkN_flat h1, decide_eq_false (by omega), cond_false, decide_eq_false (by omega)]; rfl
  | bad e n => exact (h h0).elim
  | out => exact h.elim
end Go.Proofs.YtdckpbeioemopabGreatDoor
namespace Go.Proofs.YtdckpbeioemopabGreatDoor
open Go.Am
set_option maxRecDepth 100000
variable {B : Nat → Option Obj}
theorem rdF_nn : ∀ (l : List UInt8) (acc n : Int), l.all isDig = true → 0 ≤ acc → rdF acc l = some n → 0 ≤ n
  | [], acc, n, _, h, hr => by unfold rdF at hr; cases hr; exact h
  | c :: r, acc, n, hd, h, hr => by
    rw [List.all_cons, Bool.and_eq_true] at hd
    unfold rdF at hr
    have := dg_rng hd.1
    cases hc : decide ((most - dg c).tdiv 10 < acc) <;> rw [hc] at hr
    · exact rdF_nn r _ n hd.2 (by omega) hr
    · cases hr
theorem rdN_nn (s : List UInt8) : 0 ≤ rdN s := by
  unfold rdN
  cases h : decide (s = []) || !s.all isDig with
  | true => exact Int.le_refl 0
  | false =>
    rw [cond_false]
    simp only [Bool.or_eq_false_iff, Bool.not_eq_false'] at h
    cases hr : rdF 0 s with
    | none => exact Int.le_refl 0
    | some n => exact rdF_nn s 0 n h.2 (Int.le_refl 0) hr
theorem snd_good {lv : Lv} {e : Ex} {r r' : List Tok} (h : Snd lv e r r') (ht : r.all okTk = true) : goodR (.ok e r') := by
  obtain ⟨⟨p, rfl, hg⟩, h2, h3⟩ := h
  refine ⟨gr_ok rdN_nn hg fun t htp => ?_, h2, h3⟩
  have := of_decide_eq_true (List.all_eq_true.1 ht t (List.mem_append_left _ htp))
  exact ⟨this.1, this.2.1⟩
theorem pE_good {k s : Nat} {r : List Tok} (ht : r.all okTk = true) (h1 : 1 ≤ s) (h6 : s ≤ 6) (hn : prIn (pE k s r) = true) : goodR (pE k s r) := by
  cases h : pE k s r with
  | ok e r' => exact snd_good (pE_sound k s r e r' h h1 h6) ht
  | bad e n => exact pE_err k s r e n h
  | out => rw [h] at hn; cases hn
theorem prim_good {k : Nat} {r : List Tok} (ht : r.all okTk = true) (hn : prIn (pPrim (pE k) r) = true) : goodR (pPrim (pE k) r) := by
  cases h : pPrim (pE k) r with
  | ok e r' => exact snd_good (prim_sound (fun s r e r' => pE_sound k s r e r') h) ht
  | bad e n => exact prim_err (pE_err k) h
  | out => rw [h] at hn; cases hn
theorem all_drop {L : List Tok} (ht : L.all okTk = true) (n : Nat) : (L.drop n).all okTk = true := List.all_eq_true.2 fun t h => List.all_eq_true.1 ht t (List.mem_of_mem_drop h)
def sFront (k : Nat) : FSpec
  | [.ptr 0 0 0, .int .i64 s], [⟨true, .gen [a, b, c] [[.slw 1, .int .i64 at', .int .i64 0]]⟩, ⟨false, .toks L⟩] => .node (tysB a b c && (decide (s = 2 ∨ s = 6) && okP at' L)) (prT L (pFront (pE k) s.toNat (L.drop at'.toNat))) .bad
  | _, _ => .bad
theorem unW_in' {kd : Int} : ∀ (n : Nat) (r : List Tok) (x : PR), prIn (unW kd n r x) = true → prIn x = true
  | 0, _, _, h => h
  | _ + 1, [], _, h => h
  | n + 1, _ :: q, x, h => by
    refine unW_in' (kd := kd) n q x ?_
    show prIn (unW kd n q x) = true
    cases hy : unW kd n q x with
    | out => have h : prIn ((unW kd n q x).then _) = true := h
             rw [hy] at h; cases h
    | ok => rfl
    | bad => rfl
theorem pT_sel {L : List Tok} {y : PR} {r : Out} (h : (prT L y).sel = some r) : prIn y = true ∧ pOut L (prAt L y) (prEr y) (prNd y) = some r := by
  unfold prT at h
  rcases T.node_sel h with ⟨hc, h2⟩ | ⟨_, h2⟩
  · exact ⟨hc, h2⟩
  · simp [T.sel] at h2
theorem okFront (k : Nat) (hT : TbOk B (lib11 k)) : FnOk (E0 B) 132 (sFront k) := by
  refine ⟨fnAt_mk Tryz.func132 (by kernel_rfl) (by kernel_rfl), fun vs bs out hsel w cargs ps hc hv => ?_⟩
  unfold sFront at hsel
  split at hsel
  · rename_i s a b c at' L
    rcases T.node_sel hsel with ⟨hg, h2⟩ | ⟨_, h2⟩
    · simp only [Bool.and_eq_true] at hg
      obtain ⟨h1, hs, hp⟩ := hg
      obtain ⟨rfl, rfl, rfl⟩ := tysB_is h1
      unfold okP at hp
      rw [Bool.and_eq_true] at hp
      obtain ⟨hp, ht⟩ := hp
      obtain ⟨p1, p2, p3⟩ := of_decide_eq_true hp
      obtain ⟨a, rfl⟩ : ∃ a : Nat, at' = a := ⟨at'.toNat, by omega⟩
      obtain ⟨hy, ho⟩ := pT_sel h2
      rw [Int.toNat_natCast] at hy ho
      have hsg : ∀ sg, frN sg (a : Int) L = sgnN sg (L.drop a) := fun sg => by unfold frN; rw [Int.toNat_natCast]
      have hle : ∀ sg, sgnN sg (L.drop a) ≤ (L.drop a).length := fun sg => sgnN_le sg _
      have hlen : (L.drop a).length = L.length - a := List.length_drop
      have hok : okSg 51 3 31 109 (a : Int) L = true := by
        unfold okSg tysB
        simp only [Nat.beq_refl, Bool.true_and]
        exact decide_eq_true ⟨p1, by omega⟩
      have hoP : ∀ sg, okP ((a : Int) + (sgnN sg (L.drop a) : Nat)) L = true := fun sg => by
        unfold okP
        rw [Bool.and_eq_true]
        have := hle sg
        exact ⟨decide_eq_true ⟨by omega, by omega, p3⟩, ht⟩
      have hdr : ∀ sg, L.drop ((a : Int) + (sgnN sg (L.drop a) : Nat)).toNat = (L.drop a).drop (sgnN sg (L.drop a)) := fun sg => by
        rw [List.drop_drop]; congr 1
      have key : ∀ (kd : Int) (sg : List UInt8) (x : PR), kd = 5 ∨ kd = 6 → goodR x → (preF B k s a L).sel = some (fO L kd x, upto a (sgnN sg (L.drop a))) → pFront (pE k) s.toNat (L.drop a) = unW kd (sgnN sg (L.drop a)) (L.drop a) x →
          Calls Tryz.prog 132 cargs.toArray w fun e w' => ∃ cv ps', e = .returned cv ∧ CfgOk (E0 B) w' out.blks ps' ∧ V (psRho ps') (oneOrTup out.vals) cv ∧ Mv w [pB 1 a 0, tkb L] ps w' out.blks ps' ∧ ∀ (j : Nat) k, (pers [.ptr 0 0 0, i64 s] [pB 1 a 0, tkb L])[j]? = some k → ps'[j]? = ps[k]? := by
        intro kd sg x hk hx hpre hpf
        have hf := fold_un hk ht hx (sgnN sg (L.drop a)) a (L.drop a) rfl (hle sg)
        refine front_calls hT hpre (good_fit (L := L) hx) hk (by rw [upto_len]; have := hle sg; omega) (upto_ok ht _ a _ rfl (hle sg)) hc hv (st := stOf L (pFront (pE k) s.toNat (L.drop a))) ?_ ho
        rw [plc_dn]
        exact ((congrArg (stOf L) hpf).trans hf.1.symm)
      rcases of_decide_eq_true hs with rfl | rfl
      · have hx : prIn (pE k 3 ((L.drop a).drop (sgnN notT (L.drop a)))) = true := unW_in' _ _ _ (show prIn (unW 6 (sgnN notT (L.drop a)) (L.drop a) (pE k 3 ((L.drop a).drop (sgnN notT (L.drop a))))) = true from hy)
        refine key 6 notT _ (.inr rfl) (pE_good (all_drop (all_drop ht _) _) (by omega) (by omega) hx) ((preF_is k 2 a L).trans ?_) rfl
        rw [hsg, hok, hoP, hdr]
        unfold frP
        rw [hx]; rfl
      · have hx : prIn (pPrim (pE k) ((L.drop a).drop (sgnN [45] (L.drop a)))) = true := unW_in' _ _ _ (show prIn (unW 5 (sgnN [45] (L.drop a)) (L.drop a) (pPrim (pE k) ((L.drop a).drop (sgnN [45] (L.drop a))))) = true from hy)
        refine key 5 [45] _ (.inl rfl) (prim_good (all_drop (all_drop ht _) _) hx) ((preF_is k 6 a L).trans ?_) rfl
        rw [hsg, hok, hsg, hoP, hoP, hdr, hdr]
        unfold frP
        rw [hx]; rfl
    · simp [T.sel] at h2
  · simp [T.sel] at hsel
end Go.Proofs.YtdckpbeioemopabGreatDoor
