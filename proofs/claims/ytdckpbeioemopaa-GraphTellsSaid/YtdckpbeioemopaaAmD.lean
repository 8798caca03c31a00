/-
  Texts put together: AmWalk, AmFoc, AmFam, AmFam2, MapOwn, MapWalk.
-/
import Derived.Test.YtdckpbeioemopaaLibA
import Derived.Maps.RangeWalk
import Derived.Maps.OwnOps
import Derived.WalkKit
import Derived.RangeFuncOwn
namespace Go.Am
section
variable {E : Env} {C : CallR} {L : LoopR}
structure Hr (E : Env) (n : Nat) (sl : List (Nat × TypeId)) (vs : List AV) (bs : List Blk) (w0 : World) (bs0 : List Blk) (ps0 : List Pos) (a : Act) (w : World) : Prop where
  size : a.tmps.size = n
  d : a.defers = []
  ex : ∃ ps, CfgOk E w bs ps ∧ VL (psRho ps) vs (slotVs a sl) ∧ Mv w0 bs0 ps0 w bs ps
variable {n : Nat} {sl : List (Nat × TypeId)} {vs : List AV} {bs bs0 : List Blk} {ps0 : List Pos} {a a' : Act} {w w' w0 : World}
theorem Mv.refl (w : World) (bs : List Blk) (ps : List Pos) : Mv w bs ps w bs ps := ⟨Stp.refl _ _, fun k x p hk hp hl => .inr ⟨k, x, p, hk, hp, hl, rfl⟩⟩
theorem Hr.run (hC : CG E C) {c : Code} (hL : LoopsOk E L c) {mo : List (Nat × TypeId)} {tk : List Nat} {o : Out} (H : Hr E n sl vs bs w0 bs0 ps0 a w)
    (h : (turn E C L n ⟨[], sl, mo, tk⟩ c vs bs).sel = some (.normal, o)) {Q : Exit → Act → World → Prop}
    (hQ : ∀ a' w', Hr E n sl o.vals o.blks w0 bs0 ps0 a' w' → Keeps (writes c) a a' → KeepsOthers w w' → Q .normal a' w') : c.wp E.P Q a w := by
  obtain ⟨hs, hd, ps, hc, hv, hm⟩ := H
  refine turn_ok hC hL h a w ps hs hc hv Q fun a' w' ps' g1 g2 g3 g4 g5 g6 => hQ a' w' ⟨g1, g6.d.trans hd, ps', g2, g3, hm.trans g4⟩ g6 (keeps_others hc g4)
theorem Hr.out (hC : CG E C) {c : Code} (hL : LoopsOk E L c) {mo : List (Nat × TypeId)} {tk : List Nat} {o : Out} {e : AExit} (H : Hr E n sl vs bs w0 bs0 ps0 a w)
    (h : (turn E C L n ⟨[], sl, mo, tk⟩ c vs bs).sel = some (e, o)) (he : e ≠ .normal) {Q : Exit → Act → World → Prop}
    (hQ : ∀ a' w', Hr E n mo o.vals o.blks w0 bs0 ps0 a' w' → Keeps (writes c) a a' → KeepsOthers w w' → Q (toExit e) a' w') : c.wp E.P Q a w := by
  obtain ⟨hs, hd, ps, hc, hv, hm⟩ := H
  refine turn_ok hC hL h a w ps hs hc hv Q fun a' w' ps' g1 g2 g3 g4 g5 g6 => hQ a' w' ⟨g1, g6.d.trans hd, ps', g2, ?_, hm.trans g4⟩ g6 (keeps_others hc g4)
  cases e <;> first | exact g3 | exact (he rfl).elim
def pickV (vs : List AV) : List ((Nat × TypeId) × Option Nat) → List AV
  | [] => []
  | x :: r => (match x.2 with | some j => vs.getD j .any | none => .any) :: pickV vs r
def pickOk (sl : List (Nat × TypeId)) (l : List ((Nat × TypeId) × Option Nat)) : Bool := l.all fun x => match x.2 with | some j => (match sl[j]? with | some s => Nat.beq s.1 x.1.1 | none => false) | none => true
theorem Hr.pick (H : Hr E n sl vs bs w0 bs0 ps0 a w) (l : List ((Nat × TypeId) × Option Nat)) (hl : pickOk sl l = true) : Hr E n (l.map (·.1)) (pickV vs l) bs w0 bs0 ps0 a w := by
  obtain ⟨hs, hd, ps, hc, hv, hm⟩ := H
  refine ⟨hs, hd, ps, hc, ?_, hm⟩
  clear hm hc hs hd
  induction l with
  | nil => simp [pickV, slotVs, VL]
  | cons x r ih =>
    unfold pickOk at hl
    rw [List.all_cons, Bool.and_eq_true] at hl
    simp only [pickV, List.map_cons, slotVs, VL]
    refine ⟨_, _, rfl, ?_, ih hl.2⟩
    obtain ⟨s, oj⟩ := x
    cases oj with
    | none => simp [V]
    | some j =>
      have h1 := hl.1
      simp only at h1 ⊢
      cases hj : sl[j]? with
      | none => rw [hj] at h1; cases h1
      | some u =>
        rw [hj] at h1
        have h1 := Nat.eq_of_beq_eq_true h1
        have hlen := hv.length
        have hjl : j < vs.length := by
          have := (List.getElem?_eq_some_iff.1 hj).1
          simp [slotVs] at hlen; omega
        obtain ⟨v, hv1, hv2⟩ := hv.get (i := j) (a := vs.getD j .any) (by simp [List.getD, hjl])
        have : v = a.tmps.getD s.1 undef := by
          simp only [slotVs, List.getElem?_map, hj, Option.map_some, Option.some.injEq] at hv1
          rw [← hv1, h1]
        rw [← this]; exact hv2
theorem Hr.step (H : Hr E n sl vs bs w0 bs0 ps0 a w) {row : Option Nat} (hg : w.grownBy w' row) (hr : ∀ r, row = some r → E.ng ≤ r ∧ w0.heap.size ≤ r ∧ ∃ o : Obj, w.heap[r]? = some o ∧ o.isCells = false)
    (hs : a'.tmps.size = a.tmps.size) (hd : a'.defers = a.defers) (hv : ∀ s ∈ sl, a'.tmps.getD s.1 undef = a.tmps.getD s.1 undef) : Hr E n sl vs bs w0 bs0 ps0 a' w' := by
  obtain ⟨hs0, hd0, ps, hc, hv0, hm⟩ := H
  refine ⟨hs.trans hs0, hd.trans hd0, ps, cfg_grown hc hg fun r e => ⟨(hr r e).1, (hr r e).2.2⟩, ?_, mv_grown hm hg fun r e => (hr r e).2.1⟩
  have : slotVs a' sl = slotVs a sl := List.map_congr_left fun s hs => hv s hs
  rw [this]; exact hv0
theorem Hr.slots (H : Hr E n sl vs bs w0 bs0 ps0 a w) (hs : a'.tmps.size = a.tmps.size) (hd : a'.defers = a.defers) (hv : ∀ s ∈ sl, a'.tmps.getD s.1 undef = a.tmps.getD s.1 undef) : Hr E n sl vs bs w0 bs0 ps0 a' w := by
  obtain ⟨hs0, hd0, ps, hc, hv0, hm⟩ := H
  refine ⟨hs.trans hs0, hd.trans hd0, ps, hc, ?_, hm⟩
  have : slotVs a' sl = slotVs a sl := List.map_congr_left fun s hs => hv s hs
  rw [this]; exact hv0
theorem Hr.val (H : Hr E n sl vs bs w0 bs0 ps0 a w) {k s : Nat} {t : TypeId} {v : AV} (hs : sl[k]? = some (s, t)) (hv : vs[k]? = some v) : ∃ ρ, V ρ v (a.tmps.getD s undef) := by
  obtain ⟨_, _, ps, _, h, _⟩ := H
  obtain ⟨u, h1, h2⟩ := h.get hv
  simp only [slotVs, List.getElem?_map, hs, Option.map_some, Option.some.injEq] at h1
  exact ⟨_, h1 ▸ h2⟩
theorem Hr.int (H : Hr E n sl vs bs w0 bs0 ps0 a w) {k s : Nat} {t : TypeId} {q : IntKind} {i : Int} (hs : sl[k]? = some (s, t)) (hv : vs[k]? = some (.int q i)) : a.tmps.getD s undef = .int q i := by
  obtain ⟨ρ, h⟩ := H.val hs hv
  simpa only [V] using h
theorem Hr.bool (H : Hr E n sl vs bs w0 bs0 ps0 a w) {k s : Nat} {t : TypeId} {b : Bool} (hs : sl[k]? = some (s, t)) (hv : vs[k]? = some (.bool b)) : a.tmps.getD s undef = .bool b := by
  obtain ⟨ρ, h⟩ := H.val hs hv
  simpa only [V] using h
theorem Hr.start {ps : List Pos} (hc : CfgOk E w bs ps) {fn : Func} {cargs : List Value} (hv : VL (psRho ps) vs cargs) (hn : fn.ntmps = n) (hle : cargs.length ≤ n) (hsl : sl.map (·.1) = List.range cargs.length) :
    Hr E n sl vs bs w bs ps { tmps := cargs.toArray ++ Array.replicate (fn.ntmps - cargs.toArray.size) undef, defers := [] } w := by
  refine ⟨by simp [hn]; omega, rfl, ps, hc, ?_, Mv.refl _ _ _⟩
  have : slotVs { tmps := cargs.toArray ++ Array.replicate (fn.ntmps - cargs.toArray.size) undef, defers := [] } sl = cargs := by
    have e : slotVs { tmps := cargs.toArray ++ Array.replicate (fn.ntmps - cargs.toArray.size) undef, defers := [] } sl = (sl.map (·.1)).map fun i => (cargs.toArray ++ Array.replicate (fn.ntmps - cargs.toArray.size) undef).getD i undef := by simp [slotVs, Function.comp_def]
    rw [e, hsl]
    apply List.ext_getElem (by simp)
    intro i h1 h2
    simp at h1
    simp [Array.getD_eq_getD_getElem?, Array.getElem?_append, h1]
  rw [this]; exact hv
section
variable {P : Program} {Q : Exit → Act → World → Prop}
theorem upon_calm {o : Oper} {a : Act} {K K' R : Act → World → Prop} {r : Result Next} (hk : ∀ a w, K' a w → K a w) (h : o.upon P a K' (fun e a w => e = .normal ∧ R a w) r) : o.upon P a K Q r := by
  unfold Oper.upon at h ⊢
  split at h
  · exact hk _ _ h
  · exact hk _ _ h
  · exact hk _ _ h
  · refine h.mono fun e w' h' => ?_
    cases e with
    | returned v => exact hk _ _ h'
    | panicked c => exact absurd h'.1 (by simp)
    | outgrown =>
      obtain ⟨_, _, h1, _⟩ := h'
      cases h1
  · exact h.mono fun v w' h' => hk _ _ h'
  · exact absurd h.1 (by simp)
  · exact h.elim
theorem wpList_part {ops ops' : Array Oper} {R : Act → World → Prop} {rest : List Oper} (hR : ∀ a w, R a w → wpList P ops Q rest a w) : ∀ (l : List Oper), (∀ o ∈ l, o.guard = none) → ∀ a w, wpList P ops' (fun e a w => e = .normal ∧ R a w) l a w → wpList P ops Q (l ++ rest) a w
  | [], _, a, w, h => by
    unfold wpList at h
    exact hR a w h.2
  | o :: l, hg, a, w, h => by
    have hgo := hg o (List.mem_cons_self ..)
    refine wpList_plain hgo fun K hK => ?_
    have hw : ∀ y, Region.wanted o y = true := fun y => by simp [Region.wanted, hgo]
    unfold wpList at h
    rw [hw, if_pos rfl] at h
    rcases h with h | ⟨_, _, _, h, _⟩
    · exact upon_calm (fun a w h => hK a w (wpList_part hR l (fun o ho => hg o (List.mem_cons_of_mem _ ho)) a w h)) h
    · cases h
theorem Hr.seg (hC : CG E C) {ops : Array Oper} {l rest : List Oper} {mo : List (Nat × TypeId)} {tk : List Nat} {o : Out} (H : Hr E n sl vs bs w0 bs0 ps0 a w) (hg : l.all (fun o => o.guard.isNone) = true)
    (h : (rturn E C n ⟨[], sl, mo, tk⟩ l.toArray vs bs).sel = some o)
    (hQ : ∀ a' w', Hr E n sl o.vals o.blks w0 bs0 ps0 a' w' → Keeps (opsDst l.toArray (List.range l.toArray.size)) a a' → KeepsOthers w w' → wpList E.P ops Q rest a' w') : wpList E.P ops Q (l ++ rest) a w := by
  obtain ⟨hs, hd, ps, hc, hv, hm⟩ := H
  have h1 := rturn_ok hC h (by show 1 < 1000000; decide) hs hc hv (R := fun a' w' => Hr E n sl o.vals o.blks w0 bs0 ps0 a' w' ∧ Keeps (opsDst l.toArray (List.range l.toArray.size)) a a' ∧ KeepsOthers w w')
    fun a' w' ps' g2 g3 g4 g5 g6 => ⟨⟨g6.size.trans hs, g6.d.trans hd, ps', g2, g3, hm.trans g4⟩, g6, keeps_others hc g4⟩
  have h2 : wpList E.P l.toArray (fun e a' w' => e = .normal ∧ (Hr E n sl o.vals o.blks w0 bs0 ps0 a' w' ∧ Keeps (opsDst l.toArray (List.range l.toArray.size)) a a' ∧ KeepsOthers w w')) l a w := by
    rw [← wpOps_eq_wpList (ops := l.toArray) l 0 (by simp)]
    simp only [List.size_toArray] at h1 ⊢
    rw [List.range_eq_range'] at h1
    rw [List.range_eq_range']
    exact h1
  refine wpList_part (ops' := l.toArray) (fun a' w' h => hQ a' w' h.1 h.2.1 h.2.2) l (fun o ho => by
    have := List.all_eq_true.1 hg o ho
    simpa using this) a w h2
theorem wpList_move {ops : Array Oper} {o : Oper} {rest : List Oper} (hg : o.guard = none) (x : Operand) (hop : o.op = .move x) (hK : wpList P ops Q rest (a.put o.dst (a.eval x)) w) : wpList P ops Q (o :: rest) a w := by
  refine wpList_plain hg fun K hK' => ?_
  unfold Oper.wp
  simp [execOp, hop]
  exact hK' _ _ hK
theorem wpList_assign {ops : Array Oper} {o : Oper} {rest : List Oper} (hg : o.guard = none) (x : Operand) (hop : o.op = .assign x) (hK : wpList P ops Q rest (a.put o.dst (a.eval x)) w) : wpList P ops Q (o :: rest) a w := by
  refine wpList_plain hg fun K hK' => ?_
  unfold Oper.wp
  simp [execOp, hop]
  exact hK' _ _ hK
theorem wpList_extract {ops : Array Oper} {o : Oper} {rest : List Oper} (hg : o.guard = none) (x : Operand) (i : Nat) (hop : o.op = .extract x i) {us : Array Value} {u : Value} (hx : a.eval x = .tuple us) (hu : us[i]? = some u) (hK : wpList P ops Q rest (a.put o.dst u) w) : wpList P ops Q (o :: rest) a w := by
  refine wpList_plain hg fun K hK' => ?_
  unfold Oper.wp
  simp [execOp, hop, hx, Instr.extract, hu]
  exact hK' _ _ hK
end
theorem eval_tmp (a : Act) (i : Nat) : a.eval (.tmp i) = a.tmps.getD i undef := rfl
theorem put_at (a : Act) {d : Nat} (v : Value) (h : d < a.tmps.size) : (a.put (some d) v).tmps.getD d undef = v := by
  rw [getD_put]; simp [h]
theorem put_ne (a : Act) {d i : Nat} (v : Value) (h : i ≠ d) : (a.put (some d) v).tmps.getD i undef = a.tmps.getD i undef := by
  rw [getD_put]; simp [h]
theorem put_size (a : Act) (d : Option Nat) (v : Value) : (a.put d v).tmps.size = a.tmps.size := by cases d <;> simp [Act.put]
theorem put_defers (a : Act) (d : Option Nat) (v : Value) : (a.put d v).defers = a.defers := by cases d <;> rfl
def sA : Code → Code | .seq a _ => a | _ => .skip
def sB : Code → Code | .seq _ b => b | _ => .skip
def bK : Code → Code | .block _ a => a | _ => .skip
def lP : Code → Code | .loop a => a | _ => .skip
def cA : Code → Code | .cond _ a _ => a | _ => .skip
def cB : Code → Code | .cond _ _ a => a | _ => .skip
def opsOf : Code → List Oper | .region _ o _ => o.toList | _ => []
structure St (E : Env) (n : Nat) (sl : List (Nat × TypeId)) (vs : List AV) (bs : List Blk) (w0 : World) (bs0 : List Blk) (ps0 : List Pos) (fs : List (Nat × Value)) (W : World → Prop) (a : Act) (w : World) : Prop where
  h : Hr E n sl vs bs w0 bs0 ps0 a w
  f : ∀ s ∈ fs, a.tmps.getD s.1 undef = s.2
  w : W w
def Kp (W : World → Prop) : Prop := ∀ w w', KeepsOthers w w' → W w → W w'
def offS (fs : List (Nat × Value)) (l : List Nat) : Bool := fs.all fun s => !memb l s.1
theorem memb_not {l : List Nat} {k : Nat} (h : memb l k = false) : k ∉ l := fun hm => by
  unfold memb at h
  rw [List.any_eq_false] at h
  exact h k hm (Nat.beq_refl k)
variable {fs : List (Nat × Value)} {W : World → Prop}
theorem St.keep (f : ∀ s ∈ fs, a.tmps.getD s.1 undef = s.2) {D : List Nat} (hk : Keeps D a a') (ho : offS fs D = true) : ∀ s ∈ fs, a'.tmps.getD s.1 undef = s.2 := fun s hs => by
  have := List.all_eq_true.1 ho s hs
  rw [Bool.not_eq_true'] at this
  rw [hk.at' _ (memb_not this)]
  exact f s hs
theorem St.run (H : St E n sl vs bs w0 bs0 ps0 fs W a w) (hC : CG E C) {c : Code} (hL : LoopsOk E L c) (mo : List (Nat × TypeId)) (tk : List Nat) {o : Out}
    (h : (turn E C L n ⟨[], sl, mo, tk⟩ c vs bs).sel = some (.normal, o)) (hW : Kp W) (ho : offS fs (writes c) = true) {Q : Exit → Act → World → Prop}
    (hQ : ∀ a' w', St E n sl o.vals o.blks w0 bs0 ps0 fs W a' w' → Q .normal a' w') : c.wp E.P Q a w :=
  H.h.run hC hL h fun a' w' h1 h2 h3 => hQ a' w' ⟨h1, St.keep H.f h2 ho, hW _ _ h3 H.w⟩
theorem St.out (H : St E n sl vs bs w0 bs0 ps0 fs W a w) (hC : CG E C) {c : Code} (hL : LoopsOk E L c) (mo : List (Nat × TypeId)) (tk : List Nat) {o : Out} {e : AExit}
    (h : (turn E C L n ⟨[], sl, mo, tk⟩ c vs bs).sel = some (e, o)) (he : e ≠ .normal) (hW : Kp W) (ho : offS fs (writes c) = true) {Q : Exit → Act → World → Prop}
    (hQ : ∀ a' w', St E n mo o.vals o.blks w0 bs0 ps0 fs W a' w' → Q (toExit e) a' w') : c.wp E.P Q a w :=
  H.h.out hC hL h he fun a' w' h1 h2 h3 => hQ a' w' ⟨h1, St.keep H.f h2 ho, hW _ _ h3 H.w⟩
theorem St.seg (H : St E n sl vs bs w0 bs0 ps0 fs W a w) (hC : CG E C) {ops : Array Oper} {l rest : List Oper} (mo : List (Nat × TypeId)) (tk : List Nat) {o : Out} (hg : l.all (fun o => o.guard.isNone) = true)
    (h : (rturn E C n ⟨[], sl, mo, tk⟩ l.toArray vs bs).sel = some o) (hW : Kp W) (ho : offS fs (opsDst l.toArray (List.range l.toArray.size)) = true) {Q : Exit → Act → World → Prop}
    (hQ : ∀ a' w', St E n sl o.vals o.blks w0 bs0 ps0 fs W a' w' → wpList E.P ops Q rest a' w') : wpList E.P ops Q (l ++ rest) a w :=
  H.h.seg hC hg h fun a' w' h1 h2 h3 => hQ a' w' ⟨h1, St.keep H.f h2 ho, hW _ _ h3 H.w⟩
theorem St.pick (H : St E n sl vs bs w0 bs0 ps0 fs W a w) (l : List ((Nat × TypeId) × Option Nat)) (hl : pickOk sl l = true) : St E n (l.map (·.1)) (pickV vs l) bs w0 bs0 ps0 fs W a w := ⟨H.h.pick l hl, H.f, H.w⟩
theorem St.put (H : St E n sl vs bs w0 bs0 ps0 fs W a w) {d : Nat} (v : Value) (hd : sl.all (fun s => !Nat.beq s.1 d) = true) (hf : fs.all (fun s => !Nat.beq s.1 d) = true) (hn : d < n) : St E n sl vs bs w0 bs0 ps0 ((d, v) :: fs) W (a.put (some d) v) w := by
  have hne : ∀ {k : Nat}, (!Nat.beq k d) = true → k ≠ d := fun {k} h e => by rw [e, Nat.beq_refl] at h; cases h
  refine ⟨H.h.slots (put_size ..) (put_defers ..) fun s hs => put_ne _ _ (hne (List.all_eq_true.1 hd s hs)), fun s hs => ?_, H.w⟩
  rcases List.mem_cons.1 hs with rfl | hs
  · exact put_at _ _ (by rw [H.h.size]; exact hn)
  · rw [put_ne _ _ (hne (List.all_eq_true.1 hf s hs))]; exact H.f s hs
theorem St.turn (H : St E n sl vs bs w0 bs0 ps0 fs W a w) {W' : World → Prop} {row : Option Nat} (hg : w.grownBy w' row) (hr : ∀ r, row = some r → E.ng ≤ r ∧ w0.heap.size ≤ r ∧ ∃ o : Obj, w.heap[r]? = some o ∧ o.isCells = false) (hw : W' w') : St E n sl vs bs w0 bs0 ps0 fs W' a w' :=
  ⟨H.h.step hg hr rfl rfl fun _ _ => rfl, H.f, hw⟩
theorem St.weak (H : St E n sl vs bs w0 bs0 ps0 fs W a w) {fs' : List (Nat × Value)} {W' : World → Prop} (hf : ∀ s ∈ fs', s ∈ fs) (hw : W w → W' w) : St E n sl vs bs w0 bs0 ps0 fs' W' a w := ⟨H.h, fun s hs => H.f s (hf s hs), hw H.w⟩
theorem St.ev (H : St E n sl vs bs w0 bs0 ps0 fs W a w) {d : Nat} {v : Value} (h : (d, v) ∈ fs) : a.eval (.tmp d) = v := H.f (d, v) h
end
end Go.Am
namespace Go.Am
section
variable {E : Env} {C : CallR} {L : LoopR} {w w' : World} {bs : List Blk} {ps : List Pos}
theorem cfg_snoc (hc : CfgOk E w bs ps) {x : Blk} {p : Pos} (h1 : p.stride = x.dat.stride) (h2 : p.len = x.dat.len) (h3 : p.len ≤ p.cap) (h4 : p.cap ≤ maxLen) (hwf : x.dat.WF)
    (hcl : ∀ i, i < x.dat.len → ∀ j av, (x.dat.row i)[j]? = some av → ∃ c, w.cell? (p.addr i j) = some c ∧ V (psRho ps) av c)
    (ho : x.own = true → 0 < p.cap → ∃ cs e, w.heap[p.block]? = some (.cells cs e (0, 0)) ∧ p.off + p.cap * p.stride ≤ cs.size ∧ MarkOk x.dat p cs e) (hng : 0 < p.cap → E.ng ≤ p.block) (hoff : 0 < p.cap → ¬ liveB (psRho ps) (blkH bs) p.block) (hfew : bs.length < 1000) :
    CfgOk E w (bs ++ [x]) (ps ++ [p]) ∧ (∀ k, liveB (psRho (ps ++ [p])) (blkH (bs ++ [x])) k → liveB (psRho ps) (blkH bs) k ∨ (0 < p.cap ∧ k = p.block)) ∧ ∀ k, ownB (psRho (ps ++ [p])) (blkH (bs ++ [x])) k → ownB (psRho ps) (blkH bs) k ∨ (0 < p.cap ∧ k = p.block) := by
  have hid : psRho ps ps.length = none := by simp [psRho]
  have hadd := hc.sat.add hid p x h1 h2 h3 h4 hwf hcl ho (fun b y q hb hq hl hl2 e => by
    have h0 : 0 < p.cap := by
      rcases hl2 with h | h
      · exact h.2
      · omega
    exact hoff h0 ⟨b, y, q, hb, hq, by rcases hl with h | h; exact .inl h; exact .inr ⟨h.2.2.1, h.2.2.2⟩, e⟩)
  have hR : updF (psRho ps) ps.length (some p) = psRho (ps ++ [p]) := by
    funext k
    unfold psRho
    by_cases e : k = ps.length
    · subst e; rw [updF_same]; simp
    · rw [updF_other _ _ _ e]
      rcases Nat.lt_or_ge k ps.length with h | h
      · rw [List.getElem?_append_left h]
      · rw [List.getElem?_eq_none h, List.getElem?_eq_none (by simp; omega)]
  have hH : updF (blkH bs) ps.length (some x) = blkH (bs ++ [x]) := by
    funext k
    unfold blkH
    rw [hc.len]
    by_cases e : k = bs.length
    · subst e; rw [updF_same]; simp
    · rw [updF_other _ _ _ e]
      rcases Nat.lt_or_ge k bs.length with h | h
      · rw [List.getElem?_append_left h]
      · rw [List.getElem?_eq_none h, List.getElem?_eq_none (by simp; omega)]
  rw [hR, hH] at hadd
  obtain ⟨_, g2, g3, _⟩ := hadd
  refine ⟨⟨g2, ⟨hc.g.laid, hc.g.size, hc.g.base, fun k hk => ?_⟩, by simp [hc.len], by simp; omega⟩, fun k hk => ?_, fun k hk => (g3 k hk).imp id fun h => ⟨h.2.1, h.2.2⟩⟩
  · rcases g3 k hk with h | ⟨_, h, rfl⟩
    · exact hc.g.own k h
    · exact hng h
  · rw [← hR, ← hH] at hk
    rcases liveB_add hk with h | ⟨h, rfl⟩
    · exact .inl h
    · refine .inr ⟨?_, rfl⟩
      rcases h with h | h
      · exact h.2
      · omega
structure Nums (w : World) (p : Pos) (l : List Int) (v : Value) : Prop where
  stride : p.stride = 1
  len : p.len = l.length
  le : p.len ≤ p.cap
  max : p.cap ≤ maxLen
  rest : p.rest = none
  sl : SlV p 0 p.len v
  own : 0 < p.cap → ∃ cs e, w.heap[p.block]? = some (.cells cs e (0, 0)) ∧ p.off + p.cap ≤ cs.size
  cells : ∀ i, i < l.length → w.cell? (p.addr i 0) = some (.int .i64 (l.getD i 0))
theorem Nums.same {p : Pos} {l : List Int} {v : Value} (h : Nums w p l v) (hs : 0 < p.cap → w'.heap[p.block]? = w.heap[p.block]?) : Nums w' p l v := by
  refine ⟨h.stride, h.len, h.le, h.max, h.rest, h.sl, fun h0 => ?_, fun i hi => ?_⟩
  · rw [hs h0]; exact h.own h0
  · have h0 : 0 < p.cap := by have := h.le; have := h.len; omega
    rw [World.cell?_of_block (hs h0)]; exact h.cells i hi
theorem Nums.V {p : Pos} {l : List Int} {v : Value} (h : Nums w p l v) {ρ : Rho} {b : Nat} (hb : ρ b = some p) : V ρ (.slw b) v := by
  simp only [Am.V]
  exact ⟨p, hb, h.le, h.sl⟩
theorem Nums.lt {p : Pos} {l : List Int} {v : Value} (h : Nums w p l v) (h0 : 0 < p.cap) : p.block < w.heap.size := by
  obtain ⟨cs, e, h1, _⟩ := h.own h0
  exact heap_lt h1
theorem cfg_nums (hc : CfgOk E w bs ps) {p : Pos} {l : List Int} {v : Value} (h : Nums w p l v) (hng : 0 < p.cap → E.ng ≤ p.block) (hoff : 0 < p.cap → ¬ liveB (psRho ps) (blkH bs) p.block) (hfew : bs.length < 1000) :
    CfgOk E w (bs ++ [⟨true, .ints .i64 l⟩]) (ps ++ [p]) ∧ (∀ k, liveB (psRho (ps ++ [p])) (blkH (bs ++ [⟨true, .ints .i64 l⟩])) k → liveB (psRho ps) (blkH bs) k ∨ (0 < p.cap ∧ k = p.block)) ∧ ∀ k, ownB (psRho (ps ++ [p])) (blkH (bs ++ [⟨true, .ints .i64 l⟩])) k → ownB (psRho ps) (blkH bs) k ∨ (0 < p.cap ∧ k = p.block) := by
  refine cfg_snoc hc (x := ⟨true, .ints .i64 l⟩) h.stride h.len h.le h.max (Dat.wf_typed _ (by intro s l; simp)) (fun i hi j av hav => ?_) (fun _ h0 => ?_) hng hoff hfew
  · have hi : i < l.length := hi
    have hav : ([AV.int .i64 (l.getD i 0)])[j]? = some av := hav
    cases j with
    | succ j => simp at hav
    | zero =>
      simp only [List.getElem?_cons_zero, Option.some.injEq] at hav
      subst hav
      exact ⟨_, h.cells i hi, by simp only [Am.V]⟩
  · obtain ⟨cs, e, h1, h2⟩ := h.own h0
    exact ⟨cs, e, h1, by rw [h.stride, Nat.mul_one]; exact h2, MarkOk.none rfl h.rest⟩
theorem cfg_cell (hc : CfgOk E w bs ps) {b t k : Nat} {T : TypeId} {cs : Array Value} {e : TypeId} {v : Value} (hT : isMark T = false) (hb : w.heap[b]? = some (.cells cs e (0, 0))) (ht : cs[t]? = some v) (hv : V (psRho ps) (.slw k) v) (hng : E.ng ≤ b) (hoff : ¬ liveB (psRho ps) (blkH bs) b) (hfew : bs.length < 1000) :
    CfgOk E w (bs ++ [⟨true, .gen [T] [[.slw k]]⟩]) (ps ++ [⟨b, t, 1, 1, 1, some cs⟩]) ∧ (∀ k', liveB (psRho (ps ++ [⟨b, t, 1, 1, 1, some cs⟩])) (blkH (bs ++ [⟨true, .gen [T] [[.slw k]]⟩])) k' → liveB (psRho ps) (blkH bs) k' ∨ k' = b) ∧ ∀ k', ownB (psRho (ps ++ [⟨b, t, 1, 1, 1, some cs⟩])) (blkH (bs ++ [⟨true, .gen [T] [[.slw k]]⟩])) k' → ownB (psRho ps) (blkH bs) k' ∨ k' = b := by
  have hlt := (Array.getElem?_eq_some_iff.1 ht).1
  have hw : wid [T] = 1 := by simp [wid, hT]
  have := cfg_snoc hc (x := ⟨true, .gen [T] [[.slw k]]⟩) (p := ⟨b, t, 1, 1, 1, some cs⟩) hw.symm rfl (Nat.le_refl _) (by show 1 ≤ maxLen; decide) (fun i hi => ?_) (fun i hi j av hav => ?_) (fun _ _ => ⟨cs, e, hb, by simp; omega, fun T' hT' => ?_, fun r hr => ?_⟩) (fun _ => hng) (fun _ => hoff) hfew
  · exact ⟨this.1, fun k' hk' => (this.2.1 k' hk').imp id (·.2), fun k' hk' => (this.2.2 k' hk').imp id (·.2)⟩
  · have hi : i < 1 := hi
    have : i = 0 := by omega
    subst this
    exact ⟨hw.symm, rfl⟩
  · have hi : i < 1 := hi
    have : i = 0 := by omega
    subst this
    have hav : ([AV.slw k])[j]? = some av := hav
    cases j with
    | succ j => simp at hav
    | zero =>
      simp only [List.getElem?_cons_zero, Option.some.injEq] at hav
      subst hav
      refine ⟨v, ?_, hv⟩
      simp [World.cell?, Pos.addr, hb, ht]
  · exfalso
    have : markOf [T] = some T' := hT'
    simp [markOf, hT] at this
  · simp only [Option.some.injEq] at hr
    subst hr
    exact ⟨rfl, fun _ _ => rfl⟩
def focOf (h : Heap) (b : Nat) : Option (Nat × List Int) := match h b with
  | some ⟨true, .gen [_] [[.slw k]]⟩ => match h k with
    | some ⟨true, .ints .i64 l⟩ => some (k, l)
    | _ => none
  | _ => none
def offB (offs : List Nat) (es : List Ent) : Bool := es.all fun e => offs.all fun b => !(srcIs b e.src)
def expFoc (E : Env) (h : Heap) (offs take : List Nat) (ts : List TypeId) (l : List AV) : T Out :=
  match expAll E h (takeFl take) ts l with
  | some (vs, bs, es) => bif offB offs es then .leaf ⟨vs, bs⟩ else .bad
  | none => .bad
def focT (E : Env) (C : CallR) (L : LoopR) (c : Code) (st0 : AState) (b1 b2 : Nat) (take : List Nat) (sl : List (Nat × TypeId)) : T (Out × List Int × List Int) :=
  (run E C L c st0).bind fun r => match r.1 with
    | .normal => match focOf r.2.h b1, focOf r.2.h b2 with
      | some (k1, l1), some (k2, l2) => bif !Nat.beq k1 k2 && (!Nat.beq k1 b1 && (!Nat.beq k1 b2 && (!Nat.beq k2 b1 && !Nat.beq k2 b2))) then (expFoc E r.2.h [b1, b2, k1, k2] take (slotTys sl) (slotAVs r.2 sl)).bind fun o => .leaf (o, l1, l2) else .bad
      | _, _ => .bad
    | _ => .bad
theorem focOf_some {h : Heap} {b k : Nat} {l : List Int} (hf : focOf h b = some (k, l)) : (∃ t, h b = some ⟨true, .gen [t] [[.slw k]]⟩) ∧ h k = some ⟨true, .ints .i64 l⟩ := by
  unfold focOf at hf
  split at hf
  · rename_i t k' hb
    split at hf
    · rename_i l' hk
      cases hf
      exact ⟨⟨t, hb⟩, hk⟩
    · cases hf
  · cases hf
theorem expFoc_ok {ρ : Rho} {h : Heap} (hc : CfgOk E w bs ps) (hs : SatH ρ h w') (hg : GOk E (ownB ρ h) w') (hst : Stp (domB (startRho E ps) (startH E bs)) (domB ρ h) w w') {offs take : List Nat} {ts : List TypeId} {l : List AV} {out : Out} (he : (expFoc E h offs take ts l).sel = some out) {cvs : List Value} (hv : VL ρ l cvs) :
    ∃ ps', CfgOk E w' out.blks ps' ∧ VL (psRho ps') out.vals cvs ∧ Mv w bs ps w' out.blks ps' ∧ ∀ k, liveB (psRho ps') (blkH out.blks) k → ∀ b ∈ offs, ∀ x p, h b = some x → ρ b = some p → x.own = true → 0 < p.cap → k ≠ p.block := by
  unfold expFoc at he
  split at he
  · rename_i vs bs' es hx
    cases hk : offB offs es with
    | false => rw [hk] at he; simp [T.sel] at he
    | true =>
      rw [hk, cond_true] at he
      simp only [T.sel, Option.some.injEq] at he
      subst he
      obtain ⟨ps', hxo⟩ := expAll_ok hs hg hx hv
      refine ⟨ps', hxo.cfg, hxo.vals, hxo.mvp hc hst, ?_⟩
      rintro k ⟨i, y, q, hy, hq, hl, rfl⟩ b hb x p hxb hp hxo' h0 e
      obtain ⟨en, c, z, r, e1, e2, e3, e4, e5, e6, e7, e8, e9⟩ := hxo.name i y q hy hq hl
      have hbc : b ≠ c := by
        rintro rfl
        unfold offB at hk
        rw [List.all_eq_true] at hk
        have := hk en (List.mem_of_getElem? e1)
        rw [List.all_eq_true] at this
        have := this b hb
        rw [e2] at this
        simp [srcIs] at this
      have := hs.apart b x p c z r hxb hxo' hp h0 e3 e4 hbc (by
        rcases hl with ⟨h1, _⟩ | h1
        · exact .inl ⟨e8 (by rw [← e9]; exact h1), e6⟩
        · exact .inr (e7 h1))
      exact this (by rw [← e, e5])
  · simp [T.sel] at he
structure FocEnd (w' : World) (q p : Pos) (l : List Int) (v : Value) : Prop where
  cell : w'.cell? (q.addr 0 0) = some v
  nums : Nums w' p l v
  row : ∃ cs e, w'.heap[q.block]? = some (.cells cs e (0, 0)) ∧ RestOk q cs
theorem foc_end {ρ : Rho} {h : Heap} (hs : SatH ρ h w') {b k : Nat} {l : List Int} (hf : focOf h b = some (k, l)) {q : Pos} (hq : ρ b = some q) (hq1 : 0 < q.cap) : ∃ p r v, ρ k = some r ∧ p.block = r.block ∧ p.cap = r.cap ∧ FocEnd w' q p l v := by
  obtain ⟨⟨t, hb⟩, hk⟩ := focOf_some hf
  obtain ⟨r, hr, r1, r2, r3, r4⟩ := hs.pos k _ hk
  have r1 : r.stride = 1 := r1
  have r2 : r.len = l.length := r2
  obtain ⟨v, c1, c2⟩ := hs.cells b _ q hb hq 0 (by show 0 < 1; omega) 0 (.slw k) rfl
  obtain ⟨cs, e, o1, o2, o3⟩ := hs.own b _ q hb rfl hq hq1
  refine ⟨{ r with rest := none }, r, v, hr, rfl, rfl, c1, ⟨r1, r2, r3, r4, rfl, ?_, fun h0 => ?_, fun i hi => ?_⟩, cs, e, o1, o3.2⟩
  · simp only [V] at c2
    obtain ⟨r', hr', _, h2⟩ := c2
    rw [hr] at hr'; cases hr'
    exact h2
  · obtain ⟨cs', e', g1, g2, _⟩ := hs.own k _ r hk rfl hr h0
    exact ⟨cs', e', g1, by rw [r1, Nat.mul_one] at g2; exact g2⟩
  · obtain ⟨c, g1, g2⟩ := hs.cells k _ r hk hr i hi 0 (.int .i64 (l.getD i 0)) rfl
    simp only [V] at g2
    subst g2
    exact g1
theorem foc_ok (hC : CG E C) {c : Code} (hL : LoopsOk E L c) (hcfg : CfgOk E w bs ps) {st0 : AState} {a : Act} (hsat : Sat E (startRho E ps) st0 a w) (h0 : st0.h = startH E bs) {b1 b2 : Nat} {q1 q2 : Pos} (hq1 : ps[b1]? = some q1) (hq2 : ps[b2]? = some q2) (hc1 : 0 < q1.cap) (hc2 : 0 < q2.cap) {take : List Nat} {sl : List (Nat × TypeId)} {o : Out} {l1 l2 : List Int}
    (h : (focT E C L c st0 b1 b2 take sl).sel = some (o, l1, l2)) {Q : Exit → Act → World → Prop}
    (hQ : ∀ a' w' ps' p1 p2 v1 v2, CfgOk E w' o.blks ps' → VL (psRho ps') o.vals (slotVs a' sl) → Mv w bs ps w' o.blks ps' → Keeps (writes c) a a' → FocEnd w' q1 p1 l1 v1 → FocEnd w' q2 p2 l2 v2 →
      (0 < p1.cap → p1.block ≠ q1.block ∧ p1.block ≠ q2.block ∧ (ownB (psRho ps) (blkH bs) p1.block ∨ w.heap.size ≤ p1.block)) → (0 < p2.cap → p2.block ≠ q1.block ∧ p2.block ≠ q2.block ∧ (ownB (psRho ps) (blkH bs) p2.block ∨ w.heap.size ≤ p2.block)) → (0 < p1.cap → 0 < p2.cap → p1.block ≠ p2.block) →
      (∀ k, liveB (psRho ps') (blkH o.blks) k → k ≠ q1.block ∧ k ≠ q2.block ∧ (0 < p1.cap → k ≠ p1.block) ∧ (0 < p2.cap → k ≠ p2.block)) → (∀ k, E.ng ≤ k → k = p1.block → True) → (0 < p1.cap → E.ng ≤ p1.block) → (0 < p2.cap → E.ng ≤ p2.block) → Q .normal a' w') : c.wp E.P Q a w := by
  unfold focT at h
  obtain ⟨⟨e1, st1⟩, h1, h2⟩ := T.bind_sel _ _ _ h
  cases e1 with
  | exit id => simp [T.sel] at h2
  | ret => simp [T.sel] at h2
  | normal =>
    simp only at h2
    split at h2
    · rename_i k1 l1' k2 l2' hf1 hf2
      cases hb : (!Nat.beq k1 k2 && (!Nat.beq k1 b1 && (!Nat.beq k1 b2 && (!Nat.beq k2 b1 && !Nat.beq k2 b2)))) with
      | false => rw [hb] at h2; simp [T.sel] at h2
      | true =>
        rw [hb, cond_true] at h2
        obtain ⟨o', h3, h4⟩ := T.bind_sel _ _ _ h2
        simp only [T.sel, Option.some.injEq, Prod.mk.injEq] at h4
        obtain ⟨rfl, rfl, rfl⟩ := h4
        simp only [Bool.and_eq_true, Bool.not_eq_true'] at hb
        obtain ⟨n1, n2, n3, n4, n5⟩ := hb
        have ne : ∀ {x y : Nat}, Nat.beq x y = false → x ≠ y := fun {x y} h e => by subst e; rw [Nat.beq_refl] at h; cases h
        refine run_ok hC c hL _ _ st1 h1 _ a w hsat Q fun ρ' a' w' hs' hst hle hk => ?_
        obtain ⟨ps', g1, g2, g3, g4⟩ := expFoc_ok hcfg hs'.h hs'.g (h0 ▸ hst) h3 (slot_VL hs'.t sl)
        obtain ⟨_, so1, _, _⟩ := start_satH hcfg
        have r1 := hle _ _ (startRho_get hcfg hq1)
        have r2 := hle _ _ (startRho_get hcfg hq2)
        obtain ⟨p1, s1, v1, hs1, hb1, hcp1, f1⟩ := foc_end hs'.h hf1 r1 hc1
        obtain ⟨p2, s2, v2, hs2, hb2, hcp2, f2⟩ := foc_end hs'.h hf2 r2 hc2
        obtain ⟨⟨t1, m1⟩, m2⟩ := focOf_some hf1
        obtain ⟨⟨t2, m3⟩, m4⟩ := focOf_some hf2
        have own' : ∀ {k : Nat} {l : List Int} {s : Pos}, st1.h k = some ⟨true, .ints .i64 l⟩ → ρ' k = some s → 0 < s.cap → ownB (psRho ps) (blkH bs) s.block ∨ w.heap.size ≤ s.block := fun {k l s} hk hs h0' => by
          rcases hst.sub s.block ⟨k, _, s, hk, rfl, hs, h0', rfl⟩ with h | h
          · exact .inl (so1 _ (h0 ▸ h))
          · exact .inr h
        have ngo : ∀ {k : Nat} {l : List Int} {s : Pos}, st1.h k = some ⟨true, .ints .i64 l⟩ → ρ' k = some s → 0 < s.cap → E.ng ≤ s.block := fun {k l s} hk hs h0' => hs'.g.own _ ⟨k, _, s, hk, rfl, hs, h0', rfl⟩
        refine hQ a' w' ps' p1 p2 v1 v2 g1 g2 g3 hk f1 f2 (fun h0' => ?_) (fun h0' => ?_) (fun h0' h0'' => ?_) (fun k hk => ⟨?_, ?_, fun h0' => ?_, fun h0' => ?_⟩) (fun _ _ _ => trivial) (fun h0' => ?_) (fun h0' => ?_)
        · rw [hcp1] at h0'
          rw [hb1]
          exact ⟨hs'.h.apart k1 _ s1 b1 _ q1 m2 rfl hs1 h0' m1 r1 (ne n2) (.inl ⟨rfl, hc1⟩), hs'.h.apart k1 _ s1 b2 _ q2 m2 rfl hs1 h0' m3 r2 (ne n3) (.inl ⟨rfl, hc2⟩), own' m2 hs1 h0'⟩
        · rw [hcp2] at h0'
          rw [hb2]
          exact ⟨hs'.h.apart k2 _ s2 b1 _ q1 m4 rfl hs2 h0' m1 r1 (ne n4) (.inl ⟨rfl, hc1⟩), hs'.h.apart k2 _ s2 b2 _ q2 m4 rfl hs2 h0' m3 r2 (ne n5) (.inl ⟨rfl, hc2⟩), own' m4 hs2 h0'⟩
        · rw [hcp1] at h0'
          rw [hcp2] at h0''
          rw [hb1, hb2]
          exact hs'.h.apart k1 _ s1 k2 _ s2 m2 rfl hs1 h0' m4 hs2 (ne n1) (.inl ⟨rfl, h0''⟩)
        · exact g4 k hk b1 (by simp) _ q1 m1 r1 rfl hc1
        · exact g4 k hk b2 (by simp) _ q2 m3 r2 rfl hc2
        · rw [hcp1] at h0'; rw [hb1]; exact g4 k hk k1 (by simp) _ s1 m2 hs1 rfl h0'
        · rw [hcp2] at h0'; rw [hb2]; exact g4 k hk k2 (by simp) _ s2 m4 hs2 rfl h0'
        · rw [hcp1] at h0'; rw [hb1]; exact ngo m2 hs1 h0'
        · rw [hcp2] at h0'; rw [hb2]; exact ngo m4 hs2 h0'
    · simp [T.sel] at h2
end
end Go.Am
namespace Go.Am
section
variable {E : Env} {C : CallR} {L : LoopR} {w w' w0 : World}
structure Fam (w : World) (m n : Nat) (A : Bool → Nat × Nat) (I : Bool → Nat → List Int) (D : Bool → Nat → Option Nat) (val : Bool → Value) : Prop where
  val : ∀ s, 0 < n → ∃ c, val s = .slice (some ⟨(A s).1, (A s).2, none⟩) n c
  row : ∀ s, 0 < n → ∃ cs e, w.heap[(A s).1]? = some (.cells cs e (0, 0)) ∧ (A s).2 + n ≤ cs.size
  cell : ∀ s j, m ≤ j → j < n → ∃ p v, w.cell? ⟨(A s).1, (A s).2 + j, none⟩ = some v ∧ Nums w p (I s j) v ∧ D s j = (if 0 < p.cap then some p.block else none)
  dist : ∀ s j s' j' k, m ≤ j → j < n → m ≤ j' → j' < n → D s j = some k → D s' j' = some k → s = s' ∧ j = j'
  rows : 0 < n → (A false).1 ≠ (A true).1
  apart : ∀ s s' j k, m ≤ j → j < n → D s' j = some k → k ≠ (A s).1
def FamB (m n : Nat) (A : Bool → Nat × Nat) (D : Bool → Nat → Option Nat) (k : Nat) : Prop := (0 < n ∧ ∃ s, k = (A s).1) ∨ ∃ s j, m ≤ j ∧ j < n ∧ D s j = some k
variable {m n : Nat} {A : Bool → Nat × Nat} {I : Bool → Nat → List Int} {D : Bool → Nat → Option Nat} {val : Bool → Value}
theorem Fam.lt (h : Fam w m n A I D val) {k : Nat} (hk : FamB m n A D k) : k < w.heap.size := by
  rcases hk with ⟨h0, s, rfl⟩ | ⟨s, j, h1, h2, h3⟩
  · obtain ⟨cs, e, hb, _⟩ := h.row s h0
    exact heap_lt hb
  · obtain ⟨p, v, _, hn, hd⟩ := h.cell s j h1 h2
    rw [h3] at hd
    by_cases h0 : 0 < p.cap
    · rw [if_pos h0] at hd
      cases hd
      exact hn.lt h0
    · rw [if_neg h0] at hd; cases hd
theorem Fam.same (h : Fam w m n A I D val) (hs : ∀ k, FamB m n A D k → w'.heap[k]? = w.heap[k]?) : Fam w' m n A I D val := by
  refine ⟨h.val, fun s h0 => ?_, fun s j h1 h2 => ?_, h.dist, h.rows, h.apart⟩
  · obtain ⟨cs, e, hb, h1⟩ := h.row s h0
    exact ⟨cs, e, (hs _ (.inl ⟨h0, s, rfl⟩)).trans hb, h1⟩
  · obtain ⟨p, v, hc, hn, hd⟩ := h.cell s j h1 h2
    refine ⟨p, v, (World.cell?_of_block (hs (A s).1 (.inl ⟨by omega, s, rfl⟩))).trans hc, hn.same fun h0 => hs _ (.inr ⟨s, j, h1, h2, by rw [hd, if_pos h0]⟩), hd⟩
theorem FamB.mono {m' : Nat} (hm : m ≤ m') {k : Nat} (h : FamB m' n A D k) : FamB m n A D k := by
  rcases h with h | ⟨s, j, h1, h2, h3⟩
  · exact .inl h
  · exact .inr ⟨s, j, by omega, h2, h3⟩
theorem Fam.mono (h : Fam w m n A I D val) {m' : Nat} (hm : m ≤ m') : Fam w m' n A I D val :=
  ⟨h.val, h.row, fun s j h1 h2 => h.cell s j (by omega) h2, fun s j s' j' k h1 h2 h3 h4 => h.dist s j s' j' k (by omega) h2 (by omega) h4, h.rows, fun s s' j k h1 => h.apart s s' j k (by omega)⟩
structure Jn (E : Env) (N : Nat) (sl : List (Nat × TypeId)) (vs : List AV) (bs : List Blk) (w0 : World) (bs0 : List Blk) (ps0 : List Pos) (x y : Nat) (m n : Nat) (A : Bool → Nat × Nat) (I : Bool → Nat → List Int) (D : Bool → Nat → Option Nat) (val : Bool → Value) (a : Act) (w : World) : Prop where
  size : a.tmps.size = N
  d : a.defers = []
  x : a.tmps.getD x undef = val false
  y : a.tmps.getD y undef = val true
  fam : Fam w m n A I D val
  lo : ∀ k, FamB m n A D k → E.ng ≤ k ∧ w0.heap.size ≤ k
  ex : ∃ ps, CfgOk E w bs ps ∧ VL (psRho ps) vs (slotVs a sl) ∧ Mv w0 bs0 ps0 w bs ps ∧ ∀ k, FamB m n A D k → ¬ liveB (psRho ps) (blkH bs) k
variable {N x y : Nat} {sl : List (Nat × TypeId)} {vs : List AV} {bs bs0 : List Blk} {ps0 : List Pos} {a : Act}
theorem Jn.hr (H : Jn E N sl vs bs w0 bs0 ps0 x y m n A I D val a w) : Hr E N sl vs bs w0 bs0 ps0 a w := by
  obtain ⟨ps, h1, h2, h3, _⟩ := H.ex
  exact ⟨H.size, H.d, ps, h1, h2, h3⟩
theorem own_live {ρ : Rho} {h : Heap} {k : Nat} (hk : ownB ρ h k) : liveB ρ h k := by
  obtain ⟨b, z, p, h1, h2, h3, h4, h5⟩ := hk
  exact ⟨b, z, p, h1, h3, .inl ⟨h2, h4⟩, h5⟩
theorem fam_mv {bs' : List Blk} {ps ps' : List Pos} (hf : Fam w m n A I D val) (hno : ∀ k, FamB m n A D k → ¬ liveB (psRho ps) (blkH bs) k) (hm : Mv w bs ps w' bs' ps') :
    Fam w' m n A I D val ∧ ∀ k, FamB m n A D k → ¬ liveB (psRho ps') (blkH bs') k := by
  refine ⟨hf.same fun k hk => hm.stp.ext.block k (hf.lt hk) fun ho => hno k hk (own_live ho), fun k hk hl => ?_⟩
  rcases hm.stp.src k hl with h | h
  · exact hno k hk h
  · have := hf.lt hk; omega
theorem Jn.run (H : Jn E N sl vs bs w0 bs0 ps0 x y m n A I D val a w) (hC : CG E C) {c : Code} (hL : LoopsOk E L c) (mo : List (Nat × TypeId)) (tk : List Nat) {o : Out}
    (h : (turn E C L N ⟨[], sl, mo, tk⟩ c vs bs).sel = some (.normal, o)) (ho : (!memb (writes c) x && !memb (writes c) y) = true) {Q : Exit → Act → World → Prop}
    (hQ : ∀ a' w', Jn E N sl o.vals o.blks w0 bs0 ps0 x y m n A I D val a' w' → Q .normal a' w') : c.wp E.P Q a w := by
  obtain ⟨hs, hd, hx, hy, hf, hlo, ps, hc, hv, hm, hno⟩ := H
  simp only [Bool.and_eq_true, Bool.not_eq_true'] at ho
  refine turn_ok hC hL h a w ps hs hc hv Q fun a' w' ps' g1 g2 g3 g4 _ g6 => ?_
  obtain ⟨f1, f2⟩ := fam_mv hf hno g4
  exact hQ a' w' ⟨g1, g6.d.trans hd, (g6.at' _ (memb_not ho.1)).trans hx, (g6.at' _ (memb_not ho.2)).trans hy, f1, hlo, ps', g2, g3, hm.trans g4, f2⟩
theorem Jn.pick (H : Jn E N sl vs bs w0 bs0 ps0 x y m n A I D val a w) (l : List ((Nat × TypeId) × Option Nat)) (hl : pickOk sl l = true) : Jn E N (l.map (·.1)) (pickV vs l) bs w0 bs0 ps0 x y m n A I D val a w := by
  obtain ⟨hs, hd, hx, hy, hf, hlo, ps, hc, hv, hm, hno⟩ := H
  have h := (Hr.pick ⟨hs, hd, ps, hc, hv, Mv.refl _ _ _⟩ l hl : Hr E N (l.map (·.1)) (pickV vs l) bs w bs ps a w)
  refine ⟨hs, hd, hx, hy, hf, hlo, ps, hc, ?_, hm, hno⟩
  clear h
  induction l with
  | nil => simp [pickV, slotVs, VL]
  | cons z r ih =>
    unfold pickOk at hl
    rw [List.all_cons, Bool.and_eq_true] at hl
    simp only [pickV, List.map_cons, slotVs, VL]
    refine ⟨_, _, rfl, ?_, ih hl.2⟩
    obtain ⟨s, oj⟩ := z
    cases oj with
    | none => simp [V]
    | some j =>
      have h1 := hl.1
      simp only at h1 ⊢
      cases hj : sl[j]? with
      | none => rw [hj] at h1; cases h1
      | some u =>
        rw [hj] at h1
        have h1 := Nat.eq_of_beq_eq_true h1
        have hlen := hv.length
        have hjl : j < vs.length := by
          have := (List.getElem?_eq_some_iff.1 hj).1
          simp [slotVs] at hlen; omega
        obtain ⟨v, hv1, hv2⟩ := hv.get (i := j) (a := vs.getD j .any) (by simp [List.getD, hjl])
        have : v = a.tmps.getD s.1 undef := by
          simp only [slotVs, List.getElem?_map, hj, Option.map_some, Option.some.injEq] at hv1
          rw [← hv1, h1]
        rw [← this]; exact hv2
theorem cfg_keep {ps : List Pos} (hc : CfgOk E w bs ps) (hsz : w.heap.size ≤ w'.heap.size) (hk : ∀ k, liveB (psRho ps) (blkH bs) k → w'.heap[k]? = w.heap[k]?) (hg : ∀ k, k < E.ng → w'.heap[k]? = w.heap[k]?) : CfgOk E w' bs ps := by
  refine ⟨hc.sat.world fun b z q hb hq hl _ => hk _ ⟨b, z, q, hb, hq, hl, rfl⟩, ⟨hc.g.laid, Nat.le_trans hc.g.size hsz, fun g hgl => (hg g hgl).trans (hc.g.base g hgl), hc.g.own⟩, hc.len, hc.few⟩
def focBs (T : TypeId) (bs : List Blk) (l1 l2 : List Int) : List Blk := bs ++ [⟨true, .ints .i64 l1⟩] ++ [⟨true, .ints .i64 l2⟩] ++ [⟨true, .gen [T] [[.slw bs.length]]⟩] ++ [⟨true, .gen [T] [[.slw (bs.length + 1)]]⟩]
structure FocAt (E : Env) (w : World) (bs : List Blk) (ps : List Pos) (T : TypeId) (A : Bool → Nat × Nat) (t f : Nat) (l1 l2 : List Int) (p1 p2 : Pos) (v1 v2 : Value) (cs1 cs2 : Array Value) (ps' : List Pos) : Prop where
  eq : ps' = ps ++ [p1] ++ [p2] ++ [⟨(A false).1, (A false).2 + t, 1, 1, 1, some cs1⟩] ++ [⟨(A true).1, (A true).2 + f, 1, 1, 1, some cs2⟩]
  cfg : CfgOk E w (focBs T bs l1 l2) ps'
  live : ∀ k, liveB (psRho ps') (blkH (focBs T bs l1 l2)) k → liveB (psRho ps) (blkH bs) k ∨ (0 < p1.cap ∧ k = p1.block) ∨ (0 < p2.cap ∧ k = p2.block) ∨ k = (A false).1 ∨ k = (A true).1
  own : ∀ k, ownB (psRho ps') (blkH (focBs T bs l1 l2)) k → ownB (psRho ps) (blkH bs) k ∨ (0 < p1.cap ∧ k = p1.block) ∨ (0 < p2.cap ∧ k = p2.block) ∨ k = (A false).1 ∨ k = (A true).1
theorem Fam.focus (hf : Fam w m n A I D val) {ps : List Pos} (hc : CfgOk E w bs ps) (hlo : ∀ k, FamB m n A D k → E.ng ≤ k) (hno : ∀ k, FamB m n A D k → ¬ liveB (psRho ps) (blkH bs) k) (hfew : bs.length < 900) {T : TypeId} (hT : isMark T = false) {t f : Nat} (ht1 : m ≤ t) (ht : t < n) (hf1 : m ≤ f) (hff : f < n) :
    ∃ p1 p2 v1 v2 cs1 cs2 e1 e2 ps', w.heap[(A false).1]? = some (.cells cs1 e1 (0, 0)) ∧ w.heap[(A true).1]? = some (.cells cs2 e2 (0, 0)) ∧ cs1[(A false).2 + t]? = some v1 ∧ cs2[(A true).2 + f]? = some v2 ∧ Nums w p1 (I false t) v1 ∧ Nums w p2 (I true f) v2 ∧
      D false t = (if 0 < p1.cap then some p1.block else none) ∧ D true f = (if 0 < p2.cap then some p2.block else none) ∧ FocAt E w bs ps T A t f (I false t) (I true f) p1 p2 v1 v2 cs1 cs2 ps' := by
  have h0 : 0 < n := by omega
  obtain ⟨p1, v1, c1, n1, d1⟩ := hf.cell false t ht1 ht
  obtain ⟨p2, v2, c2, n2, d2⟩ := hf.cell true f hf1 hff
  obtain ⟨cs1, e1, b1, z1⟩ := hf.row false h0
  obtain ⟨cs2, e2, b2, z2⟩ := hf.row true h0
  have g1 : cs1[(A false).2 + t]? = some v1 := by simpa [World.cell?, b1] using c1
  have g2 : cs2[(A true).2 + f]? = some v2 := by simpa [World.cell?, b2] using c2
  have fb1 : 0 < p1.cap → FamB m n A D p1.block := fun h => .inr ⟨false, t, ht1, ht, by rw [d1, if_pos h]⟩
  have fb2 : 0 < p2.cap → FamB m n A D p2.block := fun h => .inr ⟨true, f, hf1, hff, by rw [d2, if_pos h]⟩
  have fa : ∀ s, FamB m n A D (A s).1 := fun s => .inl ⟨h0, s, rfl⟩
  have ne12 : 0 < p1.cap → 0 < p2.cap → p1.block ≠ p2.block := fun h h' e => by
    have := hf.dist false t true f p1.block ht1 ht hf1 hff (by rw [d1, if_pos h]) (by rw [d2, if_pos h', e])
    exact absurd this.1 (by simp)
  have ap1 : ∀ s, 0 < p1.cap → p1.block ≠ (A s).1 := fun s h => hf.apart s false t _ ht1 ht (by rw [d1, if_pos h])
  have ap2 : ∀ s, 0 < p2.cap → p2.block ≠ (A s).1 := fun s h => hf.apart s true f _ hf1 hff (by rw [d2, if_pos h])
  obtain ⟨k1, l1, o1⟩ := cfg_nums hc n1 (fun h => hlo _ (fb1 h)) (fun h => hno _ (fb1 h)) (by omega)
  obtain ⟨k2, l2, o2⟩ := cfg_nums k1 n2 (fun h => hlo _ (fb2 h)) (fun h hl => by
    rcases l1 _ hl with hl | ⟨h', e⟩
    · exact hno _ (fb2 h) hl
    · exact ne12 h' h e.symm) (by simp; omega)
  have hpl := hc.len
  obtain ⟨k3, l3, o3⟩ := cfg_cell k2 (b := (A false).1) (t := (A false).2 + t) (k := bs.length) hT b1 g1 (n1.V (by simp [psRho, ← hpl])) (hlo _ (fa false)) (fun hl => by
    rcases l2 _ hl with hl | ⟨h', e⟩
    · rcases l1 _ hl with hl | ⟨h', e⟩
      · exact hno _ (fa false) hl
      · exact ap1 false h' e.symm
    · exact ap2 false h' e.symm) (by simp; omega)
  obtain ⟨k4, l4, o4⟩ := cfg_cell k3 (b := (A true).1) (t := (A true).2 + f) (k := bs.length + 1) hT b2 g2 (n2.V (by simp [psRho, ← hpl])) (hlo _ (fa true)) (fun hl => by
    rcases l3 _ hl with hl | e
    · rcases l2 _ hl with hl | ⟨h', e⟩
      · rcases l1 _ hl with hl | ⟨h', e⟩
        · exact hno _ (fa true) hl
        · exact ap1 true h' e.symm
      · exact ap2 true h' e.symm
    · exact hf.rows h0 e.symm) (by simp; omega)
  refine ⟨p1, p2, v1, v2, cs1, cs2, e1, e2, _, b1, b2, g1, g2, n1, n2, d1, d2, rfl, k4, fun k hk => ?_, fun k hk => ?_⟩
  rotate_left
  · rcases o4 k hk with hk | e
    · rcases o3 k hk with hk | e
      · rcases o2 k hk with hk | h
        · rcases o1 k hk with hk | h
          · exact .inl hk
          · exact .inr (.inl h)
        · exact .inr (.inr (.inl h))
      · exact .inr (.inr (.inr (.inl e)))
    · exact .inr (.inr (.inr (.inr e)))
  rcases l4 k hk with hk | e
  · rcases l3 k hk with hk | e
    · rcases l2 k hk with hk | h
      · rcases l1 k hk with hk | h
        · exact .inl hk
        · exact .inr (.inl h)
      · exact .inr (.inr (.inl h))
    · exact .inr (.inr (.inr (.inl e)))
  · exact .inr (.inr (.inr (.inr e)))
section
variable {ps ps' ps4 : List Pos} {bs bs' : List Blk} {T : TypeId} {t f : Nat} {l1 l2 : List Int} {p1 p2 : Pos} {v1 v2 : Value} {cs1 cs2 : Array Value} {e1 e2 : TypeId}
def rowP (A : Bool → Nat × Nat) (s : Bool) (t : Nat) (cs : Array Value) : Pos := ⟨(A s).1, (A s).2 + t, 1, 1, 1, some cs⟩
theorem FocAt.rows (h : FocAt E w bs ps T A t f l1 l2 p1 p2 v1 v2 cs1 cs2 ps4) (hl : ps.length = bs.length) : ps4[bs.length + 2]? = some (rowP A false t cs1) ∧ ps4[bs.length + 3]? = some (rowP A true f cs2) := by
  rw [h.eq]
  unfold rowP
  constructor
  · rw [List.getElem?_append_left (by simp; omega), List.getElem?_append_right (by simp; omega)]
    simp [hl]
  · rw [List.getElem?_append_right (by simp; omega)]
    simp [hl]
theorem FocAt.le (h : FocAt E w bs ps T A t f l1 l2 p1 p2 v1 v2 cs1 cs2 ps4) : (psRho ps).le (psRho ps4) := fun b p hb => by
  rw [h.eq]
  have hlt := (List.getElem?_eq_some_iff.1 (show ps[b]? = some p from hb)).1
  unfold psRho
  rw [List.getElem?_append_left (by simp; omega), List.getElem?_append_left (by simp; omega), List.getElem?_append_left (by simp; omega), List.getElem?_append_left (by omega)]
  exact hb
theorem FocAt.off (h : FocAt E w bs ps T A t f l1 l2 p1 p2 v1 v2 cs1 cs2 ps4) (hf : Fam w m n A I D val) (hno : ∀ k, FamB m n A D k → ¬ liveB (psRho ps) (blkH bs) k) (ht1 : m ≤ t) (ht : t < n) (hf1 : m ≤ f) (hff : f < n) (d1 : D false t = if 0 < p1.cap then some p1.block else none) (d2 : D true f = if 0 < p2.cap then some p2.block else none)
    {s : Bool} {j k : Nat} (hj : m ≤ j) (hjn : j < n) (hne1 : ¬ (s = false ∧ j = t)) (hne2 : ¬ (s = true ∧ j = f)) (hk : D s j = some k) : ¬ liveB (psRho ps4) (blkH (focBs T bs l1 l2)) k := fun hl => by
  rcases h.live k hl with h1 | ⟨h1, e⟩ | ⟨h1, e⟩ | e | e
  · exact hno k (.inr ⟨s, j, hj, hjn, hk⟩) h1
  · have := hf.dist s j false t k hj hjn ht1 ht hk (by rw [d1, if_pos h1, e])
    exact hne1 ⟨this.1, this.2⟩
  · have := hf.dist s j true f k hj hjn hf1 hff hk (by rw [d2, if_pos h1, e])
    exact hne2 ⟨this.1, this.2⟩
  · exact hf.apart false s j k hj hjn hk e
  · exact hf.apart true s j k hj hjn hk e
theorem fam_old (h : FocAt E w bs ps T A t f l1 l2 p1 p2 v1 v2 cs1 cs2 ps4) (hf : Fam w m n A I D val) (hno : ∀ k, FamB m n A D k → ¬ liveB (psRho ps) (blkH bs) k) (ht1 : m ≤ t) (ht : t < n) (hf1 : m ≤ f) (hff : f < n) (d1 : D false t = if 0 < p1.cap then some p1.block else none) (d2 : D true f = if 0 < p2.cap then some p2.block else none)
    (b1 : w.heap[(A false).1]? = some (.cells cs1 e1 (0, 0))) (b2 : w.heap[(A true).1]? = some (.cells cs2 e2 (0, 0))) (hm : Mv w (focBs T bs l1 l2) ps4 w' bs' ps')
    (hr1 : ∃ cs e, w'.heap[(A false).1]? = some (.cells cs e (0, 0)) ∧ RestOk (rowP A false t cs1) cs) (hr2 : ∃ cs e, w'.heap[(A true).1]? = some (.cells cs e (0, 0)) ∧ RestOk (rowP A true f cs2) cs) :
    (∀ s, 0 < n → ∃ cs e, w'.heap[(A s).1]? = some (.cells cs e (0, 0)) ∧ (A s).2 + n ≤ cs.size) ∧
    (∀ s j, m ≤ j → j < n → ¬ (s = false ∧ j = t) → ¬ (s = true ∧ j = f) → (∃ p v, w'.cell? ⟨(A s).1, (A s).2 + j, none⟩ = some v ∧ Nums w' p (I s j) v ∧ D s j = (if 0 < p.cap then some p.block else none)) ∧ ∀ k, D s j = some k → k < w.heap.size ∧ ¬ liveB (psRho ps4) (blkH (focBs T bs l1 l2)) k ∧ ¬ liveB (psRho ps') (blkH bs') k) := by
  have key : ∀ s j, m ≤ j → j < n → ¬ (s = false ∧ j = t) → ¬ (s = true ∧ j = f) → ∀ k, D s j = some k → k < w.heap.size ∧ ¬ liveB (psRho ps4) (blkH (focBs T bs l1 l2)) k ∧ ¬ liveB (psRho ps') (blkH bs') k ∧ w'.heap[k]? = w.heap[k]? := fun s j hj hjn n1 n2 k hk => by
    have hlt : k < w.heap.size := hf.lt (.inr ⟨s, j, hj, hjn, hk⟩)
    have hoff := h.off hf hno ht1 ht hf1 hff d1 d2 hj hjn n1 n2 hk
    refine ⟨hlt, hoff, fun hl => ?_, hm.stp.ext.block k hlt fun ho => hoff (own_live ho)⟩
    rcases hm.stp.src k hl with h1 | h1
    · exact hoff h1
    · omega
  obtain ⟨cs, e, g1, g2⟩ := hr1
  obtain ⟨cs', e', g3, g4⟩ := hr2
  obtain ⟨z1, y1⟩ := g2 cs1 rfl
  obtain ⟨z2, y2⟩ := g4 cs2 rfl
  refine ⟨fun s h0 => ?_, fun s j hj hjn n1 n2 => ⟨?_, fun k hk => ⟨(key s j hj hjn n1 n2 k hk).1, (key s j hj hjn n1 n2 k hk).2.1, (key s j hj hjn n1 n2 k hk).2.2.1⟩⟩⟩
  · obtain ⟨c0, e0, q1, q2⟩ := hf.row s h0
    cases s with
    | false => rw [b1] at q1; cases q1; exact ⟨cs, e, g1, by rw [z1]; exact q2⟩
    | true => rw [b2] at q1; cases q1; exact ⟨cs', e', g3, by rw [z2]; exact q2⟩
  · obtain ⟨p, v, hc, hn, hd⟩ := hf.cell s j hj hjn
    refine ⟨p, v, ?_, hn.same fun h0 => (key s j hj hjn n1 n2 p.block (by rw [hd, if_pos h0])).2.2.2, hd⟩
    cases s with
    | false =>
      have hne : j ≠ t := fun e => n1 ⟨rfl, e⟩
      have h5 : cs1[(A false).2 + j]? = some v := by simpa [World.cell?, b1] using hc
      have h6 := y1 ((A false).2 + j) (by simp only [rowP]; omega)
      simp [World.cell?, g1, h6, h5]
    | true =>
      have hne : j ≠ f := fun e => n2 ⟨rfl, e⟩
      have h5 : cs2[(A true).2 + j]? = some v := by simpa [World.cell?, b2] using hc
      have h6 := y2 ((A true).2 + j) (by simp only [rowP]; omega)
      simp [World.cell?, g3, h6, h5]
theorem FocAt.mv (h : FocAt E w bs ps T A t f l1 l2 p1 p2 v1 v2 cs1 cs2 ps4) (hlo : ∀ k, FamB m n A D k → E.ng ≤ k ∧ w0.heap.size ≤ k) (ht1 : m ≤ t) (ht : t < n) (hf1 : m ≤ f) (hff : f < n) (d1 : D false t = if 0 < p1.cap then some p1.block else none) (d2 : D true f = if 0 < p2.cap then some p2.block else none)
    (hm : Mv w0 bs0 ps0 w bs ps) : Mv w0 bs0 ps0 w (focBs T bs l1 l2) ps4 := by
  have hfl : ∀ k, ((0 < p1.cap ∧ k = p1.block) ∨ (0 < p2.cap ∧ k = p2.block) ∨ k = (A false).1 ∨ k = (A true).1) → w0.heap.size ≤ k := fun k hk => by
    rcases hk with ⟨h1, rfl⟩ | ⟨h1, rfl⟩ | rfl | rfl
    · exact (hlo _ (.inr ⟨false, t, ht1, ht, by rw [d1, if_pos h1]⟩)).2
    · exact (hlo _ (.inr ⟨true, f, hf1, hff, by rw [d2, if_pos h1]⟩)).2
    · exact (hlo _ (.inl ⟨by omega, false, rfl⟩)).2
    · exact (hlo _ (.inl ⟨by omega, true, rfl⟩)).2
  refine ⟨⟨hm.stp.ext, fun k hk => ?_, fun k hk => ?_⟩, fun k x p hk hp hl => ?_⟩
  · rcases h.own k hk with h1 | h1
    · exact hm.stp.sub k h1
    · exact .inr (hfl k h1)
  · rcases h.live k hk with h1 | h1
    · exact hm.stp.src k h1
    · exact .inr (hfl k h1)
  · have hlive : liveB (psRho ps4) (blkH (focBs T bs l1 l2)) p.block := ⟨k, x, p, hk, hp, hl, rfl⟩
    rcases h.live _ hlive with ⟨i, y, q, h1, h2, h3, h4⟩ | h1
    · rcases hm.src i y q h1 h2 h3 with h5 | ⟨k0, x0, p0, g1, g2, g3, g4⟩
      · exact .inl (by rw [← h4]; exact h5)
      · exact .inr ⟨k0, x0, p0, g1, g2, g3, by rw [g4, h4]⟩
    · exact .inl (hfl _ h1)
end
end
end Go.Am
namespace Go.Am
section
variable {E : Env} {C : CallR} {L : LoopR} {w w' w0 : World}
variable {m n : Nat} {A : Bool → Nat × Nat} {I : Bool → Nat → List Int} {D : Bool → Nat → Option Nat} {val : Bool → Value}
variable {N x y : Nat} {sl slo : List (Nat × TypeId)} {vs : List AV} {bs bs0 : List Blk} {ps0 : List Pos} {a : Act}
theorem foc_vals (H : Jn E N sl vs bs w0 bs0 ps0 x y m n A I D val a w) {ps ps4 : List Pos} {T : TypeId} {t f : Nat} {l1 l2 : List Int} {p1 p2 : Pos} {v1 v2 : Value} {cs1 cs2 : Array Value} (h : FocAt E w bs ps T A t f l1 l2 p1 p2 v1 v2 cs1 cs2 ps4) (hl : ps.length = bs.length) (h0 : 0 < n) (hv : VL (psRho ps) vs (slotVs a sl)) :
    VL (psRho ps4) (vs ++ [.foc (bs.length + 2) (t : Int) n, .foc (bs.length + 3) (f : Int) n]) (slotVs a (sl ++ [(x, 0), (y, 0)])) := by
  obtain ⟨q1, q2⟩ := h.rows hl
  obtain ⟨c1, e1⟩ := H.fam.val false h0
  obtain ⟨c2, e2⟩ := H.fam.val true h0
  unfold slotVs
  rw [List.map_append]
  refine VL.append (VL.mono h.le _ _ hv) ?_
  simp only [List.map_cons, List.map_nil, VL, V]
  refine ⟨_, _, rfl, ⟨rowP A false t cs1, q1, (A false).2, c1, H.x.trans e1, ?_⟩, _, _, rfl, ⟨rowP A true f cs2, q2, (A true).2, c2, H.y.trans e2, ?_⟩, rfl⟩ <;> simp [rowP]
def updI (I : Bool → Nat → List Int) (t f : Nat) (l1 l2 : List Int) : Bool → Nat → List Int := fun s j => if s = false ∧ j = t then l1 else if s = true ∧ j = f then l2 else I s j
def capB (p : Pos) : Option Nat := if 0 < p.cap then some p.block else none
def updD (D : Bool → Nat → Option Nat) (t f : Nat) (p1 p2 : Pos) : Bool → Nat → Option Nat := fun s j => if s = false ∧ j = t then capB p1 else if s = true ∧ j = f then capB p2 else D s j
theorem capB_some {p : Pos} {k : Nat} (h : capB p = some k) : 0 < p.cap ∧ p.block = k := by
  unfold capB at h
  split at h
  · cases h; exact ⟨by assumption, rfl⟩
  · cases h
theorem updD_some {t f : Nat} {p1 p2 : Pos} {s : Bool} {j k : Nat} (h : updD D t f p1 p2 s j = some k) : ((s = false ∧ j = t) ∧ 0 < p1.cap ∧ p1.block = k) ∨ ((s = true ∧ j = f) ∧ 0 < p2.cap ∧ p2.block = k) ∨ (¬ (s = false ∧ j = t) ∧ ¬ (s = true ∧ j = f) ∧ D s j = some k) := by
  unfold updD at h
  by_cases h1 : s = false ∧ j = t
  · rw [if_pos h1] at h; exact .inl ⟨h1, capB_some h⟩
  · rw [if_neg h1] at h
    by_cases h2 : s = true ∧ j = f
    · rw [if_pos h2] at h; exact .inr (.inl ⟨h2, capB_some h⟩)
    · rw [if_neg h2] at h; exact .inr (.inr ⟨h1, h2, h⟩)
theorem Jn.foc (H : Jn E N sl vs bs w0 bs0 ps0 x y m n A I D val a w) (hC : CG E C) {c : Code} (hL : LoopsOk E L c) {T : TypeId} (hT : isMark T = false) (hfew : bs.length < 900) {t f : Nat} (ht1 : m ≤ t) (ht : t < n) (hf1 : m ≤ f) (hff : f < n) (mo : List (Nat × TypeId)) (tk tk' : List Nat) {o : Out} {l1 l2 : List Int}
    (h : (focT E C L c (loopSt E N ⟨[], sl ++ [(x, 0), (y, 0)], mo, tk⟩ (vs ++ [.foc (bs.length + 2) (t : Int) n, .foc (bs.length + 3) (f : Int) n]) (focBs T bs (I false t) (I true f))) (bs.length + 2) (bs.length + 3) tk' slo).sel = some (o, l1, l2))
    (ho : (!memb (writes c) x && !memb (writes c) y) = true) (hb0 : ∀ k, ¬ ownB (psRho ps0) (blkH bs0) k) {Q : Exit → Act → World → Prop}
    (hQ : ∀ a' w' D', Jn E N slo o.vals o.blks w0 bs0 ps0 x y m n A (updI I t f l1 l2) D' val a' w' → Q .normal a' w') : c.wp E.P Q a w := by
  obtain ⟨hs, hd, hx, hy, hf, hlo, ps, hc, hv, hm, hno⟩ := H
  have H : Jn E N sl vs bs w0 bs0 ps0 x y m n A I D val a w := ⟨hs, hd, hx, hy, hf, hlo, ps, hc, hv, hm, hno⟩
  simp only [Bool.and_eq_true, Bool.not_eq_true'] at ho
  have h0 : 0 < n := by omega
  obtain ⟨p1, p2, v1, v2, cs1, cs2, e1, e2, ps4, b1, b2, g1, g2, n1, n2, d1, d2, F⟩ := hf.focus hc (fun k hk => (hlo k hk).1) hno hfew hT ht1 ht hf1 hff
  obtain ⟨r1, r2⟩ := F.rows hc.len
  have hsat := loop_sat (n := N) (sg := ⟨[], sl ++ [(x, 0), (y, 0)], mo, tk⟩) F.cfg hs (foc_vals H F hc.len h0 hv)
  refine foc_ok hC hL F.cfg hsat rfl r1 r2 (by show 0 < 1; omega) (by show 0 < 1; omega) h fun a' w' ps' p1' p2' v1' v2' k1 k2 k3 k4 k5 k6 k7 k8 k9 k10 _ k11 k12 => ?_
  obtain ⟨x1, x2⟩ := fam_old F hf hno ht1 ht hf1 hff d1 d2 b1 b2 k3 k5.row k6.row
  have hm4 := F.mv hlo ht1 ht hf1 hff d1 d2 hm
  have lo4 : ∀ k, ownB (psRho ps4) (blkH (focBs T bs (I false t) (I true f))) k ∨ w.heap.size ≤ k → w0.heap.size ≤ k := fun k hk => by
    rcases hk with h | h
    · rcases hm4.stp.sub k h with h1 | h1
      · exact absurd h1 (hb0 k)
      · exact h1
    · exact Nat.le_trans hm.stp.ext.size h
  have newold : ∀ {k : Nat}, ownB (psRho ps4) (blkH (focBs T bs (I false t) (I true f))) k ∨ w.heap.size ≤ k → ∀ s j, m ≤ j → j < n → ¬ (s = false ∧ j = t) → ¬ (s = true ∧ j = f) → D s j = some k → False := fun {k} hk s j hj hjn h1 h2 h3 => by
    obtain ⟨z1, z2, _⟩ := (x2 s j hj hjn h1 h2).2 k h3
    rcases hk with h | h
    · exact z2 (own_live h)
    · omega
  refine hQ a' w' (updD D t f p1' p2') ⟨k4.size.trans hs, k4.d.trans hd, (k4.at' _ (memb_not ho.1)).trans hx, (k4.at' _ (memb_not ho.2)).trans hy, ⟨hf.val, x1, fun s j hj hjn => ?_, fun s j s' j' k hj hjn hj' hjn' h h' => ?_, hf.rows, fun s s' j k hj hjn h => ?_⟩, fun k hk => ?_, ps', k1, k2, hm4.trans k3, fun k hk hl => ?_⟩
  · unfold updI updD
    by_cases h1 : s = false ∧ j = t
    · obtain ⟨rfl, rfl⟩ := h1
      rw [if_pos ⟨rfl, rfl⟩, if_pos ⟨rfl, rfl⟩]
      refine ⟨p1', v1', ?_, k5.nums, rfl⟩
      have := k5.cell
      simpa [rowP, Pos.addr] using this
    · rw [if_neg h1, if_neg h1]
      by_cases h2 : s = true ∧ j = f
      · obtain ⟨rfl, rfl⟩ := h2
        rw [if_pos ⟨rfl, rfl⟩, if_pos ⟨rfl, rfl⟩]
        refine ⟨p2', v2', ?_, k6.nums, rfl⟩
        have := k6.cell
        simpa [rowP, Pos.addr] using this
      · rw [if_neg h2, if_neg h2]
        exact (x2 s j hj hjn h1 h2).1
  · rcases updD_some h with ⟨⟨rfl, rfl⟩, c1, rfl⟩ | ⟨⟨rfl, rfl⟩, c1, rfl⟩ | ⟨u1, u2, u3⟩
    · rcases updD_some h' with ⟨⟨rfl, rfl⟩, c2, e⟩ | ⟨⟨rfl, rfl⟩, c2, e⟩ | ⟨z1, z2, z3⟩
      · exact ⟨rfl, rfl⟩
      · exact absurd e.symm (k9 c1 c2)
      · exact (newold (k7 c1).2.2 s' j' hj' hjn' z1 z2 z3).elim
    · rcases updD_some h' with ⟨⟨rfl, rfl⟩, c2, e⟩ | ⟨⟨rfl, rfl⟩, c2, e⟩ | ⟨z1, z2, z3⟩
      · exact absurd e (k9 c2 c1)
      · exact ⟨rfl, rfl⟩
      · exact (newold (k8 c1).2.2 s' j' hj' hjn' z1 z2 z3).elim
    · rcases updD_some h' with ⟨⟨rfl, rfl⟩, c2, rfl⟩ | ⟨⟨rfl, rfl⟩, c2, rfl⟩ | ⟨z1, z2, z3⟩
      · exact (newold (k7 c2).2.2 s j hj hjn u1 u2 u3).elim
      · exact (newold (k8 c2).2.2 s j hj hjn u1 u2 u3).elim
      · exact hf.dist s j s' j' k hj hjn hj' hjn' u3 z3
  · rcases updD_some h with ⟨_, c1, rfl⟩ | ⟨_, c1, rfl⟩ | ⟨u1, u2, u3⟩
    · cases s with
      | false => exact (k7 c1).1
      | true => exact (k7 c1).2.1
    · cases s with
      | false => exact (k8 c1).1
      | true => exact (k8 c1).2.1
    · exact hf.apart s s' j k hj hjn u3
  · rcases hk with h | ⟨s, j, hj, hjn, h⟩
    · exact hlo k (.inl h)
    · rcases updD_some h with ⟨_, c1, rfl⟩ | ⟨_, c1, rfl⟩ | ⟨u1, u2, u3⟩
      · exact ⟨k11 c1, lo4 _ (k7 c1).2.2⟩
      · exact ⟨k12 c1, lo4 _ (k8 c1).2.2⟩
      · exact hlo k (.inr ⟨s, j, hj, hjn, u3⟩)
  · obtain ⟨y1, y2, y3, y4⟩ := k10 k hl
    rcases hk with ⟨_, s, rfl⟩ | ⟨s, j, hj, hjn, h⟩
    · cases s with
      | false => exact y1 rfl
      | true => exact y2 rfl
    · rcases updD_some h with ⟨_, c1, rfl⟩ | ⟨_, c1, rfl⟩ | ⟨u1, u2, u3⟩
      · exact y3 c1 rfl
      · exact y4 c1 rfl
      · exact ((x2 s j hj hjn u1 u2).2 k u3).2.2 hl
def useT (E : Env) (C : CallR) (L : LoopR) (c : Code) (st0 : AState) (b1 b2 : Nat) (take : List Nat) (sl : List (Nat × TypeId)) : T Out :=
  (run E C L c st0).bind fun r => match r.1 with
    | .normal => match r.2.h b1, r.2.h b2 with
      | some ⟨true, _⟩, some ⟨true, _⟩ => expFoc E r.2.h [b1, b2] take (slotTys sl) (slotAVs r.2 sl)
      | _, _ => .bad
    | _ => .bad
theorem use_ok {bs : List Blk} {ps : List Pos} (hC : CG E C) {c : Code} (hL : LoopsOk E L c) (hcfg : CfgOk E w bs ps) {st0 : AState} {a : Act} (hsat : Sat E (startRho E ps) st0 a w) (h0 : st0.h = startH E bs) {b1 b2 : Nat} {q1 q2 : Pos} (hq1 : ps[b1]? = some q1) (hq2 : ps[b2]? = some q2) (hc1 : 0 < q1.cap) (hc2 : 0 < q2.cap) {take : List Nat} {sl : List (Nat × TypeId)} {o : Out}
    (h : (useT E C L c st0 b1 b2 take sl).sel = some o) {Q : Exit → Act → World → Prop}
    (hQ : ∀ a' w' ps', CfgOk E w' o.blks ps' → VL (psRho ps') o.vals (slotVs a' sl) → Mv w bs ps w' o.blks ps' → Keeps (writes c) a a' → (∃ cs e, w'.heap[q1.block]? = some (.cells cs e (0, 0)) ∧ RestOk q1 cs) → (∃ cs e, w'.heap[q2.block]? = some (.cells cs e (0, 0)) ∧ RestOk q2 cs) →
      (∀ k, liveB (psRho ps') (blkH o.blks) k → k ≠ q1.block ∧ k ≠ q2.block) → Q .normal a' w') : c.wp E.P Q a w := by
  unfold useT at h
  obtain ⟨⟨e1, st1⟩, h1, h2⟩ := T.bind_sel _ _ _ h
  cases e1 with
  | exit id => simp [T.sel] at h2
  | ret => simp [T.sel] at h2
  | normal =>
    simp only at h2
    split at h2
    · rename_i d1 d2 m1 m2
      refine run_ok hC c hL _ _ st1 h1 _ a w hsat Q fun ρ' a' w' hs' hst hle hk => ?_
      obtain ⟨ps', g1, g2, g3, g4⟩ := expFoc_ok hcfg hs'.h hs'.g (h0 ▸ hst) h2 (slot_VL hs'.t sl)
      have r1 := hle _ _ (startRho_get hcfg hq1)
      have r2 := hle _ _ (startRho_get hcfg hq2)
      obtain ⟨cs1, t1, z1, _, z2⟩ := hs'.h.own b1 _ q1 m1 rfl r1 hc1
      obtain ⟨cs2, t2, z3, _, z4⟩ := hs'.h.own b2 _ q2 m2 rfl r2 hc2
      exact hQ a' w' ps' g1 g2 g3 hk ⟨cs1, t1, z1, z2.2⟩ ⟨cs2, t2, z3, z4.2⟩ fun k hk => ⟨g4 k hk b1 (by simp) _ q1 m1 r1 rfl hc1, g4 k hk b2 (by simp) _ q2 m2 r2 rfl hc2⟩
    · simp [T.sel] at h2
theorem Jn.use (H : Jn E N sl vs bs w0 bs0 ps0 x y m n A I D val a w) (hC : CG E C) {c : Code} (hL : LoopsOk E L c) {T : TypeId} (hT : isMark T = false) (hfew : bs.length < 900) (ht : m < n) (mo : List (Nat × TypeId)) (tk tk' : List Nat) {o : Out}
    (h : (useT E C L c (loopSt E N ⟨[], sl ++ [(x, 0), (y, 0)], mo, tk⟩ (vs ++ [.foc (bs.length + 2) (m : Int) n, .foc (bs.length + 3) (m : Int) n]) (focBs T bs (I false m) (I true m))) (bs.length + 2) (bs.length + 3) tk' slo).sel = some o)
    (ho : (!memb (writes c) x && !memb (writes c) y) = true) {Q : Exit → Act → World → Prop}
    (hQ : ∀ a' w', Jn E N slo o.vals o.blks w0 bs0 ps0 x y (m + 1) n A I D val a' w' → Q .normal a' w') : c.wp E.P Q a w := by
  obtain ⟨hs, hd, hx, hy, hf, hlo, ps, hc, hv, hm, hno⟩ := H
  have H : Jn E N sl vs bs w0 bs0 ps0 x y m n A I D val a w := ⟨hs, hd, hx, hy, hf, hlo, ps, hc, hv, hm, hno⟩
  simp only [Bool.and_eq_true, Bool.not_eq_true'] at ho
  have h0 : 0 < n := by omega
  obtain ⟨p1, p2, v1, v2, cs1, cs2, e1, e2, ps4, b1, b2, g1, g2, n1, n2, d1, d2, F⟩ := hf.focus hc (fun k hk => (hlo k hk).1) hno hfew hT (Nat.le_refl m) ht (Nat.le_refl m) ht
  obtain ⟨r1, r2⟩ := F.rows hc.len
  have hsat := loop_sat (n := N) (sg := ⟨[], sl ++ [(x, 0), (y, 0)], mo, tk⟩) F.cfg hs (foc_vals H F hc.len h0 hv)
  refine use_ok hC hL F.cfg hsat rfl r1 r2 (by show 0 < 1; omega) (by show 0 < 1; omega) h fun a' w' ps' k1 k2 k3 k4 k5 k6 k7 => ?_
  obtain ⟨x1, x2⟩ := fam_old F hf hno (Nat.le_refl m) ht (Nat.le_refl m) ht d1 d2 b1 b2 k3 k5 k6
  have hm4 := F.mv hlo (Nat.le_refl m) ht (Nat.le_refl m) ht d1 d2 hm
  have nt : ∀ {s : Bool} {j : Nat}, m + 1 ≤ j → ¬ (s = false ∧ j = m) ∧ ¬ (s = true ∧ j = m) := fun h => ⟨fun e => by omega, fun e => by omega⟩
  refine hQ a' w' ⟨k4.size.trans hs, k4.d.trans hd, (k4.at' _ (memb_not ho.1)).trans hx, (k4.at' _ (memb_not ho.2)).trans hy, ⟨hf.val, x1, fun s j hj hjn => (x2 s j (by omega) hjn (nt hj).1 (nt hj).2).1, fun s j s' j' k h1 h2 h3 h4 => hf.dist s j s' j' k (by omega) h2 (by omega) h4, hf.rows, fun s s' j k h1 => hf.apart s s' j k (by omega)⟩, fun k hk => hlo k (hk.mono (Nat.le_succ m)), ps', k1, k2, hm4.trans k3, fun k hk hl => ?_⟩
  rcases hk with ⟨_, s, rfl⟩ | ⟨s, j, hj, hjn, h⟩
  · cases s with
    | false => exact (k7 _ hl).1 rfl
    | true => exact (k7 _ hl).2 rfl
  · exact ((x2 s j (by omega) hjn (nt hj).1 (nt hj).2).2 k h).2.2 hl
def mkT (E : Env) (C : CallR) (L : LoopR) (c : Code) (st0 : AState) (x y : Nat) (take : List Nat) (sl : List (Nat × TypeId)) : T (Out × List (List AV) × List (List AV)) :=
  (run E C L c st0).bind fun r => match r.1 with
    | .normal => match r.2.t x, r.2.t y with
      | .slw k1, .slw k2 => match r.2.h k1, r.2.h k2 with
        | some ⟨true, .gen [t1] R1⟩, some ⟨true, .gen [t2] R2⟩ => bif !Nat.beq k1 k2 && (!isMark t1 && !isMark t2) then (expFoc E r.2.h [k1, k2] take (slotTys sl) (slotAVs r.2 sl)).bind fun o => .leaf (o, R1, R2) else .bad
        | _, _ => .bad
      | _, _ => .bad
    | _ => .bad
theorem Hr.made (H : Hr E N sl vs bs w0 bs0 ps0 a w) (hC : CG E C) {c : Code} (hL : LoopsOk E L c) (mo : List (Nat × TypeId)) (tk tk' : List Nat) {o : Out} {n : Nat}
    (h : (mkT E C L c (loopSt E N ⟨[], sl, mo, tk⟩ vs bs) x y tk' slo).sel = some (o, List.replicate n [.nils], List.replicate n [.nils])) (hb0 : ∀ k, ¬ ownB (psRho ps0) (blkH bs0) k) {Q : Exit → Act → World → Prop}
    (hQ : ∀ a' w' A val, Jn E N slo o.vals o.blks w0 bs0 ps0 x y 0 n A (fun _ _ => []) (fun _ _ => none) val a' w' → Q .normal a' w') : c.wp E.P Q a w := by
  obtain ⟨hs, hd, ps, hc, hv, hm⟩ := H
  have hsat := loop_sat (n := N) (sg := ⟨[], sl, mo, tk⟩) hc hs hv
  unfold mkT at h
  obtain ⟨⟨ex, st1⟩, h1, h2⟩ := T.bind_sel _ _ _ h
  cases ex with
  | exit id => simp [T.sel] at h2
  | ret => simp [T.sel] at h2
  | normal =>
    simp only at h2
    split at h2
    · rename_i k1 k2 hx hy
      split at h2
      · rename_i t1 R1 t2 R2 m1 m2
        cases hb : (!Nat.beq k1 k2 && (!isMark t1 && !isMark t2)) with
        | false => rw [hb] at h2; simp [T.sel] at h2
        | true =>
          rw [hb, cond_true] at h2
          obtain ⟨o', h3, h4⟩ := T.bind_sel _ _ _ h2
          simp only [T.sel, Option.some.injEq, Prod.mk.injEq] at h4
          obtain ⟨rfl, rfl, rfl⟩ := h4
          simp only [Bool.and_eq_true, Bool.not_eq_true'] at hb
          obtain ⟨hb, ht1, ht2⟩ := hb
          have hne : k1 ≠ k2 := fun e => by subst e; rw [Nat.beq_refl] at hb; cases hb
          refine run_ok hC c hL _ _ st1 h1 _ a w hsat Q fun ρ' a' w' hs' hst hle hk => ?_
          obtain ⟨ps', g1, g2, g3, g4⟩ := expFoc_ok hc hs'.h hs'.g hst h3 (slot_VL hs'.t slo)
          obtain ⟨_, so1, _, _⟩ := start_satH hc
          have vx := hs'.t x
          have vy := hs'.t y
          rw [hx] at vx
          rw [hy] at vy
          simp only [V] at vx vy
          obtain ⟨p1, hp1, l1, ⟨a1, ev1, ea1⟩⟩ := vx
          obtain ⟨p2, hp2, l2, ⟨a2, ev2, ea2⟩⟩ := vy
          obtain ⟨_, q, s1, s2, _⟩ := hs'.h.pos k1 _ m1
          rw [hp1] at q; cases q
          obtain ⟨_, q, s3, s4, _⟩ := hs'.h.pos k2 _ m2
          rw [hp2] at q; cases q
          have s1 : p1.stride = 1 := by rw [s1]; show wid [t1] = 1; simp [wid, ht1]
          have s3 : p2.stride = 1 := by rw [s3]; show wid [t2] = 1; simp [wid, ht2]
          have s2 : p1.len = n := by rw [s2]; show (List.replicate n [AV.nils]).length = n; simp
          have s4 : p2.len = n := by rw [s4]; show (List.replicate n [AV.nils]).length = n; simp
          have fact : ∀ {k : Nat} {p : Pos} {t : TypeId}, st1.h k = some ⟨true, .gen [t] (List.replicate n [.nils])⟩ → ρ' k = some p → p.len = n → p.stride = 1 → p.len ≤ p.cap → 0 < n →
              (∃ cs e, w'.heap[p.block]? = some (.cells cs e (0, 0)) ∧ p.off + n ≤ cs.size) ∧ (∀ j, j < n → w'.cell? ⟨p.block, p.off + j, none⟩ = some (.slice none 0 0)) ∧ E.ng ≤ p.block ∧ w0.heap.size ≤ p.block := fun {k p t} hk hp hl hst1 hle1 h0 => by
            have hcap : 0 < p.cap := by omega
            obtain ⟨cs, e, z1, z2, _⟩ := hs'.h.own k _ p hk rfl hp hcap
            refine ⟨⟨cs, e, z1, by rw [hst1, Nat.mul_one] at z2; omega⟩, fun j hj => ?_, hs'.g.own _ ⟨k, _, p, hk, rfl, hp, hcap, rfl⟩, ?_⟩
            · have hrow : (Dat.gen [t] (List.replicate n [AV.nils])).row j = [.nils] := by simp [Dat.row, List.getD, hj]
              obtain ⟨cv, y1, y2⟩ := hs'.h.cells k _ p hk hp j (by show j < (List.replicate n [AV.nils]).length; simpa using hj) 0 .nils (by rw [hrow]; rfl)
              simp only [V] at y2
              subst y2
              simpa [Pos.addr, hst1] using y1
            · rcases hst.sub p.block ⟨k, _, p, hk, rfl, hp, hcap, rfl⟩ with h | h
              · rcases hm.stp.sub _ (so1 _ h) with h5 | h5
                · exact absurd h5 (hb0 _)
                · exact h5
              · exact Nat.le_trans hm.stp.ext.size h
          refine hQ a' w' (fun s => cond s (p2.block, p2.off) (p1.block, p1.off)) (fun s => cond s (a'.tmps.getD y undef) (a'.tmps.getD x undef)) ⟨hk.size.trans hs, hk.d.trans hd, rfl, rfl, ⟨fun s h0 => ?_, fun s h0 => ?_, fun s j _ hj => ?_, fun s j s' j' k _ _ _ _ h => (by cases h), fun h0 => ?_, fun s s' j k _ _ h => (by cases h)⟩, fun k hk => ?_, ps', g1, g2, hm.trans g3, fun k hk hl => ?_⟩
          · cases s with
            | false =>
              refine ⟨p1.cap - 0, ?_⟩
              show a'.tmps.getD x undef = Value.slice (some ⟨p1.block, p1.off, none⟩) n (p1.cap - 0)
              rw [ev1, ea1 (by omega), s2]
              simp [Pos.addr]
            | true =>
              refine ⟨p2.cap - 0, ?_⟩
              show a'.tmps.getD y undef = Value.slice (some ⟨p2.block, p2.off, none⟩) n (p2.cap - 0)
              rw [ev2, ea2 (by omega), s4]
              simp [Pos.addr]
          · cases s with
            | false => exact (fact m1 hp1 s2 s1 l1 h0).1
            | true => exact (fact m2 hp2 s4 s3 l2 h0).1
          · refine ⟨⟨0, 0, 1, 0, 0, none⟩, .slice none 0 0, ?_, ⟨rfl, rfl, Nat.le_refl _, Nat.zero_le _, rfl, ⟨none, rfl, fun h => absurd h (Nat.lt_irrefl 0)⟩, fun h => absurd h (Nat.lt_irrefl 0), fun i hi => by simp at hi⟩, rfl⟩
            cases s with
            | false => exact (fact m1 hp1 s2 s1 l1 (by omega)).2.1 j hj
            | true => exact (fact m2 hp2 s4 s3 l2 (by omega)).2.1 j hj
          · show p1.block ≠ p2.block
            exact hs'.h.apart k1 _ p1 k2 _ p2 m1 rfl hp1 (by omega) m2 hp2 hne (.inl ⟨rfl, by omega⟩)
          · rcases hk with ⟨h0, s, rfl⟩ | ⟨s, j, _, _, h⟩
            · cases s with
              | false => exact (fact m1 hp1 s2 s1 l1 h0).2.2
              | true => exact (fact m2 hp2 s4 s3 l2 h0).2.2
            · cases h
          · rcases hk with ⟨h0, s, rfl⟩ | ⟨s, j, _, _, h⟩
            · cases s with
              | false => exact g4 _ hl k1 (by simp) _ p1 m1 hp1 rfl (by omega) rfl
              | true => exact g4 _ hl k2 (by simp) _ p2 m2 hp2 rfl (by omega) rfl
            · cases h
      · simp [T.sel] at h2
    · simp [T.sel] at h2
end
end Go.Am
namespace Go.Am
open Go Go.Maps
abbrev kI (v : Int) : Lit := .int .i64 v
structure MIs (D : DataW Unit) (L : List Int) (f : Int → Int) : Prop where
  tidy : Maps.Tidy D
  only : ∀ kl, Maps.has D kl = true → ∃ v ∈ L, kl = kI v
  has : ∀ v ∈ L, Maps.has D (kI v) = true
  at' : ∀ v ∈ L, ∀ z, D.atKey (kI v) z = .lit (kI (f v))
  size : Maps.size D = L.length
theorem kI_inj {u v : Int} (h : kI u = kI v) : u = v := by cases h; rfl
theorem kI_key (v : Int) : WideAt.IsKeyLit (kI v) := trivial
theorem MIs.nil (f : Int → Int) : MIs (.map []) [] f := ⟨Maps.tidy_empty, fun _ h => (by cases h), fun _ h => (by cases h), fun _ h => (by cases h), rfl⟩
theorem MIs.put {D : DataW Unit} {L : List Int} {f : Int → Int} (h : MIs D L f) {v : Int} (hv : v ∈ L) (c : Int) : MIs (D.put (kI v) (.lit (kI c))) L (fun u => if u = v then c else f u) := by
  refine ⟨h.tidy.put (kI_key v) _, fun kl hk => ?_, fun u hu => ?_, fun u hu z => ?_, ?_⟩
  · by_cases e : kl = kI v
    · exact ⟨v, hv, e⟩
    · rw [Maps.has_put_other e] at hk
      exact h.only kl hk
  · by_cases e : u = v
    · subst e; exact Maps.has_put_same h.tidy.isMap (kI_key _) _
    · rw [Maps.has_put_other (fun e' => e (kI_inj e'))]; exact h.has u hu
  · by_cases e : u = v
    · subst e; rw [Maps.atKey_put_same h.tidy.isMap (kI_key _), if_pos rfl]
    · rw [Maps.atKey_put_other (fun e' => e (kI_inj e')), if_neg e]; exact h.at' u hu z
  · rw [Maps.size_put h.tidy, if_pos (h.has v hv)]; exact h.size
theorem MIs.add {D : DataW Unit} {L : List Int} {f : Int → Int} (h : MIs D L f) {v : Int} (hv : v ∉ L) (c : Int) : MIs (D.put (kI v) (.lit (kI c))) (L ++ [v]) (fun u => if u = v then c else f u) := by
  have hno : Maps.has D (kI v) = false := by
    cases hh : Maps.has D (kI v)
    · rfl
    · obtain ⟨u, hu, e⟩ := h.only _ hh
      exact absurd (kI_inj e ▸ hu) hv
  refine ⟨h.tidy.put (kI_key v) _, fun kl hk => ?_, fun u hu => ?_, fun u hu z => ?_, ?_⟩
  · by_cases e : kl = kI v
    · exact ⟨v, by simp, e⟩
    · rw [Maps.has_put_other e] at hk
      obtain ⟨u, hu, e2⟩ := h.only kl hk
      exact ⟨u, by simp [hu], e2⟩
  · by_cases e : u = v
    · subst e; exact Maps.has_put_same h.tidy.isMap (kI_key _) _
    · rw [Maps.has_put_other (fun e' => e (kI_inj e'))]
      exact h.has u (by simpa [e] using hu)
  · by_cases e : u = v
    · subst e; rw [Maps.atKey_put_same h.tidy.isMap (kI_key _), if_pos rfl]
    · rw [Maps.atKey_put_other (fun e' => e (kI_inj e')), if_neg e]; exact h.at' u (by simpa [e] using hu) z
  · rw [Maps.size_put h.tidy, hno, if_neg (by decide), h.size]; simp
theorem MIs.del {D : DataW Unit} {L : List Int} {f : Int → Int} (h : MIs D L f) (hn : L.Nodup) {v : Int} (hv : v ∈ L) : MIs (D.del (kI v)) (L.erase v) f := by
  refine ⟨h.tidy.del _, fun kl hk => ?_, fun u hu => ?_, fun u hu z => ?_, ?_⟩
  · by_cases e : kl = kI v
    · rw [e, Maps.has_del_same] at hk; cases hk
    · rw [Maps.has_del_other e] at hk
      obtain ⟨u, hu, e2⟩ := h.only kl hk
      exact ⟨u, (List.Nodup.mem_erase_iff hn).2 ⟨fun e3 => e (e3 ▸ e2), hu⟩, e2⟩
  · obtain ⟨e, hu⟩ := (List.Nodup.mem_erase_iff hn).1 hu
    rw [Maps.has_del_other (fun e' => e (kI_inj e'))]; exact h.has u hu
  · obtain ⟨e, hu⟩ := (List.Nodup.mem_erase_iff hn).1 hu
    rw [Maps.atKey_del_other (fun e' => e (kI_inj e'))]; exact h.at' u hu z
  · have := Maps.size_del (k := kI v) h.tidy
    rw [h.has v hv, if_pos rfl, h.size] at this
    rw [List.length_erase_of_mem hv]; omega
section
variable {P : Program} {k : TypeId} {R : Value → Option (DataW Unit × List MemPlace)} {w : World} {b n : Nat} {D : DataW Unit}
theorem ownsMap_fit (h : w.ownsMap P k R b n D) : w.ownsMap P k R b (Maps.size D) D := by
  obtain ⟨es, clock, hb, F, hs, rfl⟩ := h
  exact ⟨es, clock, hb, F, by simp [Maps.size, length_sorted], rfl⟩
end
def ownM (P : Program) (k e : TypeId) (w : World) (b : Nat) (L : List Int) (f : Int → Int) : Prop := ∃ D : DataW Unit, w.ownsMap P k (plainElem P e) b L.length D ∧ MIs D L f
def rngM (P : Program) (k e : TypeId) (w : World) (b r : Nat) (L : List Int) (f : Int → Int) (S : Int → Prop) : Prop := ∃ (D : DataW Unit) (left : Lit → Bool) (cnt : Nat), w.ranges P k (plainElem P e) b r L.length D left cnt ∧ MIs D L f ∧ ∀ v, left (kI v) = true ↔ S v
section
variable {P : Program} {k e : TypeId} {w w' : World} {b r : Nat} {L : List Int} {f g : Int → Int} {S : Int → Prop}
theorem ownM_made (P : Program) (k e : TypeId) (w : World) (f : Int → Int) : ownM P k e (w.alloc (.map #[] 0)) w.heap.size [] f := ⟨_, World.ownsMap_made _ _ _ _, MIs.nil f⟩
theorem ownM.congr (h : ownM P k e w b L f) (hf : ∀ v ∈ L, f v = g v) : ownM P k e w b L g := let ⟨D, h1, h2⟩ := h; ⟨D, h1, h2.tidy, h2.only, h2.has, fun v hv z => by rw [h2.at' v hv, hf v hv], h2.size⟩
theorem ownM.others (h : ownM P k e w b L f) (hk : KeepsOthers w w') : ownM P k e w' b L f := by
  obtain ⟨D, ⟨es, clock, hb, F, hs, hD⟩, h2⟩ := h
  exact ⟨D, ⟨es, clock, hk.same b _ hb rfl, F, hs, hD⟩, h2⟩
theorem ownM.obj (h : ownM P k e w b L f) : ∃ o : Obj, w.heap[b]? = some o ∧ o.isCells = false := by
  obtain ⟨D, ⟨es, clock, hb, F, hs, hD⟩, h2⟩ := h
  exact ⟨_, hb, rfl⟩
theorem rngM.others (h : rngM P k e w b r L f S) (hk : KeepsOthers w w') : rngM P k e w' b r L f S ∧ w'.rangeLeft b r = w.rangeLeft b r := by
  obtain ⟨D, left, cnt, ⟨es, clock, since, seen, c0, hb, F, hs, hD, hr, h5, h6, h7⟩, h2, h3⟩ := h
  have h8 := hk.same b _ hb rfl
  have h9 := hk.same r _ hr rfl
  exact ⟨⟨D, left, cnt, ⟨es, clock, since, seen, c0, h8, F, hs, hD, h9, h5, h6, h7⟩, h2, h3⟩, by unfold World.rangeLeft; rw [hb, hr, h8, h9]⟩
theorem rngM.obj (h : rngM P k e w b r L f S) : ∃ o : Obj, w.heap[r]? = some o ∧ o.isCells = false := by
  obtain ⟨D, left, cnt, ⟨es, clock, since, seen, c0, hb, F, hs, hD, hr, h5, h6, h7⟩, h2, h3⟩ := h
  exact ⟨_, hr, rfl⟩
theorem rngM.own (h : rngM P k e w b r L f S) : ownM P k e w b L f := let ⟨D, _, _, h1, h2, _⟩ := h; ⟨D, h1.owns, h2⟩
end
section
variable {P : Program} (w : World) {ops : Array Oper} {rest : List Oper} {o : Oper} {a : Act} {Q : Exit → Act → World → Prop}
theorem wpList_lookup_M (hg : o.guard = none) (m x : Operand) (t : TypeId) (hop : o.op = Op.lookup t m x false) (k e : TypeId) (hk : P.underlying k = some (.int .i64)) (ht : P.underlying t = some (.map k e)) (he : P.underlying e = some (.int .i64)) (hz : (zeroValue e).run P w = .ok (.int .i64 0) w)
    (b : Nat) (L : List Int) (f : Int → Int) (hm : a.eval m = .map (some b)) (hown : ownM P k e w b L f) (v : Int) (hv : v ∈ L) (hw : (Lit.int .i64 v).wf = true) (hx : a.eval x = .int .i64 v)
    (hK : wpList P ops Q rest (a.put o.dst (.int .i64 (f v))) w) : wpList P ops Q (o :: rest) a w := by
  obtain ⟨D, h1, h2⟩ := hown
  refine wpList_lookup_own_int w hg m x t hop k e .i64 (int_keyed hk) ht he hz b _ D hm h1 _ _ hx (keyOf_int_mk hk hw) fun c hat _ => ?_
  rw [h2.at' v hv] at hat
  cases hat
  exact hK
theorem wpList_update_M (hg : o.guard = none) (m x y : Operand) (t : TypeId) (hop : o.op = Op.mapUpdate t m x y) (k e : TypeId) (hk : P.underlying k = some (.int .i64)) (ht : P.underlying t = some (.map k e)) (he : P.underlying e = some (.int .i64))
    (b : Nat) (L : List Int) (f : Int → Int) (hm : a.eval m = .map (some b)) (hown : ownM P k e w b L f) (hL : L.length < maxLen) (v c : Int) (hv : v ∈ L) (hw : (Lit.int .i64 v).wf = true) (hwc : (Lit.int .i64 c).wf = true) (hx : a.eval x = .int .i64 v) (hy : a.eval y = .int .i64 c)
    (hK : ∀ w', ownM P k e w' b L (fun u => if u = v then c else f u) → w.grownBy w' (some b) → wpList P ops Q rest (a.put o.dst undef) w') : wpList P ops Q (o :: rest) a w := by
  obtain ⟨D, h1, h2⟩ := hown
  refine wpList_mapUpdate_own w hg m x y t hop k e (int_keyed hk) ht _ b _ D hm h1 hL _ _ _ hx hy (keyOf_int_mk hk hw) _ [] (plainElem_int he hwc) fun w' h3 h4 => hK w' ?_ h4
  have h5 := h2.put hv c
  exact ⟨_, h5.size ▸ ownsMap_fit h3, h5⟩
theorem wpList_add_M (hg : o.guard = none) (m x y : Operand) (t : TypeId) (hop : o.op = Op.mapUpdate t m x y) (k e : TypeId) (hk : P.underlying k = some (.int .i64)) (ht : P.underlying t = some (.map k e)) (he : P.underlying e = some (.int .i64))
    (b : Nat) (L : List Int) (f : Int → Int) (hm : a.eval m = .map (some b)) (hown : ownM P k e w b L f) (hL : L.length < maxLen) (v c : Int) (hv : v ∉ L) (hw : (Lit.int .i64 v).wf = true) (hwc : (Lit.int .i64 c).wf = true) (hx : a.eval x = .int .i64 v) (hy : a.eval y = .int .i64 c)
    (hK : ∀ w', ownM P k e w' b (L ++ [v]) (fun u => if u = v then c else f u) → w.grownBy w' (some b) → wpList P ops Q rest (a.put o.dst undef) w') : wpList P ops Q (o :: rest) a w := by
  obtain ⟨D, h1, h2⟩ := hown
  refine wpList_mapUpdate_own w hg m x y t hop k e (int_keyed hk) ht _ b _ D hm h1 hL _ _ _ hx hy (keyOf_int_mk hk hw) _ [] (plainElem_int he hwc) fun w' h3 h4 => hK w' ?_ h4
  have h5 := h2.add hv c
  exact ⟨_, h5.size ▸ ownsMap_fit h3, h5⟩
theorem wpList_delete_M (hg : o.guard = none) (m x : Operand) (t k : TypeId) (hop : o.op = Op.call { callee := Callee.builtin Builtin.delete, args := #[m, x], argTypes := #[t, k] }) (e : TypeId) (hk : P.underlying k = some (.int .i64)) (ht : P.underlying t = some (.map k e))
    (b : Nat) (L : List Int) (f : Int → Int) (hm : a.eval m = .map (some b)) (hown : ownM P k e w b L f) (hn : L.Nodup) (v : Int) (hv : v ∈ L) (hw : (Lit.int .i64 v).wf = true) (hx : a.eval x = .int .i64 v)
    (hK : ∀ w', ownM P k e w' b (L.erase v) f → w.grownBy w' (some b) → wpList P ops Q rest (a.put o.dst (.tuple #[])) w') : wpList P ops Q (o :: rest) a w := by
  obtain ⟨D, h1, h2⟩ := hown
  refine wpList_delete_own w hg m x t k hop e (int_keyed hk) ht _ b _ D hm h1 _ _ hx (keyOf_int_mk hk hw) fun w' h3 h4 => hK w' ?_ h4.grown
  have h5 := h2.del hn hv
  exact ⟨_, h5.size ▸ ownsMap_fit h3, h5⟩
theorem wpList_len_M (hg : o.guard = none) (m : Operand) (t : TypeId) (hop : o.op = Op.call { callee := Callee.builtin Builtin.len, args := #[m], argTypes := #[t] }) (k e : TypeId) (ht : P.underlying t = some (.map k e))
    (b : Nat) (L : List Int) (f : Int → Int) (hm : a.eval m = .map (some b)) (hown : ownM P k e w b L f) (hK : wpList P ops Q rest (a.put o.dst (.int .i64 (L.length : Nat))) w) : wpList P ops Q (o :: rest) a w := by
  obtain ⟨D, h1, h2⟩ := hown
  refine wpList_len_own w hg m t hop k e ht _ b _ D hm h1 ?_
  rw [h2.size]; exact hK
theorem wpList_range_M (hg : o.guard = none) (m : Operand) (t : TypeId) (hop : o.op = Op.range t m) (k e : TypeId) (hk : P.underlying k = some (.int .i64)) (ht : P.underlying t = some (.map k e))
    (b : Nat) (L : List Int) (f : Int → Int) (hm : a.eval m = .map (some b)) (hown : ownM P k e w b L f)
    (hK : ∀ w', rngM P k e w' b w.heap.size L f (fun v => v ∈ L) → w.grownBy w' none → w'.heap.size = w.heap.size + 1 → wpList P ops Q rest (a.put o.dst (.pointer (some ⟨w.heap.size, 0, none⟩))) w') : wpList P ops Q (o :: rest) a w := by
  obtain ⟨D, h1, h2⟩ := hown
  refine wpList_range_own w hg m t hop k e (int_keyed hk) ht _ b _ D hm h1 fun w' h3 h4 h5 => hK w' ⟨D, _, _, h3, h2, fun v => ⟨fun h => ?_, fun h => h2.has v h⟩⟩ h4 h5
  obtain ⟨u, hu, e⟩ := h2.only _ h
  exact kI_inj e ▸ hu
theorem wpList_next_M (hg : o.guard = none) (it : Operand) (hop : o.op = Op.next it false) (k e : TypeId) (hk : P.underlying k = some (.int .i64)) (he : P.underlying e = some (.int .i64))
    (b r : Nat) (L : List Int) (f : Int → Int) (S : Int → Prop) (hit : a.eval it = .pointer (some ⟨r, 0, none⟩)) (h : rngM P k e w b r L f S)
    (hDone : (∀ v, ¬ S v) → wpList P ops Q rest (a.put o.dst (.tuple #[.bool false])) w)
    (hMore : ∀ (x : Int) (w' : World), S x → x ∈ L → rngM P k e w' b r L f (fun u => S u ∧ u ≠ x) → w'.rangeLeft b r < w.rangeLeft b r → w.grownBy w' (some r) → w'.heap.size = w.heap.size → (Instr.entry (.pointer (some ⟨r, 0, none⟩))).run P w' = .ok (.tuple #[.int .i64 x, .int .i64 (f x)]) w' →
      wpList P ops Q rest (a.put o.dst (.tuple #[.bool true, .int .i64 x, .int .i64 (f x)])) w') : wpList P ops Q (o :: rest) a w := by
  obtain ⟨D, left, cnt, h1, h2, h3⟩ := h
  refine wpList_next_ranges_ii w hg it hop k e .i64 .i64 (int_keyed hk) hk he b r _ D left cnt hit h1 (fun _ hl => hDone fun v hv => ?_) fun x c w' cnt' hwx hwc hlx hat hrg hlt hgr hsz hen => ?_
  · have := (h3 v).2 hv
    rw [hl] at this; cases this
  · have hS := (h3 x).1 hlx
    have hL : x ∈ L := by
      have : Maps.has D (kI x) = true := Maps.has_true_of_atKey hat
      obtain ⟨u, hu, e⟩ := h2.only _ this
      exact kI_inj e ▸ hu
    have hc : f x = c := by
      have := hat (.lit (kI 0))
      rw [h2.at' x hL] at this
      cases this; rfl
    subst hc
    refine hMore x w' hS hL ⟨D, _, cnt', hrg, h2, fun u => ?_⟩ (by rw [hrg.left_eq, h1.left_eq]; exact hlt) hgr hsz hen
    by_cases e : u = x
    · subst e
      simp [WideAt.sameKey_self (kI_key u)]
    · rw [Maps.sameKey_ne (fun e' => e (kI_inj e'))]
      simp [h3 u, e]
end
end Go.Am
namespace Go.Am
open Go Go.Maps
def opN (c : Code) (k : Nat) : Option Oper := (opsOf c)[k]?
section
variable {E : Env} {n : Nat} {sl : List (Nat × TypeId)} {vs : List AV} {bs bs0 : List Blk} {ps0 : List Pos} {a : Act} {w w0 : World} {fs : List (Nat × Value)} {W : World → Prop}
variable {ops : Array Oper} {rest : List Oper} {o : Oper} {Q : Exit → Act → World → Prop}
theorem St.move (H : St E n sl vs bs w0 bs0 ps0 fs W a w) (hg : o.guard = none) {i d : Nat} {v : Value} (hop : o.op = .move (.tmp i)) (hd : o.dst = some d) (hv : a.tmps.getD i undef = v) (h1 : sl.all (fun s => !Nat.beq s.1 d) = true) (h2 : fs.all (fun s => !Nat.beq s.1 d) = true) (hn : d < n)
    (hK : ∀ a', St E n sl vs bs w0 bs0 ps0 ((d, v) :: fs) W a' w → wpList E.P ops Q rest a' w) : wpList E.P ops Q (o :: rest) a w := by
  refine wpList_move hg (.tmp i) hop ?_
  rw [hd, eval_tmp, hv]
  exact hK _ (H.put v h1 h2 hn)
theorem St.assign (H : St E n sl vs bs w0 bs0 ps0 fs W a w) (hg : o.guard = none) {i d : Nat} {v : Value} (hop : o.op = .assign (.tmp i)) (hd : o.dst = some d) (hv : a.tmps.getD i undef = v) (h1 : sl.all (fun s => !Nat.beq s.1 d) = true) (h2 : fs.all (fun s => !Nat.beq s.1 d) = true) (hn : d < n)
    (hK : ∀ a', St E n sl vs bs w0 bs0 ps0 ((d, v) :: fs) W a' w → wpList E.P ops Q rest a' w) : wpList E.P ops Q (o :: rest) a w := by
  refine wpList_assign hg (.tmp i) hop ?_
  rw [hd, eval_tmp, hv]
  exact hK _ (H.put v h1 h2 hn)
theorem St.extract (H : St E n sl vs bs w0 bs0 ps0 fs W a w) (hg : o.guard = none) {i j d : Nat} {us : Array Value} {v : Value} (hop : o.op = .extract (.tmp i) j) (hd : o.dst = some d) (hx : a.tmps.getD i undef = .tuple us) (hv : us[j]? = some v) (h1 : sl.all (fun s => !Nat.beq s.1 d) = true) (h2 : fs.all (fun s => !Nat.beq s.1 d) = true) (hn : d < n)
    (hK : ∀ a', St E n sl vs bs w0 bs0 ps0 ((d, v) :: fs) W a' w → wpList E.P ops Q rest a' w) : wpList E.P ops Q (o :: rest) a w := by
  refine wpList_extract hg (.tmp i) j hop (us := us) (by rw [eval_tmp]; exact hx) hv ?_
  rw [hd]
  exact hK _ (H.put v h1 h2 hn)
structure MapAt (E : Env) (w0 : World) (t k e : TypeId) (b : Nat) : Prop where
  hk : E.P.underlying k = some (.int .i64)
  ht : E.P.underlying t = some (.map k e)
  he : E.P.underlying e = some (.int .i64)
  ng : E.ng ≤ b
  lo : w0.heap.size ≤ b
theorem MapAt.row {t k e : TypeId} {b : Nat} (h : MapAt E w0 t k e b) {L : List Int} {f : Int → Int} (ho : ownM E.P k e w b L f) : ∀ r, some b = some r → E.ng ≤ r ∧ w0.heap.size ≤ r ∧ ∃ o : Obj, w.heap[r]? = some o ∧ o.isCells = false := fun r hr => by
  cases hr
  exact ⟨h.ng, h.lo, ho.obj⟩
theorem St.update (H : St E n sl vs bs w0 bs0 ps0 fs W a w) {t k e : TypeId} {b : Nat} (hm : MapAt E w0 t k e b) (hg : o.guard = none) (m x y : Operand) (hop : o.op = Op.mapUpdate t m x y) (hd : o.dst = none) {L : List Int} {f : Int → Int} (hmv : a.eval m = .map (some b)) (hown : ownM E.P k e w b L f) (hL : L.length < maxLen) {v c : Int} (hv : v ∈ L) (hw : (Lit.int .i64 v).wf = true) (hwc : (Lit.int .i64 c).wf = true) (hx : a.eval x = .int .i64 v) (hy : a.eval y = .int .i64 c)
    (hK : ∀ w', St E n sl vs bs w0 bs0 ps0 fs (fun w => ownM E.P k e w b L (fun u => if u = v then c else f u)) a w' → wpList E.P ops Q rest a w') : wpList E.P ops Q (o :: rest) a w := by
  refine wpList_update_M w hg m x y t hop k e hm.hk hm.ht hm.he b L f hmv hown hL v c hv hw hwc hx hy fun w' h1 h2 => ?_
  rw [hd]
  exact hK w' (H.turn h2 (hm.row hown) h1)
theorem St.add (H : St E n sl vs bs w0 bs0 ps0 fs W a w) {t k e : TypeId} {b : Nat} (hm : MapAt E w0 t k e b) (hg : o.guard = none) (m x y : Operand) (hop : o.op = Op.mapUpdate t m x y) (hd : o.dst = none) {L : List Int} {f : Int → Int} (hmv : a.eval m = .map (some b)) (hown : ownM E.P k e w b L f) (hL : L.length < maxLen) {v c : Int} (hv : v ∉ L) (hw : (Lit.int .i64 v).wf = true) (hwc : (Lit.int .i64 c).wf = true) (hx : a.eval x = .int .i64 v) (hy : a.eval y = .int .i64 c)
    (hK : ∀ w', St E n sl vs bs w0 bs0 ps0 fs (fun w => ownM E.P k e w b (L ++ [v]) (fun u => if u = v then c else f u)) a w' → wpList E.P ops Q rest a w') : wpList E.P ops Q (o :: rest) a w := by
  refine wpList_add_M w hg m x y t hop k e hm.hk hm.ht hm.he b L f hmv hown hL v c hv hw hwc hx hy fun w' h1 h2 => ?_
  rw [hd]
  exact hK w' (H.turn h2 (hm.row hown) h1)
theorem St.delete (H : St E n sl vs bs w0 bs0 ps0 fs W a w) {t k e : TypeId} {b : Nat} (hm : MapAt E w0 t k e b) (hg : o.guard = none) (m x : Operand) (hop : o.op = Op.call { callee := Callee.builtin Builtin.delete, args := #[m, x], argTypes := #[t, k] }) (hd : o.dst = none) {L : List Int} {f : Int → Int} (hmv : a.eval m = .map (some b)) (hown : ownM E.P k e w b L f) (hn : L.Nodup) {v : Int} (hv : v ∈ L) (hw : (Lit.int .i64 v).wf = true) (hx : a.eval x = .int .i64 v)
    (hK : ∀ w', St E n sl vs bs w0 bs0 ps0 fs (fun w => ownM E.P k e w b (L.erase v) f) a w' → wpList E.P ops Q rest a w') : wpList E.P ops Q (o :: rest) a w := by
  refine wpList_delete_M w hg m x t k hop e hm.hk hm.ht b L f hmv hown hn v hv hw hx fun w' h1 h2 => ?_
  rw [hd]
  exact hK w' (H.turn h2 (hm.row hown) h1)
theorem St.lookup (H : St E n sl vs bs w0 bs0 ps0 fs W a w) {t k e : TypeId} {b : Nat} (hm : MapAt E w0 t k e b) (hz : (zeroValue e).run E.P w = .ok (.int .i64 0) w) (hg : o.guard = none) (m x : Operand) (hop : o.op = Op.lookup t m x false) {d : Nat} (hd : o.dst = some d) {L : List Int} {f : Int → Int} (hmv : a.eval m = .map (some b)) (hown : ownM E.P k e w b L f) {v : Int} (hv : v ∈ L) (hw : (Lit.int .i64 v).wf = true) (hx : a.eval x = .int .i64 v)
    (h1 : sl.all (fun s => !Nat.beq s.1 d) = true) (h2 : fs.all (fun s => !Nat.beq s.1 d) = true) (hn : d < n)
    (hK : ∀ a', St E n sl vs bs w0 bs0 ps0 ((d, .int .i64 (f v)) :: fs) W a' w → wpList E.P ops Q rest a' w) : wpList E.P ops Q (o :: rest) a w := by
  refine wpList_lookup_M w hg m x t hop k e hm.hk hm.ht hm.he hz b L f hmv hown v hv hw hx ?_
  rw [hd]
  exact hK _ (H.put _ h1 h2 hn)
theorem St.len (H : St E n sl vs bs w0 bs0 ps0 fs W a w) {t k e : TypeId} {b : Nat} (hm : MapAt E w0 t k e b) (hg : o.guard = none) (m : Operand) (hop : o.op = Op.call { callee := Callee.builtin Builtin.len, args := #[m], argTypes := #[t] }) {d : Nat} (hd : o.dst = some d) {L : List Int} {f : Int → Int} (hmv : a.eval m = .map (some b)) (hown : ownM E.P k e w b L f)
    (h1 : sl.all (fun s => !Nat.beq s.1 d) = true) (h2 : fs.all (fun s => !Nat.beq s.1 d) = true) (hn : d < n)
    (hK : ∀ a', St E n sl vs bs w0 bs0 ps0 ((d, .int .i64 (L.length : Nat)) :: fs) W a' w → wpList E.P ops Q rest a' w) : wpList E.P ops Q (o :: rest) a w := by
  refine wpList_len_M w hg m t hop k e hm.ht b L f hmv hown ?_
  rw [hd]
  exact hK _ (H.put _ h1 h2 hn)
theorem St.range (H : St E n sl vs bs w0 bs0 ps0 fs W a w) {t k e : TypeId} {b : Nat} (hm : MapAt E w0 t k e b) (hg : o.guard = none) (m : Operand) (hop : o.op = Op.range t m) {d : Nat} (hd : o.dst = some d) {L : List Int} {f : Int → Int} (hmv : a.eval m = .map (some b)) (hown : ownM E.P k e w b L f)
    (h1 : sl.all (fun s => !Nat.beq s.1 d) = true) (h2 : fs.all (fun s => !Nat.beq s.1 d) = true) (hn : d < n)
    (hK : ∀ a' w' r, w0.heap.size ≤ r → E.ng ≤ r → St E n sl vs bs w0 bs0 ps0 ((d, .pointer (some ⟨r, 0, none⟩)) :: fs) (fun w => rngM E.P k e w b r L f (fun v => v ∈ L)) a' w' → wpList E.P ops Q rest a' w') : wpList E.P ops Q (o :: rest) a w := by
  refine wpList_range_M w hg m t hop k e hm.hk hm.ht b L f hmv hown fun w' h3 h4 _ => ?_
  rw [hd]
  have hlo : w0.heap.size ≤ w.heap.size := by
    obtain ⟨_, _, ps, _, _, hmv⟩ := H.h
    exact hmv.stp.ext.size
  have hng : E.ng ≤ w.heap.size := by
    obtain ⟨_, _, ps, hc, _, _⟩ := H.h
    exact hc.g.size
  exact hK _ w' _ hlo hng ((H.put _ h1 h2 hn).turn h4 (fun r hr => by cases hr) h3)
theorem St.next (H : St E n sl vs bs w0 bs0 ps0 fs W a w) {t k e : TypeId} {b r : Nat} (hm : MapAt E w0 t k e b) (hrl : w0.heap.size ≤ r) (hrn : E.ng ≤ r) (hg : o.guard = none) (it : Operand) (hop : o.op = Op.next it false) {d : Nat} (hd : o.dst = some d) {L : List Int} {f : Int → Int} {S : Int → Prop} (hit : a.eval it = .pointer (some ⟨r, 0, none⟩)) (hr : rngM E.P k e w b r L f S)
    (h1 : sl.all (fun s => !Nat.beq s.1 d) = true) (h2 : fs.all (fun s => !Nat.beq s.1 d) = true) (hn : d < n)
    (hDone : (∀ v, ¬ S v) → ∀ a', St E n sl vs bs w0 bs0 ps0 ((d, .tuple #[.bool false]) :: fs) W a' w → wpList E.P ops Q rest a' w)
    (hMore : ∀ (x : Int) a' w', S x → x ∈ L → w'.rangeLeft b r < w.rangeLeft b r → (Instr.entry (.pointer (some ⟨r, 0, none⟩))).run E.P w' = .ok (.tuple #[.int .i64 x, .int .i64 (f x)]) w' →
      St E n sl vs bs w0 bs0 ps0 ((d, .tuple #[.bool true, .int .i64 x, .int .i64 (f x)]) :: fs) (fun w => rngM E.P k e w b r L f (fun u => S u ∧ u ≠ x)) a' w' → wpList E.P ops Q rest a' w') : wpList E.P ops Q (o :: rest) a w := by
  refine wpList_next_M w hg it hop k e hm.hk hm.he b r L f S hit hr (fun hS => ?_) fun x w' hS hL h3 h4 h5 _ h6 => ?_
  · rw [hd]; exact hDone hS _ (H.put _ h1 h2 hn)
  · rw [hd]; exact hMore x _ w' hS hL h4 h6 ((H.put _ h1 h2 hn).turn h5 (fun q hq => by cases hq; exact ⟨hrn, hrl, hr.obj⟩) h3)
theorem wpList_entry (hg : o.guard = none) (it : Operand) (hop : o.op = .entry it) {v u : Value} (hit : a.eval it = u) (hrun : (Instr.entry u).run E.P w = .ok v w) (hK : wpList E.P ops Q rest (a.put o.dst v) w) : wpList E.P ops Q (o :: rest) a w := by
  refine wpList_plain hg fun K hK' => ?_
  unfold Oper.wp
  simp [execOp, hop, hit, hrun, Result.andThen]
  exact hK' _ _ hK
theorem St.entry (H : St E n sl vs bs w0 bs0 ps0 fs W a w) (hg : o.guard = none) {i d : Nat} {v u : Value} (hop : o.op = .entry (.tmp i)) (hd : o.dst = some d) (hit : a.tmps.getD i undef = u) (hrun : (Instr.entry u).run E.P w = .ok v w) (h1 : sl.all (fun s => !Nat.beq s.1 d) = true) (h2 : fs.all (fun s => !Nat.beq s.1 d) = true) (hn : d < n)
    (hK : ∀ a', St E n sl vs bs w0 bs0 ps0 ((d, v) :: fs) W a' w → wpList E.P ops Q rest a' w) : wpList E.P ops Q (o :: rest) a w := by
  refine wpList_entry hg (.tmp i) hop (by rw [eval_tmp]; exact hit) hrun ?_
  rw [hd]
  exact hK _ (H.put v h1 h2 hn)
theorem Hr.know (H : Hr E n sl vs bs w0 bs0 ps0 a w) {s : Nat} (t : TypeId) {q : IntKind} {i : Int} (h : a.tmps.getD s undef = .int q i) : Hr E n (sl ++ [(s, t)]) (vs ++ [.int q i]) bs w0 bs0 ps0 a w := by
  obtain ⟨h1, h2, ps, hc, hv, hm⟩ := H
  refine ⟨h1, h2, ps, hc, ?_, hm⟩
  unfold slotVs
  rw [List.map_append]
  exact VL.append hv (by simp only [List.map_cons, List.map_nil, VL, V]; exact ⟨_, _, rfl, h, rfl⟩)
theorem St.know (H : St E n sl vs bs w0 bs0 ps0 fs W a w) {s : Nat} (t : TypeId) {q : IntKind} {i : Int} (h : a.tmps.getD s undef = .int q i) : St E n (sl ++ [(s, t)]) (vs ++ [.int q i]) bs w0 bs0 ps0 fs W a w := ⟨H.h.know t h, H.f, H.w⟩
end
end Go.Am
