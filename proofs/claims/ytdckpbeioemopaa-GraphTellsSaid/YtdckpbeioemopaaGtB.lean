/-
  Texts put together: GrSame, AmGraph, AmPlan, GtMade, GtLaw.
-/
import Derived.Test.YtdckpbeioemopaaGrChk
import Derived.Test.YtdckpbeioemopaaPureB
import Derived.Test.YtdckpbeioemopaaOfA
import Derived.Test.YtdckpbeioemopaaRplA
import Derived.Test.YtdckpbeioemopaaGtA
namespace Go.Proofs.Ytdckpbeioemopaa.Sg
open Go.Am Go Go.Proofs.Ytdckpbeioemopaa Go.Proofs.Ytdckpbeioemopaa.Jo
set_option maxRecDepth 100000
variable {B : Nat → Option Obj}
noncomputable def sC : Code := bodyC Try.f10
noncomputable def bS1 : Code := loopAt 4 (loopsOf sC)
noncomputable def bS2 : Code := loopAt 9 (loopsOf sC)
def sg1 : LSig := { cs := [(2, 0), (3, 0)], mv := [(5, 0)], mo := [(4, 0)], take := [] }
def sg2 : LSig := { cs := [(2, 0), (3, 0)], mv := [(6, 0)], mo := [(4, 0)], take := [] }
def vS (i : Int) : List AV := [.ptr 0 0 0, .ptr 1 0 0, i64 i]
def bsS (O : List Opr) (C : List Chn) (O' : List Opr) (C' : List Chn) : List Blk := [Jo.gBx 2 3, Jo.gBx 4 5, Jo.ob O, Jo.cb C, Jo.ob O', Jo.cb C']
def eqO (a b : Opr) : Bool := decide (a.kind = b.kind) && (decide (a.n = b.n) && true)
def eqC (a b : Chn) : Bool := decide (a.src = b.src) && (decide (a.out = b.out) && (decide (a.dst = b.dst) && (decide (a.inp = b.inp) && (decide (a.room = b.room) && true))))
def bS (O : List Opr) (O' : List Opr) (i : Nat) : Bool := !eqO (O.getD i default) (O'.getD i default)
def bT (C : List Chn) (C' : List Chn) (i : Nat) : Bool := !eqC (C.getD i default) (C'.getD i default)
theorem turn1 (O : List Opr) (C : List Chn) (O' : List Opr) (C' : List Chn) (i : Int) : (turn (E0 B) (Cx B []) noL 59 sg1 bS1 (vS i) (bsS O C O' C')).sel =
    bif decide (i < (O.length : Int)) then Jo.inb i O.length (Jo.inb i O'.length (bif !eqO (O.getD i.toNat default) (O'.getD i.toNat default) then some (.ret, ⟨[.bool false], bsS O C O' C'⟩) else some (.normal, ⟨vS (w64 (i + 1)), bsS O C O' C'⟩))) else some (.exit 0, ⟨[.any], bsS O C O' C'⟩) := by kernel_rfl
theorem turn2 (O : List Opr) (C : List Chn) (O' : List Opr) (C' : List Chn) (i : Int) : (turn (E0 B) (Cx B []) noL 59 sg2 bS2 (vS i) (bsS O C O' C')).sel =
    bif decide (i < (C.length : Int)) then Jo.inb i C.length (Jo.inb i C'.length (bif !eqC (C.getD i.toNat default) (C'.getD i.toNat default) then some (.ret, ⟨[.bool false], bsS O C O' C'⟩) else some (.normal, ⟨vS (w64 (i + 1)), bsS O C O' C'⟩))) else some (.exit 2, ⟨[.any], bsS O C O' C'⟩) := by kernel_rfl
def two (a b c d : TypeId) : Bool := decide (a = 31 ∧ b = 32 ∧ c = 31 ∧ d = 32)
def sp1 : LSpec
  | [.ptr 0 0 0, .ptr 1 0 0, .int .i64 i], [⟨true, .gen [a, b] [[.slw 2, .slw 3]]⟩, ⟨true, .gen [c, d] [[.slw 4, .slw 5]]⟩, ⟨false, .oprs O⟩, ⟨false, .chns C⟩, ⟨false, .oprs O'⟩, ⟨false, .chns C'⟩] =>
    .node (two a b c d && decide (i = 0 ∧ O.length = O'.length ∧ O.length ≤ 1000)) (.node ((List.range' 0 O.length).any (bS O O')) (.leaf (.ret, ⟨[.bool false], bsS O C O' C'⟩)) (.leaf (.exit 0, ⟨[.any], bsS O C O' C'⟩))) .bad
  | _, _ => .bad
def sp2 : LSpec
  | [.ptr 0 0 0, .ptr 1 0 0, .int .i64 i], [⟨true, .gen [a, b] [[.slw 2, .slw 3]]⟩, ⟨true, .gen [c, d] [[.slw 4, .slw 5]]⟩, ⟨false, .oprs O⟩, ⟨false, .chns C⟩, ⟨false, .oprs O'⟩, ⟨false, .chns C'⟩] =>
    .node (two a b c d && decide (i = 0 ∧ C.length = C'.length ∧ C.length ≤ 1000)) (.node ((List.range' 0 C.length).any (bT C C')) (.leaf (.ret, ⟨[.bool false], bsS O C O' C'⟩)) (.leaf (.exit 2, ⟨[.any], bsS O C O' C'⟩))) .bad
  | _, _ => .bad
theorem loop1 : LoopOk (E0 B) 59 sg1 bS1 sp1 := by
  refine loop_turns (C := Cx B []) (L := noL) (cxOk TbOk.nil) (noL_ok _) fun vs bs e o h => ?_
  unfold sp1 at h
  split at h
  · rename_i i a b c d O C O' C'
    rcases T.node_sel h with ⟨hc, h2⟩ | ⟨_, h2⟩
    · rw [Bool.and_eq_true] at hc
      obtain ⟨rfl, rfl, rfl, rfl⟩ := of_decide_eq_true hc.1
      obtain ⟨rfl, hl, hs⟩ := of_decide_eq_true hc.2
      obtain ⟨m, hm⟩ := scan_turns (E := E0 B) (C := Cx B []) (L := noL) (n := 59) (sg := sg1) (body := bS1) (st := fun k => vS k) (bs := bsS O C O' C') (len := O.length) (bad := bS O O') (ob := fun _ => ⟨[.bool false], bsS O C O' C'⟩) (k := 0) (oe := ⟨[.any], bsS O C O' C'⟩)
        (fun k hk => by
          refine (turn1 O C O' C' k).trans ?_
          by_cases hlt : k < O.length
          · rw [decide_eq_true (show (k : Int) < ((O.length : Nat) : Int) by omega), decide_eq_true hlt, cond_true, cond_true, En.inb_is hlt, En.inb_is (hl ▸ hlt), Int.toNat_natCast, w64_rng (show Rng ((k : Int) + 1) by unfold Rng; omega)]
            rfl
          · rw [decide_eq_false (show ¬ (k : Int) < ((O.length : Nat) : Int) by omega), decide_eq_false hlt]; rfl) O.length 0 (by omega)
      refine ⟨m, hm.trans ?_⟩
      have hf := firstB_any (bS O O') O.length 0
      rw [Nat.zero_add] at hf
      rw [hf, ← h2]
      rfl
    · simp [T.sel] at h2
  · simp [T.sel] at h
theorem loop2 : LoopOk (E0 B) 59 sg2 bS2 sp2 := by
  refine loop_turns (C := Cx B []) (L := noL) (cxOk TbOk.nil) (noL_ok _) fun vs bs e o h => ?_
  unfold sp2 at h
  split at h
  · rename_i i a b c d O C O' C'
    rcases T.node_sel h with ⟨hc, h2⟩ | ⟨_, h2⟩
    · rw [Bool.and_eq_true] at hc
      obtain ⟨rfl, rfl, rfl, rfl⟩ := of_decide_eq_true hc.1
      obtain ⟨rfl, hl, hs⟩ := of_decide_eq_true hc.2
      obtain ⟨m, hm⟩ := scan_turns (E := E0 B) (C := Cx B []) (L := noL) (n := 59) (sg := sg2) (body := bS2) (st := fun k => vS k) (bs := bsS O C O' C') (len := C.length) (bad := bT C C') (ob := fun _ => ⟨[.bool false], bsS O C O' C'⟩) (k := 2) (oe := ⟨[.any], bsS O C O' C'⟩)
        (fun k hk => by
          refine (turn2 O C O' C' k).trans ?_
          by_cases hlt : k < C.length
          · rw [decide_eq_true (show (k : Int) < ((C.length : Nat) : Int) by omega), decide_eq_true hlt, cond_true, cond_true, En.inb_is hlt, En.inb_is (hl ▸ hlt), Int.toNat_natCast, w64_rng (show Rng ((k : Int) + 1) by unfold Rng; omega)]
            rfl
          · rw [decide_eq_false (show ¬ (k : Int) < ((C.length : Nat) : Int) by omega), decide_eq_false hlt]; rfl) C.length 0 (by omega)
      refine ⟨m, hm.trans ?_⟩
      have hf := firstB_any (bT C C') C.length 0
      rw [Nat.zero_add] at hf
      rw [hf, ← h2]
      rfl
    · simp [T.sel] at h2
  · simp [T.sel] at h
noncomputable def e1 : LEnt := { id := 4, n := 59, sg := sg1, wr := writes bS1, s := sp1 }
noncomputable def e2 : LEnt := { id := 9, n := 59, sg := sg2, wr := writes bS2, s := sp2 }
theorem tSame (O : List Opr) (C : List Chn) (O' : List Opr) (C' : List Chn) : runL B [] [e1, e2] Try.f10 [.agg [.slw 0, .slw 1], .agg [.slw 2, .slw 3]] [Jo.ob O, Jo.cb C, Jo.ob O', Jo.cb C'] =
    bif !decide ((O.length : Int) = (O'.length : Int)) then some ⟨[.bool false], []⟩ else bif !decide ((C.length : Int) = (C'.length : Int)) then some ⟨[.bool false], []⟩ else
      Gk.gd (two 31 32 31 32 && decide ((0 : Int) = 0 ∧ O.length = O'.length ∧ O.length ≤ 1000)) (bif (List.range' 0 O.length).any (bS O O') then some ⟨[.bool false], []⟩ else
        Gk.gd (two 31 32 31 32 && decide ((0 : Int) = 0 ∧ C.length = C'.length ∧ C.length ≤ 1000)) (bif (List.range' 0 C.length).any (bT C C') then some ⟨[.bool false], []⟩ else some ⟨[.bool true], []⟩)) := by kernel_rfl
def smB (O : List Opr) (C : List Chn) (O' : List Opr) (C' : List Chn) : Bool := decide (O.length = O'.length) && (decide (C.length = C'.length) && (!(List.range' 0 O.length).any (bS O O') && !(List.range' 0 C.length).any (bT C C')))
def sSm : FSpec
  | [.agg [.slw 0, .slw 1], .agg [.slw 2, .slw 3]], [⟨false, .oprs O⟩, ⟨false, .chns C⟩, ⟨false, .oprs O'⟩, ⟨false, .chns C'⟩] => .node (decide (O.length ≤ 1000 ∧ C.length ≤ 1000)) (.leaf ⟨[.bool (smB O C O' C')], []⟩) .bad
  | _, _ => .bad
theorem okSm : FnOk (E0 B) 10 sSm := by
  refine fnL TbOk.nil (ls := [e1, e2]) Try.func10 (by kernel_rfl) (by kernel_rfl) (fun x hx => ?_) fun vs bs r h => ?_
  · simp only [List.mem_cons, List.mem_nil_iff, or_false] at hx
    rcases hx with rfl | rfl
    · exact ⟨bS1, by kernel_rfl, rfl, loop1⟩
    · exact ⟨bS2, by kernel_rfl, rfl, loop2⟩
  · unfold sSm at h
    split at h
    · rename_i O C O' C'
      rcases T.node_sel h with ⟨hc, h2⟩ | ⟨_, h2⟩
      · obtain ⟨h3, h4⟩ := of_decide_eq_true hc
        simp only [T.sel, Option.some.injEq] at h2
        subst h2
        refine (tSame O C O' C').trans ?_
        unfold smB Gk.gd
        by_cases hO : O.length = O'.length
        · by_cases hC : C.length = C'.length
          · rw [decide_eq_true (show (O.length : Int) = (O'.length : Int) by omega), decide_eq_true (show (C.length : Int) = (C'.length : Int) by omega), decide_eq_true (show (0 : Int) = 0 ∧ O.length = O'.length ∧ O.length ≤ 1000 from ⟨rfl, hO, h3⟩), decide_eq_true (show (0 : Int) = 0 ∧ C.length = C'.length ∧ C.length ≤ 1000 from ⟨rfl, hC, h4⟩), decide_eq_true hO, decide_eq_true hC]
            cases (List.range' 0 O.length).any (bS O O') <;> cases (List.range' 0 C.length).any (bT C C') <;> rfl
          · rw [decide_eq_true (show (O.length : Int) = (O'.length : Int) by omega), decide_eq_false (show ¬ (C.length : Int) = (C'.length : Int) by omega), decide_eq_false hC, decide_eq_true hO]; rfl
        · rw [decide_eq_false (show ¬ (O.length : Int) = (O'.length : Int) by omega), decide_eq_false hO]; rfl
      · simp [T.sel] at h2
    · simp [T.sel] at h
theorem sm_refl (O : List Opr) (C : List Chn) : smB O C O C = true := by
  unfold smB
  have h1 : (List.range' 0 O.length).any (bS O O) = false := by
    rw [List.any_eq_false]; intro i _; simp [bS, eqO]
  have h2 : (List.range' 0 C.length).any (bT C C) = false := by
    rw [List.any_eq_false]; intro i _; simp [bT, eqC]
  rw [h1, h2, decide_eq_true rfl, decide_eq_true rfl]; rfl
end Go.Proofs.Ytdckpbeioemopaa.Sg
namespace Go.Am
open Go.RowKit Go.WideShapes Go.ChangeShapes
section
variable {H : Type} {enc : TypeId × Value → H} {P : Program} {w : World} {base : Nat} {spare : Nat → Bool} {held : Bool}
def oprWf (x : Opr) : Prop := (Lit.int .u8 x.kind).wf = true ∧ (Lit.int .i64 x.n).wf = true
def chnWf (x : Chn) : Prop := (Lit.int .i64 x.src).wf = true ∧ (Lit.int .i64 x.out).wf = true ∧ (Lit.int .i64 x.dst).wf = true ∧ (Lit.int .i64 x.inp).wf = true ∧ (Lit.int .i64 x.room).wf = true
theorem opr_elem {e : TypeId} {f0 f1 : Field} (he : P.underlying e = some (.struct #[f0, f1])) (hc : P.cellsOf e = 2) (o0 : f0.offset = 0) (o1 : f1.offset = 1) (c0 : P.cellsOf f0.type = 1) (c1 : P.cellsOf f1.type = 1)
    (h0 : P.underlying f0.type = some (.int .u8)) (h1 : P.underlying f1.type = some (.int .i64)) (n : Nat) (cs : List Value) (y : DataW H × List MemPlace) (h : DataW.trod enc P w base spare held n e cs = some y) :
    ∃ x : Opr, VL (fun _ => none) x.enc cs ∧ oprWf x := by
  obtain ⟨xs, n', _, _, hl, hxl, hf⟩ := DataW.trod_struct he h
  rw [hc] at hl
  match cs, hl with
  | [a, b], _ =>
    have hx : xs.length = 2 := hxl
    match xs, hx with
    | [y0, y1], _ =>
      have g0 := hf 0 f0 rfl
      have g1 := hf 1 f1 rfl
      rw [o0, c0] at g0
      rw [o1, c1] at g1
      obtain ⟨k, e0, _, w0⟩ := DataW.trod_int h0 g0
      obtain ⟨n1, e1, _, w1⟩ := DataW.trod_int h1 g1
      simp only [List.drop_zero, List.take_succ_cons, List.take_zero, List.drop_succ_cons, List.cons.injEq, and_true] at e0 e1
      subst e0 e1
      refine ⟨⟨k, n1⟩, ?_, w0, w1⟩
      simp only [Opr.enc, VL, V]
      exact ⟨_, _, rfl, rfl, _, _, rfl, rfl, rfl⟩
theorem chn_elem {e : TypeId} {f0 f1 f2 f3 f4 : Field} (he : P.underlying e = some (.struct #[f0, f1, f2, f3, f4])) (hc : P.cellsOf e = 5) (o0 : f0.offset = 0) (o1 : f1.offset = 1) (o2 : f2.offset = 2) (o3 : f3.offset = 3) (o4 : f4.offset = 4)
    (c0 : P.cellsOf f0.type = 1) (c1 : P.cellsOf f1.type = 1) (c2 : P.cellsOf f2.type = 1) (c3 : P.cellsOf f3.type = 1) (c4 : P.cellsOf f4.type = 1)
    (h0 : P.underlying f0.type = some (.int .i64)) (h1 : P.underlying f1.type = some (.int .i64)) (h2 : P.underlying f2.type = some (.int .i64)) (h3 : P.underlying f3.type = some (.int .i64)) (h4 : P.underlying f4.type = some (.int .i64))
    (n : Nat) (cs : List Value) (y : DataW H × List MemPlace) (h : DataW.trod enc P w base spare held n e cs = some y) :
    ∃ x : Chn, VL (fun _ => none) x.enc cs ∧ chnWf x := by
  obtain ⟨xs, n', _, _, hl, hxl, hf⟩ := DataW.trod_struct he h
  rw [hc] at hl
  match cs, hl with
  | [a, b, c, d, e'], _ =>
    have hx : xs.length = 5 := hxl
    match xs, hx with
    | [y0, y1, y2, y3, y4], _ =>
      have g0 := hf 0 f0 rfl
      have g1 := hf 1 f1 rfl
      have g2 := hf 2 f2 rfl
      have g3 := hf 3 f3 rfl
      have g4 := hf 4 f4 rfl
      rw [o0, c0] at g0
      rw [o1, c1] at g1
      rw [o2, c2] at g2
      rw [o3, c3] at g3
      rw [o4, c4] at g4
      obtain ⟨k, e0, _, w0⟩ := DataW.trod_int h0 g0
      obtain ⟨n1, e1, _, w1⟩ := DataW.trod_int h1 g1
      obtain ⟨n2, e2, _, w2⟩ := DataW.trod_int h2 g2
      obtain ⟨n3, e3, _, w3⟩ := DataW.trod_int h3 g3
      obtain ⟨n4, e4, _, w4⟩ := DataW.trod_int h4 g4
      simp only [List.drop_zero, List.take_succ_cons, List.take_zero, List.drop_succ_cons, List.cons.injEq, and_true] at e0 e1 e2 e3 e4
      subst e0 e1 e2 e3 e4
      refine ⟨⟨k, n1, n2, n3, n4⟩, ?_, w0, w1, w2, w3, w4⟩
      simp only [Chn.enc, VL, V]
      exact ⟨_, _, rfl, rfl, _, _, rfl, rfl, _, _, rfl, rfl, _, _, rfl, rfl, _, _, rfl, rfl, rfl⟩
def OprsAt (w : World) (L : List Opr) (p : Pos) : Prop := p.stride = 2 ∧ p.len = L.length ∧ p.len ≤ p.cap ∧ p.cap ≤ maxLen ∧ ∀ i, i < L.length → ∀ j av, ((L.getD i default).enc)[j]? = some av → ∃ c, w.cell? (p.addr i j) = some c ∧ V (fun _ => none) av c
def ChnsAt (w : World) (L : List Chn) (p : Pos) : Prop := p.stride = 5 ∧ p.len = L.length ∧ p.len ≤ p.cap ∧ p.cap ≤ maxLen ∧ ∀ i, i < L.length → ∀ j av, ((L.getD i default).enc)[j]? = some av → ∃ c, w.cell? (p.addr i j) = some c ∧ V (fun _ => none) av c
theorem OprsAt.rd {w : World} {L : List Opr} {p : Pos} (h : OprsAt w L p) : RdD w (.oprs L) p := ⟨h.1, h.2.1, h.2.2.1, h.2.2.2.1, fun _ _ => ⟨rfl, rfl⟩, h.2.2.2.2⟩
theorem ChnsAt.rd {w : World} {L : List Chn} {p : Pos} (h : ChnsAt w L p) : RdD w (.chns L) p := ⟨h.1, h.2.1, h.2.2.1, h.2.2.2.1, fun _ _ => ⟨rfl, rfl⟩, h.2.2.2.2⟩
structure GrT (P : Program) (t ol cl eO eC : TypeId) (f0 f1 : Field) : Prop where
  ht : P.underlying t = some (.struct #[f0, f1])
  hts : P.cellTypes P.depth t = some [ol, cl]
  hn : P.cellsOf t = 2
  o0 : f0.offset = 0
  o1 : f1.offset = 1
  c0 : P.cellsOf f0.type = 1
  c1 : P.cellsOf f1.type = 1
  t0 : f0.type = ol
  t1 : f1.type = cl
  hl : P.underlying ol = some (.slice eO)
  hk : P.underlying cl = some (.slice eC)
  h1 : P.cellsOf eO = 2
  h2 : P.cellsOf eC = 5
def GraphV (w : World) (O : List Opr) (C : List Chn) (p0 p1 : Pos) (v : Value) : Prop :=
  ∃ v0 v1, v = .agg #[v0, v1] ∧ V (fun _ => some p0) (.slw 0) v0 ∧ V (fun _ => some p1) (.slw 0) v1 ∧ OprsAt w O p0 ∧ ChnsAt w C p1
def graphAv (a b : Nat) : AV := .agg [.slw a, .slw b]
theorem GraphV.at' {w : World} {O : List Opr} {C : List Chn} {p0 p1 : Pos} {v : Value} (h : GraphV w O C p0 p1 v) {ps : List Pos} {a b : Nat} (ha : ps[a]? = some p0) (hb : ps[b]? = some p1) : V (psRho ps) (graphAv a b) v := by
  obtain ⟨v0, v1, rfl, h0, h1, _⟩ := h
  unfold graphAv
  simp only [V]
  refine ⟨_, rfl, ?_⟩
  simp only [VL]
  exact ⟨_, _, rfl, slw_at ha h0, _, _, rfl, slw_at hb h1, rfl⟩
def OprEl (enc : TypeId × Value → H) (P : Program) (w : World) (base : Nat) (spare : Nat → Bool) (held : Bool) (e : TypeId) : Prop :=
  ∀ (n : Nat) (cs : List Value) (y : DataW H × List MemPlace), DataW.trod enc P w base spare held n e cs = some y → ∃ x : Opr, VL (fun _ => none) x.enc cs ∧ oprWf x
def ChnEl (enc : TypeId × Value → H) (P : Program) (w : World) (base : Nat) (spare : Nat → Bool) (held : Bool) (e : TypeId) : Prop :=
  ∀ (n : Nat) (cs : List Value) (y : DataW H × List MemPlace), DataW.trod enc P w base spare held n e cs = some y → ∃ x : Chn, VL (fun _ => none) x.enc cs ∧ chnWf x
theorem graph_arg {t ol cl eO eC : TypeId} {f0 f1 : Field} (S : GrT P t ol cl eO eC f0 f1) (hO : OprEl enc P w base spare held eO) (hC : ChnEl enc P w base spare held eC) {b0 : Nat} {v : Value} {d : DataW H} {ps : List MemPlace}
    (hval : Value.okWide P w .any b0 t v) (h : DataW.Trod enc P w base spare held t v d ps) : ∃ O C p0 p1, GraphV w O C p0 p1 v ∧ (∀ x ∈ O, oprWf x) ∧ ∀ x ∈ C, chnWf x := by
  simp only [Value.okWide, S.ht] at hval
  obtain ⟨cs, rfl, hs, ts', h1, _, h2⟩ := hval
  rw [S.hts] at h1
  cases h1
  have hcs : cs.toList.length = 2 := by rw [Array.length_toList, hs, S.hn]
  obtain ⟨n, h⟩ := h
  have hok0 : ∀ (i : Nat) v u, cs.toList[i]? = some v → [ol, cl][i]? = some u → Cell.okWide P w .any b0 u v := fun i v u hi hu => by
    obtain ⟨u', hu', hok⟩ := h2 i v (by simpa using hi)
    have hlt : i < 2 := (List.getElem?_eq_some_iff.1 hu).1
    rw [show [ol, cl].length = 2 from rfl, Nat.mod_eq_of_lt hlt, hu] at hu'
    cases hu'
    exact hok
  obtain ⟨c0, c1, hc⟩ : ∃ c0 c1, cs.toList = [c0, c1] := by
    match hc : cs.toList, hcs with
    | [c0, c1], _ => exact ⟨c0, c1, rfl⟩
  have h : DataW.trod enc P w base spare held n t [c0, c1] = some (d, ps) := by
    rw [← hc]; simpa [Value.cells] using h
  obtain ⟨xs, n', _, _, _, hxl, hf⟩ := DataW.trod_struct S.ht h
  have k0 := hf 0 f0 rfl
  have k1 := hf 1 f1 rfl
  rw [S.o0, S.c0, S.t0] at k0
  rw [S.o1, S.c1, S.t1] at k1
  simp only [List.drop_succ_cons, List.drop_zero, List.take_succ_cons, List.take_zero] at k0 k1
  have hx : xs.length = 2 := hxl
  obtain ⟨y0, e0⟩ : ∃ y, xs[0]? = some y := ⟨_, List.getElem?_eq_getElem (by omega)⟩
  obtain ⟨y1, e1⟩ : ∃ y, xs[1]? = some y := ⟨_, List.getElem?_eq_getElem (by omega)⟩
  rw [e0] at k0
  rw [e1] at k1
  have v0 := cell_slice S.hl (hok0 0 c0 _ (by rw [hc]; rfl) rfl)
  have v1 := cell_slice S.hk (hok0 1 c1 _ (by rw [hc]; rfl) rfl)
  have tr0 : DataW.Trod enc P w base spare held ol c0 y0.1 y0.2 := by
    have hv := v0
    obtain ⟨_, _, _, rfl⟩ := okWide_slice S.hl hv
    exact ⟨n', k0⟩
  have tr1 : DataW.Trod enc P w base spare held cl c1 y1.1 y1.2 := by
    have hv := v1
    obtain ⟨_, _, _, rfl⟩ := okWide_slice S.hk hv
    exact ⟨n', k1⟩
  obtain ⟨L1, p1, r1, s1, s2, s3, s4, q1, s5⟩ := slice_arg Opr.enc oprWf S.hl v0 tr0 hO
  obtain ⟨L2, p2, r2, u1, u2, u3, u4, q2, u5⟩ := slice_arg Chn.enc chnWf S.hk v1 tr1 hC
  refine ⟨L1, L2, p1, p2, ⟨c0, c1, ?_, r1, r2, ⟨s1.trans S.h1, s2, s3, s4, s5⟩, ⟨u1.trans S.h2, u2, u3, u4, u5⟩⟩, q1, q2⟩
  have : cs = [c0, c1].toArray := by rw [← hc]
  rw [this]
end
end Go.Am
namespace Go.Am
open Go.RowKit Go.WideShapes Go.ChangeShapes
section
variable {H : Type} {enc : TypeId × Value → H} {P : Program} {w : World} {base : Nat} {spare : Nat → Bool} {held : Bool}
structure PlanT (P : Program) (t sl u8 q : TypeId) (qs : List TypeId) (f0 f1 : Field) : Prop where
  ht : P.underlying t = some (.struct #[f0, f1])
  hts : P.cellTypes P.depth t = some (sl :: qs)
  hn : P.cellsOf t = 11
  hq : P.cellsOf q = 10
  hqs : qs.length = 10
  o0 : f0.offset = 0
  o1 : f1.offset = 1
  c0 : P.cellsOf f0.type = 1
  t0 : f0.type = sl
  t1 : f1.type = q
  hu : P.underlying u8 = some (.int .u8)
  hl : P.underlying sl = some (.slice u8)
  h1 : P.cellsOf u8 = 1
def BytsAt (w : World) (L : List Int) (p : Pos) : Prop := p.stride = 1 ∧ p.len = L.length ∧ p.len ≤ p.cap ∧ p.cap ≤ maxLen ∧ ∀ i, i < L.length → ∀ j av, ([AV.int .u8 (L.getD i default)])[j]? = some av → ∃ c, w.cell? (p.addr i j) = some c ∧ V (fun _ => none) av c
theorem BytsAt.rd {w : World} {L : List Int} {p : Pos} (h : BytsAt w L p) : RdD w (.ints .u8 L) p := rd_ints h.1 h.2.1 h.2.2.1 h.2.2.2.1 h.2.2.2.2
def planAv (q : Qry) (s a b c : Nat) : AV := .agg [.slw s, .int .u8 q.agg, .slw a, .slw b, .bool q.join, .slw c, .int .u8 q.wk, .int .i64 q.ws, .int .i64 q.we, .bool q.byKey, .int .u8 q.late]
def PlanV (w : World) (q : Qry) (st : List Int) (ps p0 p1 p2 : Pos) (v : Value) : Prop :=
  ∃ v0 v1 v2 v4, v = .agg #[v0, .int .u8 q.agg, v1, v2, .bool q.join, v4, .int .u8 q.wk, .int .i64 q.ws, .int .i64 q.we, .bool q.byKey, .int .u8 q.late] ∧ V (fun _ => some ps) (.slw 0) v0 ∧ V (fun _ => some p0) (.slw 0) v1 ∧ V (fun _ => some p1) (.slw 0) v2 ∧ V (fun _ => some p2) (.slw 0) v4 ∧
    BytsAt w st ps ∧ NodsAt w q.arg p0 ∧ IntsAt w q.src p1 ∧ NodsAt w q.whr p2
theorem PlanV.at' {w : World} {q : Qry} {st : List Int} {pp p0 p1 p2 : Pos} {v : Value} (h : PlanV w q st pp p0 p1 p2 v) {ps : List Pos} {s a b c : Nat} (hs : ps[s]? = some pp) (ha : ps[a]? = some p0) (hb : ps[b]? = some p1) (hc : ps[c]? = some p2) : V (psRho ps) (planAv q s a b c) v := by
  obtain ⟨v0, v1, v2, v4, rfl, h0, h1, h2, h4, _⟩ := h
  unfold planAv
  simp only [V]
  refine ⟨_, rfl, ?_⟩
  simp only [VL]
  exact ⟨_, _, rfl, slw_at hs h0, _, _, rfl, (by simp only [V]), _, _, rfl, slw_at ha h1, _, _, rfl, slw_at hb h2, _, _, rfl, (by simp only [V]), _, _, rfl, slw_at hc h4, _, _, rfl, (by simp only [V]), _, _, rfl, (by simp only [V]), _, _, rfl, (by simp only [V]), _, _, rfl, (by simp only [V]), _, _, rfl, (by simp only [V]), rfl⟩
def bytWf (st : List Int) : Prop := ∀ x ∈ st, (Lit.int .u8 x).wf = true
theorem plan_arg {t sl u q u8 nl il b i64 eN eI : TypeId} {g0 g1 f0 f1 f2 f3 f4 f5 f6 f7 : Field} (S : PlanT P t sl u q (qTys u8 nl il b i64) g0 g1) (T : QryT P q u8 nl il b i64 eN eI f0 f1 f2 f3 f4 f5 f6 f7) (hel : NodEl enc P w base spare held eN) {b0 : Nat} {v : Value} {d : DataW H} {ps : List MemPlace}
    (hval : Value.okWide P w .any b0 t v) (h : DataW.Trod enc P w base spare held t v d ps) : ∃ c st pp p0 p1 p2, PlanV w c st pp p0 p1 p2 v ∧ qryWf c ∧ bytWf st := by
  simp only [Value.okWide, S.ht] at hval
  obtain ⟨cs, rfl, hs, ts', h1, _, h2⟩ := hval
  rw [S.hts] at h1
  cases h1
  have hcs : cs.toList.length = 11 := by rw [Array.length_toList, hs, S.hn]
  obtain ⟨n, h⟩ := h
  have hok0 : ∀ (i : Nat) v u, cs.toList[i]? = some v → (sl :: qTys u8 nl il b i64)[i]? = some u → Cell.okWide P w .any b0 u v := fun i v u hi hu => by
    obtain ⟨u', hu', hok⟩ := h2 i v (by simpa using hi)
    have hlt : i < 11 := (List.getElem?_eq_some_iff.1 hu).1
    rw [show (sl :: qTys u8 nl il b i64).length = 11 from rfl, Nat.mod_eq_of_lt hlt, hu] at hu'
    cases hu'
    exact hok
  have hl' : ∃ c0 l, cs.toList = c0 :: l ∧ l.length = 10 := by
    cases hc : cs.toList with
    | nil => rw [hc] at hcs; cases hcs
    | cons c0 l => exact ⟨c0, l, rfl, by rw [hc] at hcs; simpa using hcs⟩
  obtain ⟨c0, l, hc, hll⟩ := hl'
  have hok : ∀ (i : Nat) v u, (c0 :: l)[i]? = some v → (sl :: qTys u8 nl il b i64)[i]? = some u → Cell.okWide P w .any b0 u v := fun i v u hv hu => hok0 i v u (by rw [hc]; exact hv) hu
  have h : DataW.trod enc P w base spare held n t (c0 :: l) = some (d, ps) := by
    rw [← hc]; simpa [Value.cells] using h
  obtain ⟨xs, n', _, _, _, hxl, hf⟩ := DataW.trod_struct S.ht h
  have k0 := hf 0 g0 rfl
  have k1 := hf 1 g1 rfl
  rw [S.o0, S.c0, S.t0] at k0
  rw [S.o1, S.t1, S.hq] at k1
  simp only [List.drop_succ_cons, List.drop_zero, List.take_succ_cons, List.take_zero] at k0 k1
  rw [List.take_of_length_le (by omega)] at k1
  have hx : xs.length = 2 := hxl
  obtain ⟨y0, e0⟩ : ∃ y, xs[0]? = some y := ⟨_, List.getElem?_eq_getElem (by omega)⟩
  obtain ⟨y1, e1⟩ : ∃ y, xs[1]? = some y := ⟨_, List.getElem?_eq_getElem (by omega)⟩
  rw [e0] at k0
  rw [e1] at k1
  have v0 := cell_slice S.hl (hok 0 c0 _ rfl rfl)
  have tr : DataW.Trod enc P w base spare held sl c0 y0.1 y0.2 := by
    have hv := v0
    obtain ⟨_, _, _, rfl⟩ := okWide_slice S.hl hv
    exact ⟨n', k0⟩
  obtain ⟨L1, p1, r1, s1, s2, s3, s4, q1, s5⟩ := slice_arg (fun n : Int => [.int .u8 n]) (fun n => (Lit.int .u8 n).wf = true) S.hl v0 tr (int_elem S.hu)
  obtain ⟨c, pa, pb, pc, ⟨v1, v2, v4, hq0, w1, w2, w4, n0, i0, m0⟩, hwf⟩ := qry_cells T hel hll (fun i v u hv hu => hok (i + 1) v u (by simpa using hv) (by simpa using hu)) k1
  refine ⟨c, L1, p1, pa, pb, pc, ⟨c0, v1, v2, v4, ?_, r1, w1, w2, w4, ⟨s1.trans S.h1, s2, s3, s4, s5⟩, n0, i0, m0⟩, hwf, q1⟩
  have hl2 : l = [.int .u8 c.agg, v1, v2, .bool c.join, v4, .int .u8 c.wk, .int .i64 c.ws, .int .i64 c.we, .bool c.byKey, .int .u8 c.late] := by
    have := hq0
    simp only [Value.agg.injEq] at this
    have h3 := congrArg Array.toList this
    simpa using h3
  have : cs = (c0 :: l).toArray := by rw [← hc]
  rw [this, hl2]
end
end Go.Am
namespace Go.Proofs.Ytdckpbeioemopaa.Tm
open Go.Am Go Go.Proofs.Ytdckpbeioemopaa Go.Proofs.Ytdckpbeioemopaa.Gr Go.Proofs.Ytdckpbeioemopaa.Gf
set_option maxRecDepth 100000
variable {B : Nat → Option Obj}
noncomputable def libM : Tb := (18, [], Rp.sChkR) :: Ck.lib15
theorem libM_ok : TbOk B libM := Ck.lib15_ok.add Rp.okChkR
theorem okMb : FnOk (E0 B) 19 (fun _ _ => .bad) := by
  refine fnT libM_ok Try.func19 (by kernel_rfl) (by kernel_rfl) fun vs bs r h => ?_
  simp [T.sel] at h
noncomputable def libMe : Tb := (19, [], fun _ _ => .bad) :: libM
theorem libMe_ok : TbOk B libMe := libM_ok.add okMb
theorem tErr (st : List Int) (q : Qry) (p room : Int) : runT B libMe Try.f7 [Pl.plAv q 0 1 2 3, i64 p, i64 room] (Pl.plBs false st q) =
   gdO (st.all inByte) (bif !decide (Pl.plE st q = 0) then eO (Pl.plE st q) else bif decide (p < 1) then eO 2 else bif decide (3 < p) then eO 2 else bif decide (room < 1) then eO 2 else bif decide (8 < room) then eO 2 else none) := by kernel_rfl
def chkR (st : List Int) (q : Qry) (room : Int) (x : Option Out) : Option Out := gdO (st.all inByte) (bif !decide (Pl.plE st q = 0) then eO (Pl.plE st q) else bif decide (room < 1) then eO 2 else bif decide (8 < room) then eO 2 else x)
noncomputable abbrev runM (B : Nat → Option Obj) (st : List Int) (q : Qry) (p room : Int) : Option Out := runT B libM Try.f7 [Pl.plAv q 0 1 2 3, i64 p, i64 room] (Pl.plBs false st q)
theorem tM1 (bk sd : Bool) (p : Nat) (hp : p = 1 ∨ p = 2 ∨ p = 3) (st : List Int) (ag wk ws we s1 : Int) (A W : List Nod) (room : Int) : runM B st (qr ag A [s1] false W wk ws we bk (ltO sd)) p room =
   chkR st (qr ag A [s1] false W wk ws we bk (ltO sd)) room (gO 1 p bk false sd room) := by
  rcases hp with rfl | rfl | rfl <;> cases bk <;> cases sd <;> kernel_rfl
theorem tM2 (bk sd j : Bool) (p : Nat) (hp : p = 1 ∨ p = 2 ∨ p = 3) (st : List Int) (ag wk ws we s1 s2 : Int) (A W : List Nod) (room : Int) : runM B st (qr ag A [s1, s2] j W wk ws we bk (ltO sd)) p room =
   chkR st (qr ag A [s1, s2] j W wk ws we bk (ltO sd)) room (gO 2 p bk j sd room) := by
  rcases hp with rfl | rfl | rfl <;> cases bk <;> cases sd <;> cases j <;> kernel_rfl
theorem tM3 (bk sd : Bool) (p : Nat) (hp : p = 1 ∨ p = 2 ∨ p = 3) (st : List Int) (ag wk ws we s1 s2 s3 : Int) (A W : List Nod) (room : Int) : runM B st (qr ag A [s1, s2, s3] false W wk ws we bk (ltO sd)) p room =
   chkR st (qr ag A [s1, s2, s3] false W wk ws we bk (ltO sd)) room (gO 3 p bk false sd room) := by
  rcases hp with rfl | rfl | rfl <;> cases bk <;> cases sd <;> kernel_rfl
theorem tM4 (bk sd : Bool) (p : Nat) (hp : p = 1 ∨ p = 2 ∨ p = 3) (st : List Int) (ag wk ws we s1 s2 s3 s4 : Int) (A W : List Nod) (room : Int) : runM B st (qr ag A [s1, s2, s3, s4] false W wk ws we bk (ltO sd)) p room =
   chkR st (qr ag A [s1, s2, s3, s4] false W wk ws we bk (ltO sd)) room (gO 4 p bk false sd room) := by
  rcases hp with rfl | rfl | rfl <;> cases bk <;> cases sd <;> kernel_rfl
theorem okRe : FnOk (E0 B) 7 (fun vs bs => fnRun (E0 B) (Cx B libMe) (inlL (E0 B) (Cx B libMe) 450) Try.f7 (bodyC Try.f7) vs bs) :=
  fnT libMe_ok Try.func7 (by kernel_rfl) (by kernel_rfl) fun vs bs r h => h
theorem okRg : FnOk (E0 B) 7 (fun vs bs => fnRun (E0 B) (Cx B libM) (inlL (E0 B) (Cx B libM) 450) Try.f7 (bodyC Try.f7) vs bs) :=
  fnT libM_ok Try.func7 (by kernel_rfl) (by kernel_rfl) fun vs bs r h => h
theorem chk_good {st : List Int} {q : Qry} {room : Int} (x : Option Out) (hb : st.all inByte = true) (h0 : Pl.plE st q = 0) (h1 : 1 ≤ room) (h8 : room ≤ 8) : chkR st q room x = x := by
  unfold chkR gdO
  rw [hb, h0, decide_eq_false (show ¬ room < 1 by omega), decide_eq_false (show ¬ 8 < room by omega)]; rfl
theorem run_good {st : List Int} {q : Qry} {p room : Int} (hb : st.all inByte = true) (h0 : Pl.plE st q = 0) (p1 : 1 ≤ p) (p3 : p ≤ 3) (r1 : 1 ≤ room) (r8 : room ≤ 8) :
    runM B st q p room = gO q.src.length p.toNat q.byKey q.join (decide (q.late = 2)) room := by
  obtain ⟨hlt, hn1, hn4, hj⟩ := src_len (Pl.ckE_clk (Pl.plE_0 h0).1)
  obtain ⟨n, rfl⟩ : ∃ n : Nat, p = (n : Int) := ⟨p.toNat, by omega⟩
  have hp : n = 1 ∨ n = 2 ∨ n = 3 := by omega
  obtain ⟨ag, A, S, j, W, wk, ws, we, bk, lt⟩ := q
  obtain ⟨sd, rfl⟩ : ∃ sd, lt = ltO sd := by
    rcases hlt with h | h
    · exact ⟨false, h⟩
    · exact ⟨true, h⟩
  have hsd : decide (ltO sd = 2) = sd := by cases sd <;> rfl
  simp only at hn1 hn4 hj ⊢
  rw [Int.toNat_natCast, hsd]
  match S, hn1, hn4, hj with
  | [s1], _, _, hj =>
    cases j with
    | true => exact absurd (hj rfl) (by simp)
    | false => exact (tM1 bk sd n hp st ag wk ws we s1 A W room).trans (chk_good _ hb h0 r1 r8)
  | [s1, s2], _, _, _ => exact (tM2 bk sd j n hp st ag wk ws we s1 s2 A W room).trans (chk_good _ hb h0 r1 r8)
  | [s1, s2, s3], _, _, hj =>
    cases j with
    | true => exact absurd (hj rfl) (by simp)
    | false => exact (tM3 bk sd n hp st ag wk ws we s1 s2 s3 A W room).trans (chk_good _ hb h0 r1 r8)
  | [s1, s2, s3, s4], _, _, hj =>
    cases j with
    | true => exact absurd (hj rfl) (by simp)
    | false => exact (tM4 bk sd n hp st ag wk ws we s1 s2 s3 s4 A W room).trans (chk_good _ hb h0 r1 r8)
theorem run_err {st : List Int} {q : Qry} {p room : Int} (hb : st.all inByte = true) (h0 : ofE st q p room ≠ 0) :
    runT B libMe Try.f7 [Pl.plAv q 0 1 2 3, i64 p, i64 room] (Pl.plBs false st q) = eO (ofE st q p room) := by
  rw [tErr, hb]
  unfold gdO ofE at *
  rw [cond_true]
  by_cases h1 : Pl.plE st q = 0
  · rw [decide_eq_true h1] at h0 ⊢
    simp only [Bool.not_true, cond_false] at h0 ⊢
    by_cases hc : 1 ≤ p ∧ p ≤ 3 ∧ 1 ≤ room ∧ room ≤ 8
    · rw [decide_eq_true hc] at h0; exact absurd rfl h0
    · rw [decide_eq_false hc, cond_false]
      by_cases c1 : p < 1
      · rw [decide_eq_true c1]; rfl
      by_cases c2 : 3 < p
      · rw [decide_eq_false c1, decide_eq_true c2]; rfl
      by_cases c3 : room < 1
      · rw [decide_eq_false c1, decide_eq_false c2, decide_eq_true c3]; rfl
      by_cases c4 : 8 < room
      · rw [decide_eq_false c1, decide_eq_false c2, decide_eq_false c3, decide_eq_true c4]; rfl
      · exact absurd ⟨by omega, by omega, by omega, by omega⟩ hc
  · rw [decide_eq_false h1]; rfl
def ofK (e : Bool) (st : List Int) (q : Qry) (p room : Int) : Out := bif e then ⟨[.agg [.slw 0, .slw 1], i64 0], [⟨true, .oprs (ofO q.src.length p.toNat q.byKey q.join (decide (q.late = 2)))⟩, ⟨true, .chns (ofC q.src.length p.toNat q.byKey (decide (q.late = 2)) room)⟩]⟩
  else ⟨[.agg [.slw 0, .slw 1], i64 (ofE st q p room)], [⟨true, .oprs []⟩, ⟨true, .chns []⟩]⟩
def isB (e : Bool) (n : Int) : Bool := bif e then decide (n = 0) else !decide (n = 0)
def sOfK (e : Bool) : FSpec
  | [.agg [.slw 0, .int .u8 ag, .slw 1, .slw 2, .bool j, .slw 3, .int .u8 wk, .int .i64 ws, .int .i64 we, .bool bk, .int .u8 lt], .int .i64 p, .int .i64 room], [⟨false, .ints .u8 st⟩, ⟨false, .nodes A⟩, ⟨false, .ints .i64 S⟩, ⟨false, .nodes W⟩] =>
    .node (isB e (ofE st ⟨ag, A, S, j, W, wk, ws, we, bk, lt⟩ p room) && (st.all inByte && decide (st.length ≤ 1000))) (.leaf (ofK e st ⟨ag, A, S, j, W, wk, ws, we, bk, lt⟩ p room)) .bad
  | _, _ => .bad
theorem isB_of {e : Bool} {n : Int} (h : isB e n = true) : decide (n = 0) = e := by
  cases e with
  | true => exact h
  | false => simpa [isB] using h
theorem okOfK (e : Bool) : FnOk (E0 B) 6 (sOfK e) := by
  refine or_spec Gf.okOf Gf.okOf fun vs bs r h => Or.inl ?_
  unfold sOfK at h
  split at h
  · rename_i ag j wk ws we bk lt p room st A S W
    rcases T.node_sel h with ⟨hc, h2⟩ | ⟨_, h2⟩
    · rw [Bool.and_eq_true, Bool.and_eq_true] at hc
      have he := isB_of hc.1
      simp only [T.sel, Option.some.injEq] at h2; subst h2
      unfold Gf.sOf ofT
      simp only [T.sel, Bool.true_and]
      rw [hc.2.2, cond_true]
      unfold ofOut ofK
      rw [he]
    · simp [T.sel] at h2
  · simp [T.sel] at h
theorem okOfR (e : Bool) : FnOk (E0 B) 7 (sOfK e) := by
  refine or_spec okRe okRg fun vs bs r h => ?_
  unfold sOfK at h
  split at h
  · rename_i ag j wk ws we bk lt p room st A S W
    rcases T.node_sel h with ⟨hc, h2⟩ | ⟨_, h2⟩
    · rw [Bool.and_eq_true, Bool.and_eq_true] at hc
      have he := isB_of hc.1
      simp only [T.sel, Option.some.injEq] at h2; subst h2
      cases e with
      | false => exact Or.inl (run_err (q := ⟨ag, A, S, j, W, wk, ws, we, bk, lt⟩) hc.2.1 (of_decide_eq_false he))
      | true =>
        right
        have hh := of_decide_eq_true he
        unfold ofE at hh
        by_cases h1 : Pl.plE st ⟨ag, A, S, j, W, wk, ws, we, bk, lt⟩ = 0
        · rw [decide_eq_true h1] at hh
          by_cases hcc : 1 ≤ p ∧ p ≤ 3 ∧ 1 ≤ room ∧ room ≤ 8
          · exact run_good (q := ⟨ag, A, S, j, W, wk, ws, we, bk, lt⟩) hc.2.1 h1 hcc.1 hcc.2.1 hcc.2.2.1 hcc.2.2.2
          · rw [decide_eq_false hcc] at hh; cases hh
        · rw [decide_eq_false h1] at hh
          exact absurd hh h1
    · simp [T.sel] at h2
  · simp [T.sel] at h
end Go.Proofs.Ytdckpbeioemopaa.Tm
namespace Go.Proofs.Ytdckpbeioemopaa.Tl
open Go.Am Go Go.Proofs.Ytdckpbeioemopaa Go.Proofs.Ytdckpbeioemopaa.Gr Go.Proofs.Ytdckpbeioemopaa.Gf
set_option maxRecDepth 100000
variable {B : Nat → Option Obj}
def sOrdK (c : Bool) : FSpec
  | [.agg [.slw 0, .slw 1]], [⟨false, .oprs O⟩, ⟨false, .chns C⟩] => .node (Tm.isB c (Gk.chkN O C)) (.leaf (bif c then ⟨[.slw 0, i64 0], [⟨true, .ints .i64 (ordN O.length C)⟩]⟩ else ⟨[.slw 0, i64 (Gk.chkN O C)], [⟨true, .ints .i64 []⟩]⟩)) .bad
  | _, _ => .bad
theorem ord_sel {c : Bool} {vs : List AV} {bs : List Blk} {r : Out} (h : (sOrdK c vs bs).sel = some r) : (Gk.sOrder vs bs).sel = some r := by
  unfold sOrdK at h
  split at h
  · rename_i O C
    rcases T.node_sel h with ⟨hc, h2⟩ | ⟨_, h2⟩
    · have he := Tm.isB_of hc
      simp only [T.sel, Option.some.injEq] at h2; subst h2
      unfold Gk.sOrder
      simp only [T.sel]
      rw [he]
      cases c <;> rfl
    · simp [T.sel] at h2
  · simp [T.sel] at h
theorem okOrdK (c : Bool) : FnOk (E0 B) 8 (sOrdK c) := or_spec Gk.okOrder Gk.okOrder fun _ _ _ h => Or.inl (ord_sel h)
theorem okOrdRK (c : Bool) : FnOk (E0 B) 9 (sOrdK c) := or_spec To.okOrdR To.okOrdR fun _ _ _ h => Or.inl (ord_sel h)
def sSmW : FSpec
  | [.agg [.slw 0, .slw 1], .agg [.slw 2, .slw 3]], [⟨false, .oprs O⟩, ⟨false, .chns C⟩, ⟨false, .oprs O'⟩, ⟨false, .chns C'⟩] => .node (decide (O = O' ∧ C = C' ∧ O.length ≤ 1000 ∧ C.length ≤ 1000)) (.leaf ⟨[.bool true], []⟩) .bad
  | _, _ => .bad
theorem okSmW : FnOk (E0 B) 10 sSmW := by
  refine or_spec Sg.okSm Sg.okSm fun vs bs r h => Or.inl ?_
  unfold sSmW at h
  split at h
  · rename_i O C O' C'
    rcases T.node_sel h with ⟨hc, h2⟩ | ⟨_, h2⟩
    · obtain ⟨rfl, rfl, h3, h4⟩ := of_decide_eq_true hc
      simp only [T.sel, Option.some.injEq] at h2; subst h2
      unfold Sg.sSm
      simp only [T.sel]
      rw [decide_eq_true (show O.length ≤ 1000 ∧ C.length ≤ 1000 from ⟨h3, h4⟩), Sg.sm_refl]; rfl
    · simp [T.sel] at h2
  · simp [T.sel] at h
def sChkK (c : Bool) : FSpec
  | [.agg [.slw 0, .slw 1]], [⟨false, .oprs O⟩, ⟨false, .chns C⟩] => .node (Tm.isB c (Gk.chkN O C)) (.leaf (bif c then ⟨[i64 0], []⟩ else ⟨[i64 (Gk.chkN O C)], []⟩)) .bad
  | _, _ => .bad
theorem chk_sel {c : Bool} {vs : List AV} {bs : List Blk} {r : Out} (h : (sChkK c vs bs).sel = some r) : (Gk.sChk vs bs).sel = some r := by
  unfold sChkK at h
  split at h
  · rename_i O C
    rcases T.node_sel h with ⟨hc, h2⟩ | ⟨_, h2⟩
    · have he := Tm.isB_of hc
      simp only [T.sel, Option.some.injEq] at h2; subst h2
      unfold Gk.sChk
      simp only [T.sel, Option.some.injEq]
      cases c with
      | true => rw [of_decide_eq_true he]; rfl
      | false => rfl
    · simp [T.sel] at h2
  · simp [T.sel] at h
theorem okChkK (c : Bool) : FnOk (E0 B) 12 (sChkK c) := or_spec Gk.okChk Gk.okChk fun _ _ _ h => Or.inl (chk_sel h)
theorem okChkRK (c : Bool) : FnOk (E0 B) 13 (sChkK c) := or_spec Rc.okCk Rc.okCk fun _ _ _ h => Or.inl (chk_sel h)
noncomputable def libT (e c : Bool) : Tb := (6, [], Tm.sOfK e) :: (7, [], Tm.sOfK e) :: (8, [], sOrdK c) :: (9, [], sOrdK c) :: (10, [], sSmW) :: (11, [], To.sInts) :: (12, [], sChkK c) :: (13, [], sChkK c) :: []
theorem libT_ok (e c : Bool) : TbOk B (libT e c) := (((((((TbOk.nil.add (okChkRK c)).add (okChkK c)).add To.okInts).add okSmW).add (okOrdRK c)).add (okOrdK c)).add (Tm.okOfR e)).add (Tm.okOfK e)
def ask (st : List Int) (q : Qry) (O : List Opr) (C : List Chn) (z : Option Out) : Option Out := bif decide (70 < (q.arg.length : Int)) then rb true else bif decide (70 < (q.whr.length : Int)) then rb true else bif decide (10 < (q.src.length : Int)) then rb true else bif decide (30 < (st.length : Int)) then rb true else bif decide (30 < (O.length : Int)) then rb true else bif decide (120 < (C.length : Int)) then rb true else z
def gOf (e : Bool) (st : List Int) (q : Qry) (p room : Int) (z : Option Out) : Option Out := Gk.gd (Tm.isB e (ofE st q p room) && (st.all inByte && decide (st.length ≤ 1000))) z
def gCk (c : Bool) (O : List Opr) (C : List Chn) (z : Option Out) : Option Out := Gk.gd (Tm.isB c (Gk.chkN O C)) z
def gSm (O O' : List Opr) (C C' : List Chn) (z : Option Out) : Option Out := Gk.gd (decide (O = O' ∧ C = C' ∧ O.length ≤ 1000 ∧ C.length ≤ 1000)) z
def gIn (a b : List Int) (z : Option Out) : Option Out := Gk.gd (decide (a = b ∧ a.length ≤ 1000)) z
def gE (x : Int) (z : Option Out) : Option Out := bif decide (x = x) then z else rb false
noncomputable abbrev runK (B : Nat → Option Obj) (e c : Bool) (st : List Int) (q : Qry) (p room : Int) (O : List Opr) (C : List Chn) : Option Out :=
  runT B (libT e c) Try.f3 [Pl.plAv q 0 1 2 3, i64 p, i64 room, .agg [.slw 4, .slw 5]] (Pl.plBs false st q ++ [Jo.ob O, Jo.cb C])
theorem tTT (st : List Int) (q : Qry) (p room : Int) (O : List Opr) (C : List Chn) : runK B true true st q p room O C =
    ask st q O C (gOf true st q p room (gOf true st q p room (gCk true O C (gCk true O C (gSm (ofO q.src.length p.toNat q.byKey q.join (decide (q.late = 2))) (ofO q.src.length p.toNat q.byKey q.join (decide (q.late = 2))) (ofC q.src.length p.toNat q.byKey (decide (q.late = 2)) room) (ofC q.src.length p.toNat q.byKey (decide (q.late = 2)) room)
      (gIn (ordN O.length C) (ordN O.length C) (gCk true O C (gCk true O C (rb true))))))))) := by kernel_rfl
theorem tTF (st : List Int) (q : Qry) (p room : Int) (O : List Opr) (C : List Chn) : runK B true false st q p room O C =
    ask st q O C (gOf true st q p room (gOf true st q p room (gCk false O C (gCk false O C (gSm (ofO q.src.length p.toNat q.byKey q.join (decide (q.late = 2))) (ofO q.src.length p.toNat q.byKey q.join (decide (q.late = 2))) (ofC q.src.length p.toNat q.byKey (decide (q.late = 2)) room) (ofC q.src.length p.toNat q.byKey (decide (q.late = 2)) room)
      (gIn [] [] (gE (Gk.chkN O C) (gCk false O C (gCk false O C (rb (decide (Gk.chkN O C = Gk.chkN O C)))))))))))) := by kernel_rfl
theorem tFT (st : List Int) (q : Qry) (p room : Int) (O : List Opr) (C : List Chn) : runK B false true st q p room O C =
    ask st q O C (gOf false st q p room (gOf false st q p room (gCk true O C (gCk true O C (gSm [] [] [] [] (gE (ofE st q p room) (gIn (ordN O.length C) (ordN O.length C) (gCk true O C (gCk true O C (rb true)))))))))) := by kernel_rfl
theorem tFF (st : List Int) (q : Qry) (p room : Int) (O : List Opr) (C : List Chn) : runK B false false st q p room O C =
    ask st q O C (gOf false st q p room (gOf false st q p room (gCk false O C (gCk false O C (gSm [] [] [] [] (gE (ofE st q p room) (gIn [] [] (gE (Gk.chkN O C) (gCk false O C (gCk false O C (rb (decide (Gk.chkN O C = Gk.chkN O C))))))))))))) := by kernel_rfl
theorem gd_t {b : Bool} (h : b = true) (z : Option Out) : Gk.gd b z = z := by rw [h]; rfl
theorem ck_e {c : Bool} {O : List Opr} {C : List Chn} (h : Tm.isB c (Gk.chkN O C) = true) (z : Option Out) : gCk c O C z = z := gd_t h z
theorem gE_is (x : Int) (z : Option Out) : gE x z = z := by
  unfold gE
  rw [decide_eq_true rfl]; rfl
theorem ask_is {st : List Int} {q : Qry} {O : List Opr} {C : List Chn} {z : Option Out} (h : st.length ≤ 30 → z = rb true) : ask st q O C z = rb true := by
  unfold ask
  cases decide (70 < (q.arg.length : Int)) with
  | true => rfl
  | false =>
  cases decide (70 < (q.whr.length : Int)) with
  | true => rfl
  | false =>
  cases decide (10 < (q.src.length : Int)) with
  | true => rfl
  | false =>
  by_cases hs : 30 < (st.length : Int)
  · rw [decide_eq_true hs]; rfl
  rw [decide_eq_false hs]
  cases decide (30 < (O.length : Int)) with
  | true => rfl
  | false =>
  cases decide (120 < (C.length : Int)) with
  | true => rfl
  | false => exact h (by omega)
theorem ofE_0 {st : List Int} {q : Qry} {p room : Int} (h : ofE st q p room = 0) : Pl.plE st q = 0 ∧ 1 ≤ p ∧ p ≤ 3 := by
  unfold ofE at h
  by_cases h1 : Pl.plE st q = 0
  · rw [decide_eq_true h1] at h
    by_cases hcc : 1 ≤ p ∧ p ≤ 3 ∧ 1 ≤ room ∧ room ≤ 8
    · exact ⟨h1, hcc.1, hcc.2.1⟩
    · rw [decide_eq_false hcc] at h; cases h
  · rw [decide_eq_false h1] at h
    exact absurd h h1
def lenT (n p : Nat) : Bool := [true, false].all fun bk => [true, false].all fun sd => [true, false].all fun j => decide ((ofO n p bk j sd).length ≤ 1000 ∧ (ofC n p bk sd 0).length ≤ 1000)
theorem lenC (n p : Nat) (bk sd : Bool) (room : Int) : (ofC n p bk sd room).length = (ofC n p bk sd 0).length := by
  unfold ofC
  cases bk <;> cases sd <;> simp [List.length_flatMap]
theorem len_at {n p : Nat} (hn : n = 1 ∨ n = 2 ∨ n = 3 ∨ n = 4) (hp : p = 1 ∨ p = 2 ∨ p = 3) (bk j sd : Bool) (room : Int) : (ofO n p bk j sd).length ≤ 1000 ∧ (ofC n p bk sd room).length ≤ 1000 := by
  rw [lenC]
  have key : lenT n p = true := by
    rcases hn with rfl | rfl | rfl | rfl <;> rcases hp with rfl | rfl | rfl <;> decide +kernel
  have h2 := List.all_eq_true.1 key bk (by cases bk <;> simp)
  have h3 := List.all_eq_true.1 h2 sd (by cases sd <;> simp)
  exact of_decide_eq_true (List.all_eq_true.1 h3 j (by cases j <;> simp))
theorem sm_is {st : List Int} {q : Qry} {p room : Int} (h : ofE st q p room = 0) (z : Option Out) : gSm (ofO q.src.length p.toNat q.byKey q.join (decide (q.late = 2))) (ofO q.src.length p.toNat q.byKey q.join (decide (q.late = 2))) (ofC q.src.length p.toNat q.byKey (decide (q.late = 2)) room) (ofC q.src.length p.toNat q.byKey (decide (q.late = 2)) room) z = z := by
  obtain ⟨h0, p1, p3⟩ := ofE_0 h
  obtain ⟨_, hn1, hn4, _⟩ := src_len (Pl.ckE_clk (Pl.plE_0 h0).1)
  obtain ⟨a, b⟩ := len_at (n := q.src.length) (p := p.toNat) (by omega) (by omega) q.byKey q.join (decide (q.late = 2)) room
  exact gd_t (decide_eq_true ⟨rfl, rfl, a, b⟩) z
theorem in_is {O : List Opr} {C : List Chn} (h : Tm.isB true (Gk.chkN O C) = true) (z : Option Out) : gIn (ordN O.length C) (ordN O.length C) z = z := by
  obtain ⟨hO, _, _⟩ := Gk.chk0 (of_decide_eq_true h)
  have := (ordN_end O.length C).1.le
  exact gd_t (decide_eq_true ⟨rfl, by omega⟩) z
theorem tells_is {e c : Bool} {st : List Int} {q : Qry} {p room : Int} {O : List Opr} {C : List Chn} (hb : st.all inByte = true) (he : Tm.isB e (ofE st q p room) = true) (hc : Tm.isB c (Gk.chkN O C) = true) : runK B e c st q p room O C = rb true := by
  have hof : st.length ≤ 30 → ∀ z, gOf e st q p room z = z := fun hl z => gd_t (by rw [he, hb, decide_eq_true (show st.length ≤ 1000 by omega)]; rfl) z
  have hn : ∀ z, gIn [] [] z = z := fun z => gd_t (by decide) z
  have hs : ∀ z, gSm [] [] [] [] z = z := fun z => gd_t (by decide) z
  have hr : rb (decide (Gk.chkN O C = Gk.chkN O C)) = rb true := by rw [decide_eq_true rfl]
  cases e <;> cases c
  · rw [tFF]
    exact ask_is fun hl => by rw [hof hl, hof hl, ck_e hc, ck_e hc, hs, gE_is, hn, gE_is, ck_e hc, ck_e hc, hr]
  · rw [tFT]
    exact ask_is fun hl => by rw [hof hl, hof hl, ck_e hc, ck_e hc, hs, gE_is, in_is hc, ck_e hc, ck_e hc]
  · rw [tTF]
    exact ask_is fun hl => by rw [hof hl, hof hl, ck_e hc, ck_e hc, sm_is (of_decide_eq_true he), hn, gE_is, ck_e hc, ck_e hc, hr]
  · rw [tTT]
    exact ask_is fun hl => by rw [hof hl, hof hl, ck_e hc, ck_e hc, sm_is (of_decide_eq_true he), in_is hc, ck_e hc, ck_e hc]
def sTell (e c : Bool) : FSpec
  | [.agg [.slw 0, .int .u8 ag, .slw 1, .slw 2, .bool j, .slw 3, .int .u8 wk, .int .i64 ws, .int .i64 we, .bool bk, .int .u8 lt], .int .i64 p, .int .i64 room, .agg [.slw 4, .slw 5]], [⟨false, .ints .u8 st⟩, ⟨false, .nodes A⟩, ⟨false, .ints .i64 S⟩, ⟨false, .nodes W⟩, ⟨false, .oprs O⟩, ⟨false, .chns C⟩] =>
    .node (st.all inByte && (Tm.isB e (ofE st ⟨ag, A, S, j, W, wk, ws, we, bk, lt⟩ p room) && Tm.isB c (Gk.chkN O C))) (.leaf ⟨[.bool true], []⟩) .bad
  | _, _ => .bad
theorem okTell (e c : Bool) : FnOk (E0 B) 3 (sTell e c) := by
  refine fnT (libT_ok e c) Try.func3 (by kernel_rfl) (by kernel_rfl) fun vs bs r h => ?_
  unfold sTell at h
  split at h
  · rename_i ag j wk ws we bk lt p room st A S W O C
    rcases T.node_sel h with ⟨hc, h2⟩ | ⟨_, h2⟩
    · rw [Bool.and_eq_true, Bool.and_eq_true] at hc
      simp only [T.sel, Option.some.injEq] at h2; subst h2
      exact tells_is (q := ⟨ag, A, S, j, W, wk, ws, we, bk, lt⟩) hc.1 hc.2.1 hc.2.2
    · simp [T.sel] at h2
  · simp [T.sel] at h
theorem byT {st : List Int} (hb : bytWf st) : st.all inByte = true := List.all_eq_true.2 fun x hx => by simpa [inByte, Lit.wf, IntKind.min, IntKind.max, IntKind.signed, IntKind.bits] using hb x hx
theorem isB_dec (n : Int) : Tm.isB (decide (n = 0)) n = true := by
  unfold Tm.isB
  cases decide (n = 0) <;> rfl
theorem tell_sel {q : Qry} {st : List Int} {p r : Int} {O : List Opr} {C : List Chn} (hb : bytWf st) : (sTell (decide (ofE st q p r = 0)) (decide (Gk.chkN O C = 0)) [planAv q 0 1 2 3, i64 p, i64 r, graphAv 4 5] [⟨false, .ints .u8 st⟩, ⟨false, .nodes q.arg⟩, ⟨false, .ints .i64 q.src⟩, ⟨false, .nodes q.whr⟩, ⟨false, .oprs O⟩, ⟨false, .chns C⟩]).sel = some ⟨[.bool true], []⟩ := by
  show (bif st.all inByte && (Tm.isB (decide (ofE st q p r = 0)) (ofE st q p r) && Tm.isB (decide (Gk.chkN O C = 0)) (Gk.chkN O C)) then _ else _) = _
  rw [byT hb, isB_dec, isB_dec]; rfl
end Go.Proofs.Ytdckpbeioemopaa.Tl
