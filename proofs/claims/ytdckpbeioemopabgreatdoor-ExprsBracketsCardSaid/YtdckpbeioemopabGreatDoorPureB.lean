/-
  Texts put together: QryPure, AmWrap, AmQry, AmTok, ExBinds.
-/
import Derived.Test.YtdckpbeioemopabGreatDoorPureA
import Derived.Test.YtdckpbeioemopabGreatDoorLibB
import Derived.HandedShaped
import Derived.Handed
import Derived.Shelf.Vars
import Derived.Test.YtdckpbeioemopabGreatDoorExA
namespace Go.Am
structure Qry where
  agg : Int
  arg : List Nod
  src : List Int
  join : Bool
  whr : List Nod
  wk : Int
  ws : Int
  we : Int
  byKey : Bool
  late : Int
  deriving Inhabited
def Qry.av (q : Qry) (a b c : Nat) : AV := .agg [.int .u8 q.agg, .slw a, .slw b, .bool q.join, .slw c, .int .u8 q.wk, .int .i64 q.ws, .int .i64 q.we, .bool q.byKey, .int .u8 q.late]
end Go.Am
namespace Go.Am
open Go
section
variable {H : Type} {enc : TypeId × Value → H}
end
inductive CK where
  | int (k : IntKind)
  | bool
  | str
end Go.Am
namespace Go.Am
open Go.RowKit Go.WideShapes Go.ChangeShapes
section
variable {H : Type} {enc : TypeId × Value → H} {P : Program} {w : World} {base : Nat} {spare : Nat → Bool} {held : Bool}
theorem nod_elem {e : TypeId} {f0 f1 f2 f3 f4 : Field} (he : P.underlying e = some (.struct #[f0, f1, f2, f3, f4])) (hc : P.cellsOf e = 5) (o0 : f0.offset = 0) (o1 : f1.offset = 1) (o2 : f2.offset = 2) (o3 : f3.offset = 3) (o4 : f4.offset = 4)
    (c0 : P.cellsOf f0.type = 1) (c1 : P.cellsOf f1.type = 1) (c2 : P.cellsOf f2.type = 1) (c3 : P.cellsOf f3.type = 1) (c4 : P.cellsOf f4.type = 1)
    (h0 : P.underlying f0.type = some (.int .u8)) (h1 : P.underlying f1.type = some (.int .i64)) (h2 : P.underlying f2.type = some (.int .i64)) (h3 : P.underlying f3.type = some (.int .i64)) (h4 : P.underlying f4.type = some (.int .i64))
    (n : Nat) (cs : List Value) (y : DataW H × List MemPlace) (h : DataW.trod enc P w base spare held n e cs = some y) :
    ∃ x : Nod, VL (fun _ => none) x.enc cs ∧ ((Lit.int .u8 x.kind).wf = true ∧ (Lit.int .i64 x.n).wf = true ∧ (Lit.int .i64 x.a).wf = true ∧ (Lit.int .i64 x.b).wf = true ∧ (Lit.int .i64 x.pos).wf = true) := by
  obtain ⟨xs, n', _, _, hl, hxl, hf⟩ := DataW.trod_struct he h
  rw [hc] at hl
  match cs, hl with
  | [a, b, c, d, e'], _ =>
    have hx : xs.length = 5 := hxl
    match xs, hx with
    | [y0, y1, y2, y3, y4], _ =>
      have g0 := hf 0 f0 rfl
      have g1 := hf 1 f1 rfl
      have g2 := hf 2 f2 rfl
      have g3 := hf 3 f3 rfl
      have g4 := hf 4 f4 rfl
      rw [o0, c0] at g0
      rw [o1, c1] at g1
      rw [o2, c2] at g2
      rw [o3, c3] at g3
      rw [o4, c4] at g4
      obtain ⟨k, e0, _, w0⟩ := DataW.trod_int h0 g0
      obtain ⟨n1, e1, _, w1⟩ := DataW.trod_int h1 g1
      obtain ⟨n2, e2, _, w2⟩ := DataW.trod_int h2 g2
      obtain ⟨n3, e3, _, w3⟩ := DataW.trod_int h3 g3
      obtain ⟨n4, e4, _, w4⟩ := DataW.trod_int h4 g4
      simp only [List.drop_zero, List.take_succ_cons, List.take_zero, List.drop_succ_cons, List.cons.injEq, and_true] at e0 e1 e2 e3 e4
      subst e0 e1 e2 e3 e4
      refine ⟨⟨k, n1, n2, n3, n4⟩, ?_, w0, w1, w2, w3, w4⟩
      simp only [Nod.enc, VL, V]
      exact ⟨_, _, rfl, rfl, _, _, rfl, rfl, _, _, rfl, rfl, _, _, rfl, rfl, _, _, rfl, rfl, rfl⟩
end
theorem rd_nodes {w : World} {p : Pos} {L : List Nod} (h1 : p.stride = 5) (h2 : p.len = L.length) (h3 : p.len ≤ p.cap) (h4 : p.cap ≤ maxLen)
    (h5 : ∀ i, i < L.length → ∀ j av, ((L.getD i default).enc)[j]? = some av → ∃ c, w.cell? (p.addr i j) = some c ∧ V (fun _ => none) av c) : RdD w (.nodes L) p :=
  ⟨h1, h2, h3, h4, fun _ _ => ⟨rfl, rfl⟩, h5⟩
def qTys (u8 nl il b i64 : TypeId) : List TypeId := [u8, nl, il, b, nl, u8, i64, i64, b, u8]
section
variable {H : Type} {enc : TypeId × Value → H} {P : Program} {w : World} {base : Nat} {spare : Nat → Bool} {held : Bool}
def nodWf (x : Nod) : Prop := (Lit.int .u8 x.kind).wf = true ∧ (Lit.int .i64 x.n).wf = true ∧ (Lit.int .i64 x.a).wf = true ∧ (Lit.int .i64 x.b).wf = true ∧ (Lit.int .i64 x.pos).wf = true
structure QryT (P : Program) (t u8 nl il b i64 eN eI : TypeId) (f0 f1 f2 f3 f4 f5 f6 f7 : Field) : Prop where
  ht : P.underlying t = some (.struct #[f0, f1, f2, f3, f4, f5, f6, f7])
  hts : P.cellTypes P.depth t = some (qTys u8 nl il b i64)
  hn : P.cellsOf t = 10
  o1 : f1.offset = 1
  o2 : f2.offset = 2
  o4 : f4.offset = 4
  c1 : P.cellsOf f1.type = 1
  c2 : P.cellsOf f2.type = 1
  c4 : P.cellsOf f4.type = 1
  t1 : f1.type = nl
  t2 : f2.type = il
  t4 : f4.type = nl
  hu : P.underlying u8 = some (.int .u8)
  hb : P.underlying b = some .bool
  hi : P.underlying i64 = some (.int .i64)
  hl : P.underlying nl = some (.slice eN)
  hk : P.underlying il = some (.slice eI)
  he : P.underlying eI = some (.int .i64)
  hc : P.cellsOf eN = 5
  hd : P.cellsOf eI = 1
end
end Go.Am
namespace Go.Am
open Go.RowKit Go.WideShapes Go.ChangeShapes
section
variable {H : Type} {enc : TypeId × Value → H} {P : Program} {w : World} {base : Nat} {spare : Nat → Bool} {held : Bool}
def tokWf (x : Tok) : Prop := (Lit.int .u8 x.kind).wf = true ∧ (Lit.int .i64 x.pos).wf = true ∧ x.text.length ≤ maxLen
theorem tok_elemL {e : TypeId} {f0 f1 f2 : Field} (he : P.underlying e = some (.struct #[f0, f1, f2])) (hc : P.cellsOf e = 3) (o0 : f0.offset = 0) (o1 : f1.offset = 1) (o2 : f2.offset = 2)
    (c0 : P.cellsOf f0.type = 1) (c1 : P.cellsOf f1.type = 1) (c2 : P.cellsOf f2.type = 1) (h0 : P.underlying f0.type = some (.int .u8)) (h1 : P.underlying f1.type = some .string) (h2 : P.underlying f2.type = some (.int .i64))
    (n : Nat) (cs : List Value) (y : DataW H × List MemPlace) (h : DataW.trod enc P w base spare held n e cs = some y) :
    ∃ x : Tok, VL (fun _ => none) x.enc cs ∧ tokWf x := by
  obtain ⟨xs, n', _, _, hl, hxl, hf⟩ := DataW.trod_struct he h
  rw [hc] at hl
  match cs, hl with
  | [a, b, c], _ =>
    have hx : xs.length = 3 := hxl
    match xs, hx with
    | [y0, y1, y2], _ =>
      have g0 := hf 0 f0 rfl
      have g1 := hf 1 f1 rfl
      have g2 := hf 2 f2 rfl
      rw [o0, c0] at g0
      rw [o1, c1] at g1
      rw [o2, c2] at g2
      obtain ⟨k, e0, _, w0⟩ := DataW.trod_int h0 g0
      obtain ⟨s, e1, _, w1⟩ := DataW.trod_string h1 g1
      obtain ⟨p, e2, _, w2⟩ := DataW.trod_int h2 g2
      simp only [List.drop_zero, List.take_succ_cons, List.take_zero, List.drop_succ_cons, List.cons.injEq, and_true] at e0 e1 e2
      subst e0 e1 e2
      refine ⟨⟨k, s.data.toList, p⟩, ?_, w0, w2, ?_⟩
      · simp only [Tok.enc, VL, V]
        exact ⟨_, _, rfl, rfl, _, _, rfl, (by rw [bytes_mk]), _, _, rfl, rfl, rfl⟩
      · have h3 := w1
        rw [Lib.size_eq] at h3
        exact h3
theorem tok_arg {e : TypeId} {f0 f1 f2 : Field} (he : P.underlying e = some (.struct #[f0, f1, f2])) (hc : P.cellsOf e = 3) (o0 : f0.offset = 0) (o1 : f1.offset = 1) (o2 : f2.offset = 2)
    (c0 : P.cellsOf f0.type = 1) (c1 : P.cellsOf f1.type = 1) (c2 : P.cellsOf f2.type = 1) (h0 : P.underlying f0.type = some (.int .u8)) (h1 : P.underlying f1.type = some .string) (h2 : P.underlying f2.type = some (.int .i64))
    {b0 : Nat} {v : Value} {d : DataW H} {ps : List MemPlace} (hval : Value.okWide P w .any b0 e v) (h : DataW.Trod enc P w base spare held e v d ps) :
    ∃ x : Tok, V (fun _ => none) (.agg x.enc) v ∧ tokWf x := by
  simp only [Value.okWide, he] at hval
  obtain ⟨cs, rfl, _, _, _, _, _⟩ := hval
  obtain ⟨n, h⟩ := h
  have h : DataW.trod enc P w base spare held n e cs.toList = some (d, ps) := by simpa [Value.cells] using h
  obtain ⟨x, hx, hw⟩ := tok_elemL he hc o0 o1 o2 c0 c1 c2 h0 h1 h2 n cs.toList (d, ps) h
  exact ⟨x, by simp only [V]; exact ⟨_, rfl, hx⟩, hw⟩
theorem tok_any {x : Tok} {v : Value} (g : V (fun _ => none) (.agg x.enc) v) {ρ : Rho} : V ρ (.agg x.enc) v := by
  simp only [Tok.enc, V, VL] at g ⊢
  exact g
end
end Go.Am
namespace Go.Am
open Go.Lib
def brB (g : List UInt8) (e : Ex) : List Pc := brk true g fun g => e.pcs true g 0
theorem gr_brB {g : List UInt8} {e : Ex} (h : e.ok = true) (hr : e.rng = true) {ts : List Tok} (ht : ts.map Tok.kt = (brB g e).map Pc.kt) : ∃ e', e'.st = e.st ∧ Gr .P e' ts :=
  gr_brk (e := e) (n := 1) (least := 9) (by omega) (by omega) (by omega) rfl (fun g => pcs_gap true e g 0) (fun ts ht => gr_pcs true e [] 0 ts h hr (by omega) ht) ht
theorem pcOk_brB {g : List UInt8} {e : Ex} (h : e.ok = true) (hr : e.rng = true) (hg : g.all (fun c => decide (kd c = 1)) = true) {rest : List Pc} (hn : nice rest = true) (hrest : pcOk rest = true) : pcOk (brB g e ++ rest) = true :=
  pcOk_brk hg hn hrest fun g rest hg hn hr' => pcOk_ex true e g 0 rest h hr hg hn hr'
structure Three (k1 k2 : Int) (x y z : Ex) (ts : List Tok) where
  xs : List Tok
  t1 : Tok
  ys : List Tok
  t2 : Tok
  zs : List Tok
  x' : Ex
  y' : Ex
  z' : Ex
  e : ts = xs ++ t1 :: (ys ++ t2 :: zs)
  hx : x'.st = x.st
  hy : y'.st = y.st
  hz : z'.st = z.st
  gx : Gr .P x' xs
  gy : Gr .P y' ys
  gz : Gr .P z' zs
  c1 : t1.kind = opTk k1
  o1 : t1.text = opT k1
  c2 : t2.kind = opTk k2
  o2 : t2.text = opT k2
section
variable {k1 k2 : Int} (a1 : 7 ≤ k1) (a2 : k1 ≤ 19) (b1 : 7 ≤ k2) (b2 : k2 ≤ 19) {x y z : Ex} {ts : List Tok}
include a1 a2 b1 b2
end
end Go.Am
