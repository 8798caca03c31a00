/-
  AM3: a plan among a law's arguments: its steps, and its query.
-/
import Derived.Test.YtdckpbeioemopaaGreatDoorPureB
namespace Go.Am
open Go.RowKit Go.WideShapes Go.ChangeShapes
section
variable {H : Type} {enc : TypeId × Value → H} {P : Program} {w : World} {base : Nat} {spare : Nat → Bool} {held : Bool}
structure PlanT (P : Program) (t sl u8 q : TypeId) (qs : List TypeId) (f0 f1 : Field) : Prop where
  ht : P.underlying t = some (.struct #[f0, f1])
  hts : P.cellTypes P.depth t = some (sl :: qs)
  hn : P.cellsOf t = 11
  hq : P.cellsOf q = 10
  hqs : qs.length = 10
  o0 : f0.offset = 0
  o1 : f1.offset = 1
  c0 : P.cellsOf f0.type = 1
  t0 : f0.type = sl
  t1 : f1.type = q
  hu : P.underlying u8 = some (.int .u8)
  hl : P.underlying sl = some (.slice u8)
  h1 : P.cellsOf u8 = 1
def BytsAt (w : World) (L : List Int) (p : Pos) : Prop := p.stride = 1 ∧ p.len = L.length ∧ p.len ≤ p.cap ∧ p.cap ≤ maxLen ∧ ∀ i, i < L.length → ∀ j av, ([AV.int .u8 (L.getD i default)])[j]? = some av → ∃ c, w.cell? (p.addr i j) = some c ∧ V (fun _ => none) av c
theorem BytsAt.rd {w : World} {L : List Int} {p : Pos} (h : BytsAt w L p) : RdD w (.ints .u8 L) p := rd_ints h.1 h.2.1 h.2.2.1 h.2.2.2.1 h.2.2.2.2
def planAv (q : Qry) (s a b c : Nat) : AV := .agg [.slw s, .int .u8 q.agg, .slw a, .slw b, .bool q.join, .slw c, .int .u8 q.wk, .int .i64 q.ws, .int .i64 q.we, .bool q.byKey, .int .u8 q.late]
def PlanV (w : World) (q : Qry) (st : List Int) (ps p0 p1 p2 : Pos) (v : Value) : Prop :=
  ∃ v0 v1 v2 v4, v = .agg #[v0, .int .u8 q.agg, v1, v2, .bool q.join, v4, .int .u8 q.wk, .int .i64 q.ws, .int .i64 q.we, .bool q.byKey, .int .u8 q.late] ∧ V (fun _ => some ps) (.slw 0) v0 ∧ V (fun _ => some p0) (.slw 0) v1 ∧ V (fun _ => some p1) (.slw 0) v2 ∧ V (fun _ => some p2) (.slw 0) v4 ∧
    BytsAt w st ps ∧ NodsAt w q.arg p0 ∧ IntsAt w q.src p1 ∧ NodsAt w q.whr p2
theorem PlanV.at' {w : World} {q : Qry} {st : List Int} {pp p0 p1 p2 : Pos} {v : Value} (h : PlanV w q st pp p0 p1 p2 v) {ps : List Pos} {s a b c : Nat} (hs : ps[s]? = some pp) (ha : ps[a]? = some p0) (hb : ps[b]? = some p1) (hc : ps[c]? = some p2) : V (psRho ps) (planAv q s a b c) v := by
  obtain ⟨v0, v1, v2, v4, rfl, h0, h1, h2, h4, _⟩ := h
  unfold planAv
  simp only [V]
  refine ⟨_, rfl, ?_⟩
  simp only [VL]
  exact ⟨_, _, rfl, slw_at hs h0, _, _, rfl, (by simp only [V]), _, _, rfl, slw_at ha h1, _, _, rfl, slw_at hb h2, _, _, rfl, (by simp only [V]), _, _, rfl, slw_at hc h4, _, _, rfl, (by simp only [V]), _, _, rfl, (by simp only [V]), _, _, rfl, (by simp only [V]), _, _, rfl, (by simp only [V]), _, _, rfl, (by simp only [V]), rfl⟩
def bytWf (st : List Int) : Prop := ∀ x ∈ st, (Lit.int .u8 x).wf = true
theorem plan_arg {t sl u q u8 nl il b i64 eN eI : TypeId} {g0 g1 f0 f1 f2 f3 f4 f5 f6 f7 : Field} (S : PlanT P t sl u q (qTys u8 nl il b i64) g0 g1) (T : QryT P q u8 nl il b i64 eN eI f0 f1 f2 f3 f4 f5 f6 f7) (hel : NodEl enc P w base spare held eN) {b0 : Nat} {v : Value} {d : DataW H} {ps : List MemPlace}
    (hval : Value.okWide P w .any b0 t v) (h : DataW.Trod enc P w base spare held t v d ps) : ∃ c st pp p0 p1 p2, PlanV w c st pp p0 p1 p2 v ∧ qryWf c ∧ bytWf st := by
  simp only [Value.okWide, S.ht] at hval
  obtain ⟨cs, rfl, hs, ts', h1, _, h2⟩ := hval
  rw [S.hts] at h1
  cases h1
  have hcs : cs.toList.length = 11 := by rw [Array.length_toList, hs, S.hn]
  obtain ⟨n, h⟩ := h
  have hok0 : ∀ (i : Nat) v u, cs.toList[i]? = some v → (sl :: qTys u8 nl il b i64)[i]? = some u → Cell.okWide P w .any b0 u v := fun i v u hi hu => by
    obtain ⟨u', hu', hok⟩ := h2 i v (by simpa using hi)
    have hlt : i < 11 := (List.getElem?_eq_some_iff.1 hu).1
    rw [show (sl :: qTys u8 nl il b i64).length = 11 from rfl, Nat.mod_eq_of_lt hlt, hu] at hu'
    cases hu'
    exact hok
  have hl' : ∃ c0 l, cs.toList = c0 :: l ∧ l.length = 10 := by
    cases hc : cs.toList with
    | nil => rw [hc] at hcs; cases hcs
    | cons c0 l => exact ⟨c0, l, rfl, by rw [hc] at hcs; simpa using hcs⟩
  obtain ⟨c0, l, hc, hll⟩ := hl'
  have hok : ∀ (i : Nat) v u, (c0 :: l)[i]? = some v → (sl :: qTys u8 nl il b i64)[i]? = some u → Cell.okWide P w .any b0 u v := fun i v u hv hu => hok0 i v u (by rw [hc]; exact hv) hu
  have h : DataW.trod enc P w base spare held n t (c0 :: l) = some (d, ps) := by
    rw [← hc]; simpa [Value.cells] using h
  obtain ⟨xs, n', _, _, _, hxl, hf⟩ := DataW.trod_struct S.ht h
  have k0 := hf 0 g0 rfl
  have k1 := hf 1 g1 rfl
  rw [S.o0, S.c0, S.t0] at k0
  rw [S.o1, S.t1, S.hq] at k1
  simp only [List.drop_succ_cons, List.drop_zero, List.take_succ_cons, List.take_zero] at k0 k1
  rw [List.take_of_length_le (by omega)] at k1
  have hx : xs.length = 2 := hxl
  obtain ⟨y0, e0⟩ : ∃ y, xs[0]? = some y := ⟨_, List.getElem?_eq_getElem (by omega)⟩
  obtain ⟨y1, e1⟩ : ∃ y, xs[1]? = some y := ⟨_, List.getElem?_eq_getElem (by omega)⟩
  rw [e0] at k0
  rw [e1] at k1
  have v0 := cell_slice S.hl (hok 0 c0 _ rfl rfl)
  have tr : DataW.Trod enc P w base spare held sl c0 y0.1 y0.2 := by
    have hv := v0
    obtain ⟨_, _, _, rfl⟩ := okWide_slice S.hl hv
    exact ⟨n', k0⟩
  obtain ⟨L1, p1, r1, s1, s2, s3, s4, q1, s5⟩ := slice_arg (fun n : Int => [.int .u8 n]) (fun n => (Lit.int .u8 n).wf = true) S.hl v0 tr (int_elem S.hu)
  obtain ⟨c, pa, pb, pc, ⟨v1, v2, v4, hq0, w1, w2, w4, n0, i0, m0⟩, hwf⟩ := qry_cells T hel hll (fun i v u hv hu => hok (i + 1) v u (by simpa using hv) (by simpa using hu)) k1
  refine ⟨c, L1, p1, pa, pb, pc, ⟨c0, v1, v2, v4, ?_, r1, w1, w2, w4, ⟨s1.trans S.h1, s2, s3, s4, s5⟩, n0, i0, m0⟩, hwf, q1⟩
  have hl2 : l = [.int .u8 c.agg, v1, v2, .bool c.join, v4, .int .u8 c.wk, .int .i64 c.ws, .int .i64 c.we, .bool c.byKey, .int .u8 c.late] := by
    have := hq0
    simp only [Value.agg.injEq] at this
    have h3 := congrArg Array.toList this
    simpa using h3
  have : cs = (c0 :: l).toArray := by rw [← hc]
  rw [this, hl2]
end
end Go.Am
