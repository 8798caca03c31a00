/-
  GraphTells: for every input the law returns true, and its arguments read as they read before.
-/
import Derived.Test.YtdckpbeioemopaaRows
import Derived.Test.YtdckpbeioemopaaGtB
import Derived.ProofKit
import Derived.OpenShut
namespace Go.Proofs.Ytdckpbeioemopaa.graphTells
open Go.ChangeShapes Go.WideShapes Go.ChangeAt Go.RowKit Go.Am
set_option maxRecDepth 100000
theorem laidOut : laidOutB Try.prog = true := by kernel_rfl
theorem own : ownKnob Try.prog.godebug = none := by kernel_rfl
theorem gokFree (w : World) : GOk (E0 fun g => w.heap[g]?) (fun _ => False) w := ⟨fun _ _ h => (by cases h), Nat.zero_le _, fun _ _ => rfl, fun _ h => h.elim⟩
set_option linter.unusedVariables false in
theorem walk (c0 : Qry) (t0 : List Int) (pp0 pa0 pb0 pc0 : Pos) (v0 : Value) (z0 : qryWf c0) (zb0 : bytWf t0) (a1 : Int) (w1 : (Lit.int .i64 a1).wf = true) (a2 : Int) (w2 : (Lit.int .i64 a2).wf = true) (O3 : List Opr) (C3 : List Chn) (pa3 pb3 : Pos) (v3 : Value) (zo3 : ∀ x ∈ O3, oprWf x) (zk3 : ∀ x ∈ C3, chnWf x) (w : World) (y0 : PlanV w c0 t0 pp0 pa0 pb0 pc0 v0) (y3 : GraphV w O3 C3 pa3 pb3 v3) :
    Calls Try.prog 3 #[v0, .int .i64 a1, .int .i64 a2, v3] w fun e w' => e = .returned (.bool true) ∧ Below w.heap.size w w' := by
  have h1 : Rng a1 := by simpa [Rng, Lit.wf, IntKind.min, IntKind.max, IntKind.signed, IntKind.bits] using w1
  have h2 : Rng a2 := by simpa [Rng, Lit.wf, IntKind.min, IntKind.max, IntKind.signed, IntKind.bits] using w2
  have yy0 := y0
  obtain ⟨_, _, _, _, _, _, _, _, _, np0, na0, nb0, nc0⟩ := yy0
  have yy3 := y3
  obtain ⟨_, _, _, _, _, no3, nk3⟩ := yy3
  have ht : ((Tl.sTell (decide (Gf.ofE t0 c0 a1 a2 = 0)) (decide (Gk.chkN O3 C3 = 0))) [planAv c0 0 1 2 3, .int .i64 a1, .int .i64 a2, graphAv 4 5] [⟨false, .ints .u8 t0⟩, ⟨false, .nodes c0.arg⟩, ⟨false, .ints .i64 c0.src⟩, ⟨false, .nodes c0.whr⟩, ⟨false, .oprs O3⟩, ⟨false, .chns C3⟩]).sel = some ⟨[.bool true], []⟩ := Tl.tell_sel zb0
  have hc : CfgOk (E0 fun g => w.heap[g]?) w [⟨false, .ints .u8 t0⟩, ⟨false, .nodes c0.arg⟩, ⟨false, .ints .i64 c0.src⟩, ⟨false, .nodes c0.whr⟩, ⟨false, .oprs O3⟩, ⟨false, .chns C3⟩] [pp0, pa0, pb0, pc0, pa3, pb3] := cfg_reads (gokFree w) rfl (by simp) fun k x p hx hp => by
    rcases k with _ | k; · (cases hx; cases hp; exact ⟨rfl, np0.rd⟩)
    rcases k with _ | k; · (cases hx; cases hp; exact ⟨rfl, na0.rd⟩)
    rcases k with _ | k; · (cases hx; cases hp; exact ⟨rfl, nb0.rd⟩)
    rcases k with _ | k; · (cases hx; cases hp; exact ⟨rfl, nc0.rd⟩)
    rcases k with _ | k; · (cases hx; cases hp; exact ⟨rfl, no3.rd⟩)
    rcases k with _ | k; · (cases hx; cases hp; exact ⟨rfl, nk3.rd⟩)
    exact absurd hx (by simp)
  exact Am.law_calls2 (Tl.okTell _ _ (B := fun g => w.heap[g]?)) ht hc (fun x hx => by simp at hx; (rcases hx with rfl | rfl | rfl | rfl | rfl | rfl <;> rfl)) (cargs := [v0, .int .i64 a1, .int .i64 a2, v3]) (by
    simp only [VL]
    exact ⟨_, _, rfl, (y0.at' rfl rfl rfl rfl), ⟨_, _, rfl, (by simp only [V]), ⟨_, _, rfl, (by simp only [V]), ⟨_, _, rfl, (y3.at' rfl rfl), rfl⟩⟩⟩⟩)
theorem lifted (os : Os) (started : os.Started) (H : Type) (enc : TypeId × Value → H) :
    ReturnsInHanded {} Try.checked os 3 .any (Rows.graphTellsSpec.pre6 enc Try.prog Try.f3 Rows.graphTellsRow.domain false) (Rows.graphTellsSpec.post enc Try.prog Try.f3 false true false false) := by
  refine returnsInHanded_of_change (C := Try.checked) own started (by kernel_rfl) Try.func3
    (ChangeSpec.witness6 (enc := enc) (C := Try.checked) false ⟨#[], #[.agg #[.slice none 0 0, .int .u8 0, .slice none 0 0, .slice none 0 0, .bool false, .slice none 0 0, .int .u8 0, .int .i64 0, .int .i64 0, .bool false, .int .u8 0], .int .i64 0, .int .i64 0, .agg #[.slice none 0 0, .slice none 0 0]], []⟩ 8 (by kernel_rfl) (by kernel_rfl) (by kernel_rfl) (by kernel_rfl)) ?_
  intro W base args ds gs before hval0 hW hcnd _
  have hval : ∀ (j : Nat) t v, Try.f3.params[j]? = some t → args[j]? = some v → Value.okWide Try.prog W .any base t v := hval0
  have hW' := hW
  obtain ⟨p, q, hA0, hV, rfl, _, _⟩ := hW
  have hA : DataW.TrodAll enc Try.prog W 0 (fun _ => true) true Try.f3.params.toList args.toList ds p := hA0
  rw [Try.params3] at hA hval
  obtain ⟨v0, vs0, d0, ds0, p0, q0, hargs, rfl, rfl, h0, r0⟩ := trodAll_cons hA
  obtain ⟨v1, vs1, d1, ds1, p1, q1, rfl, rfl, rfl, h1, r1⟩ := trodAll_cons r0
  obtain ⟨v2, vs2, d2, ds2, p2, q2, rfl, rfl, rfl, h2, r2⟩ := trodAll_cons r1
  obtain ⟨v3, vs3, d3, ds3, p3, q3, rfl, rfl, rfl, h3, r3⟩ := trodAll_cons r2
  obtain ⟨rfl, rfl, rfl⟩ := trodAll_nil r3
  obtain rfl : args = #[v0, v1, v2, v3] := by cases args; simp_all
  obtain ⟨rfl, rfl⟩ := trodVars_none hV
  have el : NodEl enc Try.prog W 0 (fun _ => true) true 93 := nod_elem Try.underlying93 (by kernel_rfl) rfl rfl rfl rfl rfl (by kernel_rfl) (by kernel_rfl) (by kernel_rfl) (by kernel_rfl) (by kernel_rfl) Try.underlying5 Try.underlying2 Try.underlying3 Try.underlying3 Try.underlying3
  obtain ⟨c0, t0, pp0, pa0, pb0, pc0, y0, z0, zb0⟩ := plan_arg (PlanT.mk Try.underlying30 (sl := 22) (u8 := 5) (q := 28) (by kernel_rfl) (by kernel_rfl) (by kernel_rfl) rfl rfl rfl (by kernel_rfl) rfl rfl Try.underlying5 Try.underlying22 (by kernel_rfl)) (QryT.mk Try.underlying28 (u8 := 5) (nl := 23) (il := 24) (b := 4) (i64 := 2) (by kernel_rfl) (by kernel_rfl) rfl rfl rfl (by kernel_rfl) (by kernel_rfl) (by kernel_rfl) rfl rfl rfl
    Try.underlying5 Try.underlying4 (by kernel_rfl) Try.underlying23 Try.underlying24 Try.underlying3 (by kernel_rfl) (by kernel_rfl)) el (hval 0 30 v0 rfl rfl) h0
  obtain ⟨a1, rfl, rfl, rfl, w1⟩ := open_int Try.underlying3 (hval 1 3 v1 rfl rfl) h1
  obtain ⟨a2, rfl, rfl, rfl, w2⟩ := open_int Try.underlying3 (hval 2 3 v2 rfl rfl) h2
  have eo : OprEl enc Try.prog W 0 (fun _ => true) true 54 := opr_elem Try.underlying54 (by kernel_rfl) rfl rfl (by kernel_rfl) (by kernel_rfl) Try.underlying5 Try.underlying3
  have ek : ChnEl enc Try.prog W 0 (fun _ => true) true 57 := chn_elem Try.underlying57 (by kernel_rfl) rfl rfl rfl rfl rfl (by kernel_rfl) (by kernel_rfl) (by kernel_rfl) (by kernel_rfl) (by kernel_rfl) Try.underlying3 Try.underlying3 Try.underlying3 Try.underlying3 Try.underlying3
  obtain ⟨O3, C3, pa3, pb3, y3, zo3, zk3⟩ := graph_arg (GrT.mk Try.underlying34 (ol := 31) (cl := 32) (eO := 54) (eC := 57) (by kernel_rfl) (by kernel_rfl) rfl rfl (by kernel_rfl) (by kernel_rfl) rfl rfl Try.underlying31 Try.underlying32 (by kernel_rfl) (by kernel_rfl)) eo ek (hval 3 34 v3 rfl rfl) h3
  simp only [List.append_nil] at hW'
  refine (walk c0 t0 pp0 pa0 pb0 pc0 v0 z0 zb0 a1 w1 a2 w2 O3 C3 pa3 pb3 v3 zo3 zk3 W y0 y3).mono fun e W' ⟨he, hb⟩ => ?_
  subst he
  exact ⟨_, rfl, _, _, _, [], _, [], hW', (trodAll_cons_mk (shut_bool Try.underlying4 _) trodAll_mk0), (trodAll_cons_mk (Below.trod laidOut (by kernel_rfl) (of_decide_eq_true (by kernel_rfl)) h0 hb (fun x hx => hW'.lt x (by simp [hx]))) (trodAll_cons_mk (shut_int Try.underlying3 w1) (trodAll_cons_mk (shut_int Try.underlying3 w2) (trodAll_cons_mk (Below.trod laidOut (by kernel_rfl) (of_decide_eq_true (by kernel_rfl)) h3 hb (fun x hx => hW'.lt x (by simp [hx]))) trodAll_mk0)))), rfl, hb.frame _, fun h => by cases h⟩
theorem over : Rows.graphTellsRow.holds Try.pinned (OpenSpec.ofChange Rows.graphTellsSpec) :=
  OpenClaim.holds_of_wide 3 Try.f3 rfl rfl rfl rfl rfl rfl rfl ⟨rfl, rfl, rfl, rfl, rfl⟩ rfl rfl rfl rfl rfl (by kernel_rfl) Try.func3 (by kernel_rfl)
    (of_decide_eq_true (by kernel_rfl)) (by unfold Func.isWrapper; first | (rw [if_pos (by decide +kernel)]; kernel_rfl) | (rw [if_neg (by decide +kernel)]; exact ⟨rfl, rfl⟩))
    (fun os started H enc _ => lifted os started H enc)
theorem proved : Rows.GraphTellsSaid :=
  over
end Go.Proofs.Ytdckpbeioemopaa.graphTells
