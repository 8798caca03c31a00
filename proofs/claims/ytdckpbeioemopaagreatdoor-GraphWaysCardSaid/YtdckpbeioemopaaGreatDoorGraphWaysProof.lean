/-
  GraphWays: for every input the law returns true, and its arguments read as they read before.
-/
import Derived.Test.YtdckpbeioemopaaGreatDoorRows
import Derived.Test.YtdckpbeioemopaaGreatDoorCards
import Derived.Test.YtdckpbeioemopaaGreatDoorTie
import Derived.Test.YtdckpbeioemopaaGreatDoorWyA
import Derived.Test.YtdckpbeioemopaaGreatDoorExLaid
import Derived.ProofKit
import Derived.OpenShut
import Derived.LaidMore
import Derived.Test.YtdckpbeioemopaaGreatDoorAmPlan
import Derived.Stop.Joined
import Derived.Lay
import Derived.SevenTiedAt
namespace Go.Proofs.YtdckpbeioemopaaGreatDoor.graphWays
open Go.ChangeShapes Go.WideShapes Go.ChangeAt Go.RowKit Go.Am
set_option maxRecDepth 100000
theorem laidOut : laidOutB Tryz.prog = true := by kernel_rfl
theorem own : ownKnob Tryz.prog.godebug = none := by kernel_rfl
noncomputable abbrev spec (B : Nat → Option Obj) : FSpec := Wy.sWyB B
theorem ok {B : Nat → Option Obj} (hB : Laid B) : FnOk (E0 B) 4 (spec B) := Wy.okWy hB
set_option linter.unusedVariables false in
theorem walk (c0 : Qry) (t0 : List Int) (pp0 pa0 pb0 pc0 : Pos) (v0 : Value) (z0 : qryWf c0) (zb0 : bytWf t0) (a1 : Int) (w1 : (Lit.int .i64 a1).wf = true) (a2 : Int) (w2 : (Lit.int .i64 a2).wf = true) (w : World) (y0 : PlanV w c0 t0 pp0 pa0 pb0 pc0 v0) (hB : Laid (fun g => w.heap[g]?)) (hn : ngN ≤ w.heap.size) :
    Calls Tryz.prog 4 #[v0, .int .i64 a1, .int .i64 a2] w fun e w' => e = .returned (.bool true) ∧ Below w.heap.size w w' := by
  have h1 : Rng a1 := by simpa [Rng, Lit.wf, IntKind.min, IntKind.max, IntKind.signed, IntKind.bits] using w1
  have h2 : Rng a2 := by simpa [Rng, Lit.wf, IntKind.min, IntKind.max, IntKind.signed, IntKind.bits] using w2
  have yy0 := y0
  obtain ⟨_, _, _, _, _, _, _, _, _, np0, na0, nb0, nc0⟩ := yy0
  have ht : (spec (fun g => w.heap[g]?) [planAv c0 0 1 2 3, .int .i64 a1, .int .i64 a2] [⟨false, .ints .u8 t0⟩, ⟨false, .nodes c0.arg⟩, ⟨false, .ints .i64 c0.src⟩, ⟨false, .nodes c0.whr⟩]).sel = some ⟨[.bool true], []⟩ := Wy.sWy_sel zb0
  have hc : CfgOk (E0 fun g => w.heap[g]?) w [⟨false, .ints .u8 t0⟩, ⟨false, .nodes c0.arg⟩, ⟨false, .ints .i64 c0.src⟩, ⟨false, .nodes c0.whr⟩] [pp0, pa0, pb0, pc0] := cfg_reads (gokOf hn) rfl (by simp) fun k x p hx hp => by
    rcases k with _ | k; · (cases hx; cases hp; exact ⟨rfl, np0.rd⟩)
    rcases k with _ | k; · (cases hx; cases hp; exact ⟨rfl, na0.rd⟩)
    rcases k with _ | k; · (cases hx; cases hp; exact ⟨rfl, nb0.rd⟩)
    rcases k with _ | k; · (cases hx; cases hp; exact ⟨rfl, nc0.rd⟩)
    exact absurd hx (by simp)
  exact Am.law_calls2 (ok hB) ht hc (fun x hx => by simp at hx; (rcases hx with rfl | rfl | rfl | rfl <;> rfl)) (cargs := [v0, .int .i64 a1, .int .i64 a2]) (by
    simp only [VL]
    exact ⟨_, _, rfl, (y0.at' rfl rfl rfl rfl), ⟨_, _, rfl, (by simp only [V]), ⟨_, _, rfl, (by simp only [V]), rfl⟩⟩⟩)
theorem lifted (os : Os) (started : os.Started) (H : Type) (enc : TypeId × Value → H) :
    ReturnsInHanded {} Tryz.checked os 4 .any (fun w args => (Rows.graphWaysSpec.pre enc Tryz.prog Tryz.f4 [] false w args ∧ laidMetH Tryz.prog Rows.graphWaysRow.laid w) ∧ sizedMet enc Tryz.prog Tryz.f4 (OpenSpec.ofChange Rows.graphWaysSpec) false w args)
      (Rows.graphWaysSpec.post enc Tryz.prog Tryz.f4 false true false false) := by
  refine returnsInHanded_of_change_and (C := Tryz.checked) (X := fun w _ => laidMetH Tryz.prog Rows.graphWaysRow.laid w) (fun _ _ _ hh h => h.of_heap hh) own started (by kernel_rfl) Tryz.func4
    (ChangeSpec.witness_shaped (enc := enc) (C := Tryz.checked) (os := os) (X := fun w _ => laidMetH Tryz.prog Rows.graphWaysRow.laid w) false (World.laidAll Tryz.prog os Rows.graphWaysRow.laid) #[.agg #[.slice none 0 0, .int .u8 0, .slice none 0 0, .slice none 0 0, .bool false, .slice none 0 0, .int .u8 0, .int .i64 0, .int .i64 0, .bool false, .int .u8 0], .int .i64 0, .int .i64 0] 8 (World.laidAll_os _ _ _)
      (World.shaped_of_ZipB (by kernel_rfl) (by kernel_rfl)) (by kernel_rfl) (by kernel_rfl) (by kernel_rfl)
      (by rw [MakeChecks.laidMetH_plain _ _ _ (by kernel_rfl)]; exact laidMet_laidAll _ (by kernel_rfl) (by kernel_rfl))) ?_
  intro W base args ds gs before hval0 hW _ _ hL _
  have hval : ∀ (j : Nat) t v, Tryz.f4.params[j]? = some t → args[j]? = some v → Value.okWide Tryz.prog W .any base t v := hval0
  have hW' := hW
  obtain ⟨p, q, hA0, hV, rfl, _, _⟩ := hW
  have hA : DataW.TrodAll enc Tryz.prog W 0 (fun _ => true) true Tryz.f4.params.toList args.toList ds p := hA0
  rw [Tryz.params4] at hA hval
  obtain ⟨v0, vs0, d0, ds0, p0, q0, hargs, rfl, rfl, h0, r0⟩ := trodAll_cons hA
  obtain ⟨v1, vs1, d1, ds1, p1, q1, rfl, rfl, rfl, h1, r1⟩ := trodAll_cons r0
  obtain ⟨v2, vs2, d2, ds2, p2, q2, rfl, rfl, rfl, h2, r2⟩ := trodAll_cons r1
  obtain ⟨rfl, rfl, rfl⟩ := trodAll_nil r2
  obtain rfl : args = #[v0, v1, v2] := by cases args; simp_all
  obtain ⟨rfl, rfl⟩ := trodVars_none hV
  have el : NodEl enc Tryz.prog W 0 (fun _ => true) true 87 := nod_elem Tryz.underlying87 (by kernel_rfl) rfl rfl rfl rfl rfl (by kernel_rfl) (by kernel_rfl) (by kernel_rfl) (by kernel_rfl) (by kernel_rfl) Tryz.underlying5 Tryz.underlying2 Tryz.underlying3 Tryz.underlying3 Tryz.underlying3
  obtain ⟨c0, t0, pp0, pa0, pb0, pc0, y0, z0, zb0⟩ := plan_arg (PlanT.mk Tryz.underlying30 (sl := 22) (u8 := 5) (q := 28) (by kernel_rfl) (by kernel_rfl) (by kernel_rfl) rfl rfl rfl (by kernel_rfl) rfl rfl Tryz.underlying5 Tryz.underlying22 (by kernel_rfl)) (QryT.mk Tryz.underlying28 (u8 := 5) (nl := 23) (il := 24) (b := 4) (i64 := 2) (by kernel_rfl) (by kernel_rfl) rfl rfl rfl (by kernel_rfl) (by kernel_rfl) (by kernel_rfl) rfl rfl rfl
    Tryz.underlying5 Tryz.underlying4 (by kernel_rfl) Tryz.underlying23 Tryz.underlying24 Tryz.underlying3 (by kernel_rfl) (by kernel_rfl)) el (hval 0 30 v0 rfl rfl) h0
  obtain ⟨a1, rfl, rfl, rfl, w1⟩ := open_int Tryz.underlying3 (hval 1 3 v1 rfl rfl) h1
  obtain ⟨a2, rfl, rfl, rfl, w2⟩ := open_int Tryz.underlying3 (hval 2 3 v2 rfl rfl) h2
  simp only [List.append_nil] at hW'
  rw [MakeChecks.laidMetH_plain _ _ _ (by kernel_rfl)] at hL
  obtain ⟨hB, hn⟩ := laidOf hL (by kernel_rfl) (by kernel_rfl) (by kernel_rfl) (by kernel_rfl)
  refine (walk c0 t0 pp0 pa0 pb0 pc0 v0 z0 zb0 a1 w1 a2 w2 W y0 hB hn).mono fun e W' ⟨he, hb⟩ => ?_
  subst he
  exact ⟨_, rfl, _, _, _, [], _, [], hW', (trodAll_cons_mk (shut_bool Tryz.underlying4 _) trodAll_mk0), (trodAll_cons_mk (Below.trod laidOut (by kernel_rfl) (of_decide_eq_true (by kernel_rfl)) h0 hb (fun x hx => hW'.lt x (by simp [hx]))) (trodAll_cons_mk (shut_int Tryz.underlying3 w1) (trodAll_cons_mk (shut_int Tryz.underlying3 w2) trodAll_mk0))), rfl, hb.frame _, fun h => by cases h⟩
theorem over : Rows.graphWaysRow.holds Tryz.pinned (OpenSpec.ofChange Rows.graphWaysSpec) :=
  OpenClaim.holds_of_wide 4 Tryz.f4 rfl rfl rfl rfl rfl rfl rfl ⟨rfl, rfl, rfl, rfl, rfl⟩ rfl rfl rfl rfl rfl (by kernel_rfl) Tryz.func4 (by kernel_rfl)
    (of_decide_eq_true (by kernel_rfl)) (by unfold Func.isWrapper; first | (rw [if_pos (by decide +kernel)]; kernel_rfl) | (rw [if_neg (by decide +kernel)]; exact ⟨rfl, rfl⟩))
    (fun os started H enc _ => lifted os started H enc)
theorem proved : Rows.GraphWaysCardSaid :=
  Claim7.holds_tied_plain_at .later [] Rows.graphWaysCard.laidKinds true Rows.graphWaysCard.stood.harness true over (fun _ h => by cases h) (by kernel_rfl) (fun _ h => by cases h) graphWays_row_tie rfl ⟨rfl, rfl⟩ (by kernel_rfl) rfl
    (fun f fn hf hfn => by
      obtain rfl : f = 4 := Option.some.inj ((show Tryz.prog.funcNamed "tailwater/tailwaterlaw24.GraphWays" = some 4 by kernel_rfl).symm.trans hf) |>.symm
      obtain rfl : fn = Tryz.f4 := (Option.some.inj (Tryz.func4.symm.trans hfn)).symm
      exact ⟨by kernel_rfl, fun j t ht => by
        rw [Tryz.params4] at ht
        have hm : t ∈ (Tryz.f4.params).toList := by rw [Tryz.params4]; first | (exfalso; simp at ht; done) | exact List.mem_of_getElem? (by simpa using ht)
        have hall : ((Tryz.f4.params).toList.all fun u => !Tryz.prog.wantsStandIn u) = true := by kernel_rfl
        exact (show Tryz.prog.wantsStandIn t = false by simpa using List.all_eq_true.1 hall t hm)⟩)
    (by kernel_rfl)
end Go.Proofs.YtdckpbeioemopaaGreatDoor.graphWays
