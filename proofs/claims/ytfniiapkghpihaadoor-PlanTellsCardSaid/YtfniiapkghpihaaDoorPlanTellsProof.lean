/-
  PlanTells: for every input the law returns true, and its arguments read as they read before.
-/
import Derived.Test.YtfniiapkghpihaaDoorRows
import Derived.Test.YtfniiapkghpihaaDoorCards
import Derived.Test.YtfniiapkghpihaaDoorTie
import Derived.Test.YtfniiapkghpihaaDoorRplA
import Derived.Test.YtfniiapkghpihaaDoorPlnLaid
import Derived.ProofKit
import Derived.OpenShut
import Derived.LaidMore
import Derived.Test.YtfniiapkghpihaaDoorPureB
import Derived.Stop.Joined
import Derived.Lay
import Derived.SevenTiedAt
namespace Go.Proofs.YtfniiapkghpihaaDoor.planTells
open Go.ChangeShapes Go.WideShapes Go.ChangeAt Go.RowKit Go.Am
set_option maxRecDepth 100000
theorem laidOut : laidOutB Tryd.prog = true := by kernel_rfl
theorem own : ownKnob Tryd.prog.godebug = none := by kernel_rfl
noncomputable abbrev spec (B : Nat → Option Obj) : FSpec := Rp.sTell B
theorem ok {B : Nat → Option Obj} (hB : Laid B) : FnOk (E0 B) 3 (spec B) := Rp.okTell hB
set_option linter.unusedVariables false in
theorem walk (c0 : Qry) (pa0 pb0 pc0 : Pos) (v0 : Value) (z0 : qryWf c0) (c1 : Qry) (t1 : List Int) (pp1 pa1 pb1 pc1 : Pos) (v1 : Value) (z1 : qryWf c1) (zb1 : bytWf t1) (w : World) (y0 : QryV w c0 pa0 pb0 pc0 v0) (y1 : PlanV w c1 t1 pp1 pa1 pb1 pc1 v1) (hB : Laid (fun g => w.heap[g]?)) (hn : ngN ≤ w.heap.size) :
    Calls Tryd.prog 3 #[v0, v1] w fun e w' => e = .returned (.bool true) ∧ Below w.heap.size w w' := by
  have yy0 := y0
  obtain ⟨_, _, _, _, _, _, _, na0, nb0, nc0⟩ := yy0
  have yy1 := y1
  obtain ⟨_, _, _, _, _, _, _, _, _, np1, na1, nb1, nc1⟩ := yy1
  have ht : (spec (fun g => w.heap[g]?) [c0.av 0 1 2, planAv c1 3 4 5 6] [⟨false, .nodes c0.arg⟩, ⟨false, .ints .i64 c0.src⟩, ⟨false, .nodes c0.whr⟩, ⟨false, .ints .u8 t1⟩, ⟨false, .nodes c1.arg⟩, ⟨false, .ints .i64 c1.src⟩, ⟨false, .nodes c1.whr⟩]).sel = some ⟨[.bool true], []⟩ := Rp.sTell_sel zb1 z1
  have hc : CfgOk (E0 fun g => w.heap[g]?) w [⟨false, .nodes c0.arg⟩, ⟨false, .ints .i64 c0.src⟩, ⟨false, .nodes c0.whr⟩, ⟨false, .ints .u8 t1⟩, ⟨false, .nodes c1.arg⟩, ⟨false, .ints .i64 c1.src⟩, ⟨false, .nodes c1.whr⟩] [pa0, pb0, pc0, pp1, pa1, pb1, pc1] := cfg_reads (gokOf hn) rfl (by simp) fun k x p hx hp => by
    rcases k with _ | k; · (cases hx; cases hp; exact ⟨rfl, na0.rd⟩)
    rcases k with _ | k; · (cases hx; cases hp; exact ⟨rfl, nb0.rd⟩)
    rcases k with _ | k; · (cases hx; cases hp; exact ⟨rfl, nc0.rd⟩)
    rcases k with _ | k; · (cases hx; cases hp; exact ⟨rfl, np1.rd⟩)
    rcases k with _ | k; · (cases hx; cases hp; exact ⟨rfl, na1.rd⟩)
    rcases k with _ | k; · (cases hx; cases hp; exact ⟨rfl, nb1.rd⟩)
    rcases k with _ | k; · (cases hx; cases hp; exact ⟨rfl, nc1.rd⟩)
    exact absurd hx (by simp)
  exact Am.law_calls2 (ok hB) ht hc (fun x hx => by simp at hx; (rcases hx with rfl | rfl | rfl | rfl | rfl | rfl | rfl <;> rfl)) (cargs := [v0, v1]) (by
    simp only [VL]
    exact ⟨_, _, rfl, (y0.at' rfl rfl rfl), ⟨_, _, rfl, (y1.at' rfl rfl rfl rfl), rfl⟩⟩)

theorem lifted (os : Os) (started : os.Started) (H : Type) (enc : TypeId × Value → H) :
    ReturnsInHanded {} Tryd.checked os 3 .any (fun w args => (Rows.planTellsSpec.pre enc Tryd.prog Tryd.f3 [] false w args ∧ laidMetH Tryd.prog Rows.planTellsRow.laid w) ∧ sizedMet enc Tryd.prog Tryd.f3 (OpenSpec.ofChange Rows.planTellsSpec) false w args)
      (Rows.planTellsSpec.post enc Tryd.prog Tryd.f3 false true false false) := by
  refine returnsInHanded_of_change_and (C := Tryd.checked) (X := fun w _ => laidMetH Tryd.prog Rows.planTellsRow.laid w) (fun _ _ _ hh h => h.of_heap hh) own started (by kernel_rfl) Tryd.func3
    (ChangeSpec.witness_shaped (enc := enc) (C := Tryd.checked) (os := os) (X := fun w _ => laidMetH Tryd.prog Rows.planTellsRow.laid w) false (World.laidAll Tryd.prog os Rows.planTellsRow.laid) #[.agg #[.int .u8 0, .slice none 0 0, .slice none 0 0, .bool false, .slice none 0 0, .int .u8 0, .int .i64 0, .int .i64 0, .bool false, .int .u8 0], .agg #[.slice none 0 0, .int .u8 0, .slice none 0 0, .slice none 0 0, .bool false, .slice none 0 0, .int .u8 0, .int .i64 0, .int .i64 0, .bool false, .int .u8 0]] 8 (World.laidAll_os _ _ _)
      (World.shaped_of_ZipB (by kernel_rfl) (by kernel_rfl)) (by kernel_rfl) (by kernel_rfl) (by kernel_rfl)
      (by rw [MakeChecks.laidMetH_plain _ _ _ (by kernel_rfl)]; exact laidMet_laidAll _ (by kernel_rfl) (by kernel_rfl))) ?_
  intro W base args ds gs before hval0 hW _ _ hL _
  have hval : ∀ (j : Nat) t v, Tryd.f3.params[j]? = some t → args[j]? = some v → Value.okWide Tryd.prog W .any base t v := hval0
  have hW' := hW
  obtain ⟨p, q, hA0, hV, rfl, _, _⟩ := hW
  have hA : DataW.TrodAll enc Tryd.prog W 0 (fun _ => true) true Tryd.f3.params.toList args.toList ds p := hA0
  rw [Tryd.params3] at hA hval
  obtain ⟨v0, vs0, d0, ds0, p0, q0, hargs, rfl, rfl, h0, r0⟩ := trodAll_cons hA
  obtain ⟨v1, vs1, d1, ds1, p1, q1, rfl, rfl, rfl, h1, r1⟩ := trodAll_cons r0
  obtain ⟨rfl, rfl, rfl⟩ := trodAll_nil r1
  obtain rfl : args = #[v0, v1] := by cases args; simp_all
  obtain ⟨rfl, rfl⟩ := trodVars_none hV
  have el : NodEl enc Tryd.prog W 0 (fun _ => true) true 50 := nod_elem Tryd.underlying50 (by kernel_rfl) rfl rfl rfl rfl rfl (by kernel_rfl) (by kernel_rfl) (by kernel_rfl) (by kernel_rfl) (by kernel_rfl) Tryd.underlying5 Tryd.underlying2 Tryd.underlying3 Tryd.underlying3 Tryd.underlying3
  obtain ⟨c0, pa0, pb0, pc0, y0, z0⟩ := qry_arg (QryT.mk Tryd.underlying27 (u8 := 5) (nl := 22) (il := 23) (b := 4) (i64 := 2) (by kernel_rfl) (by kernel_rfl) rfl rfl rfl (by kernel_rfl) (by kernel_rfl) (by kernel_rfl) rfl rfl rfl
    Tryd.underlying5 Tryd.underlying4 (by kernel_rfl) Tryd.underlying22 Tryd.underlying23 Tryd.underlying3 (by kernel_rfl) (by kernel_rfl)) el (hval 0 27 v0 rfl rfl) h0
  obtain ⟨c1, t1, pp1, pa1, pb1, pc1, y1, z1, zb1⟩ := plan_arg (PlanT.mk Tryd.underlying30 (sl := 28) (u8 := 5) (q := 27) (by kernel_rfl) (by kernel_rfl) (by kernel_rfl) rfl rfl rfl (by kernel_rfl) rfl rfl Tryd.underlying5 Tryd.underlying28 (by kernel_rfl)) (QryT.mk Tryd.underlying27 (u8 := 5) (nl := 22) (il := 23) (b := 4) (i64 := 2) (by kernel_rfl) (by kernel_rfl) rfl rfl rfl (by kernel_rfl) (by kernel_rfl) (by kernel_rfl) rfl rfl rfl
    Tryd.underlying5 Tryd.underlying4 (by kernel_rfl) Tryd.underlying22 Tryd.underlying23 Tryd.underlying3 (by kernel_rfl) (by kernel_rfl)) el (hval 1 30 v1 rfl rfl) h1
  simp only [List.append_nil] at hW'
  rw [MakeChecks.laidMetH_plain _ _ _ (by kernel_rfl)] at hL
  obtain ⟨hB, hn⟩ := laidOf hL (by kernel_rfl)
  refine (walk c0 pa0 pb0 pc0 v0 z0 c1 t1 pp1 pa1 pb1 pc1 v1 z1 zb1 W y0 y1 hB hn).mono fun e W' ⟨he, hb⟩ => ?_
  subst he
  exact ⟨_, rfl, _, _, _, [], _, [], hW', (trodAll_cons_mk (shut_bool Tryd.underlying4 _) trodAll_mk0), (trodAll_cons_mk (Below.trod laidOut (by kernel_rfl) (of_decide_eq_true (by kernel_rfl)) h0 hb (fun x hx => hW'.lt x (by simp [hx]))) (trodAll_cons_mk (Below.trod laidOut (by kernel_rfl) (of_decide_eq_true (by kernel_rfl)) h1 hb (fun x hx => hW'.lt x (by simp [hx]))) trodAll_mk0)), rfl, hb.frame _, fun h => by cases h⟩

theorem over : Rows.planTellsRow.holds Tryd.pinned (OpenSpec.ofChange Rows.planTellsSpec) :=
  OpenClaim.holds_of_wide 3 Tryd.f3 rfl rfl rfl rfl rfl rfl rfl ⟨rfl, rfl, rfl, rfl, rfl⟩ rfl rfl rfl rfl rfl (by kernel_rfl) Tryd.func3 (by kernel_rfl)
    (of_decide_eq_true (by kernel_rfl)) (by unfold Func.isWrapper; first | (rw [if_pos (by decide +kernel)]; kernel_rfl) | (rw [if_neg (by decide +kernel)]; exact ⟨rfl, rfl⟩))
    (fun os started H enc _ => lifted os started H enc)

/-- the statement -/
theorem proved : Rows.PlanTellsCardSaid :=
  Claim7.holds_tied_plain_at .later [] Rows.planTellsCard.laidKinds true Rows.planTellsCard.stood.harness false over (fun _ h => by cases h) (by kernel_rfl) (fun _ h => by cases h) planTells_row_tie rfl ⟨rfl, rfl⟩ (by kernel_rfl) rfl
    (fun f fn hf hfn => by
      obtain rfl : f = 3 := Option.some.inj ((show Tryd.prog.funcNamed "tailwater/tailwaterlaw22.PlanTells" = some 3 by kernel_rfl).symm.trans hf) |>.symm
      obtain rfl : fn = Tryd.f3 := (Option.some.inj (Tryd.func3.symm.trans hfn)).symm
      exact ⟨by kernel_rfl, fun j t ht => by
        rw [Tryd.params3] at ht
        have hm : t ∈ (Tryd.f3.params).toList := by rw [Tryd.params3]; first | (exfalso; simp at ht; done) | exact List.mem_of_getElem? (by simpa using ht)
        have hall : ((Tryd.f3.params).toList.all fun u => !Tryd.prog.wantsStandIn u) = true := by kernel_rfl
        exact (show Tryd.prog.wantsStandIn t = false by simpa using List.all_eq_true.1 hall t hm)⟩)
    (by kernel_rfl)
end Go.Proofs.YtfniiapkghpihaaDoor.planTells
