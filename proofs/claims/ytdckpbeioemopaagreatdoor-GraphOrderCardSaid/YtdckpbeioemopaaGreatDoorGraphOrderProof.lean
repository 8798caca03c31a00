/-
  GraphOrder: for every input the law returns true, and its arguments read as they read before.
-/
import Derived.Test.YtdckpbeioemopaaGreatDoorRows
import Derived.Test.YtdckpbeioemopaaGreatDoorCards
import Derived.Test.YtdckpbeioemopaaGreatDoorTie
import Derived.Test.YtdckpbeioemopaaGreatDoorOdA
import Derived.Test.YtdckpbeioemopaaGreatDoorExLaid
import Derived.ProofKit
import Derived.OpenShut
import Derived.LaidMore
import Derived.Stop.Joined
import Derived.Lay
import Derived.SevenTiedAt
namespace Go.Proofs.YtdckpbeioemopaaGreatDoor.graphOrder
open Go.ChangeShapes Go.WideShapes Go.ChangeAt Go.RowKit Go.Am
set_option maxRecDepth 100000
theorem laidOut : laidOutB Tryz.prog = true := by kernel_rfl
theorem own : ownKnob Tryz.prog.godebug = none := by kernel_rfl
noncomputable abbrev spec (B : Nat → Option Obj) : FSpec := Od.sOdB B
theorem ok {B : Nat → Option Obj} (hB : Laid B) : FnOk (E0 B) 6 (spec B) := Od.okOd hB
set_option linter.unusedVariables false in
theorem walk (O0 : List Opr) (C0 : List Chn) (pa0 pb0 : Pos) (v0 : Value) (zo0 : ∀ x ∈ O0, oprWf x) (zk0 : ∀ x ∈ C0, chnWf x) (w : World) (y0 : GraphV w O0 C0 pa0 pb0 v0) (hB : Laid (fun g => w.heap[g]?)) (hn : ngN ≤ w.heap.size) :
    Calls Tryz.prog 6 #[v0] w fun e w' => e = .returned (.bool true) ∧ Below w.heap.size w w' := by
  have yy0 := y0
  obtain ⟨_, _, _, _, _, no0, nk0⟩ := yy0
  have ht : (spec (fun g => w.heap[g]?) [graphAv 0 1] [⟨false, .oprs O0⟩, ⟨false, .chns C0⟩]).sel = some ⟨[.bool true], []⟩ := rfl
  have hc : CfgOk (E0 fun g => w.heap[g]?) w [⟨false, .oprs O0⟩, ⟨false, .chns C0⟩] [pa0, pb0] := cfg_reads (gokOf hn) rfl (by simp) fun k x p hx hp => by
    rcases k with _ | k; · (cases hx; cases hp; exact ⟨rfl, no0.rd⟩)
    rcases k with _ | k; · (cases hx; cases hp; exact ⟨rfl, nk0.rd⟩)
    exact absurd hx (by simp)
  exact Am.law_calls2 (ok hB) ht hc (fun x hx => by simp at hx; (rcases hx with rfl | rfl <;> rfl)) (cargs := [v0]) (by
    simp only [VL]
    exact ⟨_, _, rfl, (y0.at' rfl rfl), rfl⟩)
theorem lifted (os : Os) (started : os.Started) (H : Type) (enc : TypeId × Value → H) :
    ReturnsInHanded {} Tryz.checked os 6 .any (fun w args => (Rows.graphOrderSpec.pre enc Tryz.prog Tryz.f6 [] false w args ∧ laidMetH Tryz.prog Rows.graphOrderRow.laid w) ∧ sizedMet enc Tryz.prog Tryz.f6 (OpenSpec.ofChange Rows.graphOrderSpec) false w args)
      (Rows.graphOrderSpec.post enc Tryz.prog Tryz.f6 false true false false) := by
  refine returnsInHanded_of_change_and (C := Tryz.checked) (X := fun w _ => laidMetH Tryz.prog Rows.graphOrderRow.laid w) (fun _ _ _ hh h => h.of_heap hh) own started (by kernel_rfl) Tryz.func6
    (ChangeSpec.witness_shaped (enc := enc) (C := Tryz.checked) (os := os) (X := fun w _ => laidMetH Tryz.prog Rows.graphOrderRow.laid w) false (World.laidAll Tryz.prog os Rows.graphOrderRow.laid) #[.agg #[.slice none 0 0, .slice none 0 0]] 8 (World.laidAll_os _ _ _)
      (World.shaped_of_ZipB (by kernel_rfl) (by kernel_rfl)) (by kernel_rfl) (by kernel_rfl) (by kernel_rfl)
      (by rw [MakeChecks.laidMetH_plain _ _ _ (by kernel_rfl)]; exact laidMet_laidAll _ (by kernel_rfl) (by kernel_rfl))) ?_
  intro W base args ds gs before hval0 hW _ _ hL _
  have hval : ∀ (j : Nat) t v, Tryz.f6.params[j]? = some t → args[j]? = some v → Value.okWide Tryz.prog W .any base t v := hval0
  have hW' := hW
  obtain ⟨p, q, hA0, hV, rfl, _, _⟩ := hW
  have hA : DataW.TrodAll enc Tryz.prog W 0 (fun _ => true) true Tryz.f6.params.toList args.toList ds p := hA0
  rw [Tryz.params6] at hA hval
  obtain ⟨v0, vs0, d0, ds0, p0, q0, hargs, rfl, rfl, h0, r0⟩ := trodAll_cons hA
  obtain ⟨rfl, rfl, rfl⟩ := trodAll_nil r0
  obtain rfl : args = #[v0] := by cases args; simp_all
  obtain ⟨rfl, rfl⟩ := trodVars_none hV
  have eo : OprEl enc Tryz.prog W 0 (fun _ => true) true 43 := opr_elem Tryz.underlying43 (by kernel_rfl) rfl rfl (by kernel_rfl) (by kernel_rfl) Tryz.underlying5 Tryz.underlying3
  have ek : ChnEl enc Tryz.prog W 0 (fun _ => true) true 50 := chn_elem Tryz.underlying50 (by kernel_rfl) rfl rfl rfl rfl rfl (by kernel_rfl) (by kernel_rfl) (by kernel_rfl) (by kernel_rfl) (by kernel_rfl) Tryz.underlying3 Tryz.underlying3 Tryz.underlying3 Tryz.underlying3 Tryz.underlying3
  obtain ⟨O0, C0, pa0, pb0, y0, zo0, zk0⟩ := graph_arg (GrT.mk Tryz.underlying36 (ol := 33) (cl := 34) (eO := 43) (eC := 50) (by kernel_rfl) (by kernel_rfl) rfl rfl (by kernel_rfl) (by kernel_rfl) rfl rfl Tryz.underlying33 Tryz.underlying34 (by kernel_rfl) (by kernel_rfl)) eo ek (hval 0 36 v0 rfl rfl) h0
  simp only [List.append_nil] at hW'
  rw [MakeChecks.laidMetH_plain _ _ _ (by kernel_rfl)] at hL
  obtain ⟨hB, hn⟩ := laidOf hL (by kernel_rfl) (by kernel_rfl) (by kernel_rfl) (by kernel_rfl)
  refine (walk O0 C0 pa0 pb0 v0 zo0 zk0 W y0 hB hn).mono fun e W' ⟨he, hb⟩ => ?_
  subst he
  exact ⟨_, rfl, _, _, _, [], _, [], hW', (trodAll_cons_mk (shut_bool Tryz.underlying4 _) trodAll_mk0), (trodAll_cons_mk (Below.trod laidOut (by kernel_rfl) (of_decide_eq_true (by kernel_rfl)) h0 hb (fun x hx => hW'.lt x (by simp [hx]))) trodAll_mk0), rfl, hb.frame _, fun h => by cases h⟩
theorem over : Rows.graphOrderRow.holds Tryz.pinned (OpenSpec.ofChange Rows.graphOrderSpec) :=
  OpenClaim.holds_of_wide 6 Tryz.f6 rfl rfl rfl rfl rfl rfl rfl ⟨rfl, rfl, rfl, rfl, rfl⟩ rfl rfl rfl rfl rfl (by kernel_rfl) Tryz.func6 (by kernel_rfl)
    (of_decide_eq_true (by kernel_rfl)) (by unfold Func.isWrapper; first | (rw [if_pos (by decide +kernel)]; kernel_rfl) | (rw [if_neg (by decide +kernel)]; exact ⟨rfl, rfl⟩))
    (fun os started H enc _ => lifted os started H enc)
theorem proved : Rows.GraphOrderCardSaid :=
  Claim7.holds_tied_plain_at .later [] Rows.graphOrderCard.laidKinds true Rows.graphOrderCard.stood.harness true over (fun _ h => by cases h) (by kernel_rfl) (fun _ h => by cases h) graphOrder_row_tie rfl ⟨rfl, rfl⟩ (by kernel_rfl) rfl
    (fun f fn hf hfn => by
      obtain rfl : f = 6 := Option.some.inj ((show Tryz.prog.funcNamed "tailwater/tailwaterlaw24.GraphOrder" = some 6 by kernel_rfl).symm.trans hf) |>.symm
      obtain rfl : fn = Tryz.f6 := (Option.some.inj (Tryz.func6.symm.trans hfn)).symm
      exact ⟨by kernel_rfl, fun j t ht => by
        rw [Tryz.params6] at ht
        have hm : t ∈ (Tryz.f6.params).toList := by rw [Tryz.params6]; first | (exfalso; simp at ht; done) | exact List.mem_of_getElem? (by simpa using ht)
        have hall : ((Tryz.f6.params).toList.all fun u => !Tryz.prog.wantsStandIn u) = true := by kernel_rfl
        exact (show Tryz.prog.wantsStandIn t = false by simpa using List.all_eq_true.1 hall t hm)⟩)
    (by kernel_rfl)
end Go.Proofs.YtdckpbeioemopaaGreatDoor.graphOrder
