/-
  ExprsBinds: for every input the law returns true, and its arguments read as they read before.
-/
import Derived.Test.YthfieonkfailkaaGreatDoorRows
import Derived.Test.YthfieonkfailkaaGreatDoorCards
import Derived.Test.YthfieonkfailkaaGreatDoorTie
import Derived.Test.YthfieonkfailkaaGreatDoorPrsLawI2
import Derived.Test.YthfieonkfailkaaGreatDoorExLaid
import Derived.ProofKit
import Derived.OpenShut
import Derived.LaidMore
import Derived.Test.YthfieonkfailkaaGreatDoorAmQry
import Derived.Stop.Joined
import Derived.Lay
import Derived.SevenTiedAt
namespace Go.Proofs.YthfieonkfailkaaGreatDoor.exprsBinds
open Go.ChangeShapes Go.WideShapes Go.ChangeAt Go.RowKit Go.Am
set_option maxRecDepth 100000
theorem laidOut : laidOutB Tryz.prog = true := by kernel_rfl
theorem own : ownKnob Tryz.prog.godebug = none := by kernel_rfl
noncomputable abbrev spec (B : Nat → Option Obj) : FSpec := sBinds B
theorem ok {B : Nat → Option Obj} (hB : Laid B) : FnOk (E0 B) 7 (spec B) := okBinds hB
set_option linter.unusedVariables false in
theorem walk (v0 : Value) (L0 : List Am.Nod) (s0 : Pos) (g0 : V (fun _ => some s0) (.slw 0) v0) (r0 : ∀ x ∈ L0, (nodWf) x) (v1 : Value) (L1 : List Am.Nod) (s1 : Pos) (g1 : V (fun _ => some s1) (.slw 0) v1) (r1 : ∀ x ∈ L1, (nodWf) x) (v2 : Value) (L2 : List Am.Nod) (s2 : Pos) (g2 : V (fun _ => some s2) (.slw 0) v2) (r2 : ∀ x ∈ L2, (nodWf) x) (a3 : Int) (w3 : (Lit.int .u8 a3).wf = true) (a4 : Int) (w4 : (Lit.int .u8 a4).wf = true) (w : World) (y0 : RdD w (.nodes L0) s0) (y1 : RdD w (.nodes L1) s1) (y2 : RdD w (.nodes L2) s2) (hB : Laid (fun g => w.heap[g]?)) (hn : ngN ≤ w.heap.size) :
    Calls Tryz.prog 7 #[v0, v1, v2, .int .u8 a3, .int .u8 a4] w fun e w' => e = .returned (.bool true) ∧ Below w.heap.size w w' := by
  have h3 : 0 ≤ a3 ∧ a3 ≤ 255 := by simpa [Lit.wf, IntKind.min, IntKind.max, IntKind.signed, IntKind.bits] using w3
  have h4 : 0 ≤ a4 ∧ a4 ≤ 255 := by simpa [Lit.wf, IntKind.min, IntKind.max, IntKind.signed, IntKind.bits] using w4
  have ht : (spec (fun g => w.heap[g]?) [.slw 0, .slw 1, .slw 2, .int .u8 a3, .int .u8 a4] [⟨false, .nodes L0⟩, ⟨false, .nodes L1⟩, ⟨false, .nodes L2⟩]).sel = some ⟨[.bool true], []⟩ := sBinds_sel r0 r1 r2
  have hc : CfgOk (E0 fun g => w.heap[g]?) w [⟨false, .nodes L0⟩, ⟨false, .nodes L1⟩, ⟨false, .nodes L2⟩] [s0, s1, s2] := cfg_reads (gokOf hn) rfl (by simp) fun k x p hx hp => by
    rcases k with _ | k; · (cases hx; cases hp; exact ⟨rfl, y0⟩)
    rcases k with _ | k; · (cases hx; cases hp; exact ⟨rfl, y1⟩)
    rcases k with _ | k; · (cases hx; cases hp; exact ⟨rfl, y2⟩)
    exact absurd hx (by simp)
  exact Am.law_calls2 (ok hB) ht hc (fun x hx => by simp at hx; first | (subst hx; rfl) | (rcases hx with rfl | rfl <;> rfl) | (rcases hx with rfl | rfl | rfl <;> rfl)) (cargs := [v0, v1, v2, .int .u8 a3, .int .u8 a4]) (by
    simp only [VL]
    exact ⟨_, _, rfl, (slw_at rfl g0), ⟨_, _, rfl, (slw_at rfl g1), ⟨_, _, rfl, (slw_at rfl g2), ⟨_, _, rfl, (by simp only [V]), ⟨_, _, rfl, (by simp only [V]), rfl⟩⟩⟩⟩⟩)

theorem lifted (os : Os) (started : os.Started) (H : Type) (enc : TypeId × Value → H) :
    ReturnsInHanded {} Tryz.checked os 7 .any (fun w args => (Rows.exprsBindsSpec.pre enc Tryz.prog Tryz.f7 [] false w args ∧ laidMetH Tryz.prog Rows.exprsBindsRow.laid w) ∧ sizedMet enc Tryz.prog Tryz.f7 (OpenSpec.ofChange Rows.exprsBindsSpec) false w args)
      (Rows.exprsBindsSpec.post enc Tryz.prog Tryz.f7 false true false false) := by
  refine returnsInHanded_of_change_and (C := Tryz.checked) (X := fun w _ => laidMetH Tryz.prog Rows.exprsBindsRow.laid w) (fun _ _ _ hh h => h.of_heap hh) own started (by kernel_rfl) Tryz.func7
    (ChangeSpec.witness_shaped (enc := enc) (C := Tryz.checked) (os := os) (X := fun w _ => laidMetH Tryz.prog Rows.exprsBindsRow.laid w) false (World.laidAll Tryz.prog os Rows.exprsBindsRow.laid) #[.slice none 0 0, .slice none 0 0, .slice none 0 0, .int .u8 0, .int .u8 0] 8 (World.laidAll_os _ _ _)
      (World.shaped_of_ZipB (by kernel_rfl) (by kernel_rfl)) (by kernel_rfl) (by kernel_rfl) (by kernel_rfl)
      (by rw [MakeChecks.laidMetH_plain _ _ _ (by kernel_rfl)]; exact laidMet_laidAll _ (by kernel_rfl) (by kernel_rfl))) ?_
  intro W base args ds gs before hval0 hW _ _ hL _
  have hval : ∀ (j : Nat) t v, Tryz.f7.params[j]? = some t → args[j]? = some v → Value.okWide Tryz.prog W .any base t v := hval0
  have hW' := hW
  obtain ⟨p, q, hA0, hV, rfl, _, _⟩ := hW
  have hA : DataW.TrodAll enc Tryz.prog W 0 (fun _ => true) true Tryz.f7.params.toList args.toList ds p := hA0
  rw [Tryz.params7] at hA hval
  obtain ⟨v0, vs0, d0, ds0, p0, q0, hargs, rfl, rfl, h0, r0⟩ := trodAll_cons hA
  obtain ⟨v1, vs1, d1, ds1, p1, q1, rfl, rfl, rfl, h1, r1⟩ := trodAll_cons r0
  obtain ⟨v2, vs2, d2, ds2, p2, q2, rfl, rfl, rfl, h2, r2⟩ := trodAll_cons r1
  obtain ⟨v3, vs3, d3, ds3, p3, q3, rfl, rfl, rfl, h3, r3⟩ := trodAll_cons r2
  obtain ⟨v4, vs4, d4, ds4, p4, q4, rfl, rfl, rfl, h4, r4⟩ := trodAll_cons r3
  obtain ⟨rfl, rfl, rfl⟩ := trodAll_nil r4
  obtain rfl : args = #[v0, v1, v2, v3, v4] := by cases args; simp_all
  obtain ⟨rfl, rfl⟩ := trodVars_none hV
  obtain ⟨L0, s0, g0, sa0, sb0, sc0, sd0, w0, ce0⟩ := slice_arg Am.Nod.enc nodWf Tryz.underlying29 (hval 0 29 v0 rfl rfl) h0 (nod_elem Tryz.underlying43 (by kernel_rfl) rfl rfl rfl rfl rfl (by kernel_rfl) (by kernel_rfl) (by kernel_rfl) (by kernel_rfl) (by kernel_rfl) Tryz.underlying5 Tryz.underlying2 Tryz.underlying3 Tryz.underlying3 Tryz.underlying3)
  obtain ⟨L1, s1, g1, sa1, sb1, sc1, sd1, w1, ce1⟩ := slice_arg Am.Nod.enc nodWf Tryz.underlying29 (hval 1 29 v1 rfl rfl) h1 (nod_elem Tryz.underlying43 (by kernel_rfl) rfl rfl rfl rfl rfl (by kernel_rfl) (by kernel_rfl) (by kernel_rfl) (by kernel_rfl) (by kernel_rfl) Tryz.underlying5 Tryz.underlying2 Tryz.underlying3 Tryz.underlying3 Tryz.underlying3)
  obtain ⟨L2, s2, g2, sa2, sb2, sc2, sd2, w2, ce2⟩ := slice_arg Am.Nod.enc nodWf Tryz.underlying29 (hval 2 29 v2 rfl rfl) h2 (nod_elem Tryz.underlying43 (by kernel_rfl) rfl rfl rfl rfl rfl (by kernel_rfl) (by kernel_rfl) (by kernel_rfl) (by kernel_rfl) (by kernel_rfl) Tryz.underlying5 Tryz.underlying2 Tryz.underlying3 Tryz.underlying3 Tryz.underlying3)
  obtain ⟨a3, rfl, rfl, rfl, w3⟩ := open_int Tryz.underlying5 (hval 3 5 v3 rfl rfl) h3
  obtain ⟨a4, rfl, rfl, rfl, w4⟩ := open_int Tryz.underlying5 (hval 4 5 v4 rfl rfl) h4
  simp only [List.append_nil] at hW'
  rw [MakeChecks.laidMetH_plain _ _ _ (by kernel_rfl)] at hL
  obtain ⟨hB, hn⟩ := laidOf hL (by kernel_rfl) (by kernel_rfl) (by kernel_rfl) (by kernel_rfl)
  refine (walk v0 L0 s0 g0 w0 v1 L1 s1 g1 w1 v2 L2 s2 g2 w2 a3 w3 a4 w4 W (rd_nodes (sa0.trans (by kernel_rfl)) sb0 sc0 sd0 ce0) (rd_nodes (sa1.trans (by kernel_rfl)) sb1 sc1 sd1 ce1) (rd_nodes (sa2.trans (by kernel_rfl)) sb2 sc2 sd2 ce2) hB hn).mono fun e W' ⟨he, hb⟩ => ?_
  subst he
  exact ⟨_, rfl, _, _, _, [], _, [], hW', (trodAll_cons_mk (shut_bool Tryz.underlying4 _) trodAll_mk0), (trodAll_cons_mk (Below.trod laidOut (by kernel_rfl) (of_decide_eq_true (by kernel_rfl)) h0 hb (fun x hx => hW'.lt x (by simp [hx]))) (trodAll_cons_mk (Below.trod laidOut (by kernel_rfl) (of_decide_eq_true (by kernel_rfl)) h1 hb (fun x hx => hW'.lt x (by simp [hx]))) (trodAll_cons_mk (Below.trod laidOut (by kernel_rfl) (of_decide_eq_true (by kernel_rfl)) h2 hb (fun x hx => hW'.lt x (by simp [hx]))) (trodAll_cons_mk (shut_int Tryz.underlying5 w3) (trodAll_cons_mk (shut_int Tryz.underlying5 w4) trodAll_mk0))))), rfl, hb.frame _, fun h => by cases h⟩

theorem over : Rows.exprsBindsRow.holds Tryz.pinned (OpenSpec.ofChange Rows.exprsBindsSpec) :=
  OpenClaim.holds_of_wide 7 Tryz.f7 rfl rfl rfl rfl rfl rfl rfl ⟨rfl, rfl, rfl, rfl, rfl⟩ rfl rfl rfl rfl rfl (by kernel_rfl) Tryz.func7 (by kernel_rfl)
    (of_decide_eq_true (by kernel_rfl)) (by unfold Func.isWrapper; first | (rw [if_pos (by decide +kernel)]; kernel_rfl) | (rw [if_neg (by decide +kernel)]; exact ⟨rfl, rfl⟩))
    (fun os started H enc _ => lifted os started H enc)

/-- the statement -/
theorem proved : Rows.ExprsBindsCardSaid :=
  Claim7.holds_tied_plain_at .later [] Rows.exprsBindsCard.laidKinds true Rows.exprsBindsCard.stood.harness true over (fun _ h => by cases h) (by kernel_rfl) (fun _ h => by cases h) exprsBinds_row_tie rfl ⟨rfl, rfl⟩ (by kernel_rfl) rfl
    (fun f fn hf hfn => by
      obtain rfl : f = 7 := Option.some.inj ((show Tryz.prog.funcNamed "tailwater/tailwaterlaw05.ExprsBinds" = some 7 by kernel_rfl).symm.trans hf) |>.symm
      obtain rfl : fn = Tryz.f7 := (Option.some.inj (Tryz.func7.symm.trans hfn)).symm
      exact ⟨by kernel_rfl, fun j t ht => by
        rw [Tryz.params7] at ht
        have hm : t ∈ (Tryz.f7.params).toList := by rw [Tryz.params7]; first | (exfalso; simp at ht; done) | exact List.mem_of_getElem? (by simpa using ht)
        have hall : ((Tryz.f7.params).toList.all fun u => !Tryz.prog.wantsStandIn u) = true := by kernel_rfl
        exact (show Tryz.prog.wantsStandIn t = false by simpa using List.all_eq_true.1 hall t hm)⟩)
    (by kernel_rfl)
end Go.Proofs.YthfieonkfailkaaGreatDoor.exprsBinds
