/-
  PrinterWrites: for every input the law returns true, and its arguments read as they read before.
-/
import Derived.Test.YthfieonkfailkaaGreatDoorRows
import Derived.Test.YthfieonkfailkaaGreatDoorCards
import Derived.Test.YthfieonkfailkaaGreatDoorTie
import Derived.Test.YthfieonkfailkaaGreatDoorTxA
import Derived.Test.YthfieonkfailkaaGreatDoorExLaid
import Derived.ProofKit
import Derived.OpenShut
import Derived.LaidMore
import Derived.Test.YthfieonkfailkaaGreatDoorAmQry
import Derived.Stop.Joined
import Derived.Lay
import Derived.SevenTiedAt
namespace Go.Proofs.YthfieonkfailkaaGreatDoor.printerWrites
open Go.ChangeShapes Go.WideShapes Go.ChangeAt Go.RowKit Go.Am
set_option maxRecDepth 100000
theorem laidOut : laidOutB Tryz.prog = true := by kernel_rfl
theorem own : ownKnob Tryz.prog.godebug = none := by kernel_rfl
noncomputable abbrev spec (B : Nat → Option Obj) : FSpec := sWs B
theorem ok {B : Nat → Option Obj} (hB : Laid B) : FnOk (E0 B) 9 (spec B) := okWs hB
set_option linter.unusedVariables false in
theorem walk (q : Qry) (p0 p1 p2 : Pos) (v0 : Value) (L : List Am.Nod) (p3 : Pos) (v1 : Value) (w : World) (h0 : QryV w q p0 p1 p2 v0) (hq : qryWf q) (g1 : V (fun _ => some p3) (.slw 0) v1) (r1 : ∀ x ∈ L, nodWf x) (h1 : RdD w (.nodes L) p3) (hB : Laid (fun g => w.heap[g]?)) (hn : ngN ≤ w.heap.size) :
    Calls Tryz.prog 9 #[v0, v1] w fun e w' => e = .returned (.bool true) ∧ Below w.heap.size w w' := by
  have ht : (spec (fun g => w.heap[g]?) [q.av 0 1 2, .slw 3] [⟨false, .nodes q.arg⟩, ⟨false, .ints .i64 q.src⟩, ⟨false, .nodes q.whr⟩, ⟨false, .nodes L⟩]).sel = some ⟨[.bool true], []⟩ := sWs_sel hq.1 hq.2.1 r1
  have hqq := h0
  obtain ⟨_, _, _, _, _, _, _, n0, n1, n2⟩ := hqq
  have hc : CfgOk (E0 fun g => w.heap[g]?) w [⟨false, .nodes q.arg⟩, ⟨false, .ints .i64 q.src⟩, ⟨false, .nodes q.whr⟩, ⟨false, .nodes L⟩] [p0, p1, p2, p3] := cfg_reads (gokOf hn) rfl (by simp) fun k x p hx hp => by
    rcases k with _ | _ | _ | _ | k
    · cases hx; cases hp; exact ⟨rfl, n0.rd⟩
    · cases hx; cases hp; exact ⟨rfl, n1.rd⟩
    · cases hx; cases hp; exact ⟨rfl, n2.rd⟩
    · cases hx; cases hp; exact ⟨rfl, h1⟩
    · simp at hx
  exact Am.law_calls2 (ok hB) ht hc (fun x hx => by simp at hx; rcases hx with rfl | rfl | rfl | rfl <;> rfl) (cargs := [v0, v1]) (by
    simp only [VL]
    exact ⟨_, _, rfl, h0.at' rfl rfl rfl, _, _, rfl, slw_at rfl g1, rfl⟩)

theorem lifted (os : Os) (started : os.Started) (H : Type) (enc : TypeId × Value → H) :
    ReturnsInHanded {} Tryz.checked os 9 .any (fun w args => (Rows.printerWritesSpec.pre enc Tryz.prog Tryz.f9 [] false w args ∧ laidMetH Tryz.prog Rows.printerWritesRow.laid w) ∧ sizedMet enc Tryz.prog Tryz.f9 (OpenSpec.ofChange Rows.printerWritesSpec) false w args)
      (Rows.printerWritesSpec.post enc Tryz.prog Tryz.f9 false true false false) := by
  refine returnsInHanded_of_change_and (C := Tryz.checked) (X := fun w _ => laidMetH Tryz.prog Rows.printerWritesRow.laid w) (fun _ _ _ hh h => h.of_heap hh) own started (by kernel_rfl) Tryz.func9
    (ChangeSpec.witness_shaped (enc := enc) (C := Tryz.checked) (os := os) (X := fun w _ => laidMetH Tryz.prog Rows.printerWritesRow.laid w) false (World.laidAll Tryz.prog os Rows.printerWritesRow.laid) #[.agg #[.int .u8 0, .slice none 0 0, .slice none 0 0, .bool false, .slice none 0 0, .int .u8 0, .int .i64 0, .int .i64 0, .bool false, .int .u8 0], .slice none 0 0] 8 (World.laidAll_os _ _ _)
      (World.shaped_of_ZipB (by kernel_rfl) (by kernel_rfl)) (by kernel_rfl) (by kernel_rfl) (by kernel_rfl)
      (by rw [MakeChecks.laidMetH_plain _ _ _ (by kernel_rfl)]; exact laidMet_laidAll _ (by kernel_rfl) (by kernel_rfl))) ?_
  intro W base args ds gs before hval0 hW _ _ hL _
  have hval : ∀ (j : Nat) t v, Tryz.f9.params[j]? = some t → args[j]? = some v → Value.okWide Tryz.prog W .any base t v := hval0
  have hW' := hW
  obtain ⟨p, q, hA0, hV, rfl, _, _⟩ := hW
  have hA : DataW.TrodAll enc Tryz.prog W 0 (fun _ => true) true Tryz.f9.params.toList args.toList ds p := hA0
  rw [Tryz.params9] at hA hval
  obtain ⟨v0, vs0, d0, ds0, p0, q0, hargs, rfl, rfl, h0, r0⟩ := trodAll_cons hA
  obtain ⟨v1, vs1, d1, ds1, p1, q1, rfl, rfl, rfl, h1, r1⟩ := trodAll_cons r0
  obtain ⟨rfl, rfl, rfl⟩ := trodAll_nil r1
  obtain rfl : args = #[v0, v1] := by cases args; simp_all
  obtain ⟨rfl, rfl⟩ := trodVars_none hV
  have el : NodEl enc Tryz.prog W 0 (fun _ => true) true 43 := nod_elem Tryz.underlying43 (by kernel_rfl) rfl rfl rfl rfl rfl (by kernel_rfl) (by kernel_rfl) (by kernel_rfl) (by kernel_rfl) (by kernel_rfl) Tryz.underlying5 Tryz.underlying2 Tryz.underlying3 Tryz.underlying3 Tryz.underlying3
  obtain ⟨Q, s0, s1, s2, hQ, hQw⟩ := qry_arg (QryT.mk Tryz.underlying67 (u8 := 5) (nl := 29) (il := 24) (b := 4) (i64 := 2) (by kernel_rfl) (by kernel_rfl) rfl rfl rfl (by kernel_rfl) (by kernel_rfl) (by kernel_rfl) rfl rfl rfl
    Tryz.underlying5 Tryz.underlying4 (by kernel_rfl) Tryz.underlying29 Tryz.underlying24 Tryz.underlying3 (by kernel_rfl) (by kernel_rfl)) el (hval 0 67 v0 rfl rfl) h0
  obtain ⟨L1, s3, g1, sa1, sb1, sc1, sd1, w1, ce1⟩ := slice_arg Am.Nod.enc nodWf Tryz.underlying29 (hval 1 29 v1 rfl rfl) h1 (nod_elem Tryz.underlying43 (by kernel_rfl) rfl rfl rfl rfl rfl (by kernel_rfl) (by kernel_rfl) (by kernel_rfl) (by kernel_rfl) (by kernel_rfl) Tryz.underlying5 Tryz.underlying2 Tryz.underlying3 Tryz.underlying3 Tryz.underlying3)
  simp only [List.append_nil] at hW'
  rw [MakeChecks.laidMetH_plain _ _ _ (by kernel_rfl)] at hL
  obtain ⟨hB, hn⟩ := laidOf hL (by kernel_rfl) (by kernel_rfl) (by kernel_rfl) (by kernel_rfl)
  refine (walk Q s0 s1 s2 v0 L1 s3 v1 W hQ hQw g1 w1 (rd_nodes (sa1.trans (by kernel_rfl)) sb1 sc1 sd1 ce1) hB hn).mono fun e W' ⟨he, hb⟩ => ?_
  subst he
  exact ⟨_, rfl, _, _, _, [], _, [], hW', (trodAll_cons_mk (shut_bool Tryz.underlying4 _) trodAll_mk0), (trodAll_cons_mk (Below.trod laidOut (by kernel_rfl) (of_decide_eq_true (by kernel_rfl)) h0 hb (fun x hx => hW'.lt x (by simp [hx]))) (trodAll_cons_mk (Below.trod laidOut (by kernel_rfl) (of_decide_eq_true (by kernel_rfl)) h1 hb (fun x hx => hW'.lt x (by simp [hx]))) trodAll_mk0)), rfl, hb.frame _, fun h => by cases h⟩

theorem over : Rows.printerWritesRow.holds Tryz.pinned (OpenSpec.ofChange Rows.printerWritesSpec) :=
  OpenClaim.holds_of_wide 9 Tryz.f9 rfl rfl rfl rfl rfl rfl rfl ⟨rfl, rfl, rfl, rfl, rfl⟩ rfl rfl rfl rfl rfl (by kernel_rfl) Tryz.func9 (by kernel_rfl)
    (of_decide_eq_true (by kernel_rfl)) (by unfold Func.isWrapper; first | (rw [if_pos (by decide +kernel)]; kernel_rfl) | (rw [if_neg (by decide +kernel)]; exact ⟨rfl, rfl⟩))
    (fun os started H enc _ => lifted os started H enc)

/-- the statement -/
theorem proved : Rows.PrinterWritesCardSaid :=
  Claim7.holds_tied_plain_at .later [] Rows.printerWritesCard.laidKinds true Rows.printerWritesCard.stood.harness true over (fun _ h => by cases h) (by kernel_rfl) (fun _ h => by cases h) printerWrites_row_tie rfl ⟨rfl, rfl⟩ (by kernel_rfl) rfl
    (fun f fn hf hfn => by
      obtain rfl : f = 9 := Option.some.inj ((show Tryz.prog.funcNamed "tailwater/tailwaterlaw11.PrinterWrites" = some 9 by kernel_rfl).symm.trans hf) |>.symm
      obtain rfl : fn = Tryz.f9 := (Option.some.inj (Tryz.func9.symm.trans hfn)).symm
      exact ⟨by kernel_rfl, fun j t ht => by
        rw [Tryz.params9] at ht
        have hm : t ∈ (Tryz.f9.params).toList := by rw [Tryz.params9]; first | (exfalso; simp at ht; done) | exact List.mem_of_getElem? (by simpa using ht)
        have hall : ((Tryz.f9.params).toList.all fun u => !Tryz.prog.wantsStandIn u) = true := by kernel_rfl
        exact (show Tryz.prog.wantsStandIn t = false by simpa using List.all_eq_true.1 hall t hm)⟩)
    (by kernel_rfl)
end Go.Proofs.YthfieonkfailkaaGreatDoor.printerWrites
