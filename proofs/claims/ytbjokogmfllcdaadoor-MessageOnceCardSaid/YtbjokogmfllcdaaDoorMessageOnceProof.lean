/-
  MessageOnce: for every input the law returns true, and its arguments read as they read before.
-/
import Derived.Test.YtbjokogmfllcdaaDoorRows
import Derived.Test.YtbjokogmfllcdaaDoorCards
import Derived.Test.YtbjokogmfllcdaaDoorTie
import Derived.Test.YtbjokogmfllcdaaDoorMsgLawO
import Derived.Test.YtbjokogmfllcdaaDoorMsgLaid
import Derived.ProofKit
import Derived.OpenShut
import Derived.LaidMore
import Derived.Test.YtbjokogmfllcdaaDoorAmWrap
import Derived.Stop.Joined
import Derived.Lay
import Derived.SevenTiedAt
namespace Go.Proofs.YtbjokogmfllcdaaDoor.messageOnce
open Go.ChangeShapes Go.WideShapes Go.ChangeAt Go.RowKit Go.Am
set_option maxRecDepth 100000
theorem laidOut : laidOutB Tryd.prog = true := by kernel_rfl
theorem own : ownKnob Tryd.prog.godebug = none := by kernel_rfl
noncomputable abbrev spec (B : Nat → Option Obj) : FSpec := sOnce B
theorem ok {B : Nat → Option Obj} (hB : Laid B) : FnOk (E0 B) 5 (spec B) := okOnce hB
set_option linter.unusedVariables false in
theorem walk (v0 : Value) (m0 : Msg) (z0 : (fun m => rngM m = true) m0) (g0 : V (fun _ => none) m0.av v0) (v1 : Value) (m1 : Msg) (z1 : (fun m => rngM m = true) m1) (g1 : V (fun _ => none) m1.av v1) (w : World) (hB : Laid (fun g => w.heap[g]?)) (hn : ngN ≤ w.heap.size) :
    Calls Tryd.prog 5 #[v0, v1] w fun e w' => e = .returned (.bool true) ∧ Below w.heap.size w w' := by
  have ht : (spec (fun g => w.heap[g]?) [m0.av, m1.av] []).sel = some ⟨[.bool true], []⟩ := (by show (bif rngM m0 && rngM m1 then some (⟨[.bool true], []⟩ : Out) else none) = _; rw [z0, z1]; rfl)
  exact Am.law_calls (ok hB) ht (gokOf hn) (cargs := [v0, v1]) (by
    simp only [VL]
    exact ⟨_, _, rfl, g0, ⟨_, _, rfl, g1, rfl⟩⟩)

theorem lifted (os : Os) (started : os.Started) (H : Type) (enc : TypeId × Value → H) :
    ReturnsInHanded {} Tryd.checked os 5 .any (fun w args => (Rows.messageOnceSpec.pre enc Tryd.prog Tryd.f5 [] false w args ∧ laidMetH Tryd.prog Rows.messageOnceRow.laid w) ∧ sizedMet enc Tryd.prog Tryd.f5 (OpenSpec.ofChange Rows.messageOnceSpec) false w args)
      (Rows.messageOnceSpec.post enc Tryd.prog Tryd.f5 false true false false) := by
  refine wrap_laid (C := Tryd.checked) (X := fun w _ => laidMetH Tryd.prog Rows.messageOnceRow.laid w) (fun _ _ _ hh h => h.of_heap hh) own started (by kernel_rfl) Tryd.func5
    (ChangeSpec.witness_shaped (enc := enc) (C := Tryd.checked) (os := os) (X := fun w _ => laidMetH Tryd.prog Rows.messageOnceRow.laid w) false (World.laidAll Tryd.prog os Rows.messageOnceRow.laid) #[.agg #[.int .u8 0, .int .i64 0, .int .i64 0, .int .i64 0, .int .i64 0, .int .i64 0, .int .i64 0, .int .i64 0, .int .i64 0, .int .i64 0], .agg #[.int .u8 0, .int .i64 0, .int .i64 0, .int .i64 0, .int .i64 0, .int .i64 0, .int .i64 0, .int .i64 0, .int .i64 0, .int .i64 0]] 8 (World.laidAll_os _ _ _)
      (World.shaped_of_ZipB (by kernel_rfl) (by kernel_rfl)) (by kernel_rfl) (by kernel_rfl) (by kernel_rfl)
      (by rw [MakeChecks.laidMetH_plain _ _ _ (by kernel_rfl)]; exact laidMet_laidAll _ (by kernel_rfl) (by kernel_rfl))) ?_
  intro W base args ds gs before hval0 hW hL hS
  have hval : ∀ (j : Nat) t v, Tryd.f5.params[j]? = some t → args[j]? = some v → Value.okWide Tryd.prog W .any base t v := hval0
  have hW' := hW
  obtain ⟨p, q, hA0, hV, rfl, _, _⟩ := hW
  have hA : DataW.TrodAll enc Tryd.prog W 0 (fun _ => true) true Tryd.f5.params.toList args.toList ds p := hA0
  rw [Tryd.params5] at hA hval
  obtain ⟨v0, vs0, d0, ds0, p0, q0, hargs, rfl, rfl, h0, r0⟩ := trodAll_cons hA
  obtain ⟨v1, vs1, d1, ds1, p1, q1, rfl, rfl, rfl, h1, r1⟩ := trodAll_cons r0
  obtain ⟨rfl, rfl, rfl⟩ := trodAll_nil r1
  obtain rfl : args = #[v0, v1] := by cases args; simp_all
  obtain ⟨rfl, rfl⟩ := trodVars_none hV
  obtain ⟨m0, g0, z0⟩ := msg_arg (hval 0 30 v0 rfl rfl)
  obtain ⟨m1, g1, z1⟩ := msg_arg (hval 1 30 v1 rfl rfl)
  simp only [List.append_nil] at hW'
  rw [MakeChecks.laidMetH_plain _ _ _ (by kernel_rfl)] at hL
  obtain ⟨hB, hn⟩ := laidOf hS hL (by kernel_rfl) (by kernel_rfl) (by kernel_rfl)
  refine (walk v0 m0 z0 g0 v1 m1 z1 g1 W hB hn).mono fun e W' ⟨he, hb⟩ => ?_
  subst he
  exact ⟨_, rfl, _, _, _, [], _, [], hW', (trodAll_cons_mk (shut_bool Tryd.underlying4 _) trodAll_mk0), (trodAll_cons_mk (Below.trod laidOut (by kernel_rfl) (of_decide_eq_true (by kernel_rfl)) h0 hb (fun x hx => hW'.lt x (by simp [hx]))) (trodAll_cons_mk (Below.trod laidOut (by kernel_rfl) (of_decide_eq_true (by kernel_rfl)) h1 hb (fun x hx => hW'.lt x (by simp [hx]))) trodAll_mk0)), rfl, hb.frame _, fun h => by cases h⟩

theorem over : Rows.messageOnceRow.holds Tryd.pinned (OpenSpec.ofChange Rows.messageOnceSpec) :=
  OpenClaim.holds_of_wide 5 Tryd.f5 rfl rfl rfl rfl rfl rfl rfl ⟨rfl, rfl, rfl, rfl, rfl⟩ rfl rfl rfl rfl rfl (by kernel_rfl) Tryd.func5 (by kernel_rfl)
    (of_decide_eq_true (by kernel_rfl)) (by unfold Func.isWrapper; first | (rw [if_pos (by decide +kernel)]; kernel_rfl) | (rw [if_neg (by decide +kernel)]; exact ⟨rfl, rfl⟩))
    (fun os started H enc _ => lifted os started H enc)

/-- the statement -/
theorem proved : Rows.MessageOnceCardSaid :=
  Claim7.holds_tied_plain_at .later [] Rows.messageOnceCard.laidKinds true Rows.messageOnceCard.stood.harness true over (fun _ h => by cases h) (by kernel_rfl) (fun _ h => by cases h) messageOnce_row_tie rfl ⟨rfl, rfl⟩ (by kernel_rfl) rfl
    (fun f fn hf hfn => by
      obtain rfl : f = 5 := Option.some.inj ((show Tryd.prog.funcNamed "tailwater/tailwaterlaw25.MessageOnce" = some 5 by kernel_rfl).symm.trans hf) |>.symm
      obtain rfl : fn = Tryd.f5 := (Option.some.inj (Tryd.func5.symm.trans hfn)).symm
      exact ⟨by kernel_rfl, fun j t ht => by
        rw [Tryd.params5] at ht
        have hm : t ∈ (Tryd.f5.params).toList := by rw [Tryd.params5]; first | (exfalso; simp at ht; done) | exact List.mem_of_getElem? (by simpa using ht)
        have hall : ((Tryd.f5.params).toList.all fun u => !Tryd.prog.wantsStandIn u) = true := by kernel_rfl
        exact (show Tryd.prog.wantsStandIn t = false by simpa using List.all_eq_true.1 hall t hm)⟩)
    (by kernel_rfl)
end Go.Proofs.YtbjokogmfllcdaaDoor.messageOnce
