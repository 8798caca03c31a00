/-
  LexerJoin: for every input the law returns true, and its arguments read as they read before.
-/
import Derived.Test.YtielnommkhfghaaDoorRows
import Derived.Test.YtielnommkhfghaaDoorCards
import Derived.Test.YtielnommkhfghaaDoorTie
import Derived.Test.YtielnommkhfghaaDoorLexLawJ
import Derived.Test.YtielnommkhfghaaDoorLexLaid
import Derived.ProofKit
import Derived.OpenShut
import Derived.LaidMore
import Derived.Test.YtielnommkhfghaaDoorAmArg
import Derived.Stop.Joined
import Derived.Lay
import Derived.SevenTiedAt
namespace Go.Proofs.YtielnommkhfghaaDoor.lexerJoin
open Go.ChangeShapes Go.WideShapes Go.ChangeAt Go.RowKit Go.Am
set_option maxRecDepth 100000
theorem laidOut : laidOutB Tryd.prog = true := by kernel_rfl
theorem own : ownKnob Tryd.prog.godebug = none := by kernel_rfl
noncomputable abbrev spec (B : Nat → Option Obj) : FSpec := sToks B
theorem ok {B : Nat → Option Obj} (hB : Laid B) : FnOk (E0 B) 5 (spec B) := okJoinL hB
set_option linter.unusedVariables false in
theorem walk (v0 : Value) (L0 : List Am.Tok) (s0 : Pos) (g0 : V (fun _ => some s0) (.slw 0) v0) (w : World) (y0 : RdD w (.toks L0) s0) (hB : Laid (fun g => w.heap[g]?)) (hn : ngN ≤ w.heap.size) :
    Calls Tryd.prog 5 #[v0] w fun e w' => e = .returned (.bool true) ∧ Below w.heap.size w w' := by
  have ht : (spec (fun g => w.heap[g]?) [.slw 0] [⟨false, .toks L0⟩]).sel = some ⟨[.bool true], []⟩ := rfl
  have hc : CfgOk (E0 fun g => w.heap[g]?) w [⟨false, .toks L0⟩] [s0] := cfg_reads (gokOf hn) rfl (by simp) fun k x p hx hp => by
    rcases k with _ | k; · (cases hx; cases hp; exact ⟨rfl, y0⟩)
    exact absurd hx (by simp)
  exact Am.law_calls2 (ok hB) ht hc (fun x hx => by simp at hx; first | (subst hx; rfl) | (rcases hx with rfl | rfl <;> rfl)) (cargs := [v0]) (by
    simp only [VL]
    exact ⟨_, _, rfl, (slw_at rfl g0), rfl⟩)

theorem lifted (os : Os) (started : os.Started) (H : Type) (enc : TypeId × Value → H) :
    ReturnsInHanded {} Tryd.checked os 5 .any (fun w args => (Rows.lexerJoinSpec.pre enc Tryd.prog Tryd.f5 [] false w args ∧ laidMetH Tryd.prog Rows.lexerJoinRow.laid w) ∧ sizedMet enc Tryd.prog Tryd.f5 (OpenSpec.ofChange Rows.lexerJoinSpec) false w args)
      (Rows.lexerJoinSpec.post enc Tryd.prog Tryd.f5 false true false false) := by
  refine returnsInHanded_of_change_and (C := Tryd.checked) (X := fun w _ => laidMetH Tryd.prog Rows.lexerJoinRow.laid w) (fun _ _ _ hh h => h.of_heap hh) own started (by kernel_rfl) Tryd.func5
    (ChangeSpec.witness_shaped (enc := enc) (C := Tryd.checked) (os := os) (X := fun w _ => laidMetH Tryd.prog Rows.lexerJoinRow.laid w) false (World.laidAll Tryd.prog os Rows.lexerJoinRow.laid) #[.slice none 0 0] 8 (World.laidAll_os _ _ _)
      (World.shaped_of_ZipB (by kernel_rfl) (by kernel_rfl)) (by kernel_rfl) (by kernel_rfl) (by kernel_rfl)
      (by rw [MakeChecks.laidMetH_plain _ _ _ (by kernel_rfl)]; exact laidMet_laidAll _ (by kernel_rfl) (by kernel_rfl))) ?_
  intro W base args ds gs before hval0 hW _ _ hL _
  have hval : ∀ (j : Nat) t v, Tryd.f5.params[j]? = some t → args[j]? = some v → Value.okWide Tryd.prog W .any base t v := hval0
  have hW' := hW
  obtain ⟨p, q, hA0, hV, rfl, _, _⟩ := hW
  have hA : DataW.TrodAll enc Tryd.prog W 0 (fun _ => true) true Tryd.f5.params.toList args.toList ds p := hA0
  rw [Tryd.params5] at hA hval
  obtain ⟨v0, vs0, d0, ds0, p0, q0, hargs, rfl, rfl, h0, r0⟩ := trodAll_cons hA
  obtain ⟨rfl, rfl, rfl⟩ := trodAll_nil r0
  obtain rfl : args = #[v0] := by cases args; simp_all
  obtain ⟨rfl, rfl⟩ := trodVars_none hV
  obtain ⟨L0, s0, g0, sa0, sb0, sc0, sd0, w0, ce0⟩ := slice_arg Am.Tok.enc (fun x => (Lit.int .u8 x.kind).wf = true ∧ (Lit.int .i64 x.pos).wf = true) Tryd.underlying28 (hval 0 28 v0 rfl rfl) h0 (tok_elem Tryd.underlying30 (by kernel_rfl) rfl rfl rfl (by kernel_rfl) (by kernel_rfl) (by kernel_rfl) Tryd.underlying5 Tryd.underlying9 Tryd.underlying3)
  simp only [List.append_nil] at hW'
  rw [MakeChecks.laidMetH_plain _ _ _ (by kernel_rfl)] at hL
  obtain ⟨hB, hn⟩ := laidOf hL (by kernel_rfl) (by kernel_rfl) (by kernel_rfl)
  refine (walk v0 L0 s0 g0 W (rd_toks (sa0.trans (by kernel_rfl)) sb0 sc0 sd0 ce0) hB hn).mono fun e W' ⟨he, hb⟩ => ?_
  subst he
  exact ⟨_, rfl, _, _, _, [], _, [], hW', (trodAll_cons_mk (shut_bool Tryd.underlying4 _) trodAll_mk0), (trodAll_cons_mk (Below.trod laidOut (by kernel_rfl) (of_decide_eq_true (by kernel_rfl)) h0 hb (fun x hx => hW'.lt x (by simp [hx]))) trodAll_mk0), rfl, hb.frame _, fun h => by cases h⟩

theorem over : Rows.lexerJoinRow.holds Tryd.pinned (OpenSpec.ofChange Rows.lexerJoinSpec) :=
  OpenClaim.holds_of_wide 5 Tryd.f5 rfl rfl rfl rfl rfl rfl rfl ⟨rfl, rfl, rfl, rfl, rfl⟩ rfl rfl rfl rfl rfl (by kernel_rfl) Tryd.func5 (by kernel_rfl)
    (of_decide_eq_true (by kernel_rfl)) (by unfold Func.isWrapper; first | (rw [if_pos (by decide +kernel)]; kernel_rfl) | (rw [if_neg (by decide +kernel)]; exact ⟨rfl, rfl⟩))
    (fun os started H enc _ => lifted os started H enc)

/-- the statement -/
theorem proved : Rows.LexerJoinCardSaid :=
  Claim7.holds_tied_plain_at .later [] Rows.lexerJoinCard.laidKinds true Rows.lexerJoinCard.stood.harness true over (fun _ h => by cases h) (by kernel_rfl) (fun _ h => by cases h) lexerJoin_row_tie rfl ⟨rfl, rfl⟩ (by kernel_rfl) rfl
    (fun f fn hf hfn => by
      obtain rfl : f = 5 := Option.some.inj ((show Tryd.prog.funcNamed "tailwater/tailwaterlaw03.LexerJoin" = some 5 by kernel_rfl).symm.trans hf) |>.symm
      obtain rfl : fn = Tryd.f5 := (Option.some.inj (Tryd.func5.symm.trans hfn)).symm
      exact ⟨by kernel_rfl, fun j t ht => by
        rw [Tryd.params5] at ht
        have hm : t ∈ (Tryd.f5.params).toList := by rw [Tryd.params5]; first | (exfalso; simp at ht; done) | exact List.mem_of_getElem? (by simpa using ht)
        have hall : ((Tryd.f5.params).toList.all fun u => !Tryd.prog.wantsStandIn u) = true := by kernel_rfl
        exact (show Tryd.prog.wantsStandIn t = false by simpa using List.all_eq_true.1 hall t hm)⟩)
    (by kernel_rfl)
end Go.Proofs.YtielnommkhfghaaDoor.lexerJoin
