/-
  ExprsBrackets: for every input the law returns true, and its arguments read as they read before.
-/
import Derived.Test.YtdckpbeioemopabGreatDoorRows
import Derived.Test.YtdckpbeioemopabGreatDoorCards
import Derived.Test.YtdckpbeioemopabGreatDoorTie
import Derived.Test.YtdckpbeioemopabGreatDoorBrA
import Derived.Test.YtdckpbeioemopabGreatDoorExLaid
import Derived.ProofKit
import Derived.OpenShut
import Derived.LaidMore
import Derived.Test.YtdckpbeioemopabGreatDoorPureB
import Derived.Stop.Joined
import Derived.Lay
import Derived.SevenTiedAt
namespace Go.Proofs.YtdckpbeioemopabGreatDoor.exprsBrackets
open Go.ChangeShapes Go.WideShapes Go.ChangeAt Go.RowKit Go.Am
set_option maxRecDepth 100000
theorem laidOut : laidOutB Tryz.prog = true := by kernel_rfl
theorem own : ownKnob Tryz.prog.godebug = none := by kernel_rfl
noncomputable abbrev spec (B : Nat → Option Obj) : FSpec := Br.sBr B
theorem ok {B : Nat → Option Obj} (hB : Laid B) : FnOk (E0 B) 6 (spec B) := Br.okBr hB
set_option linter.unusedVariables false in
theorem walk (v0 : Value) (L0 : List Am.Nod) (s0 : Pos) (g0 : V (fun _ => some s0) (.slw 0) v0) (r0 : ∀ x ∈ L0, (nodWf) x) (v1 : Value) (L1 : List Am.Tok) (s1 : Pos) (g1 : V (fun _ => some s1) (.slw 0) v1) (r1 : ∀ x ∈ L1, (tokWf) x) (v2 : Value) (m2 : Am.Tok) (z2 : tokWf m2) (g2 : V (fun _ => none) (.agg m2.enc) v2) (w : World) (y0 : RdD w (.nodes L0) s0) (y1 : RdD w (.toks L1) s1) (hB : Laid (fun g => w.heap[g]?)) (hn : ngN ≤ w.heap.size) :
    Calls Tryz.prog 6 #[v0, v1, v2] w fun e w' => e = .returned (.bool true) ∧ Below w.heap.size w w' := by
  have ht : (spec (fun g => w.heap[g]?) [.slw 0, .slw 1, .agg m2.enc] [⟨false, .nodes L0⟩, ⟨false, .toks L1⟩]).sel = some ⟨[.bool true], []⟩ := Br.sBr_sel r0 r1 z2
  have hc : CfgOk (E0 fun g => w.heap[g]?) w [⟨false, .nodes L0⟩, ⟨false, .toks L1⟩] [s0, s1] := cfg_reads (gokOf hn) rfl (by simp) fun k x p hx hp => by
    rcases k with _ | k; · (cases hx; cases hp; exact ⟨rfl, y0⟩)
    rcases k with _ | k; · (cases hx; cases hp; exact ⟨rfl, y1⟩)
    exact absurd hx (by simp)
  exact Am.law_calls2 (ok hB) ht hc (fun x hx => by simp at hx; (rcases hx with rfl | rfl <;> rfl)) (cargs := [v0, v1, v2]) (by
    simp only [VL]
    exact ⟨_, _, rfl, (slw_at rfl g0), ⟨_, _, rfl, (slw_at rfl g1), ⟨_, _, rfl, (tok_any g2), rfl⟩⟩⟩)
theorem lifted (os : Os) (started : os.Started) (H : Type) (enc : TypeId × Value → H) :
    ReturnsInHanded {} Tryz.checked os 6 .any (fun w args => (Rows.exprsBracketsSpec.pre enc Tryz.prog Tryz.f6 [] false w args ∧ laidMetH Tryz.prog Rows.exprsBracketsRow.laid w) ∧ sizedMet enc Tryz.prog Tryz.f6 (OpenSpec.ofChange Rows.exprsBracketsSpec) false w args)
      (Rows.exprsBracketsSpec.post enc Tryz.prog Tryz.f6 false true false false) := by
  refine returnsInHanded_of_change_and (C := Tryz.checked) (X := fun w _ => laidMetH Tryz.prog Rows.exprsBracketsRow.laid w) (fun _ _ _ hh h => h.of_heap hh) own started (by kernel_rfl) Tryz.func6
    (ChangeSpec.witness_shaped (enc := enc) (C := Tryz.checked) (os := os) (X := fun w _ => laidMetH Tryz.prog Rows.exprsBracketsRow.laid w) false (World.laidAll Tryz.prog os Rows.exprsBracketsRow.laid) #[.slice none 0 0, .slice none 0 0, .agg #[.int .u8 0, .string ByteArray.empty, .int .i64 0]] 8 (World.laidAll_os _ _ _)
      (World.shaped_of_ZipB (by kernel_rfl) (by kernel_rfl)) (by kernel_rfl) (by kernel_rfl) (by kernel_rfl)
      (by rw [MakeChecks.laidMetH_plain _ _ _ (by kernel_rfl)]; exact laidMet_laidAll _ (by kernel_rfl) (by kernel_rfl))) ?_
  intro W base args ds gs before hval0 hW _ _ hL _
  have hval : ∀ (j : Nat) t v, Tryz.f6.params[j]? = some t → args[j]? = some v → Value.okWide Tryz.prog W .any base t v := hval0
  have hW' := hW
  obtain ⟨p, q, hA0, hV, rfl, _, _⟩ := hW
  have hA : DataW.TrodAll enc Tryz.prog W 0 (fun _ => true) true Tryz.f6.params.toList args.toList ds p := hA0
  rw [Tryz.params6] at hA hval
  obtain ⟨v0, vs0, d0, ds0, p0, q0, hargs, rfl, rfl, h0, r0⟩ := trodAll_cons hA
  obtain ⟨v1, vs1, d1, ds1, p1, q1, rfl, rfl, rfl, h1, r1⟩ := trodAll_cons r0
  obtain ⟨v2, vs2, d2, ds2, p2, q2, rfl, rfl, rfl, h2, r2⟩ := trodAll_cons r1
  obtain ⟨rfl, rfl, rfl⟩ := trodAll_nil r2
  obtain rfl : args = #[v0, v1, v2] := by cases args; simp_all
  obtain ⟨rfl, rfl⟩ := trodVars_none hV
  obtain ⟨L0, s0, g0, sa0, sb0, sc0, sd0, w0, ce0⟩ := slice_arg Am.Nod.enc nodWf Tryz.underlying22 (hval 0 22 v0 rfl rfl) h0 (nod_elem Tryz.underlying82 (by kernel_rfl) rfl rfl rfl rfl rfl (by kernel_rfl) (by kernel_rfl) (by kernel_rfl) (by kernel_rfl) (by kernel_rfl) Tryz.underlying5 Tryz.underlying2 Tryz.underlying3 Tryz.underlying3 Tryz.underlying3)
  obtain ⟨L1, s1, g1, sa1, sb1, sc1, sd1, w1, ce1⟩ := slice_arg Am.Tok.enc tokWf Tryz.underlying51 (hval 1 51 v1 rfl rfl) h1 (tok_elemL Tryz.underlying53 (by kernel_rfl) rfl rfl rfl (by kernel_rfl) (by kernel_rfl) (by kernel_rfl) Tryz.underlying5 Tryz.underlying9 Tryz.underlying3)
  obtain ⟨m2, g2, z2⟩ := tok_arg Tryz.underlying53 (by kernel_rfl) rfl rfl rfl (by kernel_rfl) (by kernel_rfl) (by kernel_rfl) Tryz.underlying5 Tryz.underlying9 Tryz.underlying3 (hval 2 53 v2 rfl rfl) h2
  simp only [List.append_nil] at hW'
  rw [MakeChecks.laidMetH_plain _ _ _ (by kernel_rfl)] at hL
  obtain ⟨hB, hn⟩ := laidOf hL (by kernel_rfl) (by kernel_rfl) (by kernel_rfl) (by kernel_rfl)
  refine (walk v0 L0 s0 g0 w0 v1 L1 s1 g1 w1 v2 m2 z2 g2 W (rd_nodes (sa0.trans (by kernel_rfl)) sb0 sc0 sd0 ce0) (rd_toks (sa1.trans (by kernel_rfl)) sb1 sc1 sd1 ce1) hB hn).mono fun e W' ⟨he, hb⟩ => ?_
  subst he
  exact ⟨_, rfl, _, _, _, [], _, [], hW', (trodAll_cons_mk (shut_bool Tryz.underlying4 _) trodAll_mk0), (trodAll_cons_mk (Below.trod laidOut (by kernel_rfl) (of_decide_eq_true (by kernel_rfl)) h0 hb (fun x hx => hW'.lt x (by simp [hx]))) (trodAll_cons_mk (Below.trod laidOut (by kernel_rfl) (of_decide_eq_true (by kernel_rfl)) h1 hb (fun x hx => hW'.lt x (by simp [hx]))) (trodAll_cons_mk (Below.trod laidOut (by kernel_rfl) (of_decide_eq_true (by kernel_rfl)) h2 hb (fun x hx => hW'.lt x (by simp [hx]))) trodAll_mk0))), rfl, hb.frame _, fun h => by cases h⟩
theorem over : Rows.exprsBracketsRow.holds Tryz.pinned (OpenSpec.ofChange Rows.exprsBracketsSpec) :=
  OpenClaim.holds_of_wide 6 Tryz.f6 rfl rfl rfl rfl rfl rfl rfl ⟨rfl, rfl, rfl, rfl, rfl⟩ rfl rfl rfl rfl rfl (by kernel_rfl) Tryz.func6 (by kernel_rfl)
    (of_decide_eq_true (by kernel_rfl)) (by unfold Func.isWrapper; first | (rw [if_pos (by decide +kernel)]; kernel_rfl) | (rw [if_neg (by decide +kernel)]; exact ⟨rfl, rfl⟩))
    (fun os started H enc _ => lifted os started H enc)
theorem proved : Rows.ExprsBracketsCardSaid :=
  Claim7.holds_tied_plain_at .later [] Rows.exprsBracketsCard.laidKinds true Rows.exprsBracketsCard.stood.harness true over (fun _ h => by cases h) (by kernel_rfl) (fun _ h => by cases h) exprsBrackets_row_tie rfl ⟨rfl, rfl⟩ (by kernel_rfl) rfl
    (fun f fn hf hfn => by
      obtain rfl : f = 6 := Option.some.inj ((show Tryz.prog.funcNamed "tailwater/tailwaterlaw05.ExprsBrackets" = some 6 by kernel_rfl).symm.trans hf) |>.symm
      obtain rfl : fn = Tryz.f6 := (Option.some.inj (Tryz.func6.symm.trans hfn)).symm
      exact ⟨by kernel_rfl, fun j t ht => by
        rw [Tryz.params6] at ht
        have hm : t ∈ (Tryz.f6.params).toList := by rw [Tryz.params6]; first | (exfalso; simp at ht; done) | exact List.mem_of_getElem? (by simpa using ht)
        have hall : ((Tryz.f6.params).toList.all fun u => !Tryz.prog.wantsStandIn u) = true := by kernel_rfl
        exact (show Tryz.prog.wantsStandIn t = false by simpa using List.all_eq_true.1 hall t hm)⟩)
    (by kernel_rfl)
end Go.Proofs.YtdckpbeioemopabGreatDoor.exprsBrackets
