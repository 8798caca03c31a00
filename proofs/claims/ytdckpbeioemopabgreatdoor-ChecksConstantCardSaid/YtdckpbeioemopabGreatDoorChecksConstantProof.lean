/-
  ChecksConstant: for every input the law returns true, and its arguments read as they read before.
-/
import Derived.Test.YtdckpbeioemopabGreatDoorRows
import Derived.Test.YtdckpbeioemopabGreatDoorCards
import Derived.Test.YtdckpbeioemopabGreatDoorTie
import Derived.Test.YtdckpbeioemopabGreatDoorEvlFn2
import Derived.Test.YtdckpbeioemopabGreatDoorExLaid
import Derived.ProofKit
import Derived.OpenShut
import Derived.LaidMore
import Derived.Test.YtdckpbeioemopabGreatDoorPureB
import Derived.Stop.Joined
import Derived.Lay
import Derived.SevenTiedAt
namespace Go.Proofs.YtdckpbeioemopabGreatDoor.checksConstant
open Go.ChangeShapes Go.WideShapes Go.ChangeAt Go.RowKit Go.Am
set_option maxRecDepth 100000
theorem laidOut : laidOutB Tryz.prog = true := by kernel_rfl
theorem own : ownKnob Tryz.prog.godebug = none := by kernel_rfl
noncomputable abbrev spec (B : Nat → Option Obj) : FSpec := Cn.sConst B
theorem ok {B : Nat → Option Obj} (hB : Laid B) : FnOk (E0 B) 4 (spec B) := Cn.okConst hB
set_option linter.unusedVariables false in
theorem walk (v0 : Value) (L0 : List Am.Nod) (s0 : Pos) (g0 : V (fun _ => some s0) (.slw 0) v0) (r0 : ∀ x ∈ L0, (nodWf) x) (v1 : Value) (m1 : Cn.Rec3) (z1 : (fun _ => True) m1) (g1 : V (fun _ => none) m1.av v1) (v2 : Value) (m2 : Cn.Rec3) (z2 : (fun _ => True) m2) (g2 : V (fun _ => none) m2.av v2) (w : World) (y0 : RdD w (.nodes L0) s0) (hB : Laid (fun g => w.heap[g]?)) (hn : ngN ≤ w.heap.size) :
    Calls Tryz.prog 4 #[v0, v1, v2] w fun e w' => e = .returned (.bool true) ∧ Below w.heap.size w w' := by
  have ht : (spec (fun g => w.heap[g]?) [.slw 0, m1.av, m2.av] [⟨false, .nodes L0⟩]).sel = some ⟨[.bool true], []⟩ := Cn.sConst_sel m1 m2 L0
  have hc : CfgOk (E0 fun g => w.heap[g]?) w [⟨false, .nodes L0⟩] [s0] := cfg_reads (gokOf hn) rfl (by simp) fun k x p hx hp => by
    rcases k with _ | k; · (cases hx; cases hp; exact ⟨rfl, y0⟩)
    exact absurd hx (by simp)
  exact Am.law_calls2 (ok hB) ht hc (fun x hx => by simp at hx; (subst hx; rfl)) (cargs := [v0, v1, v2]) (by
    simp only [VL]
    exact ⟨_, _, rfl, (slw_at rfl g0), ⟨_, _, rfl, (Cn.rec_any g1), ⟨_, _, rfl, (Cn.rec_any g2), rfl⟩⟩⟩)
theorem lifted (os : Os) (started : os.Started) (H : Type) (enc : TypeId × Value → H) :
    ReturnsInHanded {} Tryz.checked os 4 .any (fun w args => (Rows.checksConstantSpec.pre enc Tryz.prog Tryz.f4 [] false w args ∧ laidMetH Tryz.prog Rows.checksConstantRow.laid w) ∧ sizedMet enc Tryz.prog Tryz.f4 (OpenSpec.ofChange Rows.checksConstantSpec) false w args)
      (Rows.checksConstantSpec.post enc Tryz.prog Tryz.f4 false true false false) := by
  refine returnsInHanded_of_change_and (C := Tryz.checked) (X := fun w _ => laidMetH Tryz.prog Rows.checksConstantRow.laid w) (fun _ _ _ hh h => h.of_heap hh) own started (by kernel_rfl) Tryz.func4
    (ChangeSpec.witness_shaped (enc := enc) (C := Tryz.checked) (os := os) (X := fun w _ => laidMetH Tryz.prog Rows.checksConstantRow.laid w) false (World.laidAll Tryz.prog os Rows.checksConstantRow.laid) #[.slice none 0 0, .agg #[.int .i64 0, .int .i64 0, .int .i64 0], .agg #[.int .i64 0, .int .i64 0, .int .i64 0]] 8 (World.laidAll_os _ _ _)
      (World.shaped_of_ZipB (by kernel_rfl) (by kernel_rfl)) (by kernel_rfl) (by kernel_rfl) (by kernel_rfl)
      (by rw [MakeChecks.laidMetH_plain _ _ _ (by kernel_rfl)]; exact laidMet_laidAll _ (by kernel_rfl) (by kernel_rfl))) ?_
  intro W base args ds gs before hval0 hW _ _ hL _
  have hval : ∀ (j : Nat) t v, Tryz.f4.params[j]? = some t → args[j]? = some v → Value.okWide Tryz.prog W .any base t v := hval0
  have hW' := hW
  obtain ⟨p, q, hA0, hV, rfl, _, _⟩ := hW
  have hA : DataW.TrodAll enc Tryz.prog W 0 (fun _ => true) true Tryz.f4.params.toList args.toList ds p := hA0
  rw [Tryz.params4] at hA hval
  obtain ⟨v0, vs0, d0, ds0, p0, q0, hargs, rfl, rfl, h0, r0⟩ := trodAll_cons hA
  obtain ⟨v1, vs1, d1, ds1, p1, q1, rfl, rfl, rfl, h1, r1⟩ := trodAll_cons r0
  obtain ⟨v2, vs2, d2, ds2, p2, q2, rfl, rfl, rfl, h2, r2⟩ := trodAll_cons r1
  obtain ⟨rfl, rfl, rfl⟩ := trodAll_nil r2
  obtain rfl : args = #[v0, v1, v2] := by cases args; simp_all
  obtain ⟨rfl, rfl⟩ := trodVars_none hV
  obtain ⟨L0, s0, g0, sa0, sb0, sc0, sd0, w0, ce0⟩ := slice_arg Am.Nod.enc nodWf Tryz.underlying22 (hval 0 22 v0 rfl rfl) h0 (nod_elem Tryz.underlying82 (by kernel_rfl) rfl rfl rfl rfl rfl (by kernel_rfl) (by kernel_rfl) (by kernel_rfl) (by kernel_rfl) (by kernel_rfl) Tryz.underlying5 Tryz.underlying2 Tryz.underlying3 Tryz.underlying3 Tryz.underlying3)
  obtain ⟨m1, g1, z1⟩ := Cn.rec_arg (hval 1 42 v1 rfl rfl)
  obtain ⟨m2, g2, z2⟩ := Cn.rec_arg (hval 2 42 v2 rfl rfl)
  simp only [List.append_nil] at hW'
  rw [MakeChecks.laidMetH_plain _ _ _ (by kernel_rfl)] at hL
  obtain ⟨hB, hn⟩ := laidOf hL (by kernel_rfl) (by kernel_rfl) (by kernel_rfl) (by kernel_rfl)
  refine (walk v0 L0 s0 g0 w0 v1 m1 z1 g1 v2 m2 z2 g2 W (rd_nodes (sa0.trans (by kernel_rfl)) sb0 sc0 sd0 ce0) hB hn).mono fun e W' ⟨he, hb⟩ => ?_
  subst he
  exact ⟨_, rfl, _, _, _, [], _, [], hW', (trodAll_cons_mk (shut_bool Tryz.underlying4 _) trodAll_mk0), (trodAll_cons_mk (Below.trod laidOut (by kernel_rfl) (of_decide_eq_true (by kernel_rfl)) h0 hb (fun x hx => hW'.lt x (by simp [hx]))) (trodAll_cons_mk (Below.trod laidOut (by kernel_rfl) (of_decide_eq_true (by kernel_rfl)) h1 hb (fun x hx => hW'.lt x (by simp [hx]))) (trodAll_cons_mk (Below.trod laidOut (by kernel_rfl) (of_decide_eq_true (by kernel_rfl)) h2 hb (fun x hx => hW'.lt x (by simp [hx]))) trodAll_mk0))), rfl, hb.frame _, fun h => by cases h⟩
theorem factN : Tryz.prog.funcNamed "tailwater/tailwaterlaw10.ChecksConstant" = some 4 := by kernel_rfl
theorem factW : Rows.checksConstantRow.wfByText (OpenSpec.ofChange Rows.checksConstantSpec) = true := by kernel_rfl
theorem factM : Tryz.pinned.checked.prog.mainIs = some (Rows.checksConstantCard.stood.harness.1, Rows.checksConstantCard.stood.harness.2.toList) := by kernel_rfl
theorem factL : true = Tryz.pinned.checked.prog.looks [] := by kernel_rfl
theorem factG : false = Rows.checksConstantRow.goesBy Tryz.pinned.checked.prog := by kernel_rfl
theorem fact1 : (Rows.checksConstantRow.wf (OpenSpec.ofChange Rows.checksConstantSpec)) = true := by kernel_rfl
theorem fact2 : (laidOutB Tryz.prog) = true := by kernel_rfl
theorem fact3 : (mapsRowed Tryz.prog) = true := by kernel_rfl
theorem fact4 : (Tryz.f4.params.all (Tryz.prog.readableRec ·)) = true := by kernel_rfl
theorem fact5 : (namedTie Tryz.prog Rows.checksConstantRow.named Rows.checksConstantSpec.vars) = true := by kernel_rfl
theorem fact6 : ((Rows.checksConstantRow.stops == [])) = true := by kernel_rfl
theorem fact7 : ((Tryz.prog.stops == [])) = true := by kernel_rfl
theorem fact8 : ((Rows.checksConstantRow.knobs == [])) = true := by kernel_rfl
theorem fact9 : ((Tryz.prog.stopKnobs == [])) = true := by kernel_rfl
theorem fact10 : ((Rows.checksConstantRow.inPlace == Tryz.prog.inPlace 4)) = true := by kernel_rfl
theorem fact11 : ((Rows.checksConstantRow.unfollowed == Tryz.prog.unfollowed 4)) = true := by kernel_rfl
theorem fact12 : ((Rows.checksConstantRow.recurses == Tryz.prog.recurses 4)) = true := by kernel_rfl
theorem fact13 : ((Rows.checksConstantRow.named == Tryz.prog.varsNamed 4)) = true := by kernel_rfl
theorem fact14 : ((Rows.checksConstantRow.maps == (Tryz.f4.params.toList ++ Rows.checksConstantSpec.plain.varTypes Tryz.prog).any (Tryz.prog.mapsRec ·))) = true := by kernel_rfl
theorem fact15 : ((Rows.checksConstantRow.ifaces == (Tryz.f4.params.toList ++ Rows.checksConstantSpec.plain.varTypes Tryz.prog).any (Tryz.prog.ifacesRec ·))) = true := by kernel_rfl
theorem fact16 : ((Rows.checksConstantRow.mapsOut == Tryz.prog.mapsAmong Tryz.f4.resultTypes.toList)) = true := by kernel_rfl
theorem fact17 : ((Rows.checksConstantRow.loops == (Tryz.f4.params.toList ++ Rows.checksConstantSpec.plain.varTypes Tryz.prog).any (Tryz.prog.loopsFrom ·))) = true := by kernel_rfl
theorem fact18 : ((Rows.checksConstantRow.wideKeys == (Tryz.f4.params.toList ++ Rows.checksConstantSpec.plain.varTypes Tryz.prog ++ Tryz.f4.resultTypes.toList).any (Tryz.prog.wideKeysFrom ·))) = true := by kernel_rfl
theorem fact19 : (Rows.checksConstantSpec.vars.all (Tryz.prog.varReadable ·)) = true := by kernel_rfl
theorem fact20 : (Tryz.f4.resultTypes.all (fun t => Tryz.prog.readableRec t && decide (t < Tryz.prog.types.size))) = true := by kernel_rfl
theorem fact21 : ((Rows.checksConstantRow.ifacesOut == Tryz.f4.resultTypes.toList.any (Tryz.prog.ifacesRec ·))) = true := by kernel_rfl
theorem fact22 : ((Rows.checksConstantRow.loopsOut == Tryz.f4.resultTypes.toList.any (Tryz.prog.loopsFrom ·))) = true := by kernel_rfl
theorem fact23 : ((Rows.checksConstantRow.plainKeys == Tryz.prog.plainKeys)) = true := by kernel_rfl
theorem fact24 : (Rows.checksConstantRow.shortTexts.isNone) = true := by kernel_rfl
theorem fact25 : (Tryz.prog.stopsHeard) = true := by kernel_rfl
theorem fact26 : (Tryz.prog.mayEnter) = true := by kernel_rfl
theorem fact27 : ((Rows.checksConstantRow.lifted == Tryz.prog.liftsFinal)) = true := by kernel_rfl
theorem fact28 : ((Tryz.prog.make == some Rows.checksConstantRow.make)) = true := by kernel_rfl
theorem fact29 : ((Rows.checksConstantRow.kinds == (if Rows.checksConstantRow.domain.isEmpty then [] else Tryz.f4.params.toList.map fun t => match Tryz.prog.underlying t with | some (.int k) => some k | _ => none))) = true := by kernel_rfl
theorem fact30 : ((Rows.checksConstantRow.pinned == Rows.checksConstantRow.pinnedBy)) = true := by kernel_rfl
theorem fact31 : ((Rows.checksConstantRow.veiled == (Tryz.f4.params.toList ++ Rows.checksConstantSpec.plain.varTypes Tryz.prog ++ Tryz.f4.resultTypes.toList).any (Tryz.prog.veiledRec ·))) = true := by kernel_rfl
theorem fact32 : (Rows.checksConstantRow.veiledFits Tryz.prog Tryz.f4.params.toList (Tryz.f4.params.toList ++ Rows.checksConstantSpec.plain.varTypes Tryz.prog ++ Tryz.f4.resultTypes.toList)) = true := by kernel_rfl
theorem and_mk {a b : Bool} (ha : a = true) (hb : b = true) : (a && b) = true := by rw [ha, hb]; rfl
theorem closed : joinedFacts Tryz.prog 4 Tryz.f4 Rows.checksConstantSpec Rows.checksConstantRow = true := by
  unfold joinedFacts
  exact and_mk (and_mk (and_mk (and_mk (and_mk (and_mk (and_mk (and_mk (and_mk (and_mk (and_mk (and_mk (and_mk (and_mk (and_mk (and_mk (and_mk (and_mk (and_mk (and_mk (and_mk (and_mk (and_mk (and_mk (and_mk (and_mk (and_mk (and_mk (and_mk (and_mk (and_mk fact1 fact2) fact3) fact4) fact5) fact6) fact7) fact8) fact9) fact10) fact11) fact12) fact13) fact14) fact15) fact16) fact17) fact18) fact19) fact20) fact21) fact22) fact23) fact24) fact25) fact26) fact27) fact28) fact29) fact30) fact31) fact32
theorem over : Rows.checksConstantRow.holds Tryz.pinned (OpenSpec.ofChange Rows.checksConstantSpec) :=
  OpenClaim.holds_of_wide 4 Tryz.f4 rfl rfl rfl rfl rfl rfl rfl ⟨rfl, rfl, rfl, rfl, rfl⟩ rfl rfl rfl rfl rfl factN Tryz.func4 closed
    (of_decide_eq_true (by kernel_rfl)) (by unfold Func.isWrapper; first | (rw [if_pos (by decide +kernel)]; kernel_rfl) | (rw [if_neg (by decide +kernel)]; exact ⟨rfl, rfl⟩))
    (fun os started H enc _ => lifted os started H enc)
theorem proved : Rows.ChecksConstantCardSaid :=
  Claim7.holds_tied_plain_at .later [] Rows.checksConstantCard.laidKinds true Rows.checksConstantCard.stood.harness true over (fun _ h => by cases h) factW (fun _ h => by cases h) checksConstant_row_tie rfl ⟨rfl, rfl⟩ factM rfl
    (fun f fn hf hfn => by
      obtain rfl : f = 4 := Option.some.inj ((show Tryz.prog.funcNamed "tailwater/tailwaterlaw10.ChecksConstant" = some 4 from factN).symm.trans hf) |>.symm
      obtain rfl : fn = Tryz.f4 := (Option.some.inj (Tryz.func4.symm.trans hfn)).symm
      exact ⟨factL, fun j t ht => by
        rw [Tryz.params4] at ht
        have hm : t ∈ (Tryz.f4.params).toList := by rw [Tryz.params4]; first | (exfalso; simp at ht; done) | exact List.mem_of_getElem? (by simpa using ht)
        have hall : ((Tryz.f4.params).toList.all fun u => !Tryz.prog.wantsStandIn u) = true := by kernel_rfl
        exact (show Tryz.prog.wantsStandIn t = false by simpa using List.all_eq_true.1 hall t hm)⟩)
    factG
end Go.Proofs.YtdckpbeioemopabGreatDoor.checksConstant
