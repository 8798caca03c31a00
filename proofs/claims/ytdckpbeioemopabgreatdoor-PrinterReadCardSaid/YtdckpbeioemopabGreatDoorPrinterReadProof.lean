/-
  PrinterRead: for every input the law returns true, and its arguments read as they read before.
-/
import Derived.Test.YtdckpbeioemopabGreatDoorRows
import Derived.Test.YtdckpbeioemopabGreatDoorCards
import Derived.Test.YtdckpbeioemopabGreatDoorTie
import Derived.Test.YtdckpbeioemopabGreatDoorRdA
import Derived.Test.YtdckpbeioemopabGreatDoorExLaid
import Derived.ProofKit
import Derived.OpenShut
import Derived.LaidMore
import Derived.Test.YtdckpbeioemopabGreatDoorPureB
import Derived.Stop.Joined
import Derived.Lay
import Derived.SevenTiedAt
namespace Go.Proofs.YtdckpbeioemopabGreatDoor.printerRead
open Go.ChangeShapes Go.WideShapes Go.ChangeAt Go.RowKit Go.Am
set_option maxRecDepth 100000
theorem laidOut : laidOutB Tryz.prog = true := by kernel_rfl
theorem own : ownKnob Tryz.prog.godebug = none := by kernel_rfl
noncomputable abbrev spec (B : Nat → Option Obj) : FSpec := Rd.sRead B
theorem ok {B : Nat → Option Obj} (hB : Laid B) : FnOk (E0 B) 3 (spec B) := Rd.okRead hB
set_option linter.unusedVariables false in
theorem walk (c0 : Qry) (pa0 pb0 pc0 : Pos) (v0 : Value) (z0 : qryWf c0) (w : World) (y0 : QryV w c0 pa0 pb0 pc0 v0) (hB : Laid (fun g => w.heap[g]?)) (hn : ngN ≤ w.heap.size) :
    Calls Tryz.prog 3 #[v0] w fun e w' => e = .returned (.bool true) ∧ Below w.heap.size w w' := by
  have yy0 := y0
  obtain ⟨_, _, _, _, _, _, _, na0, nb0, nc0⟩ := yy0
  have ht : (spec (fun g => w.heap[g]?) [c0.av 0 1 2] [⟨false, .nodes c0.arg⟩, ⟨false, .ints .i64 c0.src⟩, ⟨false, .nodes c0.whr⟩]).sel = some ⟨[.bool true], []⟩ := Rd.sRead_sel z0
  have hc : CfgOk (E0 fun g => w.heap[g]?) w [⟨false, .nodes c0.arg⟩, ⟨false, .ints .i64 c0.src⟩, ⟨false, .nodes c0.whr⟩] [pa0, pb0, pc0] := cfg_reads (gokOf hn) rfl (by simp) fun k x p hx hp => by
    rcases k with _ | k; · (cases hx; cases hp; exact ⟨rfl, na0.rd⟩)
    rcases k with _ | k; · (cases hx; cases hp; exact ⟨rfl, nb0.rd⟩)
    rcases k with _ | k; · (cases hx; cases hp; exact ⟨rfl, nc0.rd⟩)
    exact absurd hx (by simp)
  exact Am.law_calls2 (ok hB) ht hc (fun x hx => by simp at hx; (rcases hx with rfl | rfl | rfl <;> rfl)) (cargs := [v0]) (by
    simp only [VL]
    exact ⟨_, _, rfl, (y0.at' rfl rfl rfl), rfl⟩)
theorem lifted (os : Os) (started : os.Started) (H : Type) (enc : TypeId × Value → H) :
    ReturnsInHanded {} Tryz.checked os 3 .any (fun w args => (Rows.printerReadSpec.pre enc Tryz.prog Tryz.f3 [] false w args ∧ laidMetH Tryz.prog Rows.printerReadRow.laid w) ∧ sizedMet enc Tryz.prog Tryz.f3 (OpenSpec.ofChange Rows.printerReadSpec) false w args)
      (Rows.printerReadSpec.post enc Tryz.prog Tryz.f3 false true false false) := by
  refine returnsInHanded_of_change_and (C := Tryz.checked) (X := fun w _ => laidMetH Tryz.prog Rows.printerReadRow.laid w) (fun _ _ _ hh h => h.of_heap hh) own started (by kernel_rfl) Tryz.func3
    (ChangeSpec.witness_shaped (enc := enc) (C := Tryz.checked) (os := os) (X := fun w _ => laidMetH Tryz.prog Rows.printerReadRow.laid w) false (World.laidAll Tryz.prog os Rows.printerReadRow.laid) #[.agg #[.int .u8 0, .slice none 0 0, .slice none 0 0, .bool false, .slice none 0 0, .int .u8 0, .int .i64 0, .int .i64 0, .bool false, .int .u8 0]] 8 (World.laidAll_os _ _ _)
      (World.shaped_of_ZipB (by kernel_rfl) (by kernel_rfl)) (by kernel_rfl) (by kernel_rfl) (by kernel_rfl)
      (by rw [MakeChecks.laidMetH_plain _ _ _ (by kernel_rfl)]; exact laidMet_laidAll _ (by kernel_rfl) (by kernel_rfl))) ?_
  intro W base args ds gs before hval0 hW _ _ hL _
  have hval : ∀ (j : Nat) t v, Tryz.f3.params[j]? = some t → args[j]? = some v → Value.okWide Tryz.prog W .any base t v := hval0
  have hW' := hW
  obtain ⟨p, q, hA0, hV, rfl, _, _⟩ := hW
  have hA : DataW.TrodAll enc Tryz.prog W 0 (fun _ => true) true Tryz.f3.params.toList args.toList ds p := hA0
  rw [Tryz.params3] at hA hval
  obtain ⟨v0, vs0, d0, ds0, p0, q0, hargs, rfl, rfl, h0, r0⟩ := trodAll_cons hA
  obtain ⟨rfl, rfl, rfl⟩ := trodAll_nil r0
  obtain rfl : args = #[v0] := by cases args; simp_all
  obtain ⟨rfl, rfl⟩ := trodVars_none hV
  have el : NodEl enc Tryz.prog W 0 (fun _ => true) true 82 := nod_elem Tryz.underlying82 (by kernel_rfl) rfl rfl rfl rfl rfl (by kernel_rfl) (by kernel_rfl) (by kernel_rfl) (by kernel_rfl) (by kernel_rfl) Tryz.underlying5 Tryz.underlying2 Tryz.underlying3 Tryz.underlying3 Tryz.underlying3
  obtain ⟨c0, pa0, pb0, pc0, y0, z0⟩ := qry_arg (QryT.mk Tryz.underlying27 (u8 := 5) (nl := 22) (il := 23) (b := 4) (i64 := 2) (by kernel_rfl) (by kernel_rfl) rfl rfl rfl (by kernel_rfl) (by kernel_rfl) (by kernel_rfl) rfl rfl rfl
    Tryz.underlying5 Tryz.underlying4 (by kernel_rfl) Tryz.underlying22 Tryz.underlying23 Tryz.underlying3 (by kernel_rfl) (by kernel_rfl)) el (hval 0 27 v0 rfl rfl) h0
  simp only [List.append_nil] at hW'
  rw [MakeChecks.laidMetH_plain _ _ _ (by kernel_rfl)] at hL
  obtain ⟨hB, hn⟩ := laidOf hL (by kernel_rfl) (by kernel_rfl) (by kernel_rfl) (by kernel_rfl)
  refine (walk c0 pa0 pb0 pc0 v0 z0 W y0 hB hn).mono fun e W' ⟨he, hb⟩ => ?_
  subst he
  exact ⟨_, rfl, _, _, _, [], _, [], hW', (trodAll_cons_mk (shut_bool Tryz.underlying4 _) trodAll_mk0), (trodAll_cons_mk (Below.trod laidOut (by kernel_rfl) (of_decide_eq_true (by kernel_rfl)) h0 hb (fun x hx => hW'.lt x (by simp [hx]))) trodAll_mk0), rfl, hb.frame _, fun h => by cases h⟩
theorem factN : Tryz.prog.funcNamed "tailwater/tailwaterlaw11.PrinterRead" = some 3 := by kernel_rfl
theorem factW : Rows.printerReadRow.wfByText (OpenSpec.ofChange Rows.printerReadSpec) = true := by kernel_rfl
theorem factM : Tryz.pinned.checked.prog.mainIs = some (Rows.printerReadCard.stood.harness.1, Rows.printerReadCard.stood.harness.2.toList) := by kernel_rfl
theorem factL : true = Tryz.pinned.checked.prog.looks [] := by kernel_rfl
theorem factG : false = Rows.printerReadRow.goesBy Tryz.pinned.checked.prog := by kernel_rfl
theorem fact1 : (Rows.printerReadRow.wf (OpenSpec.ofChange Rows.printerReadSpec)) = true := by kernel_rfl
theorem fact2 : (laidOutB Tryz.prog) = true := by kernel_rfl
theorem fact3 : (mapsRowed Tryz.prog) = true := by kernel_rfl
theorem fact4 : (Tryz.f3.params.all (Tryz.prog.readableRec ·)) = true := by kernel_rfl
theorem fact5 : (namedTie Tryz.prog Rows.printerReadRow.named Rows.printerReadSpec.vars) = true := by kernel_rfl
theorem fact6 : ((Rows.printerReadRow.stops == [])) = true := by kernel_rfl
theorem fact7 : ((Tryz.prog.stops == [])) = true := by kernel_rfl
theorem fact8 : ((Rows.printerReadRow.knobs == [])) = true := by kernel_rfl
theorem fact9 : ((Tryz.prog.stopKnobs == [])) = true := by kernel_rfl
theorem fact10 : ((Rows.printerReadRow.inPlace == Tryz.prog.inPlace 3)) = true := by kernel_rfl
theorem fact11 : ((Rows.printerReadRow.unfollowed == Tryz.prog.unfollowed 3)) = true := by kernel_rfl
theorem fact12 : ((Rows.printerReadRow.recurses == Tryz.prog.recurses 3)) = true := by kernel_rfl
theorem fact13 : ((Rows.printerReadRow.named == Tryz.prog.varsNamed 3)) = true := by kernel_rfl
theorem fact14 : ((Rows.printerReadRow.maps == (Tryz.f3.params.toList ++ Rows.printerReadSpec.plain.varTypes Tryz.prog).any (Tryz.prog.mapsRec ·))) = true := by kernel_rfl
theorem fact15 : ((Rows.printerReadRow.ifaces == (Tryz.f3.params.toList ++ Rows.printerReadSpec.plain.varTypes Tryz.prog).any (Tryz.prog.ifacesRec ·))) = true := by kernel_rfl
theorem fact16 : ((Rows.printerReadRow.mapsOut == Tryz.prog.mapsAmong Tryz.f3.resultTypes.toList)) = true := by kernel_rfl
theorem fact17 : ((Rows.printerReadRow.loops == (Tryz.f3.params.toList ++ Rows.printerReadSpec.plain.varTypes Tryz.prog).any (Tryz.prog.loopsFrom ·))) = true := by kernel_rfl
theorem fact18 : ((Rows.printerReadRow.wideKeys == (Tryz.f3.params.toList ++ Rows.printerReadSpec.plain.varTypes Tryz.prog ++ Tryz.f3.resultTypes.toList).any (Tryz.prog.wideKeysFrom ·))) = true := by kernel_rfl
theorem fact19 : (Rows.printerReadSpec.vars.all (Tryz.prog.varReadable ·)) = true := by kernel_rfl
theorem fact20 : (Tryz.f3.resultTypes.all (fun t => Tryz.prog.readableRec t && decide (t < Tryz.prog.types.size))) = true := by kernel_rfl
theorem fact21 : ((Rows.printerReadRow.ifacesOut == Tryz.f3.resultTypes.toList.any (Tryz.prog.ifacesRec ·))) = true := by kernel_rfl
theorem fact22 : ((Rows.printerReadRow.loopsOut == Tryz.f3.resultTypes.toList.any (Tryz.prog.loopsFrom ·))) = true := by kernel_rfl
theorem fact23 : ((Rows.printerReadRow.plainKeys == Tryz.prog.plainKeys)) = true := by kernel_rfl
theorem fact24 : (Rows.printerReadRow.shortTexts.isNone) = true := by kernel_rfl
theorem fact25 : (Tryz.prog.stopsHeard) = true := by kernel_rfl
theorem fact26 : (Tryz.prog.mayEnter) = true := by kernel_rfl
theorem fact27 : ((Rows.printerReadRow.lifted == Tryz.prog.liftsFinal)) = true := by kernel_rfl
theorem fact28 : ((Tryz.prog.make == some Rows.printerReadRow.make)) = true := by kernel_rfl
theorem fact29 : ((Rows.printerReadRow.kinds == (if Rows.printerReadRow.domain.isEmpty then [] else Tryz.f3.params.toList.map fun t => match Tryz.prog.underlying t with | some (.int k) => some k | _ => none))) = true := by kernel_rfl
theorem fact30 : ((Rows.printerReadRow.pinned == Rows.printerReadRow.pinnedBy)) = true := by kernel_rfl
theorem fact31 : ((Rows.printerReadRow.veiled == (Tryz.f3.params.toList ++ Rows.printerReadSpec.plain.varTypes Tryz.prog ++ Tryz.f3.resultTypes.toList).any (Tryz.prog.veiledRec ·))) = true := by kernel_rfl
theorem fact32 : (Rows.printerReadRow.veiledFits Tryz.prog Tryz.f3.params.toList (Tryz.f3.params.toList ++ Rows.printerReadSpec.plain.varTypes Tryz.prog ++ Tryz.f3.resultTypes.toList)) = true := by kernel_rfl
theorem and_mk {a b : Bool} (ha : a = true) (hb : b = true) : (a && b) = true := by rw [ha, hb]; rfl
theorem closed : joinedFacts Tryz.prog 3 Tryz.f3 Rows.printerReadSpec Rows.printerReadRow = true := by
  unfold joinedFacts
  exact and_mk (and_mk (and_mk (and_mk (and_mk (and_mk (and_mk (and_mk (and_mk (and_mk (and_mk (and_mk (and_mk (and_mk (and_mk (and_mk (and_mk (and_mk (and_mk (and_mk (and_mk (and_mk (and_mk (and_mk (and_mk (and_mk (and_mk (and_mk (and_mk (and_mk (and_mk fact1 fact2) fact3) fact4) fact5) fact6) fact7) fact8) fact9) fact10) fact11) fact12) fact13) fact14) fact15) fact16) fact17) fact18) fact19) fact20) fact21) fact22) fact23) fact24) fact25) fact26) fact27) fact28) fact29) fact30) fact31) fact32
theorem over : Rows.printerReadRow.holds Tryz.pinned (OpenSpec.ofChange Rows.printerReadSpec) :=
  OpenClaim.holds_of_wide 3 Tryz.f3 rfl rfl rfl rfl rfl rfl rfl ⟨rfl, rfl, rfl, rfl, rfl⟩ rfl rfl rfl rfl rfl factN Tryz.func3 closed
    (of_decide_eq_true (by kernel_rfl)) (by unfold Func.isWrapper; first | (rw [if_pos (by decide +kernel)]; kernel_rfl) | (rw [if_neg (by decide +kernel)]; exact ⟨rfl, rfl⟩))
    (fun os started H enc _ => lifted os started H enc)
theorem proved : Rows.PrinterReadCardSaid :=
  Claim7.holds_tied_plain_at .later [] Rows.printerReadCard.laidKinds true Rows.printerReadCard.stood.harness true over (fun _ h => by cases h) factW (fun _ h => by cases h) printerRead_row_tie rfl ⟨rfl, rfl⟩ factM rfl
    (fun f fn hf hfn => by
      obtain rfl : f = 3 := Option.some.inj ((show Tryz.prog.funcNamed "tailwater/tailwaterlaw11.PrinterRead" = some 3 from factN).symm.trans hf) |>.symm
      obtain rfl : fn = Tryz.f3 := (Option.some.inj (Tryz.func3.symm.trans hfn)).symm
      exact ⟨factL, fun j t ht => by
        rw [Tryz.params3] at ht
        have hm : t ∈ (Tryz.f3.params).toList := by rw [Tryz.params3]; first | (exfalso; simp at ht; done) | exact List.mem_of_getElem? (by simpa using ht)
        have hall : ((Tryz.f3.params).toList.all fun u => !Tryz.prog.wantsStandIn u) = true := by kernel_rfl
        exact (show Tryz.prog.wantsStandIn t = false by simpa using List.all_eq_true.1 hall t hm)⟩)
    factG
end Go.Proofs.YtdckpbeioemopabGreatDoor.printerRead
