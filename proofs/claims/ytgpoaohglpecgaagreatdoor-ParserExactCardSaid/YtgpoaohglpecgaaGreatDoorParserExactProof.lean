/-
  ParserExact: for every input the law returns true, and its arguments read as they read before.
-/
import Derived.Test.YtgpoaohglpecgaaGreatDoorRows
import Derived.Test.YtgpoaohglpecgaaGreatDoorCards
import Derived.Test.YtgpoaohglpecgaaGreatDoorTie
import Derived.Test.YtgpoaohglpecgaaGreatDoorPxA
import Derived.Test.YtgpoaohglpecgaaGreatDoorExLaid
import Derived.ProofKit
import Derived.OpenShut
import Derived.LaidMore
import Derived.Test.YtgpoaohglpecgaaGreatDoorPureB
import Derived.Stop.Joined
import Derived.Lay
import Derived.SevenTiedAt
namespace Go.Proofs.YtgpoaohglpecgaaGreatDoor.parserExact
open Go.ChangeShapes Go.WideShapes Go.ChangeAt Go.RowKit Go.Am
set_option maxRecDepth 100000
theorem laidOut : laidOutB Tryz.prog = true := by kernel_rfl
theorem own : ownKnob Tryz.prog.godebug = none := by kernel_rfl
noncomputable abbrev spec (B : Nat → Option Obj) : FSpec := Px.sExact B
theorem ok {B : Nat → Option Obj} (hB : Laid B) : FnOk (E0 B) 5 (spec B) := Px.okExact hB
set_option linter.unusedVariables false in
theorem walk (c0 : Qry) (pa0 pb0 pc0 : Pos) (v0 : Value) (z0 : qryWf c0) (a1 : Int) (w1 : (Lit.int .i64 a1).wf = true) (w : World) (y0 : QryV w c0 pa0 pb0 pc0 v0) (hB : Laid (fun g => w.heap[g]?)) (hn : ngN ≤ w.heap.size) :
    Calls Tryz.prog 5 #[v0, .int .i64 a1] w fun e w' => e = .returned (.bool true) ∧ Below w.heap.size w w' := by
  have h1 : Rng a1 := by simpa [Rng, Lit.wf, IntKind.min, IntKind.max, IntKind.signed, IntKind.bits] using w1
  have yy0 := y0
  obtain ⟨_, _, _, _, _, _, _, na0, nb0, nc0⟩ := yy0
  have ht : (spec (fun g => w.heap[g]?) [c0.av 0 1 2, .int .i64 a1] [⟨false, .nodes c0.arg⟩, ⟨false, .ints .i64 c0.src⟩, ⟨false, .nodes c0.whr⟩]).sel = some ⟨[.bool true], []⟩ := Px.sExact_sel z0
  have hc : CfgOk (E0 fun g => w.heap[g]?) w [⟨false, .nodes c0.arg⟩, ⟨false, .ints .i64 c0.src⟩, ⟨false, .nodes c0.whr⟩] [pa0, pb0, pc0] := cfg_reads (gokOf hn) rfl (by simp) fun k x p hx hp => by
    rcases k with _ | k; · (cases hx; cases hp; exact ⟨rfl, na0.rd⟩)
    rcases k with _ | k; · (cases hx; cases hp; exact ⟨rfl, nb0.rd⟩)
    rcases k with _ | k; · (cases hx; cases hp; exact ⟨rfl, nc0.rd⟩)
    exact absurd hx (by simp)
  exact Am.law_calls2 (ok hB) ht hc (fun x hx => by simp at hx; (rcases hx with rfl | rfl | rfl <;> rfl)) (cargs := [v0, .int .i64 a1]) (by
    simp only [VL]
    exact ⟨_, _, rfl, (y0.at' rfl rfl rfl), ⟨_, _, rfl, (by simp only [V]), rfl⟩⟩)
theorem lifted (os : Os) (started : os.Started) (H : Type) (enc : TypeId × Value → H) :
    ReturnsInHanded {} Tryz.checked os 5 .any (fun w args => (Rows.parserExactSpec.pre enc Tryz.prog Tryz.f5 [] false w args ∧ laidMetH Tryz.prog Rows.parserExactRow.laid w) ∧ sizedMet enc Tryz.prog Tryz.f5 (OpenSpec.ofChange Rows.parserExactSpec) false w args)
      (Rows.parserExactSpec.post enc Tryz.prog Tryz.f5 false true false false) := by
  refine returnsInHanded_of_change_and (C := Tryz.checked) (X := fun w _ => laidMetH Tryz.prog Rows.parserExactRow.laid w) (fun _ _ _ hh h => h.of_heap hh) own started (by kernel_rfl) Tryz.func5
    (ChangeSpec.witness_shaped (enc := enc) (C := Tryz.checked) (os := os) (X := fun w _ => laidMetH Tryz.prog Rows.parserExactRow.laid w) false (World.laidAll Tryz.prog os Rows.parserExactRow.laid) #[.agg #[.int .u8 0, .slice none 0 0, .slice none 0 0, .bool false, .slice none 0 0, .int .u8 0, .int .i64 0, .int .i64 0, .bool false, .int .u8 0], .int .i64 0] 8 (World.laidAll_os _ _ _)
      (World.shaped_of_ZipB (by kernel_rfl) (by kernel_rfl)) (by kernel_rfl) (by kernel_rfl) (by kernel_rfl)
      (by rw [MakeChecks.laidMetH_plain _ _ _ (by kernel_rfl)]; exact laidMet_laidAll _ (by kernel_rfl) (by kernel_rfl))) ?_
  intro W base args ds gs before hval0 hW _ _ hL _
  have hval : ∀ (j : Nat) t v, Tryz.f5.params[j]? = some t → args[j]? = some v → Value.okWide Tryz.prog W .any base t v := hval0
  have hW' := hW
  obtain ⟨p, q, hA0, hV, rfl, _, _⟩ := hW
  have hA : DataW.TrodAll enc Tryz.prog W 0 (fun _ => true) true Tryz.f5.params.toList args.toList ds p := hA0
  rw [Tryz.params5] at hA hval
  obtain ⟨v0, vs0, d0, ds0, p0, q0, hargs, rfl, rfl, h0, r0⟩ := trodAll_cons hA
  obtain ⟨v1, vs1, d1, ds1, p1, q1, rfl, rfl, rfl, h1, r1⟩ := trodAll_cons r0
  obtain ⟨rfl, rfl, rfl⟩ := trodAll_nil r1
  obtain rfl : args = #[v0, v1] := by cases args; simp_all
  obtain ⟨rfl, rfl⟩ := trodVars_none hV
  have el : NodEl enc Tryz.prog W 0 (fun _ => true) true 43 := nod_elem Tryz.underlying43 (by kernel_rfl) rfl rfl rfl rfl rfl (by kernel_rfl) (by kernel_rfl) (by kernel_rfl) (by kernel_rfl) (by kernel_rfl) Tryz.underlying5 Tryz.underlying2 Tryz.underlying3 Tryz.underlying3 Tryz.underlying3
  obtain ⟨c0, pa0, pb0, pc0, y0, z0⟩ := qry_arg (QryT.mk Tryz.underlying34 (u8 := 5) (nl := 29) (il := 30) (b := 4) (i64 := 2) (by kernel_rfl) (by kernel_rfl) rfl rfl rfl (by kernel_rfl) (by kernel_rfl) (by kernel_rfl) rfl rfl rfl
    Tryz.underlying5 Tryz.underlying4 (by kernel_rfl) Tryz.underlying29 Tryz.underlying30 Tryz.underlying3 (by kernel_rfl) (by kernel_rfl)) el (hval 0 34 v0 rfl rfl) h0
  obtain ⟨a1, rfl, rfl, rfl, w1⟩ := open_int Tryz.underlying3 (hval 1 3 v1 rfl rfl) h1
  simp only [List.append_nil] at hW'
  rw [MakeChecks.laidMetH_plain _ _ _ (by kernel_rfl)] at hL
  obtain ⟨hB, hn⟩ := laidOf hL (by kernel_rfl) (by kernel_rfl) (by kernel_rfl) (by kernel_rfl)
  refine (walk c0 pa0 pb0 pc0 v0 z0 a1 w1 W y0 hB hn).mono fun e W' ⟨he, hb⟩ => ?_
  subst he
  exact ⟨_, rfl, _, _, _, [], _, [], hW', (trodAll_cons_mk (shut_bool Tryz.underlying4 _) trodAll_mk0), (trodAll_cons_mk (Below.trod laidOut (by kernel_rfl) (of_decide_eq_true (by kernel_rfl)) h0 hb (fun x hx => hW'.lt x (by simp [hx]))) (trodAll_cons_mk (shut_int Tryz.underlying3 w1) trodAll_mk0)), rfl, hb.frame _, fun h => by cases h⟩
theorem factN : Tryz.prog.funcNamed "tailwater/tailwaterlaw09.ParserExact" = some 5 := by kernel_rfl
theorem factW : Rows.parserExactRow.wfByText (OpenSpec.ofChange Rows.parserExactSpec) = true := by kernel_rfl
theorem factM : Tryz.pinned.checked.prog.mainIs = some (Rows.parserExactCard.stood.harness.1, Rows.parserExactCard.stood.harness.2.toList) := by kernel_rfl
theorem factL : true = Tryz.pinned.checked.prog.looks [] := by kernel_rfl
theorem factG : false = Rows.parserExactRow.goesBy Tryz.pinned.checked.prog := by kernel_rfl
theorem fact1 : (Rows.parserExactRow.wf (OpenSpec.ofChange Rows.parserExactSpec)) = true := by kernel_rfl
theorem fact2 : (laidOutB Tryz.prog) = true := by kernel_rfl
theorem fact3 : (mapsRowed Tryz.prog) = true := by kernel_rfl
theorem fact4 : (Tryz.f5.params.all (Tryz.prog.readableRec ·)) = true := by kernel_rfl
theorem fact5 : (namedTie Tryz.prog Rows.parserExactRow.named Rows.parserExactSpec.vars) = true := by kernel_rfl
theorem fact6 : ((Rows.parserExactRow.stops == [])) = true := by kernel_rfl
theorem fact7 : ((Tryz.prog.stops == [])) = true := by kernel_rfl
theorem fact8 : ((Rows.parserExactRow.knobs == [])) = true := by kernel_rfl
theorem fact9 : ((Tryz.prog.stopKnobs == [])) = true := by kernel_rfl
theorem fact10 : ((Rows.parserExactRow.inPlace == Tryz.prog.inPlace 5)) = true := by kernel_rfl
theorem fact11 : ((Rows.parserExactRow.unfollowed == Tryz.prog.unfollowed 5)) = true := by kernel_rfl
theorem fact12 : ((Rows.parserExactRow.recurses == Tryz.prog.recurses 5)) = true := by kernel_rfl
theorem fact13 : ((Rows.parserExactRow.named == Tryz.prog.varsNamed 5)) = true := by kernel_rfl
theorem fact14 : ((Rows.parserExactRow.maps == (Tryz.f5.params.toList ++ Rows.parserExactSpec.plain.varTypes Tryz.prog).any (Tryz.prog.mapsRec ·))) = true := by kernel_rfl
theorem fact15 : ((Rows.parserExactRow.ifaces == (Tryz.f5.params.toList ++ Rows.parserExactSpec.plain.varTypes Tryz.prog).any (Tryz.prog.ifacesRec ·))) = true := by kernel_rfl
theorem fact16 : ((Rows.parserExactRow.mapsOut == Tryz.prog.mapsAmong Tryz.f5.resultTypes.toList)) = true := by kernel_rfl
theorem fact17 : ((Rows.parserExactRow.loops == (Tryz.f5.params.toList ++ Rows.parserExactSpec.plain.varTypes Tryz.prog).any (Tryz.prog.loopsFrom ·))) = true := by kernel_rfl
theorem fact18 : ((Rows.parserExactRow.wideKeys == (Tryz.f5.params.toList ++ Rows.parserExactSpec.plain.varTypes Tryz.prog ++ Tryz.f5.resultTypes.toList).any (Tryz.prog.wideKeysFrom ·))) = true := by kernel_rfl
theorem fact19 : (Rows.parserExactSpec.vars.all (Tryz.prog.varReadable ·)) = true := by kernel_rfl
theorem fact20 : (Tryz.f5.resultTypes.all (fun t => Tryz.prog.readableRec t && decide (t < Tryz.prog.types.size))) = true := by kernel_rfl
theorem fact21 : ((Rows.parserExactRow.ifacesOut == Tryz.f5.resultTypes.toList.any (Tryz.prog.ifacesRec ·))) = true := by kernel_rfl
theorem fact22 : ((Rows.parserExactRow.loopsOut == Tryz.f5.resultTypes.toList.any (Tryz.prog.loopsFrom ·))) = true := by kernel_rfl
theorem fact23 : ((Rows.parserExactRow.plainKeys == Tryz.prog.plainKeys)) = true := by kernel_rfl
theorem fact24 : (Rows.parserExactRow.shortTexts.isNone) = true := by kernel_rfl
theorem fact25 : (Tryz.prog.stopsHeard) = true := by kernel_rfl
theorem fact26 : (Tryz.prog.mayEnter) = true := by kernel_rfl
theorem fact27 : ((Rows.parserExactRow.lifted == Tryz.prog.liftsFinal)) = true := by kernel_rfl
theorem fact28 : ((Tryz.prog.make == some Rows.parserExactRow.make)) = true := by kernel_rfl
theorem fact29 : ((Rows.parserExactRow.kinds == (if Rows.parserExactRow.domain.isEmpty then [] else Tryz.f5.params.toList.map fun t => match Tryz.prog.underlying t with | some (.int k) => some k | _ => none))) = true := by kernel_rfl
theorem fact30 : ((Rows.parserExactRow.pinned == Rows.parserExactRow.pinnedBy)) = true := by kernel_rfl
theorem fact31 : ((Rows.parserExactRow.veiled == (Tryz.f5.params.toList ++ Rows.parserExactSpec.plain.varTypes Tryz.prog ++ Tryz.f5.resultTypes.toList).any (Tryz.prog.veiledRec ·))) = true := by kernel_rfl
theorem fact32 : (Rows.parserExactRow.veiledFits Tryz.prog Tryz.f5.params.toList (Tryz.f5.params.toList ++ Rows.parserExactSpec.plain.varTypes Tryz.prog ++ Tryz.f5.resultTypes.toList)) = true := by kernel_rfl
theorem and_mk {a b : Bool} (ha : a = true) (hb : b = true) : (a && b) = true := by rw [ha, hb]; rfl
theorem closed : joinedFacts Tryz.prog 5 Tryz.f5 Rows.parserExactSpec Rows.parserExactRow = true := by
  unfold joinedFacts
  exact and_mk (and_mk (and_mk (and_mk (and_mk (and_mk (and_mk (and_mk (and_mk (and_mk (and_mk (and_mk (and_mk (and_mk (and_mk (and_mk (and_mk (and_mk (and_mk (and_mk (and_mk (and_mk (and_mk (and_mk (and_mk (and_mk (and_mk (and_mk (and_mk (and_mk (and_mk fact1 fact2) fact3) fact4) fact5) fact6) fact7) fact8) fact9) fact10) fact11) fact12) fact13) fact14) fact15) fact16) fact17) fact18) fact19) fact20) fact21) fact22) fact23) fact24) fact25) fact26) fact27) fact28) fact29) fact30) fact31) fact32
theorem over : Rows.parserExactRow.holds Tryz.pinned (OpenSpec.ofChange Rows.parserExactSpec) :=
  OpenClaim.holds_of_wide 5 Tryz.f5 rfl rfl rfl rfl rfl rfl rfl ⟨rfl, rfl, rfl, rfl, rfl⟩ rfl rfl rfl rfl rfl factN Tryz.func5 closed
    (of_decide_eq_true (by kernel_rfl)) (by unfold Func.isWrapper; first | (rw [if_pos (by decide +kernel)]; kernel_rfl) | (rw [if_neg (by decide +kernel)]; exact ⟨rfl, rfl⟩))
    (fun os started H enc _ => lifted os started H enc)
theorem proved : Rows.ParserExactCardSaid :=
  Claim7.holds_tied_plain_at .later [] Rows.parserExactCard.laidKinds true Rows.parserExactCard.stood.harness true over (fun _ h => by cases h) factW (fun _ h => by cases h) parserExact_row_tie rfl ⟨rfl, rfl⟩ factM rfl
    (fun f fn hf hfn => by
      obtain rfl : f = 5 := Option.some.inj ((show Tryz.prog.funcNamed "tailwater/tailwaterlaw09.ParserExact" = some 5 from factN).symm.trans hf) |>.symm
      obtain rfl : fn = Tryz.f5 := (Option.some.inj (Tryz.func5.symm.trans hfn)).symm
      exact ⟨factL, fun j t ht => by
        rw [Tryz.params5] at ht
        have hm : t ∈ (Tryz.f5.params).toList := by rw [Tryz.params5]; first | (exfalso; simp at ht; done) | exact List.mem_of_getElem? (by simpa using ht)
        have hall : ((Tryz.f5.params).toList.all fun u => !Tryz.prog.wantsStandIn u) = true := by kernel_rfl
        exact (show Tryz.prog.wantsStandIn t = false by simpa using List.all_eq_true.1 hall t hm)⟩)
    factG
end Go.Proofs.YtgpoaohglpecgaaGreatDoor.parserExact
