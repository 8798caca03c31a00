/-
  LexerBlanks: for every input the law returns true, and its arguments read as they read before.
-/
import Derived.Test.YtielnommkhfghaaDoorRows
import Derived.Test.YtielnommkhfghaaDoorCards
import Derived.Test.YtielnommkhfghaaDoorTie
import Derived.Test.YtielnommkhfghaaDoorLexLawB
import Derived.Test.YtielnommkhfghaaDoorLexLaid
import Derived.ProofKit
import Derived.OpenShut
import Derived.LaidMore
import Derived.Test.YtielnommkhfghaaDoorAmArg
import Derived.Stop.Joined
import Derived.Lay
import Derived.SevenTiedAt
namespace Go.Proofs.YtielnommkhfghaaDoor.lexerBlanks
open Go.ChangeShapes Go.WideShapes Go.ChangeAt Go.RowKit Go.Am
open Go.ChangeMaps (open_string shut_string)
set_option maxRecDepth 100000
theorem laidOut : laidOutB Tryd.prog = true := by kernel_rfl
theorem own : ownKnob Tryd.prog.godebug = none := by kernel_rfl
noncomputable abbrev spec (B : Nat → Option Obj) : FSpec := sStrBls B
theorem ok {B : Nat → Option Obj} (hB : Laid B) : FnOk (E0 B) 6 (spec B) := okBlanks hB
set_option linter.unusedVariables false in
theorem walk (a0 : ByteArray) (w0 : a0.size ≤ maxLen) (v1 : Value) (L1 : List Bool) (s1 : Pos) (g1 : V (fun _ => some s1) (.slw 0) v1) (a2 : Int) (w2 : (Lit.int .i64 a2).wf = true) (w : World) (y1 : RdD w (.bools L1) s1) (hB : Laid (fun g => w.heap[g]?)) (hn : ngN ≤ w.heap.size) :
    Calls Tryd.prog 6 #[.string a0, v1, .int .i64 a2] w fun e w' => e = .returned (.bool true) ∧ Below w.heap.size w w' := by
  have h2 : Rng a2 := by simpa [Rng, Lit.wf, IntKind.min, IntKind.max, IntKind.signed, IntKind.bits] using w2
  have ht : (spec (fun g => w.heap[g]?) [.str a0.data.toList, .slw 0, .int .i64 a2] [⟨false, .bools L1⟩]).sel = some ⟨[.bool true], []⟩ := rfl
  have hc : CfgOk (E0 fun g => w.heap[g]?) w [⟨false, .bools L1⟩] [s1] := cfg_reads (gokOf hn) rfl (by simp) fun k x p hx hp => by
    rcases k with _ | k; · (cases hx; cases hp; exact ⟨rfl, y1⟩)
    exact absurd hx (by simp)
  exact Am.law_calls2 (ok hB) ht hc (fun x hx => by simp at hx; first | (subst hx; rfl) | (rcases hx with rfl | rfl <;> rfl)) (cargs := [.string a0, v1, .int .i64 a2]) (by
    simp only [VL]
    exact ⟨_, _, rfl, (by simp only [V] <;> rw [bytes_mk]), ⟨_, _, rfl, (slw_at rfl g1), ⟨_, _, rfl, (by simp only [V]), rfl⟩⟩⟩)

theorem lifted (os : Os) (started : os.Started) (H : Type) (enc : TypeId × Value → H) :
    ReturnsInHanded {} Tryd.checked os 6 .any (fun w args => (Rows.lexerBlanksSpec.pre enc Tryd.prog Tryd.f6 [] false w args ∧ laidMetH Tryd.prog Rows.lexerBlanksRow.laid w) ∧ sizedMet enc Tryd.prog Tryd.f6 (OpenSpec.ofChange Rows.lexerBlanksSpec) false w args)
      (Rows.lexerBlanksSpec.post enc Tryd.prog Tryd.f6 false true false false) := by
  refine returnsInHanded_of_change_and (C := Tryd.checked) (X := fun w _ => laidMetH Tryd.prog Rows.lexerBlanksRow.laid w) (fun _ _ _ hh h => h.of_heap hh) own started (by kernel_rfl) Tryd.func6
    (ChangeSpec.witness_shaped (enc := enc) (C := Tryd.checked) (os := os) (X := fun w _ => laidMetH Tryd.prog Rows.lexerBlanksRow.laid w) false (World.laidAll Tryd.prog os Rows.lexerBlanksRow.laid) #[.string ByteArray.empty, .slice none 0 0, .int .i64 0] 8 (World.laidAll_os _ _ _)
      (World.shaped_of_ZipB (by kernel_rfl) (by kernel_rfl)) (by kernel_rfl) (by kernel_rfl) (by kernel_rfl)
      (by rw [MakeChecks.laidMetH_plain _ _ _ (by kernel_rfl)]; exact laidMet_laidAll _ (by kernel_rfl) (by kernel_rfl))) ?_
  intro W base args ds gs before hval0 hW _ _ hL _
  have hval : ∀ (j : Nat) t v, Tryd.f6.params[j]? = some t → args[j]? = some v → Value.okWide Tryd.prog W .any base t v := hval0
  have hW' := hW
  obtain ⟨p, q, hA0, hV, rfl, _, _⟩ := hW
  have hA : DataW.TrodAll enc Tryd.prog W 0 (fun _ => true) true Tryd.f6.params.toList args.toList ds p := hA0
  rw [Tryd.params6] at hA hval
  obtain ⟨v0, vs0, d0, ds0, p0, q0, hargs, rfl, rfl, h0, r0⟩ := trodAll_cons hA
  obtain ⟨v1, vs1, d1, ds1, p1, q1, rfl, rfl, rfl, h1, r1⟩ := trodAll_cons r0
  obtain ⟨v2, vs2, d2, ds2, p2, q2, rfl, rfl, rfl, h2, r2⟩ := trodAll_cons r1
  obtain ⟨rfl, rfl, rfl⟩ := trodAll_nil r2
  obtain rfl : args = #[v0, v1, v2] := by cases args; simp_all
  obtain ⟨rfl, rfl⟩ := trodVars_none hV
  obtain ⟨a0, rfl, rfl, rfl, w0⟩ := open_string Tryd.underlying9 (hval 0 9 v0 rfl rfl) h0
  obtain ⟨L1, s1, g1, sa1, sb1, sc1, sd1, w1, ce1⟩ := slice_arg (fun b => [.bool b]) (fun _ => True) Tryd.underlying42 (hval 1 42 v1 rfl rfl) h1 (bool_elem Tryd.underlying4)
  obtain ⟨a2, rfl, rfl, rfl, w2⟩ := open_int Tryd.underlying3 (hval 2 3 v2 rfl rfl) h2
  simp only [List.append_nil] at hW'
  rw [MakeChecks.laidMetH_plain _ _ _ (by kernel_rfl)] at hL
  obtain ⟨hB, hn⟩ := laidOf hL (by kernel_rfl) (by kernel_rfl) (by kernel_rfl)
  refine (walk a0 w0 v1 L1 s1 g1 a2 w2 W (rd_bools (sa1.trans (by kernel_rfl)) sb1 sc1 sd1 ce1) hB hn).mono fun e W' ⟨he, hb⟩ => ?_
  subst he
  exact ⟨_, rfl, _, _, _, [], _, [], hW', (trodAll_cons_mk (shut_bool Tryd.underlying4 _) trodAll_mk0), (trodAll_cons_mk (shut_string Tryd.underlying9 w0) (trodAll_cons_mk (Below.trod laidOut (by kernel_rfl) (of_decide_eq_true (by kernel_rfl)) h1 hb (fun x hx => hW'.lt x (by simp [hx]))) (trodAll_cons_mk (shut_int Tryd.underlying3 w2) trodAll_mk0))), rfl, hb.frame _, fun h => by cases h⟩

theorem over : Rows.lexerBlanksRow.holds Tryd.pinned (OpenSpec.ofChange Rows.lexerBlanksSpec) :=
  OpenClaim.holds_of_wide 6 Tryd.f6 rfl rfl rfl rfl rfl rfl rfl ⟨rfl, rfl, rfl, rfl, rfl⟩ rfl rfl rfl rfl rfl (by kernel_rfl) Tryd.func6 (by kernel_rfl)
    (of_decide_eq_true (by kernel_rfl)) (by unfold Func.isWrapper; first | (rw [if_pos (by decide +kernel)]; kernel_rfl) | (rw [if_neg (by decide +kernel)]; exact ⟨rfl, rfl⟩))
    (fun os started H enc _ => lifted os started H enc)

/-- the statement -/
theorem proved : Rows.LexerBlanksCardSaid :=
  Claim7.holds_tied_plain_at .later [] Rows.lexerBlanksCard.laidKinds true Rows.lexerBlanksCard.stood.harness true over (fun _ h => by cases h) (by kernel_rfl) (fun _ h => by cases h) lexerBlanks_row_tie rfl ⟨rfl, rfl⟩ (by kernel_rfl) rfl
    (fun f fn hf hfn => by
      obtain rfl : f = 6 := Option.some.inj ((show Tryd.prog.funcNamed "tailwater/tailwaterlaw03.LexerBlanks" = some 6 by kernel_rfl).symm.trans hf) |>.symm
      obtain rfl : fn = Tryd.f6 := (Option.some.inj (Tryd.func6.symm.trans hfn)).symm
      exact ⟨by kernel_rfl, fun j t ht => by
        rw [Tryd.params6] at ht
        have hm : t ∈ (Tryd.f6.params).toList := by rw [Tryd.params6]; first | (exfalso; simp at ht; done) | exact List.mem_of_getElem? (by simpa using ht)
        have hall : ((Tryd.f6.params).toList.all fun u => !Tryd.prog.wantsStandIn u) = true := by kernel_rfl
        exact (show Tryd.prog.wantsStandIn t = false by simpa using List.all_eq_true.1 hall t hm)⟩)
    (by kernel_rfl)
end Go.Proofs.YtielnommkhfghaaDoor.lexerBlanks
