/-
  ChecksTells: for every query and nodes the law returns true, and its arguments read as they read before. No condition.
-/
import Derived.Test.YthfieonkfailkaaRows
import Derived.Test.YthfieonkfailkaaChkLaw
import Derived.Test.YthfieonkfailkaaAmQry
import Derived.ProofKit
import Derived.OpenShut
namespace Go.Proofs.Ythfieonkfailkaa.checksTells
open Go.ChangeShapes Go.WideShapes Go.ChangeAt Go.RowKit Go.Am
set_option maxRecDepth 100000
theorem laidOut : laidOutB Try.prog = true := by kernel_rfl
theorem own : ownKnob Try.prog.godebug = none := by kernel_rfl
theorem gokFree (w : World) : GOk (E0 fun g => w.heap[g]?) (fun _ => False) w := ⟨fun _ _ h => (by cases h), Nat.zero_le _, fun _ _ => rfl, fun _ h => h.elim⟩
theorem walk (q : Qry) (p0 p1 p2 : Pos) (v0 : Value) (L : List Nod) (p3 : Pos) (v1 : Value) (w : World) (h0 : QryV w q p0 p1 p2 v0) (g1 : V (fun _ => some p3) (.slw 0) v1) (h1 : NodsAt w L p3) :
    Calls Try.prog 3 #[v0, v1] w fun e w' => e = .returned (.bool true) ∧ Below w.heap.size w w' := by
  have ht : (sTells (fun g => w.heap[g]?) [q.av 0 1 2, .slw 3] (qbs q ++ [nb L])).sel = some ⟨[.bool true], []⟩ := rfl
  have hq := h0
  obtain ⟨_, _, _, _, _, _, _, n0, n1, n2⟩ := hq
  have hc : CfgOk (E0 fun g => w.heap[g]?) w (qbs q ++ [nb L]) [p0, p1, p2, p3] := cfg_reads (gokFree w) rfl (by simp [qbs]) fun k x p hx hp => by
    rcases k with _ | _ | _ | _ | k
    · cases hx; cases hp; exact ⟨rfl, n0.rd⟩
    · cases hx; cases hp; exact ⟨rfl, n1.rd⟩
    · cases hx; cases hp; exact ⟨rfl, n2.rd⟩
    · cases hx; cases hp; exact ⟨rfl, h1.rd⟩
    · simp [qbs] at hx
  exact Am.law_calls2 (okTells (B := fun g => w.heap[g]?)) ht hc (fun x hx => by simp [qbs, nb] at hx; rcases hx with rfl | rfl | rfl | rfl <;> rfl) (cargs := [v0, v1]) (by
    simp only [VL]
    exact ⟨_, _, rfl, h0.at' rfl rfl rfl, _, _, rfl, slw_at rfl g1, rfl⟩)
theorem lifted (os : Os) (started : os.Started) (H : Type) (enc : TypeId × Value → H) :
    ReturnsInHanded {} Try.checked os 3 .any (Rows.checksTellsSpec.pre6 enc Try.prog Try.f3 Rows.checksTellsRow.domain false) (Rows.checksTellsSpec.post enc Try.prog Try.f3 false true false false) := by
  refine returnsInHanded_of_change (C := Try.checked) own started (by kernel_rfl) Try.func3
    (ChangeSpec.witness6 (enc := enc) (C := Try.checked) false ⟨#[], #[.agg #[.int .u8 0, .slice none 0 0, .slice none 0 0, .bool false, .slice none 0 0, .int .u8 0, .int .i64 0, .int .i64 0, .bool false, .int .u8 0], .slice none 0 0], []⟩ 8 (by kernel_rfl) (by kernel_rfl) (by kernel_rfl) (by kernel_rfl)) ?_
  intro W base args ds gs before hval0 hW hcnd _
  have hval : ∀ (j : Nat) t v, Try.f3.params[j]? = some t → args[j]? = some v → Value.okWide Try.prog W .any base t v := hval0
  have hW' := hW
  obtain ⟨p, q, hA0, hV, rfl, _, _⟩ := hW
  have hA : DataW.TrodAll enc Try.prog W 0 (fun _ => true) true Try.f3.params.toList args.toList ds p := hA0
  rw [Try.params3] at hA hval
  obtain ⟨v0, vs0, d0, ds0, p0, q0, hargs, rfl, rfl, h0, r0⟩ := trodAll_cons hA
  obtain ⟨v1, vs1, d1, ds1, p1, q1, rfl, rfl, rfl, h1, r1⟩ := trodAll_cons r0
  obtain ⟨rfl, rfl, rfl⟩ := trodAll_nil r1
  obtain rfl : args = #[v0, v1] := by cases args; simp_all
  obtain ⟨rfl, rfl⟩ := trodVars_none hV
  have el : NodEl enc Try.prog W 0 (fun _ => true) true 71 := nod_elem Try.underlying71 (by kernel_rfl) rfl rfl rfl rfl rfl (by kernel_rfl) (by kernel_rfl) (by kernel_rfl) (by kernel_rfl) (by kernel_rfl) Try.underlying5 (by kernel_rfl) Try.underlying3 Try.underlying3 Try.underlying3
  obtain ⟨Q, s0, s1, s2, hQ, _⟩ := qry_arg (QryT.mk Try.underlying27 (u8 := 5) (nl := 22) (il := 23) (b := 4) (i64 := 2) (by kernel_rfl) (by kernel_rfl) rfl rfl rfl (by kernel_rfl) (by kernel_rfl) (by kernel_rfl) rfl rfl rfl
    Try.underlying5 Try.underlying4 (by kernel_rfl) Try.underlying22 Try.underlying23 Try.underlying3 (by kernel_rfl) (by kernel_rfl)) el (hval 0 27 v0 rfl rfl) h0
  obtain ⟨L, s3, g1, sa, sb, sc, sd, _, ce⟩ := slice_arg Nod.enc nodWf Try.underlying22 (hval 1 22 v1 rfl rfl) h1 el
  simp only [List.append_nil] at hW'
  refine (walk Q s0 s1 s2 v0 L s3 v1 W hQ g1 ⟨sa.trans (by kernel_rfl), sb, sc, sd, ce⟩).mono fun e W' ⟨he, hb⟩ => ?_
  subst he
  exact ⟨_, rfl, _, _, _, [], _, [], hW', (trodAll_cons_mk (shut_bool Try.underlying4 _) trodAll_mk0),
    (trodAll_cons_mk (Below.trod laidOut (by kernel_rfl) (of_decide_eq_true (by kernel_rfl)) h0 hb (fun x hx => hW'.lt x (by simp [hx]))) (trodAll_cons_mk (Below.trod laidOut (by kernel_rfl) (of_decide_eq_true (by kernel_rfl)) h1 hb (fun x hx => hW'.lt x (by simp [hx]))) trodAll_mk0)), rfl, hb.frame _, fun h => by cases h⟩
theorem over : Rows.checksTellsRow.holds Try.pinned (OpenSpec.ofChange Rows.checksTellsSpec) :=
  OpenClaim.holds_of_wide 3 Try.f3 rfl rfl rfl rfl rfl rfl rfl ⟨rfl, rfl, rfl, rfl, rfl⟩ rfl rfl rfl rfl rfl (by kernel_rfl) Try.func3 (by kernel_rfl)
    (of_decide_eq_true (by kernel_rfl)) (by unfold Func.isWrapper; first | (rw [if_pos (by decide +kernel)]; kernel_rfl) | (rw [if_neg (by decide +kernel)]; exact ⟨rfl, rfl⟩))
    (fun os started H enc _ => lifted os started H enc)
/-- the statement -/
theorem proved : Rows.ChecksTellsSaid :=
  over
end Go.Proofs.Ythfieonkfailkaa.checksTells
