/-
  Ints: IntsWritten answers true.
-/
import Derived.Test.YtbccnahpdmaocabDoorIntsRead
namespace Go.Proofs.YtbccnahpdmaocabDoor
open Go.Am
set_option maxRecDepth 100000
variable {B : Nat → Option Obj}
noncomputable def bW : Code := loopAt 8 (loopsOf (bodyC Tryd.f3))
def sgW : LSig := { cs := [(2, 0)], mv := [(9, 0), (10, 0)], mo := [(9, 0)], take := [] }
def rW (z : Int) (f : List UInt8) (i : Int) : Option (AExit × Out) := some (.normal, ⟨[i64 z, .str f, i64 i], []⟩)
theorem turnW (z i : Int) (f : List UInt8) : (turn (E0 B) (C0 B) noL 71 sgW bW [i64 z, .str f, i64 i] []).sel =
    bif decide (i < z) then (bif decide (f.length + 1 ≤ lim) then rW z (f ++ [48]) (w64 (i + 1)) else none) else xA (.exit 0) [.str f] := by kernel_rfl
def sW : LSpec
  | [.int .i64 z, .str f, .int .i64 i], [] => .node (decide (0 ≤ i ∧ i ≤ z ∧ z ≤ 30 ∧ f.length ≤ i.toNat)) (.leaf (.exit 0, ⟨[.str (f ++ zer (z - i).toNat)], []⟩)) .bad
  | _, _ => .bad
theorem loopW : LoopOk (E0 B) 71 sgW bW sW := by
  refine loop_turns (C := C0 B) (L := noL) c0Ok (noL_ok _) fun vs bs e o h => ?_
  unfold sW at h
  split at h
  · rename_i z f i
    rcases T.node_sel h with ⟨hc, h2⟩ | ⟨_, h2⟩
    · obtain ⟨h0, h1, hz, hf⟩ := of_decide_eq_true hc
      simp only [T.sel, Option.some.injEq, Prod.mk.injEq] at h2
      obtain ⟨rfl, rfl⟩ := h2
      clear h hc
      generalize hk : (z - i).toNat = k
      induction k generalizing i f with
      | zero =>
        refine ⟨1, turns_done ((turnW z i f).trans ?_) (by simp)⟩
        rw [decide_eq_false (show ¬ i < z from by omega)]
        simp [zer, xA]
      | succ k ih =>
        have ht := turnW (B := B) z i f
        rw [decide_eq_true (show i < z from by omega), cond_true, decide_eq_true (show f.length + 1 ≤ lim from by simp only [lim]; omega), cond_true, w64_i h0 (by simp only [lim]; omega)] at ht
        obtain ⟨j, hj⟩ := ih (f ++ [48]) (i + 1) (by omega) (by omega) (by simp; omega) (by omega)
        refine ⟨j + 1, turns_more ht (hj.trans ?_)⟩
        simp [zer, List.replicate_succ, List.append_assoc]
    · simp [T.sel] at h2
  · simp [T.sel] at h
def eW : LEnt := { id := 8, n := 71, sg := sgW, wr := [35, 36, 37, 40, 41, 9, 38, 39, 10], s := sW }
noncomputable def lW : List (FuncId × List Nat × FSpec) := (6, [], sRead) :: lAll
theorem lW_ok (hB : Laid B) : ∀ x ∈ lW, FnOk (E0 B) x.1 x.2.2 := by
  intro x hx
  rcases List.mem_cons.1 hx with rfl | hx
  · exact okRead hB
  · exact lAll_ok hB x hx
/-- the law by its text: its loop by contract -/
noncomputable def specW (B : Nat → Option Obj) : FSpec := fun vs bs => fnRun (E0 B) (Cx B lW) (loopL (E0 B) (inlL (E0 B) (Cx B lW) 300) [eW]) Tryd.f3 (bodyC Tryd.f3) vs bs
theorem okW (hB : Laid B) : FnOk (E0 B) 3 (specW B) :=
  fn_ok (c := bodyC Tryd.f3) Tryd.func3 (by kernel_rfl) (by kernel_rfl) (cxOk (lW_ok hB))
    (loopL_fits (fun x hx => by simp only [List.mem_singleton] at hx; subst hx; exact ⟨bW, by kernel_rfl, by kernel_rfl, loopW⟩) (inl_ok (cxOk (lW_ok hB)) 300)) fun _ _ _ h => h
def front (n z : Int) : List UInt8 := ([] ++ zer (z - 0).toNat) ++ Lib.itoa n
theorem tW (n m z : Int) : (specW B [i64 n, i64 m, i64 z] []).sel =
    bif decide (z < 0) then rb true else bif decide (30 < z) then rb true else
    bif rng64 n && decide ((10 : Int) = 10) then (bif rng64 m && decide ((10 : Int) = 10) then (bif fails (decide (Lib.itoa n = Lib.itoa m) == decide (n = m)) then rb false else bif decide (Lib.itoa n = []) then rb false else
      bif decide (0 ≤ (0 : Int) ∧ 0 ≤ z ∧ z ≤ 30 ∧ ([] : List UInt8).length ≤ (0 : Int).toNat) then (bif decide ((([] : List UInt8) ++ zer (z - 0).toNat).length + (Lib.itoa n).length ≤ lim) then (bif decide ((front n z).length ≤ lim) then
        (bif decide (n < 0) then (bif decide (rdE (front n z) = 12) then (bif decide (0 ≤ (0 : Int) ∧ (0 : Int) < (Lib.itoa n).length) then (bif decide ((((Lib.itoa n).getD (0 : Int).toNat 0).toNat : Int) = 45) then rb true else rb false) else none) else rb false)
          else bif decide (rdE (front n z) = 0) then (bif decide (rdN (front n z) = n) then rb true else rb false) else rb false) else none) else none) else none) else none) else none := by kernel_rfl
theorem written_true {n m z : Int} (hn : Rng n) (hm : Rng m) : (specW B [i64 n, i64 m, i64 z] []).sel = rb true := by
  rw [tW]
  have r1 : rng64 n = true := decide_eq_true hn
  have r2 : rng64 m = true := decide_eq_true hm
  have hi : (decide (Lib.itoa n = Lib.itoa m) == decide (n = m)) = true := by
    have e : decide (Lib.itoa n = Lib.itoa m) = decide (n = m) := decide_eq_decide.2 itoa_inj
    rw [e]; simp
  have h0 : decide (Lib.itoa n = []) = false := decide_eq_false (itoa_ne n)
  by_cases hz : z < 0
  · rw [decide_eq_true hz]; rfl
  rw [decide_eq_false hz, cond_false]
  by_cases hz2 : 30 < z
  · rw [decide_eq_true hz2]; rfl
  have hl := itoa_len hn
  have hf : front n z = zer (z - 0).toNat ++ Lib.itoa n := rfl
  have hzl : (zer (z - 0).toNat).length = z.toNat := by simp [zer]
  have hfl : (front n z).length ≤ lim := by
    rw [hf, List.length_append, hzl]; simp only [lim]; omega
  have hpos : 0 < (Lib.itoa n).length := List.length_pos_iff.2 (itoa_ne n)
  rw [decide_eq_false hz2, cond_false, r1, r2, hi, h0]
  rw [decide_eq_true (show 0 ≤ (0 : Int) ∧ 0 ≤ z ∧ z ≤ 30 ∧ ([] : List UInt8).length ≤ (0 : Int).toNat from ⟨by omega, by omega, by omega, by simp⟩)]
  rw [decide_eq_true (show (([] : List UInt8) ++ zer (z - 0).toNat).length + (Lib.itoa n).length ≤ lim from by rw [List.nil_append, hzl]; simp only [lim]; omega), decide_eq_true hfl]
  simp only [decide_true, Bool.and_true, cond_true, cond_false, fails]
  by_cases hneg : n < 0
  · rw [decide_eq_true hneg, hf, decide_eq_true (read_neg hneg _), decide_eq_true (show 0 ≤ (0 : Int) ∧ (0 : Int) < (Lib.itoa n).length from ⟨by omega, by omega⟩)]
    simp only [cond_true]
    rw [itoa_min hneg]; rfl
  · have hr := read_pos hn (by omega) (z - 0).toNat
    rw [decide_eq_false hneg, hf, decide_eq_true hr.1, decide_eq_true hr.2]; rfl
end Go.Proofs.YtbccnahpdmaocabDoor
