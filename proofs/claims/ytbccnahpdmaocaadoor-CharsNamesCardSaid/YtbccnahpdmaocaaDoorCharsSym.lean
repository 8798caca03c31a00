/-
  Chars: Symbol, by contract.
-/
import Derived.Test.YtbccnahpdmaocaaDoorCharsKind
namespace Go.Proofs.YtbccnahpdmaocaaDoor
open Go.Am
set_option maxRecDepth 100000
variable {B : Nat → Option Obj}
theorem tSymbol (s : List UInt8) (a : Int) : runT B lib2 Tryd.f18 [.str s, .int .i64 a] [] =
    bif decide (a < 0) then rp 0 2 else bif decide ((s.length : Int) < a) then rp 0 2 else bif decide (0 ≤ a ∧ a ≤ (s.length : Int)) then symT (s.drop a.toNat) else none := by kernel_rfl
theorem okSymbol (hB : Laid B) : FnOk (E0 B) 18 sSym := by
  refine fnT (lib2_ok hB) Tryd.func18 (by kernel_rfl) (by kernel_rfl) fun vs bs r h => ?_
  unfold sSym at h
  split at h
  · rename_i s a
    simp only [T.sel, Option.some.injEq] at h; subst h
    refine (tSymbol s a).trans ?_
    unfold symN symE outA
    by_cases h0 : a < 0
    · rw [decide_eq_true h0]; rfl
    · rw [decide_eq_false h0]
      by_cases h1 : (s.length : Int) < a
      · rw [decide_eq_true h1]; rfl
      · rw [decide_eq_false h1, decide_eq_true (show 0 ≤ a ∧ a ≤ (s.length : Int) from ⟨by omega, by omega⟩), symT_is]; rfl
  · simp [T.sel] at h
noncomputable def lib3 : List (FuncId × List Nat × FSpec) := (18, [], sSym) :: lib2
theorem lib3_ok (hB : Laid B) : ∀ x ∈ lib3, FnOk (E0 B) x.1 x.2.2 := by
  intro x hx
  rcases List.mem_cons.1 hx with rfl | hx
  · exact okSymbol hB
  · exact lib2_ok hB x hx
theorem tAlive3 : runT B lib3 Tryd.f19 [] [] = rb true := by kernel_rfl
end Go.Proofs.YtbccnahpdmaocaaDoor
