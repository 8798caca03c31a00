/-
  Ints: Do, by contract.
-/
import Derived.Test.YtbccnahpdmaocabDoorIntsRun
import Derived.Test.YtbccnahpdmaocabDoorIntsPure
namespace Go.Proofs.YtbccnahpdmaocabDoor
open Go.Am
set_option maxRecDepth 100000
variable {B : Nat → Option Obj}
def sTruth : FSpec
  | [.bool b], [] => .leaf ⟨[i64 (ti b)], []⟩
  | _, _ => .bad
theorem cxOk {l : List (FuncId × List Nat × FSpec)} (h : ∀ x ∈ l, FnOk (E0 B) x.1 x.2.2) : CG (E0 B) (Cx B l) := specC_ok (textS_ok h _ _ _)
/-- a function by its text, over contracts -/
theorem fnT {l : List (FuncId × List Nat × FSpec)} (h : ∀ x ∈ l, FnOk (E0 B) x.1 x.2.2) {f : FuncId} {fn : Func} (h1 : Tryd.prog.funcs[f]? = some fn) (h2 : fn.body = some (bodyC fn)) (h3 : (fn.name == "runtime.NumGoroutine") = false) {s : FSpec}
    (hspec : ∀ vs bs r, (s vs bs).sel = some r → runT B l fn vs bs = some r) : FnOk (E0 B) f s :=
  fn_ok h1 h2 h3 (cxOk h) (inl_ok (cxOk h) 300 _) hspec
theorem tTruth (b : Bool) : runT B [] Tryd.f22 [.bool b] [] = some ⟨[i64 (ti b)], []⟩ := by cases b <;> kernel_rfl
theorem okTruth : FnOk (E0 B) 22 sTruth := by
  refine fnT (l := []) (fun _ h => by cases h) Tryd.func22 (by kernel_rfl) (by kernel_rfl) fun vs bs r h => ?_
  unfold sTruth at h
  split at h
  · simp only [T.sel, Option.some.injEq] at h; subst h; exact tTruth _
  · simp [T.sel] at h
noncomputable def lDo : List (FuncId × List Nat × FSpec) := [(22, [], sTruth)]
theorem tDo (k a b : Int) : runT B lDo Tryd.f11 [.int .u8 k, i64 a, i64 b] [] =
    bif decide (k = 5) then rp (w64 (0 - a)) 0 else bif decide (k = 6) then rp (ti (decide (a = 0))) 0 else bif decide (k = 7) then rp (w64 (a * b)) 0 else bif decide (k = 8) then rp (w64 (a + b)) 0 else bif decide (k = 9) then rp (w64 (a - b)) 0
    else bif decide (k = 10) then (bif decide (0 ≤ and63 b) then rp (w64 (a * 2 ^ (min (and63 b).toNat 64))) 0 else none)
    else bif decide (k = 11) then (bif decide (0 ≤ and63 b) then rp (a.fdiv (2 ^ (min (and63 b).toNat 64))) 0 else none)
    else bif decide (k = 12) then rp (ti (decide (a < b))) 0 else bif decide (k = 13) then rp (ti (decide (a ≤ b))) 0 else bif decide (k = 14) then rp (ti (decide (b < a))) 0
    else bif decide (k = 15) then rp (ti (decide (b ≤ a))) 0 else bif decide (k = 16) then rp (ti (decide (a = b))) 0 else bif decide (k = 17) then rp (ti (!decide (a = b))) 0
    else bif decide (k = 18) then (bif !decide (a = 0) then rp (ti (bif true then !decide (b = 0) else false)) 0 else rp (ti false) 0)
    else bif decide (k = 19) then rp (ti (!decide (or64 a b = 0))) 0
    else rp 0 2 := by kernel_rfl
theorem okDo : FnOk (E0 B) 11 sDo := by
  refine fnT (l := lDo) (fun x hx => by simp only [lDo, List.mem_singleton] at hx; subst hx; exact okTruth) Tryd.func11 (by kernel_rfl) (by kernel_rfl) fun vs bs r h => ?_
  unfold sDo at h
  split at h
  · rename_i k a b
    simp only [T.sel, Option.some.injEq] at h
    subst h
    refine (tDo k a b).trans ?_
    rw [and63_eq, show decide (0 ≤ b % 64) = true from by simp; omega, cond_true, cond_true, show min (b % 64).toNat 64 = (b % 64).toNat from by omega]
    unfold doN doE rp
    by_cases hk : k = 5 ∨ k = 6 ∨ k = 7 ∨ k = 8 ∨ k = 9 ∨ k = 10 ∨ k = 11 ∨ k = 12 ∨ k = 13 ∨ k = 14 ∨ k = 15 ∨ k = 16 ∨ k = 17 ∨ k = 18 ∨ k = 19
    · rcases hk with rfl | rfl | rfl | rfl | rfl | rfl | rfl | rfl | rfl | rfl | rfl | rfl | rfl | rfl | rfl
      all_goals first
        | rfl
        | (cases decide (a = 0) <;> cases decide (b = 0) <;> rfl)
    · have hb' : (decide (5 ≤ k) && decide (k ≤ 19)) = false := by
        simp only [Bool.and_eq_false_iff, decide_eq_false_iff_not]; omega
      rw [hb']
      simp only [not_or] at hk
      simp [hk, i64]
  · simp [T.sel] at h
noncomputable def lAll : List (FuncId × List Nat × FSpec) := (11, [], sDo) :: lib0
theorem lAll_ok (hB : Laid B) : ∀ x ∈ lAll, FnOk (E0 B) x.1 x.2.2 := by
  intro x hx
  rcases List.mem_cons.1 hx with rfl | hx
  · exact okDo
  · exact lib0_ok hB x hx
end Go.Proofs.YtbccnahpdmaocabDoor
