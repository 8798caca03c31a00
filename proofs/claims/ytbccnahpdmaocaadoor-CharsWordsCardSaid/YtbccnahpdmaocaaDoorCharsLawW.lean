/-
  Chars: CharsWords answers true.
-/
import Derived.Test.YtbccnahpdmaocaaDoorCharsLaw2
namespace Go.Proofs.YtbccnahpdmaocaaDoor
open Go.Am
set_option maxRecDepth 100000
variable {B : Nat → Option Obj}
theorem tWords : wordList.map (fun w => runT B lib4 Tryd.f8 [.str w] []) = wordList.map fun _ => rb true := by kernel_rfl
def sAny (_ : Nat → Option Obj) : FSpec
  | [.str _], [] => .leaf ⟨[.bool true], []⟩
  | _, _ => .bad
theorem okWords (hB : Laid B) : FnOk (E0 B) 8 (sAny B) := by
  refine ⟨fnAt_mk (fn := Tryd.f8) Tryd.func8 (by kernel_rfl) (by kernel_rfl), fun vs bs out h => ?_⟩
  unfold sAny at h
  split at h
  · rename_i s
    simp only [T.sel, Option.some.injEq] at h; subst h
    cases hw : isWord s with
    | true =>
      have hm : s ∈ wordList := List.contains_iff_mem.1 hw
      obtain ⟨k, hk⟩ := List.mem_iff_getElem?.1 hm
      have h1 := congrArg (fun l => l[k]?) (tWords (B := B))
      simp only [List.getElem?_map, hk, Option.map_some] at h1
      exact (fn_ok (s := fun vs bs => fnRun (E0 B) (Cx B lib4) (inlL (E0 B) (Cx B lib4) 300) Tryd.f8 (bodyC Tryd.f8) vs bs) Tryd.func8 (by kernel_rfl) (by kernel_rfl) (cxOk (lib4_ok hB)) (inl_ok (cxOk (lib4_ok hB)) 300 _) fun _ _ _ h => h).2 [.str s] [] _ (Option.some.inj h1)
    | false =>
      have h1 := tWordsNo (B := B) s
      rw [hw] at h1
      have h2 : runT B libN Tryd.f8 [.str s] [] = rb true := by
        rw [h1]; cases decide ((400 : Int) < (s.length : Int)) <;> rfl
      exact (fn_ok (s := fun vs bs => fnRun (E0 B) (Cx B libN) (inlL (E0 B) (Cx B libN) 300) Tryd.f8 (bodyC Tryd.f8) vs bs) Tryd.func8 (by kernel_rfl) (by kernel_rfl) (cxOk (libN_ok hB)) (inl_ok (cxOk (libN_ok hB)) 300 _) fun _ _ _ h => h).2 [.str s] [] _ h2
  · simp [T.sel] at h
end Go.Proofs.YtbccnahpdmaocaaDoor
