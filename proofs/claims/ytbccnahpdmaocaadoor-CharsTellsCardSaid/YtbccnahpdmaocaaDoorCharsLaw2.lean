/-
  Chars: length and alive by contract; CharsPlace's run; CharsWords' run.
-/
import Derived.Test.YtbccnahpdmaocaaDoorCharsSym
namespace Go.Proofs.YtbccnahpdmaocaaDoor
open Go.Am
set_option maxRecDepth 100000
variable {B : Nat → Option Obj}
theorem okAlive (hB : Laid B) : FnOk (E0 B) 19 sTrue := by
  refine fnT (lib3_ok hB) Tryd.func19 (by kernel_rfl) (by kernel_rfl) fun vs bs r h => ?_
  unfold sTrue at h
  split at h
  · simp only [T.sel, Option.some.injEq] at h; subst h; exact tAlive3
  · simp [T.sel] at h
theorem tLen (s : List UInt8) (a : Int) : runT B lib3 Tryd.f15 [.str s, .int .i64 a] [] = bif !decide (symE s a = 0) then some ⟨[i64 (-1)], []⟩ else some ⟨[i64 (symN s a)], []⟩ := by kernel_rfl
theorem okLen (hB : Laid B) : FnOk (E0 B) 15 sLen := by
  refine fnT (lib3_ok hB) Tryd.func15 (by kernel_rfl) (by kernel_rfl) fun vs bs r h => ?_
  unfold sLen at h
  split at h
  · rename_i s a
    simp only [T.sel, Option.some.injEq] at h; subst h
    refine (tLen s a).trans ?_
    unfold lenN
    cases decide (symE s a = 0) <;> rfl
  · simp [T.sel] at h
noncomputable def lib4 : List (FuncId × List Nat × FSpec) := (19, [], sTrue) :: (15, [], sLen) :: lib3
theorem lib4_ok (hB : Laid B) : ∀ x ∈ lib4, FnOk (E0 B) x.1 x.2.2 := by
  intro x hx
  rcases List.mem_cons.1 hx with rfl | hx
  · exact okAlive hB
  rcases List.mem_cons.1 hx with rfl | hx
  · exact okLen hB
  · exact lib3_ok hB x hx
theorem tPlace (f s : List UInt8) : runT B lib4 Tryd.f7 [.str f, .str s] [] =
    bif decide ((200 : Int) < (f.length : Int)) then rb true else bif decide ((200 : Int) < (s.length : Int)) then rb true else bif decide (f.length + s.length ≤ lim) then
      (bif decide (lenN (f ++ s) (f.length : Int) = lenN s 0) then rb true else rb false) else none := by kernel_rfl
theorem place_true {f s : List UInt8} : runT B lib4 Tryd.f7 [.str f, .str s] [] = rb true := by
  rw [tPlace]
  by_cases h1 : (200 : Int) < (f.length : Int)
  · rw [decide_eq_true h1]; rfl
  by_cases h2 : (200 : Int) < (s.length : Int)
  · rw [decide_eq_false h1, decide_eq_true h2]; rfl
  rw [decide_eq_false h1, decide_eq_false h2, decide_eq_true (show f.length + s.length ≤ lim from by simp only [lim]; omega), decide_eq_true (len_place f s)]; rfl
/-! CharsWords: a text that is no word; the words -/
def sNo : FSpec
  | [.str s], [] => .node (!isWord s) (.leaf ⟨[.bool false], []⟩) .bad
  | _, _ => .bad
theorem okNo (hB : Laid B) : FnOk (E0 B) 17 sNo := ⟨(wordOk hB).1, fun vs bs out h => by
  refine (wordOk hB).2 vs bs out ?_
  unfold sNo at h
  split at h
  · rename_i s
    rcases T.node_sel h with ⟨hc, h2⟩ | ⟨_, h2⟩
    · simp only [T.sel, Option.some.injEq] at h2; subst h2
      simp only [Bool.not_eq_true'] at hc
      simp [sWord, T.sel, hc]
    · simp [T.sel] at h2
  · simp [T.sel] at h⟩
noncomputable def libN : List (FuncId × List Nat × FSpec) := (17, [], sNo) :: (19, [], sTrue) :: []
theorem libN_ok (hB : Laid B) : ∀ x ∈ libN, FnOk (E0 B) x.1 x.2.2 := by
  intro x hx
  rcases List.mem_cons.1 hx with rfl | hx
  · exact okNo hB
  rcases List.mem_cons.1 hx with rfl | hx
  · exact okAlive hB
  · cases hx
theorem tWordsNo (s : List UInt8) : runT B libN Tryd.f8 [.str s] [] =
    bif decide ((400 : Int) < (s.length : Int)) then rb true else bif !isWord s then rb true else none := by kernel_rfl
end Go.Proofs.YtbccnahpdmaocaaDoor
