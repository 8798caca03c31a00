/-
  Chars: the program's words; Word by contract.
-/
import Derived.Test.YtbccnahpdmaocaaDoorWordFn
import Derived.Test.YtbccnahpdmaocaaDoorCharsPure
namespace Go.Proofs.YtbccnahpdmaocaaDoor
open Go.Am
set_option maxRecDepth 100000

def ngN : Nat := 0 + 1
noncomputable def E0 (B : Nat → Option Obj) : Env := { P := Tryd.prog, kind := autoKind Tryd.prog, ng := ngN, glob := fun _ => none, base := B }
/-- what is laid in the package-level variables -/
structure Laid (B : Nat → Option Obj) : Prop where
  sp : ∀ w : World, (∀ g, g < ngN → w.heap[g]? = B g) → spTab w
variable {B : Nat → Option Obj}
theorem fnAt_mk {P : Program} {f : FuncId} {fn : Func} (h1 : P.funcs[f]? = some fn) (h2 : fn.body = some (bodyC fn)) (h3 : (fn.name == "runtime.NumGoroutine") = false) : ∃ fn c, FnAt P f fn c :=
  ⟨fn, bodyC fn, h1, h2, by simpa using h3⟩
theorem wordB_is (s : ByteArray) : wordB s = isWord s.data.toList := by
  have h : ((List.range 4).flatMap fun k => Lib.fields (grpS k).data.toList) = wordList := by kernel_rfl
  unfold isWord wordB
  rw [← h, Bool.eq_iff_iff, List.any_eq_true, List.contains_iff_mem, List.mem_flatMap]
  constructor
  · rintro ⟨k, hk, hc⟩; exact ⟨k, hk, List.contains_iff_mem.1 hc⟩
  · rintro ⟨k, hk, hc⟩; exact ⟨k, hk, List.contains_iff_mem.2 hc⟩
theorem wordOk (hB : Laid B) : FnOk (E0 B) 17 sWord :=
  fnOk_plain (fnAt_mk (fn := Tryd.f17) Tryd.func17 (by kernel_rfl) (by kernel_rfl)) fun vs bs out hsel => by
    unfold sWord at hsel
    split at hsel
    · rename_i s
      simp only [T.sel, Option.some.injEq] at hsel
      subst hsel
      refine ⟨by kernel_rfl, rfl, rfl, fun w cargs hg hv => ?_⟩
      simp only [VL, V] at hv
      obtain ⟨_, _, rfl, rfl, rfl⟩ := hv
      refine (callsIn_wide (n := 4)).1 ((word_in Fence.wide 4 trivial trivial trivial rfl (Nat.le_refl _) ⟨s.toArray⟩ w (hB.sp w hg.base)).mono ?_)
      rintro e w' ⟨rfl, hb⟩
      exact ⟨_, rfl, by rw [wordB_is]; simp [oneOrTup, V], hb⟩
    · simp [T.sel] at hsel
noncomputable def lib0 : List (FuncId × List Nat × FSpec) := [(17, [], sWord)]
theorem lib0_ok (hB : Laid B) : ∀ x ∈ lib0, FnOk (E0 B) x.1 x.2.2 := by
  intro x hx
  simp only [lib0, List.mem_singleton] at hx
  subst hx
  exact wordOk hB
noncomputable abbrev Sx (B : Nat → Option Obj) (l : List (FuncId × List Nat × FSpec)) : FuncId → Option (List Nat × FSpec) := textS (E0 B) l (fun _ => []) 300 12
noncomputable abbrev Cx (B : Nat → Option Obj) (l : List (FuncId × List Nat × FSpec)) : CallR := specC (E0 B) (Sx B l)
noncomputable abbrev runT (B : Nat → Option Obj) (l : List (FuncId × List Nat × FSpec)) (fn : Func) (vs : List AV) (bs : List Blk) : Option Out := (fnRun (E0 B) (Cx B l) (inlL (E0 B) (Cx B l) 300) fn (bodyC fn) vs bs).sel
theorem cxOk {l : List (FuncId × List Nat × FSpec)} (h : ∀ x ∈ l, FnOk (E0 B) x.1 x.2.2) : CG (E0 B) (Cx B l) := specC_ok (textS_ok h _ _ _)
theorem fnT {l : List (FuncId × List Nat × FSpec)} (h : ∀ x ∈ l, FnOk (E0 B) x.1 x.2.2) {f : FuncId} {fn : Func} (h1 : Tryd.prog.funcs[f]? = some fn) (h2 : fn.body = some (bodyC fn)) (h3 : (fn.name == "runtime.NumGoroutine") = false) {s : FSpec}
    (hspec : ∀ vs bs r, (s vs bs).sel = some r → runT B l fn vs bs = some r) : FnOk (E0 B) f s :=
  fn_ok h1 h2 h3 (cxOk h) (inl_ok (cxOk h) 300 _) hspec
end Go.Proofs.YtbccnahpdmaocaaDoor
