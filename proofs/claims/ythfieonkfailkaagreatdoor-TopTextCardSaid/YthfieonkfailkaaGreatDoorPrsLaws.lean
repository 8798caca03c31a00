/-
  Exprs: the table of the laws; ExprsNames.
-/
import Derived.Test.YthfieonkfailkaaGreatDoorPrsD
namespace Go.Proofs.YthfieonkfailkaaGreatDoor
open Go.Am
set_option maxRecDepth 100000
variable {B : Nat → Option Obj}
noncomputable def libX : Tb := (14, [], sParse) :: (15, [], sTextE) :: (13, [], Lx.sAll) :: (23, [], sSameN) :: lib8
theorem libX_ok (hB : Laid B) : TbOk B libX := (((lib8_ok.add okSameN).add (Lx.okAll hB)).add (okTextE hB)).add (okParse hB)
theorem tAlive5 : runT B libX Tryz.f16 [] [] = rb true := by kernel_rfl
theorem tNames5 : runT B libX Tryz.f3 [] [] = rb true := by kernel_rfl
def sTrue0 (_ : Nat → Option Obj) : FSpec
  | [], [] => .leaf ⟨[.bool true], []⟩
  | _, _ => .bad
theorem okNames5 (hB : Laid B) : FnOk (E0 B) 3 (sTrue0 B) := by
  refine fnT (libX_ok hB) Tryz.func3 (by kernel_rfl) (by kernel_rfl) fun vs bs r h => ?_
  unfold sTrue0 at h
  split at h
  · simp only [T.sel, Option.some.injEq] at h; subst h; exact tNames5
  · simp [T.sel] at h
end Go.Proofs.YthfieonkfailkaaGreatDoor
