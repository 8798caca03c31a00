/-
  Chars: Kind, IndexByte, Word by contract.
-/
import Derived.Test.YtbccnahpdmaocaaDoorCharsBase
import Derived.Test.YtbccnahpdmaocaaDoorLayC
namespace Go.Proofs.YtbccnahpdmaocaaDoor
open Go.Am
set_option maxRecDepth 100000
variable {B : Nat → Option Obj}
def sIdx : FSpec
  | [.str s, .int .u8 c], [] => .leaf ⟨[i64 (Lib.indexByte s c.toNat.toUInt8)], []⟩
  | _, _ => .bad
theorem idxOk : FnOk (E0 B) 33 sIdx :=
  fnOk_plain (fnAt_mk (fn := Tryd.f33) Tryd.func33 (by kernel_rfl) (by kernel_rfl)) fun vs bs out hsel => by
    unfold sIdx at hsel
    split at hsel
    · rename_i s c
      simp only [T.sel, Option.some.injEq] at hsel
      subst hsel
      refine ⟨by kernel_rfl, rfl, rfl, fun w cargs hg hv => ?_⟩
      simp only [VL, V] at hv
      obtain ⟨_, _, rfl, rfl, _, _, rfl, rfl, rfl⟩ := hv
      refine (Any.strings_IndexByte Tryd.lays137 ⟨s.toArray⟩ c w).mono ?_
      rintro e w' ⟨rfl, rfl⟩
      exact ⟨_, rfl, by simp [oneOrTup, V, i64], Go.RowKit.Below.refl _ _⟩
    · simp [T.sel] at hsel
noncomputable def lib1 : List (FuncId × List Nat × FSpec) := (33, [], sIdx) :: lib0
theorem lib1_ok (hB : Laid B) : ∀ x ∈ lib1, FnOk (E0 B) x.1 x.2.2 := by
  intro x hx
  rcases List.mem_cons.1 hx with rfl | hx
  · exact idxOk
  · exact lib0_ok hB x hx
/-! Kind: both are asked at each byte -/
def sKind : FSpec
  | [.int .u8 c], [] => .leaf ⟨[.int .u8 (kindN c)], []⟩
  | _, _ => .bad
theorem tKind (c : Int) : runT B [] Tryd.f21 [.int .u8 c] [] =
    bif decide (c = 32) then u8o 1 else bif decide (c = 10) then u8o 1 else btw c 48 57 (u8o 2) (btw c 97 122 (u8o 3) (btw4 c 40 43 (btw4 c 60 62 (bif decide (c = 45) then tw (decide (c = 45)) else tw (decide (c = 33)))))) := by kernel_rfl
theorem tKind' (c : Int) : runT B [] Tryd.f22 [.int .u8 c] [] =
    inB c (u8o 1) (inB c (u8o 2) (inB c (u8o 3) (inB c (u8o 4) (u8o 0) [40, 41, 42, 43, 45, 60, 61, 62, 33]) [97, 98, 99, 100, 101, 102, 103, 104, 105, 106, 107, 108, 109, 110, 111, 112, 113, 114, 115, 116, 117, 118, 119, 120, 121, 122]) [48, 49, 50, 51, 52, 53, 54, 55, 56, 57]) [32, 10] := by kernel_rfl
theorem kind_eq (c : Int) : runT B [] Tryd.f21 [.int .u8 c] [] = u8o (kindN c) := by
  rw [tKind]; unfold kindN btw btw4 tw
  cases decide (c = 32) <;> cases decide (c = 10) <;> cases decide (48 ≤ c) <;> cases decide (c ≤ 57) <;> cases decide (97 ≤ c) <;> cases decide (c ≤ 122) <;> first | rfl | (
    cases decide (40 ≤ c) <;> cases decide (c ≤ 43) <;> cases decide (60 ≤ c) <;> cases decide (c ≤ 62) <;> cases decide (c = 45) <;> cases decide (c = 33) <;> rfl)
theorem kind_eq' (c : Int) : runT B [] Tryd.f22 [.int .u8 c] [] = u8o (kindN c) := by
  rw [tKind']
  exact kind_in c
theorem okKind : FnOk (E0 B) 21 sKind := by
  refine fnT (l := []) (fun _ h => by cases h) Tryd.func21 (by kernel_rfl) (by kernel_rfl) fun vs bs r h => ?_
  unfold sKind at h
  split at h
  · simp only [T.sel, Option.some.injEq] at h; subst h
    exact kind_eq _
  · simp [T.sel] at h
theorem okKind' : FnOk (E0 B) 22 sKind := by
  refine fnT (l := []) (fun _ h => by cases h) Tryd.func22 (by kernel_rfl) (by kernel_rfl) fun vs bs r h => ?_
  unfold sKind at h
  split at h
  · simp only [T.sel, Option.some.injEq] at h; subst h
    exact kind_eq' _
  · simp [T.sel] at h
noncomputable def lib2 : List (FuncId × List Nat × FSpec) := (21, [], sKind) :: (22, [], sKind) :: lib1
theorem lib2_ok (hB : Laid B) : ∀ x ∈ lib2, FnOk (E0 B) x.1 x.2.2 := by
  intro x hx
  rcases List.mem_cons.1 hx with rfl | hx
  · exact okKind
  rcases List.mem_cons.1 hx with rfl | hx
  · exact okKind'
  · exact lib1_ok hB x hx
theorem tAlive : runT B lib2 Tryd.f19 [] [] = rb true := by kernel_rfl
end Go.Proofs.YtbccnahpdmaocaaDoor
