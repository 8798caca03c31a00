/-
  Printer: a strings.Builder's functions by the shelf's contracts; WriteByte, WriteString by contract.
-/
import Derived.Test.YthfieonkfailkaaGreatDoorPrsLaws
import Derived.Test.YthfieonkfailkaaGreatDoorLayB
import Derived.Test.YthfieonkfailkaaGreatDoorAmBuild2
import Derived.Test.YthfieonkfailkaaGreatDoorAmDefer
namespace Go.Proofs.YthfieonkfailkaaGreatDoor
open Go.Am Go.Shelf
set_option maxRecDepth 100000
variable {B : Nat → Option Obj}
/-! a builder -/
def bTys : List TypeId := [118, 119, 121 + markBase]
def lays240_ren : Go.Shelf.Ren := ⟨fun | 240 => 135 | 276 => 158 | n => n, fun | 0 => 0 | 4 => 4 | 9 => 9 | 20 => 20 | 70 => 118 | 72 => 121 | 164 => 207 | 37 => 119 | n => n, fun n => n⟩
theorem lays240 : Lays.n240 Tryz.prog lays240_ren where
  mixed := by kernel_rfl
  f240 := Tryz.func135.trans (congrArg some (by kernel_rfl))
  f276 := Tryz.func158.trans (congrArg some (by kernel_rfl))
  t0 := Tryz.underlying0
  a0 := Tryz.isAgg0
  z0 := Tryz.sizeOf0
  v0 := Tryz.zeroValue0
  t4 := Tryz.underlying4
  a4 := Tryz.isAgg4
  z4 := Tryz.sizeOf4
  v4 := Tryz.zeroValue4
  t9 := Tryz.underlying9
  a9 := Tryz.isAgg9
  z9 := Tryz.sizeOf9
  v9 := Tryz.zeroValue9
  t20 := Tryz.underlying20
  a20 := Tryz.isAgg20
  z20 := Tryz.sizeOf20
  v20 := Tryz.zeroValue20
  t70 := Tryz.underlying118
  a70 := Tryz.isAgg118
  z70 := Tryz.sizeOf118
  v70 := Tryz.zeroValue118
  t72 := Tryz.underlying121
  a72 := Tryz.isAgg121
  z72 := Tryz.sizeOf121
  v72 := Tryz.zeroValue121
  t164 := Tryz.underlying207
  a164 := Tryz.isAgg207
  z164 := Tryz.sizeOf207
  v164 := Tryz.zeroValue207
theorem bX72 : Go.Proofs.Builder.X72 Tryz.prog lays240_ren where
  sizeBuilder := by kernel_rfl
  liesBuilder := by kernel_rfl
theorem bExtra : Go.Proofs.Builder.Extra Tryz.prog Tryz.lays169_ren where
  sizeBuilder := by kernel_rfl
  liesBuilder := by kernel_rfl
  t5 := Tryz.underlying5
  a5 := Tryz.isAgg5
  z5 := Tryz.sizeOf5
  v5 := Tryz.zeroValue5
  infoByte := by kernel_rfl
  cellsByte := by kernel_rfl
  sizeByte := by kernel_rfl
  neB5 := by decide
theorem copyOk : FnOk (E0 B) 135 (sCopy bTys) :=
  copy_ok (U := 121) (fnAt_mk (fn := Tryz.f135) Tryz.func135 (by kernel_rfl) (by kernel_rfl)) (by kernel_rfl) (by kernel_rfl)
    (fun b w h => Any.Builder_copyCheck_used lays240 bX72 b w h) (fun b w h1 h2 h3 => Any.Builder_copyCheck_fresh lays240 bX72 b w h1 h2 h3)
theorem strOk : FnOk (E0 B) 71 (sBStr bTys 5) :=
  str_ok (U := 121) (fnAt_mk (fn := Tryz.f71) Tryz.func71 (by kernel_rfl) (by kernel_rfl)) (by kernel_rfl) (by kernel_rfl)
    fun b g cap p cur l w h1 h2 h3 h4 h5 h6 h7 => str_walk Tryz.lays169 bExtra b g cap p cur l w h1 h2 h3 h4 h5 h6 h7
/-- the writers take the buffer -/
def tkW : FuncId → List Nat := fun f => bif Nat.beq f 121 then [0] else bif Nat.beq f 104 || Nat.beq f 110 then [1] else []
noncomputable abbrev SxP (B : Nat → Option Obj) (l : Tb) : FuncId → Option (List Nat × FSpec) := textS (E0 B) l tkW 450 12
noncomputable abbrev CxP (B : Nat → Option Obj) (l : Tb) : CallR := specC (E0 B) (SxP B l)
noncomputable abbrev runP (B : Nat → Option Obj) (l : Tb) (fn : Func) (vs : List AV) (bs : List Blk) : Option Out := (fnRun (E0 B) (CxP B l) (inlL (E0 B) (CxP B l) 450) fn (bodyC fn) vs bs).sel
theorem cxPOk {l : Tb} (h : TbOk B l) : CG (E0 B) (CxP B l) := specC_ok (textS_ok h _ _ _)
theorem fnP {l : Tb} (h : TbOk B l) {f : FuncId} {fn : Func} (h1 : Tryz.prog.funcs[f]? = some fn) (h2 : fn.body = some (bodyC fn)) (h3 : (fn.name == "runtime.NumGoroutine") = false) {s : FSpec}
    (hspec : ∀ vs bs r, (s vs bs).sel = some r → runP B l fn vs bs = some r) : FnOk (E0 B) f s :=
  fn_ok h1 h2 h3 (cxPOk h) (inl_ok (cxPOk h) 450 _) hspec
theorem fnPD {l : Tb} (h : TbOk B l) {f : FuncId} {fn : Func} (h1 : Tryz.prog.funcs[f]? = some fn) (h2 : fn.body = some (bodyC fn)) (h3 : (fn.name == "runtime.NumGoroutine") = false) {s : FSpec}
    (hspec : ∀ vs bs r, (s vs bs).sel = some r → runP B l fn vs bs = some r) : FnOkD (E0 B) f s :=
  fnRun_okD ⟨h1, h2, by simpa using h3⟩ (cxPOk h) (inl_ok (cxPOk h) 450 _) hspec
noncomputable def libP0 : Tb := (102, [], sFormat) :: (135, [1], sCopy bTys) :: (71, [1], sBStr bTys 5) :: lib5
theorem libP0_ok (hB : Laid B) : TbOk B libP0 := ((lib5_ok.add strOk).add copyOk).add (formatOk hB)
def bxP (p : AV) (k : Nat) : Blk := ⟨true, .gen bTys [[p, .slw k]]⟩
def bfP (L : List Int) : Blk := ⟨true, .bytes 5 L⟩
def ibs (s : List UInt8) : List Int := s.map fun c => (c.toNat : Int)
end Go.Proofs.YthfieonkfailkaaGreatDoor
