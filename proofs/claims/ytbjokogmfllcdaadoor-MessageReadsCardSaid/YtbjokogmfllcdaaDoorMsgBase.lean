/-
  Message: the program's words; the library's functions by the shelf's contracts.
-/
import Derived.Test.YtbjokogmfllcdaaDoorProg
import Derived.Test.YtbjokogmfllcdaaDoorLay
import Derived.Test.YtbjokogmfllcdaaDoorIntsText
import Derived.Test.YtbjokogmfllcdaaDoorAmBuild2
import Derived.Test.YtbjokogmfllcdaaDoorAmSplit
namespace Go.Proofs.YtbjokogmfllcdaaDoor
open Go.Am
set_option maxRecDepth 100000

def ngN : Nat := (max (max 1 0) (max 3 2)) + 1
noncomputable def E0 (B : Nat → Option Obj) : Env := { P := Tryd.prog, kind := autoKind Tryd.prog, ng := ngN, glob := fun _ => none, base := B }
/-- what is laid in the package-level variables -/
structure LaidF (B : Nat → Option Obj) : Prop where
  pow : ∀ w : World, (∀ g, g < ngN → w.heap[g]? = B g) → Lib.TabIs Tryd.prog w "internal/strconv.uint64pow10" .u64 Lib.pow10Tab
structure Laid (B : Nat → Option Obj) : Prop extends LaidF B where
  len : ∀ w : World, (∀ g, g < ngN → w.heap[g]? = B g) → ∃ m, w.cell? ⟨1, 0, none⟩ = some (.int .i64 m)
  syn : ∀ w : World, (∀ g, g < ngN → w.heap[g]? = B g) → ∃ tp p, w.var? Tryd.prog "strconv.ErrSyntax" = some #[.iface tp p]
  range : ∀ w : World, (∀ g, g < ngN → w.heap[g]? = B g) → ∃ tp p, w.var? Tryd.prog "strconv.ErrRange" = some #[.iface tp p]
variable {B : Nat → Option Obj}
theorem fnAt_mk {P : Program} {f : FuncId} {fn : Func} (h1 : P.funcs[f]? = some fn) (h2 : fn.body = some (bodyC fn)) (h3 : (fn.name == "runtime.NumGoroutine") = false) : ∃ fn c, FnAt P f fn c :=
  ⟨fn, bodyC fn, h1, h2, by simpa using h3⟩
theorem formatOk (hB : LaidF B) : FnOk (E0 B) 26 sFormat :=
  format_ok (fnAt_mk (fn := Tryd.f26) Tryd.func26 (by kernel_rfl) (by kernel_rfl)) fun n w hg h0 h1 =>
    Any.strconv_FormatInt_10 Tryd.laysM173 n h0 h1 w (hB.pow w hg.base)
theorem parseOk (hB : Laid B) : FnOk (E0 B) 43 (sParse 111) :=
  parse_ok (t5 := 5) (fnAt_mk (fn := Tryd.f43) Tryd.func43 (by kernel_rfl) (by kernel_rfl))
    { ok := fun s v w hs h => Any.strconv_ParseInt_10_at64_ok Tryd.laysC174 s (Nat.le_trans hs (by decide)) v h w
      syn := fun s w hg hs h1 h2 => by
        obtain ⟨tp, p, hv⟩ := hB.syn w hg.base
        exact (Any.strconv_ParseInt_10_at64_syntax_var Tryd.laysC174 s (Nat.le_trans hs (by decide)) (by
          revert h1 h2
          cases Lib.parseIntB 64 s.data.toList <;> intro h1 h2 <;> first | rfl | exact absurd rfl (h1 _) | exact absurd rfl h2) tp p w hv).mono fun e w' ⟨N, he, _, _, hb⟩ => ⟨_, he, hb⟩
      range := fun s w hg hs h => by
        obtain ⟨tp, p, hv⟩ := hB.range w hg.base
        exact (Any.strconv_ParseInt_10_at64_range_var Tryd.laysC174 s (Nat.le_trans hs (by decide)) h tp p w hv).mono fun e w' ⟨N, he, _, _, hb⟩ => ⟨_, he, hb⟩ }
theorem splitOk (hB : Laid B) : FnOk (E0 B) 35 sSplit :=
  split_ok (t9 := 9) (fnAt_mk (fn := Tryd.f35) Tryd.func35 (by kernel_rfl) (by kernel_rfl)) fun s w hg hs => by
    obtain ⟨m, hm⟩ := hB.len w hg.base
    exact Any.strings_Split Tryd.lays146 (by kernel_rfl) s ⟨#[32]⟩ m w (Nat.lt_of_le_of_lt hs (by decide)) hm (Nat.le_refl 1)
/-! a builder -/
def bTys : List TypeId := [57, 58, 60 + markBase]
def lays240_ren : Go.Shelf.Ren := ⟨fun | 240 => 38 | 276 => 44 | n => n, fun | 0 => 0 | 4 => 4 | 9 => 9 | 20 => 20 | 70 => 57 | 72 => 60 | 164 => 83 | 37 => 58 | n => n, fun n => n⟩
theorem lays240 : Lays.n240 Tryd.prog lays240_ren where
  mixed := by kernel_rfl
  f240 := Tryd.func38.trans (congrArg some (by kernel_rfl))
  f276 := Tryd.func44.trans (congrArg some (by kernel_rfl))
  t0 := Tryd.underlying0
  a0 := Tryd.isAgg0
  z0 := Tryd.sizeOf0
  v0 := Tryd.zeroValue0
  t4 := Tryd.underlying4
  a4 := Tryd.isAgg4
  z4 := Tryd.sizeOf4
  v4 := Tryd.zeroValue4
  t9 := Tryd.underlying9
  a9 := Tryd.isAgg9
  z9 := Tryd.sizeOf9
  v9 := Tryd.zeroValue9
  t20 := Tryd.underlying20
  a20 := Tryd.isAgg20
  z20 := Tryd.sizeOf20
  v20 := Tryd.zeroValue20
  t70 := Tryd.underlying57
  a70 := Tryd.isAgg57
  z70 := Tryd.sizeOf57
  v70 := Tryd.zeroValue57
  t72 := Tryd.underlying60
  a72 := Tryd.isAgg60
  z72 := Tryd.sizeOf60
  v72 := Tryd.zeroValue60
  t164 := Tryd.underlying83
  a164 := Tryd.isAgg83
  z164 := Tryd.sizeOf83
  v164 := Tryd.zeroValue83
theorem bX72 : Go.Proofs.Builder.X72 Tryd.prog lays240_ren where
  sizeBuilder := by kernel_rfl
  liesBuilder := by kernel_rfl
theorem bExtra : Go.Proofs.Builder.Extra Tryd.prog Tryd.lays169_ren where
  sizeBuilder := by kernel_rfl
  liesBuilder := by kernel_rfl
  t5 := Tryd.underlying5
  a5 := Tryd.isAgg5
  z5 := Tryd.sizeOf5
  v5 := Tryd.zeroValue5
  infoByte := by kernel_rfl
  cellsByte := by kernel_rfl
  sizeByte := by kernel_rfl
  neB5 := by decide
theorem copyOk : FnOk (E0 B) 38 (sCopy bTys) :=
  copy_ok (U := 60) (fnAt_mk (fn := Tryd.f38) Tryd.func38 (by kernel_rfl) (by kernel_rfl)) (by kernel_rfl) (by kernel_rfl)
    (fun b w h => Any.Builder_copyCheck_used lays240 bX72 b w h) (fun b w h1 h2 h3 => Any.Builder_copyCheck_fresh lays240 bX72 b w h1 h2 h3)
theorem strOk : FnOk (E0 B) 27 (sBStr bTys 5) :=
  str_ok (U := 60) (fnAt_mk (fn := Tryd.f27) Tryd.func27 (by kernel_rfl) (by kernel_rfl)) (by kernel_rfl) (by kernel_rfl)
    fun b g cap p cur l w h1 h2 h3 h4 h5 h6 h7 => str_walk Tryd.lays169 bExtra b g cap p cur l w h1 h2 h3 h4 h5 h6 h7
abbrev Tb := List (FuncId × List Nat × FSpec)
def TbOk (B : Nat → Option Obj) (l : Tb) : Prop := ∀ x ∈ l, FnOk (E0 B) x.1 x.2.2
theorem TbOk.nil : TbOk B [] := fun _ h => by cases h
theorem TbOk.add {f : FuncId} {tk : List Nat} {s : FSpec} {l : Tb} (hl : TbOk B l) (h : FnOk (E0 B) f s) : TbOk B ((f, tk, s) :: l) := fun x hx => by
  rcases List.mem_cons.1 hx with rfl | hx
  · exact h
  · exact hl x hx
noncomputable def lib0 : Tb := (26, [], sFormat) :: (38, [1], sCopy bTys) :: (27, [1], sBStr bTys 5) :: []
theorem lib0_ok (hB : LaidF B) : TbOk B lib0 := (TbOk.nil.add strOk |>.add copyOk |>.add (formatOk hB))
/-- what reads -/
noncomputable def libR (l : Tb) : Tb := (43, [], sParse 111) :: (35, [], sSplit) :: l
theorem libR_ok (hB : Laid B) {l : Tb} (h : TbOk B l) : TbOk B (libR l) := h.add (splitOk hB) |>.add (parseOk hB)
/-- the writers take the buffer -/
def tkB : FuncId → List Nat := fun f => bif Nat.beq f 24 || Nat.beq f 25 then [1] else []
noncomputable abbrev Sx (B : Nat → Option Obj) (l : Tb) : FuncId → Option (List Nat × FSpec) := textS (E0 B) l tkB 450 12
noncomputable abbrev Cx (B : Nat → Option Obj) (l : Tb) : CallR := specC (E0 B) (Sx B l)
noncomputable abbrev runT (B : Nat → Option Obj) (l : Tb) (fn : Func) (vs : List AV) (bs : List Blk) : Option Out := (fnRun (E0 B) (Cx B l) (inlL (E0 B) (Cx B l) 450) fn (bodyC fn) vs bs).sel
theorem cxOk {l : Tb} (h : TbOk B l) : CG (E0 B) (Cx B l) := specC_ok (textS_ok h _ _ _)
theorem fnT {l : Tb} (h : TbOk B l) {f : FuncId} {fn : Func} (h1 : Tryd.prog.funcs[f]? = some fn) (h2 : fn.body = some (bodyC fn)) (h3 : (fn.name == "runtime.NumGoroutine") = false) {s : FSpec}
    (hspec : ∀ vs bs r, (s vs bs).sel = some r → runT B l fn vs bs = some r) : FnOk (E0 B) f s :=
  fn_ok h1 h2 h3 (cxOk h) (inl_ok (cxOk h) 450 _) hspec
/-- a function by its text, loops by contract -/
noncomputable abbrev runL (B : Nat → Option Obj) (l : Tb) (ls : List LEnt) (fn : Func) (vs : List AV) (bs : List Blk) : Option Out := (fnRun (E0 B) (Cx B l) (loopL (E0 B) noL ls) fn (bodyC fn) vs bs).sel
theorem fnL {l : Tb} (h : TbOk B l) {ls : List LEnt} {f : FuncId} {fn : Func} (h1 : Tryd.prog.funcs[f]? = some fn) (h2 : fn.body = some (bodyC fn)) (h3 : (fn.name == "runtime.NumGoroutine") = false)
    (hl : ∀ x ∈ ls, ∃ b, EntFits (E0 B) (bodyC fn) x b) {s : FSpec} (hspec : ∀ vs bs r, (s vs bs).sel = some r → runL B l ls fn vs bs = some r) : FnOk (E0 B) f s :=
  fn_ok h1 h2 h3 (cxOk h) (loopL_fits hl noL_ok) hspec
end Go.Proofs.YtbjokogmfllcdaaDoor
