/-
  The program's words: what is laid in the package-level variables that are read; functions by contract, by text.
-/
import Derived.Test.YtdckpbeioemopabGreatDoorProg
import Derived.Test.YtdckpbeioemopabGreatDoorWordFn
import Derived.Test.YtdckpbeioemopabGreatDoorLibA
import Derived.Test.YtdckpbeioemopabGreatDoorPureA
namespace Go.Proofs.YtdckpbeioemopabGreatDoor
open Go.Am
set_option maxRecDepth 100000
def ngP : Nat := 1
def ngN : Nat := (max ngP (max 0 (max 5 4))) + 1
noncomputable def E0 (B : Nat → Option Obj) : Env := { P := Tryz.prog, kind := autoKind Tryz.prog, ng := ngN, glob := fun _ => none, base := B }
structure Laid (B : Nat → Option Obj) : Prop where
  pow : ∀ w : World, (∀ g, g < ngN → w.heap[g]? = B g) → Lib.TabIs Tryz.prog w "internal/strconv.uint64pow10" .u64 Lib.pow10Tab
  sp : ∀ w : World, (∀ g, g < ngN → w.heap[g]? = B g) → spTab w
  syn : ∀ w : World, (∀ g, g < ngN → w.heap[g]? = B g) → ∃ tp p, w.var? Tryz.prog "strconv.ErrSyntax" = some #[.iface tp p]
  range : ∀ w : World, (∀ g, g < ngN → w.heap[g]? = B g) → ∃ tp p, w.var? Tryz.prog "strconv.ErrRange" = some #[.iface tp p]
variable {B : Nat → Option Obj}
theorem fnAt_mk {P : Program} {f : FuncId} {fn : Func} (h1 : P.funcs[f]? = some fn) (h2 : fn.body = some (bodyC fn)) (h3 : (fn.name == "runtime.NumGoroutine") = false) : ∃ fn c, FnAt P f fn c :=
  ⟨fn, bodyC fn, h1, h2, by simpa using h3⟩
abbrev Tb := List (FuncId × List Nat × FSpec)
def TbOk (B : Nat → Option Obj) (l : Tb) : Prop := ∀ x ∈ l, FnOk (E0 B) x.1 x.2.2
theorem TbOk.nil : TbOk B [] := fun _ h => by cases h
theorem TbOk.add {f : FuncId} {tk : List Nat} {s : FSpec} {l : Tb} (hl : TbOk B l) (h : FnOk (E0 B) f s) : TbOk B ((f, tk, s) :: l) := fun x hx => by
  rcases List.mem_cons.1 hx with rfl | hx
  · exact h
  · exact hl x hx
def tkB : FuncId → List Nat := fun f => bif Nat.beq f 73 then [1] else bif Nat.beq f 144 then [0] else bif Nat.beq f 174 then [2] else []
noncomputable abbrev Sx (B : Nat → Option Obj) (l : Tb) : FuncId → Option (List Nat × FSpec) := textS (E0 B) l tkB 450 12
noncomputable abbrev Cx (B : Nat → Option Obj) (l : Tb) : CallR := specC (E0 B) (Sx B l)
noncomputable abbrev runT (B : Nat → Option Obj) (l : Tb) (fn : Func) (vs : List AV) (bs : List Blk) : Option Out := (fnRun (E0 B) (Cx B l) (inlL (E0 B) (Cx B l) 450) fn (bodyC fn) vs bs).sel
theorem cxOk {l : Tb} (h : TbOk B l) : CG (E0 B) (Cx B l) := specC_ok (textS_ok h _ _ _)
theorem fnT {l : Tb} (h : TbOk B l) {f : FuncId} {fn : Func} (h1 : Tryz.prog.funcs[f]? = some fn) (h2 : fn.body = some (bodyC fn)) (h3 : (fn.name == "runtime.NumGoroutine") = false) {s : FSpec}
    (hspec : ∀ vs bs r, (s vs bs).sel = some r → runT B l fn vs bs = some r) : FnOk (E0 B) f s :=
  fn_ok h1 h2 h3 (cxOk h) (inl_ok (cxOk h) 450 _) hspec
noncomputable abbrev runM (B : Nat → Option Obj) (l : Tb) (ls : List LEnt) (fn : Func) (vs : List AV) (bs : List Blk) : Option Out := (fnRun (E0 B) (Cx B l) (loopL (E0 B) (inlL (E0 B) (Cx B l) 450) ls) fn (bodyC fn) vs bs).sel
theorem fnM {l : Tb} (h : TbOk B l) {ls : List LEnt} {f : FuncId} {fn : Func} (h1 : Tryz.prog.funcs[f]? = some fn) (h2 : fn.body = some (bodyC fn)) (h3 : (fn.name == "runtime.NumGoroutine") = false)
    (hl : ∀ x ∈ ls, ∃ b, EntFits (E0 B) (bodyC fn) x b) {s : FSpec} (hspec : ∀ vs bs r, (s vs bs).sel = some r → runM B l ls fn vs bs = some r) : FnOk (E0 B) f s :=
  fn_ok h1 h2 h3 (cxOk h) (loopL_fits hl fun c => inl_ok (cxOk h) 450 c) hspec
noncomputable abbrev runL (B : Nat → Option Obj) (l : Tb) (ls : List LEnt) (fn : Func) (vs : List AV) (bs : List Blk) : Option Out := (fnRun (E0 B) (Cx B l) (loopL (E0 B) noL ls) fn (bodyC fn) vs bs).sel
theorem fnL {l : Tb} (h : TbOk B l) {ls : List LEnt} {f : FuncId} {fn : Func} (h1 : Tryz.prog.funcs[f]? = some fn) (h2 : fn.body = some (bodyC fn)) (h3 : (fn.name == "runtime.NumGoroutine") = false)
    (hl : ∀ x ∈ ls, ∃ b, EntFits (E0 B) (bodyC fn) x b) {s : FSpec} (hspec : ∀ vs bs r, (s vs bs).sel = some r → runL B l ls fn vs bs = some r) : FnOk (E0 B) f s :=
  fn_ok h1 h2 h3 (cxOk h) (loopL_fits hl noL_ok) hspec
noncomputable abbrev C0 (B : Nat → Option Obj) : CallR := specC (E0 B) (tab [])
theorem c0Ok : CG (E0 B) (C0 B) := specC_ok fun _ _ => tab_nil
end Go.Proofs.YtdckpbeioemopabGreatDoor
