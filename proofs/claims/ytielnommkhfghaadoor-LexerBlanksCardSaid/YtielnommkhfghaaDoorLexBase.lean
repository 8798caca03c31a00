/-
  Lexer: the program's words; the library's functions by the shelf's contracts; Word by contract.
-/
import Derived.Test.YtielnommkhfghaaDoorWordFn
import Derived.Test.YtielnommkhfghaaDoorLay
import Derived.Test.YtielnommkhfghaaDoorCharsPure3
import Derived.Test.YtielnommkhfghaaDoorIntsText
import Derived.Test.YtielnommkhfghaaDoorAmLib2
namespace Go.Proofs.YtielnommkhfghaaDoor
open Go.Am
set_option maxRecDepth 100000

def ngN : Nat := (max 0 (max 4 3)) + 1
noncomputable def E0 (B : Nat → Option Obj) : Env := { P := Tryd.prog, kind := autoKind Tryd.prog, ng := ngN, glob := fun _ => none, base := B }
/-- what is laid in the package-level variables -/
structure Laid (B : Nat → Option Obj) : Prop where
  sp : ∀ w : World, (∀ g, g < ngN → w.heap[g]? = B g) → spTab w
  syn : ∀ w : World, (∀ g, g < ngN → w.heap[g]? = B g) → ∃ tp p, w.var? Tryd.prog "strconv.ErrSyntax" = some #[.iface tp p]
  range : ∀ w : World, (∀ g, g < ngN → w.heap[g]? = B g) → ∃ tp p, w.var? Tryd.prog "strconv.ErrRange" = some #[.iface tp p]
variable {B : Nat → Option Obj}
theorem fnAt_mk {P : Program} {f : FuncId} {fn : Func} (h1 : P.funcs[f]? = some fn) (h2 : fn.body = some (bodyC fn)) (h3 : (fn.name == "runtime.NumGoroutine") = false) : ∃ fn c, FnAt P f fn c :=
  ⟨fn, bodyC fn, h1, h2, by simpa using h3⟩
theorem wordB_is (s : ByteArray) : wordB s = isWord s.data.toList := by
  have h : ((List.range 4).flatMap fun k => Lib.fields (grpS k).data.toList) = wordList := by kernel_rfl
  unfold isWord wordB
  rw [← h, Bool.eq_iff_iff, List.any_eq_true, List.contains_iff_mem, List.mem_flatMap]
  constructor
  · rintro ⟨k, hk, hc⟩; exact ⟨k, hk, List.contains_iff_mem.1 hc⟩
  · rintro ⟨k, hk, hc⟩; exact ⟨k, hk, List.contains_iff_mem.2 hc⟩
theorem wordOk (hB : Laid B) : FnOk (E0 B) 32 sWord :=
  fnOk_plain (fnAt_mk (fn := Tryd.f32) Tryd.func32 (by kernel_rfl) (by kernel_rfl)) fun vs bs out hsel => by
    unfold sWord at hsel
    split at hsel
    · rename_i s
      simp only [T.sel, Option.some.injEq] at hsel
      subst hsel
      refine ⟨by kernel_rfl, rfl, rfl, fun w cargs hg hv => ?_⟩
      simp only [VL, V] at hv
      obtain ⟨_, _, rfl, rfl, rfl⟩ := hv
      refine (callsIn_wide (n := 4)).1 ((word_in Fence.wide 4 trivial trivial trivial rfl (Nat.le_refl _) ⟨s.toArray⟩ w (hB.sp w hg.base)).mono ?_)
      rintro e w' ⟨rfl, hb⟩
      exact ⟨_, rfl, by rw [wordB_is]; simp [oneOrTup, V], hb⟩
    · simp [T.sel] at hsel
def digits : List UInt8 := [48, 49, 50, 51, 52, 53, 54, 55, 56, 57]
theorem trimOk : FnOk (E0 B) 41 (sTrim digits) :=
  trim_ok (fnAt_mk (fn := Tryd.f41) Tryd.func41 (by kernel_rfl) (by kernel_rfl)) fun s w hs =>
    Any.strings_Trim_laid Tryd.lays160 (by kernel_rfl) s ⟨digits.toArray⟩ w (Nat.le_trans hs (by decide)) (by decide) (ascii_of_all (by decide))
theorem parseOk (hB : Laid B) : FnOk (E0 B) 42 (sParse 106) :=
  parse_ok (t5 := 5) (fnAt_mk (fn := Tryd.f42) Tryd.func42 (by kernel_rfl) (by kernel_rfl))
    { ok := fun s v w hs h => Any.strconv_ParseInt_10_at64_ok Tryd.laysC174 s (Nat.le_trans hs (by decide)) v h w
      syn := fun s w hg hs h1 h2 => by
        obtain ⟨tp, p, hv⟩ := hB.syn w hg.base
        exact (Any.strconv_ParseInt_10_at64_syntax_var Tryd.laysC174 s (Nat.le_trans hs (by decide)) (by
          revert h1 h2
          cases Lib.parseIntB 64 s.data.toList <;> intro h1 h2 <;> first | rfl | exact absurd rfl (h1 _) | exact absurd rfl h2) tp p w hv).mono fun e w' ⟨N, he, _, _, hb⟩ => ⟨_, he, hb⟩
      range := fun s w hg hs h => by
        obtain ⟨tp, p, hv⟩ := hB.range w hg.base
        exact (Any.strconv_ParseInt_10_at64_range_var Tryd.laysC174 s (Nat.le_trans hs (by decide)) h tp p w hv).mono fun e w' ⟨N, he, _, _, hb⟩ => ⟨_, he, hb⟩ }
def sIdx : FSpec
  | [.str s, .int .u8 c], [] => .leaf ⟨[i64 (Lib.indexByte s c.toNat.toUInt8)], []⟩
  | _, _ => .bad
theorem idxOk : FnOk (E0 B) 44 sIdx :=
  fnOk_plain (fnAt_mk (fn := Tryd.f44) Tryd.func44 (by kernel_rfl) (by kernel_rfl)) fun vs bs out hsel => by
    unfold sIdx at hsel
    split at hsel
    · rename_i s c
      simp only [T.sel, Option.some.injEq] at hsel
      subst hsel
      refine ⟨by kernel_rfl, rfl, rfl, fun w cargs hg hv => ?_⟩
      simp only [VL, V] at hv
      obtain ⟨_, _, rfl, rfl, _, _, rfl, rfl, rfl⟩ := hv
      refine (Any.strings_IndexByte Tryd.lays137 ⟨s.toArray⟩ c w).mono ?_
      rintro e w' ⟨rfl, rfl⟩
      exact ⟨_, rfl, by simp [oneOrTup, V, i64], Go.RowKit.Below.refl _ _⟩
    · simp [T.sel] at hsel
theorem joinExtra : Go.Proofs.Builder.Extra Tryd.prog Tryd.lays156_ren where
  sizeBuilder := by kernel_rfl
  liesBuilder := by kernel_rfl
  t5 := Tryd.underlying5
  a5 := Tryd.isAgg5
  z5 := Tryd.sizeOf5
  v5 := Tryd.zeroValue5
  infoByte := by kernel_rfl
  cellsByte := by kernel_rfl
  sizeByte := by kernel_rfl
  neB5 := by decide
theorem joinOk : FnOk (E0 B) 23 sJoin :=
  join_ok (fnAt_mk (fn := Tryd.f23) Tryd.func23 (by kernel_rfl) (by kernel_rfl))
    (fun a c sep w => Any.strings_Join_none Tryd.lays156 joinExtra a c sep w)
    (fun b o c xs sep w h1 h2 h3 h4 h5 => Any.strings_Join Tryd.lays156 joinExtra b o c xs sep w h1 h2 h3 h4 h5)
abbrev Tb := List (FuncId × List Nat × FSpec)
def TbOk (B : Nat → Option Obj) (l : Tb) : Prop := ∀ x ∈ l, FnOk (E0 B) x.1 x.2.2
theorem TbOk.nil : TbOk B [] := fun _ h => by cases h
theorem TbOk.cons {f : FuncId} {tk : List Nat} {s : FSpec} {l : Tb} (h : FnOk (E0 B) f s) (hl : TbOk B l) : TbOk B ((f, tk, s) :: l) := fun x hx => by
  rcases List.mem_cons.1 hx with rfl | hx
  · exact h
  · exact hl x hx
theorem TbOk.add {f : FuncId} {tk : List Nat} {s : FSpec} {l : Tb} (hl : TbOk B l) (h : FnOk (E0 B) f s) : TbOk B ((f, tk, s) :: l) := TbOk.cons h hl
noncomputable def lib0 : Tb := (32, [], sWord) :: (41, [], sTrim digits) :: (42, [], sParse 106) :: (44, [], sIdx) :: (23, [], sJoin) :: []
theorem lib0_ok (hB : Laid B) : TbOk B lib0 := (TbOk.nil.add joinOk |>.add idxOk |>.add (parseOk hB) |>.add trimOk |>.add (wordOk hB))
noncomputable abbrev Sx (B : Nat → Option Obj) (l : List (FuncId × List Nat × FSpec)) : FuncId → Option (List Nat × FSpec) := textS (E0 B) l (fun _ => []) 450 12
noncomputable abbrev Cx (B : Nat → Option Obj) (l : List (FuncId × List Nat × FSpec)) : CallR := specC (E0 B) (Sx B l)
noncomputable abbrev runT (B : Nat → Option Obj) (l : List (FuncId × List Nat × FSpec)) (fn : Func) (vs : List AV) (bs : List Blk) : Option Out := (fnRun (E0 B) (Cx B l) (inlL (E0 B) (Cx B l) 450) fn (bodyC fn) vs bs).sel
theorem cxOk {l : List (FuncId × List Nat × FSpec)} (h : TbOk B l) : CG (E0 B) (Cx B l) := specC_ok (textS_ok h _ _ _)
theorem fnT {l : List (FuncId × List Nat × FSpec)} (h : TbOk B l) {f : FuncId} {fn : Func} (h1 : Tryd.prog.funcs[f]? = some fn) (h2 : fn.body = some (bodyC fn)) (h3 : (fn.name == "runtime.NumGoroutine") = false) {s : FSpec}
    (hspec : ∀ vs bs r, (s vs bs).sel = some r → runT B l fn vs bs = some r) : FnOk (E0 B) f s :=
  fn_ok h1 h2 h3 (cxOk h) (inl_ok (cxOk h) 450 _) hspec
noncomputable abbrev C0 (B : Nat → Option Obj) : CallR := specC (E0 B) (tab [])
theorem c0Ok : CG (E0 B) (C0 B) := specC_ok fun _ _ => tab_nil
/-- a function by its text, loops by contract -/
noncomputable abbrev runL (B : Nat → Option Obj) (l : Tb) (ls : List LEnt) (fn : Func) (vs : List AV) (bs : List Blk) : Option Out := (fnRun (E0 B) (Cx B l) (loopL (E0 B) noL ls) fn (bodyC fn) vs bs).sel
theorem fnL {l : Tb} (h : TbOk B l) {ls : List LEnt} {f : FuncId} {fn : Func} (h1 : Tryd.prog.funcs[f]? = some fn) (h2 : fn.body = some (bodyC fn)) (h3 : (fn.name == "runtime.NumGoroutine") = false)
    (hl : ∀ x ∈ ls, ∃ b, EntFits (E0 B) (bodyC fn) x b) {s : FSpec} (hspec : ∀ vs bs r, (s vs bs).sel = some r → runL B l ls fn vs bs = some r) : FnOk (E0 B) f s :=
  fn_ok h1 h2 h3 (cxOk h) (loopL_fits hl noL_ok) hspec
end Go.Proofs.YtielnommkhfghaaDoor
