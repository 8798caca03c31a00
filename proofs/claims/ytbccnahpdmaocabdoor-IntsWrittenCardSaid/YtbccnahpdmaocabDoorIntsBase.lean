/-
  Ints: the program's words; the library's functions by the shelf's contracts.
-/
import Derived.Test.YtbccnahpdmaocabDoorProg
import Derived.Test.YtbccnahpdmaocabDoorLay
import Derived.Test.YtbccnahpdmaocabDoorAmLib
namespace Go.Proofs.YtbccnahpdmaocabDoor
open Go.Am
set_option maxRecDepth 100000

def ngN : Nat := (max (max 2 1) 0) + 1
noncomputable def E0 (B : Nat → Option Obj) : Env := { P := Tryd.prog, kind := autoKind Tryd.prog, ng := ngN, glob := fun _ => none, base := B }
/-- what is laid in the package-level variables -/
structure Laid (B : Nat → Option Obj) : Prop where
  pow : ∀ w : World, (∀ g, g < ngN → w.heap[g]? = B g) → Lib.TabIs Tryd.prog w "internal/strconv.uint64pow10" .u64 Lib.pow10Tab
  syn : ∀ w : World, (∀ g, g < ngN → w.heap[g]? = B g) → ∃ tp p, w.var? Tryd.prog "strconv.ErrSyntax" = some #[.iface tp p]
  range : ∀ w : World, (∀ g, g < ngN → w.heap[g]? = B g) → ∃ tp p, w.var? Tryd.prog "strconv.ErrRange" = some #[.iface tp p]
variable {B : Nat → Option Obj}

theorem fnAt_mk {P : Program} {f : FuncId} {fn : Func} (h1 : P.funcs[f]? = some fn) (h2 : fn.body = some (bodyC fn)) (h3 : (fn.name == "runtime.NumGoroutine") = false) : ∃ fn c, FnAt P f fn c :=
  ⟨fn, bodyC fn, h1, h2, by simpa using h3⟩

def digits : List UInt8 := [48, 49, 50, 51, 52, 53, 54, 55, 56, 57]
theorem trimOk : FnOk (E0 B) 9 (sTrim digits) :=
  trim_ok (fnAt_mk (fn := Tryd.f9) Tryd.func9 (by kernel_rfl) (by kernel_rfl)) fun s w hs =>
    Any.strings_Trim_laid Tryd.lays160 (by kernel_rfl) s ⟨digits.toArray⟩ w (Nat.le_trans hs (by decide)) (by decide) (ascii_of_all (by decide))
theorem formatOk (hB : Laid B) : FnOk (E0 B) 8 sFormat :=
  format_ok (fnAt_mk (fn := Tryd.f8) Tryd.func8 (by kernel_rfl) (by kernel_rfl)) fun n w hg h0 h1 =>
    Any.strconv_FormatInt_10 Tryd.laysM173 n h0 h1 w (hB.pow w hg.base)
theorem parseOk (hB : Laid B) : FnOk (E0 B) 10 (sParse 61) :=
  parse_ok (t5 := 5) (fnAt_mk (fn := Tryd.f10) Tryd.func10 (by kernel_rfl) (by kernel_rfl))
    { ok := fun s v w hs h => Any.strconv_ParseInt_10_at64_ok Tryd.laysC174 s (Nat.le_trans hs (by decide)) v h w
      syn := fun s w hg hs h1 h2 => by
        obtain ⟨tp, p, hv⟩ := hB.syn w hg.base
        exact (Any.strconv_ParseInt_10_at64_syntax_var Tryd.laysC174 s (Nat.le_trans hs (by decide)) (by
          revert h1 h2
          cases Lib.parseIntB 64 s.data.toList <;> intro h1 h2 <;> first | rfl | exact absurd rfl (h1 _) | exact absurd rfl h2) tp p w hv).mono fun e w' ⟨N, he, _, _, hb⟩ => ⟨_, he, hb⟩
      range := fun s w hg hs h => by
        obtain ⟨tp, p, hv⟩ := hB.range w hg.base
        exact (Any.strconv_ParseInt_10_at64_range_var Tryd.laysC174 s (Nat.le_trans hs (by decide)) h tp p w hv).mono fun e w' ⟨N, he, _, _, hb⟩ => ⟨_, he, hb⟩ }
noncomputable def lib0 : List (FuncId × List Nat × FSpec) := [(9, [], sTrim digits), (8, [], sFormat), (10, [], sParse 61)]
theorem lib0_ok (hB : Laid B) : ∀ x ∈ lib0, FnOk (E0 B) x.1 x.2.2 := by
  intro x hx
  simp only [lib0, List.mem_cons, List.mem_nil_iff, or_false] at hx
  rcases hx with rfl | rfl | rfl
  · exact trimOk
  · exact formatOk hB
  · exact parseOk hB
end Go.Proofs.YtbccnahpdmaocabDoor
