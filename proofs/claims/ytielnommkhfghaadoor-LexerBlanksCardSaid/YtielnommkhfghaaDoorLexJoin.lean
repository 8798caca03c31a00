/-
  Lexer: Join, Valid, the reference's Join, Same, Alike, Great: their turns.
-/
import Derived.Test.YtielnommkhfghaaDoorLexRef
import Derived.Test.YtielnommkhfghaaDoorLexPure3
namespace Go.Proofs.YtielnommkhfghaaDoor
open Go.Am
set_option maxRecDepth 100000
variable {B : Nat → Option Obj}
/-! Join -/
noncomputable def bJn : Code := loopAt 5 (loopsOf (bodyC Tryd.f12))
def sgJn : LSig := { cs := [(11, 28), (12, 0)], mv := [(13, 0), (4, 46)], mo := [(2, 0), (3, 0), (4, 46)], take := [1] }
def stb (l : List (List UInt8)) : Blk := ⟨true, .strs l⟩
def tkc (l : List Tok) : Blk := ⟨false, .toks l⟩
theorem turnJn (L : List Tok) (n i : Int) (X : List (List UInt8)) : (turn (E0 B) (Cx B lib11) noL 32 sgJn bJn [.slw 0, i64 n, i64 i, .slw 1] [tkc L, stb X]).sel =
    bif decide (i < n) then atT i L (bif decide ((gT L i).text.length ≤ lim) then (bif !decide (tokE (gT L i).kind (gT L i).text = 0) then some (.ret, ⟨[.str [], i64 8, .slw 0], [stb X]⟩) else
      bif decide (X.length + 1 ≤ lim) then some (.normal, ⟨[.slw 0, i64 n, i64 (wr (i + 1)), .slw 1], [tkc L, stb (X ++ [(gT L i).text])]⟩) else none) else none) else some (.exit 0, ⟨[.any, .any, .slw 0], [stb X]⟩) := by kernel_rfl
/-! Valid -/
theorem tValid (k a : Int) (t : List UInt8) : runT B lib11 Tryd.f19 [.agg [.int .u8 k, .str t, .int .i64 a]] [] =
    bif decide (k = 1) then (bif decide (t.length ≤ lim) then rb (decide (rdE t = 0)) else none) else bif decide (k = 2) then rb (isWord t) else
      bif decide (k = 3) then (bif decide ((0 : Int) < (t.length : Int)) then (bif decide (0 ≤ (0 : Int) ∧ (0 : Int) ≤ (t.length : Int) ∧ (t.length : Int) ≤ 900) then rb (decide (sym0 t = (t.length : Int))) else none) else rb false) else rb false := by kernel_rfl
def sValid : FSpec
  | [.agg [.int .u8 k, .str t, .int .i64 _]], [] => .node (decide (t.length ≤ 900)) (.leaf ⟨[.bool (decide (tokE k t = 0))], []⟩) .bad
  | _, _ => .bad
theorem okValid (hB : Laid B) : FnOk (E0 B) 19 sValid := by
  refine fnT (lib11_ok hB) Tryd.func19 (by kernel_rfl) (by kernel_rfl) fun vs bs r h => ?_
  unfold sValid at h
  split at h
  · rename_i k t a
    rcases T.node_sel h with ⟨hc, h2⟩ | ⟨_, h2⟩
    · simp only [T.sel, Option.some.injEq] at h2; subst h2
      have hl := of_decide_eq_true hc
      refine (tValid k a t).trans ?_
      rw [decide_eq_true (show t.length ≤ lim from by simp only [lim]; omega), decide_eq_true (show 0 ≤ (0 : Int) ∧ (0 : Int) ≤ (t.length : Int) ∧ (t.length : Int) ≤ 900 from ⟨by omega, by omega, by omega⟩)]
      unfold tokE
      cases decide (k = 1)
      · cases decide (k = 2)
        · cases decide (k = 3)
          · rfl
          · by_cases h5 : sym0 t = (t.length : Int)
            · rw [h5]
              cases decide ((0 : Int) < (t.length : Int)) <;> simp [rb]
            · rw [decide_eq_false h5, Bool.and_false]
              cases decide ((0 : Int) < (t.length : Int)) <;> rfl
        · cases isWord t <;> rfl
      · rfl
    · simp [T.sel] at h2
  · simp [T.sel] at h
noncomputable def lib12 : Tb := (19, [], sValid) :: lib11
theorem lib12_ok (hB : Laid B) : TbOk B lib12 := lib11_ok hB |>.add (okValid hB)
/-! the reference's Join -/
noncomputable def bJa : Code := loopAt 5 (loopsOf (bodyC Tryd.f17))
noncomputable def bJb : Code := loopAt 10 (loopsOf (bodyC Tryd.f17))
def sgJa : LSig := { cs := [(0, 28)], mv := [(5, 0)], mo := [(2, 0), (3, 0)], take := [] }
def sgJb : LSig := { cs := [(0, 28)], mv := [(4, 0), (6, 0)], mo := [(4, 0)], take := [] }
theorem turnJa (L : List Tok) (i : Int) : (turn (E0 B) (Cx B lib12) noL 43 sgJa bJa [.slw 0, i64 i] [tkc L]).sel =
    bif decide (i < (L.length : Int)) then atT i L (bif decide ((gT L i).text.length ≤ 900) then (bif !validB (gT L i) then some (.ret, ⟨[.str [], i64 8], []⟩) else some (.normal, ⟨[.slw 0, i64 (wr (i + 1))], [tkc L]⟩)) else none) else some (.exit 0, ⟨[.any, .any], []⟩) := by kernel_rfl
def nJb (L : List Tok) (s : List UInt8) (i : Int) : Option (AExit × Out) := atT i L (bif decide (s.length + (gT L i).text.length ≤ lim) then some (.normal, ⟨[.slw 0, .str (s ++ (gT L i).text), i64 (wr (i + 1))], [tkc L]⟩) else none)
theorem turnJb (L : List Tok) (s : List UInt8) (i : Int) : (turn (E0 B) (Cx B lib12) noL 43 sgJb bJb [.slw 0, .str s, i64 i] [tkc L]).sel =
    bif decide (i < (L.length : Int)) then (bif decide (0 < i) then (bif decide (s.length + 1 ≤ lim) then nJb L (s ++ [32]) i else none) else nJb L s i) else some (.exit 2, ⟨[.str s], []⟩) := by kernel_rfl
/-! Great -/
noncomputable def bGr : Code := loopAt 2 (loopsOf (bodyC Tryd.f14))
def sgGr : LSig := { cs := [(0, 28)], mv := [(3, 0)], mo := [(2, 0)], take := [] }
theorem turnGr (L : List Tok) (i : Int) : (turn (E0 B) (Cx B lib12) noL 21 sgGr bGr [.slw 0, i64 i] [tkc L]).sel =
    bif decide (i < (L.length : Int)) then (bif decide (220 ≤ i) then some (.ret, ⟨[.bool true], []⟩) else atT i L (bif decide ((500 : Int) < ((gT L i).text.length : Int)) then some (.ret, ⟨[.bool true], []⟩) else some (.normal, ⟨[.slw 0, i64 (wr (i + 1))], [tkc L]⟩))) else some (.exit 0, ⟨[.any], []⟩) := by kernel_rfl
/-! Same, Alike -/
noncomputable def bSa : Code := loopAt 4 (loopsOf (bodyC Tryd.f18))
noncomputable def bLi : Code := loopAt 4 (loopsOf (bodyC Tryd.f20))
def sgSa : LSig := { cs := [(0, 28), (1, 28)], mv := [(5, 0)], mo := [(4, 0)], take := [] }
def nSa (L M : List Tok) (i : Int) (b : Bool) : Option (AExit × Out) := bif b then some (.ret, ⟨[.bool false], []⟩) else some (.normal, ⟨[.slw 0, .slw 1, i64 (wr (i + 1))], [tkc L, tkc M]⟩)
theorem turnSa (L M : List Tok) (i : Int) : (turn (E0 B) (Cx B lib12) noL 26 sgSa bSa [.slw 0, .slw 1, i64 i] [tkc L, tkc M]).sel =
    bif decide (i < (L.length : Int)) then atT i L (atT i M (nSa L M i (!tokEq (gT L i) (gT M i)))) else some (.exit 0, ⟨[.any], []⟩) := by kernel_rfl
theorem turnLi (L M : List Tok) (i : Int) : (turn (E0 B) (Cx B lib12) noL 41 sgSa bLi [.slw 0, .slw 1, i64 i] [tkc L, tkc M]).sel =
    bif decide (i < (L.length : Int)) then atT i L (atT i M (bif !decide ((gT L i).kind = (gT M i).kind) then nSa L M i true else atT i L (atT i M (nSa L M i (!decide ((gT L i).text = (gT M i).text)))))) else some (.exit 0, ⟨[.any], []⟩) := by kernel_rfl
end Go.Proofs.YtielnommkhfghaaDoor
