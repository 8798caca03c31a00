/-
  Texts put together: ParVal, ParVal2.
-/
import Derived.Test.YtgpoaohglpecgaaGreatDoorAlkA
import Derived.Test.YtgpoaohglpecgaaGreatDoorLitA
import Derived.Test.YtgpoaohglpecgaaGreatDoorChtA
namespace Go.Proofs.YtgpoaohglpecgaaGreatDoor.Vl
open Go.Am Go Go.Proofs.YtgpoaohglpecgaaGreatDoor Go.Proofs.YtgpoaohglpecgaaGreatDoor.Pr
set_option maxRecDepth 100000
variable {B : Nat → Option Obj}
noncomputable def lib1 : Tb := (15, [], sTrueF) :: (19, [], sAlk) :: (18, [], sPar) :: (16, [], Lx.sAll) :: Ck.lib15
noncomputable def bA : Code := loopAt 10 (loopsOf (bodyC Tryz.f4))
def sgA : LSig := { cs := [(4, 0), (6, 23)], mv := [(9, 0), (10, 0)], mo := [(9, 0)], take := [] }
def hasP (n : Int) (L : List Tok) : Bool := L.any fun t => decide (t.pos = n)
def spA : LSpec
  | [.int .i64 n, .slw 0, .bool b, .int .i64 i], [⟨false, .toks L⟩] => .node (decide (i = 0 ∧ L.length ≤ 1000) && (b || hasP n L)) (.leaf (.exit 0, ⟨[.bool true], []⟩)) .bad
  | _, _ => .bad
noncomputable def eA : LEnt := { id := 10, n := 163, sg := sgA, wr := writes bA, s := spA }
noncomputable def bO : Code := loopAt 18 (loopsOf (bodyC Tryz.f4))
noncomputable def bI : Code := loopAt 22 (loopsOf bO)
def sgI : LSig := { cs := [(6, 23), (11, 29), (12, 0)], mv := [(13, 0), (14, 0)], mo := [(13, 0)], take := [] }
def ndA (A : List Nod) (j : Int) : Nod := A.getD j.toNat default
def spI : LSpec
  | [.slw 0, .slw 1, .int .i64 j, .bool false, .int .i64 i], [⟨false, .toks L⟩, ⟨false, .nodes A⟩] => .node (decide (i = 0 ∧ L.length ≤ 1000 ∧ 0 ≤ j ∧ j < (A.length : Int)) && hasP (ndA A j).pos L) (.leaf (.exit 4, ⟨[.bool true], []⟩)) .bad
  | _, _ => .bad
noncomputable def eI : LEnt := { id := 22, n := 163, sg := sgI, wr := writes bI, s := spI }
def sgO : LSig := { cs := [(6, 23), (11, 29)], mv := [(12, 0)], mo := [], take := [] }
def allP (L : List Tok) (A : List Nod) : Bool := A.all fun x => hasP x.pos L
def spO : LSpec
  | [.slw 0, .slw 1, .int .i64 j], [⟨false, .toks L⟩, ⟨false, .nodes A⟩] => .node (decide (j = 0 ∧ L.length ≤ 1000 ∧ A.length ≤ 1000) && allP L A) (.leaf (.exit 2, ⟨[], []⟩)) .bad
  | _, _ => .bad
noncomputable def eO : LEnt := { id := 18, n := 163, sg := sgO, wr := writes bO, s := spO }
end Go.Proofs.YtgpoaohglpecgaaGreatDoor.Vl
namespace Go.Proofs.YtgpoaohglpecgaaGreatDoor.Vl
open Go.Am Go Go.Proofs.YtgpoaohglpecgaaGreatDoor Go.Proofs.YtgpoaohglpecgaaGreatDoor.Pr
set_option maxRecDepth 100000
variable {B : Nat → Option Obj}
def ct (L : List Tok) : Int := (tkA L (w64 ((L.length : Int) - 1))).pos
def upT (s : List UInt8) : List UInt8 := (s.take (ct (lexL s)).toNat).drop 0
def okAl (s : List UInt8) : Option Out := bif !decide (prE (upT s) = 0) then rb true else rS (shQ (prQ (upT s))) (bif !alkB (prQ (upT s)) (prQ s) then rb true else rb false)
def vlO (s : List UInt8) : Option Out :=
  bif decide ((400 : Int) < (s.length : Int)) then rb true else bif !decide (lexE s = 0) then fbQ (decide (prE s = lexE s)) (fbQ (decide (prN s = lexN s)) (rb true)) else
    bif !decide (prE s = 0) then rS (decide ((0 : Int) = 0 ∧ (lexL s).length ≤ 1000) && (decide (prN s = (s.length : Int)) || hasP (prN s) (lexL s))) (fbQ (decide (((prQ s).src.length : Int) = 0)) (rb true)) else
    bif !decide (prN s = (s.length : Int)) then rb false else bif !decide (clkE (prQ s) = 0) then rb false else bif decide (((lexL s).length : Int) = 0) then rb false else
      rS (decide (([] : List Nod).length + (prQ s).arg.length ≤ lim)) (rS (decide (([] ++ (prQ s).arg).length + (prQ s).whr.length ≤ lim)) (rS (decide ((0 : Int) = 0 ∧ (lexL s).length ≤ 1000 ∧ ([] ++ (prQ s).arg ++ (prQ s).whr).length ≤ 1000) && allP (lexL s) ([] ++ (prQ s).arg ++ (prQ s).whr))
        (Ck.inb (w64 (((lexL s).length : Int) - 1)) (lexL s).length (bif decide (ct (lexL s) < 0) then rb false else bif decide ((s.length : Int) < ct (lexL s)) then rb false else rS (decide ((0 : Int) ≤ 0 ∧ 0 ≤ ct (lexL s) ∧ ct (lexL s) ≤ (s.length : Int))) (okAl s)))))
theorem tValid (s : List UInt8) : runL B lib1 [eA, eO] Tryz.f4 [.str s] [] = vlO s := by kernel_rfl
theorem qv_len {L : List Tok} {q : Qry} (h : QV L q) : q.arg.length ≤ 60 ∧ q.src.length ≤ 4 ∧ q.whr.length ≤ 60 := by
  obtain ⟨c1, c2, c3, c4, c5, c6⟩ := clk_inv h.ok
  obtain ⟨s1, s2, _⟩ := srcE_inv c5
  refine ⟨?_, s1, ?_⟩
  · by_cases h1 : q.agg = 1
    · rw [c2 h1]; simp
    · exact (chk_len (c3 h1)).2
  · by_cases h1 : 0 < q.whr.length
    · exact (chk_len (c4 h1)).2
    · omega
theorem sh_any (s : List UInt8) : shQ (prQ s) = true := by
  rcases Tx.par_cases s with ⟨_, h, _⟩ | ⟨_, _, he, hd, h⟩
  · rw [h]; rfl
  · have hv := qv_len (invQ (lex_tk he).1 hd)
    rw [← h] at hv
    exact decide_eq_true ⟨by omega, by omega, by omega⟩
end Go.Proofs.YtgpoaohglpecgaaGreatDoor.Vl
