/-
  ExprsBinds: what the law answers.
-/
import Derived.Test.YthfieonkfailkaaGreatDoorPrsWeak
import Derived.Test.YthfieonkfailkaaGreatDoorExBinds
namespace Go.Proofs.YthfieonkfailkaaGreatDoor
open Go.Am Go
set_option maxRecDepth 100000
variable {B : Nat → Option Obj}
def strN (k : Int) : Int := bif decide (k = 7) then 6 else bif decide (k = 8) then 5 else bif decide (k = 9) then 5 else bif decide (k = 10) then 4 else bif decide (k = 11) then 4 else bif decide (k = 18) then 2 else bif decide (k = 19) then 1 else 3
def rI1 (n : Int) : Option Out := some ⟨[i64 n], []⟩
def strO' (k : Int) : Option Out := bif decide (k = 7) then rI1 6 else bif decide (k = 8) then rI1 5 else bif decide (k = 9) then rI1 5 else bif decide (k = 10) then rI1 4 else bif decide (k = 11) then rI1 4 else bif decide (k = 18) then rI1 2 else bif decide (k = 19) then rI1 1 else rI1 3
theorem tStr (k : Int) : runT B libW Tryz.f26 [.int .u8 k] [] = strO' k := by kernel_rfl
theorem strO_is (k : Int) : strO' k = rI1 (strN k) := by
  unfold strO' strN
  cases decide (k = 7) <;> cases decide (k = 8) <;> cases decide (k = 9) <;> cases decide (k = 10) <;> cases decide (k = 11) <;> cases decide (k = 18) <;> cases decide (k = 19) <;> rfl
def sStren : FSpec
  | [.int .u8 k], [] => .leaf ⟨[.int .i64 (strN k)], []⟩
  | _, _ => .bad
theorem okStren (hB : Laid B) : FnOk (E0 B) 26 sStren := by
  refine fnT (libW_ok hB) Tryz.func26 (by kernel_rfl) (by kernel_rfl) fun vs bs r h => ?_
  unfold sStren at h
  split at h
  · simp only [T.sel, Option.some.injEq] at h; subst h; exact (tStr _).trans (strO_is _)
  · simp [T.sel] at h
noncomputable def libI : Tb := (26, [], sStren) :: libW
theorem libI_ok (hB : Laid B) : TbOk B libI := (libW_ok hB).add (okStren hB)
def nodG (k : Int) (L M : List Nod) (K : List Nod → Option Out) : Option Out := bif decide (7 ≤ k ∧ k ≤ 19 ∧ (0 : Int) ≤ 0 ∧ (0 : Int) ≤ 400) && (decide (chkN L = 0) && (decide (chkN M = 0) && decide (chkN (biL k 0 L M) = 0))) then K (biL k 0 L M) else none
def smG (X Y : List Nod) (K : Option Out) : Option Out := bif decide (smE X Y = 0) then (bif smB X Y then K else rb false) else none
def txG (X : List Nod) (K : Option Out) : Option Out := bif rngX X && decide (chkN X = 0) then K else none
def opI (k : Int) : List UInt8 := sgnL.getD (u8 (k - 7)).toNat []
def bdS (a b c : List UInt8) (f s : Int) (K : List UInt8 → Option Out) : Option Out := catO [40] a fun u => catO u [41, 32] fun u => inb' (u8 (f - 7)) sgnL.length (catO u (opI f) fun u => catO u [32, 40] fun u => catO u b fun u => catO u [41, 32] fun u =>
  inb' (u8 (s - 7)) sgnL.length (catO u (opI s) fun u => catO u [32, 40] fun u => catO u c fun u => catO u [41] K))
def bdC (X Y : List Nod) (f s : Int) (L : List Tok) : Option Out := nodG f X Y fun Z => smG (zX L 0) Z (bif decide (zN L 0 < (L.length : Int)) then inb' (zN L 0) L.length (inb' (u8 (s - 7)) sgnL.length (bif decide ((L.getD (zN L 0).toNat default).text = opI s) then rb true else rb false)) else rb false)
def bdO (X Y Z : List Nod) (f s : Int) (L : List Tok) : Option Out := bif decide (strN s ≤ strN f) then (nodG f X Y fun Z1 => nodG s Z1 Z fun W => smG (zX L 0) W (bif decide (zN L 0 = (L.length : Int)) then rb true else rb false)) else
  (nodG s Y Z fun Z1 => nodG f X Z1 fun W => smG (zX L 0) W (bif decide (zN L 0 = (L.length : Int)) then rb true else rb false))
def bdL (X Y Z : List Nod) (f s : Int) (L : List Tok) : Option Out := bif decide (strN f = 3) then (bif decide (strN s = 3) then bdC X Y f s L else bdO X Y Z f s L) else bdO X Y Z f s L
def bdT (X Y Z : List Nod) (f s : Int) (S : List UInt8) : Option Out := bif decide (400 < (S.length : Int)) then rb true else bif decide (lexE S = 0) then (bif shortT (lexL S) && decide (zE (lexL S) 0 = 0) then bdL X Y Z f s (lexL S) else none) else none
def bdG (b : Bool) (K : Option Out) : Option Out := bif b then rb true else K
theorem tBinds (X Y Z : List Nod) (f s : Int) : runT B libI Tryz.f7 [.slw 0, .slw 1, .slw 2, .int .u8 f, .int .u8 s] [ndb X, ndb Y, ndb Z] =
    bdG (decide (8 < (X.length : Int))) (bdG (decide (8 < (Y.length : Int))) (bdG (decide (8 < (Z.length : Int))) (bdG (!decide (chkN X = 0)) (bdG (!decide (chkN Y = 0)) (bdG (!decide (chkN Z = 0)) (bdG (decide (f < 7)) (bdG (decide (19 < f)) (bdG (decide (s < 7)) (bdG (decide (19 < s))
      (txG X (txG Y (txG Z (bdS (txS X) (txS Y) (txS Z) f s (bdT X Y Z f s)))))))))))))) := by kernel_rfl
end Go.Proofs.YthfieonkfailkaaGreatDoor
