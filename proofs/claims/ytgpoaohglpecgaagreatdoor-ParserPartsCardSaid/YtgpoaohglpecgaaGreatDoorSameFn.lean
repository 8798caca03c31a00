/-
  Clauses: Same by contract; queries compared with all places.
-/
import Derived.Test.YtgpoaohglpecgaaGreatDoorTxA
import Derived.Test.YtgpoaohglpecgaaGreatDoorClsA
namespace Go.Proofs.YtgpoaohglpecgaaGreatDoor.Sm
open Go.Am Go Go.Proofs.YtgpoaohglpecgaaGreatDoor
set_option maxRecDepth 100000
variable {B : Nat → Option Obj}
noncomputable def bEf : Code := loopAt 4 (loopsOf (bodyC Tryz.f72))
def sgEf : LSig := { cs := [(1, 29), (2, 0), (15, 29), (16, 0)], mv := [(17, 0)], mo := [(6, 0)], take := [] }
def efV (n i : Int) : List AV := [.slw 0, .fn 73 [] [], .slw 1, i64 n, i64 i]
def eqNb (x y : Nod) : Bool := decide (x.kind = y.kind) && (decide (x.n = y.n) && (decide (x.a = y.a) && (decide (x.b = y.b) && (decide (y.pos = y.pos) && true))))
theorem turnEf (X Y : List Nod) (n i : Int) : (turn (E0 B) (Cx B lib5) noL 32 sgEf bEf (efV n i) [ndb Y, ndb X]).sel =
    bif decide (i < n) then inb' i X.length (inb' i Y.length (bif !eqNb (X.getD i.toNat default) (Y.getD i.toNat default) then some (.ret, ⟨[.bool false], []⟩) else some (.normal, ⟨efV n (w64 (i + 1)), [ndb Y, ndb X]⟩))) else some (.exit 0, ⟨[.any], []⟩) := by kernel_rfl
def spEf : LSpec
  | [.slw 0, .fn f [] [], .slw 1, .int .i64 n, .int .i64 i], [⟨false, .nodes Y⟩, ⟨false, .nodes X⟩] => .node (Nat.beq f 73 && decide (n = (X.length : Int) ∧ i = 0 ∧ X.length = Y.length ∧ X.length ≤ 100))
      (.node (all2 eqN X Y) (.leaf (.exit 0, ⟨[.any], []⟩)) (.leaf (.ret, ⟨[.bool false], []⟩))) .bad
  | _, _ => .bad
noncomputable def eEf : LEnt := { id := 4, n := 32, sg := sgEf, wr := writes bEf, s := spEf }
theorem tEf (X Y : List Nod) : runL B lib5 [eEf] Tryz.f72 [.slw 0, .slw 1, .fn 73 [] []] [ndb X, ndb Y] =
    bif !decide ((X.length : Int) = (Y.length : Int)) then rb false else bif decide ((X.length : Int) = (X.length : Int) ∧ (0 : Int) = 0 ∧ X.length = Y.length ∧ X.length ≤ 100) then (bif all2 eqN X Y then rb true else rb false) else none := by kernel_rfl
def sEf : FSpec
  | [.slw 0, .slw 1, .fn f [] []], [⟨false, .nodes X⟩, ⟨false, .nodes Y⟩] => .node (Nat.beq f 73 && decide (X.length ≤ 100)) (.leaf ⟨[.bool (all2 eqN X Y)], []⟩) .bad
  | _, _ => .bad
def sgEq : LSig := { cs := [(0, 29), (1, 29)], mv := [(5, 0)], mo := [(4, 0)], take := [] }
def spEq : LSpec
  | [.slw 0, .slw 1, .int .i64 i], [⟨false, .nodes L⟩, ⟨false, .nodes M⟩] => .node (decide (i = 0 ∧ L.length = M.length ∧ L.length ≤ 1000)) (.node (all2 eqNod L M) (.leaf (.exit 0, ⟨[.any], []⟩)) (.leaf (.ret, ⟨[.bool false], []⟩))) .bad
  | _, _ => .bad
def sSi : FSpec
  | [.slw 0, .slw 1], [⟨false, .ints .i64 L⟩, ⟨false, .ints .i64 M⟩] => .node (decide (L.length ≤ 1000)) (.leaf ⟨[.bool (all2 Ck.eqInt L M)], []⟩) .bad
  | _, _ => .bad
noncomputable def lib1 : Tb := (72, [], sEf) :: (74, [], sSi) :: Ck.lib15
end Go.Proofs.YtgpoaohglpecgaaGreatDoor.Sm
