/-
  Texts put together: PrsLaws, PrsLawB, PrsWeak, PrsAsk.
-/
import Derived.Test.YtfniiapkghpihaaDoorPrsD
import Derived.Test.YtfniiapkghpihaaDoorPureB
import Derived.Test.YtfniiapkghpihaaDoorLxB
/-
  Exprs: the table of the laws; ExprsNames.
-/
namespace Go.Proofs.YtfniiapkghpihaaDoor
open Go.Am
set_option maxRecDepth 100000
variable {B : Nat → Option Obj}
end Go.Proofs.YtfniiapkghpihaaDoor
/-
  ExprsBack: what the law answers.
-/
namespace Go.Proofs.YtfniiapkghpihaaDoor
open Go.Am Go
set_option maxRecDepth 100000
variable {B : Nat → Option Obj}
/-! texts of pieces -/
structure Lexd (l : List Pc) : Prop where
  tk : lexL (pcsS l) = pcsT 0 l
  e : lexE (pcsS l) = 0
  s : shortT (pcsT 0 l) = true
  v : (pcsT 0 l).all okV = true
  n : (pcsT 0 l).length ≤ 200
/-! the law -/
theorem rng_of {X : List Nod} (h : ∀ x ∈ X, nodWf x) : rngX X = true := List.all_eq_true.2 fun x hx => by
  have := (h x hx).2.1
  simp only [Lit.wf, IntKind.min, IntKind.max, IntKind.signed, IntKind.bits] at this
  simpa [rng64] using this
end Go.Proofs.YtfniiapkghpihaaDoor
/-
  Exprs: contracts that promise where there is no error: for the laws.
-/
namespace Go.Proofs.YtfniiapkghpihaaDoor
open Go.Am Go
set_option maxRecDepth 100000
variable {B : Nat → Option Obj}
end Go.Proofs.YtfniiapkghpihaaDoor
/-
  Exprs: the reference's Asked, and nodes compared, by contract.
-/
namespace Go.Proofs.YtfniiapkghpihaaDoor
open Go.Am Go
set_option maxRecDepth 100000
variable {B : Nat → Option Obj}
/-! Equal -/
def sgEq : LSig := { cs := [(0, 22), (1, 22)], mv := [(5, 0)], mo := [(4, 0)], take := [] }
def spEq : LSpec
  | [.slw 0, .slw 1, .int .i64 i], [⟨false, .nodes L⟩, ⟨false, .nodes M⟩] => .node (decide (i = 0 ∧ L.length = M.length ∧ L.length ≤ 1000)) (.node (all2 eqNod L M) (.leaf (.exit 0, ⟨[.any], []⟩)) (.leaf (.ret, ⟨[.bool false], []⟩))) .bad
  | _, _ => .bad
/-! Asked -/
end Go.Proofs.YtfniiapkghpihaaDoor
