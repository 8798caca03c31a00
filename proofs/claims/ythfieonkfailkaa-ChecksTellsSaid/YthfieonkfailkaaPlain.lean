/-
  Plain words that all texts share.
-/
import Derived.Test.YthfieonkfailkaaAmLib
namespace Go.Am
def i64 (n : Int) : AV := .int .i64 n
def rb (b : Bool) : Option Out := some ⟨[.bool b], []⟩
def rp (x e : Int) : Option Out := some ⟨[i64 x, i64 e], []⟩
def Rng (a : Int) : Prop := -9223372036854775808 ≤ a ∧ a ≤ 9223372036854775807
instance (a : Int) : Decidable (Rng a) := by unfold Rng; exact inferInstance
def wr (n : Int) : Int := IntKind.i64.wrap n
end Go.Am
