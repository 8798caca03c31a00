/-
  Kinds: plain words: what a valid list's nodes give, and where the first one is that does not fit.
-/
import Derived.Test.YthfieonkfailkaaGreatDoorExA
import Derived.Test.YthfieonkfailkaaGreatDoorQryPure
namespace Go.Am
def giv (L : List Nod) (i : Nat) : List Bool := (L.take i).map fun x => givesN x.kind
theorem giv_len {L : List Nod} {i : Nat} (h : i ≤ L.length) : (giv L i).length = i := by simp [giv, h]
theorem giv_at {L : List Nod} {i : Nat} {a : Int} (h0 : 0 ≤ a) (h1 : a < i) (h2 : i ≤ L.length) : (giv L i).getD a.toNat false = givesN (kindAt L a) := by
  have hl : a.toNat < i := by omega
  have hL : a.toNat < L.length := by omega
  unfold giv kindAt
  simp [List.getD, hl, hL]
theorem giv_snoc {L : List Nod} {i : Nat} {x : Nod} (h : L[i]? = some x) : giv L (i + 1) = giv L i ++ [givesN x.kind] := by
  unfold giv
  rw [List.take_add_one, List.map_append, h]
  rfl
/-- what is told behind node i on -/
theorem wrongGo_le : ∀ (L r : List Nod) (i : Int), i ≤ wrongGo L r i ∧ wrongGo L r i ≤ i + r.length
  | _, [], i => by simp [wrongGo]
  | L, x :: r, i => by
    unfold wrongGo
    cases fitsN L x with
    | true =>
      have := wrongGo_le L r (i + 1)
      simp only [cond_true, List.length_cons]
      omega
    | false => simp only [cond_false, List.length_cons]; omega
theorem wrongN_le (L : List Nod) : 0 ≤ wrongN L ∧ wrongN L ≤ L.length := by
  have := wrongGo_le L L 0
  unfold wrongN
  omega
end Go.Am
