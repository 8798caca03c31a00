/-
  How many different elements a list has: plain words.
-/
import Derived.Maps.Views
import Derived.Test.YthfieonkfailkaaGreatDoorQryPure
namespace Go.Am
open Go.Maps
def addI (acc : List Int) (x : Int) : List Int := if acc.contains x then acc else acc ++ [x]
def dcount (l : List Int) : Nat := (l.foldl addI []).length
theorem any_int (x : Int) : ∀ l : List Int, (l.map (Lit.int .i64)).any (fun y => y.sameKey (.int .i64 x)) = l.contains x
  | [] => rfl
  | a :: r => by
    rw [List.map_cons, List.any_cons, List.contains_cons, any_int x r]
    congr 1
    show decide (IntKind.i64 = IntKind.i64 ∧ a = x) = (x == a)
    by_cases e : a = x
    · subst e; simp
    · have e' : ¬ x = a := fun h => e h.symm
      simp [e, e']
theorem addKey_int (acc : List Int) (x : Int) : addKey (acc.map (Lit.int .i64)) (.int .i64 x) = (addI acc x).map (Lit.int .i64) := by
  unfold addKey addI
  rw [any_int]
  split <;> simp
theorem foldl_int : ∀ (l acc : List Int), (l.map (Lit.int .i64)).foldl addKey (acc.map (Lit.int .i64)) = (l.foldl addI acc).map (Lit.int .i64)
  | [], _ => rfl
  | x :: l, acc => by
    rw [List.map_cons, List.foldl_cons, List.foldl_cons, addKey_int, foldl_int l]
theorem dcount_is (l : List Int) : ((l.map (Lit.int .i64)).foldl addKey []).length = dcount l := by
  have := foldl_int l []
  rw [List.map_nil] at this
  rw [this, List.length_map]; rfl
theorem foldI_le : ∀ (l acc : List Int), (l.foldl addI acc).length ≤ acc.length + l.length
  | [], _ => Nat.le_refl _
  | x :: l, acc => by
    rw [List.foldl_cons]
    have := foldI_le l (addI acc x)
    have h2 : (addI acc x).length ≤ acc.length + 1 := by unfold addI; split <;> simp
    simp only [List.length_cons]
    omega
def clash (acc : List Int) : List Int → Bool
  | [] => false
  | x :: r => acc.contains x || clash (acc ++ [x]) r
theorem foldI_lt : ∀ (l acc : List Int), decide ((l.foldl addI acc).length < acc.length + l.length) = clash acc l
  | [], acc => by simp [clash]
  | x :: l, acc => by
    rw [List.foldl_cons]
    unfold clash
    cases hc : acc.contains x with
    | true =>
      have : addI acc x = acc := by unfold addI; rw [if_pos hc]
      rw [this]
      have := foldI_le l acc
      simp only [List.length_cons, Bool.true_or, decide_eq_true_eq]
      omega
    | false =>
      have : addI acc x = acc ++ [x] := by unfold addI; rw [if_neg (by rw [hc]; simp)]
      rw [this, Bool.false_or, ← foldI_lt l (acc ++ [x])]
      simp only [List.length_cons, List.length_append, List.length_nil]
      congr 1
      exact propext ⟨fun h => by omega, fun h => by omega⟩
theorem clash_perm : ∀ (l acc : List Int), clash acc l = ((l.any fun x => acc.contains x) || dups l)
  | [], _ => rfl
  | x :: l, acc => by
    unfold clash dups
    rw [clash_perm l, List.any_cons]
    have : (l.any fun y => (acc ++ [x]).contains y) = ((l.any fun y => acc.contains y) || l.contains x) := by
      rw [Bool.eq_iff_iff]
      simp only [List.any_eq_true, Bool.or_eq_true, List.contains_iff_mem, List.mem_append, List.mem_singleton]
      constructor
      · rintro ⟨y, h1, h2 | h2⟩
        · exact .inl ⟨y, h1, h2⟩
        · exact .inr (h2 ▸ h1)
      · rintro (⟨y, h1, h2⟩ | h)
        · exact ⟨y, h1, .inl h2⟩
        · exact ⟨x, h, .inr rfl⟩
    rw [this]
    cases acc.contains x <;> cases (l.any fun y => acc.contains y) <;> cases l.contains x <;> rfl
theorem dcount_lt (l : List Int) : decide (dcount l < l.length) = dups l := by
  have := foldI_lt l []
  rw [List.length_nil, Nat.zero_add] at this
  unfold dcount
  rw [this, clash_perm]
  have : (l.any fun x => ([] : List Int).contains x) = false := by
    rw [List.any_eq_false]; intro x _; simp
  rw [this, Bool.false_or]
theorem dcount_le (l : List Int) : dcount l ≤ l.length := by
  have := foldI_le l []
  simpa [dcount] using this
end Go.Am
