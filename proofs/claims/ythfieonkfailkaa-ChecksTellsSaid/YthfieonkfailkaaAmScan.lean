/-
  AM3: loops that go over places and stop at the first one that is told, turn by turn.
-/
import Derived.Test.YthfieonkfailkaaAmLib2
namespace Go.Am
/-- the first place from i on, among f, that is told; or the one behind them -/
def firstB (bad : Nat → Bool) : Nat → Nat → Nat
  | 0, i => i
  | f + 1, i => bif bad i then i else firstB bad f (i + 1)
theorem firstB_le (bad : Nat → Bool) : ∀ f i, i ≤ firstB bad f i ∧ firstB bad f i ≤ i + f
  | 0, i => ⟨Nat.le_refl _, Nat.le_refl _⟩
  | f + 1, i => by
    unfold firstB
    have := firstB_le bad f (i + 1)
    cases bad i <;> simp <;> omega
theorem firstB_any (bad : Nat → Bool) : ∀ f i, decide (firstB bad f i < i + f) = (List.range' i f).any bad
  | 0, i => by simp [firstB]
  | f + 1, i => by
    unfold firstB
    have ih := firstB_any bad f (i + 1)
    rw [List.range'_succ, List.any_cons, ← ih]
    cases bad i with
    | true => simp
    | false =>
      simp only [cond_false, Bool.false_or]
      congr 1
      exact propext ⟨fun h => by omega, fun h => by omega⟩
/-- the first element that is told -/
def firstL {α : Type} (p : α → Bool) : List α → Nat
  | [] => 0
  | x :: l => bif p x then 0 else firstL p l + 1
theorem firstB_list {α : Type} [Inhabited α] (p : α → Bool) : ∀ (r l : List α) (i : Nat), l.drop i = r → firstB (fun j => p (l.getD j default)) r.length i = i + firstL p r
  | [], l, i, h => rfl
  | x :: r, l, i, h => by
    have hlt : i < l.length := by
      rcases Nat.lt_or_ge i l.length with h1 | h1
      · exact h1
      · rw [List.drop_eq_nil_of_le h1] at h; cases h
    have hx : l.getD i default = x := by
      rw [List.drop_eq_getElem_cons hlt] at h
      injection h with h1 h2
      simp [List.getD, hlt, h1]
    have hr : l.drop (i + 1) = r := by
      rw [List.drop_eq_getElem_cons hlt] at h
      injection h with h1 h2
    rw [List.length_cons]
    unfold firstB firstL
    rw [hx]
    cases p x with
    | true => rfl
    | false => simp only [cond_false]; rw [firstB_list p r l (i + 1) hr]; omega
theorem firstL_le {α : Type} (p : α → Bool) : ∀ l : List α, firstL p l ≤ l.length
  | [] => Nat.le_refl _
  | x :: l => by unfold firstL; have := firstL_le p l; cases p x <;> simp <;> omega
theorem firstL_any {α : Type} (p : α → Bool) : ∀ l : List α, decide (firstL p l < l.length) = l.any p
  | [] => rfl
  | x :: l => by
    unfold firstL
    rw [List.any_cons, ← firstL_any p l]
    cases p x with
    | true => simp
    | false =>
      simp only [cond_false, Bool.false_or, List.length_cons]
      congr 1
      exact propext ⟨fun h => by omega, fun h => by omega⟩
section
variable {E : Env} {C : CallR} {L : LoopR} {n : Nat} {sg : LSig} {body : Code}
theorem scan_turns {st : Int → List AV} {bs : List Blk} {len : Nat} {bad : Nat → Bool} {ob : Nat → Out} {k : Nat} {oe : Out}
    (h : ∀ i : Nat, i ≤ len → (turn E C L n sg body (st i) bs).sel = bif decide (i < len) then (bif bad i then some (.ret, ob i) else some (.normal, ⟨st (i + 1 : Nat), bs⟩)) else some (.exit k, oe)) :
    ∀ (f i : Nat), i + f = len → ∃ m, (turns E C L n sg body m (st i) bs).sel = bif decide (firstB bad f i < len) then some (.ret, ob (firstB bad f i)) else some (.exit k, oe)
  | 0, i, hi => by
    have ht := h i (by omega)
    rw [decide_eq_false (by omega), cond_false] at ht
    refine ⟨1, (turns_done ht (by simp)).trans ?_⟩
    unfold firstB
    rw [decide_eq_false (by omega)]; rfl
  | f + 1, i, hi => by
    have ht := h i (by omega)
    rw [decide_eq_true (show i < len by omega), cond_true] at ht
    unfold firstB
    cases hb : bad i with
    | true =>
      rw [hb, cond_true] at ht
      refine ⟨1, (turns_done ht (by simp)).trans ?_⟩
      simp only [cond_true]
      rw [decide_eq_true (show i < len by omega)]; rfl
    | false =>
      rw [hb, cond_false] at ht
      obtain ⟨m, hm⟩ := scan_turns h f (i + 1) (by omega)
      exact ⟨m + 1, (turns_more' ht).trans hm⟩
end
theorem in_range {α : Type} {i n : Nat} (h : i < n) (r : Option α) : (bif decide ((0 : Int) ≤ (i : Int) ∧ (i : Int) < (n : Int)) then (bif decide (((i : Int)).toNat < n) then r else none) else none) = r := by
  rw [decide_eq_true (show (0 : Int) ≤ (i : Int) ∧ (i : Int) < (n : Int) from ⟨by omega, by omega⟩), decide_eq_true (show ((i : Int)).toNat < n by omega)]; rfl
/-! two lists, side by side -/
def all2 {α : Type} (e : α → α → Bool) : List α → List α → Bool
  | [], [] => true
  | x :: l, y :: m => e x y && all2 e l m
  | _, _ => false
theorem firstB_congr {b b' : Nat → Bool} : ∀ (f i : Nat), (∀ j, i ≤ j → j < i + f → b j = b' j) → firstB b f i = firstB b' f i
  | 0, _, _ => rfl
  | f + 1, i, h => by
    unfold firstB
    rw [h i (Nat.le_refl _) (by omega), firstB_congr f (i + 1) fun j h1 h2 => h j (by omega) (by omega)]
theorem zip_any {α : Type} {e : α → α → Bool} : ∀ {l m : List α}, l.length = m.length → (l.zip m).any (fun z => !e z.1 z.2) = !all2 e l m
  | [], [], _ => rfl
  | x :: l, y :: m, h => by
    rw [List.zip_cons_cons, List.any_cons, zip_any (by simpa using h)]
    show (!e x y || !all2 e l m) = !(e x y && all2 e l m)
    rw [Bool.not_and]
  | [], _ :: _, h => by simp at h
  | _ :: _, [], h => by simp at h
theorem first2 {α : Type} [Inhabited α] {e : α → α → Bool} {l m : List α} (h : l.length = m.length) : decide (firstB (fun j => !e (l.getD j default) (m.getD j default)) l.length 0 < l.length) = !all2 e l m := by
  have hz : (l.zip m).length = l.length := by rw [List.length_zip, h, Nat.min_self]
  rw [← zip_any h, ← firstL_any, hz]
  congr 1
  have := firstB_list (fun z : α × α => !e z.1 z.2) (l.zip m) (l.zip m) 0 rfl
  rw [Nat.zero_add, hz] at this
  rw [← this]
  congr 1
  refine firstB_congr _ _ fun j _ hj => ?_
  have h1 : j < l.length := by omega
  have h2 : j < m.length := by omega
  have h3 : j < (l.zip m).length := by omega
  have h4 : (l.zip m)[j]? = some (l[j], m[j]) := by rw [List.getElem?_eq_getElem h3, List.getElem_zip]
  simp [List.getD, h1, h2, h4]
theorem all2_eq {α : Type} [DecidableEq α] {e : α → α → Bool} (he : ∀ x y, e x y = decide (x = y)) : ∀ l m : List α, all2 e l m = decide (l = m)
  | [], [] => rfl
  | x :: l, y :: m => by
    show (e x y && all2 e l m) = _
    rw [he, all2_eq he l m]
    by_cases h1 : x = y <;> by_cases h2 : l = m <;> simp [h1, h2]
  | [], _ :: _ => rfl
  | _ :: _, [] => rfl
theorem all2_len {α : Type} {e : α → α → Bool} : ∀ {l m : List α}, all2 e l m = true → l.length = m.length
  | [], [], _ => rfl
  | x :: l, y :: m, h => by
    have h : (e x y && all2 e l m) = true := h
    rw [Bool.and_eq_true] at h
    rw [List.length_cons, List.length_cons, all2_len h.2]
  | [], _ :: _, h => by cases h
  | _ :: _, [], h => by cases h
/-- how two lists are compared: their lengths first -/
def cmp2 {α : Type} (e : α → α → Bool) (l m : List α) : Bool := decide (l.length = m.length) && all2 e l m
theorem cmp2_is {α : Type} (e : α → α → Bool) (l m : List α) : cmp2 e l m = all2 e l m := by
  unfold cmp2
  cases h : all2 e l m with
  | false => rw [Bool.and_false]
  | true => rw [decide_eq_true (all2_len h)]; rfl
end Go.Am
