/-
  Lexer: plain words of joining and comparing.
-/
import Derived.Test.YtielnommkhfghaaDoorLexPure2
import Derived.Lib.Join
namespace Go.Am
def gT (L : List Tok) (i : Int) : Tok := L.getD i.toNat default
def atT {α : Type} (i : Int) (L : List Tok) (r : Option α) : Option α :=
  bif decide (0 ≤ i ∧ i < (L.length : Int)) then (bif decide (i.toNat < L.length) then r else none) else none
theorem atT_in {α : Type} {i : Int} {L : List Tok} (h0 : 0 ≤ i) (h1 : i < (L.length : Int)) (r : Option α) : atT i L r = r := by
  unfold atT
  rw [decide_eq_true (show 0 ≤ i ∧ i < (L.length : Int) from ⟨h0, h1⟩), decide_eq_true (show i.toNat < L.length from by omega)]; rfl
theorem tok_drop {L : List Tok} {i : Int} {t : Tok} {r : List Tok} (h0 : 0 ≤ i) (h : L.drop i.toNat = t :: r) : i < (L.length : Int) ∧ gT L i = t ∧ L.drop (i + 1).toNat = r ∧ t ∈ L := by
  have hlt : i.toNat < L.length := by
    rcases Nat.lt_or_ge i.toNat L.length with h1 | h1
    · exact h1
    · rw [List.drop_eq_nil_of_le h1] at h; cases h
  have hm : t ∈ L := List.mem_of_mem_drop (i := i.toNat) (by rw [h]; exact List.mem_cons_self ..)
  rw [List.drop_eq_getElem_cons hlt] at h
  obtain ⟨e1, e2⟩ := List.cons.inj h
  exact ⟨by omega, by unfold gT; simp [List.getD, hlt, e1], by rw [show (i + 1).toNat = i.toNat + 1 from by omega]; exact e2, hm⟩
theorem tok_end {L : List Tok} {i : Int} (h0 : 0 ≤ i) (h : L.drop i.toNat = []) : ¬ i < (L.length : Int) := by
  have := List.drop_eq_nil_iff.1 h
  omega
def validB (t : Tok) : Bool := decide (tokE t.kind t.text = 0)
def shortT (L : List Tok) : Bool := L.all fun t => decide (t.text.length ≤ 900)
theorem short_mem {L : List Tok} (h : shortT L = true) {t : Tok} (ht : t ∈ L) : t.text.length ≤ 900 := of_decide_eq_true (List.all_eq_true.1 h t ht)
theorem joinT_tail (x : List UInt8) (r : List (List UInt8)) : joinT (x :: r) = x ++ Lib.joinTail [32] r := by
  induction r generalizing x with
  | nil => simp [joinT, Lib.joinTail]
  | cons y r ih =>
    show x ++ 32 :: joinT (y :: r) = _
    rw [ih]
    simp [Lib.joinTail]
theorem joinT_is (xs : List (List UInt8)) : Lib.join xs [32] = joinT xs := by
  cases xs with
  | nil => rfl
  | cons x r => rw [Lib.join_cons, joinT_tail]
theorem joinT_len : ∀ xs : List (List UInt8), (∀ x ∈ xs, x.length ≤ 900) → (joinT xs).length ≤ 901 * xs.length
  | [], _ => by simp [joinT]
  | [x], h => by
    have := h x (List.mem_cons_self ..)
    simp only [joinT, List.length_cons, List.length_nil]; omega
  | x :: y :: r, h => by
    have h1 := h x (List.mem_cons_self ..)
    have h2 := joinT_len (y :: r) fun z hz => h z (List.mem_cons_of_mem _ hz)
    simp only [joinT, List.length_append, List.length_cons] at h2 ⊢
    omega
def txt (L : List Tok) : List (List UInt8) := L.map (·.text)
def jT (L : List Tok) : List UInt8 := joinT (txt L)
def jE (L : List Tok) : Int := bif decide ((200 : Int) < (L.length : Int)) then 4 else bif L.all validB then (bif decide ((400 : Int) < ((jT L).length : Int)) then 18 else 0) else 8
def jS (L : List Tok) : List UInt8 := bif decide (jE L = 0) then jT L else []
theorem jT_len {L : List Tok} (h : shortT L = true) : (jT L).length ≤ 901 * L.length := by
  have := joinT_len (txt L) fun x hx => by
    obtain ⟨t, ht, rfl⟩ := List.mem_map.1 hx
    exact short_mem h ht
  unfold jT
  rw [show (txt L).length = L.length from by unfold txt; simp] at this
  exact this
def greatB : Int → List Tok → Bool
  | _, [] => false
  | i, t :: r => decide (220 ≤ i) || (decide ((500 : Int) < (t.text.length : Int)) || greatB (i + 1) r)
def jbS (b : Bool) (s : List UInt8) (xs : List (List UInt8)) : List UInt8 := bif b then s ++ Lib.joinTail [32] xs else s ++ joinT xs
theorem jbS_cons (b : Bool) (s x : List UInt8) (r : List (List UInt8)) : jbS b s (x :: r) = jbS true ((bif b then s ++ [32] else s) ++ x) r := by
  unfold jbS
  cases b
  · simp only [cond_false, cond_true]; rw [joinT_tail, List.append_assoc]
  · simp only [cond_true]; simp [Lib.joinTail]
def tokEq (s t : Tok) : Bool := decide (s.kind = t.kind) && (decide (s.text = t.text) && (decide (s.pos = t.pos) && true))
theorem tokEq_is (s t : Tok) : tokEq s t = decide (s = t) := by
  obtain ⟨a, b, c⟩ := s
  obtain ⟨d, e, f⟩ := t
  unfold tokEq
  rw [Bool.eq_iff_iff]
  simp
end Go.Am
