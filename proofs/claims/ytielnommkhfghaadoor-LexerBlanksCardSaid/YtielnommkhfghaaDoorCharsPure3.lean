/-
  Chars: the reference's Symbol and Word tell the same.
-/
import Derived.Test.YtielnommkhfghaaDoorCharsPure2
namespace Go.Am
def preF (r : List UInt8) : List (List UInt8) → Option Nat
  | [] => none
  | l :: ls => bif r.take l.length == l then some l.length else preF r ls
theorem longF_pre {s : List UInt8} {a : Int} (h0 : 0 ≤ a) (h1 : a ≤ (s.length : Int)) : ∀ ls, longF s a ls = preF (s.drop a.toNat) ls
  | [] => rfl
  | l :: ls => by
    have hd := drop_len s h0 h1
    unfold longF preF
    rw [longF_pre h0 h1 ls, cut_is s h0 (show a ≤ a + (l.length : Int) from by omega), show (a + (l.length : Int) - a).toNat = l.length from by omega]
    by_cases hA : (l.length : Int) ≤ (s.length : Int) - a
    · rw [decide_eq_true hA, Bool.true_and]
      have e : decide ((s.drop a.toNat).take l.length = l) = ((s.drop a.toNat).take l.length == l) := by rw [Bool.eq_iff_iff]; simp
      rw [e]
    · have : ¬ (s.drop a.toNat).take l.length = l := fun h => by
        have h2 := congrArg List.length h
        rw [List.length_take] at h2
        omega
      rw [decide_eq_false hA, Bool.false_and, beq_eq_false_iff_ne.2 this]
def isTwo (c d : UInt8) : Bool := (c == 60 && (d == 61 || d == 60)) || (c == 62 && (d == 61 || d == 62)) || (c == 33 && d == 61)
def isOne (c : UInt8) : Bool := decide (kindN (c.toNat : Int) = 4) && !(c == 33)
theorem by256 {p : UInt8 → Bool} (h : (List.range 256).all (fun n => p (UInt8.ofNat n)) = true) (c : UInt8) : p c = true := by
  have := List.all_eq_true.1 h c.toNat (List.mem_range.2 c.toNat_lt)
  simpa using this
theorem one_is (c : UInt8) : preF [c] symbols = bif isOne c then some 1 else none := by
  have := by256 (p := fun c => decide (preF [c] symbols = bif isOne c then some 1 else none)) (by decide +kernel) c
  exact of_decide_eq_true this
theorem pre_one (c d : UInt8) (t : List UInt8) : preF (c :: d :: t) [[40], [41], [42], [43], [45], [60], [62], [61]] = preF [c] symbols := by
  unfold symbols
  simp only [preF, List.length_cons, List.length_nil, List.take_succ_cons, List.take_zero, List.take_nil]
  have e : ∀ x y : UInt8, (([c] : List UInt8) == [x, y]) = false := fun x y => beq_eq_false_iff_ne.2 (by simp)
  simp only [e, cond_false]
theorem two_is (c d : UInt8) (t : List UInt8) : preF (c :: d :: t) symbols = bif isTwo c d then some 2 else preF [c] symbols := by
  rw [← pre_one c d t]
  have e : ∀ x y : UInt8, (([c, d] : List UInt8) == [x, y]) = (c == x && d == y) := fun x y => by
    rw [Bool.eq_iff_iff]; simp
  show preF (c :: d :: t) ([60, 61] :: [60, 60] :: [62, 61] :: [62, 62] :: [33, 61] :: [[40], [41], [42], [43], [45], [60], [62], [61]]) = _
  generalize [[40], [41], [42], [43], [45], [60], [62], ([61] : List UInt8)] = ls
  simp only [preF, List.length_cons, List.length_nil, List.take_succ_cons, List.take_zero, e]
  unfold isTwo
  cases c == 60 <;> cases c == 62 <;> cases c == 33 <;> cases d == 61 <;> cases d == 60 <;> cases d == 62 <;> rfl
theorem idx_a (d : UInt8) : decide (0 ≤ Lib.indexByte [61, 60] d) = (d == 61 || d == 60) := by
  have := by256 (p := fun d => decide (0 ≤ Lib.indexByte [61, 60] d) == (d == 61 || d == 60)) (by decide +kernel) d
  simpa using this
theorem idx_b (d : UInt8) : decide (0 ≤ Lib.indexByte [61, 62] d) = (d == 61 || d == 62) := by
  have := by256 (p := fun d => decide (0 ≤ Lib.indexByte [61, 62] d) == (d == 61 || d == 62)) (by decide +kernel) d
  simpa using this
theorem idx_c (d : UInt8) : decide (0 ≤ Lib.indexByte [61] d) = (d == 61) := by
  have := by256 (p := fun d => decide (0 ≤ Lib.indexByte [61] d) == (d == 61)) (by decide +kernel) d
  simpa using this
theorem eq_nat (c : UInt8) (n : Nat) (hn : n < 256) : decide ((c.toNat : Int) = (n : Int)) = (c == UInt8.ofNat n) := by
  rw [Bool.eq_iff_iff]
  simp only [decide_eq_true_eq, beq_iff_eq]
  constructor
  · intro h
    have : c.toNat = n := by omega
    rw [← this]; simp
  · intro h
    subst h
    simp
    omega
theorem pair_two (c d : UInt8) : pairB [c, d] = isTwo c d := by
  have e1 : (c1 [c, d]).toNat.toUInt8 = d := by
    show ((d.toNat : Int)).toNat.toUInt8 = d
    simp
  have e2 : c0 [c, d] = (c.toNat : Int) := rfl
  have h2 : decide ((1 : Int) < (([c, d] : List UInt8).length : Int)) = true := decide_eq_true (by simp)
  unfold pairB isTwo
  rw [e1, e2, h2, idx_a, idx_b, idx_c, show decide ((c.toNat : Int) = 60) = (c == 60) from eq_nat c 60 (by decide), show decide ((c.toNat : Int) = 62) = (c == 62) from eq_nat c 62 (by decide), show decide ((c.toNat : Int) = 33) = (c == 33) from eq_nat c 33 (by decide)]
  rfl
theorem two_kind {c d : UInt8} (h : isTwo c d = true) : kindN (c.toNat : Int) = 4 := by
  unfold isTwo at h
  simp only [Bool.or_eq_true, Bool.and_eq_true, beq_iff_eq] at h
  rcases h with (⟨rfl, _⟩ | ⟨rfl, _⟩) | ⟨rfl, _⟩ <;> decide
theorem sym_pre : ∀ r : List UInt8, (((preF r symbols).getD 0 : Nat) : Int) = sym0 r
  | [] => by decide
  | [c] => by
    rw [one_is, sym_one, show decide ((c.toNat : Int) = 33) = (c == 33) from eq_nat c 33 (by decide)]
    unfold isOne
    cases decide (kindN (c.toNat : Int) = 4) <;> cases c == 33 <;> rfl
  | c :: d :: t => by
    rw [two_is, one_is, sym_two]
    unfold sym0 isOne
    rw [pair_two, show decide (([c, d] : List UInt8) = []) = false from decide_eq_false (by simp), show c0 [c, d] = (c.toNat : Int) from rfl, show decide ((c.toNat : Int) = 33) = (c == 33) from eq_nat c 33 (by decide)]
    cases h : isTwo c d with
    | true => rw [two_kind h]; rfl
    | false => cases decide (kindN (c.toNat : Int) = 4) <;> cases c == 33 <;> rfl
def longN (s : List UInt8) (a : Int) : Int := (((longF s a symbols).getD 0 : Nat) : Int)
theorem long_sym {s : List UInt8} {a : Int} (h0 : 0 ≤ a) (h1 : a ≤ (s.length : Int)) : longN s a = sym0 (s.drop a.toNat) := by
  unfold longN
  rw [longF_pre h0 h1, sym_pre]
theorem wordT_is (s : List UInt8) : ∀ l, wordT s l = rb (l.contains s)
  | [] => rfl
  | x :: r => by
    unfold wordT
    rw [wordT_is s r, List.contains_cons]
    have e : decide (x = s) = (s == x) := by
      rw [Bool.eq_iff_iff, decide_eq_true_iff, beq_iff_eq]; exact ⟨Eq.symm, Eq.symm⟩
    rw [e]
    cases s == x <;> rfl
theorem words_same (s : List UInt8) : words'.contains s = isWord s := by
  unfold isWord
  rw [Bool.eq_iff_iff, List.contains_iff_mem, List.contains_iff_mem]
  have h1 : words'.all (fun w => wordList.contains w) = true := by decide +kernel
  have h2 : wordList.all (fun w => words'.contains w) = true := by decide +kernel
  constructor
  · intro h; exact List.contains_iff_mem.1 (List.all_eq_true.1 h1 s h)
  · intro h; exact List.contains_iff_mem.1 (List.all_eq_true.1 h2 s h)
end Go.Am
