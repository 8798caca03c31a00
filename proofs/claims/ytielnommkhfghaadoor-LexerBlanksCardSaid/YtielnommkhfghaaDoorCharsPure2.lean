/-
  Chars: plain words for CharsLongest.
-/
import Derived.Test.YtielnommkhfghaaDoorCharsPure
namespace Go.Am
def sSymK (n : Int) : FSpec
  | [.str s, .int .i64 a], [] => .node (decide (symN s a = n) && decide (symE s a = 0)) (.leaf ⟨[i64 n, i64 0], []⟩) .bad
  | _, _ => .bad
def earlyL (s : List UInt8) (a : Int) (b : List UInt8) (r : Option Out) : Option Out :=
  bif decide ((400 : Int) < (s.length : Int)) then rb true else bif decide ((10 : Int) < (b.length : Int)) then rb true else bif decide (a < 0) then rb true else bif decide ((s.length : Int) < a) then rb true else r
def ch (s : List UInt8) (a : Int) : Int := ((s.getD a.toNat 0).toNat : Int)
def rI (s : List UInt8) (a : Int) : Bool := decide (0 ≤ a ∧ a < (s.length : Int))
def sL (s : List UInt8) (a u : Int) : Bool := decide (0 ≤ a ∧ a ≤ u ∧ u ≤ (s.length : Int))
def cut (s : List UInt8) (a u : Int) : List UInt8 := (s.take u.toNat).drop a.toNat
def rest0 (s : List UInt8) (a : Int) : Option Out :=
  bif decide (wr ((s.length : Int) - a) < 0) then rb false else bif decide (a = (s.length : Int)) then rb true else bif rI s a then (bif !decide (kindN (ch s a) = 4) then rb true else bif rI s a then (bif decide (ch s a = 33) then rb true else rb false) else none) else none
def rest1 (s : List UInt8) (a : Int) : Option Out :=
  bif decide (wr ((s.length : Int) - a) < 1) then rb false else bif rI s (wr (a + 0)) then (bif !decide (kindN (ch s (wr (a + 0))) = 4) then rb false else bif sL s a (wr (a + 1)) then
    (bif decide (lenN (cut s a (wr (a + 1))) 0 = 1) then (bif decide (wr ((s.length : Int) - a) < 2) then rb true else bif sL s a (wr (a + 2)) then (bif decide (lenN (cut s a (wr (a + 2))) 0 = 1) then rb true else rb false) else none) else rb false) else none) else none
def rest2 (s : List UInt8) (a : Int) (b : List UInt8) : Option Out :=
  bif decide (wr ((s.length : Int) - a) < 2) then rb false else bif rI s (wr (a + 0)) then (bif !decide (kindN (ch s (wr (a + 0))) = 4) then rb false else bif rI s (wr (a + 1)) then (bif !decide (kindN (ch s (wr (a + 1))) = 4) then rb false else
    bif sL s a (wr (a + 2)) then (bif decide ((cut s a (wr (a + 2))).length + b.length ≤ lim) then (bif !decide (lenN (cut s a (wr (a + 2)) ++ b) 0 = 2) then rb false else bif decide (lenN (cut s a (wr (a + 2))) 0 = 2) then rb true else rb false) else none) else none) else none) else none
theorem wr_in {n : Int} (h0 : -1000 ≤ n) (h1 : n ≤ 1000) : wr n = n := by unfold wr; rw [IntKind.wrap_i64]; omega
theorem kind_of_idx : ∀ (beh : List UInt8), beh.all (fun x => decide (kindN (x.toNat : Int) = 4)) = true → ∀ c : UInt8, 0 ≤ Lib.indexByte beh c → kindN (c.toNat : Int) = 4
  | [], _, c, h => by simp [Lib.indexByte] at h
  | x :: r, hall, c, h => by
    simp only [List.all_cons, Bool.and_eq_true, decide_eq_true_eq] at hall
    by_cases hx : x = c
    · subst hx; exact hall.1
    · have ih := kind_of_idx r hall.2 c
      refine ih ?_
      have hb : (x == c) = false := beq_eq_false_iff_ne.2 hx
      unfold Lib.indexByte at h
      rw [hb] at h
      simp only [Bool.false_eq_true, if_false] at h
      by_cases h1 : Lib.indexByte r c = -1
      · rw [h1] at h; simp at h
      · have hb2 : (Lib.indexByte r c == -1) = false := beq_eq_false_iff_ne.2 h1
        rw [hb2] at h
        simp only [Bool.false_eq_true, if_false] at h
        have hge : -1 ≤ Lib.indexByte r c := idx_ge r c
        omega
where
  idx_ge : ∀ (l : List UInt8) (c : UInt8), -1 ≤ Lib.indexByte l c
    | [], _ => by simp [Lib.indexByte]
    | x :: r, c => by
      have := idx_ge r c
      unfold Lib.indexByte
      split
      · omega
      · split <;> omega
/-- a symbol hangs on the first two bytes -/
theorem sym_two (c d : UInt8) (x : List UInt8) : sym0 (c :: d :: x) = sym0 [c, d] := by
  unfold sym0 pairB
  have h1 : decide ((1 : Int) < ((c :: d :: x).length : Int)) = true := decide_eq_true (by simp; omega)
  have h2 : decide ((1 : Int) < (([c, d] : List UInt8).length : Int)) = true := decide_eq_true (by simp)
  have h3 : decide ((c :: d :: x : List UInt8) = []) = false := decide_eq_false (by simp)
  have h4 : decide (([c, d] : List UInt8) = []) = false := decide_eq_false (by simp)
  rw [h1, h2, h3, h4]; rfl
theorem pair_one (c : UInt8) : pairB [c] = false := by unfold pairB; rfl
theorem sym_one (c : UInt8) : sym0 [c] = bif !decide (kindN (c.toNat : Int) = 4) then 0 else bif decide ((c.toNat : Int) = 33) then 0 else 1 := by
  unfold sym0
  rw [pair_one]; rfl
theorem sym_kind {s : List UInt8} (h : sym0 s ≠ 0) : s ≠ [] ∧ kindN (c0 s) = 4 := by
  unfold sym0 at h
  by_cases h0 : s = []
  · rw [decide_eq_true h0] at h; exact (h rfl).elim
  · by_cases h1 : kindN (c0 s) = 4
    · exact ⟨h0, h1⟩
    · rw [decide_eq_false h0, decide_eq_false h1] at h; exact (h rfl).elim
theorem sym_pair {c d : UInt8} (h : sym0 [c, d] = 2) : kindN (d.toNat : Int) = 4 := by
  have hp : pairB [c, d] = true := by
    cases hp : pairB [c, d] with
    | true => rfl
    | false =>
      unfold sym0 at h
      rw [hp] at h
      revert h
      cases decide (([c, d] : List UInt8) = []) <;> cases decide (kindN (c0 [c, d]) = 4) <;> cases decide (c0 [c, d] = 33) <;> decide
  have e : (c1 [c, d]).toNat.toUInt8 = d := by
    show ((d.toNat : Int)).toNat.toUInt8 = d
    simp
  unfold pairB at hp
  rw [e] at hp
  simp only [Bool.and_eq_true, Bool.or_eq_true, decide_eq_true_eq] at hp
  rcases hp.2 with (⟨_, h⟩ | ⟨_, h⟩) | ⟨_, h⟩
  · exact kind_of_idx _ (by decide) d h
  · exact kind_of_idx _ (by decide) d h
  · exact kind_of_idx _ (by decide) d h
theorem sym_rng (s : List UInt8) : sym0 s = 0 ∨ sym0 s = 1 ∨ sym0 s = 2 := by
  unfold sym0
  cases decide (s = []) <;> cases decide (kindN (c0 s) = 4) <;> cases pairB s <;> cases decide (c0 s = 33) <;> simp
theorem sym_zero {s : List UInt8} (h : sym0 s = 0) (hs : s ≠ []) : kindN (c0 s) ≠ 4 ∨ c0 s = 33 := by
  unfold sym0 at h
  rw [decide_eq_false hs] at h
  by_cases h1 : kindN (c0 s) = 4
  · by_cases h2 : c0 s = 33
    · exact .inr h2
    · rw [decide_eq_true h1, decide_eq_false h2] at h
      cases hp : pairB s <;> rw [hp] at h <;> simp at h
  · exact .inl h1
theorem len_zero (x : List UInt8) : lenN x 0 = sym0 x := by rw [len_in (Int.le_refl 0) (by omega)]; simp
theorem cut_is (s : List UInt8) {a u : Int} (h0 : 0 ≤ a) (h1 : a ≤ u) : cut s a u = (s.drop a.toNat).take (u - a).toNat := by
  unfold cut
  rw [List.drop_take]
  congr 1; omega
theorem ch_is (s : List UInt8) {a : Int} (k : Nat) (h0 : 0 ≤ a) : ch s (a + k) = (((s.drop a.toNat).getD k 0).toNat : Int) := by
  unfold ch
  rw [show (a + (k : Int)).toNat = a.toNat + k from by omega]
  simp [List.getD, List.getElem?_drop]

theorem early_or {s b : List UInt8} {a : Int} {r : Option Out} (h : (s.length : Int) ≤ 400 → (b.length : Int) ≤ 10 → 0 ≤ a → a ≤ (s.length : Int) → r = rb true) : earlyL s a b r = rb true := by
  unfold earlyL
  by_cases h1 : (400 : Int) < (s.length : Int)
  · rw [decide_eq_true h1]; rfl
  by_cases h2 : (10 : Int) < (b.length : Int)
  · rw [decide_eq_false h1, decide_eq_true h2]; rfl
  by_cases h3 : a < 0
  · rw [decide_eq_false h1, decide_eq_false h2, decide_eq_true h3]; rfl
  by_cases h4 : (s.length : Int) < a
  · rw [decide_eq_false h1, decide_eq_false h2, decide_eq_false h3, decide_eq_true h4]; rfl
  rw [decide_eq_false h1, decide_eq_false h2, decide_eq_false h3, decide_eq_false h4, h (by omega) (by omega) (by omega) (by omega)]; rfl
theorem drop_len (s : List UInt8) {a : Int} (h0 : 0 ≤ a) (h1 : a ≤ (s.length : Int)) : ((s.drop a.toNat).length : Int) = (s.length : Int) - a := by
  rw [List.length_drop]; omega
theorem rest0_true {s : List UInt8} {a : Int} (hl : (s.length : Int) ≤ 400) (h0 : 0 ≤ a) (h1 : a ≤ (s.length : Int)) (hn : sym0 (s.drop a.toNat) = 0) : rest0 s a = rb true := by
  unfold rest0
  rw [wr_in (by omega) (by omega), decide_eq_false (show ¬ (s.length : Int) - a < 0 from by omega)]
  by_cases he : a = (s.length : Int)
  · rw [decide_eq_true he]; rfl
  have hlt : a < (s.length : Int) := by omega
  have hr : rI s a = true := decide_eq_true ⟨h0, hlt⟩
  have hne : s.drop a.toNat ≠ [] := fun h => by have := drop_len s h0 h1; rw [h] at this; simp at this; omega
  have hc : ch s a = c0 (s.drop a.toNat) := by have := ch_is s 0 h0; simpa [c0] using this
  rw [decide_eq_false he, hr, hc]
  rcases sym_zero hn hne with h | h
  · rw [decide_eq_false h]; rfl
  · rw [decide_eq_true h]; cases decide (kindN (c0 (s.drop a.toNat)) = 4) <;> rfl
theorem rest1_true {s : List UInt8} {a : Int} (hl : (s.length : Int) ≤ 400) (h0 : 0 ≤ a) (h1 : a ≤ (s.length : Int)) (hn : sym0 (s.drop a.toNat) = 1) : rest1 s a = rb true := by
  obtain ⟨hne, hk⟩ := sym_kind (s := s.drop a.toNat) (by rw [hn]; decide)
  have hd := drop_len s h0 h1
  have hc0 := ch_is s 0 h0
  generalize hr : s.drop a.toNat = r at *
  obtain ⟨c, t, rfl⟩ : ∃ c t, r = c :: t := by
    cases r with
    | nil => exact (hne rfl).elim
    | cons c t => exact ⟨c, t, rfl⟩
  simp only [List.length_cons] at hd
  have hlt : a < (s.length : Int) := by omega
  have hk' : kindN (c.toNat : Int) = 4 := hk
  unfold rest1
  rw [wr_in (n := (s.length : Int) - a) (by omega) (by omega), wr_in (n := a + 0) (by omega) (by omega), wr_in (n := a + 1) (by omega) (by omega), wr_in (n := a + 2) (by omega) (by omega)]
  rw [decide_eq_false (show ¬ (s.length : Int) - a < 1 from by omega), show rI s (a + 0) = true from decide_eq_true ⟨by omega, by omega⟩, show sL s a (a + 1) = true from decide_eq_true ⟨by omega, by omega, by omega⟩]
  have hc0' : ch s (a + 0) = (c.toNat : Int) := hc0
  rw [hc0', decide_eq_true hk', cut_is s h0 (show a ≤ a + 1 from by omega), cut_is s h0 (show a ≤ a + 2 from by omega), hr, len_zero, len_zero, show (a + 1 - a).toNat = 1 from by omega, show (a + 2 - a).toNat = 2 from by omega]
  cases t with
  | nil =>
    have e1 : (List.take 1 [c] : List UInt8) = [c] := rfl
    rw [e1, decide_eq_true hn, decide_eq_true (show (s.length : Int) - a < 2 from by simp at hd; omega)]; rfl
  | cons d t =>
    rw [sym_two] at hn
    have e1 : (List.take 1 (c :: d :: t) : List UInt8) = [c] := rfl
    have e2 : (List.take 2 (c :: d :: t) : List UInt8) = [c, d] := rfl
    have h33 : ¬ (c.toNat : Int) = 33 := by
      intro h
      unfold sym0 at hn
      have hq : c0 [c, d] = 33 := h
      have hq2 : decide (c0 [c, d] = 33) = true := decide_eq_true hq
      rw [hq2] at hn
      revert hn
      cases decide (([c, d] : List UInt8) = []) <;> cases decide (kindN (c0 [c, d]) = 4) <;> cases pairB [c, d] <;> decide
    have hs1 : sym0 [c] = 1 := by rw [sym_one, decide_eq_true hk', decide_eq_false h33]; rfl
    have e3 : ¬ (s.length : Int) - a < 2 := by simp at hd; omega
    rw [e1, e2, decide_eq_true hs1, decide_eq_true hn, decide_eq_false e3, show sL s a (a + 2) = true from decide_eq_true ⟨by omega, by omega, by omega⟩]; rfl
theorem rest2_true {s b : List UInt8} {a : Int} (hl : (s.length : Int) ≤ 400) (hb : (b.length : Int) ≤ 10) (h0 : 0 ≤ a) (h1 : a ≤ (s.length : Int)) (hn : sym0 (s.drop a.toNat) = 2) : rest2 s a b = rb true := by
  obtain ⟨hne, hk⟩ := sym_kind (s := s.drop a.toNat) (by rw [hn]; decide)
  have hd := drop_len s h0 h1
  have hc0 := ch_is s 0 h0
  have hc1 := ch_is s 1 h0
  generalize hr : s.drop a.toNat = r at *
  obtain ⟨c, d, t, rfl⟩ : ∃ c d t, r = c :: d :: t := by
    cases r with
    | nil => exact (hne rfl).elim
    | cons c t =>
      cases t with
      | cons d t => exact ⟨c, d, t, rfl⟩
      | nil =>
        rw [sym_one] at hn
        exfalso
        revert hn
        cases decide (kindN (c.toNat : Int) = 4) <;> cases decide ((c.toNat : Int) = 33) <;> decide
  simp only [List.length_cons] at hd
  have hlt : a + 1 < (s.length : Int) := by omega
  have hk' : kindN (c.toNat : Int) = 4 := hk
  rw [sym_two] at hn
  have hk2 := sym_pair hn
  unfold rest2
  rw [wr_in (n := (s.length : Int) - a) (by omega) (by omega), wr_in (n := a + 0) (by omega) (by omega), wr_in (n := a + 1) (by omega) (by omega), wr_in (n := a + 2) (by omega) (by omega)]
  rw [decide_eq_false (show ¬ (s.length : Int) - a < 2 from by omega), show rI s (a + 0) = true from decide_eq_true ⟨by omega, by omega⟩, show rI s (a + 1) = true from decide_eq_true ⟨by omega, by omega⟩, show sL s a (a + 2) = true from decide_eq_true ⟨by omega, by omega, by omega⟩]
  have hc0' : ch s (a + 0) = (c.toNat : Int) := hc0
  have hc1' : ch s (a + 1) = (d.toNat : Int) := hc1
  rw [hc0', hc1', decide_eq_true hk', decide_eq_true hk2, cut_is s h0 (show a ≤ a + 2 from by omega), hr, len_zero, len_zero, show (a + 2 - a).toNat = 2 from by omega]
  have e2 : (List.take 2 (c :: d :: t) : List UInt8) = [c, d] := rfl
  have hs2 : sym0 ([c, d] ++ b) = 2 := by
    show sym0 (c :: d :: b) = 2
    rw [sym_two]; exact hn
  rw [e2, decide_eq_true hs2, decide_eq_true hn, decide_eq_true (show ([c, d] : List UInt8).length + b.length ≤ lim from by simp only [List.length_cons, List.length_nil, lim]; omega)]; rfl
def at0 {α : Type} (i : Int) (L : List (List UInt8)) (r : Option α) : Option α :=
  bif decide (0 ≤ i ∧ i < (L.length : Int)) then (bif decide (i.toNat < L.length) then r else none) else none
def longF (s : List UInt8) (a : Int) : List (List UInt8) → Option Nat
  | [] => none
  | l :: r => bif decide ((l.length : Int) ≤ (s.length : Int) - a) && decide (cut s a (a + (l.length : Int)) = l) then some l.length else longF s a r
def shortL (L : List (List UInt8)) : Bool := L.all fun l => decide (l.length ≤ 10)
def okL (s : List UInt8) (a i : Int) (L : List (List UInt8)) : Bool := decide (0 ≤ i ∧ i ≤ (L.length : Int) ∧ (L.length : Int) ≤ 900 ∧ 0 ≤ a ∧ a ≤ (s.length : Int) ∧ (s.length : Int) ≤ 900) && shortL L
theorem at0_in {α : Type} {i : Int} {L : List (List UInt8)} (r : Option α) (h0 : 0 ≤ i) (h1 : i < (L.length : Int)) : at0 i L r = r := by
  unfold at0
  rw [decide_eq_true (show 0 ≤ i ∧ i < (L.length : Int) from ⟨h0, h1⟩), decide_eq_true (show i.toNat < L.length from by omega)]; rfl
theorem getD_drop {L : List (List UInt8)} {i : Nat} {l : List UInt8} {r : List (List UInt8)} (h : L.drop i = l :: r) : L.getD i [] = l ∧ i < L.length ∧ L.drop (i + 1) = r := by
  have hlt : i < L.length := by
    rcases Nat.lt_or_ge i L.length with h1 | h1
    · exact h1
    · rw [List.drop_eq_nil_of_le h1] at h; cases h
  rw [List.drop_eq_getElem_cons hlt] at h
  cases h
  exact ⟨by simp [List.getD, hlt], hlt, rfl⟩
end Go.Am
