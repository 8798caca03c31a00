/-
  Lexer: plain words.
-/
import Derived.Test.YtielnommkhfghaaDoorCharsPure3
import Derived.Test.YtielnommkhfghaaDoorIntsText
namespace Go.Am
open Go.Lib
def kd (c : UInt8) : Int := kindN (c.toNat : Int)
/-- how many bytes from here on have one kind -/
def runK (k : Int) : List UInt8 → Nat
  | [] => 0
  | c :: r => bif decide (kd c = k) then runK k r + 1 else 0
theorem runK_cons (k : Int) (c : UInt8) (r : List UInt8) : runK k (c :: r) = bif decide (kd c = k) then runK k r + 1 else 0 := rfl
/-- the kind of the token in front, its length, its text, its error -/
def tkK (r : List UInt8) : Int := bif decide (kindN (c0 r) = 2) then 1 else bif decide (kindN (c0 r) = 3) then 2 else 3
def tkN (r : List UInt8) : Nat := bif decide (kindN (c0 r) = 2) then runK 2 r else bif decide (kindN (c0 r) = 3) then runK 3 r else (sym0 r).toNat
def tkT (r : List UInt8) : List UInt8 := r.take (tkN r)
/-- the error of a token -/
def tokE (k : Int) (t : List UInt8) : Int :=
  bif decide (k = 1) then rdE t else bif decide (k = 2) then (bif isWord t then 0 else 32) else bif decide (k = 3) then (bif decide (0 < sym0 t) && decide (sym0 t = (t.length : Int)) then 0 else 32) else 32
def tkF (r : List UInt8) : Int := tokE (tkK r) (tkT r)
structure LexO where
  l : List Tok
  n : Int
  e : Int
  deriving Inhabited
def LexO.cons (t : Tok) (o : LexO) : LexO := ⟨t :: o.l, o.n, o.e⟩
/-- all tokens of what is left: fuel, what is left, where it begins, how many have come -/
def lexR : Nat → List UInt8 → Int → Nat → LexO
  | 0, _, a, _ => ⟨[], a, 4⟩
  | _ + 1, [], a, _ => ⟨[], a, 0⟩
  | n + 1, c :: r, a, k =>
    bif decide (kd c = 1) then lexR n r (a + 1) k
    else bif decide (k = 200) then ⟨[], a, 4⟩
    else bif decide (tkF (c :: r) = 0) then (lexR n ((c :: r).drop (tkN (c :: r))) (a + (tkN (c :: r) : Int)) (k + 1)).cons ⟨tkK (c :: r), tkT (c :: r), a⟩
    else ⟨[], a, tkF (c :: r)⟩
def lexA (s : List UInt8) : LexO := bif decide ((400 : Int) < (s.length : Int)) then ⟨[], 0, 4⟩ else lexR (s.length + 1) s 0 0
def lexE (s : List UInt8) : Int := (lexA s).e
def lexN (s : List UInt8) : Int := (lexA s).n
def lexL (s : List UInt8) : List Tok := bif decide (lexE s = 0) then (lexA s).l else []

/-! a token hangs on little -/
theorem runK_le (k : Int) : ∀ r : List UInt8, runK k r ≤ r.length
  | [] => Nat.le_refl _
  | c :: r => by
    have := runK_le k r
    unfold runK
    cases decide (kd c = k) <;> simp <;> omega
theorem sym_len (r : List UInt8) : (sym0 r).toNat ≤ r.length := by
  match r with
  | [] => decide
  | [c] =>
    rw [sym_one]
    cases decide (kindN (c.toNat : Int) = 4) <;> cases decide ((c.toNat : Int) = 33) <;> simp
  | c :: d :: x =>
    rcases sym_rng (c :: d :: x) with h | h | h <;> rw [h] <;> simp
theorem tkN_le (r : List UInt8) : tkN r ≤ r.length := by
  unfold tkN
  cases decide (kindN (c0 r) = 2)
  · cases decide (kindN (c0 r) = 3)
    · exact sym_len r
    · exact runK_le 3 r
  · exact runK_le 2 r
theorem tkT_len (r : List UInt8) : (tkT r).length = tkN r := by
  unfold tkT
  rw [List.length_take]
  have := tkN_le r
  omega
theorem tokE_nil (k : Int) : tokE k [] ≠ 0 := by
  unfold tokE
  have h1 : rdE [] = 12 := rfl
  have h2 : isWord [] = false := by decide
  have h3 : sym0 [] = 0 := by decide
  rw [h1, h2, h3]
  cases decide (k = 1) <;> cases decide (k = 2) <;> cases decide (k = 3) <;> decide
theorem tkN_pos {r : List UInt8} (h : tkF r = 0) : 0 < tkN r := by
  rcases Nat.eq_zero_or_pos (tkN r) with h0 | h0
  · have : tkT r = [] := List.eq_nil_of_length_eq_zero (by rw [tkT_len, h0])
    unfold tkF at h
    rw [this] at h
    exact (tokE_nil _ h).elim
  · exact h0
/-- nothing, or a blank in front -/
def blankHd (q : List UInt8) : Prop := ∀ c r, q = c :: r → kd c = 1
theorem blankHd_nil : blankHd [] := fun _ _ h => by cases h
theorem run_local {k : Int} (hk : k ≠ 1) {q q' : List UInt8} (hq : blankHd q') : ∀ p : List UInt8, runK k (p ++ q) ≤ p.length → runK k (p ++ q') = runK k (p ++ q)
  | [], h => by
    have h0 : runK k q = 0 := by simpa using h
    show runK k q' = runK k q
    rw [h0]
    cases q' with
    | nil => rfl
    | cons c r =>
      unfold runK
      rw [hq c r rfl, decide_eq_false (fun h => hk h.symm)]; rfl
  | c :: p, h => by
    show runK k (c :: (p ++ q')) = runK k (c :: (p ++ q))
    have h' : runK k (c :: (p ++ q)) ≤ p.length + 1 := h
    unfold runK at h' ⊢
    cases hc : decide (kd c = k) with
    | false => rfl
    | true =>
      rw [hc, cond_true] at h'
      rw [cond_true, cond_true, run_local (q := q) (q' := q') hk hq p (by omega)]
theorem sym_not2 (c : UInt8) (q : List UInt8) (h : sym0 (c :: q) ≠ 2) : sym0 (c :: q) = sym0 [c] := by
  cases q with
  | nil => rfl
  | cons d x =>
    rw [sym_two] at h ⊢
    have hp : pairB [c, d] = false := by
      cases hp : pairB [c, d] with
      | false => rfl
      | true =>
        exfalso; apply h
        have hk := two_kind (c := c) (d := d) (by rw [← pair_two]; exact hp)
        unfold sym0
        rw [hp, show decide (([c, d] : List UInt8) = []) = false from decide_eq_false (by simp), show c0 [c, d] = (c.toNat : Int) from rfl, decide_eq_true hk]; rfl
    unfold sym0
    rw [hp, pair_one]
    rfl
theorem sym_blank (c : UInt8) (q : List UInt8) (hq : blankHd q) : sym0 (c :: q) ≠ 2 := by
  cases q with
  | nil =>
    rw [sym_one]
    cases decide (kindN (c.toNat : Int) = 4) <;> cases decide ((c.toNat : Int) = 33) <;> decide
  | cons d x =>
    intro h
    rw [sym_two] at h
    have h4 := sym_pair h
    have h1 := hq d x rfl
    unfold kd at h1
    omega
theorem sym_local {q q' : List UInt8} (hq : blankHd q') : ∀ p : List UInt8, p ≠ [] → (sym0 (p ++ q)).toNat ≤ p.length → sym0 (p ++ q') = sym0 (p ++ q)
  | [], h, _ => (h rfl).elim
  | [c], _, h => by
    show sym0 (c :: q') = sym0 (c :: q)
    have h : (sym0 (c :: q)).toNat ≤ 1 := h
    rw [sym_not2 c q' (sym_blank c q' hq), sym_not2 c q (fun h2 => by rw [h2] at h; exact absurd h (by decide))]
  | c :: d :: x, _, _ => by
    show sym0 (c :: d :: (x ++ q')) = sym0 (c :: d :: (x ++ q))
    rw [sym_two, sym_two c d (x ++ q)]
theorem tkN_local {p q q' : List UInt8} (hp : p ≠ []) (hq : blankHd q') (h : tkN (p ++ q) ≤ p.length) : tkN (p ++ q') = tkN (p ++ q) ∧ tkK (p ++ q') = tkK (p ++ q) ∧ tkT (p ++ q') = tkT (p ++ q) := by
  have hc : c0 (p ++ q') = c0 (p ++ q) := by
    cases p with
    | nil => exact (hp rfl).elim
    | cons c x => rfl
  have hn : tkN (p ++ q') = tkN (p ++ q) := by
    unfold tkN at h ⊢
    rw [hc]
    cases h2 : decide (kindN (c0 (p ++ q)) = 2) with
    | true => rw [h2, cond_true] at h; exact run_local (by decide) hq p h
    | false =>
      rw [h2, cond_false] at h
      cases h3 : decide (kindN (c0 (p ++ q)) = 3) with
      | true => rw [h3, cond_true] at h; exact run_local (by decide) hq p h
      | false =>
        rw [h3, cond_false] at h
        simp only [cond_false]
        rw [sym_local hq p hp h]
  refine ⟨hn, ?_, ?_⟩
  · unfold tkK; rw [hc]
  · unfold tkT
    rw [hn, List.take_append_of_le_length h, List.take_append_of_le_length h]
end Go.Am
