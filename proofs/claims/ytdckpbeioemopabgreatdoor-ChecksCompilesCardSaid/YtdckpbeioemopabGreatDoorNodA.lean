/-
  Texts put together: NodFn, NodRef.
-/
import Derived.Test.YtdckpbeioemopabGreatDoorNodBase
import Derived.Test.YtdckpbeioemopabGreatDoorPureA
namespace Go.Proofs.YtdckpbeioemopabGreatDoor
open Go.Am
set_option maxRecDepth 100000
variable {B : Nat → Option Obj}
def ttb (l : List Top) : Blk := ⟨true, .tops l⟩
def popO (L : List Top) (k n : Nat) : Out := ⟨[.sl 0 0 k, .sl 0 k n], [ttb L]⟩
def popN (L : List Top) (n : Int) : Option Out :=
  bif decide (0 ≤ (0 : Int) ∧ 0 ≤ w64 ((L.length : Int) - n) ∧ w64 ((L.length : Int) - n) ≤ (L.length : Int)) then (bif decide (0 ≤ w64 ((L.length : Int) - n) ∧ w64 ((L.length : Int) - n) ≤ (L.length : Int)) then
    some (⟨[.sl 0 0 ((w64 ((L.length : Int) - n)).toNat - 0), .sl 0 (w64 ((L.length : Int) - n)).toNat (L.length - (w64 ((L.length : Int) - n)).toNat)], [ttb L]⟩ : Out) else none) else none
theorem tPop (L : List Top) (n : Int) : runT B [] Tryz.f144 [.slw 0, i64 n] [ttb L] = popN L n := by kernel_rfl
def sPop : FSpec
  | [.slw 0, .int .i64 n], [⟨true, .tops L⟩] => .node (decide (0 ≤ n ∧ n ≤ 2 ∧ n ≤ (L.length : Int) ∧ L.length ≤ 1000))
      (.node (decide (n = 0)) (.leaf (popO L L.length 0)) (.node (decide (n = 1)) (.leaf (popO L (L.length - 1) 1)) (.leaf (popO L (L.length - 2) 2)))) .bad
  | _, _ => .bad
theorem okPop : FnOk (E0 B) 144 sPop := by
  refine fnT TbOk.nil Tryz.func144 (by kernel_rfl) (by kernel_rfl) fun vs bs r h => ?_
  unfold sPop at h
  split at h
  · rename_i n L
    rcases T.node_sel h with ⟨hc, h2⟩ | ⟨_, h2⟩
    · obtain ⟨h0, h1, h3, h4⟩ := of_decide_eq_true hc
      refine (tPop L n).trans ?_
      unfold popN
      rw [w64_rng (show Rng ((L.length : Int) - n) by unfold Rng; omega), decide_eq_true (show 0 ≤ (0 : Int) ∧ 0 ≤ (L.length : Int) - n ∧ (L.length : Int) - n ≤ (L.length : Int) from ⟨by omega, by omega, by omega⟩),
        decide_eq_true (show 0 ≤ (L.length : Int) - n ∧ (L.length : Int) - n ≤ (L.length : Int) from ⟨by omega, by omega⟩)]
      simp only [cond_true]
      rw [← h2]
      by_cases n0 : n = 0
      · subst n0
        simp only [T.sel, decide_true, cond_true, popO]
        rw [show ((L.length : Int) - 0).toNat = L.length by omega, Nat.sub_zero, Nat.sub_self]
      · by_cases n1 : n = 1
        · subst n1
          simp only [T.sel, decide_true, cond_true, popO]
          rw [show ((L.length : Int) - 1).toNat = L.length - 1 by omega, Nat.sub_zero, show L.length - (L.length - 1) = 1 by omega]
          rfl
        · have n2 : n = 2 := by omega
          subst n2
          simp only [T.sel, popO]
          rw [show ((L.length : Int) - 2).toNat = L.length - 2 by omega, Nat.sub_zero, show L.length - (L.length - 2) = 2 by omega]
          rfl
    · simp [T.sel] at h2
  · simp [T.sel] at h
noncomputable def lib0 : Tb := (144, [0], sPop) :: []
theorem lib0_ok : TbOk B lib0 := TbOk.nil.add okPop
noncomputable def bTo : Code := loopAt 3 (loopsOf (bodyC Tryz.f114))
def sgTo : LSig := { cs := [(15, 22), (16, 0)], mv := [(4, 136), (5, 136), (17, 0)], mo := [(2, 136), (3, 0), (4, 136), (5, 136)], take := [1, 2] }
def mx (a b : Int) : Int := if b > a then b else a
def mn (a b : Int) : Int := if b < a then b else a
def goTo (L : List Nod) (n : Int) (A S : List Top) (i : Int) : Option (AExit × Out) := some (.normal, ⟨[.slw 0, i64 n, .slw 1, .slw 2, i64 i], [⟨false, .nodes L⟩, ttb A, ttb S]⟩)
def exTo (A S : List Top) : Option (AExit × Out) := some (.exit 0, ⟨[.any, .any, .slw 0, .slw 1], [ttb A, ttb S]⟩)
def bd0 (A S : List Top) : Option (AExit × Out) := some (.ret, ⟨[.slw 0, .bool false, .slw 0, .slw 1], [ttb A, ttb S]⟩)
def bd1 (A S : List Top) (k : Nat) : Option (AExit × Out) := some (.ret, ⟨[.slw 0, .bool false, .slw 0, .sl 1 0 k], [ttb A, ttb S]⟩)
def eqNod (x y : Nod) : Bool := decide (x.kind = y.kind) && (decide (x.n = y.n) && (decide (x.a = y.a) && (decide (x.b = y.b) && (decide (x.pos = y.pos) && true))))
def psh (L : List Nod) (n : Int) (A S : List Top) (i : Int) (k : Nat) (t : Top) : Option (AExit × Out) :=
  bif decide (((S.drop 0).take k).length + 1 ≤ lim) then (bif decide (A.length + 1 ≤ lim) then goTo L n (A ++ [t]) ((S.drop 0).take k ++ [t]) (w64 (i + 1)) else none) else none
def own (L : List Nod) (n : Int) (A S : List Top) (i : Int) (k : Nat) (x : Nod) (nn a b : Int) (t : Top) : Option (AExit × Out) :=
  bif !eqNod ⟨x.kind, nn, a, b, mn (mx x.pos 0) 400⟩ x then bd1 A S k else psh L n A S i k t
def ownK (L : List Nod) (n : Int) (A S : List Top) (i : Int) (k : Nat) (x : Nod) (a b : Int) (t : Top) : Option (AExit × Out) :=
  bif decide (x.kind = 1) then own L n A S i k x (mx x.n 0) a b t else own L n A S i k x 0 a b t
def part (S : List Top) (j : Nat) (f : Top → Option (AExit × Out)) : Option (AExit × Out) := bif decide (j < S.length) then f (S.getD j default) else none
def pk (S : List Top) (n : Int) : Bool := decide (0 ≤ n ∧ n ≤ 2 ∧ n ≤ (S.length : Int) ∧ S.length ≤ 1000)
def k0 (L : List Nod) (n : Int) (A S : List Top) (i : Int) (x : Nod) : Option (AExit × Out) :=
  bif decide ((S.length : Int) < 0) then bd0 A S else bif pk S 0 then ownK L n A S i S.length x 0 0 ⟨i, 1, 1⟩ else none
def k1 (L : List Nod) (n : Int) (A S : List Top) (i : Int) (x : Nod) : Option (AExit × Out) :=
  bif decide ((S.length : Int) < 1) then bd0 A S else bif pk S 1 then (part S (S.length - 1 + 0) fun t => ownK L n A S i (S.length - 1) x t.pos 0 ⟨i, w64 (1 + t.size), mx 1 (w64 (t.depth + 1))⟩) else none
def k2 (L : List Nod) (n : Int) (A S : List Top) (i : Int) (x : Nod) : Option (AExit × Out) :=
  bif decide ((S.length : Int) < 2) then bd0 A S else bif pk S 2 then (part S (S.length - 2 + 0) fun t => part S (S.length - 2 + 1) fun u =>
    ownK L n A S i (S.length - 2) x t.pos u.pos ⟨i, w64 (w64 (1 + t.size) + u.size), mx (mx 1 (w64 (t.depth + 1))) (w64 (u.depth + 1))⟩) else none
def kP3 (L : List Nod) (n : Int) (A S : List Top) (i : Int) (x : Nod) : Option (AExit × Out) := bif decide (7 ≤ x.kind) then (bif decide (x.kind ≤ 19) then k2 L n A S i x else bd0 A S) else bd0 A S
def kP2 (L : List Nod) (n : Int) (A S : List Top) (i : Int) (x : Nod) : Option (AExit × Out) := bif decide (x.kind = 5) then k1 L n A S i x else bif decide (x.kind = 6) then k1 L n A S i x else kP3 L n A S i x
def kP (L : List Nod) (n : Int) (A S : List Top) (i : Int) (x : Nod) : Option (AExit × Out) := bif decide (1 ≤ x.kind) then (bif decide (x.kind ≤ 4) then k0 L n A S i x else kP2 L n A S i x) else kP2 L n A S i x
theorem turnTo (L : List Nod) (n : Int) (A S : List Top) (i : Int) : (turn (E0 B) (Cx B lib0) (inlL (E0 B) (Cx B lib0) 450) 105 sgTo bTo [.slw 0, i64 n, .slw 1, .slw 2, i64 i] [⟨false, .nodes L⟩, ttb A, ttb S]).sel =
    bif decide (i < n) then (bif decide (0 ≤ i ∧ i < (L.length : Int)) then (bif decide (i.toNat < L.length) then kP L n A S i (L.getD i.toNat default) else none) else none) else exTo A S := by kernel_rfl
theorem eqNod_1 {x : Nod} {a b : Int} (h : x.kind = 1) : eqNod ⟨x.kind, mx x.n 0, a, b, mn (mx x.pos 0) 400⟩ x = okN x a b := by
  unfold eqNod okN mx mn
  rw [Bool.eq_iff_iff]
  simp only [Bool.and_eq_true, decide_eq_true_eq, true_and, and_true]
  constructor
  · rintro ⟨h1, h2, h3, h4⟩
    repeat' split at h4
    all_goals (split at h1 <;> exact ⟨by omega, by omega, by omega, by omega, by omega, .inl h⟩)
  · rintro ⟨h1, h2, h3, h4, h5, h6⟩
    refine ⟨by rw [if_neg (by omega)], h1.symm, h2.symm, ?_⟩
    rw [if_neg (show ¬ (0 : Int) > x.pos by omega), if_neg (by omega)]
theorem eqNod_0 {x : Nod} {a b : Int} (h : ¬ x.kind = 1) : eqNod ⟨x.kind, 0, a, b, mn (mx x.pos 0) 400⟩ x = okN x a b := by
  unfold eqNod okN mx mn
  rw [Bool.eq_iff_iff]
  simp only [Bool.and_eq_true, decide_eq_true_eq, true_and, and_true]
  constructor
  · rintro ⟨h1, h2, h3, h4⟩
    repeat' split at h4
    all_goals exact ⟨by omega, by omega, by omega, by omega, by omega, .inr h1.symm⟩
  · rintro ⟨h1, h2, h3, h4, h5, h6⟩
    refine ⟨by omega, h1.symm, h2.symm, ?_⟩
    rw [if_neg (show ¬ (0 : Int) > x.pos by omega), if_neg (by omega)]
theorem ownK_is {L : List Nod} {n : Int} {A S : List Top} {i : Int} {k : Nat} {x : Nod} {a b : Int} {t : Top} (hk : k ≤ S.length) (hS : S.length ≤ 1000) (hA : A.length ≤ 1000) (h0 : 0 ≤ i) (h1 : i ≤ 1000) :
    ownK L n A S i k x a b t = bif okN x a b then goTo L n (A ++ [t]) (S.take k ++ [t]) (i + 1) else bd1 A S k := by
  have hp : psh L n A S i k t = goTo L n (A ++ [t]) (S.take k ++ [t]) (i + 1) := by
    unfold psh
    rw [List.drop_zero, decide_eq_true (show (S.take k).length + 1 ≤ lim by rw [List.length_take]; simp only [lim]; omega), decide_eq_true (show A.length + 1 ≤ lim by simp only [lim]; omega), w64_rng (show Rng (i + 1) by unfold Rng; omega)]; rfl
  unfold ownK own
  rw [hp]
  by_cases hk1 : x.kind = 1
  · rw [decide_eq_true hk1, cond_true, eqNod_1 hk1]
    cases okN x a b <;> rfl
  · rw [decide_eq_false hk1, cond_false, eqNod_0 hk1]
    cases okN x a b <;> rfl
def endO (o : TopsO) : Option (AExit × Out) := bif o.ok then exTo o.a o.r.reverse else bif o.p then bd1 o.a o.r.reverse (o.r.length - o.k) else bd0 o.a o.r.reverse
def stO (L : List Nod) (n : Int) (A R : List Top) (i : Int) (x : Nod) : Option (AExit × Out) := match stepN i x R with
  | none => bif knOk x.kind && decide (prt x.kind ≤ (R.length : Int)) then bd1 A R.reverse (R.length - (prt x.kind).toNat) else bd0 A R.reverse
  | some (t, R') => goTo L n (A ++ [t]) (t :: R').reverse (i + 1)
theorem part_is {S : List Top} {j : Nat} {t : Top} (h : S[j]? = some t) (f : Top → Option (AExit × Out)) : part S j f = f t := by
  unfold part
  rw [decide_eq_true (List.getElem?_eq_some_iff.1 h).1, show S.getD j default = t by simp [List.getD, h]]; rfl
theorem mx_is (a b : Int) : mx a b = max a b := by unfold mx; split <;> omega
theorem kP_is {L : List Nod} {n : Int} {A R : List Top} {i : Nat} {x : Nod} (hch : Ch A R i) (hA : A.length = i) (hi : i ≤ 1000) (hR : R.length ≤ i) : kP L n A R.reverse i x = stO L n A R i x := by
  have hl : R.reverse.length = R.length := List.length_reverse
  have hp : ∀ m : Int, 0 ≤ m → m ≤ 2 → m ≤ (R.length : Int) → pk R.reverse m = true := fun m h1 h2 h3 => decide_eq_true ⟨h1, h2, by rw [hl]; exact h3, by rw [hl]; omega⟩
  have e0 : 1 ≤ x.kind → x.kind ≤ 4 → k0 L n A R.reverse i x = stO L n A R i x := fun g1 g2 => by
    unfold k0 stO stepN prt knOk
    rw [decide_eq_false (show ¬ (R.reverse.length : Int) < 0 by omega), hp 0 (by omega) (by omega) (by omega), ownK_is (by omega) (by omega) (by omega) (by omega) (by omega), decide_eq_true g1, decide_eq_true g2, decide_eq_true (show x.kind ≤ 19 by omega)]
    cases okN x 0 0 with
    | true =>
      simp only [hl, cond_true, Bool.and_self]
      rw [List.take_of_length_le (by rw [hl]; exact Nat.le_refl _), List.reverse_cons]
      rfl
    | false => simp [hl]
  have e1 : x.kind = 5 ∨ x.kind = 6 → k1 L n A R.reverse i x = stO L n A R i x := fun g => by
    unfold k1 stO stepN prt knOk
    rw [decide_eq_true (show 1 ≤ x.kind by omega), decide_eq_true (show x.kind ≤ 19 by omega), decide_eq_false (show ¬ x.kind ≤ 4 by omega), decide_eq_true (show x.kind ≤ 6 by omega)]
    cases R with
    | nil => rfl
    | cons u R =>
      obtain ⟨g1, g2, g3, g4, g5, g6, g7, g8⟩ := hch
      have hl2 : (u :: R).reverse.length = R.length + 1 := by simp
      have hu : (u :: R).reverse[(u :: R).reverse.length - 1 + 0]? = some u := by rw [hl2]; simp
      rw [decide_eq_false (show ¬ ((u :: R).reverse.length : Int) < 1 by omega), hp 1 (by omega) (by omega) (by simp; omega), part_is hu, ownK_is (by omega) (by simp at hR ⊢; omega) (by omega) (by omega) (by omega),
        w64_rng (show Rng (1 + u.size) by unfold Rng; omega), w64_rng (show Rng (u.depth + 1) by unfold Rng; omega), mx_is]
      simp only [cond_true, cond_false, Bool.and_self]
      cases okN x u.pos 0 with
      | true =>
        simp only [cond_true]
        rw [hl2, show (u :: R).reverse.take (R.length + 1 - 1) = R.reverse by rw [List.reverse_cons, Nat.add_sub_cancel, ← List.length_reverse, List.take_left]]
        simp
      | false =>
        simp only [cond_false]
        rw [hl2, decide_eq_true (show (1 : Int) ≤ ((u :: R).length : Int) by simp; omega)]
        rfl
  have e2 : 7 ≤ x.kind → x.kind ≤ 19 → k2 L n A R.reverse i x = stO L n A R i x := fun g g' => by
    unfold k2 stO stepN prt knOk
    rw [decide_eq_true (show 1 ≤ x.kind by omega), decide_eq_true (show x.kind ≤ 19 by omega), decide_eq_false (show ¬ x.kind ≤ 4 by omega), decide_eq_false (show ¬ x.kind ≤ 6 by omega)]
    match R, hch, hR, hl, hp with
    | [], _, _, _, _ => rfl
    | [_], _, _, _, _ => rfl
    | u :: t :: R, hch, hR, hl, hp =>
      obtain ⟨g1, g2, g3, g4, g5, g6, g7, q1, q2, q3, q4, q5, q6, q7, q8⟩ := hch
      have hl2 : (u :: t :: R).reverse.length = R.length + 2 := by simp
      have hu : (u :: t :: R).reverse[(u :: t :: R).reverse.length - 2 + 1]? = some u := by
        rw [hl2, List.reverse_cons, List.getElem?_append_right (by simp)]; simp
      have ht : (u :: t :: R).reverse[(u :: t :: R).reverse.length - 2 + 0]? = some t := by
        rw [hl2, List.reverse_cons, List.reverse_cons, List.append_assoc, List.getElem?_append_right (by simp)]; simp
      rw [decide_eq_false (show ¬ ((u :: t :: R).reverse.length : Int) < 2 by omega), hp 2 (by omega) (by omega) (by simp; omega), part_is ht, part_is hu, ownK_is (by omega) (by simp at hR ⊢; omega) (by omega) (by omega) (by omega),
        w64_rng (show Rng (1 + t.size) by unfold Rng; omega), w64_rng (show Rng (1 + t.size + u.size) by unfold Rng; omega), w64_rng (show Rng (t.depth + 1) by unfold Rng; omega), w64_rng (show Rng (u.depth + 1) by unfold Rng; omega), mx_is, mx_is]
      simp only [cond_true, cond_false, Bool.and_self]
      cases ho : okN x t.pos u.pos with
      | true =>
        simp only [cond_true]
        rw [hl2, show (u :: t :: R).reverse.take (R.length + 2 - 2) = R.reverse by rw [List.reverse_cons, List.reverse_cons, List.append_assoc, Nat.add_sub_cancel, ← List.length_reverse, List.take_left]]
        simp
      | false =>
        simp only [cond_false]
        rw [hl2, decide_eq_true (show (2 : Int) ≤ ((u :: t :: R).length : Int) by simp; omega)]
        rfl
  have eb : knOk x.kind = false → bd0 A R.reverse = stO L n A R i x := fun g => by
    unfold stO stepN
    rw [g]; rfl
  unfold kP kP2 kP3
  by_cases h1 : 1 ≤ x.kind
  · rw [decide_eq_true h1, cond_true]
    by_cases h4 : x.kind ≤ 4
    · rw [decide_eq_true h4, cond_true, e0 h1 h4]
    rw [decide_eq_false h4, cond_false]
    by_cases h5 : x.kind = 5
    · rw [decide_eq_true h5, cond_true, e1 (.inl h5)]
    rw [decide_eq_false h5, cond_false]
    by_cases h6 : x.kind = 6
    · rw [decide_eq_true h6, cond_true, e1 (.inr h6)]
    rw [decide_eq_false h6, cond_false, decide_eq_true (show 7 ≤ x.kind by omega), cond_true]
    by_cases h19 : x.kind ≤ 19
    · rw [decide_eq_true h19, cond_true, e2 (by omega) h19]
    · rw [decide_eq_false h19, cond_false]
      exact eb (by unfold knOk; rw [decide_eq_false h19, Bool.and_false])
  · rw [decide_eq_false h1, cond_false, decide_eq_false (show ¬ x.kind = 5 by omega), decide_eq_false (show ¬ x.kind = 6 by omega), decide_eq_false (show ¬ 7 ≤ x.kind by omega)]
    exact eb (by unfold knOk; rw [decide_eq_false h1, Bool.false_and])
theorem nod_at {L : List Nod} {i : Nat} {x : Nod} {r : List Nod} (h : L.drop i = x :: r) : i < L.length ∧ L.getD i default = x ∧ L.drop (i + 1) = r := by
  have hlt : i < L.length := by
    rcases Nat.lt_or_ge i L.length with h1 | h1
    · exact h1
    · rw [List.drop_eq_nil_of_le h1] at h; cases h
  rw [List.drop_eq_getElem_cons hlt] at h
  injection h with h1 h2
  exact ⟨hlt, by simp [List.getD, hlt, h1], h2⟩
theorem runTo (L : List Nod) (hL : L.length ≤ 1000) : ∀ (r : List Nod) (i : Nat) (R A : List Top), L.drop i = r → i ≤ L.length → Ch A R i → A.length = i →
    ∃ m, (turns (E0 B) (Cx B lib0) (inlL (E0 B) (Cx B lib0) 450) 105 sgTo bTo m [.slw 0, i64 L.length, .slw 1, .slw 2, i64 i] [⟨false, .nodes L⟩, ttb A, ttb R.reverse]).sel = endO (topsO i r R A)
  | [], i, R, A, hr, hi, hch, hA => by
    have : L.length ≤ i := List.drop_eq_nil_iff.1 hr
    refine ⟨1, turns_done ((turnTo L L.length A R.reverse i).trans ?_) (by simp)⟩
    rw [decide_eq_false (show ¬ (i : Int) < (L.length : Int) by omega)]
    rfl
  | x :: r, i, R, A, hr, hi, hch, hA => by
    obtain ⟨d1, d2, d3⟩ := nod_at hr
    have hle := hch.le
    have ht := turnTo (B := B) L L.length A R.reverse i
    rw [decide_eq_true (show (i : Int) < (L.length : Int) by omega), decide_eq_true (show (0 : Int) ≤ (i : Int) ∧ (i : Int) < (L.length : Int) from ⟨by omega, by omega⟩), decide_eq_true (show ((i : Int)).toNat < L.length by omega),
      show ((i : Int)).toNat = i by omega, d2, kP_is hch hA (by omega) hle] at ht
    simp only [cond_true] at ht
    unfold topsO
    unfold stO at ht
    cases hs : stepN i x R with
    | none =>
      rw [hs] at ht
      simp only at ht ⊢
      refine ⟨1, ?_⟩
      unfold endO
      cases hb : (knOk x.kind && decide (prt x.kind ≤ (R.length : Int))) with
      | true => rw [hb] at ht; exact turns_done ht (by simp)
      | false => rw [hb] at ht; exact turns_done ht (by simp)
    | some tr =>
      obtain ⟨t, R'⟩ := tr
      rw [hs] at ht
      simp only at ht ⊢
      obtain ⟨m, hm⟩ := runTo L hL r (i + 1) (t :: R') (A ++ [t]) d3 (by omega) (hch.step hA hs) (by simp [hA])
      exact ⟨m + 1, (turns_more' ht).trans hm⟩
noncomputable def okTo (L : List Nod) (n : Int) (A S : List Top) (i : Int) : Bool := decide (n = (L.length : Int) ∧ L.length ≤ 1000 ∧ 0 ≤ i ∧ i ≤ n ∧ A.length = i.toNat) && chD A S.reverse i.toNat
def tO (L : List Nod) (A S : List Top) (i : Int) : TopsO := topsO i (L.drop i.toNat) S.reverse A
noncomputable def spTo : LSpec
  | [.slw 0, .int .i64 n, .slw 1, .slw 2, .int .i64 i], [⟨false, .nodes L⟩, ⟨true, .tops A⟩, ⟨true, .tops S⟩] => .node (okTo L n A S i)
      (.node (tO L A S i).ok (.leaf (.exit 0, ⟨[.any, .any, .slw 0, .slw 1], [ttb (tO L A S i).a, ttb (tO L A S i).r.reverse]⟩))
        (.node (tO L A S i).p (.leaf (.ret, ⟨[.slw 0, .bool false, .slw 0, .sl 1 0 ((tO L A S i).r.length - (tO L A S i).k)], [ttb (tO L A S i).a, ttb (tO L A S i).r.reverse]⟩))
          (.leaf (.ret, ⟨[.slw 0, .bool false, .slw 0, .slw 1], [ttb (tO L A S i).a, ttb (tO L A S i).r.reverse]⟩)))) .bad
  | _, _ => .bad
theorem loopTo : LoopOk (E0 B) 105 sgTo bTo spTo := by
  refine loop_turns (C := Cx B lib0) (L := inlL (E0 B) (Cx B lib0) 450) (cxOk lib0_ok) (inl_ok (cxOk lib0_ok) 450 _) fun vs bs e o h => ?_
  unfold spTo at h
  split at h
  · rename_i n i L A S
    rcases T.node_sel h with ⟨hc, h2⟩ | ⟨_, h2⟩
    · unfold okTo at hc
      rw [Bool.and_eq_true] at hc
      obtain ⟨hn, hL, h0, h1, hA⟩ := of_decide_eq_true hc.1
      have hch := chD_is.1 hc.2
      obtain ⟨j, rfl⟩ : ∃ j : Nat, i = (j : Int) := ⟨i.toNat, by omega⟩
      subst hn
      rw [show ((j : Int)).toNat = j by omega] at hA hch
      obtain ⟨m, hm⟩ := runTo (B := B) L hL (L.drop j) j S.reverse A rfl (by omega) hch hA
      rw [List.reverse_reverse] at hm
      refine ⟨m, hm.trans ?_⟩
      have e : tO L A S (j : Int) = topsO (j : Int) (L.drop j) S.reverse A := by unfold tO; rw [show ((j : Int)).toNat = j by omega]
      rw [e] at h2
      rw [← h2]
      unfold endO
      simp only [T.sel]
      cases (topsO (j : Int) (L.drop j) S.reverse A).ok <;> cases (topsO (j : Int) (L.drop j) S.reverse A).p <;> rfl
    · simp [T.sel] at h2
  · simp [T.sel] at h
noncomputable def eTo : LEnt := { id := 3, n := 105, sg := sgTo, wr := writes bTo, s := spTo }
def tO0 (L : List Nod) : TopsO := tO L [] [] 0
theorem tTops (L : List Nod) : runM B lib0 [eTo] Tryz.f114 [.slw 0] [⟨false, .nodes L⟩] =
    bif okTo L L.length [] [] 0 then (bif (tO0 L).ok then some ⟨[.slw 0, .bool (decide (((tO0 L).r.reverse.length : Int) = 1))], [ttb (tO0 L).a]⟩ else bif (tO0 L).p then some ⟨[.slw 0, .bool false], [ttb (tO0 L).a]⟩ else some ⟨[.slw 0, .bool false], [ttb (tO0 L).a]⟩) else none := by kernel_rfl
def sTops : FSpec
  | [.slw 0], [⟨false, .nodes L⟩] => .node (decide (L.length ≤ 1000)) (.leaf ⟨[.slw 0, .bool (topsN 0 L [] []).2], [ttb (topsN 0 L [] []).1]⟩) .bad
  | _, _ => .bad
theorem okTops : FnOk (E0 B) 114 sTops := by
  refine fnM lib0_ok (ls := [eTo]) Tryz.func114 (by kernel_rfl) (by kernel_rfl) (fun x hx => ?_) fun vs bs r h => ?_
  · simp only [List.mem_singleton] at hx; subst hx
    exact ⟨bTo, by kernel_rfl, rfl, loopTo⟩
  unfold sTops at h
  split at h
  · rename_i L
    rcases T.node_sel h with ⟨hc, h2⟩ | ⟨_, h2⟩
    · simp only [T.sel, Option.some.injEq] at h2; subst h2
      refine (tTops L).trans ?_
      rw [show okTo L L.length [] [] 0 = true from by unfold okTo; rw [Bool.and_eq_true]; exact ⟨decide_eq_true ⟨rfl, of_decide_eq_true hc, Int.le_refl _, by omega, rfl⟩, chD_is.2 rfl⟩, topsO_N]
      have e : tO0 L = topsO 0 L [] [] := rfl
      rw [e]
      have e1 : ∀ l : List Top, decide ((l.reverse.length : Int) = 1) = decide (l.length = 1) := fun l => by
        rw [List.length_reverse]
        by_cases h : l.length = 1
        · rw [h]; rfl
        · rw [decide_eq_false h, decide_eq_false (by omega)]
      rw [e1]
      cases (topsO 0 L [] []).ok <;> cases (topsO 0 L [] []).p <;> rfl
    · simp [T.sel] at h2
  · simp [T.sel] at h
noncomputable def lib1 : Tb := (114, [], sTops) :: lib0
theorem lib1_ok : TbOk B lib1 := lib0_ok.add okTops
end Go.Proofs.YtdckpbeioemopabGreatDoor
namespace Go.Proofs.YtdckpbeioemopabGreatDoor
open Go.Am
set_option maxRecDepth 100000
variable {B : Nat → Option Obj}
def allN (L : List Nod) : List Top := (topsN 0 L [] []).1
def isN (L : List Nod) : Bool := (topsN 0 L [] []).2
def ck2 (A : List Top) (e : Int) : Option Out := some ⟨[.slw 0, .int .i64 e], [ttb A]⟩
theorem tCk (L : List Nod) : runT B lib1 Tryz.f80 [.slw 0] [⟨false, .nodes L⟩] =
    bif decide ((60 : Int) < (L.length : Int)) then ck2 [] 4 else bif decide (L.length ≤ 1000) then (bif !isN L then ck2 [] 8 else
      bif decide (0 ≤ w64 (((allN L).length : Int) - 1) ∧ w64 (((allN L).length : Int) - 1) < ((allN L).length : Int)) then (bif decide ((w64 (((allN L).length : Int) - 1)).toNat < (allN L).length) then
        (bif decide (20 < ((allN L).getD (w64 (((allN L).length : Int) - 1)).toNat default).depth) then ck2 [] 34 else ck2 (allN L) 0) else none) else none) else none := by kernel_rfl
def allC (L : List Nod) : List Top := bif decide (chkN L = 0) then allN L else []
theorem isN_len {L : List Nod} (h : isN L = true) : (allN L).length = L.length ∧ 0 < L.length := by
  have hg := sz_go L 0 [] [] rfl rfl
  unfold isN at h
  unfold allN
  rw [show ((0 : Nat) : Int) = 0 from rfl] at hg
  rcases hg with ⟨_, h2⟩ | ⟨A, S, _, h2, h3, h4⟩
  · rw [h2] at h; cases h
  · rw [h2] at h ⊢
    have hS := of_decide_eq_true h
    match S, hS, h3 with
    | [t], _, h3 =>
      have := h3.1
      exact ⟨by simpa using h4, by omega⟩
theorem ck_is (L : List Nod) : runT B lib1 Tryz.f80 [.slw 0] [⟨false, .nodes L⟩] = ck2 (allC L) (chkN L) := by
  refine (tCk L).trans ?_
  have e0 : chkN L = bif decide (60 < L.length) then 4 else bif isN L then (bif decide (20 < (lastT (allN L)).depth) then 34 else 0) else 8 := rfl
  unfold allC
  rw [e0]
  by_cases h6 : 60 < L.length
  · rw [decide_eq_true h6, decide_eq_true (show (60 : Int) < (L.length : Int) by omega)]; rfl
  · rw [decide_eq_false h6, decide_eq_false (show ¬ (60 : Int) < (L.length : Int) by omega), decide_eq_true (show L.length ≤ 1000 by omega)]
    cases hi : isN L with
    | false => rfl
    | true =>
      obtain ⟨l1, l2⟩ := isN_len hi
      rw [w64_rng (show Rng (((allN L).length : Int) - 1) by unfold Rng; omega), decide_eq_true (show 0 ≤ ((allN L).length : Int) - 1 ∧ ((allN L).length : Int) - 1 < ((allN L).length : Int) from ⟨by omega, by omega⟩),
        show (((allN L).length : Int) - 1).toNat = (allN L).length - 1 by omega, decide_eq_true (show (allN L).length - 1 < (allN L).length by omega)]
      have e1 : (allN L).getD ((allN L).length - 1) default = lastT (allN L) := rfl
      rw [e1]
      cases decide (20 < (lastT (allN L)).depth) <;> rfl
def sCk : FSpec
  | [.slw 0], [⟨false, .nodes L⟩] => .leaf ⟨[.slw 0, .int .i64 (chkN L)], [ttb (allC L)]⟩
  | _, _ => .bad
theorem okCk : FnOk (E0 B) 80 sCk := by
  refine fnT lib1_ok Tryz.func80 (by kernel_rfl) (by kernel_rfl) fun vs bs r h => ?_
  unfold sCk at h
  split at h
  · simp only [T.sel, Option.some.injEq] at h; subst h
    exact ck_is _
  · simp [T.sel] at h
def sCheckN : FSpec
  | [.slw 0], [⟨false, .nodes L⟩] => .leaf ⟨[.int .i64 (chkN L)], []⟩
  | _, _ => .bad
noncomputable def lib2 : Tb := (80, [], sCk) :: lib1
theorem lib2_ok : TbOk B lib2 := lib1_ok.add okCk
theorem tCheckN (L : List Nod) : runT B lib2 Tryz.f47 [.slw 0] [⟨false, .nodes L⟩] = some ⟨[.int .i64 (chkN L)], []⟩ := by kernel_rfl
theorem okCheckN : FnOk (E0 B) 47 sCheckN := by
  refine fnT lib2_ok Tryz.func47 (by kernel_rfl) (by kernel_rfl) fun vs bs r h => ?_
  unfold sCheckN at h
  split at h
  · simp only [T.sel, Option.some.injEq] at h; subst h
    exact tCheckN _
  · simp [T.sel] at h
def rtB (x : Nod) (a b : Int) : Option Out := bif decide (0 ≤ x.pos) then (bif decide (x.pos ≤ 400) then (bif decide (x.a = a) then rb (decide (x.b = b)) else rb false) else rb false) else rb false
theorem tRight (x : Nod) (a b : Int) : runT B lib2 Tryz.f88 [.agg x.enc, i64 a, i64 b] [] =
    bif decide (1 ≤ x.kind) then (bif decide (x.kind ≤ 19) then (bif decide (0 ≤ x.n) then (bif decide (x.n = 0) then rtB x a b else bif decide (x.kind = 1) then rtB x a b else rb false) else rb false) else rb false) else rb false := by kernel_rfl
def sRight : FSpec
  | [.agg [.int .u8 k, .int .i64 n, .int .i64 a', .int .i64 b', .int .i64 p], .int .i64 a, .int .i64 b], [] => .leaf ⟨[.bool (knOk k && okN ⟨k, n, a', b', p⟩ a b)], []⟩
  | _, _ => .bad
theorem okRight : FnOk (E0 B) 88 sRight := by
  refine fnT lib2_ok Tryz.func88 (by kernel_rfl) (by kernel_rfl) fun vs bs r h => ?_
  unfold sRight at h
  split at h
  · rename_i k n a' b' p a b
    simp only [T.sel, Option.some.injEq] at h; subst h
    refine (tRight ⟨k, n, a', b', p⟩ a b).trans ?_
    unfold rtB knOk okN
    show _ = rb _
    by_cases h1 : 1 ≤ k <;> by_cases h2 : k ≤ 19 <;> by_cases h3 : 0 ≤ n <;> by_cases h4 : n = 0 <;> by_cases h5 : k = 1 <;> by_cases h6 : 0 ≤ p <;> by_cases h7 : p ≤ 400 <;> by_cases h8 : a' = a <;> simp [h1, h2, h3, h4, h5, h6, h7, h8]
  · simp [T.sel] at h
noncomputable def lib3 : Tb := (88, [], sRight) :: (47, [], sCheckN) :: lib2
theorem lib3_ok : TbOk B lib3 := lib2_ok.add okCheckN |>.add okRight
noncomputable def bSz : Code := loopAt 3 (loopsOf (bodyC Tryz.f53))
def sgSz : LSig := { cs := [(0, 22)], mv := [(5, 23), (6, 23), (7, 0)], mo := [(2, 23), (3, 23), (4, 0), (5, 23), (6, 23)], take := [1, 2] }
def ib' (l : List Int) : Blk := ⟨true, .ints .i64 l⟩
def goSz (L : List Nod) (sz dp : List Int) (i : Int) : Option (AExit × Out) := some (.normal, ⟨[.slw 0, .slw 1, .slw 2, i64 i], [⟨false, .nodes L⟩, ib' sz, ib' dp]⟩)
def exSz (sz dp : List Int) : Option (AExit × Out) := some (.exit 0, ⟨[.any, .any, .any, .slw 0, .slw 1], [ib' sz, ib' dp]⟩)
def bdSz (sz dp : List Int) : Option (AExit × Out) := some (.ret, ⟨[.slw 0, .slw 1, .bool false, .slw 2, .slw 3], [ib' [], ib' [], ib' sz, ib' dp]⟩)
def nAt (L : List Nod) (i : Int) (f : Nod → Option (AExit × Out)) : Option (AExit × Out) := bif decide (0 ≤ i ∧ i < (L.length : Int)) then (bif decide (i.toNat < L.length) then f (L.getD i.toNat default) else none) else none
def zAt (l : List Int) (i : Int) (f : Int → Option (AExit × Out)) : Option (AExit × Out) := bif decide (0 ≤ i ∧ i < (l.length : Int)) then (bif decide (i.toNat < l.length) then f (l.getD i.toNat 0) else none) else none
def finSz (L : List Nod) (sz dp : List Int) (i a b s d : Int) : Option (AExit × Out) :=
  nAt L i fun x => bif !(knOk x.kind && okN x a b) then bdSz sz dp else bif decide (sz.length + 1 ≤ lim) then (bif decide (dp.length + 1 ≤ lim) then goSz L (sz ++ [s]) (dp ++ [d]) (w64 (i + 1)) else none) else none
def mxI (a b : Int) : Int := if b > a then b else a
def pSz (L : List Nod) (sz dp : List Int) (i : Int) (two : Bool) : Option (AExit × Out) :=
  bif decide (w64 (i - 1) < 0) then bdSz sz dp else zAt sz (w64 (i - 1)) fun v => zAt sz (w64 (i - 1)) fun v' => zAt dp (w64 (i - 1)) fun d =>
    bif two then (bif decide (w64 (w64 (i - 1) - v) < 0) then bdSz sz dp else zAt sz (w64 (w64 (i - 1) - v)) fun u => zAt dp (w64 (w64 (i - 1) - v)) fun e =>
      finSz L sz dp i (w64 (w64 (i - 1) - v)) (w64 (i - 1)) (w64 (w64 (1 + v') + u)) (mxI (w64 (1 + d)) (w64 (1 + e))))
    else finSz L sz dp i (w64 (i - 1)) 0 (w64 (1 + v')) (w64 (1 + d))
theorem turnSz (L : List Nod) (sz dp : List Int) (i : Int) : (turn (E0 B) (Cx B lib3) noL 102 sgSz bSz [.slw 0, .slw 1, .slw 2, i64 i] [⟨false, .nodes L⟩, ib' sz, ib' dp]).sel =
    bif decide (i < (L.length : Int)) then (nAt L i fun x => bif decide (x.kind ≤ 4) then finSz L sz dp i 0 0 1 1 else bif decide (x.kind ≤ 6) then pSz L sz dp i false else pSz L sz dp i true) else exSz sz dp := by kernel_rfl
theorem nAt_is {L : List Nod} {i : Nat} {x : Nod} {r : List Nod} (h : L.drop i = x :: r) (f : Nod → Option (AExit × Out)) : nAt L i f = f x := by
  obtain ⟨h1, h2, _⟩ := nod_at h
  unfold nAt
  rw [decide_eq_true (show (0 : Int) ≤ (i : Int) ∧ (i : Int) < (L.length : Int) from ⟨by omega, by omega⟩), show ((i : Int)).toNat = i by omega, decide_eq_true h1, h2]; rfl
theorem zAt_is {l : List Int} {i : Int} (h0 : 0 ≤ i) (h1 : i < (l.length : Int)) (f : Int → Option (AExit × Out)) : zAt l i f = f (l.getD i.toNat 0) := by
  unfold zAt
  rw [decide_eq_true (show 0 ≤ i ∧ i < (l.length : Int) from ⟨h0, h1⟩), decide_eq_true (show i.toNat < l.length by omega)]; rfl
def stSz (L : List Nod) (sz dp : List Int) (i : Int) (x : Nod) : Option (AExit × Out) := match szStep i x sz dp with
  | none => bdSz sz dp
  | some (s, d) => goSz L (sz ++ [s]) (dp ++ [d]) (i + 1)
theorem mxI_is (a b : Int) : mxI a b = max a b := by unfold mxI; split <;> omega
theorem finSz_is {L : List Nod} {sz dp : List Int} {i : Nat} {x : Nod} {r : List Nod} (h : L.drop i = x :: r) (hi : i ≤ 1000) (l1 : sz.length = i) (l2 : dp.length = i) (a b s d : Int) :
    finSz L sz dp i a b s d = bif knOk x.kind && okN x a b then goSz L (sz ++ [s]) (dp ++ [d]) (i + 1) else bdSz sz dp := by
  unfold finSz
  rw [nAt_is h, decide_eq_true (show sz.length + 1 ≤ lim by simp only [lim]; omega), decide_eq_true (show dp.length + 1 ≤ lim by simp only [lim]; omega), w64_rng (show Rng ((i : Int) + 1) by unfold Rng; omega)]
  cases (knOk x.kind && okN x a b) <;> rfl
theorem stepSz {L : List Nod} {sz dp : List Int} {i : Nat} {x : Nod} {r : List Nod} (h : L.drop i = x :: r) (hi : i ≤ 1000) (l1 : sz.length = i) (l2 : dp.length = i) (b1 : Bo sz) (b2 : Bo dp) :
    (bif decide (x.kind ≤ 4) then finSz L sz dp i 0 0 1 1 else bif decide (x.kind ≤ 6) then pSz L sz dp i false else pSz L sz dp i true) = stSz L sz dp i x := by
  unfold stSz szStep
  cases h4 : decide (x.kind ≤ 4) with
  | true =>
    simp only [cond_true]
    rw [finSz_is h hi l1 l2]
    cases (knOk x.kind && okN x 0 0) <;> rfl
  | false =>
    simp only [cond_false]
    have w1 : w64 ((i : Int) - 1) = (i : Int) - 1 := w64_rng (by unfold Rng; omega)
    unfold pSz
    rw [w1]
    by_cases h0 : (i : Int) - 1 < 0
    · rw [decide_eq_true h0]
      cases decide (x.kind ≤ 6) <;> rfl
    rw [decide_eq_false h0]
    have e1 : ((i : Int) - 1).toNat = i - 1 := by omega
    have c1 := b1.at (j := i - 1) (by omega)
    have c2 := b2.at (j := i - 1) (by omega)
    simp only [cond_false]
    cases h6 : decide (x.kind ≤ 6) with
    | true =>
      simp only [cond_true]
      rw [zAt_is (by omega) (by omega), zAt_is (by omega) (by omega), e1]
      generalize hv : sz.getD (i - 1) 0 = v at c1
      generalize hd : dp.getD (i - 1) 0 = d at c2
      rw [zAt_is (by omega) (by omega), e1, hd, finSz_is h hi l1 l2, w64_rng (show Rng (1 + v) by unfold Rng; omega), w64_rng (show Rng (1 + d) by unfold Rng; omega)]
      cases (knOk x.kind && okN x ((i : Int) - 1) 0) <;> rfl
    | false =>
      simp only [cond_false]
      rw [zAt_is (by omega) (by omega), zAt_is (by omega) (by omega), e1]
      generalize hv : sz.getD (i - 1) 0 = v at c1
      generalize hd : dp.getD (i - 1) 0 = d at c2
      rw [zAt_is (by omega) (by omega), e1, hd, w64_rng (show Rng ((i : Int) - 1 - v) by unfold Rng; omega)]
      by_cases hf : (i : Int) - 1 - v < 0
      · rw [decide_eq_true hf]; rfl
      rw [decide_eq_false hf]
      have c3 := b1.at (j := ((i : Int) - 1 - v).toNat) (by omega)
      have c4 := b2.at (j := ((i : Int) - 1 - v).toNat) (by omega)
      simp only [cond_false]
      rw [zAt_is (by omega) (by omega), zAt_is (by omega) (by omega)]
      generalize sz.getD ((i : Int) - 1 - v).toNat 0 = u at c3
      generalize dp.getD ((i : Int) - 1 - v).toNat 0 = e at c4
      rw [finSz_is h hi l1 l2, w64_rng (show Rng (1 + v) by unfold Rng; omega), w64_rng (show Rng (1 + v + u) by unfold Rng; omega), w64_rng (show Rng (1 + d) by unfold Rng; omega), w64_rng (show Rng (1 + e) by unfold Rng; omega), mxI_is]
      cases (knOk x.kind && okN x ((i : Int) - 1 - v) ((i : Int) - 1)) <;> rfl
def endSz (o : Bool × List Int × List Int) : Option (AExit × Out) := bif o.1 then exSz o.2.1 o.2.2 else bdSz o.2.1 o.2.2
theorem runSz (L : List Nod) (hL : L.length ≤ 1000) : ∀ (r : List Nod) (i : Nat) (sz dp : List Int), L.drop i = r → i ≤ L.length → sz.length = i → dp.length = i → Bo sz → Bo dp →
    ∃ m, (turns (E0 B) (Cx B lib3) noL 102 sgSz bSz m [.slw 0, .slw 1, .slw 2, i64 i] [⟨false, .nodes L⟩, ib' sz, ib' dp]).sel = endSz (szO i r sz dp)
  | [], i, sz, dp, hr, hi, l1, l2, b1, b2 => by
    have : L.length ≤ i := List.drop_eq_nil_iff.1 hr
    refine ⟨1, turns_done ((turnSz L sz dp i).trans ?_) (by simp)⟩
    rw [decide_eq_false (show ¬ (i : Int) < (L.length : Int) by omega)]
    rfl
  | x :: r, i, sz, dp, hr, hi, l1, l2, b1, b2 => by
    obtain ⟨d1, d2, d3⟩ := nod_at hr
    have ht := turnSz (B := B) L sz dp i
    rw [decide_eq_true (show (i : Int) < (L.length : Int) by omega), nAt_is hr, stepSz hr (by omega) l1 l2 b1 b2] at ht
    simp only [cond_true] at ht
    unfold szO
    unfold stSz at ht
    cases hs : szStep i x sz dp with
    | none =>
      rw [hs] at ht
      exact ⟨1, turns_done ht (by simp)⟩
    | some sd =>
      obtain ⟨s, d⟩ := sd
      rw [hs] at ht
      simp only at ht ⊢
      obtain ⟨g1, g2⟩ := szStep_bo b1 b2 l1 l2 hs
      obtain ⟨m, hm⟩ := runSz L hL r (i + 1) (sz ++ [s]) (dp ++ [d]) d3 (by omega) (by simp [l1]) (by simp [l2]) g1 g2
      exact ⟨m + 1, (turns_more' ht).trans hm⟩
noncomputable def okSz (L : List Nod) (sz dp : List Int) (i : Int) : Bool := decide (L.length ≤ 1000 ∧ 0 ≤ i ∧ i ≤ (L.length : Int) ∧ sz.length = i.toNat ∧ dp.length = i.toNat) && (boD sz && boD dp)
def sO (L : List Nod) (sz dp : List Int) (i : Int) : Bool × List Int × List Int := szO i (L.drop i.toNat) sz dp
noncomputable def spSz : LSpec
  | [.slw 0, .slw 1, .slw 2, .int .i64 i], [⟨false, .nodes L⟩, ⟨true, .ints .i64 sz⟩, ⟨true, .ints .i64 dp⟩] => .node (okSz L sz dp i)
      (.node (sO L sz dp i).1 (.leaf (.exit 0, ⟨[.any, .any, .any, .slw 0, .slw 1], [ib' (sO L sz dp i).2.1, ib' (sO L sz dp i).2.2]⟩))
        (.leaf (.ret, ⟨[.slw 0, .slw 1, .bool false, .slw 2, .slw 3], [ib' [], ib' [], ib' (sO L sz dp i).2.1, ib' (sO L sz dp i).2.2]⟩))) .bad
  | _, _ => .bad
theorem loopSz : LoopOk (E0 B) 102 sgSz bSz spSz := by
  refine loop_turns (C := Cx B lib3) (L := noL) (cxOk lib3_ok) (noL_ok _) fun vs bs e o h => ?_
  unfold spSz at h
  split at h
  · rename_i i L sz dp
    rcases T.node_sel h with ⟨hc, h2⟩ | ⟨_, h2⟩
    · unfold okSz at hc
      simp only [Bool.and_eq_true] at hc
      obtain ⟨hL, h0, h1, l1, l2⟩ := of_decide_eq_true hc.1
      obtain ⟨j, rfl⟩ : ∃ j : Nat, i = (j : Int) := ⟨i.toNat, by omega⟩
      rw [show ((j : Int)).toNat = j by omega] at l1 l2
      obtain ⟨m, hm⟩ := runSz (B := B) L hL (L.drop j) j sz dp rfl (by omega) l1 l2 (boD_is.1 hc.2.1) (boD_is.1 hc.2.2)
      refine ⟨m, hm.trans ?_⟩
      have e : sO L sz dp (j : Int) = szO (j : Int) (L.drop j) sz dp := by unfold sO; rw [show ((j : Int)).toNat = j by omega]
      rw [e] at h2
      rw [← h2]
      unfold endSz
      simp only [T.sel]
      cases (szO (j : Int) (L.drop j) sz dp).1 <;> rfl
    · simp [T.sel] at h2
  · simp [T.sel] at h
noncomputable def eSz : LEnt := { id := 3, n := 102, sg := sgSz, wr := writes bSz, s := spSz }
def sO0 (L : List Nod) : Bool × List Int × List Int := sO L [] [] 0
def szR (L : List Nod) (b : Bool) : Option Out := some ⟨[.slw 0, .slw 1, .bool b], [ib' (sO0 L).2.1, ib' (sO0 L).2.2]⟩
theorem tSizes (L : List Nod) : runM B lib3 [eSz] Tryz.f53 [.slw 0] [⟨false, .nodes L⟩] =
    bif okSz L [] [] 0 then (bif (sO0 L).1 then (bif decide ((0 : Int) < (L.length : Int)) then (bif decide (0 ≤ w64 ((L.length : Int) - 1) ∧ w64 ((L.length : Int) - 1) < ((sO0 L).2.1.length : Int)) then (bif decide ((w64 ((L.length : Int) - 1)).toNat < (sO0 L).2.1.length) then
      szR L (decide ((sO0 L).2.1.getD (w64 ((L.length : Int) - 1)).toNat 0 = (L.length : Int))) else none) else none) else szR L false) else some ⟨[.slw 0, .slw 1, .bool false], [ib' [], ib' []]⟩) else none := by kernel_rfl
def szL (L : List Nod) : List Int := bif (sO0 L).1 then (sO0 L).2.1 else []
def dpL (L : List Nod) : List Int := bif (sO0 L).1 then (sO0 L).2.2 else []
def isR (L : List Nod) : Bool := (sO0 L).1 && szOk L (sO0 L).2.1
def sSizes : FSpec
  | [.slw 0], [⟨false, .nodes L⟩] => .node (decide (L.length ≤ 1000)) (.leaf ⟨[.slw 0, .slw 1, .bool (isR L)], [ib' (szL L), ib' (dpL L)]⟩) .bad
  | _, _ => .bad
theorem sO_len {L : List Nod} (h : (sO0 L).1 = true) : (sO0 L).2.1.length = L.length ∧ (sO0 L).2.2.length = L.length := by
  have e : sO0 L = szO 0 L [] [] := rfl
  have hg := sz_go L 0 [] [] rfl rfl
  rw [show ((0 : Nat) : Int) = 0 from rfl, List.map_nil, List.map_nil, szO_go, ← e, h, cond_true] at hg
  rcases hg with ⟨h1, _⟩ | ⟨A, S, h1, _, _, h4⟩
  · cases h1
  · rw [Option.some.injEq] at h1
    rw [h1]
    simp only [List.length_map]
    omega
theorem okSizes : FnOk (E0 B) 53 sSizes := by
  refine fnM lib3_ok (ls := [eSz]) Tryz.func53 (by kernel_rfl) (by kernel_rfl) (fun x hx => ?_) fun vs bs r h => ?_
  · simp only [List.mem_singleton] at hx; subst hx
    exact ⟨bSz, by kernel_rfl, rfl, loopSz⟩
  unfold sSizes at h
  split at h
  · rename_i L
    rcases T.node_sel h with ⟨hc, h2⟩ | ⟨_, h2⟩
    · simp only [T.sel, Option.some.injEq] at h2; subst h2
      have hL := of_decide_eq_true hc
      refine (tSizes L).trans ?_
      rw [show okSz L [] [] 0 = true from by
        unfold okSz; simp only [Bool.and_eq_true]
        exact ⟨decide_eq_true ⟨hL, Int.le_refl _, by omega, rfl, rfl⟩, boD_is.2 (fun j v hj => by simp at hj), boD_is.2 (fun j v hj => by simp at hj)⟩]
      unfold isR szL dpL szOk
      cases h1 : (sO0 L).1 with
      | false => rfl
      | true =>
        obtain ⟨g1, g2⟩ := sO_len h1
        simp only [cond_true, Bool.true_and]
        by_cases hp : 0 < L.length
        · rw [decide_eq_true hp, decide_eq_true (show (0 : Int) < (L.length : Int) by omega), w64_rng (show Rng ((L.length : Int) - 1) by unfold Rng; omega), g1,
            decide_eq_true (show 0 ≤ (L.length : Int) - 1 ∧ (L.length : Int) - 1 < (L.length : Int) from ⟨by omega, by omega⟩), show ((L.length : Int) - 1).toNat = L.length - 1 by omega, decide_eq_true (show L.length - 1 < L.length by omega)]
          rfl
        · rw [decide_eq_false hp, decide_eq_false (show ¬ (0 : Int) < (L.length : Int) by omega)]; rfl
    · simp [T.sel] at h2
  · simp [T.sel] at h
noncomputable def lib4 : Tb := (53, [], sSizes) :: lib3
theorem lib4_ok : TbOk B lib4 := lib3_ok.add okSizes
def ri (n : Int) : Option Out := some ⟨[.int .i64 n], []⟩
theorem tCheckR (L : List Nod) : runT B lib4 Tryz.f21 [.slw 0] [⟨false, .nodes L⟩] =
    bif decide ((60 : Int) < (L.length : Int)) then ri 4 else bif decide (L.length ≤ 1000) then (bif !isR L then ri 8 else
      bif decide (0 ≤ w64 ((L.length : Int) - 1) ∧ w64 ((L.length : Int) - 1) < ((dpL L).length : Int)) then (bif decide ((w64 ((L.length : Int) - 1)).toNat < (dpL L).length) then
        (bif decide (20 < (dpL L).getD (w64 ((L.length : Int) - 1)).toNat 0) then ri 34 else ri 0) else none) else none) else none := by kernel_rfl
theorem checkR_is (L : List Nod) : runT B lib4 Tryz.f21 [.slw 0] [⟨false, .nodes L⟩] = ri (chkN L) := by
  refine (tCheckR L).trans ?_
  rw [← chkR_is]
  have e : sO0 L = szO 0 L [] [] := rfl
  unfold chkR isR
  rw [szO_go, ← e]
  by_cases h6 : 60 < L.length
  · rw [decide_eq_true h6, decide_eq_true (show (60 : Int) < (L.length : Int) by omega)]; rfl
  · rw [decide_eq_false h6, decide_eq_false (show ¬ (60 : Int) < (L.length : Int) by omega), decide_eq_true (show L.length ≤ 1000 by omega)]
    cases h1 : (sO0 L).1 with
    | false => rfl
    | true =>
      obtain ⟨g1, g2⟩ := sO_len h1
      have e2 : dpL L = (sO0 L).2.2 := by unfold dpL; rw [h1]; rfl
      simp only [cond_true, cond_false, Bool.true_and]
      cases hk : szOk L (sO0 L).2.1 with
      | false => rfl
      | true =>
        have hp : 0 < L.length := by
          unfold szOk at hk
          rw [Bool.and_eq_true] at hk
          exact of_decide_eq_true hk.1
        have g3 : (dpL L).length = L.length := by rw [e2]; exact g2
        rw [w64_rng (show Rng ((L.length : Int) - 1) by unfold Rng; omega),
          decide_eq_true (show 0 ≤ (L.length : Int) - 1 ∧ (L.length : Int) - 1 < ((dpL L).length : Int) from ⟨by omega, by omega⟩), show ((L.length : Int) - 1).toNat = L.length - 1 by omega, decide_eq_true (show L.length - 1 < (dpL L).length by omega), ← e2]
        simp only [Bool.not_true, cond_true, cond_false]
        cases decide (20 < (dpL L).getD (L.length - 1) 0) <;> rfl
theorem okCheckR : FnOk (E0 B) 21 sCheckN := by
  refine fnT lib4_ok Tryz.func21 (by kernel_rfl) (by kernel_rfl) fun vs bs r h => ?_
  unfold sCheckN at h
  split at h
  · simp only [T.sel, Option.some.injEq] at h; subst h
    exact checkR_is _
  · simp [T.sel] at h
noncomputable def lib5 : Tb := (21, [], sCheckN) :: lib4
theorem lib5_ok : TbOk B lib5 := lib4_ok.add okCheckR
end Go.Proofs.YtdckpbeioemopabGreatDoor
