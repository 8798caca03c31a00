/-
  Texts put together: NodFn, NodRef.
-/
import Derived.Test.YtfniiapkghpihabGreatDoorNodBase
import Derived.Test.YtfniiapkghpihabGreatDoorPureA
/-
  Nodes: tops, Check and the reference's by contract.
-/
namespace Go.Proofs.YtfniiapkghpihabGreatDoor
open Go.Am
set_option maxRecDepth 100000
variable {B : Nat → Option Obj}
def ttb (l : List Top) : Blk := ⟨true, .tops l⟩
def popO (L : List Top) (k n : Nat) : Out := ⟨[.sl 0 0 k, .sl 0 k n], [ttb L]⟩
def popN (L : List Top) (n : Int) : Option Out :=
  bif decide (0 ≤ (0 : Int) ∧ 0 ≤ w64 ((L.length : Int) - n) ∧ w64 ((L.length : Int) - n) ≤ (L.length : Int)) then (bif decide (0 ≤ w64 ((L.length : Int) - n) ∧ w64 ((L.length : Int) - n) ≤ (L.length : Int)) then
    some (⟨[.sl 0 0 ((w64 ((L.length : Int) - n)).toNat - 0), .sl 0 (w64 ((L.length : Int) - n)).toNat (L.length - (w64 ((L.length : Int) - n)).toNat)], [ttb L]⟩ : Out) else none) else none
theorem tPop (L : List Top) (n : Int) : runT B [] Tryz.f95 [.slw 0, i64 n] [ttb L] = popN L n := by kernel_rfl
def sPop : FSpec
  | [.slw 0, .int .i64 n], [⟨true, .tops L⟩] => .node (decide (0 ≤ n ∧ n ≤ 2 ∧ n ≤ (L.length : Int) ∧ L.length ≤ 1000))
      (.node (decide (n = 0)) (.leaf (popO L L.length 0)) (.node (decide (n = 1)) (.leaf (popO L (L.length - 1) 1)) (.leaf (popO L (L.length - 2) 2)))) .bad
  | _, _ => .bad
theorem okPop : FnOk (E0 B) 95 sPop := by
  refine fnT TbOk.nil Tryz.func95 (by kernel_rfl) (by kernel_rfl) fun vs bs r h => ?_
  unfold sPop at h
  split at h
  · rename_i n L
    rcases T.node_sel h with ⟨hc, h2⟩ | ⟨_, h2⟩
    · obtain ⟨h0, h1, h3, h4⟩ := of_decide_eq_true hc
      refine (tPop L n).trans ?_
      unfold popN
      rw [w64_rng (show Rng ((L.length : Int) - n) by unfold Rng; omega), decide_eq_true (show 0 ≤ (0 : Int) ∧ 0 ≤ (L.length : Int) - n ∧ (L.length : Int) - n ≤ (L.length : Int) from ⟨by omega, by omega, by omega⟩),
        decide_eq_true (show 0 ≤ (L.length : Int) - n ∧ (L.length : Int) - n ≤ (L.length : Int) from ⟨by omega, by omega⟩)]
      simp only [cond_true]
      rw [← h2]
      by_cases n0 : n = 0
      · subst n0
        simp only [T.sel, decide_true, cond_true, popO]
        rw [show ((L.length : Int) - 0).toNat = L.length by omega, Nat.sub_zero, Nat.sub_self]
      · by_cases n1 : n = 1
        · subst n1
          simp only [T.sel, decide_true, cond_true, popO]
          rw [show ((L.length : Int) - 1).toNat = L.length - 1 by omega, Nat.sub_zero, show L.length - (L.length - 1) = 1 by omega]
          rfl
        · have n2 : n = 2 := by omega
          subst n2
          simp only [T.sel, popO]
          rw [show ((L.length : Int) - 2).toNat = L.length - 2 by omega, Nat.sub_zero, show L.length - (L.length - 2) = 2 by omega]
          rfl
    · simp [T.sel] at h2
  · simp [T.sel] at h
noncomputable def lib0 : Tb := (95, [0], sPop) :: []
theorem lib0_ok : TbOk B lib0 := TbOk.nil.add okPop
noncomputable def bTo : Code := loopAt 3 (loopsOf (bodyC Tryz.f79))
def sgTo : LSig := { cs := [(15, 25), (16, 0)], mv := [(4, 106), (5, 106), (17, 0)], mo := [(2, 106), (3, 0), (4, 106), (5, 106)], take := [1, 2] }
/-! one turn -/
def mx (a b : Int) : Int := if b > a then b else a
def mn (a b : Int) : Int := if b < a then b else a
def goTo (L : List Nod) (n : Int) (A S : List Top) (i : Int) : Option (AExit × Out) := some (.normal, ⟨[.slw 0, i64 n, .slw 1, .slw 2, i64 i], [⟨false, .nodes L⟩, ttb A, ttb S]⟩)
def exTo (A S : List Top) : Option (AExit × Out) := some (.exit 0, ⟨[.any, .any, .slw 0, .slw 1], [ttb A, ttb S]⟩)
def bd0 (A S : List Top) : Option (AExit × Out) := some (.ret, ⟨[.slw 0, .bool false, .slw 0, .slw 1], [ttb A, ttb S]⟩)
def bd1 (A S : List Top) (k : Nat) : Option (AExit × Out) := some (.ret, ⟨[.slw 0, .bool false, .slw 0, .sl 1 0 k], [ttb A, ttb S]⟩)
def eqNod (x y : Nod) : Bool := decide (x.kind = y.kind) && (decide (x.n = y.n) && (decide (x.a = y.a) && (decide (x.b = y.b) && (decide (x.pos = y.pos) && true))))
def psh (L : List Nod) (n : Int) (A S : List Top) (i : Int) (k : Nat) (t : Top) : Option (AExit × Out) :=
  bif decide (((S.drop 0).take k).length + 1 ≤ lim) then (bif decide (A.length + 1 ≤ lim) then goTo L n (A ++ [t]) ((S.drop 0).take k ++ [t]) (w64 (i + 1)) else none) else none
def own (L : List Nod) (n : Int) (A S : List Top) (i : Int) (k : Nat) (x : Nod) (nn a b : Int) (t : Top) : Option (AExit × Out) :=
  bif !eqNod ⟨x.kind, nn, a, b, mn (mx x.pos 0) 400⟩ x then bd1 A S k else psh L n A S i k t
def ownK (L : List Nod) (n : Int) (A S : List Top) (i : Int) (k : Nat) (x : Nod) (a b : Int) (t : Top) : Option (AExit × Out) :=
  bif decide (x.kind = 1) then own L n A S i k x (mx x.n 0) a b t else own L n A S i k x 0 a b t
def part (S : List Top) (j : Nat) (f : Top → Option (AExit × Out)) : Option (AExit × Out) := bif decide (j < S.length) then f (S.getD j default) else none
def pk (S : List Top) (n : Int) : Bool := decide (0 ≤ n ∧ n ≤ 2 ∧ n ≤ (S.length : Int) ∧ S.length ≤ 1000)
def k0 (L : List Nod) (n : Int) (A S : List Top) (i : Int) (x : Nod) : Option (AExit × Out) :=
  bif decide ((S.length : Int) < 0) then bd0 A S else bif pk S 0 then ownK L n A S i S.length x 0 0 ⟨i, 1, 1⟩ else none
def k1 (L : List Nod) (n : Int) (A S : List Top) (i : Int) (x : Nod) : Option (AExit × Out) :=
  bif decide ((S.length : Int) < 1) then bd0 A S else bif pk S 1 then (part S (S.length - 1 + 0) fun t => ownK L n A S i (S.length - 1) x t.pos 0 ⟨i, w64 (1 + t.size), mx 1 (w64 (t.depth + 1))⟩) else none
def k2 (L : List Nod) (n : Int) (A S : List Top) (i : Int) (x : Nod) : Option (AExit × Out) :=
  bif decide ((S.length : Int) < 2) then bd0 A S else bif pk S 2 then (part S (S.length - 2 + 0) fun t => part S (S.length - 2 + 1) fun u =>
    ownK L n A S i (S.length - 2) x t.pos u.pos ⟨i, w64 (w64 (1 + t.size) + u.size), mx (mx 1 (w64 (t.depth + 1))) (w64 (u.depth + 1))⟩) else none
def kP3 (L : List Nod) (n : Int) (A S : List Top) (i : Int) (x : Nod) : Option (AExit × Out) := bif decide (7 ≤ x.kind) then (bif decide (x.kind ≤ 19) then k2 L n A S i x else bd0 A S) else bd0 A S
def kP2 (L : List Nod) (n : Int) (A S : List Top) (i : Int) (x : Nod) : Option (AExit × Out) := bif decide (x.kind = 5) then k1 L n A S i x else bif decide (x.kind = 6) then k1 L n A S i x else kP3 L n A S i x
def kP (L : List Nod) (n : Int) (A S : List Top) (i : Int) (x : Nod) : Option (AExit × Out) := bif decide (1 ≤ x.kind) then (bif decide (x.kind ≤ 4) then k0 L n A S i x else kP2 L n A S i x) else kP2 L n A S i x
theorem turnTo (L : List Nod) (n : Int) (A S : List Top) (i : Int) : (turn (E0 B) (Cx B lib0) (inlL (E0 B) (Cx B lib0) 450) 105 sgTo bTo [.slw 0, i64 n, .slw 1, .slw 2, i64 i] [⟨false, .nodes L⟩, ttb A, ttb S]).sel =
    bif decide (i < n) then (bif decide (0 ≤ i ∧ i < (L.length : Int)) then (bif decide (i.toNat < L.length) then kP L n A S i (L.getD i.toNat default) else none) else none) else exTo A S := by kernel_rfl
theorem eqNod_1 {x : Nod} {a b : Int} (h : x.kind = 1) : eqNod ⟨x.kind, mx x.n 0, a, b, mn (mx x.pos 0) 400⟩ x = okN x a b := by
  unfold eqNod okN mx mn
  rw [Bool.eq_iff_iff]
  simp only [Bool.and_eq_true, decide_eq_true_eq, true_and, and_true]
  constructor
  · rintro ⟨h1, h2, h3, h4⟩
    repeat' split at h4
    all_goals (split at h1 <;> exact ⟨by omega, by omega, by omega, by omega, by omega, .inl h⟩)
  · rintro ⟨h1, h2, h3, h4, h5, h6⟩
    refine ⟨by rw [if_neg (by omega)], h1.symm, h2.symm, ?_⟩
    rw [if_neg (show ¬ (0 : Int) > x.pos by omega), if_neg (by omega)]
theorem eqNod_0 {x : Nod} {a b : Int} (h : ¬ x.kind = 1) : eqNod ⟨x.kind, 0, a, b, mn (mx x.pos 0) 400⟩ x = okN x a b := by
  unfold eqNod okN mx mn
  rw [Bool.eq_iff_iff]
  simp only [Bool.and_eq_true, decide_eq_true_eq, true_and, and_true]
  constructor
  · rintro ⟨h1, h2, h3, h4⟩
    repeat' split at h4
    all_goals exact ⟨by omega, by omega, by omega, by omega, by omega, .inr h1.symm⟩
  · rintro ⟨h1, h2, h3, h4, h5, h6⟩
    refine ⟨by omega, h1.symm, h2.symm, ?_⟩
    rw [if_neg (show ¬ (0 : Int) > x.pos by omega), if_neg (by omega)]
theorem ownK_is {L : List Nod} {n : Int} {A S : List Top} {i : Int} {k : Nat} {x : Nod} {a b : Int} {t : Top} (hk : k ≤ S.length) (hS : S.length ≤ 1000) (hA : A.length ≤ 1000) (h0 : 0 ≤ i) (h1 : i ≤ 1000) :
    ownK L n A S i k x a b t = bif okN x a b then goTo L n (A ++ [t]) (S.take k ++ [t]) (i + 1) else bd1 A S k := by
  have hp : psh L n A S i k t = goTo L n (A ++ [t]) (S.take k ++ [t]) (i + 1) := by
    unfold psh
    rw [List.drop_zero, decide_eq_true (show (S.take k).length + 1 ≤ lim by rw [List.length_take]; simp only [lim]; omega), decide_eq_true (show A.length + 1 ≤ lim by simp only [lim]; omega), w64_rng (show Rng (i + 1) by unfold Rng; omega)]; rfl
  unfold ownK own
  rw [hp]
  by_cases hk1 : x.kind = 1
  · rw [decide_eq_true hk1, cond_true, eqNod_1 hk1]
    cases okN x a b <;> rfl
  · rw [decide_eq_false hk1, cond_false, eqNod_0 hk1]
    cases okN x a b <;> rfl
def endO (o : TopsO) : Option (AExit × Out) := bif o.ok then exTo o.a o.r.reverse else bif o.p then bd1 o.a o.r.reverse (o.r.length - o.k) else bd0 o.a o.r.reverse
def stO (L : List Nod) (n : Int) (A R : List Top) (i : Int) (x : Nod) : Option (AExit × Out) := match stepN i x R with
  | none => bif knOk x.kind && decide (prt x.kind ≤ (R.length : Int)) then bd1 A R.reverse (R.length - (prt x.kind).toNat) else bd0 A R.reverse
  | some (t, R') => goTo L n (A ++ [t]) (t :: R').reverse (i + 1)
theorem part_is {S : List Top} {j : Nat} {t : Top} (h : S[j]? = some t) (f : Top → Option (AExit × Out)) : part S j f = f t := by
  unfold part
  rw [decide_eq_true (List.getElem?_eq_some_iff.1 h).1, show S.getD j default = t by simp [List.getD, h]]; rfl
theorem mx_is (a b : Int) : mx a b = max a b := by unfold mx; split <;> omega
theorem kP_is {L : List Nod} {n : Int} {A R : List Top} {i : Nat} {x : Nod} (hch : Ch A R i) (hA : A.length = i) (hi : i ≤ 1000) (hR : R.length ≤ i) : kP L n A R.reverse i x = stO L n A R i x := by
  have hl : R.reverse.length = R.length := List.length_reverse
  have hp : ∀ m : Int, 0 ≤ m → m ≤ 2 → m ≤ (R.length : Int) → pk R.reverse m = true := fun m h1 h2 h3 => decide_eq_true ⟨h1, h2, by rw [hl]; exact h3, by rw [hl]; omega⟩
  have e0 : 1 ≤ x.kind → x.kind ≤ 4 → k0 L n A R.reverse i x = stO L n A R i x := fun g1 g2 => by
    unfold k0 stO stepN prt knOk
    rw [decide_eq_false (show ¬ (R.reverse.length : Int) < 0 by omega), hp 0 (by omega) (by omega) (by omega), ownK_is (by omega) (by omega) (by omega) (by omega) (by omega), decide_eq_true g1, decide_eq_true g2, decide_eq_true (show x.kind ≤ 19 by omega)]
    cases okN x 0 0 with
    | true =>
      simp only [hl, cond_true, Bool.and_self]
      rw [List.take_of_length_le (by rw [hl]; exact Nat.le_refl _), List.reverse_cons]
      rfl
    | false => simp [hl]
  have e1 : x.kind = 5 ∨ x.kind = 6 → k1 L n A R.reverse i x = stO L n A R i x := fun g => by
    unfold k1 stO stepN prt knOk
    rw [decide_eq_true (show 1 ≤ x.kind by omega), decide_eq_true (show x.kind ≤ 19 by omega), decide_eq_false (show ¬ x.kind ≤ 4 by omega), decide_eq_true (show x.kind ≤ 6 by omega)]
    cases R with
    | nil => rfl
    | cons u R =>
      obtain ⟨g1, g2, g3, g4, g5, g6, g7, g8⟩ := hch
      have hl2 : (u :: R).reverse.length = R.length + 1 := by simp
      have hu : (u :: R).reverse[(u :: R).reverse.length - 1 + 0]? = some u := by rw [hl2]; simp
      rw [decide_eq_false (show ¬ ((u :: R).reverse.length : Int) < 1 by omega), hp 1 (by omega) (by omega) (by simp; omega), part_is hu, ownK_is (by omega) (by simp at hR ⊢; omega) (by omega) (by omega) (by omega),
        w64_rng (show Rng (1 + u.size) by unfold Rng; omega), w64_rng (show Rng (u.depth + 1) by unfold Rng; omega), mx_is]
      simp only [cond_true, cond_false, Bool.and_self]
      cases okN x u.pos 0 with
      | true =>
        simp only [cond_true]
        rw [hl2, show (u :: R).reverse.take (R.length + 1 - 1) = R.reverse by rw [List.reverse_cons, Nat.add_sub_cancel, ← List.length_reverse, List.take_left]]
        simp
      | false =>
        simp only [cond_false]
        rw [hl2, decide_eq_true (show (1 : Int) ≤ ((u :: R).length : Int) by simp; omega)]
        rfl
  have e2 : 7 ≤ x.kind → x.kind ≤ 19 → k2 L n A R.reverse i x = stO L n A R i x := fun g g' => by
    unfold k2 stO stepN prt knOk
    rw [decide_eq_true (show 1 ≤ x.kind by omega), decide_eq_true (show x.kind ≤ 19 by omega), decide_eq_false (show ¬ x.kind ≤ 4 by omega), decide_eq_false (show ¬ x.kind ≤ 6 by omega)]
    match R, hch, hR, hl, hp with
    | [], _, _, _, _ => rfl
    | [_], _, _, _, _ => rfl
    | u :: t :: R, hch, hR, hl, hp =>
      obtain ⟨g1, g2, g3, g4, g5, g6, g7, q1, q2, q3, q4, q5, q6, q7, q8⟩ := hch
      have hl2 : (u :: t :: R).reverse.length = R.length + 2 := by simp
      have hu : (u :: t :: R).reverse[(u :: t :: R).reverse.length - 2 + 1]? = some u := by
        rw [hl2, List.reverse_cons, List.getElem?_append_right (by simp)]; simp
      have ht : (u :: t :: R).reverse[(u :: t :: R).reverse.length - 2 + 0]? = some t := by
        rw [hl2, List.reverse_cons, List.reverse_cons, List.append_assoc, List.getElem?_append_right (by simp)]; simp
      rw [decide_eq_false (show ¬ ((u :: t :: R).reverse.length : Int) < 2 by omega), hp 2 (by omega) (by omega) (by simp; omega), part_is ht, part_is hu, ownK_is (by omega) (by simp at hR ⊢; omega) (by omega) (by omega) (by omega),
        w64_rng (show Rng (1 + t.size) by unfold Rng; omega), w64_rng (show Rng (1 + t.size + u.size) by unfold Rng; omega), w64_rng (show Rng (t.depth + 1) by unfold Rng; omega), w64_rng (show Rng (u.depth + 1) by unfold Rng; omega), mx_is, mx_is]
      simp only [cond_true, cond_false, Bool.and_self]
      cases ho : okN x t.pos u.pos with
      | true =>
        simp only [cond_true]
        rw [hl2, show (u :: t :: R).reverse.take (R.length + 2 - 2) = R.reverse by rw [List.reverse_cons, List.reverse_cons, List.append_assoc, Nat.add_sub_cancel, ← List.length_reverse, List.take_left]]
        simp
      | false =>
        simp only [cond_false]
        rw [hl2, decide_eq_true (show (2 : Int) ≤ ((u :: t :: R).length : Int) by simp; omega)]
        rfl
  have eb : knOk x.kind = false → bd0 A R.reverse = stO L n A R i x := fun g => by
    unfold stO stepN
    rw [g]; rfl
  unfold kP kP2 kP3
  by_cases h1 : 1 ≤ x.kind
  · rw [decide_eq_true h1, cond_true]
    by_cases h4 : x.kind ≤ 4
    · rw [decide_eq_true h4, cond_true, e0 h1 h4]
    rw [decide_eq_false h4, cond_false]
    by_cases h5 : x.kind = 5
    · rw [decide_eq_true h5, cond_true, e1 (.inl h5)]
    rw [decide_eq_false h5, cond_false]
    by_cases h6 : x.kind = 6
    · rw [decide_eq_true h6, cond_true, e1 (.inr h6)]
    rw [decide_eq_false h6, cond_false, decide_eq_true (show 7 ≤ x.kind by omega), cond_true]
    by_cases h19 : x.kind ≤ 19
    · rw [decide_eq_true h19, cond_true, e2 (by omega) h19]
    · rw [decide_eq_false h19, cond_false]
      exact eb (by unfold knOk; rw [decide_eq_false h19, Bool.and_false])
  · rw [decide_eq_false h1, cond_false, decide_eq_false (show ¬ x.kind = 5 by omega), decide_eq_false (show ¬ x.kind = 6 by omega), decide_eq_false (show ¬ 7 ≤ x.kind by omega)]
    exact eb (by unfold knOk; rw [decide_eq_false h1, Bool.false_and])
theorem nod_at {L : List Nod} {i : Nat} {x : Nod} {r : List Nod} (h : L.drop i = x :: r) : i < L.length ∧ L.getD i default = x ∧ L.drop (i + 1) = r := by
  have hlt : i < L.length := by
    rcases Nat.lt_or_ge i L.length with h1 | h1
    · exact h1
    · rw [List.drop_eq_nil_of_le h1] at h; cases h
  rw [List.drop_eq_getElem_cons hlt] at h
  injection h with h1 h2
  exact ⟨hlt, by simp [List.getD, hlt, h1], h2⟩
theorem runTo (L : List Nod) (hL : L.length ≤ 1000) : ∀ (r : List Nod) (i : Nat) (R A : List Top), L.drop i = r → i ≤ L.length → Ch A R i → A.length = i →
    ∃ m, (turns (E0 B) (Cx B lib0) (inlL (E0 B) (Cx B lib0) 450) 105 sgTo bTo m [.slw 0, i64 L.length, .slw 1, .slw 2, i64 i] [⟨false, .nodes L⟩, ttb A, ttb R.reverse]).sel = endO (topsO i r R A)
  | [], i, R, A, hr, hi, hch, hA => by
    have : L.length ≤ i := List.drop_eq_nil_iff.1 hr
    refine ⟨1, turns_done ((turnTo L L.length A R.reverse i).trans ?_) (by simp)⟩
    rw [decide_eq_false (show ¬ (i : Int) < (L.length : Int) by omega)]
    rfl
  | x :: r, i, R, A, hr, hi, hch, hA => by
    obtain ⟨d1, d2, d3⟩ := nod_at hr
    have hle := hch.le
    have ht := turnTo (B := B) L L.length A R.reverse i
    rw [decide_eq_true (show (i : Int) < (L.length : Int) by omega), decide_eq_true (show (0 : Int) ≤ (i : Int) ∧ (i : Int) < (L.length : Int) from ⟨by omega, by omega⟩), decide_eq_true (show ((i : Int)).toNat < L.length by omega),
      show ((i : Int)).toNat = i by omega, d2, kP_is hch hA (by omega) hle] at ht
    simp only [cond_true] at ht
    unfold topsO
    unfold stO at ht
    cases hs : stepN i x R with
    | none =>
      rw [hs] at ht
      simp only at ht ⊢
      refine ⟨1, ?_⟩
      unfold endO
      cases hb : (knOk x.kind && decide (prt x.kind ≤ (R.length : Int))) with
      | true => rw [hb] at ht; exact turns_done ht (by simp)
      | false => rw [hb] at ht; exact turns_done ht (by simp)
    | some tr =>
      obtain ⟨t, R'⟩ := tr
      rw [hs] at ht
      simp only at ht ⊢
      obtain ⟨m, hm⟩ := runTo L hL r (i + 1) (t :: R') (A ++ [t]) d3 (by omega) (hch.step hA hs) (by simp [hA])
      exact ⟨m + 1, (turns_more' ht).trans hm⟩
noncomputable def okTo (L : List Nod) (n : Int) (A S : List Top) (i : Int) : Bool := decide (n = (L.length : Int) ∧ L.length ≤ 1000 ∧ 0 ≤ i ∧ i ≤ n ∧ A.length = i.toNat) && chD A S.reverse i.toNat
def tO (L : List Nod) (A S : List Top) (i : Int) : TopsO := topsO i (L.drop i.toNat) S.reverse A
noncomputable def spTo : LSpec
  | [.slw 0, .int .i64 n, .slw 1, .slw 2, .int .i64 i], [⟨false, .nodes L⟩, ⟨true, .tops A⟩, ⟨true, .tops S⟩] => .node (okTo L n A S i)
      (.node (tO L A S i).ok (.leaf (.exit 0, ⟨[.any, .any, .slw 0, .slw 1], [ttb (tO L A S i).a, ttb (tO L A S i).r.reverse]⟩))
        (.node (tO L A S i).p (.leaf (.ret, ⟨[.slw 0, .bool false, .slw 0, .sl 1 0 ((tO L A S i).r.length - (tO L A S i).k)], [ttb (tO L A S i).a, ttb (tO L A S i).r.reverse]⟩))
          (.leaf (.ret, ⟨[.slw 0, .bool false, .slw 0, .slw 1], [ttb (tO L A S i).a, ttb (tO L A S i).r.reverse]⟩)))) .bad
  | _, _ => .bad
theorem loopTo : LoopOk (E0 B) 105 sgTo bTo spTo := by
  refine loop_turns (C := Cx B lib0) (L := inlL (E0 B) (Cx B lib0) 450) (cxOk lib0_ok) (inl_ok (cxOk lib0_ok) 450 _) fun vs bs e o h => ?_
  unfold spTo at h
  split at h
  · rename_i n i L A S
    rcases T.node_sel h with ⟨hc, h2⟩ | ⟨_, h2⟩
    · unfold okTo at hc
      rw [Bool.and_eq_true] at hc
      obtain ⟨hn, hL, h0, h1, hA⟩ := of_decide_eq_true hc.1
      have hch := chD_is.1 hc.2
      obtain ⟨j, rfl⟩ : ∃ j : Nat, i = (j : Int) := ⟨i.toNat, by omega⟩
      subst hn
      rw [show ((j : Int)).toNat = j by omega] at hA hch
      obtain ⟨m, hm⟩ := runTo (B := B) L hL (L.drop j) j S.reverse A rfl (by omega) hch hA
      rw [List.reverse_reverse] at hm
      refine ⟨m, hm.trans ?_⟩
      have e : tO L A S (j : Int) = topsO (j : Int) (L.drop j) S.reverse A := by unfold tO; rw [show ((j : Int)).toNat = j by omega]
      rw [e] at h2
      rw [← h2]
      unfold endO
      simp only [T.sel]
      cases (topsO (j : Int) (L.drop j) S.reverse A).ok <;> cases (topsO (j : Int) (L.drop j) S.reverse A).p <;> rfl
    · simp [T.sel] at h2
  · simp [T.sel] at h
noncomputable def eTo : LEnt := { id := 3, n := 105, sg := sgTo, wr := writes bTo, s := spTo }
def tO0 (L : List Nod) : TopsO := tO L [] [] 0
theorem tTops (L : List Nod) : runM B lib0 [eTo] Tryz.f79 [.slw 0] [⟨false, .nodes L⟩] =
    bif okTo L L.length [] [] 0 then (bif (tO0 L).ok then some ⟨[.slw 0, .bool (decide (((tO0 L).r.reverse.length : Int) = 1))], [ttb (tO0 L).a]⟩ else bif (tO0 L).p then some ⟨[.slw 0, .bool false], [ttb (tO0 L).a]⟩ else some ⟨[.slw 0, .bool false], [ttb (tO0 L).a]⟩) else none := by kernel_rfl
def sTops : FSpec
  | [.slw 0], [⟨false, .nodes L⟩] => .node (decide (L.length ≤ 1000)) (.leaf ⟨[.slw 0, .bool (topsN 0 L [] []).2], [ttb (topsN 0 L [] []).1]⟩) .bad
  | _, _ => .bad
theorem okTops : FnOk (E0 B) 79 sTops := by
  refine fnM lib0_ok (ls := [eTo]) Tryz.func79 (by kernel_rfl) (by kernel_rfl) (fun x hx => ?_) fun vs bs r h => ?_
  · simp only [List.mem_singleton] at hx; subst hx
    exact ⟨bTo, by kernel_rfl, rfl, loopTo⟩
  unfold sTops at h
  split at h
  · rename_i L
    rcases T.node_sel h with ⟨hc, h2⟩ | ⟨_, h2⟩
    · simp only [T.sel, Option.some.injEq] at h2; subst h2
      refine (tTops L).trans ?_
      rw [show okTo L L.length [] [] 0 = true from by unfold okTo; rw [Bool.and_eq_true]; exact ⟨decide_eq_true ⟨rfl, of_decide_eq_true hc, Int.le_refl _, by omega, rfl⟩, chD_is.2 rfl⟩, topsO_N]
      have e : tO0 L = topsO 0 L [] [] := rfl
      rw [e]
      have e1 : ∀ l : List Top, decide ((l.reverse.length : Int) = 1) = decide (l.length = 1) := fun l => by
        rw [List.length_reverse]
        by_cases h : l.length = 1
        · rw [h]; rfl
        · rw [decide_eq_false h, decide_eq_false (by omega)]
      rw [e1]
      cases (topsO 0 L [] []).ok <;> cases (topsO 0 L [] []).p <;> rfl
    · simp [T.sel] at h2
  · simp [T.sel] at h
noncomputable def lib1 : Tb := (79, [], sTops) :: lib0
theorem lib1_ok : TbOk B lib1 := lib0_ok.add okTops
end Go.Proofs.YtfniiapkghpihabGreatDoor
/-
  Nodes: Check and the reference's by contract.
-/
namespace Go.Proofs.YtfniiapkghpihabGreatDoor
open Go.Am
set_option maxRecDepth 100000
variable {B : Nat → Option Obj}
/-! nodes.check, nodes.Check -/
def allN (L : List Nod) : List Top := (topsN 0 L [] []).1
def isN (L : List Nod) : Bool := (topsN 0 L [] []).2
def ck2 (A : List Top) (e : Int) : Option Out := some ⟨[.slw 0, .int .i64 e], [ttb A]⟩
theorem tCk (L : List Nod) : runT B lib1 Tryz.f51 [.slw 0] [⟨false, .nodes L⟩] =
    bif decide ((60 : Int) < (L.length : Int)) then ck2 [] 4 else bif decide (L.length ≤ 1000) then (bif !isN L then ck2 [] 8 else
      bif decide (0 ≤ w64 (((allN L).length : Int) - 1) ∧ w64 (((allN L).length : Int) - 1) < ((allN L).length : Int)) then (bif decide ((w64 (((allN L).length : Int) - 1)).toNat < (allN L).length) then
        (bif decide (20 < ((allN L).getD (w64 (((allN L).length : Int) - 1)).toNat default).depth) then ck2 [] 34 else ck2 (allN L) 0) else none) else none) else none := by kernel_rfl
def allC (L : List Nod) : List Top := bif decide (chkN L = 0) then allN L else []
theorem isN_len {L : List Nod} (h : isN L = true) : (allN L).length = L.length ∧ 0 < L.length := by
  have hg := sz_go L 0 [] [] rfl rfl
  unfold isN at h
  unfold allN
  rw [show ((0 : Nat) : Int) = 0 from rfl] at hg
  rcases hg with ⟨_, h2⟩ | ⟨A, S, _, h2, h3, h4⟩
  · rw [h2] at h; cases h
  · rw [h2] at h ⊢
    have hS := of_decide_eq_true h
    match S, hS, h3 with
    | [t], _, h3 =>
      have := h3.1
      exact ⟨by simpa using h4, by omega⟩
theorem ck_is (L : List Nod) : runT B lib1 Tryz.f51 [.slw 0] [⟨false, .nodes L⟩] = ck2 (allC L) (chkN L) := by
  refine (tCk L).trans ?_
  have e0 : chkN L = bif decide (60 < L.length) then 4 else bif isN L then (bif decide (20 < (lastT (allN L)).depth) then 34 else 0) else 8 := rfl
  unfold allC
  rw [e0]
  by_cases h6 : 60 < L.length
  · rw [decide_eq_true h6, decide_eq_true (show (60 : Int) < (L.length : Int) by omega)]; rfl
  · rw [decide_eq_false h6, decide_eq_false (show ¬ (60 : Int) < (L.length : Int) by omega), decide_eq_true (show L.length ≤ 1000 by omega)]
    cases hi : isN L with
    | false => rfl
    | true =>
      obtain ⟨l1, l2⟩ := isN_len hi
      rw [w64_rng (show Rng (((allN L).length : Int) - 1) by unfold Rng; omega), decide_eq_true (show 0 ≤ ((allN L).length : Int) - 1 ∧ ((allN L).length : Int) - 1 < ((allN L).length : Int) from ⟨by omega, by omega⟩),
        show (((allN L).length : Int) - 1).toNat = (allN L).length - 1 by omega, decide_eq_true (show (allN L).length - 1 < (allN L).length by omega)]
      have e1 : (allN L).getD ((allN L).length - 1) default = lastT (allN L) := rfl
      rw [e1]
      cases decide (20 < (lastT (allN L)).depth) <;> rfl
def sCk : FSpec
  | [.slw 0], [⟨false, .nodes L⟩] => .leaf ⟨[.slw 0, .int .i64 (chkN L)], [ttb (allC L)]⟩
  | _, _ => .bad
theorem okCk : FnOk (E0 B) 51 sCk := by
  refine fnT lib1_ok Tryz.func51 (by kernel_rfl) (by kernel_rfl) fun vs bs r h => ?_
  unfold sCk at h
  split at h
  · simp only [T.sel, Option.some.injEq] at h; subst h
    exact ck_is _
  · simp [T.sel] at h
def sCheckN : FSpec
  | [.slw 0], [⟨false, .nodes L⟩] => .leaf ⟨[.int .i64 (chkN L)], []⟩
  | _, _ => .bad
noncomputable def lib2 : Tb := (51, [], sCk) :: lib1
theorem lib2_ok : TbOk B lib2 := lib1_ok.add okCk
theorem tCheckN (L : List Nod) : runT B lib2 Tryz.f23 [.slw 0] [⟨false, .nodes L⟩] = some ⟨[.int .i64 (chkN L)], []⟩ := by kernel_rfl
theorem okCheckN : FnOk (E0 B) 23 sCheckN := by
  refine fnT lib2_ok Tryz.func23 (by kernel_rfl) (by kernel_rfl) fun vs bs r h => ?_
  unfold sCheckN at h
  split at h
  · simp only [T.sel, Option.some.injEq] at h; subst h
    exact tCheckN _
  · simp [T.sel] at h
/-! the reference's right -/
noncomputable def lib3 : Tb := (23, [], sCheckN) :: lib2
theorem lib3_ok : TbOk B lib3 := lib2_ok.add okCheckN
/-! the reference's Sizes -/
noncomputable def lib4 : Tb := lib3
theorem lib4_ok : TbOk B lib4 := lib3_ok
def ri (n : Int) : Option Out := some ⟨[.int .i64 n], []⟩
noncomputable def lib5 : Tb := lib4
theorem lib5_ok : TbOk B lib5 := lib4_ok
end Go.Proofs.YtfniiapkghpihabGreatDoor
