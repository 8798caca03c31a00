/-
  IntsDoes: the implementation's words and the reference's are the same.
-/
import Derived.Test.YtbccnahpdmaocaaIntsDoesFns
namespace Go.Proofs.Ytbccnahpdmaocaa
open Go.Am
set_option maxRecDepth 100000
set_option linter.unusedVariables false

def Rng (a : Int) : Prop := -9223372036854775808 ≤ a ∧ a ≤ 9223372036854775807
instance (a : Int) : Decidable (Rng a) := by unfold Rng; exact inferInstance
theorem w64_eq (n : Int) : w64 n = (n + 9223372036854775808) % 18446744073709551616 - 9223372036854775808 := IntKind.wrap_i64 n
theorem w64_rng {n : Int} (h : Rng n) : w64 n = n := by unfold Rng at h; rw [w64_eq]; omega
theorem w64_add (n q : Int) : w64 (n + 18446744073709551616 * q) = w64 n := by rw [w64_eq, w64_eq]; omega
theorem count_eq (b : Int) : count b = b % 64 := by
  unfold count
  rw [show IntKind.u64.wrap b = b % 18446744073709551616 from by simp [IntKind.wrap, IntKind.bits, IntKind.signed], Int.tmod_eq_emod_of_nonneg (by omega)]
  rw [show b % 18446744073709551616 % 64 = b % 64 from by omega]
  exact w64_small (by omega) (by omega)
theorem count_rng (b : Int) : 0 ≤ count b ∧ count b ≤ 64 := by rw [count_eq]; omega
def and63 (b : Int) : Int := IntKind.i64.wrap ((BitVec.ofInt IntKind.i64.bits b) &&& (BitVec.ofInt IntKind.i64.bits 63)).toNat
theorem and63_eq (b : Int) : and63 b = b % 64 := by
  have h : ((BitVec.ofInt IntKind.i64.bits b) &&& (BitVec.ofInt IntKind.i64.bits 63)).toNat = (b % 18446744073709551616).toNat % 64 := by
    rw [BitVec.toNat_and, BitVec.toNat_ofInt, BitVec.toNat_ofInt]
    show (b % 18446744073709551616).toNat &&& 63 = _
    exact Nat.and_two_pow_sub_one_eq_mod _ 6
  unfold and63
  rw [h]
  show w64 _ = _
  rw [w64_small (by omega) (by omega)]
  omega
theorem dbl_w (y : Int) : dbl (w64 y) = w64 (y * 2) := by
  unfold dbl; rw [w64_eq (y * 2), w64_eq (w64 y + w64 y), w64_eq y]; omega
theorem iter_dbl (n : Nat) (y : Int) : iter dbl n (w64 y) = w64 (y * 2 ^ n) := by
  induction n generalizing y with
  | zero => simp [iter]
  | succ n ih => rw [iter, dbl_w, ih, Int.pow_succ, Int.mul_assoc, Int.mul_comm 2]
theorem w64_mul (a p : Int) : w64 (a * w64 p) = w64 (a * p) := by
  obtain ⟨q, hq⟩ : ∃ q, w64 p = p + 18446744073709551616 * q := by
    rw [w64_eq]
    refine ⟨-((p + 9223372036854775808) / 18446744073709551616), ?_⟩
    omega
  rw [hq, Int.mul_add, ← Int.mul_assoc, Int.mul_comm a 18446744073709551616, Int.mul_assoc]
  exact w64_add _ _
theorem half_eq {a : Int} (h : Rng a) : half a = a / 2 := by
  unfold Rng at h
  unfold half
  rcases Int.lt_or_le a 0 with h0 | h0
  · obtain ⟨m, rfl⟩ : ∃ m, a = -m := ⟨-a, by omega⟩
    rw [Int.neg_tmod, Int.neg_tdiv, Int.tmod_eq_emod_of_nonneg (by omega), Int.tdiv_eq_ediv_of_nonneg (by omega)]
    cases hd : decide (-(m % 2) < 0) with
    | true =>
      have := of_decide_eq_true hd
      rw [cond_true, w64_rng (n := -(m / 2)) (by unfold Rng; omega), w64_rng (by unfold Rng; omega)]; omega
    | false =>
      have := of_decide_eq_false hd
      rw [cond_false, w64_rng (by unfold Rng; omega)]; omega
  · rw [Int.tmod_eq_emod_of_nonneg h0, Int.tdiv_eq_ediv_of_nonneg h0]
    have : decide (a % 2 < 0) = false := by simp; omega
    rw [this, cond_false, w64_rng (by unfold Rng; omega)]
theorem iter_half (n : Nat) {a : Int} (h : Rng a) : iter half n a = a.fdiv (2 ^ n) := by
  rw [Int.fdiv_eq_ediv_of_nonneg _ (Int.pow_nonneg (by omega))]
  induction n generalizing a with
  | zero => simp [iter]
  | succ n ih =>
    rw [iter, half_eq h, ih (by unfold Rng at h ⊢; omega), Int.pow_succ, Int.mul_comm]
    rw [Int.ediv_ediv_of_nonneg (by omega)]
theorem or_zero {a b : Int} (ha : Rng a) (hb : Rng b) : decide (IntKind.i64.wrap ((BitVec.ofInt IntKind.i64.bits a) ||| (BitVec.ofInt IntKind.i64.bits b)).toNat = 0) = (decide (a = 0) && decide (b = 0)) := by
  unfold Rng at ha hb
  rw [← Bool.decide_and, decide_eq_decide]
  generalize hx : (BitVec.ofInt IntKind.i64.bits a ||| BitVec.ofInt IntKind.i64.bits b) = x
  have hlt : x.toNat < 18446744073709551616 := x.isLt
  rw [IntKind.wrap_i64]
  have h1 : x.toNat = 0 ↔ x = 0#_ := by rw [BitVec.toNat_eq]; rfl
  have hz : ∀ c : Int, -9223372036854775808 ≤ c ∧ c ≤ 9223372036854775807 → (BitVec.ofInt IntKind.i64.bits c = 0#_ ↔ c = 0) := by
    intro c hc
    rw [BitVec.toNat_eq, BitVec.toNat_ofInt]
    show (c % 18446744073709551616).toNat = 0 ↔ _
    omega
  have h2 : x = 0#_ ↔ a = 0 ∧ b = 0 := by rw [← hx, BitVec.or_eq_zero_iff, hz a ha, hz b hb]
  rw [← h2, ← h1]
  omega

def given (k a b : Int) : Int :=
  bif decide (k = 5) then w64 (0 - a) else bif decide (k = 6) then ti (decide (a = 0)) else bif decide (k = 7) then w64 (a * b) else bif decide (k = 8) then w64 (a + b) else bif decide (k = 9) then w64 (a - b)
  else bif decide (k = 10) then w64 (a * w64 (2 ^ (b % 64).toNat)) else bif decide (k = 11) then a.fdiv (2 ^ (b % 64).toNat)
  else bif decide (k = 18) then ti (!decide (a = 0) && !decide (b = 0)) else bif decide (k = 19) then ti (!decide (a = 0) || !decide (b = 0)) else ti (cmp k a b)
def sGiven : FSpec
  | [.c (.int .u8 k), .c (.int .i64 a), .c (.int .i64 b)] => .node (decide (Rng a)) (.leaf (.one (i64 (given k a b)))) .bad
  | _ => .bad
theorem ok7 : FnOk E0 7 sGiven := by
  refine fn_ok (fn := Try.f7) (c := bodyC Try.f7) Try.func7 (by kernel_rfl) (by kernel_rfl) C7 (l := [e7]) (loopL_one (b := b7) (by kernel_rfl) (by kernel_rfl) loop7) fun ras r h => ?_
  unfold sGiven at h
  split at h
  · rename_i k a b
    cases hc : decide (Rng a) with
    | false => simp [hc, T.sel] at h
    | true =>
      simp only [T.sel, hc, cond_true, Option.some.injEq] at h
      subst h
      have ha := of_decide_eq_true hc
      refine (t7 k a b).trans ?_
      have hcr := count_rng b
      rw [show decide (0 ≤ count b ∧ count b ≤ 64) = true from by simp; omega, show decide (0 ≤ (0 : Int) ∧ 0 ≤ count b ∧ count b ≤ 64) = true from by simp; omega, cond_true, cond_true, Int.sub_zero]
      rw [iter_half _ ha, show iter dbl (count b).toNat 1 = w64 (2 ^ (count b).toNat) from by rw [← Int.one_mul (2 ^ (count b).toNat), ← iter_dbl, w64_small (by omega) (by omega)], count_eq]
      unfold given
      cases decide (k = 5)
      rotate_left
      · rfl
      cases decide (k = 6)
      rotate_left
      · rfl
      cases decide (k = 7)
      rotate_left
      · rfl
      cases decide (k = 8)
      rotate_left
      · rfl
      cases decide (k = 9)
      rotate_left
      · rfl
      cases decide (k = 10)
      rotate_left
      · rfl
      cases decide (k = 11)
      rotate_left
      · rfl
      cases decide (k = 18) <;> cases decide (k = 19) <;> cases decide (a = 0) <;> cases decide (b = 0) <;> rfl
  · simp [T.sel] at h

def ans (k a b : Int) : RV := .tup [i64 (bif decide (k < 5) || decide (19 < k) then 0 else given k a b), i64 (bif decide (k < 5) || decide (19 < k) then 2 else 0)]
def sDo : FSpec
  | [.c (.int .u8 k), .c (.int .i64 a), .c (.int .i64 b)] => .node (decide (Rng a ∧ Rng b)) (.leaf (ans k a b)) .bad
  | _ => .bad
def rp (x e : Int) : Option RV := some (.tup [i64 x, i64 e])
noncomputable def l5 : List (FuncId × FSpec) := [(7, sGiven)]
theorem C5 : CallOk E0 (Cx l5) := specC_ok (tab_ok (by
  intro x hx
  simp only [l5, List.mem_singleton] at hx
  subst hx; exact ok7))
theorem t5 (k a b : Int) : (fnRun E0 (Cx l5) (Lx []) Try.f5 (bodyC Try.f5) [.c (.int .u8 k), i64 a, i64 b]).sel =
    bif decide (k < 5) then rp 0 2 else bif (bif false then true else decide (19 < k)) then rp 0 2 else bif decide (Rng a) then rp (given k a b) 0 else none := by kernel_rfl
theorem ok5 : FnOk E0 5 sDo := by
  refine fn_ok (fn := Try.f5) (c := bodyC Try.f5) Try.func5 (by kernel_rfl) (by kernel_rfl) C5 (l := []) (loopsOk_nil (by kernel_rfl)) fun ras r h => ?_
  unfold sDo at h
  split at h
  · rename_i k a b
    cases hc : decide (Rng a ∧ Rng b) with
    | false => simp [hc, T.sel] at h
    | true =>
      simp only [T.sel, hc, cond_true, Option.some.injEq] at h
      subst h
      obtain ⟨ha, hb⟩ := of_decide_eq_true hc
      refine (t5 k a b).trans ?_
      rw [show decide (Rng a) = true from by simpa using ha]
      unfold ans rp
      cases decide (k < 5) <;> cases decide (19 < k) <;> rfl
  · simp [T.sel] at h
noncomputable def l4 : List (FuncId × FSpec) := [(6, sTruth)]
theorem C4 : CallOk E0 (Cx l4) := specC_ok (tab_ok (by
  intro x hx
  simp only [l4, List.mem_singleton] at hx
  subst hx; exact ok6))
theorem t4 (k a b : Int) : (fnRun E0 (Cx l4) (Lx []) Try.f4 (bodyC Try.f4) [.c (.int .u8 k), i64 a, i64 b]).sel =
    bif decide (k = 5) then rp (w64 (0 - a)) 0 else bif decide (k = 6) then rp (ti (decide (a = 0))) 0 else bif decide (k = 7) then rp (w64 (a * b)) 0 else bif decide (k = 8) then rp (w64 (a + b)) 0 else bif decide (k = 9) then rp (w64 (a - b)) 0
    else bif decide (k = 10) then (bif decide (0 ≤ and63 b) then rp (w64 (a * 2 ^ (min (and63 b).toNat 64))) 0 else none)
    else bif decide (k = 11) then (bif decide (0 ≤ and63 b) then rp (a.fdiv (2 ^ (min (and63 b).toNat 64))) 0 else none)
    else bif decide (k = 12) then rp (ti (decide (a < b))) 0 else bif decide (k = 13) then rp (ti (decide (a ≤ b))) 0 else bif decide (k = 14) then rp (ti (decide (b < a))) 0
    else bif decide (k = 15) then rp (ti (decide (b ≤ a))) 0 else bif decide (k = 16) then rp (ti (decide (a = b))) 0 else bif decide (k = 17) then rp (ti (!decide (a = b))) 0
    else bif decide (k = 18) then (bif !decide (a = 0) then rp (ti (bif true then !decide (b = 0) else false)) 0 else rp (ti false) 0)
    else bif decide (k = 19) then rp (ti (!decide (IntKind.i64.wrap ((BitVec.ofInt IntKind.i64.bits a) ||| (BitVec.ofInt IntKind.i64.bits b)).toNat = 0))) 0
    else rp 0 2 := by kernel_rfl
theorem ok4 : FnOk E0 4 sDo := by
  refine fn_ok (fn := Try.f4) (c := bodyC Try.f4) Try.func4 (by kernel_rfl) (by kernel_rfl) C4 (l := []) (loopsOk_nil (by kernel_rfl)) fun ras r h => ?_
  unfold sDo at h
  split at h
  · rename_i k a b
    cases hc : decide (Rng a ∧ Rng b) with
    | false => simp [hc, T.sel] at h
    | true =>
      simp only [T.sel, hc, cond_true, Option.some.injEq] at h
      subst h
      obtain ⟨ha, hb⟩ := of_decide_eq_true hc
      refine (t4 k a b).trans ?_
      rw [or_zero ha hb, and63_eq, show decide (0 ≤ b % 64) = true from by simp; omega, cond_true, cond_true, show min (b % 64).toNat 64 = (b % 64).toNat from by omega]
      unfold ans rp given cmp
      rw [w64_mul]
      have hle : decide (a ≤ b) = (decide (a < b) || decide (a = b)) := by rw [← Bool.decide_or, decide_eq_decide]; omega
      have hge : decide (b ≤ a) = (decide (b < a) || decide (a = b)) := by rw [← Bool.decide_or, decide_eq_decide]; omega
      rw [hle, hge]
      by_cases hk : k = 5 ∨ k = 6 ∨ k = 7 ∨ k = 8 ∨ k = 9 ∨ k = 10 ∨ k = 11 ∨ k = 12 ∨ k = 13 ∨ k = 14 ∨ k = 15 ∨ k = 16 ∨ k = 17 ∨ k = 18 ∨ k = 19
      · rcases hk with rfl | rfl | rfl | rfl | rfl | rfl | rfl | rfl | rfl | rfl | rfl | rfl | rfl | rfl | rfl
        all_goals first
          | rfl
          | (cases decide (a = 0) <;> cases decide (b = 0) <;> rfl)
      · have hb' : (decide (k < 5) || decide (19 < k)) = true := by simp; omega
        rw [hb']
        simp only [not_or] at hk
        simp [hk]
  · simp [T.sel] at h
def sLaw : FSpec
  | [.c (.int .u8 k), .c (.int .i64 a), .c (.int .i64 b)] => .node (decide (Rng a ∧ Rng b)) (.leaf (.one (.c (.bool true)))) .bad
  | _ => .bad
noncomputable def l3 : List (FuncId × FSpec) := [(4, sDo), (5, sDo)]
theorem C3 : CallOk E0 (Cx l3) := specC_ok (tab_ok (by
  intro x hx
  simp only [l3, List.mem_cons, List.mem_nil_iff, or_false] at hx
  rcases hx with rfl | rfl
  · exact ok4
  · exact ok5))
theorem t3 (k a b : Int) : (fnRun E0 (Cx l3) (Lx []) Try.f3 (bodyC Try.f3) [.c (.int .u8 k), i64 a, i64 b]).sel =
    bif decide (Rng a ∧ Rng b) then (bif decide (Rng a ∧ Rng b) then (bif decide ((bif decide (k < 5) || decide (19 < k) then 0 else given k a b) = (bif decide (k < 5) || decide (19 < k) then 0 else given k a b)) then
      rb (bif true then decide ((bif decide (k < 5) || decide (19 < k) then (2 : Int) else 0) = (bif decide (k < 5) || decide (19 < k) then 2 else 0)) else false) else rb false) else none) else none := by kernel_rfl
theorem ok3 : FnOk E0 3 sLaw := by
  refine fn_ok (fn := Try.f3) (c := bodyC Try.f3) Try.func3 (by kernel_rfl) (by kernel_rfl) C3 (l := []) (loopsOk_nil (by kernel_rfl)) fun ras r h => ?_
  unfold sLaw at h
  split at h
  · rename_i k a b
    cases hc : decide (Rng a ∧ Rng b) with
    | false => simp [hc, T.sel] at h
    | true =>
      simp only [T.sel, hc, cond_true, Option.some.injEq] at h
      subst h
      refine (t3 k a b).trans ?_
      rw [hc]
      simp [rb]
  · simp [T.sel] at h
end Go.Proofs.Ytbccnahpdmaocaa
