/-
  Message: the reference's reading of a number, and of a message, in plain words.
-/
import Derived.Test.YtbjokogmfllcdaaDoorMsgPure2
namespace Go.Am
open Go.Lib
def chS (s : List UInt8) (a : Int) : Int := ((s.getD a.toNat 0).toNat : Int)
def inS (s : List UInt8) (a : Int) : Bool := decide (0 ≤ a ∧ a < (s.length : Int))
def dgU (n : Int) : Int := w64 (IntKind.u8.wrap (n - 48))
/-- the number of digits, negative -/
def numF (n : Int) : List UInt8 → Int
  | [] => n
  | c :: r => bif !decide ((c.toNat : Int) = 45) then numF (w64 (w64 (10 * n) - dgU c.toNat)) r else numF n r
def isNeg (s : List UInt8) : Bool := match s with
  | [] => false
  | c :: _ => decide ((c.toNat : Int) = 45)
def numV (s : List UInt8) : Int := bif isNeg s then numF 0 (s.take 21) else w64 (0 - numF 0 (s.take 21))
theorem dgU_eq {c : UInt8} (h : isDig c = true) : dgU c.toNat = dg c := by
  have := dg_rng h
  have hn := dig_nat h
  unfold dgU dg at *
  have e : IntKind.u8.wrap ((c.toNat : Int) - 48) = (c.toNat : Int) - 48 := by simp [IntKind.wrap, IntKind.bits, IntKind.signed]; omega
  rw [e]; apply w64_rng; unfold Rng; omega
theorem numF_val : ∀ (l : List UInt8) (acc : Int), l.all isDig = true → 0 ≤ acc → val acc l ≤ 9223372036854775808 → numF (-acc) l = -(val acc l)
  | [], acc, _, _, _ => rfl
  | c :: r, acc, hl, h0, hv => by
    simp only [List.all_cons, Bool.and_eq_true] at hl
    have hd := dg_rng hl.1
    have hn := dig_nat hl.1
    have hg := val_ge hl.2 (acc := 10 * acc + dg c) (by omega)
    have e : val acc (c :: r) = val (10 * acc + dg c) r := rfl
    rw [e] at hv ⊢
    unfold numF
    rw [decide_eq_false (show ¬ (c.toNat : Int) = 45 from by omega), dgU_eq hl.1]
    simp only [Bool.not_false, cond_true]
    rw [show w64 (10 * -acc) = -(10 * acc) from by rw [w64_rng (by unfold Rng; omega)]; omega, show w64 (-(10 * acc) - dg c) = -(10 * acc + dg c) from by rw [w64_rng (by unfold Rng; omega)]; omega]
    exact numF_val r _ hl.2 (by omega) hv
theorem numV_itoa {v : Int} (h : Rng v) : numV (itoa v) = v := by
  have hlen := itoa_len h
  have ht : (itoa v).take 21 = itoa v := List.take_of_length_le hlen
  have hr := h
  unfold Rng at hr
  unfold numV
  rw [ht]
  rcases Int.lt_or_le v 0 with h0 | h0
  · rw [itoa_min h0]
    have hv := val_dec v.natAbs
    have := numF_val (decDigits v.natAbs) 0 (dec_digs _) (Int.le_refl 0) (by rw [hv]; omega)
    rw [show isNeg (45 :: decDigits v.natAbs) = true from rfl, cond_true]
    unfold numF
    rw [show (!decide (((45 : UInt8).toNat : Int) = 45)) = false from rfl, cond_false]
    rw [show (-0 : Int) = 0 from rfl, hv] at this
    rw [this]; omega
  · rw [itoa_pos h0]
    have hv := val_dec v.toNat
    have := numF_val (decDigits v.toNat) 0 (dec_digs _) (Int.le_refl 0) (by rw [hv]; omega)
    rw [show (-0 : Int) = 0 from rfl, hv] at this
    rw [this]
    have hneg : isNeg (decDigits v.toNat) = false := by
      cases hd : decDigits v.toNat with
      | nil => rfl
      | cons c r =>
        have h1 := dec_digs v.toNat
        rw [hd] at h1
        simp only [List.all_cons, Bool.and_eq_true] at h1
        have := dig_nat h1.1
        exact decide_eq_false (by omega)
    rw [hneg, cond_false, show (0 : Int) - -(v.toNat : Int) = v from by omega, w64_rng h]
/-! the reference's Read -/
def nR (l : List (List UInt8)) (i : Nat) : Int := bif decide (i < l.length) then numV (l.getD i []) else 0
def mR (s : List UInt8) : Msg := bif decide (kindW (hd s) = 0) then msg0 else mkM (kindW (hd s)) fun i => nR (spl s) (i + 1)
def okR (s : List UInt8) : Bool := validM (mR s) && decide (writ (mR s) = s)
theorem spl_hd_tl (s : List UInt8) : spl s = hd s :: tl s := by
  unfold hd tl
  cases h : spl s with
  | nil => exact (spl_ne s h).elim
  | cons x r => rfl
theorem nR_rng (l : List (List UInt8)) (i : Nat) : Rng (nR l i) := by
  have hz : Rng 0 := by unfold Rng; omega
  have hf : ∀ (r : List UInt8) (n : Int), Rng n → Rng (numF n r) := by
    intro r
    induction r with
    | nil => intro n h; exact h
    | cons c r ih =>
      intro n h
      unfold numF
      cases decide ((c.toNat : Int) = 45) with
      | true => exact ih _ h
      | false => exact ih _ (rng_w64 _)
  unfold nR numV
  cases decide (i < l.length) with
  | false => exact hz
  | true =>
    simp only [cond_true]
    cases isNeg (l.getD i []) with
    | true => exact hf _ _ hz
    | false => exact rng_w64 _
theorem mR_rng (s : List UInt8) : rngM (mR s) = true := by
  unfold mR
  cases decide (kindW (hd s) = 0) with
  | true => exact (show rngM msg0 = true by decide)
  | false => exact mkM_rng (f := fun i => nR (spl s) (i + 1)) fun i => nR_rng _ _
theorem nR_val {r : List (List UInt8)} {w : List UInt8} (h : r.all numOk = true) (i : Nat) : nR (w :: r) (i + 1) = valAt r i := by
  unfold nR valAt
  rw [List.length_cons]
  by_cases hi : i < r.length
  · have hm := List.all_eq_true.1 h _ (List.getElem_mem hi)
    rw [decide_eq_true (show i + 1 < r.length + 1 from by omega), cond_true, List.getD_cons_succ]
    have e1 : r.getD i [] = r[i] := by simp [List.getD, hi]
    have e2 : (r.map pVal).getD i 0 = pVal r[i] := by simp [List.getD, hi]
    rw [e1, e2]
    conv => lhs; rw [← numOk_is hm]
    exact numV_itoa (p_rng _)
  · rw [decide_eq_false (show ¬ i + 1 < r.length + 1 from by omega), cond_false]
    simp [List.getD, hi]
theorem okR_is (s : List UInt8) : okR s = rdOk s ∧ (rdOk s = true → mR s = rdM s) := by
  have h1 : rdOk s = true → mR s = rdM s := fun h => by
    unfold rdOk at h
    rw [Bool.and_eq_true] at h
    have hk : ¬ kindW (hd s) = 0 := fun hk => by
      have h2 := h.2
      unfold rdM at h2
      rw [hk] at h2
      simp [mkM, validM] at h2
    have ha : (tl s).all numOk = true := by
      have := h.1
      unfold numsOk at this
      rw [Bool.and_eq_true] at this; exact this.2
    unfold mR rdM
    rw [decide_eq_false hk, cond_false, spl_hd_tl s]
    congr 1
    funext i
    rw [nR_val ha]
  refine ⟨?_, h1⟩
  cases hr : rdOk s with
  | true =>
    have hv := hr
    unfold rdOk at hv
    rw [Bool.and_eq_true] at hv
    unfold okR
    rw [h1 hr, hv.2, decide_eq_true (read_writ hr)]; rfl
  | false =>
    cases ho : okR s with
    | false => rfl
    | true =>
      unfold okR at ho
      simp only [Bool.and_eq_true, decide_eq_true_eq] at ho
      have := (writ_read ho.1 (mR_rng s)).2
      rw [ho.2, hr] at this
      cases this
/-- both read alike -/
theorem ref_read (s : List UInt8) : (bif okR s then mR s else msg0) = readM s ∧ (bif okR s then (0 : Int) else 12) = readE s := by
  obtain ⟨h1, h2⟩ := okR_is s
  unfold readM readE
  rw [h1]
  cases hr : rdOk s with
  | false => exact ⟨rfl, rfl⟩
  | true => exact ⟨h2 hr, rfl⟩
/-! pieces by index -/
def addP (p : List UInt8) : List (List UInt8) → List (List UInt8)
  | [] => [p]
  | x :: r => (p ++ x) :: r
theorem addP_nil (s : List UInt8) : addP [] (spl s) = spl s := by
  rw [spl_hd_tl s]; rfl
end Go.Am
