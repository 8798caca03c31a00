/-
  Check and Constant, by contract; a query's copy, whether it is great, and two queries compared.
-/
import Derived.Test.YthfieonkfailkaaChkFn5
namespace Go.Proofs.Ythfieonkfailkaa
open Go.Am
set_option maxRecDepth 100000
variable {B : Nat → Option Obj}
def r2 (a e : Int) : Option Out := some ⟨[i64 a, i64 e], []⟩
def wAt (L : List Nod) (t : Bool) (k : Option Out) : Option Out := bif !decide ((kWant L t).2 = 0) then inb (kWant L t).1 L.length (r2 (L.getD (kWant L t).1.toNat default).pos (kWant L t).2) else k
def wQ (q : Qry) : Option Out := bif decide ((q.whr.length : Int) = 0) then r2 0 0 else wAt q.whr true (r2 0 0)
theorem tChk (q : Qry) : runT B lib15 Try.f8 [q.av 0 1 2] (qbs q) =
    bif !decide (clkE q = 0) then r2 0 (clkE q) else bif decide ((q.arg.length : Int) = 0) then wQ q else wAt q.arg false (wQ q) := by kernel_rfl
def wQR (q : Qry) : Option Out := bif decide ((0 : Int) < (q.whr.length : Int)) then wAt q.whr true (r2 0 0) else r2 0 0
theorem tChkR (q : Qry) : runT B lib15 Try.f9 [q.av 0 1 2] (qbs q) =
    bif !decide (clkE q = 0) then r2 0 (clkE q) else bif decide ((0 : Int) < (q.arg.length : Int)) then wAt q.arg false (wQR q) else wQR q := by kernel_rfl
theorem kOf_at {L : List Nod} (h : chkN L = 0) : 0 ≤ (kOf L).2.1 ∧ (kOf L).2.1 < (L.length : Int) := by
  unfold kOf
  rw [decide_eq_true h]
  have hl := chk_len h
  have hw := wrongN_le L
  by_cases hc : wrongN L < (L.length : Int)
  · rw [decide_eq_true hc]; exact ⟨hw.1, hc⟩
  · rw [decide_eq_false hc]; exact ⟨by show (0 : Int) ≤ (L.length : Int) - 1; omega, by show (L.length : Int) - 1 < L.length; omega⟩
theorem wAt_is {L : List Nod} (h : chkN L = 0) (t : Bool) (k : Option Out) : wAt L t k = bif !decide ((kWant L t).2 = 0) then r2 (posAt L (kWant L t).1) (kWant L t).2 else k := by
  unfold wAt inb
  obtain ⟨h1, h2⟩ := kOf_at h
  have e : (kWant L t).1 = (kOf L).2.1 := rfl
  rw [e, decide_eq_true (show 0 ≤ (kOf L).2.1 ∧ (kOf L).2.1 < (L.length : Int) from ⟨h1, h2⟩), decide_eq_true (show (kOf L).2.1.toNat < L.length by omega)]; rfl
theorem clk_arg {q : Qry} (h : clkE q = 0) (hp : 0 < q.arg.length) : chkN q.arg = 0 := by
  unfold clkE at h
  cases h1 : (decide (q.agg < 1) || decide (4 < q.agg) || (!decide (q.late = 1) && !decide (q.late = 2))) with
  | true => rw [h1] at h; cases h
  | false =>
    rw [h1, decide_eq_true hp] at h
    cases h2 : decide (q.agg = 1) with
    | true => rw [h2] at h; cases h
    | false =>
      rw [h2] at h
      cases h3 : decide (chkN q.arg = 0) with
      | true => exact of_decide_eq_true h3
      | false => rw [h3] at h; exact h
theorem clk_whr {q : Qry} (h : clkE q = 0) (hp : 0 < q.whr.length) : chkN q.whr = 0 := by
  unfold clkE at h
  cases h1 : (decide (q.agg < 1) || decide (4 < q.agg) || (!decide (q.late = 1) && !decide (q.late = 2))) with
  | true => rw [h1] at h; cases h
  | false =>
    rw [h1, decide_eq_true hp] at h
    cases h3 : decide (chkN q.whr = 0) with
    | true => exact of_decide_eq_true h3
    | false =>
      rw [h3] at h
      have h3 := of_decide_eq_false h3
      cases h4 : (decide (q.agg = 1) && decide (0 < q.arg.length)) with
      | true => rw [h4] at h; cases h
      | false =>
        rw [h4] at h
        cases h5 : (!decide (q.agg = 1) && !decide (chkN q.arg = 0)) with
        | true =>
          rw [h5] at h
          rw [Bool.and_eq_true] at h5
          have := of_decide_eq_false (by simpa using h5.2 : decide (chkN q.arg = 0) = false)
          exact (this h).elim
        | false => rw [h5] at h; exact h
theorem ck_core {q : Qry} (h : clkE q = 0) : (bif decide (0 < q.arg.length) then wAt q.arg false (bif decide (0 < q.whr.length) then wAt q.whr true (r2 0 0) else r2 0 0) else (bif decide (0 < q.whr.length) then wAt q.whr true (r2 0 0) else r2 0 0)) = r2 (ckR q).1 (ckR q).2 := by
  have hw : (bif decide (0 < q.whr.length) then wAt q.whr true (r2 0 0) else r2 0 0) = r2 (ckW q).1 (ckW q).2 := by
    unfold ckW
    cases hp : decide (0 < q.whr.length) with
    | false => rfl
    | true =>
      rw [cond_true, wAt_is (clk_whr h (of_decide_eq_true hp))]
      cases decide ((kWant q.whr true).2 = 0) <;> rfl
  rw [hw]
  unfold ckR
  cases hp : decide (0 < q.arg.length) with
  | false => rfl
  | true =>
    rw [cond_true, wAt_is (clk_arg h (of_decide_eq_true hp))]
    cases decide ((kWant q.arg false).2 = 0) <;> rfl
theorem len0 {α : Type} (L : List Nod) (a b : α) : (bif decide ((L.length : Int) = 0) then a else b) = bif decide (0 < L.length) then b else a := by
  by_cases h : 0 < L.length
  · rw [decide_eq_true h, decide_eq_false (by omega)]; rfl
  · rw [decide_eq_false h, decide_eq_true (by omega)]; rfl
theorem chk_is (q : Qry) : runT B lib15 Try.f8 [q.av 0 1 2] (qbs q) = r2 (ckE q).1 (ckE q).2 := by
  refine (tChk q).trans ?_
  unfold wQ ckE
  rw [len0, len0]
  by_cases h : clkE q = 0
  · rw [decide_eq_true h]; exact ck_core h
  · rw [decide_eq_false h]; rfl
theorem chkR2_is (q : Qry) : runT B lib15 Try.f9 [q.av 0 1 2] (qbs q) = r2 (ckE q).1 (ckE q).2 := by
  refine (tChkR q).trans ?_
  unfold wQR ckE
  rw [pos_cast, pos_cast]
  by_cases h : clkE q = 0
  · rw [decide_eq_true h]; exact ck_core h
  · rw [decide_eq_false h]; rfl
def sChk : FSpec
  | [.agg [.int .u8 ag, .slw 0, .slw 1, .bool j, .slw 2, .int .u8 wk, .int .i64 ws, .int .i64 we, .bool bk, .int .u8 lt]], [⟨false, .nodes A⟩, ⟨false, .ints .i64 S⟩, ⟨false, .nodes W⟩] =>
    .leaf ⟨[.int .i64 (ckE ⟨ag, A, S, j, W, wk, ws, we, bk, lt⟩).1, .int .i64 (ckE ⟨ag, A, S, j, W, wk, ws, we, bk, lt⟩).2], []⟩
  | _, _ => .bad
theorem okChk : FnOk (E0 B) 8 sChk := by
  refine fnT lib15_ok Try.func8 (by kernel_rfl) (by kernel_rfl) fun vs bs r h => ?_
  unfold sChk at h
  split at h
  · rename_i ag j wk ws we bk lt A S W
    simp only [T.sel, Option.some.injEq] at h; subst h
    exact chk_is ⟨ag, A, S, j, W, wk, ws, we, bk, lt⟩
  · simp [T.sel] at h
theorem okChkR : FnOk (E0 B) 9 sChk := by
  refine fnT lib15_ok Try.func9 (by kernel_rfl) (by kernel_rfl) fun vs bs r h => ?_
  unfold sChk at h
  split at h
  · rename_i ag j wk ws we bk lt A S W
    simp only [T.sel, Option.some.injEq] at h; subst h
    exact chkR2_is ⟨ag, A, S, j, W, wk, ws, we, bk, lt⟩
  · simp [T.sel] at h
/-! Constant -/
def rK (b : Bool) (e : Int) : Option Out := some ⟨[.bool b, i64 e], []⟩
theorem tCon (L : List Nod) : runT B lib15 Try.f10 [.slw 0] [nb L] =
    bif !decide (chkN L = 0) then rK false (chkN L) else bif Nat.beq 29 29 && decide (L.length ≤ 1000) then rK (!decide (0 ≤ ixI (decide (firstL isF L < L.length)) (firstL isF L))) 0 else none := by kernel_rfl
theorem tConR (L : List Nod) : runT B lib15 Try.f11 [.slw 0] [nb L] =
    bif !decide (chkN L = 0) then rK false (chkN L) else bif decide (L.length ≤ 1000) then rK (!L.any fun x => fldB x.kind) 0 else none := by kernel_rfl
theorem fixed_is (L : List Nod) : (!L.any fun x => fldB x.kind) = fixedN L := by
  unfold fixedN
  rw [List.not_any_eq_all_not]; rfl
theorem any_isF {L : List Nod} (h : chkN L = 0) : L.any isF = L.any fun x => fldB x.kind := by
  have key : ∀ x ∈ L, isF x = fldB x.kind := fun x hx => by
    obtain ⟨j, hj⟩ := List.mem_iff_getElem?.1 hx
    have hat := chk_at h j x hj
    unfold isF fldB fk
    by_cases hk : 1 < x.kind ∧ x.kind < 5
    · have hn : x.n = 0 := hat.nk.resolve_left (by omega)
      rw [hn, hat.az (by omega), hat.bz (by omega)]
      have : x.kind = 2 ∨ x.kind = 3 ∨ x.kind = 4 := by omega
      rcases this with h | h | h <;> rw [h] <;> rfl
    · have : ¬ x.kind = 2 ∧ ¬ x.kind = 3 ∧ ¬ x.kind = 4 := by omega
      rw [decide_eq_false this.1, decide_eq_false this.2.1, decide_eq_false this.2.2]
      by_cases h1 : 1 < x.kind
      · rw [decide_eq_true h1, decide_eq_false (show ¬ x.kind < 5 by omega)]; rfl
      · rw [decide_eq_false h1]; rfl
  rw [Bool.eq_iff_iff, List.any_eq_true, List.any_eq_true]
  exact ⟨fun ⟨x, h1, h2⟩ => ⟨x, h1, (key x h1) ▸ h2⟩, fun ⟨x, h1, h2⟩ => ⟨x, h1, (key x h1).symm ▸ h2⟩⟩
def sCon : FSpec
  | [.slw 0], [⟨false, .nodes L⟩] => .leaf ⟨[.bool (conB L), .int .i64 (chkN L)], []⟩
  | _, _ => .bad
theorem con_is (L : List Nod) : runT B lib15 Try.f10 [.slw 0] [nb L] = rK (conB L) (chkN L) := by
  refine (tCon L).trans ?_
  unfold conB
  by_cases h : chkN L = 0
  · have hl := chk_len h
    rw [decide_eq_true h, Nat.beq_refl, decide_eq_true (show L.length ≤ 1000 by omega), firstL_any, any_isF h, ← fixed_is, h]
    cases L.any fun x => fldB x.kind with
    | true => rw [show decide (0 ≤ ixI true (firstL isF L)) = true from decide_eq_true (by unfold ixI; rw [cond_true]; omega)]; rfl
    | false => rfl
  · rw [decide_eq_false h]; rfl
theorem conR_is (L : List Nod) : runT B lib15 Try.f11 [.slw 0] [nb L] = rK (conB L) (chkN L) := by
  refine (tConR L).trans ?_
  unfold conB
  by_cases h : chkN L = 0
  · have hl := chk_len h
    rw [decide_eq_true h, decide_eq_true (show L.length ≤ 1000 by omega), fixed_is, h]; rfl
  · rw [decide_eq_false h]; rfl
theorem okCon : FnOk (E0 B) 10 sCon := by
  refine fnT lib15_ok Try.func10 (by kernel_rfl) (by kernel_rfl) fun vs bs r h => ?_
  unfold sCon at h
  split at h
  · simp only [T.sel, Option.some.injEq] at h; subst h
    exact con_is _
  · simp [T.sel] at h
theorem okConR : FnOk (E0 B) 11 sCon := by
  refine fnT lib15_ok Try.func11 (by kernel_rfl) (by kernel_rfl) fun vs bs r h => ?_
  unfold sCon at h
  split at h
  · simp only [T.sel, Option.some.injEq] at h; subst h
    exact conR_is _
  · simp [T.sel] at h
noncomputable def lib16 : Tb := (8, [], sChk) :: (9, [], sChk) :: (10, [], sCon) :: (11, [], sCon) :: lib15
theorem lib16_ok : TbOk B lib16 := lib15_ok.add okConR |>.add okCon |>.add okChkR |>.add okChk
end Go.Proofs.Ythfieonkfailkaa
