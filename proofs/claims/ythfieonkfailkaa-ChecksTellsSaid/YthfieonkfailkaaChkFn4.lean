/-
  Sources and windows, by contract.
-/
import Derived.Test.YthfieonkfailkaaChkFn3
namespace Go.Proofs.Ythfieonkfailkaa
open Go.Am
set_option maxRecDepth 100000
variable {B : Nat → Option Obj}
theorem fnOk_or {E : Env} {f : FuncId} {s1 s2 s : FSpec} (h1 : FnOk E f s1) (h2 : FnOk E f s2) (h : ∀ vs bs r, (s vs bs).sel = some r → (s1 vs bs).sel = some r ∨ (s2 vs bs).sel = some r) : FnOk E f s :=
  ⟨h1.1, fun vs bs out hs => (h vs bs out hs).elim (h1.2 vs bs out) (h2.2 vs bs out)⟩
def ib (L : List Int) : Blk := ⟨false, .ints .i64 L⟩
def srcK (L : List Int) : Option Out := bif Nat.beq 65 65 && decide (L.length ≤ 1000) then (bif decide (0 ≤ ixI (decide (firstL outS L < L.length)) (firstL outS L)) then ri 8 else
  (bif decide (0 < L.length ∧ L.length ≤ 1000) && L.all (fun n => decide (0 ≤ n) && decide (n ≤ 3)) then (bif decide ((dcount L : Int) < (L.length : Int)) then ri 43 else ri 0) else none)) else none
theorem tSrc (L : List Int) (j : Bool) : runT B lib13 Try.f43 [.slw 0, .bool j] [ib L] =
    bif decide ((4 : Int) < (L.length : Int)) then ri 4 else bif decide ((L.length : Int) = 0) then ri 8 else bif j then (bif !decide ((L.length : Int) = 2) then ri 8 else srcK L) else srcK L := by kernel_rfl
theorem out_any (L : List Int) : L.any outS = !L.all inR := by
  induction L with
  | nil => rfl
  | cons x l ih =>
    rw [List.any_cons, List.all_cons, ih, Bool.not_and]
    congr 1
    unfold outS inR
    by_cases h1 : x < 0 <;> by_cases h2 : 4 ≤ x <;> simp [h1, h2] <;> omega
theorem srcK_is {L : List Int} (h0 : 0 < L.length) (h1 : L.length ≤ 1000) : srcK L = ri (bif !L.all inR then 8 else bif dups L then 43 else 0) := by
  unfold srcK
  rw [Nat.beq_refl, decide_eq_true h1, firstL_any, out_any, decide_eq_true (show 0 < L.length ∧ L.length ≤ 1000 from ⟨h0, h1⟩), show decide ((dcount L : Int) < (L.length : Int)) = decide (dcount L < L.length) from by
    by_cases h : dcount L < L.length
    · rw [decide_eq_true h, decide_eq_true (by omega)]
    · rw [decide_eq_false h, decide_eq_false (by omega)], dcount_lt]
  have e : (L.all fun n => decide (0 ≤ n) && decide (n ≤ 3)) = L.all inR := rfl
  rw [e]
  cases L.all inR with
  | false => rfl
  | true => cases dups L <;> rfl
theorem src_is (L : List Int) (j : Bool) : (bif decide ((4 : Int) < (L.length : Int)) then ri 4 else bif decide ((L.length : Int) = 0) then ri 8 else bif j then (bif !decide ((L.length : Int) = 2) then ri 8 else srcK L) else srcK L) = ri (srcE L j) := by
  unfold srcE
  by_cases h4 : 4 < L.length
  · rw [decide_eq_true h4, decide_eq_true (show (4 : Int) < (L.length : Int) by omega)]; rfl
  · rw [decide_eq_false h4, decide_eq_false (show ¬ (4 : Int) < (L.length : Int) by omega)]
    by_cases h0 : L.length = 0
    · rw [decide_eq_true h0, decide_eq_true (show (L.length : Int) = 0 by omega)]; rfl
    · rw [decide_eq_false h0, decide_eq_false (show ¬ (L.length : Int) = 0 by omega), srcK_is (by omega) (by omega)]
      by_cases h2 : L.length = 2
      · rw [decide_eq_true h2, decide_eq_true (show (L.length : Int) = 2 by omega)]; cases j <;> rfl
      · rw [decide_eq_false h2, decide_eq_false (show ¬ (L.length : Int) = 2 by omega)]; cases j <;> rfl
def sSrcs : FSpec
  | [.slw 0, .bool j], [⟨false, .ints .i64 L⟩] => .leaf ⟨[.int .i64 (srcE L j)], []⟩
  | _, _ => .bad
theorem okSrcs : FnOk (E0 B) 43 sSrcs := by
  refine fnT lib13_ok Try.func43 (by kernel_rfl) (by kernel_rfl) fun vs bs r h => ?_
  unfold sSrcs at h
  split at h
  · simp only [T.sel, Option.some.injEq] at h; subst h
    exact (tSrc _ _).trans (src_is _ _)
  · simp [T.sel] at h
/-! the reference's -/
def inCh : List Int → Option Out → Option Out
  | [], k => k
  | x :: r, k => bif decide (x < 0) then ri 8 else bif decide (3 < x) then ri 8 else inCh r k
def eqCh (x : Int) : List Int → Option Out → Option Out
  | [], k => k
  | y :: r, k => bif decide (y = x) then ri 43 else eqCh x r k
def dupCh (p : List Int) : List Int → Option Out
  | [] => ri 0
  | x :: r => eqCh x p (dupCh (p ++ [x]) r)
def coreR (L : List Int) : Option Out := inCh L (dupCh [] L)
theorem tR (L : List Int) (j : Bool) : runL B lib13 [] Try.f46 [.slw 0, .bool j] [ib L] =
    bif decide ((4 : Int) < (L.length : Int)) then ri 4 else bif decide ((L.length : Int) = 0) then ri 8 else bif j then (bif !decide ((L.length : Int) = 2) then ri 8 else none) else none := by kernel_rfl
theorem tR1 (a : Int) (j : Bool) : runT B lib13 Try.f46 [.slw 0, .bool j] [ib [a]] = bif j then ri 8 else coreR [a] := by kernel_rfl
theorem tR2 (a b : Int) (j : Bool) : runT B lib13 Try.f46 [.slw 0, .bool j] [ib [a, b]] = bif j then coreR [a, b] else coreR [a, b] := by kernel_rfl
theorem tR3 (a b c : Int) (j : Bool) : runT B lib13 Try.f46 [.slw 0, .bool j] [ib [a, b, c]] = bif j then ri 8 else coreR [a, b, c] := by kernel_rfl
theorem tR4 (a b c d : Int) (j : Bool) : runT B lib13 Try.f46 [.slw 0, .bool j] [ib [a, b, c, d]] = bif j then ri 8 else coreR [a, b, c, d] := by kernel_rfl
theorem inCh_is (k : Option Out) : ∀ L : List Int, inCh L k = bif !L.all inR then ri 8 else k
  | [] => rfl
  | x :: r => by
    unfold inCh
    rw [inCh_is k r, List.all_cons, inR]
    by_cases h1 : x < 0
    · rw [decide_eq_true h1, decide_eq_false (show ¬ 0 ≤ x by omega)]; rfl
    · rw [decide_eq_false h1, decide_eq_true (show 0 ≤ x by omega)]
      by_cases h2 : 3 < x
      · rw [decide_eq_true h2, decide_eq_false (show ¬ x ≤ 3 by omega)]; rfl
      · rw [decide_eq_false h2, decide_eq_true (show x ≤ 3 by omega)]; rfl
theorem eqCh_is (x : Int) (k : Option Out) : ∀ L : List Int, eqCh x L k = bif L.contains x then ri 43 else k
  | [] => rfl
  | y :: r => by
    unfold eqCh
    rw [eqCh_is x k r, List.contains_cons]
    by_cases h : y = x
    · rw [decide_eq_true h, h]; simp
    · rw [decide_eq_false h]
      have : (x == y) = false := by simpa using fun e => h e.symm
      rw [this]; rfl
theorem dupCh_is : ∀ (L p : List Int), dupCh p L = bif clash p L then ri 43 else ri 0
  | [], p => rfl
  | x :: r, p => by
    unfold dupCh clash
    rw [eqCh_is, dupCh_is r]
    cases p.contains x <;> rfl
theorem coreR_is (L : List Int) : coreR L = ri (bif !L.all inR then 8 else bif dups L then 43 else 0) := by
  unfold coreR
  rw [inCh_is, dupCh_is, clash_perm]
  have : (L.any fun x => ([] : List Int).contains x) = false := by rw [List.any_eq_false]; intro x _; simp
  rw [this, Bool.false_or]
  cases L.all inR <;> cases dups L <;> rfl
theorem coreR_e {L : List Int} {j : Bool} (h4 : ¬ 4 < L.length) (h0 : ¬ L.length = 0) (h : (j && !decide (L.length = 2)) = false) : coreR L = ri (srcE L j) := by
  rw [coreR_is]
  unfold srcE
  rw [decide_eq_false h4, decide_eq_false h0, h]; rfl
theorem okSrcsR : FnOk (E0 B) 46 sSrcs := by
  refine fnOk_or (s1 := fun vs bs => match vs, bs with
      | [.slw 0, .bool j], [⟨false, .ints .i64 L⟩] => .node (decide (4 < L.length ∨ L.length = 0 ∨ (j = true ∧ L.length ≠ 2))) (.leaf ⟨[.int .i64 (srcE L j)], []⟩) .bad
      | _, _ => .bad)
    (s2 := fun vs bs => match vs, bs with
      | [.slw 0, .bool j], [⟨false, .ints .i64 L⟩] => .node (decide (¬ (4 < L.length ∨ L.length = 0 ∨ (j = true ∧ L.length ≠ 2)))) (.leaf ⟨[.int .i64 (srcE L j)], []⟩) .bad
      | _, _ => .bad) ?_ ?_ ?_
  · refine fnL lib13_ok (ls := []) Try.func46 (by kernel_rfl) (by kernel_rfl) (fun x hx => by cases hx) fun vs bs r h => ?_
    split at h
    · rename_i j L
      rcases T.node_sel h with ⟨hc, h2⟩ | ⟨_, h2⟩
      · simp only [T.sel, Option.some.injEq] at h2; subst h2
        have hc := of_decide_eq_true hc
        refine (tR L j).trans ?_
        rw [show (some ⟨[.int .i64 (srcE L j)], []⟩ : Option Out) = ri (srcE L j) from rfl, ← src_is]
        by_cases h4 : 4 < L.length
        · rw [decide_eq_true (show (4 : Int) < (L.length : Int) by omega)]; rfl
        · rw [decide_eq_false (show ¬ (4 : Int) < (L.length : Int) by omega)]
          by_cases h0 : L.length = 0
          · rw [decide_eq_true (show (L.length : Int) = 0 by omega)]; rfl
          · obtain ⟨hj, h2⟩ := (hc.resolve_left h4).resolve_left h0
            rw [decide_eq_false (show ¬ (L.length : Int) = 0 by omega), hj, decide_eq_false (show ¬ (L.length : Int) = 2 by omega)]; rfl
      · simp [T.sel] at h2
    · simp [T.sel] at h
  · refine fnT lib13_ok Try.func46 (by kernel_rfl) (by kernel_rfl) fun vs bs r h => ?_
    split at h
    · rename_i j L
      rcases T.node_sel h with ⟨hc, h2⟩ | ⟨_, h2⟩
      · simp only [T.sel, Option.some.injEq] at h2; subst h2
        have hc := of_decide_eq_true hc
        match L, hc with
        | [], hc => exact (hc (.inr (.inl rfl))).elim
        | [a], hc =>
          cases j with
          | true => exact (hc (.inr (.inr ⟨rfl, by simp⟩))).elim
          | false => exact (tR1 a false).trans (coreR_e (by simp) (by simp) rfl)
        | [a, b], hc =>
          cases j with
          | true => exact (tR2 a b true).trans (coreR_e (by simp) (by simp) rfl)
          | false => exact (tR2 a b false).trans (coreR_e (by simp) (by simp) rfl)
        | [a, b, c], hc =>
          cases j with
          | true => exact (hc (.inr (.inr ⟨rfl, by simp⟩))).elim
          | false => exact (tR3 a b c false).trans (coreR_e (by simp) (by simp) rfl)
        | [a, b, c, d], hc =>
          cases j with
          | true => exact (hc (.inr (.inr ⟨rfl, by simp⟩))).elim
          | false => exact (tR4 a b c d false).trans (coreR_e (by simp) (by simp) rfl)
        | a :: b :: c :: d :: e :: r, hc => exact (hc (.inl (by simp))).elim
      · simp [T.sel] at h2
    · simp [T.sel] at h
  · intro vs bs r h
    unfold sSrcs at h
    split at h
    · rename_i j L
      simp only [T.sel, Option.some.injEq] at h
      subst h
      by_cases hc : 4 < L.length ∨ L.length = 0 ∨ (j = true ∧ L.length ≠ 2)
      · left; simp only [T.sel, decide_eq_true hc, cond_true]
      · right; simp only [T.sel, decide_eq_true hc, cond_true]
    · simp [T.sel] at h
/-! windows -/
def winT (k s e : Int) (y n : Option Out) : Option Out := bif decide (s < 1) then n else bif decide (1073741824 < s) then n else bif decide (k = 2) then (bif decide (1 ≤ e) then (bif decide (e ≤ s) then (bif decide (s ≤ w64 (16 * e)) then y else n) else n) else n) else
  bif decide (k = 1) then (bif decide (e = 0) then y else n) else bif decide (k = 3) then (bif decide (e = 0) then y else n) else n
theorem tWin (k s e : Int) : runT B lib13 Try.f44 [.agg [.int .u8 k, .int .i64 s, .int .i64 e]] [] = winT k s e (ri 0) (ri 8) := by kernel_rfl
theorem tFit (k s e : Int) : runT B lib13 Try.f47 [.agg [.int .u8 k, .int .i64 s, .int .i64 e]] [] =
    bif decide (s < 1) then rb false else bif decide (1073741824 < s) then rb false else bif decide (k = 2) then (bif decide (1 ≤ e) then (bif decide (e ≤ s) then rb (decide (s ≤ w64 (16 * e))) else rb false) else rb false) else bif decide (k = 1) then rb (decide (e = 0)) else bif decide (k = 3) then rb (decide (e = 0)) else rb false := by kernel_rfl
theorem winT_is (k s e : Int) (y n : Option Out) : winT k s e y n = bif fitsW k s e then y else n := by
  unfold winT fitsW
  by_cases h1 : s < 1
  · rw [decide_eq_true h1, decide_eq_false (show ¬ 1 ≤ s by omega)]; rfl
  rw [decide_eq_false h1, decide_eq_true (show 1 ≤ s by omega)]
  by_cases h2 : 1073741824 < s
  · rw [decide_eq_true h2, decide_eq_false (show ¬ s ≤ 1073741824 by omega)]; rfl
  rw [decide_eq_false h2, decide_eq_true (show s ≤ 1073741824 by omega)]
  cases decide (k = 2) with
  | true =>
    by_cases h3 : 1 ≤ e
    · rw [decide_eq_true h3]
      by_cases h4 : e ≤ s
      · rw [decide_eq_true h4, w64_rng (show Rng (16 * e) by unfold Rng; omega)]; rfl
      · rw [decide_eq_false h4]; rfl
    · rw [decide_eq_false h3]; rfl
  | false => cases decide (k = 1) <;> cases decide (k = 3) <;> cases decide (e = 0) <;> rfl
def sWin : FSpec
  | [.agg [.int .u8 k, .int .i64 s, .int .i64 e]], [] => .leaf ⟨[.int .i64 (bif fitsW k s e then 0 else 8)], []⟩
  | _, _ => .bad
theorem okWin : FnOk (E0 B) 44 sWin := by
  refine fnT lib13_ok Try.func44 (by kernel_rfl) (by kernel_rfl) fun vs bs r h => ?_
  unfold sWin at h
  split at h
  · rename_i k s e
    simp only [T.sel, Option.some.injEq] at h; subst h
    refine (tWin k s e).trans ?_
    rw [winT_is]
    cases fitsW k s e <;> rfl
  · simp [T.sel] at h
def sFit : FSpec
  | [.agg [.int .u8 k, .int .i64 s, .int .i64 e]], [] => .leaf ⟨[.bool (fitsW k s e)], []⟩
  | _, _ => .bad
theorem okFit : FnOk (E0 B) 47 sFit := by
  refine fnT lib13_ok Try.func47 (by kernel_rfl) (by kernel_rfl) fun vs bs r h => ?_
  unfold sFit at h
  split at h
  · rename_i k s e
    simp only [T.sel, Option.some.injEq] at h; subst h
    refine (tFit k s e).trans ?_
    have : ∀ b : Bool, rb b = bif b then rb true else rb false := fun b => by cases b <;> rfl
    rw [this (decide (s ≤ w64 (16 * e))), this (decide (e = 0))]
    refine (winT_is k s e (rb true) (rb false)).trans ?_
    cases fitsW k s e <;> rfl
  · simp [T.sel] at h
noncomputable def lib14 : Tb := (43, [], sSrcs) :: (46, [], sSrcs) :: (44, [], sWin) :: (47, [], sFit) :: lib13
theorem lib14_ok : TbOk B lib14 := lib13_ok.add okFit |>.add okWin |>.add okSrcsR |>.add okSrcs
end Go.Proofs.Ythfieonkfailkaa
