/-
  Queries checked, by contract.
-/
import Derived.Test.YthfieonkfailkaaChkFn4
namespace Go.Proofs.Ythfieonkfailkaa
open Go.Am
set_option maxRecDepth 100000
variable {B : Nat → Option Obj}
def qbs (q : Qry) : List Blk := [⟨false, .nodes q.arg⟩, ⟨false, .ints .i64 q.src⟩, ⟨false, .nodes q.whr⟩]
def kW (q : Qry) : Option Out := bif q.join then (bif !decide (q.wk = 1) then ri 8 else ri (bif fitsW q.wk q.ws q.we then 0 else 8)) else ri (bif fitsW q.wk q.ws q.we then 0 else 8)
def kS (q : Qry) (k : Option Out) : Option Out := bif !decide (srcE q.src q.join = 0) then ri (srcE q.src q.join) else k
def kV (q : Qry) (k : Option Out) : Option Out := bif decide ((0 : Int) < (q.whr.length : Int)) then (bif !decide (chkN q.whr = 0) then ri (chkN q.whr) else kS q k) else kS q k
def kA (q : Qry) : Option Out := bif !decide (q.agg = 1) then (bif !decide (chkN q.arg = 0) then ri (chkN q.arg) else kV q (kW q)) else (bif decide ((0 : Int) < (q.arg.length : Int)) then ri 8 else kV q (kW q))
theorem tClk (q : Qry) : runT B lib14 Try.f22 [q.av 0 1 2] (qbs q) =
    bif decide (q.agg < 1) then ri 8 else bif decide (4 < q.agg) then ri 8 else bif !decide (q.late = 1) then (bif !decide (q.late = 2) then ri 8 else kA q) else kA q := by kernel_rfl
def kF (q : Qry) : Option Out := bif !fitsW q.wk q.ws q.we then ri 8 else bif q.join then (bif !decide (q.wk = 1) then ri 8 else ri 0) else ri 0
def kA0 (q : Qry) : Option Out := bif !decide (q.agg = 1) then (bif !decide (chkN q.arg = 0) then ri (chkN q.arg) else kV q (kF q)) else kV q (kF q)
theorem tClkR (q : Qry) : runT B lib14 Try.f26 [q.av 0 1 2] (qbs q) =
    bif decide (q.agg < 1) then ri 8 else bif decide (4 < q.agg) then ri 8 else bif decide (q.late < 1) then ri 8 else bif decide (2 < q.late) then ri 8 else bif decide (q.agg = 1) then (bif decide ((0 : Int) < (q.arg.length : Int)) then ri 8 else kA0 q) else kA0 q := by kernel_rfl
theorem pos_cast (n : Nat) : decide ((0 : Int) < (n : Int)) = decide (0 < n) := by
  by_cases h : 0 < n
  · rw [decide_eq_true h, decide_eq_true (by omega)]
  · rw [decide_eq_false h, decide_eq_false (by omega)]
theorem kF_is (q : Qry) : kF q = ri (bif !fitsW q.wk q.ws q.we || (q.join && !decide (q.wk = 1)) then 8 else 0) := by
  unfold kF
  cases fitsW q.wk q.ws q.we <;> cases q.join <;> cases decide (q.wk = 1) <;> rfl
theorem kW_is (q : Qry) : kW q = ri (bif !fitsW q.wk q.ws q.we || (q.join && !decide (q.wk = 1)) then 8 else 0) := by
  unfold kW
  cases fitsW q.wk q.ws q.we <;> cases q.join <;> cases decide (q.wk = 1) <;> rfl
theorem kV_is (q : Qry) (n : Int) : kV q (ri n) = ri (bif decide (0 < q.whr.length) && !decide (chkN q.whr = 0) then chkN q.whr else bif !decide (srcE q.src q.join = 0) then srcE q.src q.join else n) := by
  unfold kV kS
  rw [pos_cast]
  cases decide (0 < q.whr.length) <;> cases decide (chkN q.whr = 0) <;> cases decide (srcE q.src q.join = 0) <;> rfl
theorem clk_is (q : Qry) : runT B lib14 Try.f22 [q.av 0 1 2] (qbs q) = ri (clkE q) := by
  refine (tClk q).trans ?_
  unfold kA clkE
  rw [kW_is, kV_is, pos_cast]
  cases decide (q.agg < 1) <;> cases decide (4 < q.agg) <;> cases decide (q.late = 1) <;> cases decide (q.late = 2) <;> cases decide (q.agg = 1) <;> cases decide (chkN q.arg = 0) <;> cases decide (0 < q.arg.length) <;> rfl
theorem clkR_is (q : Qry) : runT B lib14 Try.f26 [q.av 0 1 2] (qbs q) = ri (clkE q) := by
  refine (tClkR q).trans ?_
  unfold kA0 clkE
  rw [kF_is, kV_is, pos_cast]
  have hl : (!decide (q.late = 1) && !decide (q.late = 2)) = (decide (q.late < 1) || decide (2 < q.late)) := by
    by_cases h1 : q.late < 1
    · rw [decide_eq_true h1, decide_eq_false (show ¬ q.late = 1 by omega), decide_eq_false (show ¬ q.late = 2 by omega)]; rfl
    · by_cases h2 : 2 < q.late
      · rw [decide_eq_true h2, decide_eq_false (show ¬ q.late = 1 by omega), decide_eq_false (show ¬ q.late = 2 by omega), Bool.or_true]; rfl
      · rw [decide_eq_false h1, decide_eq_false h2]
        by_cases h3 : q.late = 1
        · rw [decide_eq_true h3]; rfl
        · rw [decide_eq_false h3, decide_eq_true (show q.late = 2 by omega)]; rfl
  rw [hl]
  cases decide (q.agg < 1) <;> cases decide (4 < q.agg) <;> cases decide (q.late < 1) <;> cases decide (2 < q.late) <;> cases decide (q.agg = 1) <;> cases decide (chkN q.arg = 0) <;> cases decide (0 < q.arg.length) <;> rfl
def sClk : FSpec
  | [.agg [.int .u8 ag, .slw 0, .slw 1, .bool j, .slw 2, .int .u8 wk, .int .i64 ws, .int .i64 we, .bool bk, .int .u8 lt]], [⟨false, .nodes A⟩, ⟨false, .ints .i64 S⟩, ⟨false, .nodes W⟩] => .leaf ⟨[.int .i64 (clkE ⟨ag, A, S, j, W, wk, ws, we, bk, lt⟩)], []⟩
  | _, _ => .bad
theorem okClk : FnOk (E0 B) 22 sClk := by
  refine fnT lib14_ok Try.func22 (by kernel_rfl) (by kernel_rfl) fun vs bs r h => ?_
  unfold sClk at h
  split at h
  · rename_i ag j wk ws we bk lt A S W
    simp only [T.sel, Option.some.injEq] at h; subst h
    exact clk_is ⟨ag, A, S, j, W, wk, ws, we, bk, lt⟩
  · simp [T.sel] at h
theorem okClkR : FnOk (E0 B) 26 sClk := by
  refine fnT lib14_ok Try.func26 (by kernel_rfl) (by kernel_rfl) fun vs bs r h => ?_
  unfold sClk at h
  split at h
  · rename_i ag j wk ws we bk lt A S W
    simp only [T.sel, Option.some.injEq] at h; subst h
    exact clkR_is ⟨ag, A, S, j, W, wk, ws, we, bk, lt⟩
  · simp [T.sel] at h
/-! want -/
def rW (L : List Nod) (e : Int) : Option Out := some ⟨[i64 (kOf L).2.1, i64 e], []⟩
def wantT (L : List Nod) (t : Bool) : Option Out := bif decide ((kOf L).2.2 = 0) then (bif !((kOf L).1 == t) then rW L 42 else rW L (kOf L).2.2) else rW L (kOf L).2.2
theorem tWant (L : List Nod) (t : Bool) : runT B lib14 Try.f45 [.slw 0, .bool t] [nb L] = wantT L t := by kernel_rfl
theorem tWantR (L : List Nod) (t : Bool) : runT B lib14 Try.f48 [.slw 0, .bool t] [nb L] = wantT L t := by kernel_rfl
theorem want_is (L : List Nod) (t : Bool) : wantT L t = some ⟨[i64 (kWant L t).1, i64 (kWant L t).2], []⟩ := by
  unfold wantT kWant rW
  cases decide ((kOf L).2.2 = 0) <;> cases (kOf L).1 == t <;> rfl
def sWant : FSpec
  | [.slw 0, .bool t], [⟨false, .nodes L⟩] => .leaf ⟨[.int .i64 (kWant L t).1, .int .i64 (kWant L t).2], []⟩
  | _, _ => .bad
theorem okWant : FnOk (E0 B) 45 sWant := by
  refine fnT lib14_ok Try.func45 (by kernel_rfl) (by kernel_rfl) fun vs bs r h => ?_
  unfold sWant at h
  split at h
  · simp only [T.sel, Option.some.injEq] at h; subst h
    exact (tWant _ _).trans (want_is _ _)
  · simp [T.sel] at h
theorem okWantR : FnOk (E0 B) 48 sWant := by
  refine fnT lib14_ok Try.func48 (by kernel_rfl) (by kernel_rfl) fun vs bs r h => ?_
  unfold sWant at h
  split at h
  · simp only [T.sel, Option.some.injEq] at h; subst h
    exact (tWantR _ _).trans (want_is _ _)
  · simp [T.sel] at h
noncomputable def lib15 : Tb := (45, [], sWant) :: (48, [], sWant) :: (22, [], sClk) :: (26, [], sClk) :: lib14
theorem lib15_ok : TbOk B lib15 := lib14_ok.add okClkR |>.add okClk |>.add okWantR |>.add okWant
end Go.Proofs.Ythfieonkfailkaa
