/-
  Texts put together: LitBase, LitChk, ChkTyped, LitChk2.
-/
import Derived.Test.YtfniiapkghpihaaGreatDoorTxA
import Derived.Test.YtfniiapkghpihaaGreatDoorClsA
import Derived.Test.YtfniiapkghpihaaGreatDoorLawA
import Derived.Test.YtfniiapkghpihaaGreatDoorParA
/-
  What the laws' examples ask: a table of all that is told; the examples.
-/
namespace Go.Proofs.YtfniiapkghpihaaGreatDoor
open Go.Am Go
set_option maxRecDepth 100000
variable {B : Nat → Option Obj}
noncomputable def libE : Tb := (81, [], Pr.sExprP') :: (108, [], Pr.sNum) :: (83, [], Pr.sTake) :: (80, [], Pr.sNeed) :: (128, [], Pr.sIn) :: (104, [], Lx.sRead) :: (95, [], sParse) :: (53, [], Lx.sAll) :: (75, [], sFormat) :: (37, [], sTq) :: (69, [], sExprP) :: Ck.lb6
theorem libE_ok (hB : Laid B) : TbOk B libE := ((((((((((Ck.lb6_ok.add (okExprP hB)).add (okTq hB)).add (formatOk hB)).add (Lx.okAll hB)).add (okParse hB)).add (Lx.okRead hB)).add Pr.okIn).add Pr.okNeed).add Pr.okTake).add (Pr.okNum hB)).add (Pr.okExprQ hB)
theorem okTrue {f : FuncId} {fn : Func} (hB : Laid B) (h1 : Tryz.prog.funcs[f]? = some fn) (h2 : fn.body = some (bodyC fn)) (h3 : (fn.name == "runtime.NumGoroutine") = false) (h : runT B libE fn [] [] = rb true) : FnOk (E0 B) f sTrueF := by
  refine fnT (libE_ok hB) h1 h2 h3 fun vs bs r h' => ?_
  unfold sTrueF at h'
  split at h'
  · simp only [T.sel, Option.some.injEq] at h'; subst h'; exact h
  · simp [T.sel] at h'
end Go.Proofs.YtfniiapkghpihaaGreatDoor
/-
  Checks: the examples; ChecksNames.
-/
namespace Go.Proofs.YtfniiapkghpihaaGreatDoor
open Go.Am Go
set_option maxRecDepth 100000
variable {B : Nat → Option Obj}
theorem tAl10 : runT B libE Tryz.f30 [] [] = rb true := by kernel_rfl
theorem okAl10 (hB : Laid B) : FnOk (E0 B) 30 sTrueF := okTrue hB Tryz.func30 (by kernel_rfl) (by kernel_rfl) tAl10
end Go.Proofs.YtfniiapkghpihaaGreatDoor
/-
  ChecksTyped: what the law answers.
-/
namespace Go.Proofs.YtfniiapkghpihaaGreatDoor
open Go.Am Go Go.Proofs.YtfniiapkghpihaaGreatDoor.Kd
set_option maxRecDepth 100000
variable {B : Nat → Option Obj}
noncomputable def libTy : Tb := (30, [], sTrueF) :: Ck.lb6
theorem libTy_ok (hB : Laid B) : TbOk B libTy := Ck.lb6_ok.add (okAl10 hB)
def grQ (q : Qry) (z : Option Out) : Option Out := bif decide ((70 : Int) < (q.arg.length : Int)) then rb true else bif decide ((70 : Int) < (q.whr.length : Int)) then rb true else bif decide ((10 : Int) < (q.src.length : Int)) then rb true else bif !decide (clkE q = 0) then rb true else z
def fbQ (b : Bool) (z : Option Out) : Option Out := bif b then z else rb false
def finTy (q : Qry) (w p : Int) : Option Out := fbQ (decide ((ckE q).2 = w)) (fbQ (decide ((ckE q).1 = p)) (fbQ (decide (clkE q = 0)) (rb true)))
def kdTy (L : List Nod) (t : Bool) (w p : Int) (k : Int → Int → Option Out) : Option Out :=
  bif decide ((kOf L).2.1 < 0) then rb false else bif decide ((L.length : Int) ≤ (kOf L).2.1) then rb false else
    bif !decide ((kOf L).2.2 = 0) then Ck.inb (kOf L).2.1 L.length (k 42 (posAt L (kOf L).2.1)) else bif (bif t then !(kOf L).1 else (kOf L).1) then Ck.inb (kOf L).2.1 L.length (k 42 (posAt L (kOf L).2.1)) else k w p
def arTy (q : Qry) (w p : Int) : Option Out := bif decide ((0 : Int) < (q.arg.length : Int)) then kdTy q.arg false w p (finTy q) else finTy q w p
def tyO (q : Qry) : Option Out := grQ q (bif decide ((0 : Int) < (q.whr.length : Int)) then kdTy q.whr true 0 0 (arTy q) else arTy q 0 0)
theorem tTyped (q : Qry) : runT B libTy Tryz.f9 [q.av 0 1 2] (Ck.qbs q) = tyO q := by kernel_rfl
theorem kdTy_is {L : List Nod} (h : chkN L = 0) (t : Bool) (w p : Int) (k : Int → Int → Option Out) : kdTy L t w p k = bif !decide ((kWant L t).2 = 0) then k 42 (posAt L (kWant L t).1) else k w p := by
  obtain ⟨h0, h1⟩ := Ck.kOf_at h
  unfold kdTy Ck.inb
  rw [decide_eq_false (show ¬ (kOf L).2.1 < 0 by omega), decide_eq_false (show ¬ (L.length : Int) ≤ (kOf L).2.1 by omega), decide_eq_true (show 0 ≤ (kOf L).2.1 ∧ (kOf L).2.1 < (L.length : Int) from ⟨h0, h1⟩), decide_eq_true (show (kOf L).2.1.toNat < L.length by omega)]
  unfold kWant
  by_cases hf : (kOf L).2.2 = 0
  · rw [decide_eq_true hf]
    cases (kOf L).1 <;> cases t <;> simp [hf]
  · rw [decide_eq_false hf]
    simp [hf]
theorem want42 {L : List Nod} (h : chkN L = 0) {t : Bool} (hw : (kWant L t).2 ≠ 0) : (kWant L t).2 = 42 := by
  unfold kWant at hw ⊢
  unfold kOf at hw ⊢
  rw [decide_eq_true h] at hw ⊢
  simp only [Bool.not_true, cond_false] at hw ⊢
  cases hl : decide (wrongN L < (L.length : Int)) with
  | true => rfl
  | false =>
    rw [hl] at hw
    simp only [cond_false] at hw ⊢
    cases hg : (givesN (lastK L) == t) with
    | true => rw [hg] at hw; exact (hw rfl).elim
    | false => rfl
theorem ty_true (q : Qry) : tyO q = rb true := by
  unfold tyO grQ
  cases decide ((70 : Int) < (q.arg.length : Int)) with
  | true => rfl
  | false =>
  cases decide ((70 : Int) < (q.whr.length : Int)) with
  | true => rfl
  | false =>
  cases decide ((10 : Int) < (q.src.length : Int)) with
  | true => rfl
  | false =>
  by_cases hc : clkE q = 0
  · rw [decide_eq_true hc]
    simp only [Bool.not_true, cond_false]
    have hfin : ∀ w p, (ckE q).2 = w → (ckE q).1 = p → finTy q w p = rb true := fun w p e1 e2 => by
      unfold finTy fbQ
      rw [decide_eq_true e1, decide_eq_true e2, decide_eq_true hc]; rfl
    have hE : ckE q = ckR q := by unfold ckE; rw [decide_eq_true hc]; rfl
    have hWh : ∀ z, (bif decide ((0 : Int) < (q.whr.length : Int)) then kdTy q.whr true 0 0 z else z 0 0) = z (ckW q).2 (ckW q).1 := fun z => by
      unfold ckW
      rw [Ck.pos_cast]
      by_cases hp : 0 < q.whr.length
      · rw [decide_eq_true hp, cond_true, kdTy_is (Ck.clk_whr hc hp), Bool.true_and]
        by_cases hw : (kWant q.whr true).2 = 0
        · rw [decide_eq_true hw]; rfl
        · rw [decide_eq_false hw]; simp only [Bool.not_false, cond_true]; rw [want42 (Ck.clk_whr hc hp) hw]
      · rw [decide_eq_false hp]; rfl
    refine (hWh (arTy q)).trans ?_
    unfold arTy
    rw [Ck.pos_cast]
    by_cases hp : 0 < q.arg.length
    · rw [decide_eq_true hp, cond_true, kdTy_is (Ck.clk_arg hc hp)]
      by_cases hw : (kWant q.arg false).2 = 0
      · rw [decide_eq_true hw]
        simp only [Bool.not_true, cond_false]
        have : ckR q = ckW q := by unfold ckR; rw [decide_eq_true hw, Bool.not_true, Bool.and_false]; rfl
        exact hfin _ _ (by rw [hE, this]) (by rw [hE, this])
      · rw [decide_eq_false hw]
        simp only [Bool.not_false, cond_true]
        have : ckR q = (posAt q.arg (kWant q.arg false).1, (kWant q.arg false).2) := by unfold ckR; rw [decide_eq_true hp, decide_eq_false hw]; rfl
        exact hfin _ _ (by rw [hE, this]; exact want42 (Ck.clk_arg hc hp) hw) (by rw [hE, this])
    · rw [decide_eq_false hp, cond_false]
      have : ckR q = ckW q := by unfold ckR; rw [decide_eq_false hp]; rfl
      exact hfin _ _ (by rw [hE, this]) (by rw [hE, this])
  · rw [decide_eq_false hc]; rfl
def sTyped (_ : Nat → Option Obj) : FSpec
  | [.agg [.int .u8 _, .slw 0, .slw 1, .bool _, .slw 2, .int .u8 _, .int .i64 _, .int .i64 _, .bool _, .int .u8 _]], [⟨false, .nodes _⟩, ⟨false, .ints .i64 _⟩, ⟨false, .nodes _⟩] => .leaf ⟨[.bool true], []⟩
  | _, _ => .bad
theorem okTyped (hB : Laid B) : FnOk (E0 B) 9 (sTyped B) := by
  refine fnT (libTy_ok hB) Tryz.func9 (by kernel_rfl) (by kernel_rfl) fun vs bs r h => ?_
  unfold sTyped at h
  split at h
  · rename_i ag j wk ws we bk lt A S W
    simp only [T.sel, Option.some.injEq] at h; subst h
    exact (tTyped ⟨ag, A, S, j, W, wk, ws, we, bk, lt⟩).trans (ty_true _)
  · simp [T.sel] at h
/-! ChecksBare -/
def bareA (q : Qry) : Qry := { q with agg := 1, arg := [], whr := [] }
def argA (q : Qry) : Qry := { q with whr := [] }
def whrA (q : Qry) : Qry := { q with agg := 1, arg := [] }
def baO (q : Qry) : Option Out := grQ q (bif !decide ((ckE (bareA q)).2 = 0) then rb false else bif !decide ((ckE (argA q)).2 = 0) then fbQ (decide ((ckE q).2 = (ckE (argA q)).2)) (fbQ (decide ((ckE q).1 = (ckE (argA q)).1)) (rb true)) else
  fbQ (decide ((ckE q).2 = (ckE (whrA q)).2)) (fbQ (decide ((ckE q).1 = (ckE (whrA q)).1)) (rb true)))
theorem tBare (q : Qry) : runT B libTy Tryz.f10 [q.av 0 1 2] (Ck.qbs q) = baO q := by kernel_rfl
theorem clk_inv {q : Qry} (h : clkE q = 0) : (decide (q.agg < 1) || decide (4 < q.agg) || (!decide (q.late = 1) && !decide (q.late = 2))) = false ∧ (q.agg = 1 → q.arg = []) ∧ (q.agg ≠ 1 → chkN q.arg = 0) ∧ (0 < q.whr.length → chkN q.whr = 0) ∧ srcE q.src q.join = 0 ∧ (!fitsW q.wk q.ws q.we || (q.join && !decide (q.wk = 1))) = false := by
  unfold clkE at h
  cases h1 : (decide (q.agg < 1) || decide (4 < q.agg) || (!decide (q.late = 1) && !decide (q.late = 2))) with
  | true => rw [h1] at h; cases h
  | false =>
  rw [h1, cond_false] at h
  cases h2 : (decide (q.agg = 1) && decide (0 < q.arg.length)) with
  | true => rw [h2] at h; cases h
  | false =>
  rw [h2, cond_false] at h
  cases h3 : (!decide (q.agg = 1) && !decide (chkN q.arg = 0)) with
  | true => rw [h3, cond_true] at h; simp only [Bool.and_eq_true, Bool.not_eq_true', decide_eq_false_iff_not] at h3; exact (h3.2 h).elim
  | false =>
  rw [h3, cond_false] at h
  cases h4 : (decide (0 < q.whr.length) && !decide (chkN q.whr = 0)) with
  | true => rw [h4, cond_true] at h; simp only [Bool.and_eq_true, Bool.not_eq_true', decide_eq_false_iff_not] at h4; exact (h4.2 h).elim
  | false =>
  rw [h4, cond_false] at h
  cases h5 : (!decide (srcE q.src q.join = 0)) with
  | true => rw [h5, cond_true] at h; simp only [Bool.not_eq_true', decide_eq_false_iff_not] at h5; exact (h5 h).elim
  | false =>
  rw [h5, cond_false] at h
  cases h6 : (!fitsW q.wk q.ws q.we || (q.join && !decide (q.wk = 1))) with
  | true => rw [h6] at h; cases h
  | false =>
  simp only [Bool.and_eq_false_iff, decide_eq_false_iff_not, Bool.not_eq_false', decide_eq_true_eq] at h2 h3 h4 h5
  exact ⟨rfl, fun ha => List.length_eq_zero_iff.1 (by omega), fun ha => h3.resolve_left ha, fun hw => h4.resolve_left (fun g => g hw), h5, rfl⟩
theorem clk_mk {q : Qry} (h1 : (decide (q.agg < 1) || decide (4 < q.agg) || (!decide (q.late = 1) && !decide (q.late = 2))) = false) (h2 : q.agg = 1 → q.arg = []) (h3 : q.agg ≠ 1 → chkN q.arg = 0) (h4 : 0 < q.whr.length → chkN q.whr = 0) (h5 : srcE q.src q.join = 0) (h6 : (!fitsW q.wk q.ws q.we || (q.join && !decide (q.wk = 1))) = false) : clkE q = 0 := by
  have e2 : (decide (q.agg = 1) && decide (0 < q.arg.length)) = false := by
    by_cases ha : q.agg = 1
    · rw [h2 ha]; simp
    · rw [decide_eq_false ha]; rfl
  have e3 : (!decide (q.agg = 1) && !decide (chkN q.arg = 0)) = false := by
    by_cases ha : q.agg = 1
    · rw [decide_eq_true ha]; rfl
    · rw [decide_eq_true (h3 ha)]; simp
  have e4 : (decide (0 < q.whr.length) && !decide (chkN q.whr = 0)) = false := by
    by_cases hw : 0 < q.whr.length
    · rw [decide_eq_true (h4 hw)]; simp
    · rw [decide_eq_false hw]; rfl
  unfold clkE
  rw [h1, e2, e3, e4, h5, h6]; rfl
theorem ba_true (q : Qry) : baO q = rb true := by
  unfold baO grQ
  cases decide ((70 : Int) < (q.arg.length : Int)) with
  | true => rfl
  | false =>
  cases decide ((70 : Int) < (q.whr.length : Int)) with
  | true => rfl
  | false =>
  cases decide ((10 : Int) < (q.src.length : Int)) with
  | true => rfl
  | false =>
  by_cases hc : clkE q = 0
  · rw [decide_eq_true hc]
    simp only [Bool.not_true, cond_false]
    obtain ⟨c1, c2, c3, c4, c5, c6⟩ := clk_inv hc
    have l1 : (decide ((1 : Int) < 1) || decide (4 < (1 : Int)) || (!decide (q.late = 1) && !decide (q.late = 2))) = false := by
      cases ha : (!decide (q.late = 1) && !decide (q.late = 2)) with
      | false => rfl
      | true => rw [ha, Bool.or_true] at c1; cases c1
    have hb : clkE (bareA q) = 0 := clk_mk l1 (fun _ => rfl) (fun h => (h rfl).elim) (fun h => by cases h) c5 c6
    have ha : clkE (argA q) = 0 := clk_mk c1 c2 c3 (fun h => by cases h) c5 c6
    have hw : clkE (whrA q) = 0 := clk_mk l1 (fun _ => rfl) (fun h => (h rfl).elim) c4 c5 c6
    have eb : ckE (bareA q) = (0, 0) := by unfold ckE; rw [decide_eq_true hb]; rfl
    have ea : ckE (argA q) = (bif decide (0 < q.arg.length) && !decide ((kWant q.arg false).2 = 0) then (posAt q.arg (kWant q.arg false).1, (kWant q.arg false).2) else (0, 0)) := by unfold ckE; rw [decide_eq_true ha]; rfl
    have ew : ckE (whrA q) = ckW q := by unfold ckE; rw [decide_eq_true hw]; rfl
    have eq : ckE q = (bif decide (0 < q.arg.length) && !decide ((kWant q.arg false).2 = 0) then (posAt q.arg (kWant q.arg false).1, (kWant q.arg false).2) else ckW q) := by unfold ckE; rw [decide_eq_true hc]; rfl
    rw [eb]
    by_cases hp : (decide (0 < q.arg.length) && !decide ((kWant q.arg false).2 = 0)) = true
    · have hne : ¬ (kWant q.arg false).2 = 0 := by
        have hp2 := hp
        rw [Bool.and_eq_true, Bool.not_eq_true', decide_eq_false_iff_not] at hp2
        exact hp2.2
      rw [hp, cond_true] at ea eq
      rw [ea, eq, decide_eq_false hne]
      unfold fbQ
      simp
    · have hp := Bool.eq_false_iff.2 hp
      rw [hp, cond_false] at ea eq
      rw [ea, eq, ew]
      unfold fbQ
      simp
  · rw [decide_eq_false hc]; rfl
theorem okBare (hB : Laid B) : FnOk (E0 B) 10 (sTyped B) := by
  refine fnT (libTy_ok hB) Tryz.func10 (by kernel_rfl) (by kernel_rfl) fun vs bs r h => ?_
  unfold sTyped at h
  split at h
  · rename_i ag j wk ws we bk lt A S W
    simp only [T.sel, Option.some.injEq] at h; subst h
    exact (tBare ⟨ag, A, S, j, W, wk, ws, we, bk, lt⟩).trans (ba_true _)
  · simp [T.sel] at h
end Go.Proofs.YtfniiapkghpihaaGreatDoor
/-
  ChecksNames.
-/
namespace Go.Proofs.YtfniiapkghpihaaGreatDoor
open Go.Am Go
set_option maxRecDepth 100000
variable {B : Nat → Option Obj}
theorem tNames10 : runT B libE Tryz.f11 [] [] = rb true := by kernel_rfl
theorem okNames10 (hB : Laid B) : FnOk (E0 B) 11 (sTrue0 B) := by
  refine fnT (libE_ok hB) Tryz.func11 (by kernel_rfl) (by kernel_rfl) fun vs bs r h => ?_
  unfold sTrue0 at h
  split at h
  · simp only [T.sel, Option.some.injEq] at h; subst h; exact tNames10
  · simp [T.sel] at h
end Go.Proofs.YtfniiapkghpihaaGreatDoor
