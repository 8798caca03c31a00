/-
  Texts put together: RefPl, RefPl2, RefPl3, RefPl4, RefPl5.
-/
import Derived.Test.YtfniiapkghpihaaDoorPlnA
import Derived.Test.YtfniiapkghpihaaDoorRefA
import Derived.Test.YtfniiapkghpihaaDoorPureB
/-
  Plans: the reference's steps and lines by contract.
-/
namespace Go.Proofs.YtfniiapkghpihaaDoor.Rp
open Go.Am Go Go.Proofs.YtfniiapkghpihaaDoor
set_option maxRecDepth 100000
variable {B : Nat → Option Obj}
/-! steps -/
def b5 {α : Type} (w k n j l : Bool) (f : Bool → Bool → Bool → Bool → Bool → α) : α :=
  bif w then (bif k then (bif n then (bif j then (bif l then f true true true true true else f true true true true false) else (bif l then f true true true false true else f true true true false false)) else (bif j then (bif l then f true true false true true else f true true false true false) else (bif l then f true true false false true else f true true false false false)))
    else (bif n then (bif j then (bif l then f true false true true true else f true false true true false) else (bif l then f true false true false true else f true false true false false)) else (bif j then (bif l then f true false false true true else f true false false true false) else (bif l then f true false false false true else f true false false false false))))
  else (bif k then (bif n then (bif j then (bif l then f false true true true true else f false true true true false) else (bif l then f false true true false true else f false true true false false)) else (bif j then (bif l then f false true false true true else f false true false true false) else (bif l then f false true false false true else f false true false false false)))
    else (bif n then (bif j then (bif l then f false false true true true else f false false true true false) else (bif l then f false false true false true else f false false true false false)) else (bif j then (bif l then f false false false true true else f false false false true false) else (bif l then f false false false false true else f false false false false false))))
theorem b5_is {α : Type} (w k n j l : Bool) (f : Bool → Bool → Bool → Bool → Bool → α) : b5 w k n j l f = f w k n j l := by cases w <;> cases k <;> cases n <;> cases j <;> cases l <;> rfl
def stR (w k n j l : Bool) : List Int := [1, 2] ++ ((bif w then [3] else []) ++ (4 :: ((bif k then [5] else []) ++ (6 :: ((bif n then [7] else []) ++ ((bif j then [8] else []) ++ (9 :: (bif l then [10] else []))))))))
def stRO (w k n j l : Bool) : Option Out := some ⟨[.slw 0], [⟨true, .bytes 5 (stR w k n j l)⟩]⟩
theorem tStepsR (q : Qry) : runT B Ck.lb6 Tryd.f18 [q.av 0 1 2] (Ck.qbs q) = b5 (decide ((0 : Int) < (q.whr.length : Int))) q.byKey (!q.join) q.join (decide (q.late = 2)) stRO := by kernel_rfl
theorem stR_is (w k j l : Bool) : stR w k (!j) j l = stp w k j l := by cases w <;> cases k <;> cases j <;> cases l <;> rfl
theorem okStepsR : FnOk (E0 B) 18 Pl.sSteps := by
  refine fnT Ck.lb6_ok Tryd.func18 (by kernel_rfl) (by kernel_rfl) fun vs bs r h => ?_
  unfold Pl.sSteps at h
  split at h
  · rename_i ag j wk ws we bk lt A S W
    simp only [T.sel, Option.some.injEq] at h; subst h
    refine (tStepsR ⟨ag, A, S, j, W, wk, ws, we, bk, lt⟩).trans ?_
    rw [b5_is, Ck.pos_cast]
    unfold stRO
    rw [stR_is]; rfl
  · simp [T.sel] at h
/-! a line -/
noncomputable def bSc : Code := loopAt 6 (loopsOf (bodyC Tryd.f23))
def sgSc : LSig := { cs := [(2, 0)], mv := [(6, 0), (7, 0)], mo := [(6, 0)], take := [] }
theorem turnSc (q : Qry) (u : List UInt8) (i : Int) : (turn (E0 B) (Cx B libT9) noL 103 sgSc bSc [.ptr 0 0 0, .str u, i64 i] (qBs q)).sel =
    bif decide (i < (q.src.length : Int)) then inb' i q.src.length (bif inR (sGt q i) then cat9 [32] (nmS (sGt q i)) (fun v => cat9 u v fun u' => some (.normal, ⟨[.ptr 0 0 0, .str u', i64 (w64 (i + 1))], qBs q⟩)) else none) else some (.exit 1, ⟨[.str u], qBs q⟩) := by kernel_rfl
theorem runSc (q : Qry) : ∀ (r : List Int) (i : Nat) (u : List UInt8), q.src.drop i = r → q.src.length ≤ 4 → r.all inR = true → u.length ≤ 1000 + 2 * i → i ≤ q.src.length → ∃ m, (turns (E0 B) (Cx B libT9) noL 103 sgSc bSc m [.ptr 0 0 0, .str u, i64 i] (qBs q)).sel = some (.exit 1, ⟨[.str (u ++ Pl.scN r)], qBs q⟩)
  | [], i, u, hd, hS, _, _, hi => by
    have hl : i = q.src.length := by have := List.drop_eq_nil_iff.1 hd; omega
    refine ⟨1, turns_done ((turnSc q u _).trans ?_) (by simp)⟩
    rw [decide_eq_false (by omega), show u ++ Pl.scN [] = u from List.append_nil u]; rfl
  | x :: r, i, u, hd, hS, ha, hu, hi => by
    rw [List.all_cons, Bool.and_eq_true] at ha
    obtain ⟨hg, hlt⟩ := gS_is hd
    have hg : sGt q i = x := hg
    have hnm := nmS_len x
    have hr1 : w64 ((i : Int) + 1) = ((i + 1 : Nat) : Int) := by rw [w64_rng (show Rng ((i : Int) + 1) by unfold Rng; omega)]; rfl
    have ht := turnSc (B := B) q u i
    have hd' : q.src.drop (i + 1) = r := by rw [← List.drop_drop, hd]; rfl
    rw [decide_eq_true (show (i : Int) < (q.src.length : Int) by omega), cond_true, inb'_is hlt, hg, ha.1, cond_true, cat9_in (by simp only [List.length_cons, List.length_nil]; omega), cat9_in (by simp only [List.length_append, List.length_cons, List.length_nil]; omega), hr1] at ht
    obtain ⟨m, hm⟩ := runSc q r (i + 1) (u ++ ([32] ++ nmS x)) hd' hS ha.2 (by simp only [List.length_append, List.length_cons, List.length_nil]; omega) (by omega)
    refine ⟨m + 1, (turns_more ht hm).trans ?_⟩
    simp [Pl.scN]
def spSc : LSpec
  | [.ptr 0 0 0, .str u, .int .i64 i], [⟨true, .gen ty [[.int .u8 ag, .slw 1, .slw 2, .bool j, .slw 3, .int .u8 wk, .int .i64 ws, .int .i64 we, .bool bk, .int .u8 lt]]⟩, ⟨false, .nodes A⟩, ⟨false, .ints .i64 S⟩, ⟨false, .nodes W⟩] =>
    .node (decide (ty = qTy) && (decide (i = 0 ∧ S.length ≤ 4 ∧ u.length ≤ 1000) && S.all inR)) (.leaf (.exit 1, ⟨[.str (u ++ Pl.scN S)], [⟨true, .gen qTy [[.int .u8 ag, .slw 1, .slw 2, .bool j, .slw 3, .int .u8 wk, .int .i64 ws, .int .i64 we, .bool bk, .int .u8 lt]]⟩, ⟨false, .nodes A⟩, ⟨false, .ints .i64 S⟩, ⟨false, .nodes W⟩]⟩)) .bad
  | _, _ => .bad
theorem loopSc : LoopOk (E0 B) 103 sgSc bSc spSc := by
  refine loop_turns (C := Cx B libT9) (L := noL) (cxOk libT9_ok) (noL_ok _) fun vs bs e o h => ?_
  unfold spSc at h
  split at h
  · rename_i u i ty ag j wk ws we bk lt A S W
    rcases T.node_sel h with ⟨hc, h2⟩ | ⟨_, h2⟩
    · simp only [Bool.and_eq_true] at hc
      have hty := of_decide_eq_true hc.1
      subst hty
      obtain ⟨rfl, hS, hu⟩ := of_decide_eq_true hc.2.1
      simp only [T.sel, Option.some.injEq] at h2
      rw [← h2]
      exact runSc (B := B) ⟨ag, A, S, j, W, wk, ws, we, bk, lt⟩ S 0 u rfl hS hc.2.2 (by omega) (by omega)
    · simp [T.sel] at h2
  · simp [T.sel] at h
noncomputable def eSc : LEnt := { id := 6, n := 103, sg := sgSc, wr := writes bSc, s := spSc }
noncomputable abbrev rR (B : Nat → Option Obj) (q : Qry) (s : Int) : Option Out := runL B libT9 [eSc] Tryd.f23 [q.av 0 1 2, .int .u8 s] (Ck.qbs q)
def rgO (n : Int) (k : List UInt8 → Option Out) : Option Out := bif decide (Rng n) then k (Lib.itoa n) else none
theorem tR1 (q : Qry) : rR B q 1 = rgO q.ws fun _ => bif decide (qTy = qTy) && (decide ((0 : Int) = 0 ∧ q.src.length ≤ 4 ∧ wScan.length ≤ 1000) && q.src.all inR) then strO (wScan ++ Pl.scN q.src) else none := by kernel_rfl
theorem tR2 (q : Qry) : rR B q 2 = rgO q.ws fun _ => bif decide (q.late = 2) then strO (wLate ++ 32 :: wSide) else strO (wLate ++ 32 :: wDrop) := by kernel_rfl
theorem tR3 (q : Qry) : rR B q 3 = rgO q.ws fun _ => sbT q.whr fun w => cat9 (wWhere ++ [32]) w strO := by kernel_rfl
theorem tR4 (q : Qry) : rR B q 4 = rgO q.ws fun _ => bif decide (q.agg = 1) then strO (wProj ++ [32, 48]) else sbT q.arg fun w => cat9 (wProj ++ [32]) w strO := by kernel_rfl
theorem tR5 (q : Qry) : rR B q 5 = rgO q.ws fun _ => strO wKey := by kernel_rfl
theorem tR9 (q : Qry) : rR B q 9 = rgO q.ws fun _ => strO wEmit := by kernel_rfl
theorem tR10 (q : Qry) : rR B q 10 = rgO q.ws fun _ => strO wSide := by kernel_rfl
def agO (q : Qry) (k : Int → Option Out) : Option Out := bif decide (q.agg = 1) then k 1 else bif decide (q.agg = 2) then k 2 else bif decide (q.agg = 3) then k 3 else k 4
theorem tR7 (q : Qry) : rR B q 7 = rgO q.ws fun _ => agO q fun k => strO (wAg k) := by kernel_rfl
theorem tR8 (q : Qry) : rR B q 8 = rgO q.ws fun _ => agO q fun k => strO (wJoin ++ 32 :: wAg k) := by kernel_rfl
theorem tR6 (q : Qry) : rR B q 6 = rgO q.ws fun n => bif decide (q.wk = 2) then (cat9 (wWk 2 ++ [32]) n fun u => cat9 u (32 :: (wEvery ++ [32])) fun u2 => rgO q.we fun v => cat9 u2 v strO) else bif decide (q.wk = 1) then cat9 (wWk 1 ++ [32]) n strO else cat9 (wWk 3 ++ [32]) n strO := by kernel_rfl
end Go.Proofs.YtfniiapkghpihaaDoor.Rp
/-
  Plans: the reference's Text, Of, Check by contract.
-/
namespace Go.Proofs.YtfniiapkghpihaaDoor.Rp
open Go.Am Go Go.Proofs.YtfniiapkghpihaaDoor
set_option maxRecDepth 100000
variable {B : Nat → Option Obj}
theorem rgO_in {n : Int} (h : Rng n) (k : List UInt8 → Option Out) : rgO n k = k (Lib.itoa n) := by
  unfold rgO
  rw [decide_eq_true h]; rfl
theorem agO_is {q : Qry} (h1 : 1 ≤ q.agg) (h4 : q.agg ≤ 4) (k : Int → Option Out) : agO q k = k q.agg := by
  unfold agO
  have hag : q.agg = 1 ∨ q.agg = 2 ∨ q.agg = 3 ∨ q.agg = 4 := by omega
  rcases hag with h | h | h | h <;> rw [h] <;> rfl
theorem lineR_is {q : Qry} {s : Int} (h : Pl.lnG q s = true) : rR B q s = strO (Pl.lnS q s) := by
  unfold Pl.lnG at h
  simp only [Bool.and_eq_true, Bool.not_eq_true', Bool.and_eq_false_iff, decide_eq_false_iff_not] at h
  obtain ⟨hc, hA, hW, hs, h3⟩ := h
  have hc := of_decide_eq_true hc
  obtain ⟨s1, s10⟩ := of_decide_eq_true hs
  have hq := qok_of hc hA hW
  have hi1 := itoa_len hq.ws
  have hi2 := itoa_len hq.we
  have hcase : s = 1 ∨ s = 2 ∨ s = 3 ∨ s = 4 ∨ s = 5 ∨ s = 6 ∨ s = 7 ∨ s = 8 ∨ s = 9 ∨ s = 10 := by omega
  rcases hcase with rfl | rfl | rfl | rfl | rfl | rfl | rfl | rfl | rfl | rfl
  · rw [tR1, rgO_in hq.ws, decide_eq_true (rfl : qTy = qTy), decide_eq_true (show (0 : Int) = 0 ∧ q.src.length ≤ 4 ∧ wScan.length ≤ 1000 from ⟨rfl, hq.s4, by decide⟩), hq.sR]; rfl
  · rw [tR2, rgO_in hq.ws]
    show _ = strO (ltL q.late)
    unfold ltL
    cases decide (q.late = 2) <;> rfl
  · have hl : 0 < q.whr.length := by have := h3.resolve_left (fun g => g rfl); omega
    obtain ⟨hlen, hx⟩ := sbT_is (hq.whr hl) hW
    rw [tR3, rgO_in hq.ws, hx, cat9_in (by have : (wWhere ++ [32]).length = 6 := rfl; omega)]
    rfl
  · rw [tR4, rgO_in hq.ws]
    show _ = strO (pjL q.agg (prS q.arg))
    unfold pjL
    by_cases ha : q.agg = 1
    · rw [decide_eq_true ha]; rfl
    · obtain ⟨hlen, hx⟩ := sbT_is (hq.arg ha) hA
      rw [decide_eq_false ha, cond_false, cond_false, hx, cat9_in (by have : (wProj ++ [32]).length = 8 := rfl; omega)]
      rfl
  · rw [tR5, rgO_in hq.ws]; rfl
  · rw [tR6, rgO_in hq.ws]
    show _ = strO (winL q.wk q.ws q.we)
    have hwk : q.wk = 1 ∨ q.wk = 2 ∨ q.wk = 3 := by have := hq.k1; have := hq.k3; omega
    have l2 : (wWk 2 ++ [32]).length = 6 := rfl
    have l3 : (32 :: (wEvery ++ [32])).length = 7 := rfl
    have l1 : (wWk 1 ++ [32]).length = 7 := rfl
    have l4 : (wWk 3 ++ [32]).length = 8 := rfl
    rcases hwk with hk | hk | hk
    · rw [hk, decide_eq_false (show ¬ (1 : Int) = 2 by decide), cond_false, decide_eq_true (rfl : (1 : Int) = 1), cond_true, cat9_in (by omega)]; rfl
    · rw [hk, decide_eq_true (rfl : (2 : Int) = 2), cond_true, cat9_in (by omega), cat9_in (by rw [List.length_append]; omega), rgO_in hq.we, cat9_in (by rw [List.length_append, List.length_append]; omega)]
      show strO _ = strO (wWk 2 ++ 32 :: (Lib.itoa q.ws ++ 32 :: (wEvery ++ 32 :: Lib.itoa q.we)))
      simp only [List.append_assoc, List.cons_append, List.nil_append]
    · rw [hk, decide_eq_false (show ¬ (3 : Int) = 2 by decide), cond_false, decide_eq_false (show ¬ (3 : Int) = 1 by decide), cond_false, cat9_in (by omega)]; rfl
  · rw [tR7, rgO_in hq.ws, agO_is hq.a1 hq.a4]; rfl
  · rw [tR8, rgO_in hq.ws, agO_is hq.a1 hq.a4]; rfl
  · rw [tR9, rgO_in hq.ws]; rfl
  · rw [tR10, rgO_in hq.ws]; rfl
theorem okLineR : FnOk (E0 B) 23 Pl.sLine := by
  refine fnL libT9_ok (ls := [eSc]) Tryd.func23 (by kernel_rfl) (by kernel_rfl) (fun x hx => ?_) fun vs bs r h => ?_
  · simp only [List.mem_singleton] at hx; subst hx
    exact ⟨bSc, by kernel_rfl, rfl, loopSc⟩
  unfold Pl.sLine at h
  split at h
  · rename_i ag j wk ws we bk lt s A S W
    rcases T.node_sel h with ⟨hc, h2⟩ | ⟨_, h2⟩
    · simp only [T.sel, Option.some.injEq] at h2; subst h2
      exact lineR_is (q := ⟨ag, A, S, j, W, wk, ws, we, bk, lt⟩) hc
    · simp [T.sel] at h2
  · simp [T.sel] at h
/-! Check -/
noncomputable def lib1 : Tb := (18, [], Pl.sSteps) :: (23, [], Pl.sLine) :: Ck.lb6
theorem lib1_ok : TbOk B lib1 := (Ck.lb6_ok.add okLineR).add okStepsR
theorem tChkR (st : List Int) (q : Qry) : runT B lib1 Tryd.f11 [Pl.plAv q 0 1 2 3] (Pl.plBs false st q) = bif !decide ((ckE q).2 = 0) then ri (ckE q).2 else bif !decide (byteList st = byteList (stpQ q)) then ri 8 else ri 0 := by kernel_rfl
theorem byte_inj : ∀ {a b : List Int}, a.all inByte = true → b.all inByte = true → byteList a = byteList b → a = b
  | [], [], _, _, _ => rfl
  | [], _ :: _, _, _, h => by cases h
  | _ :: _, [], _, _, h => by cases h
  | x :: a, y :: b, h1, h2, h => by
    rw [List.all_cons, Bool.and_eq_true] at h1 h2
    have h3 := List.cons.inj (show UInt8.ofNat x.toNat :: byteList a = UInt8.ofNat y.toNat :: byteList b from h)
    have hx := of_decide_eq_true h1.1
    have hy := of_decide_eq_true h2.1
    have h4 := congrArg UInt8.toNat h3.1
    rw [UInt8.toNat_ofNat', UInt8.toNat_ofNat'] at h4
    have e : x = y := by omega
    rw [e, byte_inj h1.2 h2.2 h3.2]
theorem stp_byte (q : Qry) : (stpQ q).all inByte = true := by
  unfold stpQ
  cases decide (0 < q.whr.length) <;> cases q.byKey <;> cases q.join <;> cases decide (q.late = 2) <;> decide
theorem bl_is {st : List Int} {q : Qry} (h : st.all inByte = true) : decide (byteList st = byteList (stpQ q)) = decide (st = stpQ q) := by
  by_cases he : st = stpQ q
  · rw [decide_eq_true he, he, decide_eq_true rfl]
  · rw [decide_eq_false he, decide_eq_false fun g => he (byte_inj h (stp_byte q) g)]
def sChkR : FSpec
  | [.agg [.slw 0, .int .u8 ag, .slw 1, .slw 2, .bool j, .slw 3, .int .u8 wk, .int .i64 ws, .int .i64 we, .bool bk, .int .u8 lt]], [⟨false, .ints .u8 st⟩, ⟨false, .nodes A⟩, ⟨false, .ints .i64 S⟩, ⟨false, .nodes W⟩] => .node (st.all inByte) (.leaf ⟨[.int .i64 (Pl.plE st ⟨ag, A, S, j, W, wk, ws, we, bk, lt⟩)], []⟩) .bad
  | _, _ => .bad
theorem okChkR : FnOk (E0 B) 11 sChkR := by
  refine fnT lib1_ok Tryd.func11 (by kernel_rfl) (by kernel_rfl) fun vs bs r h => ?_
  unfold sChkR at h
  split at h
  · rename_i ag j wk ws we bk lt st A S W
    rcases T.node_sel h with ⟨hc, h2⟩ | ⟨_, h2⟩
    · simp only [T.sel, Option.some.injEq] at h2; subst h2
      refine (tChkR st ⟨ag, A, S, j, W, wk, ws, we, bk, lt⟩).trans ?_
      rw [bl_is hc]
      unfold Pl.plE
      cases decide ((ckE ⟨ag, A, S, j, W, wk, ws, we, bk, lt⟩).2 = 0) <;> cases decide (st = stpQ ⟨ag, A, S, j, W, wk, ws, we, bk, lt⟩) <;> rfl
    · simp [T.sel] at h2
  · simp [T.sel] at h
/-! Text -/
noncomputable def lib2 : Tb := (11, [], sChkR) :: lib1
theorem lib2_ok : TbOk B lib2 := lib1_ok.add okChkR
noncomputable def bPt : Code := loopAt 6 (loopsOf (bodyC Tryd.f8))
def sgPt : LSig := { cs := [(1, 0)], mv := [(5, 0), (6, 0)], mo := [(5, 0)], take := [] }
def ptB (st : List Int) (q : Qry) : List Blk := [⟨true, .gen Pl.pTy [Pl.pCs q 1 2 3 4]⟩, ⟨false, .ints .u8 st⟩, ⟨false, .nodes q.arg⟩, ⟨false, .ints .i64 q.src⟩, ⟨false, .nodes q.whr⟩]
def stA (st : List Int) (i : Int) : Int := st.getD i.toNat 0
theorem turnPt (q : Qry) (st : List Int) (u : List UInt8) (i : Int) : (turn (E0 B) (Cx B lib2) noL 31 sgPt bPt [.ptr 0 0 0, .str u, i64 i] (ptB st q)).sel =
    bif decide (i < (st.length : Int)) then Ck.inb i st.length (bif Pl.lnG q (stA st i) then cat9 (Pl.lnS q (stA st i)) [10] (fun v => cat9 u v fun u' => some (.normal, ⟨[.ptr 0 0 0, .str u', i64 (w64 (i + 1))], ptB st q⟩)) else none) else some (.exit 0, ⟨[.str u], ptB st q⟩) := by kernel_rfl
theorem runPt (q : Qry) (st : List Int) (hst : st.length ≤ 30) : ∀ (r : List Int) (i : Nat) (u : List UInt8), st.drop i = r → r.all (Pl.lnG q) = true → u.length ≤ 3000 * i → i ≤ st.length →
    ∃ k, (turns (E0 B) (Cx B lib2) noL 31 sgPt bPt k [.ptr 0 0 0, .str u, i64 i] (ptB st q)).sel = some (.exit 0, ⟨[.str (u ++ Pl.plB q r)], ptB st q⟩)
  | [], i, u, hd, _, _, hi => by
    have hl : i = st.length := by have := List.drop_eq_nil_iff.1 hd; omega
    refine ⟨1, turns_done ((turnPt q st u _).trans ?_) (by simp)⟩
    rw [decide_eq_false (by omega), show u ++ Pl.plB q [] = u from List.append_nil u]; rfl
  | s :: r, i, u, hd, ha, hu, hi => by
    rw [List.all_cons, Bool.and_eq_true] at ha
    obtain ⟨e, hlt⟩ := gS_is hd
    have e : stA st i = s := e
    have hl := Pl.lnS_len ha.1
    have hd' : st.drop (i + 1) = r := by rw [← List.drop_drop, hd]; rfl
    have hr1 : w64 ((i : Int) + 1) = ((i + 1 : Nat) : Int) := by rw [w64_rng (show Rng ((i : Int) + 1) by unfold Rng; omega)]; rfl
    have ht := turnPt (B := B) q st u i
    rw [decide_eq_true (show (i : Int) < (st.length : Int) by omega), cond_true, Ck.inb_is hlt, e, ha.1, cond_true, cat9_in (by simp only [List.length_cons, List.length_nil]; omega), cat9_in (by simp only [List.length_append, List.length_cons, List.length_nil]; omega), hr1] at ht
    obtain ⟨k, hk⟩ := runPt q st hst r (i + 1) (u ++ (Pl.lnS q s ++ [10])) hd' ha.2 (by simp only [List.length_append, List.length_cons, List.length_nil]; omega) (by omega)
    refine ⟨k + 1, (turns_more ht hk).trans ?_⟩
    simp [Pl.plB]
def spPt : LSpec
  | [.ptr 0 0 0, .str u, .int .i64 i], [⟨true, .gen ty [[.slw 1, .int .u8 ag, .slw 2, .slw 3, .bool j, .slw 4, .int .u8 wk, .int .i64 ws, .int .i64 we, .bool bk, .int .u8 lt]]⟩, ⟨false, .ints .u8 st⟩, ⟨false, .nodes A⟩, ⟨false, .ints .i64 S⟩, ⟨false, .nodes W⟩] =>
    .node (decide (ty = Pl.pTy) && (decide (i = 0 ∧ u = [] ∧ st.length ≤ 30) && st.all (Pl.lnG ⟨ag, A, S, j, W, wk, ws, we, bk, lt⟩))) (.leaf (.exit 0, ⟨[.str (Pl.plB ⟨ag, A, S, j, W, wk, ws, we, bk, lt⟩ st)], ptB st ⟨ag, A, S, j, W, wk, ws, we, bk, lt⟩⟩)) .bad
  | _, _ => .bad
theorem loopPt : LoopOk (E0 B) 31 sgPt bPt spPt := by
  refine loop_turns (C := Cx B lib2) (L := noL) (cxOk lib2_ok) (noL_ok _) fun vs bs e o h => ?_
  unfold spPt at h
  split at h
  · rename_i u i ty ag j wk ws we bk lt st A S W
    rcases T.node_sel h with ⟨hc, h2⟩ | ⟨_, h2⟩
    · simp only [Bool.and_eq_true] at hc
      have hty := of_decide_eq_true hc.1
      subst hty
      obtain ⟨rfl, rfl, hl⟩ := of_decide_eq_true hc.2.1
      simp only [T.sel, Option.some.injEq] at h2
      rw [← h2]
      exact runPt (B := B) ⟨ag, A, S, j, W, wk, ws, we, bk, lt⟩ st hl st 0 [] rfl hc.2.2 (Nat.zero_le _) (Nat.zero_le _)
    · simp [T.sel] at h2
  · simp [T.sel] at h
noncomputable def ePt : LEnt := { id := 6, n := 31, sg := sgPt, wr := writes bPt, s := spPt }
theorem tTextR (st : List Int) (q : Qry) : runL B lib2 [ePt] Tryd.f8 [Pl.plAv q 0 1 2 3] (Pl.plBs false st q) = bif st.all inByte then (bif !decide (Pl.plE st q = 0) then tx9 [] (Pl.plE st q) else bif decide (Pl.pTy = Pl.pTy) && (decide ((0 : Int) = 0 ∧ ([] : List UInt8) = [] ∧ st.length ≤ 30) && st.all (Pl.lnG q)) then tx9 (Pl.plB q st) 0 else none) else none := by kernel_rfl
theorem textR_is {st : List Int} {q : Qry} (hb : st.all inByte = true) (hA : rngX q.arg = true) (hW : rngX q.whr = true) : runL B lib2 [ePt] Tryd.f8 [Pl.plAv q 0 1 2 3] (Pl.plBs false st q) = tx9 (Pl.ptT st q) (Pl.plE st q) := by
  rw [tTextR, hb, cond_true]
  unfold Pl.ptT
  by_cases h : Pl.plE st q = 0
  · obtain ⟨h1, h2⟩ := Pl.plE_0 h
    have hc := Pl.ckE_clk h1
    obtain ⟨a1, a2, a3⟩ := Pl.stp_all hc hA hW
    rw [← h2] at a1 a2 a3
    rw [decide_eq_true h, decide_eq_true (rfl : Pl.pTy = Pl.pTy), decide_eq_true (show (0 : Int) = 0 ∧ ([] : List UInt8) = [] ∧ st.length ≤ 30 from ⟨rfl, rfl, by omega⟩), a1, h]; rfl
  · rw [decide_eq_false h]; rfl
def sTextR : FSpec
  | [.agg [.slw 0, .int .u8 ag, .slw 1, .slw 2, .bool j, .slw 3, .int .u8 wk, .int .i64 ws, .int .i64 we, .bool bk, .int .u8 lt]], [⟨false, .ints .u8 st⟩, ⟨false, .nodes A⟩, ⟨false, .ints .i64 S⟩, ⟨false, .nodes W⟩] => .node (st.all inByte && (rngX A && rngX W)) (.leaf ⟨[.str (Pl.ptT st ⟨ag, A, S, j, W, wk, ws, we, bk, lt⟩), .int .i64 (Pl.plE st ⟨ag, A, S, j, W, wk, ws, we, bk, lt⟩)], []⟩) .bad
  | _, _ => .bad
theorem okTextR : FnOk (E0 B) 8 sTextR := by
  refine fnL lib2_ok (ls := [ePt]) Tryd.func8 (by kernel_rfl) (by kernel_rfl) (fun x hx => ?_) fun vs bs r h => ?_
  · simp only [List.mem_singleton] at hx; subst hx
    exact ⟨bPt, by kernel_rfl, rfl, loopPt⟩
  unfold sTextR at h
  split at h
  · rename_i ag j wk ws we bk lt st A S W
    rcases T.node_sel h with ⟨hc, h2⟩ | ⟨_, h2⟩
    · simp only [T.sel, Option.some.injEq] at h2; subst h2
      simp only [Bool.and_eq_true] at hc
      exact textR_is (q := ⟨ag, A, S, j, W, wk, ws, we, bk, lt⟩) hc.1 hc.2.1 hc.2.2
    · simp [T.sel] at h2
  · simp [T.sel] at h
end Go.Proofs.YtfniiapkghpihaaDoor.Rp
/-
  PlanTells: what the law asks.
-/
namespace Go.Proofs.YtfniiapkghpihaaDoor.Rp
open Go.Am Go Go.Proofs.YtfniiapkghpihaaDoor
set_option maxRecDepth 100000
variable {B : Nat → Option Obj}
theorem clk_inv {q : Qry} (h : clkE q = 0) : (decide (q.agg < 1) || decide (4 < q.agg) || (!decide (q.late = 1) && !decide (q.late = 2))) = false ∧ (q.agg = 1 → q.arg = []) ∧ (q.agg ≠ 1 → chkN q.arg = 0) ∧ (0 < q.whr.length → chkN q.whr = 0) ∧ srcE q.src q.join = 0 ∧ (!fitsW q.wk q.ws q.we || (q.join && !decide (q.wk = 1))) = false := by
  unfold clkE at h
  cases h1 : (decide (q.agg < 1) || decide (4 < q.agg) || (!decide (q.late = 1) && !decide (q.late = 2))) with
  | true => rw [h1] at h; cases h
  | false =>
  rw [h1, cond_false] at h
  cases h2 : (decide (q.agg = 1) && decide (0 < q.arg.length)) with
  | true => rw [h2] at h; cases h
  | false =>
  rw [h2, cond_false] at h
  cases h3 : (!decide (q.agg = 1) && !decide (chkN q.arg = 0)) with
  | true => rw [h3, cond_true] at h; simp only [Bool.and_eq_true, Bool.not_eq_true', decide_eq_false_iff_not] at h3; exact (h3.2 h).elim
  | false =>
  rw [h3, cond_false] at h
  cases h4 : (decide (0 < q.whr.length) && !decide (chkN q.whr = 0)) with
  | true => rw [h4, cond_true] at h; simp only [Bool.and_eq_true, Bool.not_eq_true', decide_eq_false_iff_not] at h4; exact (h4.2 h).elim
  | false =>
  rw [h4, cond_false] at h
  cases h5 : (!decide (srcE q.src q.join = 0)) with
  | true => rw [h5, cond_true] at h; simp only [Bool.not_eq_true', decide_eq_false_iff_not] at h5; exact (h5 h).elim
  | false =>
  rw [h5, cond_false] at h
  cases h6 : (!fitsW q.wk q.ws q.we || (q.join && !decide (q.wk = 1))) with
  | true => rw [h6] at h; cases h
  | false =>
  simp only [Bool.and_eq_false_iff, decide_eq_false_iff_not, Bool.not_eq_false', decide_eq_true_eq] at h2 h3 h4 h5
  exact ⟨rfl, fun ha => List.length_eq_zero_iff.1 (by omega), fun ha => h3.resolve_left ha, fun hw => h4.resolve_left (fun g => g hw), h5, rfl⟩
def ofR (q : Qry) (st : List Int) : Out := ⟨[Pl.plAv q 0 1 2 3, i64 0], [⟨true, .bytes 5 st⟩, ⟨false, .nodes q.arg⟩, ⟨true, .ints .i64 q.src⟩, ⟨false, .nodes q.whr⟩]⟩
def q0 : Qry := ⟨0, [], [], false, [], 0, 0, 0, false, 0⟩
def ofZ (e : Int) : Out := ⟨[Pl.plAv q0 0 1 2 3, i64 e], [⟨true, .bytes 5 []⟩, ⟨true, .nodes []⟩, ⟨true, .ints .i64 []⟩, ⟨true, .nodes []⟩]⟩
theorem tOf (q : Qry) : runT B Pl.lib6 Tryd.f5 [q.av 0 1 2] (Ck.qbs q) = bif !decide ((ckE q).2 = 0) then some (ofZ (ckE q).2) else bif decide (q.arg.length ≤ 1000) then (bif decide (0 < q.src.length) then (bif decide (([] : List Int).length + q.src.length ≤ lim) then (bif decide (q.whr.length ≤ 1000) then some (ofR q (stpQ q)) else none) else none) else none) else none := by kernel_rfl
theorem of_is (q : Qry) : runT B Pl.lib6 Tryd.f5 [q.av 0 1 2] (Ck.qbs q) = some (bif decide ((ckE q).2 = 0) then ofR q (stpQ q) else ofZ (ckE q).2) := by
  rw [tOf]
  by_cases h : (ckE q).2 = 0
  · have hc := Pl.ckE_clk h
    obtain ⟨c1, c2, c3, c4, c5, c6⟩ := clk_inv hc
    obtain ⟨s1, s2, _⟩ := srcE_inv c5
    have hA : q.arg.length ≤ 1000 := by
      by_cases h1 : q.agg = 1
      · rw [c2 h1]; simp
      · have := chk_len (c3 h1); omega
    have hW : q.whr.length ≤ 1000 := by
      by_cases h1 : 0 < q.whr.length
      · have := chk_len (c4 h1); omega
      · omega
    rw [decide_eq_true h, decide_eq_true hA, decide_eq_true s2, decide_eq_true (show ([] : List Int).length + q.src.length ≤ lim by simp only [List.length_nil, lim]; omega), decide_eq_true hW]; rfl
  · rw [decide_eq_false h]; rfl
noncomputable def bEq : Code := loopAt 4 (loopsOf (bodyC Tryd.f41))
def sgEq : LSig := { cs := [(0, 22), (1, 22)], mv := [(5, 0)], mo := [(4, 0)], take := [] }
theorem turnEq (L M : List Nod) (i : Int) : (turn (E0 B) (Cx B lib5) noL 26 sgEq bEq [.slw 0, .slw 1, i64 i] [⟨false, .nodes L⟩, ⟨false, .nodes M⟩]).sel =
    bif decide (i < (L.length : Int)) then inb' i L.length (inb' i M.length (bif !eqNod (L.getD i.toNat default) (M.getD i.toNat default) then some (.ret, ⟨[.bool false], []⟩) else some (.normal, ⟨[.slw 0, .slw 1, i64 (w64 (i + 1))], [⟨false, .nodes L⟩, ⟨false, .nodes M⟩]⟩))) else some (.exit 0, ⟨[.any], []⟩) := by kernel_rfl
def spEq : LSpec
  | [.slw 0, .slw 1, .int .i64 i], [⟨false, .nodes L⟩, ⟨false, .nodes M⟩] => .node (decide (i = 0 ∧ L.length = M.length ∧ L.length ≤ 1000)) (.node (all2 eqNod L M) (.leaf (.exit 0, ⟨[.any], []⟩)) (.leaf (.ret, ⟨[.bool false], []⟩))) .bad
  | _, _ => .bad
theorem loopEq : LoopOk (E0 B) 26 sgEq bEq spEq := by
  refine loop_turns (C := Cx B lib5) (L := noL) (cxOk lib5_ok) (noL_ok _) fun vs bs e o h => ?_
  unfold spEq at h
  split at h
  · rename_i i L M
    rcases T.node_sel h with ⟨hc, h2⟩ | ⟨_, h2⟩
    · obtain ⟨rfl, hlm, hl⟩ := of_decide_eq_true hc
      obtain ⟨m, hm⟩ := scan_turns (E := E0 B) (C := Cx B lib5) (L := noL) (n := 26) (sg := sgEq) (body := bEq) (st := fun i => [.slw 0, .slw 1, i64 i]) (bs := [⟨false, .nodes L⟩, ⟨false, .nodes M⟩]) (len := L.length)
        (bad := fun j => !eqNod (L.getD j default) (M.getD j default)) (ob := fun _ => ⟨[.bool false], []⟩) (k := 0) (oe := ⟨[.any], []⟩) (fun i hi => by
          rw [turnEq]
          by_cases h : i < L.length
          · rw [decide_eq_true h, decide_eq_true (show (i : Int) < (L.length : Int) by omega), cond_true, inb'_is h, inb'_is (show i < M.length by omega), w64_rng (show Rng ((i : Int) + 1) by unfold Rng; omega)]; rfl
          · rw [decide_eq_false h, decide_eq_false (show ¬ (i : Int) < (L.length : Int) by omega)]; rfl) L.length 0 (by omega)
      refine ⟨m, hm.trans ?_⟩
      rw [first2 hlm, ← h2]
      simp only [T.sel]
      cases all2 eqNod L M <;> rfl
    · simp [T.sel] at h2
  · simp [T.sel] at h
noncomputable def eEq : LEnt := { id := 4, n := 26, sg := sgEq, wr := writes bEq, s := spEq }
theorem tEq (L M : List Nod) : runL B lib5 [eEq] Tryd.f41 [.slw 0, .slw 1] [⟨false, .nodes L⟩, ⟨false, .nodes M⟩] =
    bif !decide ((L.length : Int) = (M.length : Int)) then rb false else bif decide ((0 : Int) = 0 ∧ L.length = M.length ∧ L.length ≤ 1000) then (bif all2 eqNod L M then rb true else rb false) else none := by kernel_rfl
def sExa : FSpec
  | [.slw 0, .slw 1], [⟨false, .nodes L⟩, ⟨false, .nodes M⟩] => .node (decide (L.length ≤ 1000)) (.leaf ⟨[.bool (all2 eqNod L M)], []⟩) .bad
  | _, _ => .bad
theorem okExa : FnOk (E0 B) 41 sExa := by
  refine fnL lib5_ok (ls := [eEq]) Tryd.func41 (by kernel_rfl) (by kernel_rfl) (fun x hx => ?_) fun vs bs r h => ?_
  · simp only [List.mem_singleton] at hx; subst hx
    exact ⟨bEq, by kernel_rfl, rfl, loopEq⟩
  unfold sExa at h
  split at h
  · rename_i L M
    rcases T.node_sel h with ⟨hc, h2⟩ | ⟨_, h2⟩
    · simp only [T.sel, Option.some.injEq] at h2; subst h2
      refine (tEq L M).trans ?_
      by_cases hl : L.length = M.length
      · rw [decide_eq_true (show (L.length : Int) = (M.length : Int) by omega), decide_eq_true (show (0 : Int) = 0 ∧ L.length = M.length ∧ L.length ≤ 1000 from ⟨rfl, hl, of_decide_eq_true hc⟩)]
        cases all2 eqNod L M <;> rfl
      · rw [decide_eq_false (show ¬ (L.length : Int) = (M.length : Int) by omega)]
        cases ha : all2 eqNod L M with
        | false => rfl
        | true => exact (hl (all2_len ha)).elim
    · simp [T.sel] at h2
  · simp [T.sel] at h
/-! Asked -/
def fbQ (b : Bool) (z : Option Out) : Option Out := bif b then z else rb false
def rS (b : Bool) (z : Option Out) : Option Out := bif b then z else none
def winE (p q : Qry) : Bool := decide (p.wk = q.wk) && (decide (p.ws = q.ws) && (decide (p.we = q.we) && true))
def chn (p : Qry) (z : Option Out) : Option Out := fbQ (decide (p.agg = p.agg)) (rS (decide (p.arg.length ≤ 1000)) (fbQ (all2 eqNod p.arg p.arg) (rS (decide (p.src.length ≤ 1000)) (fbQ (all2 Ck.eqInt p.src p.src) (fbQ (p.join == p.join) (rS (decide (p.whr.length ≤ 1000)) (fbQ (all2 eqNod p.whr p.whr) (fbQ (winE p p) (fbQ (p.byKey == p.byKey) (fbQ (decide (p.late = p.late)) z))))))))))
theorem all2_self {α : Type} {f : α → α → Bool} (h : ∀ x, f x x = true) : ∀ l : List α, all2 f l l = true
  | [] => rfl
  | x :: r => by
    show (f x x && all2 f r r) = true
    rw [h x, all2_self h r]; rfl
theorem chn_is {p : Qry} (h1 : p.arg.length ≤ 1000) (h2 : p.src.length ≤ 1000) (h3 : p.whr.length ≤ 1000) (z : Option Out) : chn p z = z := by
  unfold chn fbQ rS winE
  rw [decide_eq_true h1, decide_eq_true h2, decide_eq_true h3, all2_self (f := eqNod) (fun x => by simp [eqNod]), all2_self (f := eqNod) (fun x => by simp [eqNod]), all2_self (f := Ck.eqInt) (fun x => by simp [Ck.eqInt])]
  simp
def okQ (q : Qry) : Bool := decide ((ckE q).2 = 0)
/-! the reference's Of -/
noncomputable def lib3 : Tb := (8, [], sTextR) :: lib2
theorem lib3_ok : TbOk B lib3 := lib2_ok.add okTextR
def ofR' (q : Qry) (st : List Int) : Out := ⟨[Pl.plAv q 0 1 2 3, i64 0], [⟨true, .bytes 5 st⟩, ⟨true, .nodes q.arg⟩, ⟨true, .ints .i64 q.src⟩, ⟨true, .nodes q.whr⟩]⟩
theorem tOfR (q : Qry) : runT B lib3 Tryd.f6 [q.av 0 1 2] (Ck.qbs q) = bif !decide ((ckE q).2 = 0) then some (ofZ (ckE q).2) else rS (decide (([] : List Nod).length + q.arg.length ≤ lim)) (rS (decide (([] : List Nod).length + q.whr.length ≤ lim)) (rS (decide (([] : List Int).length + q.src.length ≤ lim)) (some (ofR' q (stpQ q))))) := by kernel_rfl
end Go.Proofs.YtfniiapkghpihaaDoor.Rp
/-
  PlanTells: what the law answers.
-/
namespace Go.Proofs.YtfniiapkghpihaaDoor.Rp
open Go.Am Go Go.Proofs.YtfniiapkghpihaaDoor
set_option maxRecDepth 100000
variable {B : Nat → Option Obj}
theorem len_of {q : Qry} (h : clkE q = 0) : q.arg.length ≤ 60 ∧ q.whr.length ≤ 60 ∧ q.src.length ≤ 4 := by
  obtain ⟨c1, c2, c3, c4, c5, c6⟩ := clk_inv h
  obtain ⟨s1, s2, _⟩ := srcE_inv c5
  refine ⟨?_, ?_, s1⟩
  · by_cases h1 : q.agg = 1
    · rw [c2 h1]; simp
    · exact (chk_len (c3 h1)).2
  · by_cases h1 : 0 < q.whr.length
    · exact (chk_len (c4 h1)).2
    · omega
theorem ofR_is (q : Qry) : runT B lib3 Tryd.f6 [q.av 0 1 2] (Ck.qbs q) = some (bif okQ q then ofR' q (stpQ q) else ofZ (ckE q).2) := by
  rw [tOfR]
  unfold okQ
  by_cases h : (ckE q).2 = 0
  · obtain ⟨l1, l2, l3⟩ := len_of (Pl.ckE_clk h)
    unfold rS
    rw [decide_eq_true h, decide_eq_true (show ([] : List Nod).length + q.arg.length ≤ lim by simp only [List.length_nil, lim]; omega), decide_eq_true (show ([] : List Nod).length + q.whr.length ≤ lim by simp only [List.length_nil, lim]; omega), decide_eq_true (show ([] : List Int).length + q.src.length ≤ lim by simp only [List.length_nil, lim]; omega)]; rfl
  · rw [decide_eq_false h]; rfl
/-- of queries that are right, or of those that are not -/
def sOfI (g : Bool) (o : Qry → Out) : FSpec
  | [.agg [.int .u8 ag, .slw 0, .slw 1, .bool j, .slw 2, .int .u8 wk, .int .i64 ws, .int .i64 we, .bool bk, .int .u8 lt]], [⟨false, .nodes A⟩, ⟨false, .ints .i64 S⟩, ⟨false, .nodes W⟩] => .node (bif g then okQ ⟨ag, A, S, j, W, wk, ws, we, bk, lt⟩ else !okQ ⟨ag, A, S, j, W, wk, ws, we, bk, lt⟩) (.leaf (bif g then o ⟨ag, A, S, j, W, wk, ws, we, bk, lt⟩ else ofZ (ckE ⟨ag, A, S, j, W, wk, ws, we, bk, lt⟩).2)) .bad
  | _, _ => .bad
theorem sOfI_is {g : Bool} {o : Qry → Out} {q : Qry} {r : Out} (h : (T.node (bif g then okQ q else !okQ q) (.leaf (bif g then o q else ofZ (ckE q).2)) (.bad : T Out)).sel = some r) : (bif okQ q then o q else ofZ (ckE q).2) = r := by
  rcases T.node_sel h with ⟨hc, h2⟩ | ⟨_, h2⟩
  · simp only [T.sel, Option.some.injEq] at h2
    cases g with
    | true =>
      have hc : okQ q = true := hc
      rw [hc]; exact h2
    | false =>
      have hc : (!okQ q) = true := hc
      rw [Bool.not_eq_true'] at hc
      rw [hc]; exact h2
  · simp [T.sel] at h2
theorem okOfP (hB : Laid B) (g : Bool) : FnOk (E0 B) 5 (sOfI g fun q => ofR q (stpQ q)) := by
  refine fnT (Pl.lib6_ok hB) Tryd.func5 (by kernel_rfl) (by kernel_rfl) fun vs bs r h => ?_
  unfold sOfI at h
  split at h
  · rename_i ag j wk ws we bk lt A S W
    refine (of_is ⟨ag, A, S, j, W, wk, ws, we, bk, lt⟩).trans ?_
    show some (bif okQ _ then ofR _ (stpQ _) else ofZ (ckE _).2) = some r
    exact congrArg some (sOfI_is (q := ⟨ag, A, S, j, W, wk, ws, we, bk, lt⟩) (o := fun q => ofR q (stpQ q)) h)
  · simp [T.sel] at h
theorem okOfRf (g : Bool) : FnOk (E0 B) 6 (sOfI g fun q => ofR' q (stpQ q)) := by
  refine fnT lib3_ok Tryd.func6 (by kernel_rfl) (by kernel_rfl) fun vs bs r h => ?_
  unfold sOfI at h
  split at h
  · rename_i ag j wk ws we bk lt A S W
    refine (ofR_is ⟨ag, A, S, j, W, wk, ws, we, bk, lt⟩).trans ?_
    exact congrArg some (sOfI_is (q := ⟨ag, A, S, j, W, wk, ws, we, bk, lt⟩) (o := fun q => ofR' q (stpQ q)) h)
  · simp [T.sel] at h
noncomputable def lib4 (g : Bool) : Tb := (5, [], sOfI g fun q => ofR q (stpQ q)) :: (6, [], sOfI g fun q => ofR' q (stpQ q)) :: (7, [], Pl.sTextP) :: (8, [], sTextR) :: (10, [], Pl.sChkP) :: (11, [], sChkR) :: (41, [], sExa) :: Ck.lb6
theorem lib4_ok (hB : Laid B) (g : Bool) : TbOk B (lib4 g) := ((((((Ck.lb6_ok.add okExa).add okChkR).add Pl.okChkP).add okTextR).add (Pl.okTextP hB)).add (okOfRf g)).add (okOfP hB g)
/-! the run -/
def plA (q : Qry) : AV := Pl.plAv q 3 4 5 6
def gr7 (q p : Qry) (st : List Int) (z : Option Out) : Option Out := bif decide ((70 : Int) < (q.arg.length : Int)) then rb true else bif decide ((70 : Int) < (q.whr.length : Int)) then rb true else bif decide ((10 : Int) < (q.src.length : Int)) then rb true else
  bif decide ((70 : Int) < (p.arg.length : Int)) then rb true else bif decide ((70 : Int) < (p.whr.length : Int)) then rb true else bif decide ((10 : Int) < (p.src.length : Int)) then rb true else bif decide ((30 : Int) < (st.length : Int)) then rb true else z
def lsT (p : Qry) (st : List Int) : Option Out := fbQ (decide (Pl.ptT st p = Pl.ptT st p)) (fbQ (decide (Pl.plE st p = Pl.plE st p)) (rS (true && decide (st.length ≤ 1000)) (rS (st.all inByte) (rb (decide (Pl.plE st p = Pl.plE st p))))))
def txC (p : Qry) (st : List Int) (z : Option Out) : Option Out := rS (true && (decide (st.length ≤ 1000) && (rngX p.arg && rngX p.whr))) (rS (st.all inByte && (rngX p.arg && rngX p.whr)) z)
def tlG (q p : Qry) (st : List Int) : Option Out := gr7 q p st (rS (okQ q) (rS (okQ q) (txC p st (fbQ (decide (byteList (stpQ q) = byteList (stpQ q))) (chn q (lsT p st))))))
def tlB (q p : Qry) (st : List Int) : Option Out := gr7 q p st (rS (!okQ q) (rS (!okQ q) (txC p st (fbQ (decide ((ckE q).2 = (ckE q).2)) (lsT p st)))))
theorem tTellG (q p : Qry) (st : List Int) : runT B (lib4 true) Tryd.f3 [q.av 0 1 2, plA p] (Ck.qbs q ++ Pl.plBs false st p) = tlG q p st := by kernel_rfl
theorem tTellB (q p : Qry) (st : List Int) : runT B (lib4 false) Tryd.f3 [q.av 0 1 2, plA p] (Ck.qbs q ++ Pl.plBs false st p) = tlB q p st := by kernel_rfl
end Go.Proofs.YtfniiapkghpihaaDoor.Rp
/-
  PlanTells: the law answers true.
-/
namespace Go.Proofs.YtfniiapkghpihaaDoor.Rp
open Go.Am Go Go.Proofs.YtfniiapkghpihaaDoor
set_option maxRecDepth 100000
variable {B : Nat → Option Obj}
theorem fnOk_cases {E : Env} {f : FuncId} {ι : Type} {s : FSpec} {si : ι → FSpec} (hat : ∃ fn c, FnAt E.P f fn c) (h : ∀ i, FnOk E f (si i)) (hs : ∀ vs bs r, (s vs bs).sel = some r → ∃ i, (si i vs bs).sel = some r) : FnOk E f s :=
  ⟨hat, fun vs bs out hsel => by
    obtain ⟨i, hi⟩ := hs vs bs out hsel
    exact (h i).2 vs bs out hi⟩
theorem lsT_is {p : Qry} {st : List Int} (h1 : st.length ≤ 1000) (h2 : st.all inByte = true) : lsT p st = rb true := by
  unfold lsT fbQ rS
  rw [decide_eq_true h1, h2]
  simp
theorem txC_is {p : Qry} {st : List Int} (h1 : st.length ≤ 1000) (h2 : st.all inByte = true) (hA : rngX p.arg = true) (hW : rngX p.whr = true) (z : Option Out) : txC p st z = z := by
  unfold txC rS
  rw [decide_eq_true h1, h2, hA, hW]; rfl
theorem gr7_is {q p : Qry} {st : List Int} {z : Option Out} (h : q.arg.length ≤ 70 → q.whr.length ≤ 70 → q.src.length ≤ 10 → st.length ≤ 30 → z = rb true) : gr7 q p st z = rb true := by
  unfold gr7
  cases h1 : decide ((70 : Int) < (q.arg.length : Int)) with
  | true => rfl
  | false =>
  cases h2 : decide ((70 : Int) < (q.whr.length : Int)) with
  | true => rfl
  | false =>
  cases h3 : decide ((10 : Int) < (q.src.length : Int)) with
  | true => rfl
  | false =>
  cases h4 : decide ((70 : Int) < (p.arg.length : Int)) with
  | true => rfl
  | false =>
  cases h5 : decide ((70 : Int) < (p.whr.length : Int)) with
  | true => rfl
  | false =>
  cases h6 : decide ((10 : Int) < (p.src.length : Int)) with
  | true => rfl
  | false =>
  cases h7 : decide ((30 : Int) < (st.length : Int)) with
  | true => rfl
  | false =>
  have e1 := of_decide_eq_false h1
  have e2 := of_decide_eq_false h2
  have e3 := of_decide_eq_false h3
  have e7 := of_decide_eq_false h7
  exact h (by omega) (by omega) (by omega) (by omega)
theorem tlG_true {q p : Qry} {st : List Int} (hq : okQ q = true) (h2 : st.all inByte = true) (hA : rngX p.arg = true) (hW : rngX p.whr = true) : tlG q p st = rb true := by
  unfold tlG
  refine gr7_is fun e1 e2 e3 e7 => ?_
  rw [hq, txC_is (by omega) h2 hA hW, chn_is (by omega) (by omega) (by omega), lsT_is (by omega) h2]
  unfold rS fbQ
  simp
theorem tlB_true {q p : Qry} {st : List Int} (hq : okQ q = false) (h2 : st.all inByte = true) (hA : rngX p.arg = true) (hW : rngX p.whr = true) : tlB q p st = rb true := by
  unfold tlB
  refine gr7_is fun e1 e2 e3 e7 => ?_
  rw [hq, txC_is (by omega) h2 hA hW, lsT_is (by omega) h2]
  unfold rS fbQ
  simp
def sTl (g : Bool) : FSpec
  | [.agg [.int .u8 ag, .slw 0, .slw 1, .bool j, .slw 2, .int .u8 wk, .int .i64 ws, .int .i64 we, .bool bk, .int .u8 lt], .agg [.slw 3, .int .u8 _, .slw 4, .slw 5, .bool _, .slw 6, .int .u8 _, .int .i64 _, .int .i64 _, .bool _, .int .u8 _]], [⟨false, .nodes A⟩, ⟨false, .ints .i64 S⟩, ⟨false, .nodes W⟩, ⟨false, .ints .u8 st⟩, ⟨false, .nodes A'⟩, ⟨false, .ints .i64 _⟩, ⟨false, .nodes W'⟩] =>
    .node ((okQ ⟨ag, A, S, j, W, wk, ws, we, bk, lt⟩ == g) && (st.all inByte && (rngX A' && rngX W'))) (.leaf ⟨[.bool true], []⟩) .bad
  | _, _ => .bad
def sTell (_ : Nat → Option Obj) : FSpec
  | [.agg [.int .u8 _, .slw 0, .slw 1, .bool _, .slw 2, .int .u8 _, .int .i64 _, .int .i64 _, .bool _, .int .u8 _], .agg [.slw 3, .int .u8 _, .slw 4, .slw 5, .bool _, .slw 6, .int .u8 _, .int .i64 _, .int .i64 _, .bool _, .int .u8 _]], [⟨false, .nodes _⟩, ⟨false, .ints .i64 _⟩, ⟨false, .nodes _⟩, ⟨false, .ints .u8 st⟩, ⟨false, .nodes A'⟩, ⟨false, .ints .i64 _⟩, ⟨false, .nodes W'⟩] =>
    .node (st.all inByte && (rngX A' && rngX W')) (.leaf ⟨[.bool true], []⟩) .bad
  | _, _ => .bad
theorem sTell_cases {vs : List AV} {bs : List Blk} {r : Out} (h : (sTell B vs bs).sel = some r) : ∃ g : Bool, (sTl g vs bs).sel = some r := by
  unfold sTell at h
  split at h
  · rename_i ag j wk ws we bk lt ag' j' wk' ws' we' bk' lt' A S W st A' S' W'
    refine ⟨okQ ⟨ag, A, S, j, W, wk, ws, we, bk, lt⟩, ?_⟩
    rw [← h]
    show (T.node ((okQ ⟨ag, A, S, j, W, wk, ws, we, bk, lt⟩ == okQ ⟨ag, A, S, j, W, wk, ws, we, bk, lt⟩) && _) _ _).sel = _
    rw [beq_self_eq_true]; rfl
  · simp [T.sel] at h
theorem okTell (hB : Laid B) : FnOk (E0 B) 3 (sTell B) := by
  refine fnOk_cases (fnAt_mk (fn := Tryd.f3) Tryd.func3 (by kernel_rfl) (by kernel_rfl)) (si := sTl) (fun g => ?_) fun vs bs r h => sTell_cases h
  refine fnT (lib4_ok hB g) Tryd.func3 (by kernel_rfl) (by kernel_rfl) fun vs bs r h => ?_
  unfold sTl at h
  split at h
  · rename_i ag j wk ws we bk lt ag' j' wk' ws' we' bk' lt' A S W st A' S' W'
    rcases T.node_sel h with ⟨hc, h2⟩ | ⟨_, h2⟩
    · simp only [T.sel, Option.some.injEq] at h2; subst h2
      simp only [Bool.and_eq_true] at hc
      obtain ⟨hg, hb, hA, hW⟩ := hc
      cases g with
      | true => exact (tTellG ⟨ag, A, S, j, W, wk, ws, we, bk, lt⟩ ⟨ag', A', S', j', W', wk', ws', we', bk', lt'⟩ st).trans (tlG_true (beq_iff_eq.1 hg) hb hA hW)
      | false => exact (tTellB ⟨ag, A, S, j, W, wk, ws, we, bk, lt⟩ ⟨ag', A', S', j', W', wk', ws', we', bk', lt'⟩ st).trans (tlB_true (beq_iff_eq.1 hg) hb hA hW)
    · simp [T.sel] at h2
  · simp [T.sel] at h
theorem sTell_sel {q p : Qry} {st : List Int} (hb : bytWf st) (hp : qryWf p) : (sTell B [q.av 0 1 2, planAv p 3 4 5 6] [⟨false, .nodes q.arg⟩, ⟨false, .ints .i64 q.src⟩, ⟨false, .nodes q.whr⟩, ⟨false, .ints .u8 st⟩, ⟨false, .nodes p.arg⟩, ⟨false, .ints .i64 p.src⟩, ⟨false, .nodes p.whr⟩]).sel = some ⟨[.bool true], []⟩ := by
  show (bif st.all inByte && (rngX p.arg && rngX p.whr) then _ else _) = _
  rw [rng_of hp.1, rng_of hp.2.1, show st.all inByte = true from List.all_eq_true.2 fun x hx => by simpa [inByte, Lit.wf, IntKind.min, IntKind.max, IntKind.signed, IntKind.bits] using hb x hx]; rfl
end Go.Proofs.YtfniiapkghpihaaDoor.Rp
