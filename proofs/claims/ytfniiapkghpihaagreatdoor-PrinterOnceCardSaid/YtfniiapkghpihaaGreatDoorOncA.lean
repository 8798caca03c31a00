/-
  Texts put together: PrtOnce, PrtOnce2.
-/
import Derived.Test.YtfniiapkghpihaaGreatDoorPlnC
/-
  PrinterOnce: what the law answers.
-/
namespace Go.Proofs.YtfniiapkghpihaaGreatDoor.On
open Go.Am Go Go.Proofs.YtfniiapkghpihaaGreatDoor
set_option maxRecDepth 100000
variable {B : Nat → Option Obj}
theorem tAl11 : runT B libE Tryz.f36 [] [] = rb true := by kernel_rfl
theorem okAl11 (hB : Laid B) : FnOk (E0 B) 36 sTrueF := okTrue hB Tryz.func36 (by kernel_rfl) (by kernel_rfl) tAl11
/-! ref08.Alike -/
def rbS (b : Bool) (z : Option Out) : Option Out := bif b then z else none
def alO (p q : Qry) : Option Out := fbQ (decide (p.agg = q.agg)) (rbS (decide (p.arg.length ≤ 1000)) (fbQ (all2 Ck.eqNoP p.arg q.arg) (rbS (decide (p.src.length ≤ 1000)) (fbQ (all2 Ck.eqInt p.src q.src) (fbQ (p.join == q.join) (rbS (decide (p.whr.length ≤ 1000)) (fbQ (all2 Ck.eqNoP p.whr q.whr) (fbQ (Sm.winE p q) (fbQ (p.byKey == q.byKey) (rb (decide (p.late = q.late))))))))))))
theorem tAlk (p q : Qry) : runT B Ck.lib15 Tryz.f38 [p.av 0 1 2, q.av 3 4 5] (Ck.qbs p ++ Ck.qbs q) = alO p q := by kernel_rfl
theorem noP_is : Ck.eqNoP = eqN := by
  funext x y
  unfold Ck.eqNoP eqN
  by_cases h1 : x.kind = y.kind <;> by_cases h2 : x.n = y.n <;> by_cases h3 : x.a = y.a <;> by_cases h4 : x.b = y.b <;> simp [h1, h2, h3, h4]
def shQ (p : Qry) : Bool := decide (p.arg.length ≤ 1000 ∧ p.src.length ≤ 1000 ∧ p.whr.length ≤ 1000)
theorem al_is {p q : Qry} (h : shQ p = true) : alO p q = rb (alkB p q) := by
  obtain ⟨h1, h2, h3⟩ := of_decide_eq_true h
  unfold alO fbQ rbS Sm.winE alkB
  rw [decide_eq_true h1, decide_eq_true h2, decide_eq_true h3, noP_is, Pl.all2_eq]
  cases decide (p.agg = q.agg) <;> cases p.join == q.join <;> cases decide (p.wk = q.wk) <;> cases decide (p.ws = q.ws) <;> cases decide (p.we = q.we) <;> cases p.byKey == q.byKey <;> cases decide (p.late = q.late) <;> cases decide (p.src = q.src) <;> cases all2 eqN p.arg q.arg <;> cases all2 eqN p.whr q.whr <;> rfl
def sAlk : FSpec
  | [.agg [.int .u8 ag, .slw 0, .slw 1, .bool j, .slw 2, .int .u8 wk, .int .i64 ws, .int .i64 we, .bool bk, .int .u8 lt], .agg [.int .u8 ag', .slw 3, .slw 4, .bool j', .slw 5, .int .u8 wk', .int .i64 ws', .int .i64 we', .bool bk', .int .u8 lt']], [⟨false, .nodes A⟩, ⟨false, .ints .i64 S⟩, ⟨false, .nodes W⟩, ⟨false, .nodes A'⟩, ⟨false, .ints .i64 S'⟩, ⟨false, .nodes W'⟩] =>
    .node (shQ ⟨ag, A, S, j, W, wk, ws, we, bk, lt⟩) (.leaf ⟨[.bool (alkB ⟨ag, A, S, j, W, wk, ws, we, bk, lt⟩ ⟨ag', A', S', j', W', wk', ws', we', bk', lt'⟩)], []⟩) .bad
  | _, _ => .bad
theorem okAlk : FnOk (E0 B) 38 sAlk := by
  refine fnT Ck.lib15_ok Tryz.func38 (by kernel_rfl) (by kernel_rfl) fun vs bs r h => ?_
  unfold sAlk at h
  split at h
  · rename_i ag j wk ws we bk lt ag' j' wk' ws' we' bk' lt' A S W A' S' W'
    rcases T.node_sel h with ⟨hc, h2⟩ | ⟨_, h2⟩
    · simp only [T.sel, Option.some.injEq] at h2; subst h2
      exact (tAlk ⟨ag, A, S, j, W, wk, ws, we, bk, lt⟩ ⟨ag', A', S', j', W', wk', ws', we', bk', lt'⟩).trans (al_is hc)
    · simp [T.sel] at h2
  · simp [T.sel] at h
noncomputable def lib1 : Tb := (36, [], sTrueF) :: (37, [], sTq) :: (38, [], sAlk) :: Ck.lib15
theorem lib1_ok (hB : Laid B) : TbOk B lib1 := ((Ck.lib15_ok.add okAlk).add (okTq hB)).add (okAl11 hB)
/-! all nodes at one place -/
noncomputable def bMv : Code := loopAt 7 (loopsOf (bodyC Tryz.f12))
def sgMv : LSig := { cs := [(2, 0), (11, 0)], mv := [(12, 0)], mo := [(6, 0)], take := [3] }
def mvB (q : Qry) (W : List Nod) : List Blk := [⟨true, .gen qTy [[.int .u8 q.agg, .slw 1, .slw 2, .bool q.join, .slw 3, .int .u8 q.wk, .int .i64 q.ws, .int .i64 q.we, .bool q.byKey, .int .u8 q.late]]⟩, ⟨false, .nodes q.arg⟩, ⟨false, .ints .i64 q.src⟩, ⟨true, .nodes W⟩]
def putN (a : Int) (x : Nod) : Nod := { x with pos := a }
def atW (W : List Nod) (i : Int) : Nod := W.getD i.toNat default
theorem turnMv (q : Qry) (W : List Nod) (a i : Int) : (turn (E0 B) (Cx B lib1) noL 95 sgMv bMv [i64 a, .ptr 0 0 0, i64 i] (mvB q W)).sel =
    bif decide (i < (W.length : Int)) then Ck.inb i W.length (some (.normal, ⟨[i64 a, .ptr 0 0 0, i64 (w64 (i + 1))], mvB q (W.set i.toNat ⟨(atW W i).kind, (atW W i).n, (atW W i).a, (atW W i).b, a⟩)⟩)) else some (.exit 0, ⟨[.any], mvB q W⟩) := by kernel_rfl
theorem runMv (q : Qry) (a : Int) : ∀ (r pre : List Nod), pre.length + r.length ≤ 1000 → ∃ m, (turns (E0 B) (Cx B lib1) noL 95 sgMv bMv m [i64 a, .ptr 0 0 0, i64 pre.length] (mvB q (pre ++ r))).sel = some (.exit 0, ⟨[.any], mvB q (pre ++ r.map (putN a))⟩)
  | [], pre, h => by
    refine ⟨1, turns_done ((turnMv q _ a _).trans ?_) (by simp)⟩
    rw [List.map_nil, List.append_nil, decide_eq_false (by omega)]; rfl
  | x :: r, pre, h => by
    simp only [List.length_cons] at h
    have hlen : (pre ++ x :: r).length = pre.length + (r.length + 1) := by simp
    have ht := turnMv (B := B) q (pre ++ x :: r) a pre.length
    have hx : atW (pre ++ x :: r) pre.length = x := by unfold atW; simp [List.getD]
    rw [decide_eq_true (show (pre.length : Int) < ((pre ++ x :: r).length : Int) by rw [hlen]; omega), cond_true, Ck.inb_is (by rw [hlen]; omega), hx, w64_rng (show Rng ((pre.length : Int) + 1) by unfold Rng; omega)] at ht
    have hset : (pre ++ x :: r).set ((pre.length : Int)).toNat ⟨x.kind, x.n, x.a, x.b, a⟩ = (pre ++ [putN a x]) ++ r := by
      rw [Int.toNat_natCast, List.set_append_right _ _ (Nat.le_refl _)]
      simp [putN]
    rw [hset] at ht
    obtain ⟨m, hm⟩ := runMv q a r (pre ++ [putN a x]) (by simp only [List.length_append, List.length_cons, List.length_nil]; omega)
    have hl : ((pre ++ [putN a x]).length : Int) = (pre.length : Int) + 1 := by simp
    rw [hl] at hm
    refine ⟨m + 1, (turns_more ht hm).trans ?_⟩
    simp
def spMv : LSpec
  | [.int .i64 a, .ptr 0 0 0, .int .i64 i], [⟨true, .gen ty [[.int .u8 ag, .slw 1, .slw 2, .bool j, .slw 3, .int .u8 wk, .int .i64 ws, .int .i64 we, .bool bk, .int .u8 lt]]⟩, ⟨false, .nodes A⟩, ⟨false, .ints .i64 S⟩, ⟨true, .nodes W⟩] =>
    .node (decide (ty = qTy) && decide (i = 0 ∧ W.length ≤ 1000)) (.leaf (.exit 0, ⟨[.any], [⟨true, .gen qTy [[.int .u8 ag, .slw 1, .slw 2, .bool j, .slw 3, .int .u8 wk, .int .i64 ws, .int .i64 we, .bool bk, .int .u8 lt]]⟩, ⟨false, .nodes A⟩, ⟨false, .ints .i64 S⟩, ⟨true, .nodes (W.map (putN a))⟩]⟩)) .bad
  | _, _ => .bad
theorem loopMv (hB : Laid B) : LoopOk (E0 B) 95 sgMv bMv spMv := by
  refine loop_turns (C := Cx B lib1) (L := noL) (cxOk (lib1_ok hB)) (noL_ok _) fun vs bs e o h => ?_
  unfold spMv at h
  split at h
  · rename_i a i ty ag j wk ws we bk lt A S W
    rcases T.node_sel h with ⟨hc, h2⟩ | ⟨_, h2⟩
    · rw [Bool.and_eq_true] at hc
      have hty := of_decide_eq_true hc.1
      subst hty
      obtain ⟨rfl, hW⟩ := of_decide_eq_true hc.2
      simp only [T.sel, Option.some.injEq] at h2
      rw [← h2]
      exact runMv (B := B) ⟨ag, A, S, j, W, wk, ws, we, bk, lt⟩ a W [] (by simpa using hW)
    · simp [T.sel] at h2
  · simp [T.sel] at h
noncomputable def eMv : LEnt := { id := 7, n := 95, sg := sgMv, wr := writes bMv, s := spMv }
/-! the run -/
def gr8 (p q : Qry) (a : Int) (z : Option Out) : Option Out := bif decide ((70 : Int) < (p.arg.length : Int)) then rb true else bif decide ((70 : Int) < (p.whr.length : Int)) then rb true else bif decide ((10 : Int) < (p.src.length : Int)) then rb true else
  bif decide ((70 : Int) < (q.arg.length : Int)) then rb true else bif decide ((70 : Int) < (q.whr.length : Int)) then rb true else bif decide ((10 : Int) < (q.src.length : Int)) then rb true else bif !decide (clkE p = 0) then rb true else bif !decide (clkE q = 0) then rb true else bif decide (a < 0) then rb true else bif decide (400 < a) then rb true else z
def mvd (p : Qry) (a : Int) : Qry := { p with whr := p.whr.map (putN a) }
def lasO (p q o : Qry) : Option Out := bif !decide (pTe o = pTe p) then rb false else bif !decide (pTx o = pTx p) then rb false else bif !decide (pTe p = 0) then rb true else bif !decide (pTe q = 0) then rb true else rbS (shQ p) (bif decide (pTx p = pTx q) == alkB p q then rb true else rb false)
def ocO (p q : Qry) (a : Int) : Option Out := gr8 p q a (rbS (rngX p.arg && rngX p.whr) (rbS (rngX q.arg && rngX q.whr) (Pl.tw3 p (rbS (decide (qTy = qTy) && decide ((0 : Int) = 0 ∧ p.whr.length ≤ 1000)) (rbS (rngX p.arg && rngX (p.whr.map (putN a))) (lasO p q (mvd p a)))))))
theorem tOnce (p q : Qry) (a : Int) : runL B lib1 [eMv] Tryz.f12 [p.av 0 1 2, q.av 3 4 5, i64 a] (Ck.qbs p ++ Ck.qbs q) = ocO p q a := by kernel_rfl
end Go.Proofs.YtfniiapkghpihaaGreatDoor.On
/-
  PrinterOnce: that the law answers true.
-/
namespace Go.Proofs.YtfniiapkghpihaaGreatDoor.On
open Go.Am Go Go.Proofs.YtfniiapkghpihaaGreatDoor
set_option maxRecDepth 100000
variable {B : Nat → Option Obj}
theorem ag_is : ∀ k : Fin 5, 1 ≤ k.val → agT k.val = wAg k.val := by decide +kernel
theorem wi_is : ∀ k : Fin 4, 1 ≤ k.val → wiT k.val = wWk k.val ++ [32] := by decide +kernel
theorem bt_is (j : Bool) : btT j = [32] ++ (wBt j ++ [32]) := by cases j <;> rfl
theorem nm_of {x : Int} (h : inR x = true) : nmS x = wNm x := by
  have hx := inR_of h
  have := Sm.nm_is ⟨x.toNat, by omega⟩
  simpa only [show ((x.toNat : Nat) : Int) = x by omega] using this
theorem pcs_w (t : List UInt8) (l : List Pc) : pcsS (pW t :: l) = [32] ++ (t ++ pcsS l) := rfl
theorem pcs_n (n : Int) (l : List Pc) : pcsS (pN n :: l) = [32] ++ (Lib.itoa n ++ pcsS l) := rfl
theorem srcT_is (j : Bool) : ∀ (r : List Int) (s : List UInt8), r.all inR = true → srcT (btT j) s r = s ++ pcsS (srcP j r)
  | [], s, _ => (List.append_nil s).symm
  | x :: r, s, h => by
    rw [List.all_cons, Bool.and_eq_true] at h
    show srcT (btT j) _ r = _
    rw [srcT_is j r _ h.2, srcP, pcs_w, pcs_w, nm_of h.1, bt_is]
    simp only [List.append_assoc]
/-- a query's text is its pieces' -/
theorem td_is {q : Qry} {ea ew : Ex} (h : QX q ea ew) (ha : q.agg ≠ 1 → prS q.arg = ea.txt false) (hw : 0 < q.whr.length → prS q.whr = ew.txt false) : tdT q = pcsS (qPcs q ea ew) := by
  have a1 := h.ag
  have a2 := h.wk
  have e1 : agT q.agg = wAg q.agg := by
    have := ag_is ⟨q.agg.toNat, by omega⟩ (by simp only; omega)
    simpa only [show ((q.agg.toNat : Nat) : Int) = q.agg by omega] using this
  have e2 : wiT q.wk = wWk q.wk ++ [32] := by
    have := wi_is ⟨q.wk.toNat, by omega⟩ (by simp only; omega)
    simpa only [show ((q.wk.toNat : Nat) : Int) = q.wk by omega] using this
  have e3 : argT q = pcsS (agP q ea) := by
    unfold argT agP
    by_cases h1 : q.agg = 1
    · rw [decide_eq_true h1]; rfl
    · rw [decide_eq_false h1, cond_false, cond_false, ha h1]; rfl
  have e4 : whT q = pcsS (whP q ew) := by
    unfold whT whP
    by_cases h1 : 0 < q.whr.length
    · rw [decide_eq_true h1, cond_true, cond_true, pcs_w, pcs_gapS, hw h1]; rfl
    · rw [decide_eq_false h1]; rfl
  have e5 : wnT q ++ evT q ++ bkT q ++ ltT q = pcsS (winP q) := by
    have f1 : evT q = pcsS (evP q) := by
      unfold evT evP
      cases decide (q.wk = 2) with
      | true => rw [cond_true, cond_true, pcs_w, pcs_n]; simp [pcsS, wEvery]
      | false => rfl
    have f2 : bkT q = pcsS (bkP q) := by unfold bkT bkP; cases q.byKey <;> rfl
    have f3 : ltT q = pcsS (tlP q) := by unfold ltT tlP; cases decide (q.late = 2) <;> rfl
    unfold winP wnT
    rw [pcs_w, pcs_w, pcs_n, pcsS_app, pcsS_app, f1, f2, f3, e2]
    simp [wWin]
  have hs := h.s0
  have hR := h.sR
  unfold tdT
  have e6 : srcF (btT q.join) (hdT q) q.src = wSel ++ ([32] ++ (wAg q.agg ++ (40 :: pcsS (agP q ea)))) ++ (match q.src with | [] => [] | x :: r => [41] ++ ([32] ++ (wFrom ++ ([32] ++ (wNm x ++ pcsS (srcP q.join r)))))) := by
    cases hq : q.src with
    | nil => rw [hq] at hs; simp at hs
    | cons x r =>
      rw [hq, List.all_cons, Bool.and_eq_true] at hR
      show srcT (btT q.join) (hdT q ++ nmS x) r = _
      rw [srcT_is q.join r _ hR.2, nm_of hR.1]
      unfold hdT
      rw [e1, e3]
      simp [wSel, wFrom]
  have e7 : srcF (btT q.join) (hdT q) q.src ++ whT q ++ wnT q ++ evT q ++ bkT q ++ ltT q = srcF (btT q.join) (hdT q) q.src ++ (whT q ++ (wnT q ++ evT q ++ bkT q ++ ltT q)) := by simp only [List.append_assoc]
  rw [e7, e6, e4, e5, qtxt_is, pcsS_app]
  have e8 : pcsS (Go.Am.frP q ew) = (match q.src with | [] => [] | x :: r => [41] ++ ([32] ++ (wFrom ++ ([32] ++ (wNm x ++ pcsS (srcP q.join r)))))) ++ (pcsS (whP q ew) ++ pcsS (winP q)) := by
    unfold Go.Am.frP
    cases hq : q.src with
    | nil => rw [hq] at hs; simp at hs
    | cons x r =>
      show [] ++ ([41] ++ pcsS (pW wFrom :: pW (wNm x) :: (srcP q.join r ++ (whP q ew ++ winP q)))) = _
      rw [pcs_w, pcs_w, pcsS_app, pcsS_app]
      simp only [List.append_assoc, List.nil_append]
  rw [e8]
  simp only [List.append_assoc, List.cons_append, List.nil_append]
theorem few_of {q : Qry} {ea ew : Ex} (h : QX q ea ew) (hl : lexE (pcsS (qPcs q ea ew)) = 0) : (qPcs q ea ew).length ≤ 200 := by
  by_cases hn : (qPcs q ea ew).length ≤ 200
  · exact hn
  · have h4 := qlx_over h (by omega)
    unfold lexE lexA at hl
    cases hc : decide ((400 : Int) < ((pcsS (qPcs q ea ew)).length : Int)) with
    | true => rw [hc] at hl; cases hl
    | false =>
      rw [hc, cond_false] at hl
      have hl2 : (lx (pcsS (qPcs q ea ew)) 0 0).e = 0 := hl
      rw [h4] at hl2
      cases hl2
theorem once_is {p q : Qry} (hp : clkE p = 0) (hq : clkE q = 0) (pA : rngX p.arg = true) (pW : rngX p.whr = true) (qA : rngX q.arg = true) (qW : rngX q.whr = true) (tp : pTe p = 0) (tq : pTe q = 0) : decide (pTx p = pTx q) = alkB p q := by
  obtain ⟨ea, ew, h1, h2, h3⟩ := Sm.qx_of hp pA pW
  obtain ⟨fa, fw, g1, g2, g3⟩ := Sm.qx_of hq qA qW
  have ht1 := td_is h1 h2 h3
  have ht2 := td_is g1 g2 g3
  have key : ∀ {x : Qry}, clkE x = 0 → pTe x = 0 → lexE (tdT x) = 0 ∧ pTx x = tdT x := fun {x} hc ht => by
    unfold pTe at ht
    rw [decide_eq_true hc] at ht
    simp only [Bool.not_true, cond_false] at ht
    by_cases hl : lexE (tdT x) = 0
    · refine ⟨hl, ?_⟩
      unfold pTx
      rw [decide_eq_true hc, decide_eq_true hl]; rfl
    · rw [decide_eq_false hl] at ht; cases ht
  obtain ⟨k1, k2⟩ := key hp tp
  obtain ⟨k3, k4⟩ := key hq tq
  rw [k2, k4, ht1, ht2]
  rw [ht1] at k1
  rw [ht2] at k3
  have hi := qtxt_inj h1 g1 (few_of h1 k1) (few_of g1 k3)
  cases h : alkB p q with
  | true => exact decide_eq_true (hi.2 h)
  | false => exact decide_eq_false (fun g => by rw [hi.1 g] at h; cases h)
theorem mv_is {p : Qry} (hp : clkE p = 0) (pW : rngX p.whr = true) {a : Int} (h0 : 0 ≤ a) (h1 : a ≤ 400) : clkE (mvd p a) = 0 ∧ prS (mvd p a).whr = prS p.whr ∧ rngX (p.whr.map (putN a)) = true := by
  obtain ⟨c1, c2, c3, c4, c5, c6⟩ := clk_inv hp
  have hr : rngX (p.whr.map (putN a)) = true := by
    unfold rngX
    rw [List.all_map]
    exact pW
  by_cases hw : 0 < p.whr.length
  · obtain ⟨e, he, hx, hs, hd⟩ := chkN_tree (c4 hw)
    have htr : TrOk e := ⟨he, by rw [← rng_flat e 0, ← hx]; exact pW, hs, hd⟩
    have hp' := Ex.put_tr h0 h1 htr
    have hm : p.whr.map (putN a) = (e.put a).flat 0 := by
      rw [hx]
      exact (Ex.put_flat a e 0).symm
    have hck : chkN (p.whr.map (putN a)) = 0 := by rw [hm]; exact chk_of hp'.ok hp'.sz hp'.dp
    refine ⟨clk_mk c1 c2 c3 (fun _ => hck) c5 c6, ?_, hr⟩
    show prS (p.whr.map (putN a)) = prS p.whr
    have hc2 : chkN ((e.put a).flat 0) = 0 := by rw [← hm]; exact hck
    have hc3 : chkN (e.flat 0) = 0 := by rw [← hx]; exact c4 hw
    rw [hm, hx, prS_is hp'.ok hc2, prS_is he hc3]
    unfold Ex.txt
    rw [← (e.put a).pcs_st, Ex.put_st, e.pcs_st]
  · have e0 : p.whr = [] := List.length_eq_zero_iff.1 (by omega)
    have e1 : mvd p a = p := by unfold mvd; rw [e0]; cases p; simp only at e0; subst e0; rfl
    rw [e1]
    exact ⟨hp, rfl, hr⟩
theorem mv_td {p : Qry} {a : Int} (h : prS (mvd p a).whr = prS p.whr) : tdT (mvd p a) = tdT p := by
  have hl : (mvd p a).whr.length = p.whr.length := List.length_map _
  have hw : whT (mvd p a) = whT p := by
    unfold whT
    rw [h, hl]
  unfold tdT
  rw [hw]
  rfl
theorem oc_true {p q : Qry} (a : Int) (pA : rngX p.arg = true) (pW : rngX p.whr = true) (qA : rngX q.arg = true) (qW : rngX q.whr = true) : ocO p q a = rb true := by
  unfold ocO gr8
  by_cases h1 : (70 : Int) < (p.arg.length : Int)
  · rw [decide_eq_true h1]; rfl
  by_cases h2 : (70 : Int) < (p.whr.length : Int)
  · rw [decide_eq_false h1, decide_eq_true h2]; rfl
  by_cases h3 : (10 : Int) < (p.src.length : Int)
  · rw [decide_eq_false h1, decide_eq_false h2, decide_eq_true h3]; rfl
  by_cases h4 : (70 : Int) < (q.arg.length : Int)
  · rw [decide_eq_false h1, decide_eq_false h2, decide_eq_false h3, decide_eq_true h4]; rfl
  by_cases h5 : (70 : Int) < (q.whr.length : Int)
  · rw [decide_eq_false h1, decide_eq_false h2, decide_eq_false h3, decide_eq_false h4, decide_eq_true h5]; rfl
  by_cases h6 : (10 : Int) < (q.src.length : Int)
  · rw [decide_eq_false h1, decide_eq_false h2, decide_eq_false h3, decide_eq_false h4, decide_eq_false h5, decide_eq_true h6]; rfl
  rw [decide_eq_false h1, decide_eq_false h2, decide_eq_false h3, decide_eq_false h4, decide_eq_false h5, decide_eq_false h6]
  by_cases hp : clkE p = 0
  · by_cases hq : clkE q = 0
    · rw [decide_eq_true hp, decide_eq_true hq]
      by_cases h7 : a < 0
      · rw [decide_eq_true h7]; rfl
      by_cases h8 : 400 < a
      · rw [decide_eq_false h7, decide_eq_true h8]; rfl
      obtain ⟨m1, m2, m3⟩ := mv_is hp pW (show 0 ≤ a by omega) (show a ≤ 400 by omega)
      have ht := mv_td m2
      have e1 : pTe (mvd p a) = pTe p := by unfold pTe; rw [m1, hp, ht]
      have e2 : pTx (mvd p a) = pTx p := by unfold pTx; rw [m1, hp, ht]
      rw [decide_eq_false h7, decide_eq_false h8, pA, pW, qA, qW, m3]
      unfold Pl.tw3 rbS
      rw [decide_eq_true (show ([] : List Nod).length + p.arg.length ≤ lim by simp only [List.length_nil, lim]; omega), decide_eq_true (show ([] : List Nod).length + p.whr.length ≤ lim by simp only [List.length_nil, lim]; omega), decide_eq_true (show ([] : List Int).length + p.src.length ≤ lim by simp only [List.length_nil, lim]; omega),
        decide_eq_true (rfl : qTy = qTy), decide_eq_true (show (0 : Int) = 0 ∧ p.whr.length ≤ 1000 from ⟨rfl, by omega⟩)]
      show lasO p q (mvd p a) = rb true
      unfold lasO rbS
      rw [e1, e2, decide_eq_true (rfl : pTe p = pTe p), decide_eq_true (rfl : pTx p = pTx p)]
      by_cases tp : pTe p = 0
      · by_cases tq : pTe q = 0
        · rw [once_is hp hq pA pW qA qW tp tq, tp, tq, show shQ p = true from decide_eq_true ⟨by omega, by omega, by omega⟩, beq_self_eq_true]; rfl
        · rw [decide_eq_true tp, decide_eq_false tq]; rfl
      · rw [decide_eq_false tp]; rfl
    · rw [decide_eq_true hp, decide_eq_false hq]; rfl
  · rw [decide_eq_false hp]; rfl
def sOnce (_ : Nat → Option Obj) : FSpec
  | [.agg [.int .u8 _, .slw 0, .slw 1, .bool _, .slw 2, .int .u8 _, .int .i64 _, .int .i64 _, .bool _, .int .u8 _], .agg [.int .u8 _, .slw 3, .slw 4, .bool _, .slw 5, .int .u8 _, .int .i64 _, .int .i64 _, .bool _, .int .u8 _], .int .i64 _], [⟨false, .nodes A⟩, ⟨false, .ints .i64 _⟩, ⟨false, .nodes W⟩, ⟨false, .nodes A'⟩, ⟨false, .ints .i64 _⟩, ⟨false, .nodes W'⟩] =>
    .node ((rngX A && rngX W) && (rngX A' && rngX W')) (.leaf ⟨[.bool true], []⟩) .bad
  | _, _ => .bad
theorem sOnce_sel {p q : Qry} {a : Int} (hp : qryWf p) (hq : qryWf q) : (sOnce B [p.av 0 1 2, q.av 3 4 5, .int .i64 a] [⟨false, .nodes p.arg⟩, ⟨false, .ints .i64 p.src⟩, ⟨false, .nodes p.whr⟩, ⟨false, .nodes q.arg⟩, ⟨false, .ints .i64 q.src⟩, ⟨false, .nodes q.whr⟩]).sel = some ⟨[.bool true], []⟩ := by
  show (bif (rngX p.arg && rngX p.whr) && (rngX q.arg && rngX q.whr) then _ else _) = _
  rw [rng_of hp.1, rng_of hp.2.1, rng_of hq.1, rng_of hq.2.1]; rfl
theorem okOnce (hB : Laid B) : FnOk (E0 B) 12 (sOnce B) := by
  refine fnL (lib1_ok hB) (ls := [eMv]) Tryz.func12 (by kernel_rfl) (by kernel_rfl) (fun x hx => ?_) fun vs bs r h => ?_
  · simp only [List.mem_singleton] at hx; subst hx
    exact ⟨bMv, by kernel_rfl, rfl, loopMv hB⟩
  unfold sOnce at h
  split at h
  · rename_i ag j wk ws we bk lt ag' j' wk' ws' we' bk' lt' a A S W A' S' W'
    rcases T.node_sel h with ⟨hc, h2⟩ | ⟨_, h2⟩
    · simp only [T.sel, Option.some.injEq] at h2; subst h2
      simp only [Bool.and_eq_true] at hc
      exact (tOnce ⟨ag, A, S, j, W, wk, ws, we, bk, lt⟩ ⟨ag', A', S', j', W', wk', ws', we', bk', lt'⟩ a).trans (oc_true a hc.1.1 hc.1.2 hc.2.1 hc.2.2)
    · simp [T.sel] at h2
  · simp [T.sel] at h
end Go.Proofs.YtfniiapkghpihaaGreatDoor.On
