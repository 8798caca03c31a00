/-
  Texts put together: WrtFn, WrtFn2.
-/
import Derived.Test.YtgpoaohglpecgaaGreatDoorPrsD
import Derived.Test.YtgpoaohglpecgaaGreatDoorRefA
import Derived.Test.YtgpoaohglpecgaaGreatDoorCmpA
namespace Go.Proofs.YtgpoaohglpecgaaGreatDoor.Wr
open Go.Am Go Go.Proofs.YtgpoaohglpecgaaGreatDoor
set_option maxRecDepth 100000
variable {B : Nat → Option Obj}
def sDg (k : Nat) : FSpec
  | [.int .i64 n], [] => .node (decide (0 ≤ n ∧ Rng n ∧ n.natAbs < 10 ^ k)) (.leaf ⟨[.str (Lib.itoa n)], []⟩) .bad
  | _, _ => .bad
def sDg0 : FSpec
  | [.int .i64 n], [] => .node (decide (0 ≤ n ∧ Rng n)) (.leaf ⟨[.str (Lib.itoa n)], []⟩) .bad
  | _, _ => .bad
def rs (s : List UInt8) : Option Out := some ⟨[.str s], []⟩
def dL (n : Int) : List UInt8 := byteList [IntKind.u8.wrap (w64 (48 + n.tmod 10))]
theorem tDg (k : Nat) (n : Int) : (fnRun (E0 B) (specC (E0 B) (tab [(70, [], sDg k)])) noL Tryz.f70 (bodyC Tryz.f70) [.int .i64 n] []).sel =
    bif decide (n < 10) then rs (dL n) else bif decide (0 ≤ w64 (n.tdiv 10) ∧ Rng (w64 (n.tdiv 10)) ∧ (w64 (n.tdiv 10)).natAbs < 10 ^ k) then (bif decide ((Lib.itoa (w64 (n.tdiv 10))).length + 1 ≤ lim) then rs (Lib.itoa (w64 (n.tdiv 10)) ++ dL n) else none) else none := by kernel_rfl
theorem dg_step (k : Nat) (hk : FnOk (E0 B) 70 (sDg k)) : FnOk (E0 B) 70 (sDg (k + 1)) := by
  refine fn_ok (C := specC (E0 B) (tab [(70, [], sDg k)])) (L := noL) (c := bodyC Tryz.f70) Tryz.func70 (by kernel_rfl) (by kernel_rfl)
    (specC_ok (tab_ok fun x hx => by simp only [List.mem_singleton] at hx; subst hx; exact hk)) (noL_ok _) fun vs bs r h => ?_
  unfold sDg at h
  split at h
  · rename_i n
    rcases T.node_sel h with ⟨hc, h2⟩ | ⟨_, h2⟩
    · simp only [T.sel, Option.some.injEq] at h2; subst h2
      obtain ⟨hp, hr, hn⟩ := of_decide_eq_true hc
      refine (tDg k n).trans ?_
      obtain ⟨s1, s2, s3, s4, s5⟩ := R1.itoa_step hr
      rw [s3]
      have hm : ¬ n.tmod 10 < 0 := by rw [Int.tmod_eq_emod_of_nonneg hp]; omega
      have hd : dL n = [UInt8.ofNat (48 + n.natAbs % 10)] := s2 hm
      rw [hd]
      by_cases hb : n < 10
      · rw [decide_eq_true hb, cond_true, R1.itoa_small (n := n) (by omega), if_neg (by omega)]; rfl
      · have hz : ¬ n.tdiv 10 = 0 := by rw [Int.tdiv_eq_ediv_of_nonneg hp]; omega
        have h0 : 0 ≤ n.tdiv 10 := by rw [Int.tdiv_eq_ediv_of_nonneg hp]; omega
        have hrq : Rng (n.tdiv 10) := by rw [← s3]; exact rng_w64 _
        have hlt : (n.tdiv 10).natAbs < 10 ^ k := by rw [s4]; rw [Nat.pow_succ] at hn; omega
        have hlen : (Lib.itoa (n.tdiv 10)).length + 1 ≤ lim := by have := itoa_len hrq; simp only [lim]; omega
        rw [R1.itoa_big (by omega) s4 (s5 hz), decide_eq_false hb, decide_eq_true (show 0 ≤ n.tdiv 10 ∧ Rng (n.tdiv 10) ∧ (n.tdiv 10).natAbs < 10 ^ k from ⟨h0, hrq, hlt⟩), decide_eq_true hlen]; rfl
    · simp [T.sel] at h2
  · simp [T.sel] at h
theorem tDg0 : (fnRun (E0 B) (C0 B) noL Tryz.f70 (bodyC Tryz.f70) [.int .i64 0] []).sel = rs [48] := by kernel_rfl
theorem dg_0 : FnOk (E0 B) 70 (sDg 0) := by
  refine fn_ok (C := C0 B) (L := noL) (c := bodyC Tryz.f70) Tryz.func70 (by kernel_rfl) (by kernel_rfl) c0Ok (noL_ok _) fun vs bs r h => ?_
  unfold sDg at h
  split at h
  · rename_i n
    rcases T.node_sel h with ⟨hc, h2⟩ | ⟨_, h2⟩
    · simp only [T.sel, Option.some.injEq] at h2; subst h2
      obtain ⟨_, _, hn⟩ := of_decide_eq_true hc
      have : n = 0 := by omega
      subst this
      refine tDg0.trans ?_
      rw [R1.itoa_small (by decide)]; rfl
    · simp [T.sel] at h2
  · simp [T.sel] at h
theorem dg_all (k : Nat) : FnOk (E0 B) 70 (sDg k) := by
  induction k with
  | zero => exact dg_0
  | succ k ih => exact dg_step k ih
theorem okDg : FnOk (E0 B) 70 sDg0 := by
  refine ⟨dg_0.1, fun vs bs out h => (dg_all (B := B) 20).2 vs bs out ?_⟩
  unfold sDg0 at h
  split at h
  · rename_i n
    rcases T.node_sel h with ⟨hc, h2⟩ | ⟨_, h2⟩
    · obtain ⟨hp, hr⟩ := of_decide_eq_true hc
      have hr' := hr
      unfold Rng at hr'
      have h20 : (10 : Nat) ^ 20 = 100000000000000000000 := by decide
      have : decide (0 ≤ n ∧ Rng n ∧ n.natAbs < 10 ^ 20) = true := decide_eq_true ⟨hp, hr, by omega⟩
      simp only [sDg, T.sel, this, cond_true] at h2 ⊢
      exact h2
    · simp [T.sel] at h2
  · simp [T.sel] at h
noncomputable def libW9 : Tb := (68, [], sTextE) :: (70, [], sDg0) :: (69, [], sNm) :: Ck.lib15
theorem libW9_ok (hB : Laid B) : TbOk B libW9 := ((Ck.lib15_ok.add okNm).add okDg).add (okTextE hB)
noncomputable def bWt : Code := loopAt 8 (loopsOf (bodyC Tryz.f23))
def sgWt : LSig := { cs := [(1, 0)], mv := [(5, 0), (8, 0)], mo := [(5, 0)], take := [] }
def jT : List UInt8 := [32, 106, 111, 105, 110, 32]
def uT : List UInt8 := [32, 117, 110, 105, 111, 110, 32]
def nmW (q : Qry) (i : Int) (u : List UInt8) : Option (AExit × Out) := cat9 u (nmS (sGt q i)) (fun v => some (.normal, ⟨[.ptr 0 0 0, .str v, i64 (w64 (i + 1))], qBs q⟩))
def uW (q : Qry) (i : Int) (s : List UInt8) : Option (AExit × Out) := bif decide (0 < i) then cat9 s uT (nmW q i) else nmW q i s
theorem turnWt (q : Qry) (s : List UInt8) (i : Int) : (turn (E0 B) (Cx B libW9) noL 125 sgWt bWt [.ptr 0 0 0, .str s, i64 i] (qBs q)).sel =
    bif decide (i < (q.src.length : Int)) then inb' i q.src.length (bif inR (sGt q i) then (bif decide (0 < i) then (bif q.join then cat9 s jT (nmW q i) else uW q i s) else uW q i s) else none) else some (.exit 0, ⟨[.str s], qBs q⟩) := by kernel_rfl
theorem nmW_in {q : Qry} {u : List UInt8} {i : Nat} {x : Int} {r : List Int} (hd : q.src.drop i = x :: r) (hu : u.length ≤ 500000) (hi : i ≤ 1000) : nmW q i u = some (.normal, ⟨[.ptr 0 0 0, .str (u ++ nmS x), i64 (i + 1 : Nat)], qBs q⟩) := by
  have hg : sGt q i = x := by
    unfold sGt
    rw [Int.toNat_natCast, List.getD_eq_getElem?_getD]
    have h0 : (q.src.drop i)[0]? = q.src[i]? := by rw [List.getElem?_drop, Nat.add_zero]
    rw [← h0, hd]; rfl
  have hn := nmS_len x
  unfold nmW
  rw [hg, cat9_in (by omega), w64_rng (show Rng ((i : Int) + 1) by unfold Rng; omega)]; rfl
theorem turnWt_in {q : Qry} {s : List UInt8} {i : Nat} {x : Int} {r : List Int} (hd : q.src.drop i = x :: r) (hr : inR x = true) (hs : s.length ≤ 400000) (hi : i ≤ 1000) :
    (turn (E0 B) (Cx B libW9) noL 125 sgWt bWt [.ptr 0 0 0, .str s, i64 i] (qBs q)).sel = some (.normal, ⟨[.ptr 0 0 0, .str ((bif decide (0 < i) then s ++ btT q.join else s) ++ nmS x), i64 (i + 1 : Nat)], qBs q⟩) := by
  have hlt : i < q.src.length := by
    have := congrArg List.length hd
    simp only [List.length_drop, List.length_cons] at this
    omega
  have hg : sGt q i = x := by
    unfold sGt
    rw [Int.toNat_natCast, List.getD_eq_getElem?_getD]
    have h0 : (q.src.drop i)[0]? = q.src[i]? := by rw [List.getElem?_drop, Nat.add_zero]
    rw [← h0, hd]; rfl
  have hb := bt_len q.join
  rw [turnWt, decide_eq_true (show (i : Int) < (q.src.length : Int) by omega), cond_true, inb'_is hlt, hg, hr, cond_true]
  unfold uW
  by_cases h0 : 0 < i
  · rw [decide_eq_true (show (0 : Int) < (i : Int) by omega), decide_eq_true h0]
    simp only [cond_true]
    cases hj : q.join with
    | true =>
      rw [cond_true, cat9_in (show s.length + jT.length ≤ 1000000 by simp only [jT, List.length_cons, List.length_nil]; omega), nmW_in hd (by simp only [jT, List.length_append, List.length_cons, List.length_nil]; omega) hi]; rfl
    | false =>
      rw [cond_false, cat9_in (show s.length + uT.length ≤ 1000000 by simp only [uT, List.length_cons, List.length_nil]; omega), nmW_in hd (by simp only [uT, List.length_append, List.length_cons, List.length_nil]; omega) hi]; rfl
  · rw [decide_eq_false (show ¬ (0 : Int) < (i : Int) by omega), decide_eq_false h0]
    simp only [cond_false]
    rw [nmW_in hd (by omega) hi]
theorem runWt (q : Qry) : ∀ (r : List Int) (i : Nat) (s : List UInt8), q.src.drop i = r → 0 < i → i + r.length ≤ 100 → r.all inR = true → s.length + r.length * 8 ≤ 300000 →
    ∃ m, (turns (E0 B) (Cx B libW9) noL 125 sgWt bWt m [.ptr 0 0 0, .str s, i64 i] (qBs q)).sel = some (.exit 0, ⟨[.str (srcT (btT q.join) s r)], qBs q⟩)
  | [], i, s, hd, _, _, _, _ => by
    refine ⟨1, turns_done ((turnWt q s i).trans ?_) (by simp)⟩
    have hle : q.src.length ≤ i := List.drop_eq_nil_iff.1 hd
    rw [decide_eq_false (show ¬ (i : Int) < (q.src.length : Int) by omega)]; rfl
  | x :: r, i, s, hd, h0, hi, ha, hl => by
    rw [List.all_cons, Bool.and_eq_true] at ha
    simp only [List.length_cons] at hi hl
    have hb := bt_len q.join
    have hn := nmS_len x
    have ht := turnWt_in (B := B) hd ha.1 (s := s) (by omega) (by omega)
    rw [decide_eq_true h0, cond_true] at ht
    obtain ⟨m, hm⟩ := runWt q r (i + 1) (s ++ btT q.join ++ nmS x) (by rw [← List.drop_drop, hd]; rfl) (by omega) (by omega) ha.2 (by simp only [List.length_append]; omega)
    exact ⟨m + 1, turns_more ht hm⟩
def spWt : LSpec
  | [.ptr 0 0 0, .str s, .int .i64 i], [⟨true, .gen ty [[.int .u8 ag, .slw 1, .slw 2, .bool j, .slw 3, .int .u8 wk, .int .i64 ws, .int .i64 we, .bool bk, .int .u8 lt]]⟩, ⟨false, .nodes A⟩, ⟨false, .ints .i64 S⟩, ⟨false, .nodes W⟩] =>
    .node (decide (ty = qTy) && (decide (i = 0 ∧ S.length ≤ 4 ∧ s.length ≤ 200000) && S.all inR)) (.leaf (.exit 0, ⟨[.str (srcF (btT j) s S)], [⟨true, .gen qTy [[.int .u8 ag, .slw 1, .slw 2, .bool j, .slw 3, .int .u8 wk, .int .i64 ws, .int .i64 we, .bool bk, .int .u8 lt]]⟩, ⟨false, .nodes A⟩, ⟨false, .ints .i64 S⟩, ⟨false, .nodes W⟩]⟩)) .bad
  | _, _ => .bad
theorem loopWt (hB : Laid B) : LoopOk (E0 B) 125 sgWt bWt spWt := by
  refine loop_turns (C := Cx B libW9) (L := noL) (cxOk (libW9_ok hB)) (noL_ok _) fun vs bs e o h => ?_
  unfold spWt at h
  split at h
  · rename_i s i ty ag j wk ws we bk lt A S W
    rcases T.node_sel h with ⟨hc, h2⟩ | ⟨_, h2⟩
    · simp only [Bool.and_eq_true] at hc
      obtain ⟨hty, hc, ha⟩ := hc
      have hty := of_decide_eq_true hty
      subst hty
      obtain ⟨rfl, hS, hs⟩ := of_decide_eq_true hc
      simp only [T.sel, Option.some.injEq] at h2
      rw [← h2]
      have key : ∀ q : Qry, q.src = S → ∃ m, (turns (E0 B) (Cx B libW9) noL 125 sgWt bWt m [.ptr 0 0 0, .str s, i64 0] (qBs q)).sel = some (.exit 0, ⟨[.str (srcF (btT q.join) s S)], qBs q⟩) := by
        intro q hq
        cases S with
        | nil =>
          refine ⟨1, turns_done ((turnWt q s 0).trans ?_) (by simp)⟩
          rw [hq]; rfl
        | cons x r =>
          rw [List.all_cons, Bool.and_eq_true] at ha
          simp only [List.length_cons] at hS
          have ht := turnWt_in (B := B) (q := q) (s := s) (i := 0) (x := x) (r := r) (by rw [hq]; rfl) ha.1 (by omega) (by omega)
          have hn := nmS_len x
          obtain ⟨m, hm⟩ := runWt q r 1 (s ++ nmS x) (by rw [hq]; rfl) (by omega) (by omega) ha.2 (by simp only [List.length_append]; omega)
          exact ⟨m + 1, turns_more ht hm⟩
      exact key ⟨ag, A, S, j, W, wk, ws, we, bk, lt⟩ rfl
    · simp [T.sel] at h2
  · simp [T.sel] at h
noncomputable def eWt : LEnt := { id := 8, n := 125, sg := sgWt, wr := writes bWt, s := spWt }
def kdL : List (List UInt8) := [[116, 117, 109, 98, 108, 101], [115, 108, 105, 100, 101], [115, 101, 115, 115, 105, 111, 110]]
def fW (e : Int) (s : List UInt8) : Option Out := some ⟨[.str s, .bool (decide (e = 0))], []⟩
def wtL (lt e : Int) (s : List UInt8) : Option Out := bif decide (lt = 2) then cat9 s [32, 108, 97, 116, 101, 32, 115, 105, 100, 101] (fW e) else fW e s
def wtK (bk : Bool) (lt e : Int) (s : List UInt8) : Option Out := bif bk then cat9 s [32, 98, 121, 32, 107, 101, 121] (wtL lt e) else wtL lt e s
def dgG (n : Int) : Bool := decide (0 ≤ n ∧ Rng n)
def wtE (wk we : Int) (bk : Bool) (lt e : Int) (s : List UInt8) : Option Out := bif decide (wk = 2) then (bif dgG we then cat9 [32, 101, 118, 101, 114, 121, 32] (Lib.itoa we) fun u => cat9 s u (wtK bk lt e) else none) else wtK bk lt e s
def wtW (q : Qry) (e : Int) (s : List UInt8) : Option Out := inb' (u8 (q.wk - 1)) kdL.length (cat9 [32, 119, 105, 110, 100, 111, 119, 32] (kdL.getD (u8 (q.wk - 1)).toNat []) fun u => cat9 u [32] fun u => bif dgG q.ws then cat9 u (Lib.itoa q.ws) (fun v => cat9 s v (wtE q.wk q.we q.byKey q.late e)) else none)
def wtR (q : Qry) (e : Int) (s : List UInt8) : Option Out := bif decide ((0 : Int) < (q.whr.length : Int)) then (bif rngX q.whr then (bif !decide (chkN q.whr = 0) then some ⟨[.str [], .bool false], []⟩ else cat9 [32, 119, 104, 101, 114, 101, 32] (txS q.whr) fun u => cat9 s u (wtW q e)) else none) else wtW q e s
def wtS (q : Qry) (e : Int) (s : List UInt8) : Option Out := bif decide (qTy = qTy) && (decide ((0 : Int) = 0 ∧ q.src.length ≤ 4 ∧ s.length ≤ 200000) && q.src.all inR) then wtR q e (srcF (btT q.join) s q.src) else none
def wtA (q : Qry) (s : List UInt8) (a : List UInt8) (e : Int) : Option Out := cat9 a [41, 32, 102, 114, 111, 109, 32] fun u => cat9 s u (wtS q e)
def wtO (q : Qry) : Option Out := inb' (u8 (q.agg - 1)) agL.length (cat9 [115, 101, 108, 101, 99, 116, 32] (agL.getD (u8 (q.agg - 1)).toNat []) fun s => cat9 s [40] fun s => bif !decide (q.agg = 1) then (bif rngX q.arg then wtA q s (txS q.arg) (chkN q.arg) else none) else wtA q s [42] 0)
theorem tWt (q : Qry) : runL B libW9 [eWt] Tryz.f23 [q.av 0 1 2] (Ck.qbs q) = wtO q := by kernel_rfl
end Go.Proofs.YtgpoaohglpecgaaGreatDoor.Wr
namespace Go.Proofs.YtgpoaohglpecgaaGreatDoor.Wr
open Go.Am Go Go.Proofs.YtgpoaohglpecgaaGreatDoor
set_option maxRecDepth 100000
variable {B : Nat → Option Obj}
def argW (q : Qry) : List UInt8 := bif decide (q.agg = 1) then [42] else txS q.arg
def hdW (q : Qry) : List UInt8 := [115, 101, 108, 101, 99, 116, 32] ++ agT q.agg ++ [40] ++ (argW q ++ [41, 32, 102, 114, 111, 109, 32])
def whW (q : Qry) : List UInt8 := bif decide (0 < q.whr.length) then [32, 119, 104, 101, 114, 101, 32] ++ txS q.whr else []
def kdT (k : Int) : List UInt8 := kdL.getD (u8 (k - 1)).toNat []
def wnW (q : Qry) : List UInt8 := [32, 119, 105, 110, 100, 111, 119, 32] ++ kdT q.wk ++ [32] ++ Lib.itoa q.ws
def wtT (q : Qry) : List UInt8 := srcF (btT q.join) (hdW q) q.src ++ whW q ++ wnW q ++ evT q ++ bkT q ++ ltT q
theorem kd_is : ∀ k : Fin 4, 1 ≤ k.val → kdT k.val = wWk k.val ∧ (kdT k.val).length ≤ 7 := by decide +kernel
theorem wt_is {q : Qry} {ea ew : Ex} (h : QX q ea ew) (ha : q.agg ≠ 1 → txS q.arg = ea.txt true) (hw : 0 < q.whr.length → txS q.whr = ew.txt true) : wtT q = pcsS (qF true q ea ew) := by
  have a1 := h.ag
  have a2 := h.wk
  have e1 : agT q.agg = Go.Am.wAg q.agg := by
    have := Sq.ag_is ⟨q.agg.toNat, by omega⟩ (by simp only; omega)
    simpa only [show ((q.agg.toNat : Nat) : Int) = q.agg by omega] using this
  have e2 : kdT q.wk = wWk q.wk := by
    have := (kd_is ⟨q.wk.toNat, by omega⟩ (by simp only; omega)).1
    simpa only [show ((q.wk.toNat : Nat) : Int) = q.wk by omega] using this
  have e3 : argW q = pcsS (agF true q ea) := by
    unfold argW agF
    by_cases h1 : q.agg = 1
    · rw [decide_eq_true h1]; rfl
    · rw [decide_eq_false h1, cond_false, cond_false, ha h1]; rfl
  have e4 : whW q = pcsS (whF true q ew) := by
    unfold whW whF
    by_cases h1 : 0 < q.whr.length
    · rw [decide_eq_true h1, cond_true, cond_true, Sq.pcs_w, pcs_gapS, hw h1]; rfl
    · rw [decide_eq_false h1]; rfl
  have e5 : wnW q ++ evT q ++ bkT q ++ ltT q = pcsS (winP q) := by
    have f1 : evT q = pcsS (evP q) := by
      unfold evT evP
      cases decide (q.wk = 2) with
      | true => rw [cond_true, cond_true, Sq.pcs_w, Sq.pcs_n]; simp [pcsS, wEvery]
      | false => rfl
    have f2 : bkT q = pcsS (bkP q) := by unfold bkT bkP; cases q.byKey <;> rfl
    have f3 : ltT q = pcsS (tlP q) := by unfold ltT tlP; cases decide (q.late = 2) <;> rfl
    unfold winP wnW
    rw [Sq.pcs_w, Sq.pcs_w, Sq.pcs_n, pcsS_app, pcsS_app, f1, f2, f3, e2]
    simp [wWin]
  have hs := h.s0
  have hR := h.sR
  unfold wtT
  have e6 : srcF (btT q.join) (hdW q) q.src = wSel ++ ([32] ++ (Go.Am.wAg q.agg ++ (40 :: pcsS (agF true q ea)))) ++ (match q.src with | [] => [] | x :: r => [41] ++ ([32] ++ (wFrom ++ ([32] ++ (wNm x ++ pcsS (srcP q.join r)))))) := by
    cases hq : q.src with
    | nil => rw [hq] at hs; simp at hs
    | cons x r =>
      rw [hq, List.all_cons, Bool.and_eq_true] at hR
      show srcT (btT q.join) (hdW q ++ nmS x) r = _
      rw [Sq.srcT_is q.join r _ hR.2, Sq.nm_of hR.1]
      unfold hdW
      rw [e1, e3]
      simp [wSel, wFrom]
  have e7 : srcF (btT q.join) (hdW q) q.src ++ whW q ++ wnW q ++ evT q ++ bkT q ++ ltT q = srcF (btT q.join) (hdW q) q.src ++ (whW q ++ (wnW q ++ evT q ++ bkT q ++ ltT q)) := by simp only [List.append_assoc]
  rw [e7, e6, e4, e5, qtxtF_is, pcsS_app]
  have e8 : pcsS (Go.Am.frF true q ew) = (match q.src with | [] => [] | x :: r => [41] ++ ([32] ++ (wFrom ++ ([32] ++ (wNm x ++ pcsS (srcP q.join r)))))) ++ (pcsS (whF true q ew) ++ pcsS (winP q)) := by
    unfold Go.Am.frF
    cases hq : q.src with
    | nil => rw [hq] at hs; simp at hs
    | cons x r =>
      show [] ++ ([41] ++ pcsS (pW wFrom :: pW (wNm x) :: (srcP q.join r ++ (whF true q ew ++ winP q)))) = _
      rw [Sq.pcs_w, Sq.pcs_w, pcsS_app, pcsS_app]
      simp only [List.append_assoc, List.nil_append]
  rw [e8]
  simp only [List.append_assoc, List.cons_append, List.nil_append]
theorem tx_len {X : List Nod} (hc : chkN X = 0) (hr : rngX X = true) : (txS X).length ≤ 100000 := by
  obtain ⟨e, he, rfl, hs, _⟩ := chkN_tree hc
  rw [(txS_is he hc).1]
  have := pcsS_bound true e 0 (by rw [← rng_flat e 0]; exact hr)
  unfold Ex.txt; omega
theorem dg_ok {n : Int} (h0 : 0 ≤ n) (h1 : Rng n) : dgG n = true := decide_eq_true ⟨h0, h1⟩
theorem wtL_is (q : Qry) {s : List UInt8} (h : s.length ≤ 900000) : wtL q.late 0 s = fW 0 (s ++ ltT q) := by
  unfold wtL ltT
  cases decide (q.late = 2) with
  | true => exact cat9_in (by simp only [List.length_cons, List.length_nil]; omega) _
  | false => rw [cond_false, cond_false, List.append_nil]
theorem wtK_is (q : Qry) {s : List UInt8} (h : s.length ≤ 800000) : wtK q.byKey q.late 0 s = fW 0 (s ++ bkT q ++ ltT q) := by
  unfold wtK bkT
  cases q.byKey with
  | true =>
    rw [cond_true, cond_true, cat9_in (by simp only [List.length_cons, List.length_nil]; omega), wtL_is q (by simp only [List.length_append, List.length_cons, List.length_nil]; omega)]
  | false => rw [cond_false, cond_false, List.append_nil, wtL_is q (by omega)]
theorem wtE_is (q : Qry) (h0 : q.wk = 2 → 0 ≤ q.we) (hr : Rng q.we) {s : List UInt8} (h : s.length ≤ 700000) : wtE q.wk q.we q.byKey q.late 0 s = fW 0 (s ++ evT q ++ bkT q ++ ltT q) := by
  unfold wtE evT
  by_cases hk : q.wk = 2
  · have hl := itoa_len hr
    rw [decide_eq_true hk, cond_true, cond_true, dg_ok (h0 hk) hr, cond_true, cat9_in (by simp only [List.length_cons, List.length_nil]; omega), cat9_in (by simp only [List.length_append, List.length_cons, List.length_nil]; omega),
      wtK_is q (by simp only [List.length_append, List.length_cons, List.length_nil]; omega)]
  · rw [decide_eq_false hk, cond_false, cond_false, List.append_nil, wtK_is q (by omega)]
theorem u8_in {n : Int} (h0 : 0 ≤ n) (h1 : n ≤ 200) : u8 n = n := by
  unfold u8
  simp [IntKind.wrap, IntKind.bits, IntKind.signed]; omega
theorem wtW_is {q : Qry} {ea ew : Ex} (hq : QX q ea ew) {s : List UInt8} (h : s.length ≤ 600000) : wtW q 0 s = fW 0 (s ++ wnW q ++ evT q ++ bkT q ++ ltT q) := by
  have hk := hq.wk
  have hws := hq.ws
  have hwe : Rng q.we := by
    by_cases h2 : q.wk = 2
    · have := hq.we h2; unfold Rng; omega
    · rw [hq.w0 h2]; unfold Rng; omega
  have hr : Rng q.ws := by unfold Rng; omega
  have hl := itoa_len hr
  have hkd := (kd_is ⟨q.wk.toNat, by omega⟩ (by simp only; omega)).2
  simp only [show ((q.wk.toNat : Nat) : Int) = q.wk by omega] at hkd
  unfold wtW wnW
  unfold kdT at hkd ⊢
  have hu : u8 (q.wk - 1) = q.wk - 1 := u8_in (by omega) (by omega)
  rw [hu] at hkd ⊢
  rw [inb_in (show 0 ≤ q.wk - 1 by omega) (show q.wk - 1 < ((kdL.length : Nat) : Int) from by show q.wk - 1 < 3; omega), cat9_in (by simp only [List.length_cons, List.length_nil]; omega), cat9_in (by simp only [List.length_append, List.length_cons, List.length_nil]; omega),
    dg_ok (by omega) hr, cond_true, cat9_in (by simp only [List.length_append, List.length_cons, List.length_nil]; omega), cat9_in (by simp only [List.length_append, List.length_cons, List.length_nil]; omega),
    wtE_is q (fun h2 => by have := hq.we h2; omega) hwe (by simp only [List.length_append, List.length_cons, List.length_nil]; omega)]
theorem wtR_is {q : Qry} {ea ew : Ex} (hq : QX q ea ew) (hc : 0 < q.whr.length → chkN q.whr = 0) (hW : rngX q.whr = true) {s : List UInt8} (h : s.length ≤ 400000) : wtR q 0 s = fW 0 (s ++ whW q ++ wnW q ++ evT q ++ bkT q ++ ltT q) := by
  unfold wtR whW
  by_cases h0 : 0 < q.whr.length
  · have hl := tx_len (hc h0) hW
    rw [decide_eq_true (show (0 : Int) < (q.whr.length : Int) by omega), decide_eq_true h0, cond_true, cond_true, hW, cond_true, decide_eq_true (hc h0), Bool.not_true, cond_false, cat9_in (by simp only [List.length_cons, List.length_nil]; omega), cat9_in (by simp only [List.length_append, List.length_cons, List.length_nil]; omega),
      wtW_is hq (by simp only [List.length_append, List.length_cons, List.length_nil]; omega)]
  · rw [decide_eq_false (show ¬ (0 : Int) < (q.whr.length : Int) by omega), decide_eq_false h0, cond_false, cond_false, List.append_nil, wtW_is hq (by omega)]
theorem wtS_is {q : Qry} {ea ew : Ex} (hq : QX q ea ew) (hc : 0 < q.whr.length → chkN q.whr = 0) (hW : rngX q.whr = true) {s : List UInt8} (h : s.length ≤ 200000) : wtS q 0 s = fW 0 (srcF (btT q.join) s q.src ++ whW q ++ wnW q ++ evT q ++ bkT q ++ ltT q) := by
  have h4 := hq.s4
  have hb := bt_len q.join
  have hl := srcF_len (btT q.join) s q.src h4 hb
  unfold wtS
  rw [decide_eq_true (rfl : qTy = qTy), decide_eq_true (show (0 : Int) = 0 ∧ q.src.length ≤ 4 ∧ s.length ≤ 200000 from ⟨rfl, h4, h⟩), hq.sR]
  exact wtR_is hq hc hW (by omega)
theorem wtO_is {q : Qry} (h : clkE q = 0) (hA : rngX q.arg = true) (hW : rngX q.whr = true) : wtO q = fW 0 (wtT q) := by
  obtain ⟨ea, ew, hq, _, _⟩ := Sq.qx_of h hA hW
  obtain ⟨c1, c2, c3, c4, c5, c6⟩ := clk_inv h
  have hg := hq.ag
  obtain ⟨⟨w1, w2⟩, w3⟩ := ag_of hg.1 hg.2
  unfold wtO wtT hdW
  unfold agT at w3 ⊢
  have key : ∀ a : List UInt8, a.length ≤ 100000 → wtA q ([115, 101, 108, 101, 99, 116, 32] ++ agL.getD (u8 (q.agg - 1)).toNat [] ++ [40]) a 0 = fW 0 (srcF (btT q.join) ([115, 101, 108, 101, 99, 116, 32] ++ agL.getD (u8 (q.agg - 1)).toNat [] ++ [40] ++ (a ++ [41, 32, 102, 114, 111, 109, 32])) q.src ++ whW q ++ wnW q ++ evT q ++ bkT q ++ ltT q) := fun a hl => by
    unfold wtA
    rw [cat9_in (by simp only [List.length_cons, List.length_nil]; omega), cat9_in (by simp only [List.length_append, List.length_cons, List.length_nil]; omega)]
    exact wtS_is hq c4 hW (by simp only [List.length_append, List.length_cons, List.length_nil]; omega)
  rw [inb_in w1 (show u8 (q.agg - 1) < (agL.length : Int) from w2), cat9_in (by simp only [List.length_cons, List.length_nil]; omega), cat9_in (by simp only [List.length_append, List.length_cons, List.length_nil]; omega)]
  unfold argW
  by_cases h1 : q.agg = 1
  · rw [decide_eq_true h1, Bool.not_true, cond_false, cond_true]
    exact key [42] (by simp)
  · rw [decide_eq_false h1, Bool.not_false, cond_true, cond_false, hA, cond_true, c3 h1]
    exact key _ (tx_len (c3 h1) hA)
def okW (q : Qry) : Bool := decide (clkE q = 0) && (rngX q.arg && rngX q.whr)
def sWt : FSpec
  | [.agg [.int .u8 ag, .slw 0, .slw 1, .bool j, .slw 2, .int .u8 wk, .int .i64 ws, .int .i64 we, .bool bk, .int .u8 lt]], [⟨false, .nodes A⟩, ⟨false, .ints .i64 S⟩, ⟨false, .nodes W⟩] => .node (okW ⟨ag, A, S, j, W, wk, ws, we, bk, lt⟩) (.leaf ⟨[.str (wtT ⟨ag, A, S, j, W, wk, ws, we, bk, lt⟩), .bool true], []⟩) .bad
  | _, _ => .bad
theorem okWt (hB : Laid B) : FnOk (E0 B) 23 sWt := by
  refine fnL (libW9_ok hB) (ls := [eWt]) Tryz.func23 (by kernel_rfl) (by kernel_rfl) (fun x hx => ?_) fun vs bs r h => ?_
  · simp only [List.mem_singleton] at hx; subst hx
    exact ⟨bWt, by kernel_rfl, rfl, loopWt hB⟩
  unfold sWt at h
  split at h
  · rename_i ag j wk ws we bk lt A S W
    rcases T.node_sel h with ⟨hc, h2⟩ | ⟨_, h2⟩
    · simp only [T.sel, Option.some.injEq] at h2; subst h2
      unfold okW at hc
      simp only [Bool.and_eq_true, decide_eq_true_eq] at hc
      exact (tWt ⟨ag, A, S, j, W, wk, ws, we, bk, lt⟩).trans (wtO_is hc.1 hc.2.1 hc.2.2)
    · simp [T.sel] at h2
  · simp [T.sel] at h
theorem wt_pcs {q : Qry} (hc : clkE q = 0) (hA : rngX q.arg = true) (hW : rngX q.whr = true) : ∃ ea ew, QX q ea ew ∧ wtT q = pcsS (qF true q ea ew) := by
  obtain ⟨ea, ew, hq, _, _⟩ := Sq.qx_of hc hA hW
  obtain ⟨c1, c2, c3, c4, c5, c6⟩ := clk_inv hc
  refine ⟨ea, ew, hq, wt_is hq (fun h1 => ?_) (fun h1 => ?_)⟩
  · obtain ⟨g1, g2⟩ := hq.a2 h1
    rw [g1]
    exact (txS_is g2.ok (by rw [← g1]; exact c3 h1)).1
  · obtain ⟨g1, g2⟩ := hq.w2 h1
    rw [g1]
    exact (txS_is g2.ok (by rw [← g1]; exact c4 h1)).1
end Go.Proofs.YtgpoaohglpecgaaGreatDoor.Wr
