/-
  Texts put together: ParPart, ParPart2.
-/
import Derived.Test.YtgpoaohglpecgaaGreatDoorWrA
import Derived.Test.YtgpoaohglpecgaaGreatDoorCmpA
import Derived.Test.YtgpoaohglpecgaaGreatDoorLawA
import Derived.Test.YtgpoaohglpecgaaGreatDoorChtA
namespace Go.Proofs.YtgpoaohglpecgaaGreatDoor.Pp
open Go.Am Go Go.Proofs.YtgpoaohglpecgaaGreatDoor Go.Proofs.YtgpoaohglpecgaaGreatDoor.Pr
set_option maxRecDepth 100000
variable {B : Nat → Option Obj}
inductive KP where
  | many | good
def sAllM : FSpec
  | [.str s], [] => .node (decide (lexE s = 4)) (.leaf ⟨[.slw 0, .int .i64 (lexN s), .int .i64 4], [⟨true, .toks (lexL s)⟩]⟩) .bad
  | _, _ => .bad
theorem okAllM (hB : Laid B) : FnOk (E0 B) 16 sAllM := fnOk_weak (Lx.okAll hB) fun vs bs r h => by
  unfold sAllM at h
  split at h
  · rename_i s
    rcases T.node_sel h with ⟨hg, h2⟩ | ⟨_, h2⟩
    · rw [← h2, ← of_decide_eq_true hg]; rfl
    · simp [T.sel] at h2
  · simp [T.sel] at h
def KP.all : KP → FSpec
  | .many => sAllM
  | .good => sAllG
def KP.par : KP → Tx.K3
  | .many => .bad
  | .good => .ok
theorem okAllK (hB : Laid B) (k : KP) : FnOk (E0 B) 16 k.all := by
  cases k with
  | many => exact okAllM hB
  | good => exact okAllG hB
noncomputable def libP (k : KP) : Tb := (15, [], sTrueF) :: (23, [], Wr.sWt) :: (18, [], Tx.sP3 k.par) :: (16, [], k.all) :: (27, [], sParseG) :: (29, [], sSameG) :: (26, [], Lx.sGr) :: Ck.lib15
theorem libP_ok (hB : Laid B) (k : KP) : TbOk B (libP k) := ((((((Ck.lib15_ok.add (Lx.okGreat hB)).add okSameG).add (okParseG hB)).add (okAllK hB k)).add (Tx.okP3 hB k.par)).add (Wr.okWt hB)).add (okAl9 hB)
noncomputable def bP : Code := loopAt 20 (loopsOf (bodyC Tryz.f6))
def sgP : LSig := { cs := [(5, 0), (8, 23)], mv := [(16, 0)], mo := [], take := [] }
def vP (i : Int) : List AV := [.ptr 0 0 0, .slw 1, i64 i]
def qB (q : Qry) : Blk := ⟨true, .gen qTy [[.int .u8 q.agg, .slw 2, .slw 3, .bool q.join, .slw 4, .int .u8 q.wk, .int .i64 q.ws, .int .i64 q.we, .bool q.byKey, .int .u8 q.late]]⟩
def bsP (L : List Tok) (q : Qry) : List Blk := [qB q, tb L, nb false q.arg, lb false q.src, nb false q.whr]
def qE (q : Qry) : List Blk := [⟨true, .gen qTy [[.int .u8 q.agg, .slw 1, .slw 2, .bool q.join, .slw 3, .int .u8 q.wk, .int .i64 q.ws, .int .i64 q.we, .bool q.byKey, .int .u8 q.late]]⟩, nb false q.arg, lb false q.src, nb false q.whr]
def goP (L : List Tok) (q : Qry) (i : Int) : LO := some (.normal, ⟨vP (w64 (i + 1)), bsP L q⟩)
theorem turnP (L : List Tok) (q : Qry) (i : Int) : (turn (E0 B) (Cx B (libP .good)) noL 148 sgP bP (vP i) (bsP L q)).sel =
    bif decide (i < (L.length : Int)) then Ck.inb i L.length (bif decide ((tkA L i).kind = 2) then Ck.inb i L.length (bif decide ((tkA L i).text = wWhere) then (bif shortT L && decide (zE L (w64 (i + 1)) = 0) then (bif decide ((zX L (w64 (i + 1))).length ≤ 1000) then (bif !all2 eqNod (zX L (w64 (i + 1))) q.whr then some (.ret, ⟨[], qE q⟩) else goP L q i) else none) else none) else goP L q i) else goP L q i)
      else some (.exit 0, ⟨[], qE q⟩) := by kernel_rfl
def whG (L : List Tok) (q : Qry) (i : Int) : Bool := bif decide ((tkA L i).kind = 2) && decide ((tkA L i).text = wWhere) then decide (zE L (i + 1) = 0) && (decide ((zX L (i + 1)).length ≤ 1000) && all2 eqNod (zX L (i + 1)) q.whr) else true
def allW (L : List Tok) (q : Qry) : Bool := (List.range L.length).all fun i => whG L q i
theorem runP (L : List Tok) (q : Qry) (hL : L.length ≤ 1000) (hs : shortT L = true) (hg : allW L q = true) : ∀ (k i : Nat), i + k = L.length → ∃ m, (turns (E0 B) (Cx B (libP .good)) noL 148 sgP bP m (vP i) (bsP L q)).sel = some (.exit 0, ⟨[], qE q⟩)
  | 0, i, hi => by
    refine ⟨1, turns_done ((turnP L q i).trans ?_) (by simp)⟩
    rw [decide_eq_false (by omega)]; rfl
  | k + 1, i, hi => by
    have hw : w64 ((i : Int) + 1) = (i : Int) + 1 := w64_rng (by unfold Rng; omega)
    have hgi : whG L q i = true := List.all_eq_true.1 hg i (List.mem_range.2 (by omega))
    have ht := turnP (B := B) L q i
    rw [decide_eq_true (show (i : Int) < (L.length : Int) by omega), cond_true, Ck.inb_is (by omega), Ck.inb_is (by omega), hw, hs] at ht
    have e : (turn (E0 B) (Cx B (libP .good)) noL 148 sgP bP (vP i) (bsP L q)).sel = some (.normal, ⟨vP ((i + 1 : Nat) : Int), bsP L q⟩) := by
      rw [ht]
      unfold goP
      rw [hw]
      unfold whG at hgi
      cases h1 : decide ((tkA L i).kind = 2) with
      | false => rfl
      | true =>
        cases h2 : decide ((tkA L i).text = wWhere) with
        | false => rfl
        | true =>
          rw [h1, h2] at hgi
          simp only [Bool.and_self, cond_true, Bool.and_eq_true] at hgi
          rw [hgi.1, hgi.2.1, hgi.2.2]; rfl
    obtain ⟨m, hm⟩ := runP L q hL hs hg k (i + 1) (by omega)
    exact ⟨m + 1, (turns_more' e).trans hm⟩
def spP : LSpec
  | [.ptr 0 0 0, .slw 1, .int .i64 i], [⟨true, .gen ty [[.int .u8 ag, .slw 2, .slw 3, .bool j, .slw 4, .int .u8 wk, .int .i64 ws, .int .i64 we, .bool bk, .int .u8 lt]]⟩, ⟨false, .toks L⟩, ⟨false, .nodes A⟩, ⟨false, .ints .i64 S⟩, ⟨false, .nodes W⟩] =>
    .node (decide (ty = qTy) && (decide (i = 0 ∧ L.length ≤ 1000) && (shortT L && allW L ⟨ag, A, S, j, W, wk, ws, we, bk, lt⟩))) (.leaf (.exit 0, ⟨[], qE ⟨ag, A, S, j, W, wk, ws, we, bk, lt⟩⟩)) .bad
  | _, _ => .bad
theorem loopP (hB : Laid B) : LoopOk (E0 B) 148 sgP bP spP := by
  refine loop_turns (C := Cx B (libP .good)) (L := noL) (cxOk (libP_ok hB .good)) (noL_ok _) fun vs bs e o h => ?_
  unfold spP at h
  split at h
  · rename_i i ty ag j wk ws we bk lt L A S W
    rcases T.node_sel h with ⟨hc, h2⟩ | ⟨_, h2⟩
    · simp only [Bool.and_eq_true] at hc
      obtain ⟨hty, hc, hs, ha⟩ := hc
      have hty := of_decide_eq_true hty
      subst hty
      obtain ⟨rfl, hL⟩ := of_decide_eq_true hc
      obtain ⟨m, hm⟩ := runP (B := B) L ⟨ag, A, S, j, W, wk, ws, we, bk, lt⟩ hL hs ha L.length 0 (by omega)
      refine ⟨m, hm.trans ?_⟩
      rw [← h2]; rfl
    · simp [T.sel] at h2
  · simp [T.sel] at h
noncomputable def eP : LEnt := { id := 20, n := 148, sg := sgP, wr := writes bP, s := spP }
def grQ (q : Qry) (z : Option Out) : Option Out := bif decide ((70 : Int) < (q.arg.length : Int)) then rb true else bif decide ((70 : Int) < (q.whr.length : Int)) then rb true else bif decide ((10 : Int) < (q.src.length : Int)) then rb true else bif !decide (clkE q = 0) then rb true else z
def lpO (L : List Tok) (p : Qry) : Option Out := rS (decide (qTy = qTy) && (decide ((0 : Int) = 0 ∧ L.length ≤ 1000) && (shortT L && allW L p))) (rb true)
def agO (L : List Tok) (p q : Qry) : Option Out := bif !decide (q.agg = 1) then rS (shortT L && decide (zE L 3 = 0)) (rS (decide ((zX L 3).length ≤ 1000)) (bif !all2 eqNod (zX L 3) p.arg then rb false else rS (decide (smE (zX L 3) q.arg = 0)) (bif !smB (zX L 3) q.arg then rb false else lpO L p))) else lpO L p
def ptO (q : Qry) : KP → Option Out
  | .many => grQ q (rS (Wr.okW q) (bif decide ((400 : Int) < ((Wr.wtT q).length : Int)) then rb true else rS (!decide (prE (Wr.wtT q) = 0)) (rS (decide (lexE (Wr.wtT q) = 4)) (fbQ (decide (prE (Wr.wtT q) = 4)) (rb true)))))
  | .good => grQ q (rS (Wr.okW q) (bif decide ((400 : Int) < ((Wr.wtT q).length : Int)) then rb true else rS (decide (prE (Wr.wtT q) = 0)) (rS (decide (lexE (Wr.wtT q) = 0)) (bif decide (((lexL (Wr.wtT q)).length : Int) < 4) then rb false else bif greatB 0 (lexL (Wr.wtT q)) then rb false else agO (lexL (Wr.wtT q)) (prQ (Wr.wtT q)) q))))
theorem tPartM (q : Qry) : runT B (libP .many) Tryz.f6 [q.av 0 1 2] (Ck.qbs q) = ptO q .many := by kernel_rfl
theorem tPartG (q : Qry) : runL B (libP .good) [eP] Tryz.f6 [q.av 0 1 2] (Ck.qbs q) = ptO q .good := by kernel_rfl
end Go.Proofs.YtgpoaohglpecgaaGreatDoor.Pp
namespace Go.Proofs.YtgpoaohglpecgaaGreatDoor.Pp
open Go.Am Go Go.Proofs.YtgpoaohglpecgaaGreatDoor Go.Proofs.YtgpoaohglpecgaaGreatDoor.Pr
set_option maxRecDepth 100000
variable {B : Nat → Option Obj}
theorem gr_ok {q : Qry} {z : Option Out} (hz : clkE q = 0 → z = rb true) : grQ q z = rb true := by
  unfold grQ
  by_cases hc : clkE q = 0
  · rw [hz hc]
    cases decide ((70 : Int) < (q.arg.length : Int)) <;> cases decide ((70 : Int) < (q.whr.length : Int)) <;> cases decide ((10 : Int) < (q.src.length : Int)) <;> cases decide (clkE q = 0) <;> rfl
  · rw [decide_eq_false hc]
    cases decide ((70 : Int) < (q.arg.length : Int)) <;> cases decide ((70 : Int) < (q.whr.length : Int)) <;> cases decide ((10 : Int) < (q.src.length : Int)) <;> rfl
theorem qF_len (f : Bool) {q : Qry} {ea ew : Ex} (h : QX q ea ew) : 4 ≤ (qF f q ea ew).length := by
  have h0 := h.s0
  unfold qF frF
  cases hs : q.src with
  | nil => rw [hs] at h0; simp at h0
  | cons x r => simp only [List.length_cons, List.length_append]; omega
theorem not_great {L : List Tok} (h : ∀ t ∈ L, t.text.length ≤ 500) : ∀ i : Int, 0 ≤ i → i + L.length ≤ 220 → greatB i L = false := by
  induction L with
  | nil => intro i _ _; rfl
  | cons t r ih =>
    intro i h0 h1
    simp only [List.length_cons] at h1
    unfold greatB
    rw [decide_eq_false (show ¬ 220 ≤ i by omega), decide_eq_false (show ¬ 500 < (t.text.length : Int) by have := h t List.mem_cons_self; omega), ih (fun t ht => h t (List.mem_cons_of_mem _ ht)) (i + 1) (by omega) (by omega)]; rfl
theorem same_is {X Y : List Nod} (h : X.map Nod.st = Y.map Nod.st) (hX : chkN X = 0) (hY : chkN Y = 0) : smE X Y = 0 ∧ smB X Y = true := by
  have h1 : all2 eqN X Y = true := by rw [all2_st, h]; simp
  unfold smE smB
  rw [decide_eq_true hX, decide_eq_true hY, h1]
  exact ⟨hY, rfl⟩
theorem nx_wOf {L : List Tok} {b : Int} (h : nxB L b whS = true) : wOf L b = true := by
  unfold nxB at h
  simp only [Bool.and_eq_true, Bool.not_eq_true', decide_eq_false_iff_not, decide_eq_true_eq] at h
  obtain ⟨_, h1, h2⟩ := h
  have hf : firstL (hitS (tkA L b).text) whS = (bif hitS (tkA L b).text wWhere then 0 else 1) := rfl
  have h2 : firstL (hitS (tkA L b).text) whS < 1 := h2
  rw [hf] at h2
  cases hh : hitS (tkA L b).text wWhere with
  | false => rw [hh] at h2; exact absurd h2 (by decide)
  | true =>
    unfold hitS at hh
    unfold wOf
    have k1 : ((L.getD b.toNat default).kind) ≠ 1 := h1
    have k2 : ((L.getD b.toNat default).text) = wWhere := of_decide_eq_true hh
    rw [decide_eq_false k1, decide_eq_true k2]; rfl
theorem z_zero {L : List Tok} (hL : TkO L) {a : Int} (h0 : 0 ≤ a) (h1 : a ≤ (L.length : Int)) (h : 0 < (zX L a).length) : zE L a = 0 := by
  obtain ⟨z1, z2, z3⟩ := z_ok hL.v hL.n h0 h1
  cases hz : zR a L with
  | ok e r => rw [hz] at z1; exact z1
  | bad er n =>
    rw [hz] at z3
    rw [z3] at h
    exact absurd h (by simp [prNd])
  | out => rw [hz] at z1; exact z1
theorem way {q : Qry} (hA : rngX q.arg = true) (hW : rngX q.whr = true) : ∃ k, ptO q k = rb true := by
  by_cases hc : clkE q = 0
  · obtain ⟨ea, ew, hq, ht⟩ := Wr.wt_pcs hc hA hW
    have ok : Wr.okW q = true := by unfold Wr.okW; rw [decide_eq_true hc, hA, hW]; rfl
    by_cases hb : (400 : Int) < ((Wr.wtT q).length : Int)
    · refine ⟨.many, gr_ok fun _ => ?_⟩
      rw [ok, decide_eq_true hb]; rfl
    have hs : (pcsS (qF true q ea ew)).length ≤ 400 := by rw [← ht]; omega
    rcases Sq.few_lex true hq hs with ⟨hn, hl⟩ | ⟨_, hl⟩
    · obtain ⟨hL, pf⟩ := Sq.pf_of true hc hq hs hn
      have hA0 : At (lexL (pcsS (qF true q ea ew))) 0 (qF true q ea ew) := ⟨Int.le_refl _, 0, by rw [hL]; rfl⟩
      have hlen : 4 ≤ (lexL (pcsS (qF true q ea ew))).length := by rw [hL, pcsT_len]; exact qF_len true hq
      rw [← ht] at pf hA0 hlen
      obtain ⟨s, hsd⟩ : ∃ s, s = Wr.wtT q := ⟨_, rfl⟩
      rw [← hsd] at pf hA0 hlen hb
      obtain ⟨hT, hl2, hl3, hs4⟩ := lex_tk pf.lE
      obtain ⟨w1, w2⟩ := qF_one true hq hA0
      have hnn := hT.n
      have hgr : greatB 0 (lexL s) = false := not_great (fun t ht => by
        rw [hl2] at ht
        have := lx_pos s 0 0 t ht
        omega) 0 (by omega) (by omega)
      obtain ⟨e1, e2, e3⟩ := Sq.qz_inv pf.z
      have hW2 : allW (lexL s) (prQ s) = true := List.all_eq_true.2 fun i hi => by
        have hi := List.mem_range.1 hi
        unfold whG
        cases hk : (decide ((tkA (lexL s) i).kind = 2) && decide ((tkA (lexL s) i).text = wWhere)) with
        | false => rfl
        | true =>
          rw [cond_true]
          rw [Bool.and_eq_true] at hk
          have hwi : wOf (lexL s) i = true := by
            unfold wOf
            have k1 : ((lexL s).getD ((i : Int)).toNat default).kind = 2 := of_decide_eq_true hk.1
            have k2 : ((lexL s).getD ((i : Int)).toNat default).text = wWhere := of_decide_eq_true hk.2
            rw [k1, k2]; rfl
          obtain ⟨g1, g2⟩ := pf.w
          rcases g2 with ⟨g2, _⟩ | ⟨g2, b, hb0, g3, g4⟩
          · rw [w1 (by rw [g2]; rfl) i (by omega) (by omega)] at hwi; cases hwi
          · have lb := nxB_lt g3
            have hwb : wOf (lexL s) b = true := nx_wOf g3
            have hib : (i : Int) = b := w2 i b (by omega) (by omega) hb0 lb hwi hwb
            have hl5 := Sq.len_st g1
            have hx : 0 < (zX (lexL s) (b + 1)).length := by rw [← g4, hl5]; exact g2
            have hck : (zX (lexL s) (b + 1)).length ≤ 60 := by
              rw [← g4]
              exact (chk_len (Ck.clk_whr pf.v.ok (by rw [hl5]; exact g2))).2
            rw [hib, z_zero hT (by omega) (by omega) hx, ← g4, Tx.all2_self Tx.nod_self]
            rw [← g4] at hck
            rw [decide_eq_true (show (prQ s).whr.length ≤ 1000 by omega)]; rfl
      have hlp : lpO (lexL s) (prQ s) = rb true := by
        unfold lpO rS
        rw [hW2, hT.s, decide_eq_true (rfl : qTy = qTy), decide_eq_true (show (0 : Int) = 0 ∧ (lexL s).length ≤ 1000 from ⟨rfl, by omega⟩)]; rfl
      refine ⟨.good, gr_ok fun _ => ?_⟩
      rw [← hsd, ok, decide_eq_false hb, decide_eq_true pf.pE, decide_eq_true pf.lE, hgr, decide_eq_false (show ¬ ((lexL s).length : Int) < 4 by omega)]
      unfold agO
      rw [hlp]
      rcases pf.a with ⟨a1, _⟩ | ⟨a1, a2, a3⟩
      · rw [decide_eq_true a1]; rfl
      · have hcl := Ck.clk_arg (q := prQ s) pf.v.ok
        have hck : chkN (prQ s).arg = 0 := (clk_inv pf.v.ok).2.2.1 (by rw [e1]; exact a1)
        have hcq : chkN q.arg = 0 := (clk_inv hc).2.2.1 a1
        have hn60 := (chk_len hck).2
        obtain ⟨s1, s2⟩ := same_is e2 hck hcq
        rw [decide_eq_false a1, hT.s, a2, ← a3, decide_eq_true (show (prQ s).arg.length ≤ 1000 by omega), Tx.all2_self Tx.nod_self, s1, s2]; rfl
    · refine ⟨.many, gr_ok fun _ => ?_⟩
      rw [← ht] at hl
      have hp : prE (Wr.wtT q) = 4 := by unfold prE; rw [decide_eq_false (show ¬ lexE (Wr.wtT q) = 0 by rw [hl]; decide)]; exact hl
      rw [ok, decide_eq_false hb, hp, hl]; rfl
  · exact ⟨.many, gr_ok fun h => (hc h).elim⟩
def sPt (k : KP) : FSpec
  | [.agg [.int .u8 ag, .slw 0, .slw 1, .bool j, .slw 2, .int .u8 wk, .int .i64 ws, .int .i64 we, .bool bk, .int .u8 lt]], [⟨false, .nodes A⟩, ⟨false, .ints .i64 S⟩, ⟨false, .nodes W⟩] => optT (ptO ⟨ag, A, S, j, W, wk, ws, we, bk, lt⟩ k)
  | _, _ => .bad
def sParts (_ : Nat → Option Obj) : FSpec
  | [.agg [.int .u8 _, .slw 0, .slw 1, .bool _, .slw 2, .int .u8 _, .int .i64 _, .int .i64 _, .bool _, .int .u8 _]], [⟨false, .nodes A⟩, ⟨false, .ints .i64 _⟩, ⟨false, .nodes W⟩] => .node (rngX A && rngX W) (.leaf ⟨[.bool true], []⟩) .bad
  | _, _ => .bad
theorem sParts_sel {q : Qry} (hq : qryWf q) : (sParts B [q.av 0 1 2] [⟨false, .nodes q.arg⟩, ⟨false, .ints .i64 q.src⟩, ⟨false, .nodes q.whr⟩]).sel = some ⟨[.bool true], []⟩ := by
  show (bif rngX q.arg && rngX q.whr then _ else _) = _
  rw [rng_of hq.1, rng_of hq.2.1]; rfl
theorem okParts (hB : Laid B) : FnOk (E0 B) 6 (sParts B) := by
  refine Tx.fnOk_cases (fnAt_mk (fn := Tryz.f6) Tryz.func6 (by kernel_rfl) (by kernel_rfl)) (si := sPt) (fun k => ?_) fun vs bs r h => ?_
  · cases k with
    | many =>
      refine fnT (libP_ok hB .many) Tryz.func6 (by kernel_rfl) (by kernel_rfl) fun vs bs r h => ?_
      unfold sPt at h
      split at h
      · rename_i ag j wk ws we bk lt A S W
        rw [optT_sel] at h
        exact (tPartM ⟨ag, A, S, j, W, wk, ws, we, bk, lt⟩).trans h
      · simp [T.sel] at h
    | good =>
      refine fnL (libP_ok hB .good) (ls := [eP]) Tryz.func6 (by kernel_rfl) (by kernel_rfl) (fun x hx => ?_) fun vs bs r h => ?_
      · simp only [List.mem_singleton] at hx; subst hx
        exact ⟨bP, by kernel_rfl, rfl, loopP hB⟩
      unfold sPt at h
      split at h
      · rename_i ag j wk ws we bk lt A S W
        rw [optT_sel] at h
        exact (tPartG ⟨ag, A, S, j, W, wk, ws, we, bk, lt⟩).trans h
      · simp [T.sel] at h
  · unfold sParts at h
    split at h
    · rename_i ag j wk ws we bk lt A S W
      rcases T.node_sel h with ⟨hc, h2⟩ | ⟨_, h2⟩
      · simp only [T.sel, Option.some.injEq] at h2; subst h2
        rw [Bool.and_eq_true] at hc
        obtain ⟨k, hk⟩ := way (q := ⟨ag, A, S, j, W, wk, ws, we, bk, lt⟩) hc.1 hc.2
        refine ⟨k, ?_⟩
        show (optT _).sel = _
        rw [optT_sel]; exact hk
      · simp [T.sel] at h2
    · simp [T.sel] at h
end Go.Proofs.YtgpoaohglpecgaaGreatDoor.Pp
