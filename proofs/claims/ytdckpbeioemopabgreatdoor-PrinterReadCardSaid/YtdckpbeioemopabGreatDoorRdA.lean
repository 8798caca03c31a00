/-
  Texts put together: PrtRead, PrtRead2.
-/
import Derived.Test.YtdckpbeioemopabGreatDoorCmpA
import Derived.Test.YtdckpbeioemopabGreatDoorChtA
import Derived.Test.YtdckpbeioemopabGreatDoorLitP
import Derived.Test.YtdckpbeioemopabGreatDoorTxA
namespace Go.Proofs.YtdckpbeioemopabGreatDoor.Rd
open Go.Am Go Go.Proofs.YtdckpbeioemopabGreatDoor Go.Proofs.YtdckpbeioemopabGreatDoor.Pr
set_option maxRecDepth 100000
variable {B : Nat → Option Obj}
inductive KR where
  | full | typ | ok
def KR.k3 : KR → Tx.K3
  | .typ => .typ
  | _ => .ok
def okT (q : Qry) : Bool := decide (clkE q = 0) && (decide (pTe q = 0) && (rngX q.arg && rngX q.whr))
def erT (q : Qry) : Bool := decide (clkE q = 0) && (decide (pTe q = 18) && (rngX q.arg && rngX q.whr))
def sT3 : KR → FSpec
  | .full => fun vs bs => match vs, bs with
    | [.agg [.int .u8 ag, .slw 0, .slw 1, .bool j, .slw 2, .int .u8 wk, .int .i64 ws, .int .i64 we, .bool bk, .int .u8 lt]], [⟨false, .nodes A⟩, ⟨false, .ints .i64 S⟩, ⟨false, .nodes W⟩] => .node (erT ⟨ag, A, S, j, W, wk, ws, we, bk, lt⟩) (.leaf ⟨[.str [], .int .i64 18], []⟩) .bad
    | _, _ => .bad
  | _ => fun vs bs => match vs, bs with
    | [.agg [.int .u8 ag, .slw 0, .slw 1, .bool j, .slw 2, .int .u8 wk, .int .i64 ws, .int .i64 we, .bool bk, .int .u8 lt]], [⟨false, .nodes A⟩, ⟨false, .ints .i64 S⟩, ⟨false, .nodes W⟩] => .node (okT ⟨ag, A, S, j, W, wk, ws, we, bk, lt⟩) (.leaf ⟨[.str (pTx ⟨ag, A, S, j, W, wk, ws, we, bk, lt⟩), .int .i64 0], []⟩) .bad
    | _, _ => .bad
theorem okT_inv {q : Qry} (h : okT q = true) : clkE q = 0 ∧ pTe q = 0 ∧ rngX q.arg = true ∧ rngX q.whr = true := by
  unfold okT at h
  simp only [Bool.and_eq_true, decide_eq_true_eq] at h
  exact h
theorem erT_inv {q : Qry} (h : erT q = true) : clkE q = 0 ∧ pTe q = 18 ∧ rngX q.arg = true ∧ rngX q.whr = true := by
  unfold erT at h
  simp only [Bool.and_eq_true, decide_eq_true_eq] at h
  exact h
theorem pTx_er {q : Qry} (h : pTe q = 18) : pTx q = [] := by
  unfold pTe at h
  unfold pTx
  by_cases hc : clkE q = 0
  · rw [decide_eq_true hc] at h ⊢
    by_cases hl : lexE (tdT q) = 0
    · rw [decide_eq_true hl] at h; cases h
    · rw [decide_eq_false hl]; rfl
  · rw [decide_eq_false hc]; rfl
theorem tq_sel (q : Qry) (hA : rngX q.arg = true) (hW : rngX q.whr = true) {vs : List AV} {bs : List Blk} (hv : vs = [q.av 0 1 2]) (hb : bs = [⟨false, .nodes q.arg⟩, ⟨false, .ints .i64 q.src⟩, ⟨false, .nodes q.whr⟩]) : (sTq vs bs).sel = some ⟨[.str (pTx q), .int .i64 (pTe q)], []⟩ := by
  subst hv hb
  show (bif rngX q.arg && rngX q.whr then _ else _) = _
  rw [hA, hW]; rfl
theorem okT3 (hB : Laid B) (k : KR) : FnOk (E0 B) 10 (sT3 k) := by
  refine fnOk_weak (okTq hB) fun vs bs r h => ?_
  have ok : ∀ {q : Qry} {vs : List AV} {bs : List Blk}, vs = [q.av 0 1 2] → bs = [⟨false, .nodes q.arg⟩, ⟨false, .ints .i64 q.src⟩, ⟨false, .nodes q.whr⟩] → (T.node (okT q) (.leaf ⟨[.str (pTx q), .int .i64 0], []⟩) (.bad : T Out)).sel = some r → (sTq vs bs).sel = some r := fun {q vs bs} hv hb h => by
    rcases T.node_sel h with ⟨hc, h2⟩ | ⟨_, h2⟩
    · simp only [T.sel, Option.some.injEq] at h2; subst h2
      obtain ⟨c1, c2, c3, c4⟩ := okT_inv hc
      rw [tq_sel q c3 c4 hv hb, c2]
    · simp [T.sel] at h2
  cases k with
  | full =>
    simp only [sT3] at h
    split at h
    · rename_i ag j wk ws we bk lt A S W
      rcases T.node_sel h with ⟨hc, h2⟩ | ⟨_, h2⟩
      · simp only [T.sel, Option.some.injEq] at h2; subst h2
        obtain ⟨c1, c2, c3, c4⟩ := erT_inv hc
        exact (tq_sel ⟨ag, A, S, j, W, wk, ws, we, bk, lt⟩ c3 c4 rfl rfl).trans (by rw [c2, pTx_er c2])
      · simp [T.sel] at h2
    · simp [T.sel] at h
  | typ =>
    simp only [sT3] at h
    split at h
    · rename_i ag j wk ws we bk lt A S W
      exact ok (q := ⟨ag, A, S, j, W, wk, ws, we, bk, lt⟩) rfl rfl h
    · simp [T.sel] at h
  | ok =>
    simp only [sT3] at h
    split at h
    · rename_i ag j wk ws we bk lt A S W
      exact ok (q := ⟨ag, A, S, j, W, wk, ws, we, bk, lt⟩) rfl rfl h
    · simp [T.sel] at h
noncomputable def libR (k : KR) : Tb := (9, [], sTrueF) :: (10, [], sT3 k) :: (12, [], Sq.sSameC) :: (11, [], Tx.sP3 .ok) :: (13, [], Tx.sC3 k.k3) :: Ck.lb6
theorem libR_ok (hB : Laid B) (k : KR) : TbOk B (libR k) := ((((Ck.lb6_ok.add (Tx.okC3 k.k3)).add (Tx.okP3 hB .ok)).add Sq.okSameC).add (okT3 hB k)).add (okAl11 hB)
def grQ (q : Qry) (z : Option Out) : Option Out := bif decide ((70 : Int) < (q.arg.length : Int)) then rb true else bif decide ((70 : Int) < (q.whr.length : Int)) then rb true else bif decide ((10 : Int) < (q.src.length : Int)) then rb true else bif !decide (clkE q = 0) then rb true else z
def smO (q : Qry) (s : List UInt8) (z : Option Out) : Option Out := rS (decide (prE s = 0)) (rS (Sq.okC (prQ s) && Sq.okC q) (bif !decide ((s.length : Int) = (s.length : Int)) then rb false else bif !alkB (prQ s) q then rb false else z))
def rdO (q : Qry) : KR → Option Out
  | .full => grQ q (rS (erT q) (rb true))
  | .typ => grQ q (rS (okT q) (smO q (pTx q) (rS (okT (prQ (pTx q))) (rS (Tx.ckT q) (rS (decide (prE (pTx q) = 0)) (rS (Tx.ckT (prQ (pTx q))) (fbQ (decide (pTx (prQ (pTx q)) = pTx q)) (rb true))))))))
  | .ok => grQ q (rS (okT q) (smO q (pTx q) (rS (okT (prQ (pTx q))) (rS (Tx.ckO q) (rS (decide (prE (pTx q) = 0)) (rS (Tx.ckO (prQ (pTx q))) (fbQ (decide (pTx (prQ (pTx q)) = pTx q)) (Tx.eqlO (prQ (pTx q)) (prQ (pTx q)) (rb true)))))))))
theorem tRead (q : Qry) (k : KR) : runT B (libR k) Tryz.f3 [q.av 0 1 2] (Ck.qbs q) = rdO q k := by
  cases k <;> kernel_rfl
end Go.Proofs.YtdckpbeioemopabGreatDoor.Rd
namespace Go.Proofs.YtdckpbeioemopabGreatDoor.Rd
open Go.Am Go Go.Proofs.YtdckpbeioemopabGreatDoor Go.Proofs.YtdckpbeioemopabGreatDoor.Pr
set_option maxRecDepth 100000
variable {B : Nat → Option Obj}
theorem pT_of {q : Qry} (hc : clkE q = 0) : (lexE (tdT q) = 0 ∧ pTe q = 0 ∧ pTx q = tdT q) ∨ pTe q = 18 := by
  unfold pTe pTx
  rw [decide_eq_true hc]
  by_cases hl : lexE (tdT q) = 0
  · rw [decide_eq_true hl]; exact .inl ⟨hl, rfl, rfl⟩
  · rw [decide_eq_false hl]; exact .inr rfl
theorem td_same {p q : Qry} {ea ew : Ex} (hq : QX q ea ew) (htq : tdT q = pcsS (qPcs q ea ew)) (hp : clkE p = 0) (pA : rngX p.arg = true) (pW : rngX p.whr = true) (h : alkB p q = true) : tdT p = tdT q := by
  obtain ⟨fa, fw, g1, g2, g3⟩ := Sq.qx_of hp pA pW
  rw [Sq.td_is g1 g2 g3, htq, qPcs_alike ((alkB_is g1 hq).1 h)]
theorem way {q : Qry} (hA : rngX q.arg = true) (hW : rngX q.whr = true) : ∃ k, rdO q k = rb true := by
  have gr : ∀ z, (clkE q = 0 → z = rb true) → grQ q z = rb true := fun z hz => by
    unfold grQ
    by_cases hc : clkE q = 0
    · rw [hz hc]
      cases decide ((70 : Int) < (q.arg.length : Int)) <;> cases decide ((70 : Int) < (q.whr.length : Int)) <;> cases decide ((10 : Int) < (q.src.length : Int)) <;> cases decide (clkE q = 0) <;> rfl
    · rw [decide_eq_false hc]
      cases decide ((70 : Int) < (q.arg.length : Int)) <;> cases decide ((70 : Int) < (q.whr.length : Int)) <;> cases decide ((10 : Int) < (q.src.length : Int)) <;> rfl
  by_cases hc : clkE q = 0
  · obtain ⟨ea, ew, h1, h2, h3⟩ := Sq.qx_of hc hA hW
    have ht := Sq.td_is h1 h2 h3
    rcases pT_of hc with ⟨hl, he, hx⟩ | he
    · have hl' := hl
      rw [ht] at hl'
      have hn := Sq.few_of h1 hl'
      have hs := (lex_tk hl').2.2.2
      obtain ⟨_, pf⟩ := Sq.pf_of false hc h1 (by rw [qF_few]; exact hs) (by rw [qF_few]; exact hn)
      rw [qF_few, ← ht, ← hx] at pf
      obtain ⟨e1, e2, e3⟩ := Sq.qz_inv pf.z
      have hcp := pf.v.ok
      have pA : rngX (prQ (pTx q)).arg = true := by rw [← Sq.rng_st, e2, Sq.rng_st]; exact hA
      have pW : rngX (prQ (pTx q)).whr = true := by rw [← Sq.rng_st, e3, Sq.rng_st]; exact hW
      have hal := alk_z pf.z
      have htp := td_same h1 ht hcp pA pW hal
      have hpe : pTe (prQ (pTx q)) = 0 ∧ pTx (prQ (pTx q)) = pTx q := by
        rcases pT_of hcp with ⟨g1, g2, g3⟩ | g
        · exact ⟨g2, by rw [g3, htp, hx]⟩
        · exfalso
          unfold pTe at g
          rw [decide_eq_true hcp, htp, decide_eq_true hl] at g
          cases g
      have hck := Sq.ck_same pf.z hcp hc
      have o1 : okT q = true := by unfold okT; rw [decide_eq_true hc, decide_eq_true he, hA, hW]; rfl
      have o2 : okT (prQ (pTx q)) = true := by unfold okT; rw [decide_eq_true hcp, decide_eq_true hpe.1, pA, pW]; rfl
      have o3 : (Sq.okC (prQ (pTx q)) && Sq.okC q) = true := by unfold Sq.okC; rw [decide_eq_true hcp, decide_eq_true hc]; rfl
      have sm : ∀ z, smO q (pTx q) z = z := fun z => by
        unfold smO rS
        rw [decide_eq_true pf.pE, o3, hal, decide_eq_true (rfl : ((pTx q).length : Int) = ((pTx q).length : Int))]; rfl
      obtain ⟨l1, l2, l3⟩ := Tx.qv_len pf.v
      rcases Tx.chk_cases hc with h | ⟨h, _⟩
      · have hp : ckE (prQ (pTx q)) = (0, 0) := by
          rcases Tx.chk_cases hcp with g | ⟨g, _⟩
          · exact g
          · rw [hck, h] at g; cases g
        refine ⟨.ok, gr _ fun _ => ?_⟩
        rw [sm, o1, o2, decide_eq_true pf.pE, show Tx.ckO q = true by unfold Tx.ckO; rw [h]; rfl, show Tx.ckO (prQ (pTx q)) = true by unfold Tx.ckO; rw [hp]; rfl, decide_eq_true hpe.2, Tx.eql_self (by omega) (by omega) (by omega)]; rfl
      · refine ⟨.typ, gr _ fun _ => ?_⟩
        rw [sm, o1, o2, decide_eq_true pf.pE, show Tx.ckT q = true by unfold Tx.ckT; rw [h]; rfl, show Tx.ckT (prQ (pTx q)) = true by unfold Tx.ckT; rw [hck, h]; rfl, decide_eq_true hpe.2]; rfl
    · refine ⟨.full, gr _ fun _ => ?_⟩
      rw [show erT q = true by unfold erT; rw [decide_eq_true hc, decide_eq_true he, hA, hW]; rfl]; rfl
  · exact ⟨.full, gr _ fun h => (hc h).elim⟩
def sRd (k : KR) : FSpec
  | [.agg [.int .u8 ag, .slw 0, .slw 1, .bool j, .slw 2, .int .u8 wk, .int .i64 ws, .int .i64 we, .bool bk, .int .u8 lt]], [⟨false, .nodes A⟩, ⟨false, .ints .i64 S⟩, ⟨false, .nodes W⟩] => optT (rdO ⟨ag, A, S, j, W, wk, ws, we, bk, lt⟩ k)
  | _, _ => .bad
def sRead (_ : Nat → Option Obj) : FSpec
  | [.agg [.int .u8 _, .slw 0, .slw 1, .bool _, .slw 2, .int .u8 _, .int .i64 _, .int .i64 _, .bool _, .int .u8 _]], [⟨false, .nodes A⟩, ⟨false, .ints .i64 _⟩, ⟨false, .nodes W⟩] => .node (rngX A && rngX W) (.leaf ⟨[.bool true], []⟩) .bad
  | _, _ => .bad
theorem sRead_sel {q : Qry} (hq : qryWf q) : (sRead B [q.av 0 1 2] [⟨false, .nodes q.arg⟩, ⟨false, .ints .i64 q.src⟩, ⟨false, .nodes q.whr⟩]).sel = some ⟨[.bool true], []⟩ := by
  show (bif rngX q.arg && rngX q.whr then _ else _) = _
  rw [rng_of hq.1, rng_of hq.2.1]; rfl
theorem okRead (hB : Laid B) : FnOk (E0 B) 3 (sRead B) := by
  refine Tx.fnOk_cases (fnAt_mk (fn := Tryz.f3) Tryz.func3 (by kernel_rfl) (by kernel_rfl)) (si := sRd) (fun k => ?_) fun vs bs r h => ?_
  · refine fnT (libR_ok hB k) Tryz.func3 (by kernel_rfl) (by kernel_rfl) fun vs bs r h => ?_
    unfold sRd at h
    split at h
    · rename_i ag j wk ws we bk lt A S W
      rw [optT_sel] at h
      exact (tRead ⟨ag, A, S, j, W, wk, ws, we, bk, lt⟩ k).trans h
    · simp [T.sel] at h
  · unfold sRead at h
    split at h
    · rename_i ag j wk ws we bk lt A S W
      rcases T.node_sel h with ⟨hc, h2⟩ | ⟨_, h2⟩
      · simp only [T.sel, Option.some.injEq] at h2; subst h2
        rw [Bool.and_eq_true] at hc
        obtain ⟨k, hk⟩ := way (q := ⟨ag, A, S, j, W, wk, ws, we, bk, lt⟩) hc.1 hc.2
        refine ⟨k, ?_⟩
        show (optT _).sel = _
        rw [optT_sel]; exact hk
      · simp [T.sel] at h2
    · simp [T.sel] at h
end Go.Proofs.YtdckpbeioemopabGreatDoor.Rd
