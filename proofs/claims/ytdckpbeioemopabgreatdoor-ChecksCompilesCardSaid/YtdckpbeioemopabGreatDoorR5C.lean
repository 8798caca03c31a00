/-
  Texts put together: R5Lv2, R5Lp, R5Ps.
-/
import Derived.Test.YtdckpbeioemopabGreatDoorR5B
import Derived.Test.YtdckpbeioemopabGreatDoorLawA
namespace Go.Proofs.YtdckpbeioemopabGreatDoor.R5
open Go.Am Go Go.Proofs.YtdckpbeioemopabGreatDoor
set_option maxRecDepth 100000
variable {B : Nat → Option Obj}
def lvS (n : Int) : Int := bif decide (n = 0) then 1 else bif decide (n = 1) then 2 else n
def lvFm (n : Int) : Int := bif decide (n = 0) then 19 else bif decide (n = 1) then 18 else bif decide (n = 3) then 12 else bif decide (n = 4) then 10 else bif decide (n = 5) then 8 else 7
def lvTo (n : Int) : Int := bif decide (n = 0) then 19 else bif decide (n = 1) then 18 else bif decide (n = 3) then 17 else bif decide (n = 4) then 11 else bif decide (n = 5) then 9 else 7
def lvT (o : Nat) (n : Int) : Bool := decide (((lvFm n ≤ (o : Int)) ∧ (o : Int) ≤ lvTo n) ↔ ((bnd o : Nat) : Int) = lvS n)
theorem lv_tab : ∀ o : Fin 20, 7 ≤ o.val → (lvT o.val 0 && (lvT o.val 1 && (lvT o.val 3 && (lvT o.val 4 && (lvT o.val 5 && lvT o.val 6))))) = true := by decide +kernel
theorem lvA_is {n : Int} (h : lvA n = true) : n = 0 ∨ n = 1 ∨ n = 3 ∨ n = 4 ∨ n = 5 ∨ n = 6 := by
  have := of_decide_eq_true h
  omega
theorem lv_bnd {n : Int} (hn : lvA n = true) {o : Int} (h7 : 7 ≤ o) (h19 : o ≤ 19) : (lvFm n ≤ o ∧ o ≤ lvTo n) ↔ ((bnd o : Nat) : Int) = lvS n := by
  obtain ⟨m, rfl⟩ : ∃ m : Nat, o = (m : Int) := ⟨o.toNat, by omega⟩
  have := lv_tab ⟨m, by omega⟩ (by simp only; omega)
  simp only [Bool.and_eq_true] at this
  obtain ⟨t0, t1, t3, t4, t5, t6⟩ := this
  rcases lvA_is hn with rfl | rfl | rfl | rfl | rfl | rfl
  · exact of_decide_eq_true t0
  · exact of_decide_eq_true t1
  · exact of_decide_eq_true t3
  · exact of_decide_eq_true t4
  · exact of_decide_eq_true t5
  · exact of_decide_eq_true t6
theorem lvS_rng {n : Int} (hn : lvA n = true) : 1 ≤ lvS n ∧ lvS n ≤ 6 := by
  rcases lvA_is hn with rfl | rfl | rfl | rfl | rfl | rfl <;> decide
theorem lvS_3 {n : Int} (hn : lvA n = true) : decide (lvS n = 3) = decide (n = 3) := by
  rcases lvA_is hn with rfl | rfl | rfl | rfl | rfl | rfl <;> decide
theorem lvF_next {n : Int} (hn : lvA n = true) : lvF (n + 1) = true ∧ Rng (n + 1) := by
  rcases lvA_is hn with rfl | rfl | rfl | rfl | rfl | rfl <;> exact ⟨by decide, by unfold Rng; omega⟩
theorem lvP_next {n : Int} (hn : lvA n = true) (k : Nat) (r : List Tok) : lvP k (n + 1) r = pOp (pE k) (lvS n).toNat r := by
  rcases lvA_is hn with rfl | rfl | rfl | rfl | rfl | rfl <;> rfl
theorem lvP_is {n : Int} (hn : lvA n = true) (k : Nat) (r : List Tok) : lvP k n r = pE k (lvS n).toNat r := by
  rcases lvA_is hn with rfl | rfl | rfl | rfl | rfl | rfl <;> rfl
theorem kd_go {n : Int} (hn : lvA n = true) {L : List Tok} {at' : Int} (h0 : 0 ≤ at') (X : List Nod) :
    decide (binK (txP L at' 0) (lvFm n) (lvTo n) = 0) = !goB L (lvS n) ⟨at', 0, X⟩ ∧ (goB L (lvS n) ⟨at', 0, X⟩ = true → binK (txP L at' 0) (lvFm n) (lvTo n) = opK (tokA L at').text) := by
  unfold goB
  rw [decide_eq_true (rfl : (0 : Int) = 0), Bool.true_and]
  by_cases hl : at' < (L.length : Int)
  · rw [decide_eq_true hl, Bool.true_and]
    obtain ⟨a, rfl⟩ : ∃ a : Nat, at' = (a : Int) := ⟨at'.toNat, by omega⟩
    obtain ⟨t, q, hd⟩ : ∃ t q, L.drop a = t :: q := ⟨_, _, List.drop_eq_getElem_cons (show a < L.length by omega)⟩
    rw [tokA_is hd, tx_cons hd]
    unfold Tok.op
    by_cases hk : t.kind = 1
    · rw [decide_eq_true hk, cond_true, Bool.not_true, Bool.false_and, Bool.false_and]
      have h48 : binK [48] (lvFm n) (lvTo n) = 0 := by
        unfold binK
        rw [show opK [48] = 0 from rfl]
        simp
      rw [h48]
      exact ⟨rfl, fun h => by cases h⟩
    · rw [decide_eq_false hk, cond_false, Bool.not_false, Bool.true_and]
      by_cases ho : opK t.text = 0
      · have : binK t.text (lvFm n) (lvTo n) = 0 := by unfold binK; rw [ho]; simp
        rw [this, ho]
        exact ⟨rfl, fun h => by simp at h⟩
      · obtain ⟨o7, o19⟩ := opK_rng ho
        have hb := lv_bnd hn o7 o19
        rw [decide_eq_false ho, Bool.not_false, Bool.true_and]
        unfold binK
        rw [decide_eq_false ho, Bool.not_false, Bool.and_true]
        by_cases hc : ((bnd (opK t.text) : Nat) : Int) = lvS n
        · obtain ⟨c1, c2⟩ := hb.2 hc
          rw [decide_eq_true c1, decide_eq_true c2, decide_eq_true hc]
          exact ⟨decide_eq_false ho, fun _ => rfl⟩
        · rw [decide_eq_false hc]
          have : (decide (lvFm n ≤ opK t.text) && decide (opK t.text ≤ lvTo n)) = false := by
            cases hx : (decide (lvFm n ≤ opK t.text) && decide (opK t.text ≤ lvTo n)) with
            | false => rfl
            | true =>
              rw [Bool.and_eq_true] at hx
              exact absurd (hb.1 ⟨of_decide_eq_true hx.1, of_decide_eq_true hx.2⟩) hc
          rw [this]
          exact ⟨rfl, fun h => by cases h⟩
  · rw [decide_eq_false hl, Bool.false_and]
    have : txP L at' 0 = [] := by
      unfold txP
      rw [decide_eq_true (show (L.length : Int) ≤ at' by omega)]; rfl
    rw [this]
    have hb : binK [] (lvFm n) (lvTo n) = 0 := by
      unfold binK
      rw [show opK [] = 0 from rfl]
      simp
    rw [hb]
    exact ⟨rfl, fun h => by cases h⟩
def rLoop (k : Nat) (s : Int) (L : List Tok) : Nat → PSt → Option (Bool × PSt)
  | 0, _ => none
  | m + 1, st => bif !decide (st.e = 0) then some (false, st) else bif goB L s st then (bif prIn (opX k s L st) then (bif decide (s = 3) then some (true, stepE k s L st) else rLoop k s L m (stepE k s L st)) else none) else some (true, st)
theorem rLoop_e (k : Nat) (s : Int) (L : List Tok) : ∀ (m : Nat) (st : PSt), (rLoop k s L m st).map Prod.snd = eLoop k s L m st
  | 0, _ => rfl
  | m + 1, st => by
    unfold rLoop eLoop
    by_cases he : st.e = 0
    · rw [decide_eq_true he, Bool.not_true, cond_false]
      cases goB L s st with
      | false => rfl
      | true =>
        cases prIn (opX k s L st) with
        | false => rfl
        | true =>
          cases decide (s = 3) with
          | true => rfl
          | false => exact rLoop_e k s L m _
    · have : goB L s st = false := by
        unfold goB
        rw [decide_eq_false he, Bool.false_and]
      rw [decide_eq_false he, this]; rfl
theorem rLoop_f (k : Nat) (s : Int) (L : List Tok) : ∀ (m : Nat) (st st' : PSt), rLoop k s L m st = some (false, st') → st'.e ≠ 0
  | 0, _, _, h => by cases h
  | m + 1, st, st', h => by
    unfold rLoop at h
    by_cases he : st.e = 0
    · rw [decide_eq_true he, Bool.not_true, cond_false] at h
      cases hg : goB L s st with
      | false => rw [hg] at h; cases h
      | true =>
        rw [hg, cond_true] at h
        cases hp : prIn (opX k s L st) with
        | false => rw [hp] at h; cases h
        | true =>
          rw [hp, cond_true] at h
          cases h3 : decide (s = 3) with
          | true => rw [h3] at h; cases h
          | false => rw [h3] at h; exact rLoop_f k s L m _ st' h
    · rw [decide_eq_false he] at h
      simp only [Bool.not_false, cond_true, Option.some.injEq, Prod.mk.injEq, true_and] at h
      rw [← h]; exact he
theorem ndV_ok {k : Nat} {n : Int} {r : List Tok} {e : Ex} {r' : List Tok} (h : lvP k n r = .ok e r') : ndV k n r = e.flat 0 := by
  unfold ndV
  by_cases h7 : n = 7
  · subst h7
    have h : pOp (pE k) 6 r = .ok e r' := h
    rw [decide_eq_true rfl, cond_true]
    unfold ndF
    rw [show decide (([45] : List UInt8) = notT) = false from rfl, cond_false]
    by_cases hs : sgnN [45] r = 0
    · have h0 : pOp (pE k) 6 r = pPrim (pE k) r := (pOp_6 (pE k) r).trans (un_no 5 [45] r hs (fun r => pPrim (pE k) r))
      rw [decide_eq_true hs, cond_true]
      exact nd8_ok (h0.symm.trans h)
    · rw [decide_eq_false hs, h]; rfl
  · rw [decide_eq_false h7, cond_false]
    by_cases h8 : n = 8
    · subst h8
      rw [decide_eq_true rfl, cond_true]
      exact nd8_ok (show pPrim (pE k) r = .ok e r' from h)
    · rw [decide_eq_false h8, h]; rfl
theorem turnsL {k : Nat} {n : Int} (hn : lvA n = true) {L : List Tok} (ht : L.all okTk = true) (hv : L.all okV = true) (hL : L.length ≤ 200) : ∀ (m : Nat) (st : PSt) (b : Bool) (st' : PSt), PInv L st → rLoop k (lvS n) L m st = some (b, st') →
    ∃ j, (turns (E0 B) (Cx B (libLv k)) noL 79 sgLv bLv j (vLv n (lvFm n) (lvTo n)) (bsLv L st.at' st.e st.X)).sel = bif b then rtL L st'.at' st'.e st'.X else exL' L st'.at' st'.e
  | 0, _, _, _, _, h => by cases h
  | m + 1, st, b, st', hi, h => by
    unfold rLoop at h
    by_cases he : st.e = 0
    · rw [decide_eq_true he, Bool.not_true, cond_false] at h
      obtain ⟨a0, a1, hX⟩ := hi.h he
      obtain ⟨at', e, X⟩ := st
      simp only at he a0 a1 hX h
      subst he
      obtain ⟨k1, k2⟩ := kd_go hn (L := L) a0 X
      have htu := turnLv (B := B) k n (lvFm n) (lvTo n) L at' X
      unfold tuL gY at htu
      rw [decide_eq_true a0, cond_true, k1] at htu
      cases hg : goB L (lvS n) ⟨at', 0, X⟩ with
      | false =>
        rw [hg] at h htu
        simp only [cond_false, Option.some.injEq, Prod.mk.injEq] at h
        obtain ⟨rfl, rfl⟩ := h
        exact ⟨1, turns_done htu (by simp)⟩
      | true =>
        rw [hg, cond_true] at h
        rw [hg, Bool.not_true, cond_false, k2 hg] at htu
        cases hx : prIn (opX k (lvS n) L ⟨at', 0, X⟩) with
        | false => rw [hx] at h; cases h
        | true =>
          rw [hx, cond_true] at h
          obtain ⟨s1, s6⟩ := lvS_rng hn
          obtain ⟨s, hs⟩ : ∃ s : Nat, lvS n = (s : Int) := ⟨(lvS n).toNat, by omega⟩
          have hgo := hg
          unfold goB at hgo
          simp only [Bool.and_eq_true, decide_eq_true_eq] at hgo
          obtain ⟨_, hl, hop, _⟩ := hgo
          obtain ⟨a, rfl⟩ : ∃ a : Nat, at' = (a : Int) := ⟨at'.toNat, by omega⟩
          obtain ⟨t, q, hd⟩ : ∃ t q, L.drop a = t :: q := ⟨_, _, List.drop_eq_getElem_cons (show a < L.length by omega)⟩
          obtain ⟨p1, p2, p3, p4⟩ := tkP_is hd
          have hp := of_decide_eq_true (List.all_eq_true.1 ht t p4)
          have hinv : PInv L (stepE k (lvS n) L ⟨(a : Int), 0, X⟩) := by
            rw [hs] at hg hx ⊢
            exact (tuE_go (k := k) (s := s) (by omega) (by omega) ht hL hi hg hx).2
          have ho : opK (tokA L (a : Int)).text ≠ 0 := by
            intro h0
            unfold Tok.op at hop
            rw [h0] at hop
            simp at hop
          obtain ⟨r1, r2⟩ := opK_rng ho
          obtain ⟨hf1, hf2⟩ := lvF_next hn
          have hw : w64 ((a : Int) + 1) = ((a + 1 : Nat) : Int) := by rw [w64_rng (show Rng ((a : Int) + 1) by unfold Rng; omega)]; omega
          have hox : opX k (lvS n) L ⟨(a : Int), 0, X⟩ = lvP k (n + 1) (L.drop (a + 1)) := by
            rw [lvP_next hn]
            unfold opX
            rw [show ((a : Int) + 1).toNat = a + 1 by omega]
          have hgood : goodR (lvP k (n + 1) (L.drop (a + 1))) := by
            rw [hox] at hx
            rw [lvP_next hn] at hx ⊢
            exact op_good (all_drop ht _) (by omega) (by omega) hx
          unfold goL gY at htu
          rw [w64_rng hf2, hw, hf1, okQ_of ht hv hL (by omega), Int.toNat_natCast, ← hox, hx] at htu
          simp only [Bool.and_self, cond_true] at htu
          unfold bndL gY at htu
          have hY : prEr (opX k (lvS n) L ⟨(a : Int), 0, X⟩) = 0 → ndV k (n + 1) (L.drop (a + 1)) = prNd (opX k (lvS n) L ⟨(a : Int), 0, X⟩) := fun h0 => by
            rw [hox] at h0 ⊢
            cases hc : lvP k (n + 1) (L.drop (a + 1)) with
            | out => rw [hc] at hgood; exact hgood.elim
            | bad er m => rw [hc] at hgood h0; exact (hgood h0).elim
            | ok e r => rw [ndV_ok hc]; rfl
          have hfit : prEr (opX k (lvS n) L ⟨(a : Int), 0, X⟩) = 0 → chkN (prNd (opX k (lvS n) L ⟨(a : Int), 0, X⟩)) = 0 := by
            rw [hox]
            exact good_fit (L := L) hgood
          have hstep : ∀ (F : Int → Int → List Nod → Option (AExit × Out)), (bif (!decide (prEr (opX k (lvS n) L ⟨(a : Int), 0, X⟩) = 0) || (decide (0 ≤ (a : Int) ∧ (a : Int) < (L.length : Int)) && (decide (7 ≤ opK (tokA L (a : Int)).text ∧ opK (tokA L (a : Int)).text ≤ 19 ∧ 0 ≤ tkP L (a : Int) ∧ tkP L (a : Int) ≤ 400) && (decide (chkN X = 0) && decide (chkN (ndV k (n + 1) (L.drop (a + 1))) = 0))))) then
              F (mkA (prEr (opX k (lvS n) L ⟨(a : Int), 0, X⟩)) (prAt L (opX k (lvS n) L ⟨(a : Int), 0, X⟩)) (a : Int) (biL (opK (tokA L (a : Int)).text) (tkP L (a : Int)) X (ndV k (n + 1) (L.drop (a + 1))))) (mkE (prEr (opX k (lvS n) L ⟨(a : Int), 0, X⟩)) (biL (opK (tokA L (a : Int)).text) (tkP L (a : Int)) X (ndV k (n + 1) (L.drop (a + 1)))))
                (mkX (decide (prEr (opX k (lvS n) L ⟨(a : Int), 0, X⟩) = 0) && decide (chkN (biL (opK (tokA L (a : Int)).text) (tkP L (a : Int)) X (ndV k (n + 1) (L.drop (a + 1)))) = 0)) (biL (opK (tokA L (a : Int)).text) (tkP L (a : Int)) X (ndV k (n + 1) (L.drop (a + 1))))) else none) =
              F (stepE k (lvS n) L ⟨(a : Int), 0, X⟩).at' (stepE k (lvS n) L ⟨(a : Int), 0, X⟩).e (stepE k (lvS n) L ⟨(a : Int), 0, X⟩).X := fun F => by
            unfold stepE binS
            simp only
            by_cases h0 : prEr (opX k (lvS n) L ⟨(a : Int), 0, X⟩) = 0
            · rw [hY h0, decide_eq_true h0, decide_eq_true (show 0 ≤ (a : Int) ∧ (a : Int) < (L.length : Int) by omega), p1, decide_eq_true (show 7 ≤ opK (tokA L (a : Int)).text ∧ opK (tokA L (a : Int)).text ≤ 19 ∧ 0 ≤ t.pos ∧ t.pos ≤ 400 from ⟨r1, r2, hp.1, hp.2.1⟩), decide_eq_true hX, decide_eq_true (hfit h0)]
              rfl
            · unfold mkA mkE mkX
              rw [decide_eq_false h0]; rfl
          by_cases h3 : n = 3
          · rw [show decide (lvS n = 3) = true by rw [lvS_3 hn, decide_eq_true h3], cond_true] at h
            rw [decide_eq_true h3] at htu
            simp only [cond_true] at htu
            rw [hstep fun x y z => rtL L x y z] at htu
            simp only [Option.some.injEq, Prod.mk.injEq] at h
            obtain ⟨rfl, rfl⟩ := h
            exact ⟨1, turns_done htu (by simp)⟩
          · rw [show decide (lvS n = 3) = false by rw [lvS_3 hn, decide_eq_false h3], cond_false] at h
            rw [decide_eq_false h3] at htu
            simp only [cond_false] at htu
            rw [hstep fun x y z => nmL n (lvFm n) (lvTo n) L x y z] at htu
            obtain ⟨j, hj⟩ := turnsL hn ht hv hL m _ b st' hinv h
            exact ⟨j + 1, (turns_more' htu).trans hj⟩
    · rw [decide_eq_false he] at h
      simp only [Bool.not_false, cond_true, Option.some.injEq, Prod.mk.injEq] at h
      obtain ⟨rfl, rfl⟩ := h
      exact ⟨1, turns_done (turnL1 k n (lvFm n) (lvTo n) L st.at' st.e he st.X) (by simp)⟩
end Go.Proofs.YtdckpbeioemopabGreatDoor.R5
namespace Go.Proofs.YtdckpbeioemopabGreatDoor.R5
open Go.Am Go Go.Proofs.YtdckpbeioemopabGreatDoor
set_option maxRecDepth 100000
variable {B : Nat → Option Obj}
def stR (r : Option (Bool × PSt)) : PSt := (r.getD (false, ⟨0, 0, []⟩)).2
def bR (r : Option (Bool × PSt)) : Bool := (r.getD (false, ⟨0, 0, []⟩)).1
def lpG (n f t : Int) (L : List Tok) (at' e : Int) (X : List Nod) : Bool := lvA n && (decide (f = lvFm n ∧ t = lvTo n) && (decide (L.length ≤ 200) && (L.all okTk && (L.all okV && (!decide (e = 0) || (decide (0 ≤ at' ∧ at' ≤ (L.length : Int)) && decide (chkN X = 0)))))))
def lpR (k : Nat) (n : Int) (L : List Tok) (at' e : Int) (X : List Nod) : Option (Bool × PSt) := rLoop k (lvS n) L (L.length + 2) ⟨at', e, X⟩
def spLv (k : Nat) : LSpec
  | [.ptr 0 0 0, .int .i64 n, .int .u8 f, .int .u8 t, .slw 1], [⟨true, .gen [a, b, c] [[.slw 2, .int .i64 at', .int .i64 e]]⟩, ⟨true, .nodes X⟩, ⟨false, .toks L⟩] =>
    .node (tysQ a b c && lpG n f t L at' e X) (.node (lpR k n L at' e X).isSome (.node (bR (lpR k n L at' e X))
      (.leaf (.ret, ⟨[.slw 1], [qB 2 (stR (lpR k n L at' e X)).at' (stR (lpR k n L at' e X)).e, ob (stR (lpR k n L at' e X)).X, tkb L]⟩))
      (.leaf (.exit 1, ⟨[.any], [qB 1 (stR (lpR k n L at' e X)).at' (stR (lpR k n L at' e X)).e, tkb L]⟩))) .bad) .bad
  | _, _ => .bad
theorem libLv_ok {k : Nat} (hA : FnOk (E0 B) 176 (sLa k)) : TbOk B (libLv k) := libT_ok.add (okLv hA)
theorem loopLv {k : Nat} (hA : FnOk (E0 B) 176 (sLa k)) : LoopOk (E0 B) 79 sgLv bLv (spLv k) := by
  refine loop_turns (C := Cx B (libLv k)) (L := noL) (cxOk (libLv_ok hA)) (noL_ok _) fun vs bs e o h => ?_
  unfold spLv at h
  split at h
  · rename_i n f t a b c at' er X L
    rcases T.node_sel h with ⟨hc, h2⟩ | ⟨_, h2⟩
    · unfold lpG at hc
      simp only [Bool.and_eq_true] at hc
      obtain ⟨c1, c2, c3, c4, c5, c6, c7⟩ := hc
      obtain ⟨rfl, rfl, rfl⟩ := tysQ_is c1
      obtain ⟨rfl, rfl⟩ := of_decide_eq_true c3
      have c4 := of_decide_eq_true c4
      have hinv : PInv L ⟨at', er, X⟩ := ⟨fun h0 => by
        have h0 : er = 0 := h0
        rw [decide_eq_true h0, Bool.not_true, Bool.false_or, Bool.and_eq_true] at c7
        have := of_decide_eq_true c7.1
        exact ⟨this.1, this.2, of_decide_eq_true c7.2⟩⟩
      rcases T.node_sel h2 with ⟨hs, h3⟩ | ⟨_, h3⟩
      · cases hl : lpR k n L at' er X with
        | none => rw [hl] at hs; cases hs
        | some q =>
          obtain ⟨b, st'⟩ := q
          rw [hl] at h3
          obtain ⟨j, hj⟩ := turnsL (B := B) c2 c5 c6 c4 _ _ b st' hinv hl
          refine ⟨j, hj.trans ?_⟩
          cases b with
          | true => rw [cond_true, ← h3]; rfl
          | false => rw [cond_false, ← h3]; rfl
      · simp [T.sel] at h3
    · simp [T.sel] at h2
  · simp [T.sel] at h
noncomputable def eLv (k : Nat) : LEnt := { id := 13, n := 79, sg := sgLv, wr := writes bLv, s := spLv k }
def endQ (L : List Tok) (r : Option (Bool × PSt)) : Option Out := gI r.isSome (bif bR r then qOut L (stR r).at' (stR r).e (stR r).X else qOut L (stR r).at' (stR r).e [])
def midQ (k : Nat) (n : Int) (L : List Tok) (at' e : Int) (X : List Nod) : Option Out := gI (lpG n (lvFm n) (lvTo n) L at' e X) (endQ L (lpR k n L at' e X))
def levQ (k : Nat) (n n' : Int) (L : List Tok) (at' : Int) : Option Out := gI (lvF n' && okQ at' L) (gI (prIn (lvP k n' (L.drop at'.toNat))) (midQ k n L (prAt L (lvP k n' (L.drop at'.toNat))) (prEr (lvP k n' (L.drop at'.toNat))) (ndV k n' (L.drop at'.toNat))))
theorem tLev0 (k : Nat) (L : List Tok) (at' : Int) : runL B (libLv k) [eLv k] Tryz.f176 [.ptr 0 0 0, i64 0] [qB 1 at' 0, tkb L] = levQ k 0 1 L at' := by kernel_rfl
theorem tLev1 (k : Nat) (L : List Tok) (at' : Int) : runL B (libLv k) [eLv k] Tryz.f176 [.ptr 0 0 0, i64 1] [qB 1 at' 0, tkb L] = levQ k 1 2 L at' := by kernel_rfl
theorem tLev3 (k : Nat) (L : List Tok) (at' : Int) : runL B (libLv k) [eLv k] Tryz.f176 [.ptr 0 0 0, i64 3] [qB 1 at' 0, tkb L] = levQ k 3 4 L at' := by kernel_rfl
theorem tLev4 (k : Nat) (L : List Tok) (at' : Int) : runL B (libLv k) [eLv k] Tryz.f176 [.ptr 0 0 0, i64 4] [qB 1 at' 0, tkb L] = levQ k 4 5 L at' := by kernel_rfl
theorem tLev5 (k : Nat) (L : List Tok) (at' : Int) : runL B (libLv k) [eLv k] Tryz.f176 [.ptr 0 0 0, i64 5] [qB 1 at' 0, tkb L] = levQ k 5 6 L at' := by kernel_rfl
theorem tLev6 (k : Nat) (L : List Tok) (at' : Int) : runL B (libLv k) [eLv k] Tryz.f176 [.ptr 0 0 0, i64 6] [qB 1 at' 0, tkb L] = levQ k 6 7 L at' := by kernel_rfl
theorem rLoop_some {k : Nat} {s : Int} {L : List Tok} {m : Nat} {st st' : PSt} (h : eLoop k s L m st = some st') : ∃ b, rLoop k s L m st = some (b, st') := by
  have := rLoop_e k s L m st
  rw [h] at this
  cases hr : rLoop k s L m st with
  | none => rw [hr] at this; cases this
  | some q =>
    obtain ⟨b, st''⟩ := q
    rw [hr] at this
    injection this with this
    exact ⟨b, by rw [← this]⟩
theorem levQ_is {k : Nat} {n : Int} (hn : lvA n = true) {L : List Tok} {a : Nat} (ha : a ≤ L.length) (hL : L.length ≤ 200) (ht : L.all okTk = true) (hv : L.all okV = true) (hy : prIn (lvP (k + 1) n (L.drop a)) = true) :
    levQ k n (n + 1) L a = qOut L (prAt L (lvP (k + 1) n (L.drop a))) (prEr (lvP (k + 1) n (L.drop a))) (prNd (lvP (k + 1) n (L.drop a))) := by
  obtain ⟨s1, s6⟩ := lvS_rng hn
  obtain ⟨s, hs⟩ : ∃ s : Nat, lvS n = (s : Int) := ⟨(lvS n).toNat, by omega⟩
  rw [lvP_is hn, hs, Int.toNat_natCast] at hy ⊢
  have hpe : pE (k + 1) s (L.drop a) = (pOp (pE k) s (L.drop a)).then fun l r' => pLoop (pE k) s (r'.length + 1) l r' := rfl
  have hlv : lvP k (n + 1) (L.drop a) = pOp (pE k) s (L.drop a) := by rw [lvP_next hn, hs, Int.toNat_natCast]
  rw [hpe] at hy ⊢
  have hx := then_prIn hy
  have hxg := op_good (all_drop ht a) (show 1 ≤ s by omega) (show s ≤ 6 by omega) hx
  unfold levQ
  rw [(lvF_next hn).1, okQ_of ht hv hL ha, Int.toNat_natCast, hlv, hx]
  unfold midQ lpR
  rw [hs]
  show gI (lpG _ _ _ _ _ _ _) _ = _
  cases hc : pOp (pE k) s (L.drop a) with
  | out => rw [hc] at hx; cases hx
  | bad er m =>
    rw [hc] at hxg
    have her : er ≠ 0 := hxg
    have hg : lpG n (lvFm n) (lvTo n) L (prAt L (.bad er m)) (prEr (.bad er m)) (ndV k (n + 1) (L.drop a)) = true := by
      unfold lpG
      rw [hn, ht, hv, decide_eq_true hL, decide_eq_true (show lvFm n = lvFm n ∧ lvTo n = lvTo n from ⟨rfl, rfl⟩), show prEr (.bad er m) = er from rfl, decide_eq_false her]; rfl
    have hr : rLoop k s L (L.length + 2) ⟨prAt L (.bad er m), prEr (.bad er m), ndV k (n + 1) (L.drop a)⟩ = some (false, ⟨prAt L (.bad er m), er, ndV k (n + 1) (L.drop a)⟩) := by
      show rLoop k s L (L.length + 1 + 1) _ = _
      unfold rLoop
      rw [show (PSt.mk (prAt L (.bad er m)) (prEr (.bad er m)) (ndV k (n + 1) (L.drop a))).e = er from rfl, decide_eq_false her]; rfl
    rw [hg, hr]; rfl
  | ok e r' =>
    rw [hc] at hxg hy
    have hsnd := op_sound (fun s r e r' => pE_sound k s r e r') (show 1 ≤ s by omega) (show s ≤ 6 by omega) hc
    obtain ⟨p, hp, _⟩ := hsnd.1
    have hdl := congrArg List.length hp
    rw [List.length_drop, List.length_append] at hdl
    have hd := drop_of hp
    have hnd : ndV k (n + 1) (L.drop a) = e.flat 0 := ndV_ok (hlv.trans hc)
    have hl : eLoop k s L (L.length + 2) (stOf L (.ok e r')) = some (stOf L (pLoop (pE k) s (r'.length + 1) e r')) := eLoop_is (show 1 ≤ s by omega) (show s ≤ 6 by omega) ht (r'.length + 1) (L.length + 2) e r' (a + p.length) (by omega) hd (by omega) hxg hy
    have hf : chkN (e.flat 0) = 0 := good_fit (L := L) hxg rfl
    have hg : lpG n (lvFm n) (lvTo n) L (prAt L (.ok e r')) (prEr (.ok e r')) (ndV k (n + 1) (L.drop a)) = true := by
      rw [hnd]
      unfold lpG
      rw [hn, ht, hv, decide_eq_true hL, decide_eq_true (show lvFm n = lvFm n ∧ lvTo n = lvTo n from ⟨rfl, rfl⟩)]
      show (true && (true && (true && (true && (true && (!decide ((0 : Int) = 0) || (decide (0 ≤ (L.length : Int) - r'.length ∧ (L.length : Int) - r'.length ≤ L.length) && decide (chkN (e.flat 0) = 0)))))))) = true
      rw [decide_eq_true hf, decide_eq_true (show 0 ≤ (L.length : Int) - r'.length ∧ (L.length : Int) - r'.length ≤ L.length by omega)]; rfl
    obtain ⟨b, hr⟩ := rLoop_some hl
    have hr' : rLoop k s L (L.length + 2) ⟨prAt L (.ok e r'), prEr (.ok e r'), ndV k (n + 1) (L.drop a)⟩ = some (b, stOf L (pLoop (pE k) s (r'.length + 1) e r')) := by rw [hnd]; exact hr
    rw [hg, hr']
    show (bif b then qOut L (prAt L (pLoop (pE k) s (r'.length + 1) e r')) (prEr (pLoop (pE k) s (r'.length + 1) e r')) (prNd (pLoop (pE k) s (r'.length + 1) e r')) else qOut L (prAt L (pLoop (pE k) s (r'.length + 1) e r')) (prEr (pLoop (pE k) s (r'.length + 1) e r')) []) = qOut L (prAt L (pLoop (pE k) s (r'.length + 1) e r')) (prEr (pLoop (pE k) s (r'.length + 1) e r')) (prNd (pLoop (pE k) s (r'.length + 1) e r'))
    cases b with
    | true => rfl
    | false =>
      have hne := rLoop_f k s L _ _ _ hr
      cases hq : pLoop (pE k) s (r'.length + 1) e r' with
      | out => rfl
      | ok e2 r2 => rw [hq] at hne; exact (hne rfl).elim
      | bad e2 n2 => rfl
theorem okLa1 {k : Nat} (hA : FnOk (E0 B) 176 (sLa k)) : FnOk (E0 B) 176 (sLa (k + 1)) := by
  refine fnL (libLv_ok hA) (ls := [eLv k]) Tryz.func176 (by kernel_rfl) (by kernel_rfl) (fun x hx => ?_) fun vs bs r h => ?_
  · simp only [List.mem_singleton] at hx; subst hx
    exact ⟨bLv, by kernel_rfl, rfl, loopLv hA⟩
  · unfold sLa at h
    split at h
    · rename_i n a b c at' L
      rcases T.node_sel h with ⟨hg, h2⟩ | ⟨_, h2⟩
      · rw [Bool.and_eq_true, Bool.and_eq_true] at hg
        obtain ⟨g1, g2, g3⟩ := hg
        obtain ⟨rfl, rfl, rfl⟩ := tysQ_is g1
        obtain ⟨a, rfl, ha, hL, ht, hv⟩ := okQ_is g3
        rcases T.node_sel h2 with ⟨hin, h3⟩ | ⟨_, h3⟩
        · rw [Int.toNat_natCast] at hin h3
          have hq := (levQ_is g2 ha hL ht hv hin).trans h3
          rcases lvA_is g2 with rfl | rfl | rfl | rfl | rfl | rfl
          · exact (tLev0 k L a).trans hq
          · exact (tLev1 k L a).trans hq
          · exact (tLev3 k L a).trans hq
          · exact (tLev4 k L a).trans hq
          · exact (tLev5 k L a).trans hq
          · exact (tLev6 k L a).trans hq
        · simp [T.sel] at h3
      · simp [T.sel] at h2
    · simp [T.sel] at h
theorem okLa0 : FnOk (E0 B) 176 (sLa 0) := by
  refine fnT libT_ok Tryz.func176 (by kernel_rfl) (by kernel_rfl) fun vs bs r h => ?_
  unfold sLa at h
  split at h
  · rename_i n a b c at' L
    rcases T.node_sel h with ⟨hg, h2⟩ | ⟨_, h2⟩
    · rw [Bool.and_eq_true, Bool.and_eq_true] at hg
      rcases T.node_sel h2 with ⟨hin, _⟩ | ⟨_, h3⟩
      · rw [lvP_is hg.2.1] at hin
        cases hin
      · simp [T.sel] at h3
    · simp [T.sel] at h2
  · simp [T.sel] at h
theorem okLa : ∀ k, FnOk (E0 B) 176 (sLa k)
  | 0 => okLa0
  | k + 1 => okLa1 (okLa k)
end Go.Proofs.YtdckpbeioemopabGreatDoor.R5
namespace Go.Proofs.YtdckpbeioemopabGreatDoor.R5
open Go.Am Go Go.Proofs.YtdckpbeioemopabGreatDoor
set_option maxRecDepth 100000
variable {B : Nat → Option Obj}
noncomputable def libPs : Tb := (176, [], sLa 1500) :: (22, [], sAsked) :: lib5
theorem libPs_ok : TbOk B libPs := (lib5_ok.add okAsked).add (okLa 1500)
def psQ (L : List Tok) (x : PR) : Option Out := bif !decide (prEr x = 0) then pzO (prAt L x) (prEr x) [] else pzO (prAt L x) 0 (prNd x)
theorem tPs (L : List Tok) (at' : Int) : runT B libPs Tryz.f147 [.slw 0, i64 at'] [tkb L] =
    gI (longT L) (bif !decide (zE0 L at' = 0) then gI (longT L) (pzO 0 (zE0 L at') []) else gI (okQ at' L) (gI (prIn (zR at' L)) (psQ L (zR at' L)))) := by kernel_rfl
theorem zE0_is {L : List Tok} {at' : Int} (h : zE0 L at' = 0) : L.length ≤ 200 ∧ L.all okV = true ∧ 0 ≤ at' ∧ at' ≤ (L.length : Int) := by
  unfold zE0 at h
  by_cases h2 : 200 < L.length
  · rw [decide_eq_true h2] at h; cases h
  · rw [decide_eq_false h2, cond_false] at h
    cases hv : L.all okV with
    | false => rw [hv] at h; cases h
    | true =>
      rw [hv, cond_true] at h
      by_cases hr : 0 ≤ at' ∧ at' ≤ (L.length : Int)
      · exact ⟨by omega, rfl, hr.1, hr.2⟩
      · rw [decide_eq_false hr] at h; cases h
theorem okPs : FnOk (E0 B) 147 sParse := by
  refine fnT libPs_ok Tryz.func147 (by kernel_rfl) (by kernel_rfl) fun vs bs r h => ?_
  unfold sParse at h
  split at h
  · rename_i at' L
    rcases T.node_sel h with ⟨hs, h2⟩ | ⟨_, h2⟩
    · simp only [T.sel, Option.some.injEq] at h2; subst h2
      have hlong : longT L = true := List.all_eq_true.2 fun t ht => decide_eq_true (by have := short_mem hs ht; unfold Lx.lim2; omega)
      refine (tPs L at').trans ?_
      show _ = pzO (zN L at') (zE L at') (zX L at')
      rw [gI_t hlong]
      unfold zN zE zX
      by_cases h0 : zE0 L at' = 0
      · obtain ⟨hL, hv, a0, a1⟩ := zE0_is h0
        have hin := zR_in hL at'
        obtain ⟨a, rfl⟩ : ∃ n : Nat, at' = n := ⟨at'.toNat, by omega⟩
        rw [decide_eq_true h0, gI_t (okQ_of (okV_tk hs hv) hv hL (by omega)), gI_t hin]
        simp only [Bool.not_true, cond_false, cond_true]
        cases hz : zR (a : Int) L with
        | out => rw [hz] at hin; cases hin
        | ok e r => rfl
        | bad e n =>
          unfold psQ
          by_cases he : e = 0
          · rw [show prEr (PR.bad e n) = e from rfl, decide_eq_true he, he]; rfl
          · rw [show prEr (PR.bad e n) = e from rfl, decide_eq_false he]; rfl
      · rw [decide_eq_false h0, gI_t hlong]
        rfl
    · simp [T.sel] at h2
  · simp [T.sel] at h
end Go.Proofs.YtdckpbeioemopabGreatDoor.R5
