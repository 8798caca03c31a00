/-
  Texts put together: R9Wn, R9Wn2, R9Ag, R9Un.
-/
import Derived.Test.YtdckpbeioemopabGreatDoorR9A
namespace Go.Proofs.YtdckpbeioemopabGreatDoor.R9
open Go.Am Go Go.Proofs.YtdckpbeioemopabGreatDoor Go.Proofs.YtdckpbeioemopabGreatDoor.Pr
set_option maxRecDepth 100000
variable {B : Nat → Option Obj}
noncomputable def lib5 : Tb := (124, [3, 4, 5], sOne) :: (118, [2, 3, 4], sNeed) :: (148, [2, 3, 4], sNum) :: (122, [2, 3, 4], sExp) :: (30, [], Ck.sFit) :: []
theorem lib5_ok : TbOk B lib5 := ((((TbOk.nil.add Ck.okFit).add okExp).add okNum).add okNeed).add okOne
def evT : List UInt8 := [101, 118, 101, 114, 121]
def gN (L : List Tok) (a e : Int) (z : Option Out) : Option Out := bif rG rTy L a e && (shortT L && L.all okV) then z else none
def gT (t : List UInt8) (L : List Tok) (a e : Int) (z : Option Out) : Option Out := bif rG rTy L a e && okT t then z else none
def gO (T : List (List UInt8)) (L : List Tok) (a e : Int) (z : Option Out) : Option Out := bif rG rTy L a e && (decide (T.length ≤ 1000) && T.all okT) then z else none
def wO (s : List UInt8) (L : List Tok) (a : Int) (q : Qry) (k ws we e : Int) : Option Out := some ⟨[], rp s L a q.agg q.arg q.src q.join q.whr k ws we q.byKey q.late e⟩
def wE (s : List UInt8) (L : List Tok) (n a : Int) (q : Qry) (k e : Int) : Option Out := bif decide (n = 1) then gT evT L a e (gN L a e (wO s L a q k 0 0 e)) else wO s L a q k 0 0 e
def wF (s : List UInt8) (L : List Tok) (n a : Int) (q : Qry) (k N : Int) : Option Out :=
  bif decide (n = 1) then gT evT L a 0 (bif nxB L a [evT] then gN L (a + 1) 0 (bif nmF L (a + 1) then wO s L (a + 1) q k N 0 12 else bif nmR L (a + 1) N then wO s L (a + 1) q k N 0 16 else
      (bif !fitsW k N (nmN L (a + 1)) then wO s L (a + 1) q k N (nmN L (a + 1)) 16 else wO s L (a + 1 + 1) q k N (nmN L (a + 1)) 0)) else gN L a 12 (wO s L a q k N 0 12)) else wO s L a q k N 0 0
def wG (s : List UInt8) (L : List Tok) (n a : Int) (q : Qry) (k : Int) : Option Out := gN L a 0 (bif nmF L a then wE s L n a q k 12 else bif nmR L a 1073741824 then wE s L n a q k 16 else wF s L n (a + 1) q k (nmN L a))
def wB (s : List UInt8) (L : List Tok) (n a : Int) (q : Qry) (k : Int) : Option Out := gN L (w64 (a - 1)) 8 (wE s L n (w64 (a - 1)) q k 8)
def k9 (n : Int) : Int := IntKind.u8.wrap (w64 (n + 1))
def wT (s : List UInt8) (L : List Tok) (n a : Int) (q : Qry) : Option Out := bif decide (0 < n) then (bif q.join then wB s L n a q (k9 n) else wG s L n a q (k9 n)) else wG s L n a q (k9 n)
theorem tWn0 (s : List UInt8) (L : List Tok) (a : Int) (q : Qry) : runT B lib5 Tryz.f123 [.ptr 0 0 0] (rq s L a q 0) =
    gO wnS L a 0 (bif nxB L a wnS then wT s L (nx L a wnS) (a + 1) q else gN L a 12 (wO s L a q 1 0 0 12)) := by kernel_rfl
theorem tWnE (s : List UInt8) (L : List Tok) (a : Int) (q : Qry) (m : Nat) : runT B lib5 Tryz.f123 [.ptr 0 0 0] (rq s L a q (Int.ofNat (m + 1))) =
    gO wnS L a (Int.ofNat (m + 1)) (gN L a (Int.ofNat (m + 1)) (wO s L a q 1 0 0 (Int.ofNat (m + 1)))) := by kernel_rfl
end Go.Proofs.YtdckpbeioemopabGreatDoor.R9
namespace Go.Proofs.YtdckpbeioemopabGreatDoor.R9
open Go.Am Go Go.Proofs.YtdckpbeioemopabGreatDoor Go.Proofs.YtdckpbeioemopabGreatDoor.Pr
set_option maxRecDepth 100000
variable {B : Nat → Option Obj}
def w9G (L : List Tok) (n a k : Int) : WR :=
  bif nmF L a then ⟨k, 0, 0, a, a, 12⟩ else bif nmR L a 1073741824 then ⟨k, 0, 0, a, a, 16⟩ else
    bif decide (n = 1) then (bif nxB L (a + 1) [evT] then (bif nmF L (a + 1 + 1) then ⟨k, nmN L a, 0, a + 1 + 1, a + 1 + 1, 12⟩ else bif nmR L (a + 1 + 1) (nmN L a) then ⟨k, nmN L a, 0, a + 1 + 1, a + 1 + 1, 16⟩ else
      bif fitsW k (nmN L a) (nmN L (a + 1 + 1)) then ⟨k, nmN L a, nmN L (a + 1 + 1), a + 1 + 1 + 1, 0, 0⟩ else ⟨k, nmN L a, nmN L (a + 1 + 1), a + 1 + 1, a + 1 + 1, 16⟩) else ⟨k, nmN L a, 0, a + 1, a + 1, 12⟩) else ⟨k, nmN L a, 0, a + 1, 0, 0⟩
def w9 (L : List Tok) (j : Bool) (a : Int) : WR := bif nxB L a wnS then (bif j && !decide (wkI L a = 1) then ⟨wkI L a, 0, 0, a, a, 8⟩ else w9G L (nx L a wnS) (a + 1) (wkI L a)) else ⟨1, 0, 0, a, a, 12⟩
theorem nx3 {L : List Tok} {a : Int} (h : nxB L a wnS = true) : (nx L a wnS = 0 ∧ wkI L a = 1) ∨ (nx L a wnS = 1 ∧ wkI L a = 2) ∨ (nx L a wnS = 2 ∧ wkI L a = 3) := by
  unfold nxB at h
  simp only [Bool.and_eq_true] at h
  have hl := of_decide_eq_true h.2.2
  have h3 : nxI L a wnS < 3 := hl
  unfold wkI nx
  rcases (show nxI L a wnS = 0 ∨ nxI L a wnS = 1 ∨ nxI L a wnS = 2 by omega) with e | e | e <;> rw [e]
  · exact .inl ⟨rfl, by decide⟩
  · exact .inr (.inl ⟨rfl, by decide⟩)
  · exact .inr (.inr ⟨rfl, by decide⟩)
structure WRel (x y : WR) : Prop where
  d : x.d = y.d
  c : x.c = y.c
  e : y.d = 0 → x = y
theorem w9Q_rel (L : List Tok) (a n k : Int) (h : decide (n = 1) = decide (k = 2)) : WRel (w9G L n a k) (wnQ L k a) := by
  unfold w9G wnQ
  rw [h]
  show WRel (bif nmF L a then _ else bif nmR L a mxS then _ else bif decide (k = 2) then (bif nxB L (a + 1) evS then _ else _) else _) _
  cases nmF L a with
  | true => exact ⟨rfl, rfl, fun h => by cases h⟩
  | false =>
    cases nmR L a mxS with
    | true => exact ⟨rfl, rfl, fun h => by cases h⟩
    | false =>
      cases decide (k = 2) with
      | false => exact ⟨rfl, rfl, fun _ => rfl⟩
      | true =>
        cases nxB L (a + 1) evS with
        | false => exact ⟨rfl, rfl, fun h => by cases h⟩
        | true =>
          cases nmF L (a + 1 + 1) with
          | true => exact ⟨rfl, rfl, fun h => by cases h⟩
          | false =>
            cases nmR L (a + 1 + 1) (nmN L a) with
            | true => exact ⟨rfl, rfl, fun h => by cases h⟩
            | false =>
              cases fitsW k (nmN L a) (nmN L (a + 1 + 1)) with
              | true => exact ⟨rfl, rfl, fun _ => rfl⟩
              | false => exact ⟨rfl, rfl, fun h => by cases h⟩
theorem w9_rel (L : List Tok) (j : Bool) (a : Int) : WRel (w9 L j a) (wnR L j a) := by
  unfold w9 wnR
  cases hx : nxB L a wnS with
  | false => exact ⟨rfl, rfl, fun h => by cases h⟩
  | true =>
    rw [cond_true, cond_true]
    cases j && !decide (wkI L a = 1) with
    | true => exact ⟨rfl, rfl, fun h => by cases h⟩
    | false =>
      refine w9Q_rel L (a + 1) (nx L a wnS) (wkI L a) ?_
      rcases nx3 hx with ⟨h1, h2⟩ | ⟨h1, h2⟩ | ⟨h1, h2⟩ <;> rw [h1, h2] <;> rfl
def wOut (s : List UInt8) (L : List Tok) (q : Qry) (r : WR) : Option Out := bif decide (r.d = 0) then wO s L r.a q r.k r.s r.e 0 else wO s L r.c q r.k r.s r.e r.d
structure Rd (L : List Tok) : Prop where
  l : L.length ≤ 1000
  s : shortT L = true
  v : L.all okV = true
theorem gN_is {L : List Tok} (hL : Rd L) {a e : Int} (he : 0 ≤ e) (h0 : 0 ≤ a) (h1 : a ≤ (L.length : Int)) (z : Option Out) : gN L a e z = z := by
  unfold gN
  rw [rG_of he h0 h1 hL.l, hL.s, hL.v]; rfl
theorem gT_is {L : List Tok} (hL : Rd L) {t : List UInt8} (ht : okT t = true) {a e : Int} (he : 0 ≤ e) (h0 : 0 ≤ a) (h1 : a ≤ (L.length : Int)) (z : Option Out) : gT t L a e z = z := by
  unfold gT
  rw [rG_of he h0 h1 hL.l, ht]; rfl
theorem gO_is {L : List Tok} (hL : Rd L) {U : List (List UInt8)} (hU : (decide (U.length ≤ 1000) && U.all okT) = true) {a e : Int} (he : 0 ≤ e) (h0 : 0 ≤ a) (h1 : a ≤ (L.length : Int)) (z : Option Out) : gO U L a e z = z := by
  unfold gO
  rw [rG_of he h0 h1 hL.l, hU]; rfl
theorem wE_is {L : List Tok} (hL : Rd L) {s : List UInt8} {q : Qry} {n a k e : Int} (he : 0 ≤ e) (h0 : 0 ≤ a) (h1 : a ≤ (L.length : Int)) : wE s L n a q k e = wO s L a q k 0 0 e := by
  unfold wE
  rw [gT_is hL (by decide) he h0 h1, gN_is hL he h0 h1]
  cases decide (n = 1) <;> rfl
theorem nmF_lt {L : List Tok} {a : Int} (h : nmF L a = false) : a < (L.length : Int) := by
  unfold nmF at h
  rw [Bool.or_eq_false_iff] at h
  have := of_decide_eq_false h.1
  omega
theorem wG_is {L : List Tok} (hL : Rd L) {s : List UInt8} {q : Qry} {n a k : Int} (h0 : 0 ≤ a) (h1 : a ≤ (L.length : Int)) : wG s L n a q k = wOut s L q (w9G L n a k) := by
  unfold wG
  rw [gN_is hL (Int.le_refl 0) h0 h1, wE_is hL (by omega) h0 h1, wE_is hL (by omega) h0 h1]
  unfold w9G
  cases hn : nmF L a with
  | true => rfl
  | false =>
    have l1 := nmF_lt hn
    cases nmR L a 1073741824 with
    | true => rfl
    | false =>
      unfold wF
      rw [gT_is hL (by decide) (Int.le_refl 0) (by omega) (by omega)]
      cases decide (n = 1) with
      | false => rfl
      | true =>
        cases hx : nxB L (a + 1) [evT] with
        | false =>
          rw [cond_false, cond_false, cond_false, cond_true, cond_true, cond_false, cond_false, gN_is hL (by omega) (by omega) (by omega)]; rfl
        | true =>
          have l2 := nxB_lt hx
          rw [gN_is hL (Int.le_refl 0) (by omega) (by omega)]
          cases nmF L (a + 1 + 1) with
          | true => rfl
          | false =>
            cases nmR L (a + 1 + 1) (nmN L a) with
            | true => rfl
            | false => cases fitsW k (nmN L a) (nmN L (a + 1 + 1)) <;> rfl
theorem k9_is {L : List Tok} {a : Int} (h : nxB L a wnS = true) : k9 (nx L a wnS) = wkI L a := by
  rcases nx3 h with ⟨h1, h2⟩ | ⟨h1, h2⟩ | ⟨h1, h2⟩ <;> rw [h1, h2] <;> decide
theorem win0 {L : List Tok} (hL : Rd L) (s : List UInt8) (q : Qry) {a : Int} (h0 : 0 ≤ a) (h1 : a ≤ (L.length : Int)) : runT B lib5 Tryz.f123 [.ptr 0 0 0] (rq s L a q 0) = wOut s L q (w9 L q.join a) := by
  rw [tWn0, gO_is hL (by decide) (Int.le_refl 0) h0 h1]
  unfold w9
  cases hx : nxB L a wnS with
  | false =>
    rw [cond_false, cond_false, gN_is hL (by omega) h0 h1]; rfl
  | true =>
    have l1 := nxB_lt hx
    have hl := hL.l
    have hw : w64 (a + 1 - 1) = a := by rw [show a + 1 - 1 = a by omega]; exact w64_rng (by unfold Rng; omega)
    rw [cond_true, cond_true]
    unfold wT wB
    rw [wG_is hL (by omega) (by omega), hw, gN_is hL (by omega) h0 h1, wE_is hL (by omega) h0 h1, k9_is hx]
    rcases nx3 hx with ⟨e1, e2⟩ | ⟨e1, e2⟩ | ⟨e1, e2⟩ <;> rw [e1, e2] <;> cases q.join <;> rfl
def erN (d : Int) : Int := Int.ofNat (d.toNat - 1 + 1)
def sWin9 : FSpec
  | [.ptr 0 0 0], [⟨true, .gen ty [[.str s, .slw 1, .int .i64 a, .int .u8 g, .slw 2, .slw 3, .bool j, .slw 4, .int .u8 _, .int .i64 _, .int .i64 _, .bool bk, .int .u8 lt, .int .i64 e]]⟩, ⟨false, .toks L⟩, ⟨true, .nodes A⟩, ⟨true, .ints .i64 S⟩, ⟨true, .nodes W⟩] => .node (rG ty L a e && (shortT L && L.all okV)) (bif decide (e = 0) then .node (decide (0 ≤ (wnR L j a).d)) (.node (decide ((wnR L j a).d = 0)) (.leaf ⟨[], rp s L (wnR L j a).a g A S j W (wnR L j a).k (wnR L j a).s (wnR L j a).e bk lt e⟩)
      (.leaf ⟨[], rp s L (wnR L j a).c g A S j W (w9 L j a).k (w9 L j a).s (w9 L j a).e bk lt (erN (wnR L j a).d)⟩)) .bad else .leaf ⟨[], rp s L a g A S j W 1 0 0 bk lt e⟩) .bad
  | _, _ => .bad
theorem okWin9 : FnOk (E0 B) 123 sWin9 := by
  refine fnT lib5_ok Tryz.func123 (by kernel_rfl) (by kernel_rfl) fun vs bs r h => ?_
  unfold sWin9 at h
  split at h
  · rename_i ty s a g j wk ws we bk lt e L A S W
    rcases T.node_sel h with ⟨hc, h2⟩ | ⟨_, h2⟩
    · rw [Bool.and_eq_true, Bool.and_eq_true] at hc
      obtain ⟨rfl, he, h0, h1, h3⟩ := rG_is hc.1
      have hL : Rd L := ⟨h3, hc.2.1, hc.2.2⟩
      rcases e_is he with rfl | ⟨m, rfl⟩
      · refine (win0 hL s ⟨g, A, S, j, W, wk, ws, we, bk, lt⟩ h0 h1).trans ?_
        obtain ⟨r1, r2, r3⟩ := w9_rel L j a
        unfold wOut
        show (bif decide ((w9 L j a).d = 0) then _ else _) = _
        rcases T.node_sel h2 with ⟨h4, h5⟩ | ⟨_, h5⟩
        · have h4 := of_decide_eq_true h4
          rw [r1]
          rcases T.node_sel h5 with ⟨h6, h7⟩ | ⟨h6, h7⟩
          · rw [h6, cond_true, r3 (of_decide_eq_true h6)]
            exact h7
          · rw [h6, cond_false, r2]
            have h6 := of_decide_eq_false h6
            have : (wnR L j a).d = erN (wnR L j a).d := by
              unfold erN
              show _ = (((wnR L j a).d.toNat - 1 + 1 : Nat) : Int)
              omega
            rw [this]
            exact h7
        · simp [T.sel] at h5
      · refine (tWnE s L a ⟨g, A, S, j, W, wk, ws, we, bk, lt⟩ m).trans ?_
        rw [gO_is hL (by decide) he h0 h1, gN_is hL he h0 h1]
        exact h2
    · simp [T.sel] at h2
  · simp [T.sel] at h
end Go.Proofs.YtdckpbeioemopabGreatDoor.R9
namespace Go.Proofs.YtdckpbeioemopabGreatDoor.R9
open Go.Am Go Go.Proofs.YtdckpbeioemopabGreatDoor Go.Proofs.YtdckpbeioemopabGreatDoor.Pr
set_option maxRecDepth 100000
variable {B : Nat → Option Obj}
noncomputable def libA : Tb := (124, [3, 4, 5], sOne) :: (118, [2, 3, 4], sNeed) :: (122, [2, 3, 4], sExp) :: []
theorem libA_ok : TbOk B libA := ((TbOk.nil.add okExp).add okNeed).add okOne
def opT : List UInt8 := [40]
def stT : List UInt8 := [42]
def clT : List UInt8 := [41]
def gE (L : List Tok) (a e : Int) (z : Option Out) : Option Out := bif rG rTy L a e && shortT L then z else none
def g0 (d : Int) (z : Option Out) : Option Out := bif decide (0 ≤ d) then z else none
def fin (s : List UInt8) (L : List Tok) (a : Int) (q : Qry) (e : Int) : Option Out := some ⟨[], rq s L a q e⟩
def aC (s : List UInt8) (L : List Tok) (q : Qry) (n a e : Int) : Option Out := gT clT L a e (fin s L a { q with agg := k9 n } e)
def aF (s : List UInt8) (L : List Tok) (q : Qry) (n a : Int) : Option Out := gT clT L a 0 (bif nxB L a [clT] then fin s L (a + 1) { q with agg := k9 n } 0 else fin s L a { q with agg := k9 n } 12)
def aA (s : List UInt8) (L : List Tok) (q : Qry) (n a : Int) : Option Out := gT opT L a 0 (bif nxB L a [opT] then (bif decide (n = 0) then gT stT L (a + 1) 0 (bif nxB L (a + 1) [stT] then aF s L q n (a + 1 + 1) else aC s L q n (a + 1) 12) else
    gE L (a + 1) 0 (g0 (zE L (a + 1)) (bif decide (zE L (a + 1) = 0) then aF s L { q with arg := zX L (a + 1) } n (zN L (a + 1)) else aC s L { q with arg := zX L (a + 1) } n (zN L (a + 1)) (erZ L (a + 1)))))
    else bif decide (n = 0) then gT stT L a 12 (aC s L q n a 12) else gE L a 12 (aC s L { q with arg := [] } n a 12))
theorem tAg0 (s : List UInt8) (L : List Tok) (a : Int) (q : Qry) : runT B libA Tryz.f119 [.ptr 0 0 0] (rq s L a q 0) =
    gO agS L a 0 (bif nxB L a agS then aA s L q (nx L a agS) (a + 1) else gT opT L a 12 (gT stT L a 12 (aC s L q 0 a 12))) := by kernel_rfl
theorem tAgE (s : List UInt8) (L : List Tok) (a : Int) (q : Qry) (m : Nat) : runT B libA Tryz.f119 [.ptr 0 0 0] (rq s L a q (Int.ofNat (m + 1))) =
    gO agS L a (Int.ofNat (m + 1)) (gT opT L a (Int.ofNat (m + 1)) (gT stT L a (Int.ofNat (m + 1)) (aC s L q 0 a (Int.ofNat (m + 1))))) := by kernel_rfl
def lf (s : List UInt8) (L : List Tok) (a : Int) (g : Int) (A : List Nod) (S : List Int) (j : Bool) (W : List Nod) (wk ws we : Int) (bk : Bool) (lt : Int) (e : Int) : T Out := .leaf ⟨[], rp s L a g A S j W wk ws we bk lt e⟩
def agC (s : List UInt8) (L : List Tok) (a : Int) (g : Int) (A : List Nod) (S : List Int) (j : Bool) (W : List Nod) (wk ws we : Int) (bk : Bool) (lt : Int) : T Out := .node (nxB L a [clT]) (lf s L (a + 1) g A S j W wk ws we bk lt 0) (lf s L a g A S j W wk ws we bk lt 12)
def sAgg : FSpec
  | [.ptr 0 0 0], [⟨true, .gen ty [[.str s, .slw 1, .int .i64 a, .int .u8 _, .slw 2, .slw 3, .bool j, .slw 4, .int .u8 wk, .int .i64 ws, .int .i64 we, .bool bk, .int .u8 lt, .int .i64 e]]⟩, ⟨false, .toks L⟩, ⟨true, .nodes A⟩, ⟨true, .ints .i64 S⟩, ⟨true, .nodes W⟩] => .node (rG ty L a e && tkO L) (bif decide (e = 0) then
      .node (nxB L a agS)
        (.node (nxB L (a + 1) [opT])
          (.node (decide (nx L a agS = 0))
            (.node (nxB L (a + 1 + 1) [stT]) (agC s L (a + 1 + 1 + 1) (k9 (nx L a agS)) A S j W wk ws we bk lt) (lf s L (a + 1 + 1) (k9 (nx L a agS)) A S j W wk ws we bk lt 12))
            (.node (decide (0 ≤ zE L (a + 1 + 1))) (.node (decide (zE L (a + 1 + 1) = 0)) (agC s L (zN L (a + 1 + 1)) (k9 (nx L a agS)) (zX L (a + 1 + 1)) S j W wk ws we bk lt) (lf s L (zN L (a + 1 + 1)) (k9 (nx L a agS)) (zX L (a + 1 + 1)) S j W wk ws we bk lt (erZ L (a + 1 + 1)))) .bad))
          (.node (decide (nx L a agS = 0)) (lf s L (a + 1) (k9 (nx L a agS)) A S j W wk ws we bk lt 12) (lf s L (a + 1) (k9 (nx L a agS)) [] S j W wk ws we bk lt 12)))
        (lf s L a (k9 0) A S j W wk ws we bk lt 12)
      else lf s L a (k9 0) A S j W wk ws we bk lt e) .bad
  | _, _ => .bad
theorem erZ_nn (L : List Tok) (a : Int) : 0 ≤ erZ L a := Int.natCast_nonneg _
theorem erN_nn (d : Int) : 0 ≤ erN d := Int.natCast_nonneg _
theorem rd_of {L : List Tok} (h : TkO L) : Rd L := ⟨by have := h.n; omega, h.s, h.v⟩
theorem gE_is {L : List Tok} (hL : Rd L) {a e : Int} (he : 0 ≤ e) (h0 : 0 ≤ a) (h1 : a ≤ (L.length : Int)) (z : Option Out) : gE L a e z = z := by
  unfold gE
  rw [rG_of he h0 h1 hL.l, hL.s]; rfl
theorem aC_is {L : List Tok} (hL : Rd L) {s : List UInt8} {q : Qry} {n a e : Int} (he : 0 ≤ e) (h0 : 0 ≤ a) (h1 : a ≤ (L.length : Int)) : aC s L q n a e = fin s L a { q with agg := k9 n } e := gT_is hL (by decide) he h0 h1 _
theorem aF_is {L : List Tok} (hL : Rd L) {s : List UInt8} {q : Qry} {n a : Int} (h0 : 0 ≤ a) (h1 : a ≤ (L.length : Int)) : aF s L q n a = (agC s L a (k9 n) q.arg q.src q.join q.whr q.wk q.ws q.we q.byKey q.late).sel := by
  unfold aF
  rw [gT_is hL (by decide) (Int.le_refl 0) h0 h1]
  show _ = (T.node (nxB L a [clT]) _ _).sel
  cases nxB L a [clT] <;> rfl
theorem okAgg : FnOk (E0 B) 119 sAgg := by
  refine fnT libA_ok Tryz.func119 (by kernel_rfl) (by kernel_rfl) fun vs bs r h => ?_
  unfold sAgg at h
  split at h
  · rename_i ty s a g j wk ws we bk lt e L A S W
    rcases T.node_sel h with ⟨hc, h2⟩ | ⟨_, h2⟩
    · rw [Bool.and_eq_true] at hc
      obtain ⟨rfl, he, h0, h1, h3⟩ := rG_is hc.1
      have hT := tkO_is hc.2
      have hL := rd_of hT
      rcases e_is he with rfl | ⟨m, rfl⟩
      · refine (tAg0 s L a ⟨g, A, S, j, W, wk, ws, we, bk, lt⟩).trans ?_
        rw [gO_is hL (by decide) (Int.le_refl 0) h0 h1, gT_is hL (by decide) (by omega) h0 h1, gT_is hL (by decide) (by omega) h0 h1, aC_is hL (by omega) h0 h1]
        rw [decide_eq_true (rfl : (0 : Int) = 0), cond_true] at h2
        rcases T.node_sel h2 with ⟨hx, h4⟩ | ⟨hx, h4⟩
        · have l1 := nxB_lt hx
          rw [hx, cond_true]
          unfold aA
          rw [gT_is hL (by decide) (Int.le_refl 0) (by omega) (by omega)]
          rcases T.node_sel h4 with ⟨hy, h5⟩ | ⟨hy, h5⟩
          · have l2 := nxB_lt hy
            rw [hy, cond_true]
            rcases T.node_sel h5 with ⟨hz, h6⟩ | ⟨hz, h6⟩
            · rw [hz, cond_true, gT_is hL (by decide) (Int.le_refl 0) (by omega) (by omega)]
              rcases T.node_sel h6 with ⟨hw, h7⟩ | ⟨hw, h7⟩
              · have l3 := nxB_lt hw
                rw [hw, cond_true, aF_is hL (by omega) (by omega)]
                exact h7
              · rw [hw, cond_false, aC_is hL (by omega) (by omega) (by omega)]
                exact h7
            · rw [hz, cond_false, gE_is hL (Int.le_refl 0) (by omega) (by omega)]
              obtain ⟨z1, z2⟩ := z_in hT (a := a + 1 + 1) (by omega) (by omega)
              rcases T.node_sel h6 with ⟨hw, h7⟩ | ⟨hw, h7⟩
              · unfold g0
                rw [hw, cond_true]
                rcases T.node_sel h7 with ⟨hv, h8⟩ | ⟨hv, h8⟩
                · rw [hv, cond_true, aF_is hL (by omega) (by omega)]
                  exact h8
                · rw [hv, cond_false, aC_is hL (erZ_nn _ _) (by omega) (by omega)]
                  exact h8
              · simp [T.sel] at h7
          · rw [hy, cond_false]
            rcases T.node_sel h5 with ⟨hz, h6⟩ | ⟨hz, h6⟩
            · rw [hz, cond_true, gT_is hL (by decide) (by omega) (by omega) (by omega), aC_is hL (by omega) (by omega) (by omega)]
              exact h6
            · rw [hz, cond_false, gE_is hL (by omega) (by omega) (by omega), aC_is hL (by omega) (by omega) (by omega)]
              exact h6
        · rw [hx, cond_false]
          exact h4
      · refine (tAgE s L a ⟨g, A, S, j, W, wk, ws, we, bk, lt⟩ m).trans ?_
        rw [gO_is hL (by decide) he h0 h1, gT_is hL (by decide) he h0 h1, gT_is hL (by decide) he h0 h1, aC_is hL he h0 h1]
        exact h2
    · simp [T.sel] at h2
  · simp [T.sel] at h
end Go.Proofs.YtdckpbeioemopabGreatDoor.R9
namespace Go.Proofs.YtdckpbeioemopabGreatDoor.R9
open Go.Am Go Go.Proofs.YtdckpbeioemopabGreatDoor Go.Proofs.YtdckpbeioemopabGreatDoor.Pr
set_option maxRecDepth 100000
variable {B : Nat → Option Obj}
noncomputable def lib6 : Tb := (119, [2, 3, 4], sAgg) :: (121, [2, 3, 4], sIs) :: (120, [2, 3, 4], sName) :: (123, [2, 3, 4], sWin9) :: (124, [3, 4, 5], sOne) :: (118, [2, 3, 4], sNeed) :: (122, [2, 3, 4], sExp) :: []
theorem lib6_ok : TbOk B lib6 := ((((((TbOk.nil.add okExp).add okNeed).add okOne).add okWin9).add okName).add okIs).add okAgg
noncomputable def bUn9 : Code := loopAt 7 (loopsOf (bodyC Tryz.f85))
def sgUn9 : LSig := { cs := [(0, 0)], mv := [], mo := [], take := [2, 3, 4] }
def vUn9 : List AV := [.ptr 0 0 0]
def uT : List UInt8 := [117, 110, 105, 111, 110]
def ru (s : List UInt8) (L : List Tok) (a : Int) (q : Qry) (l : List Int) (j : Bool) (e : Int) : List Blk := rp s L a q.agg q.arg l j q.whr q.wk q.ws q.we q.byKey q.late e
def noUn (s : List UInt8) (L : List Tok) (a : Int) (q : Qry) (l : List Int) (j : Bool) (e : Int) : Option (AExit × Out) := some (.normal, ⟨vUn9, ru s L a q l j e⟩)
def exUn (s : List UInt8) (L : List Tok) (a : Int) (q : Qry) (l : List Int) (j : Bool) (e : Int) : Option (AExit × Out) := some (.exit 0, ⟨[], ru s L a q l j e⟩)
def gIs (t : List UInt8) (L : List Tok) (a e : Int) (z : Option (AExit × Out)) : Option (AExit × Out) := bif rG rTy L a e && okT t then z else none
def gNa (L : List Tok) (a e : Int) (l : List Int) (z : Option (AExit × Out)) : Option (AExit × Out) := bif rG rTy L a e && decide (l.length ≤ 500) then z else none
theorem turnJ (s : List UInt8) (L : List Tok) (a : Int) (q : Qry) (l : List Int) (e : Int) : (turn (E0 B) (Cx B lib6) noL 86 sgUn9 bUn9 vUn9 (ru s L a q l true e)).sel = exUn s L a q l true e := by kernel_rfl
theorem turnUE (s : List UInt8) (L : List Tok) (a : Int) (q : Qry) (l : List Int) (m : Nat) : (turn (E0 B) (Cx B lib6) noL 86 sgUn9 bUn9 vUn9 (ru s L a q l false (Int.ofNat (m + 1)))).sel = gIs uT L a (Int.ofNat (m + 1)) (exUn s L a q l false (Int.ofNat (m + 1))) := by kernel_rfl
theorem turnU0 (s : List UInt8) (L : List Tok) (a : Int) (q : Qry) (l : List Int) : (turn (E0 B) (Cx B lib6) noL 86 sgUn9 bUn9 vUn9 (ru s L a q l false 0)).sel =
    gIs uT L a 0 (bif nxB L a [uT] then gNa L (a + 1) 0 l (bif nxB L (a + 1) abS then (bif hasI (nx L (a + 1) abS) l then noUn s L (a + 1) q (l ++ [nx L (a + 1) abS]) false 43 else noUn s L (a + 1 + 1) q (l ++ [nx L (a + 1) abS]) false 0) else noUn s L (a + 1) q (l ++ [0]) false 12) else exUn s L a q l false 0) := by kernel_rfl
def uZ (k : Nat) (L : List Tok) (a : Int) (l : List Int) : UR := bif nxB L a [uT] then unR k L (a + 1) l else ⟨a, l, 0, 0⟩
def uOut (s : List UInt8) (L : List Tok) (q : Qry) (r : UR) : Option (AExit × Out) := bif decide (r.d = 0) then exUn s L r.a q r.s false 0 else exUn s L r.c q r.s false r.d
theorem gIs_is {L : List Tok} {t : List UInt8} (ht : okT t = true) {a e : Int} (he : 0 ≤ e) (h0 : 0 ≤ a) (h1 : a ≤ (L.length : Int)) (h3 : L.length ≤ 1000) (z : Option (AExit × Out)) : gIs t L a e z = z := by
  unfold gIs
  rw [rG_of he h0 h1 h3, ht]; rfl
theorem gNa_is {L : List Tok} {a e : Int} {l : List Int} (he : 0 ≤ e) (h0 : 0 ≤ a) (h1 : a ≤ (L.length : Int)) (h3 : L.length ≤ 1000) (hl : l.length ≤ 500) (z : Option (AExit × Out)) : gNa L a e l z = z := by
  unfold gNa
  rw [rG_of he h0 h1 h3, decide_eq_true hl]; rfl
theorem uEnd (s : List UInt8) (L : List Tok) (q : Qry) (l : List Int) (m : Nat) {a : Int} (h0 : 0 ≤ a) (h1 : a ≤ (L.length : Int)) (h3 : L.length ≤ 1000) : (turns (E0 B) (Cx B lib6) noL 86 sgUn9 bUn9 1 vUn9 (ru s L a q l false (Int.ofNat (m + 1)))).sel = exUn s L a q l false (Int.ofNat (m + 1)) :=
  turns_done ((turnUE s L a q l m).trans (gIs_is (by decide) (Int.natCast_nonneg _) h0 h1 h3 _)) (by simp)
theorem un9 (s : List UInt8) (L : List Tok) (q : Qry) (h3 : L.length ≤ 1000) : ∀ (k : Nat) (a : Int) (l : List Int), 0 ≤ a → a ≤ (L.length : Int) → (L.length : Int) < a + 1 + k → 2 * (l.length : Int) + (L.length : Int) ≤ 400 + a →
    ∃ m, (turns (E0 B) (Cx B lib6) noL 86 sgUn9 bUn9 m vUn9 (ru s L a q l false 0)).sel = uOut s L q (uZ k L a l)
  | k, a, l, h0, h1, hk, hl => by
    have ht := turnU0 (B := B) s L a q l
    rw [gIs_is (by decide) (Int.le_refl 0) h0 h1 h3] at ht
    unfold uZ
    cases hx : nxB L a [uT] with
    | false =>
      rw [hx, cond_false] at ht
      exact ⟨1, turns_done ht (by simp)⟩
    | true =>
      have l1 := nxB_lt hx
      rw [hx, cond_true, gNa_is (Int.le_refl 0) (by omega) (by omega) h3 (by omega)] at ht
      cases k with
      | zero => omega
      | succ k =>
        rw [cond_true]
        unfold unR
        cases hy : nxB L (a + 1) abS with
        | false =>
          rw [hy, cond_false] at ht
          exact ⟨2, (turns_more' ht).trans (uEnd s L q (l ++ [0]) 11 (by omega) (by omega) h3)⟩
        | true =>
          have l2 := nxB_lt hy
          rw [hy, cond_true] at ht
          cases hh : hasI (nx L (a + 1) abS) l with
          | true =>
            rw [hh, cond_true] at ht
            exact ⟨2, (turns_more' ht).trans (uEnd s L q _ 42 (by omega) (by omega) h3)⟩
          | false =>
            rw [hh, cond_false] at ht
            obtain ⟨m, hm⟩ := un9 s L q h3 k (a + 1 + 1) (l ++ [nx L (a + 1) abS]) (by omega) (by omega) (by omega) (by simp only [List.length_append, List.length_singleton]; omega)
            exact ⟨m + 1, (turns_more' ht).trans hm⟩
def spUn9 : LSpec
  | [.ptr 0 0 0], [⟨true, .gen ty [[.str s, .slw 1, .int .i64 a, .int .u8 g, .slw 2, .slw 3, .bool j, .slw 4, .int .u8 wk, .int .i64 ws, .int .i64 we, .bool bk, .int .u8 lt, .int .i64 e]]⟩, ⟨false, .toks L⟩, ⟨true, .nodes A⟩, ⟨true, .ints .i64 S⟩, ⟨true, .nodes W⟩] => .node (rG ty L a e && decide (2 * (S.length : Int) + (L.length : Int) ≤ 400 + a)) (bif j then .leaf (.exit 0, ⟨[], rp s L a g A S j W wk ws we bk lt e⟩) else bif decide (e = 0) then .node (nxB L a [uT]) (.node (decide (0 ≤ (urA L (a + 1) S).d)) (.node (decide ((urA L (a + 1) S).d = 0)) (.leaf (.exit 0, ⟨[], rp s L (urA L (a + 1) S).a g A (urA L (a + 1) S).s j W wk ws we bk lt e⟩))
      (.leaf (.exit 0, ⟨[], rp s L (urA L (a + 1) S).c g A (urA L (a + 1) S).s j W wk ws we bk lt (erN (urA L (a + 1) S).d)⟩))) .bad) (.leaf (.exit 0, ⟨[], rp s L a g A S j W wk ws we bk lt e⟩)) else .leaf (.exit 0, ⟨[], rp s L a g A S j W wk ws we bk lt e⟩)) .bad
  | _, _ => .bad
theorem loopUn9 : LoopOk (E0 B) 86 sgUn9 bUn9 spUn9 := by
  refine loop_turns (C := Cx B lib6) (L := noL) (cxOk lib6_ok) (noL_ok _) fun vs bs x o h => ?_
  unfold spUn9 at h
  split at h
  · rename_i ty s a g j wk ws we bk lt e L A S W
    rcases T.node_sel h with ⟨hc, h2⟩ | ⟨_, h2⟩
    · rw [Bool.and_eq_true] at hc
      obtain ⟨rfl, he, h0, h1, h3⟩ := rG_is hc.1
      have hl := of_decide_eq_true hc.2
      cases j with
      | true =>
        refine ⟨1, ?_⟩
        rw [← h2]
        exact turns_done (turnJ s L a ⟨g, A, S, true, W, wk, ws, we, bk, lt⟩ S e) (by simp)
      | false =>
        rcases e_is he with rfl | ⟨k, rfl⟩
        · obtain ⟨m, hm⟩ := un9 (B := B) s L ⟨g, A, S, false, W, wk, ws, we, bk, lt⟩ h3 (L.length + 1) a S h0 h1 (by omega) hl
          refine ⟨m, hm.trans ?_⟩
          rcases T.node_sel h2 with ⟨h4, h5⟩ | ⟨h4, h5⟩
          · unfold uOut uZ
            rw [h4, cond_true]
            show (bif decide ((urA L (a + 1) S).d = 0) then _ else _) = _
            rcases T.node_sel h5 with ⟨h6, h7⟩ | ⟨_, h7⟩
            · have h6 := of_decide_eq_true h6
              rcases T.node_sel h7 with ⟨h8, h9⟩ | ⟨h8, h9⟩
              · rw [h8, cond_true]; exact h9
              · rw [h8, cond_false]
                have h8 := of_decide_eq_false h8
                have : (urA L (a + 1) S).d = erN (urA L (a + 1) S).d := by
                  unfold erN
                  show _ = (((urA L (a + 1) S).d.toNat - 1 + 1 : Nat) : Int)
                  omega
                show exUn s L (urA L (a + 1) S).c _ (urA L (a + 1) S).s false (urA L (a + 1) S).d = _
                rw [this]; exact h9
            · simp [T.sel] at h7
          · unfold uOut uZ
            rw [h4, cond_false]
            exact h5
        · refine ⟨1, ?_⟩
          rw [← h2]
          exact uEnd s L ⟨g, A, S, false, W, wk, ws, we, bk, lt⟩ S k h0 h1 h3
    · simp [T.sel] at h2
  · simp [T.sel] at h
noncomputable def eUn9 : LEnt := { id := 7, n := 86, sg := sgUn9, wr := writes bUn9, s := spUn9 }
end Go.Proofs.YtdckpbeioemopabGreatDoor.R9
