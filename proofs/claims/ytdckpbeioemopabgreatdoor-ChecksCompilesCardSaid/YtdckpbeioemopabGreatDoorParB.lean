/-
  Texts put together: ParQry, ParQry2, ParQry3, ParQry4, ParInv, ParInv2, ParQry5.
-/
import Derived.Test.YtdckpbeioemopabGreatDoorParA
import Derived.Test.YtdckpbeioemopabGreatDoorLibA
import Derived.Test.YtdckpbeioemopabGreatDoorLawA
import Derived.Test.YtdckpbeioemopabGreatDoorExA
import Derived.Test.YtdckpbeioemopabGreatDoorPureB
namespace Go.Proofs.YtdckpbeioemopabGreatDoor.Pr
open Go.Am Go Go.Proofs.YtdckpbeioemopabGreatDoor
set_option maxRecDepth 100000
variable {B : Nat → Option Obj}
def seS : List (List UInt8) := [[115, 101, 108, 101, 99, 116]]
def agS : List (List UInt8) := [[99, 111, 117, 110, 116], [115, 117, 109], [109, 105, 110], [109, 97, 120]]
def opS : List (List UInt8) := [[40]]
def stS : List (List UInt8) := [[42]]
def clS : List (List UInt8) := [[41]]
def frS : List (List UInt8) := [[102, 114, 111, 109]]
def joS : List (List UInt8) := [[106, 111, 105, 110]]
def whS : List (List UInt8) := [[119, 104, 101, 114, 101]]
def wiS : List (List UInt8) := [[119, 105, 110, 100, 111, 119]]
def byS : List (List UInt8) := [[98, 121]]
def keS : List (List UInt8) := [[107, 101, 121]]
def laS : List (List UInt8) := [[108, 97, 116, 101]]
def dsS : List (List UInt8) := [[100, 114, 111, 112], [115, 105, 100, 101]]
structure Fl where
  a : Bool
  s : Bool
  w : Bool
abbrev RO := Option Out
def okO (L : List Tok) (f : Fl) (q : Qry) (a : Int) : RO := some ⟨[q.av 1 2 3], [pb 4 a .nilp, nb f.a q.arg, lb f.s q.src, nb f.w q.whr, tb L]⟩
def fl1 (L : List Tok) (f : Fl) (q : Qry) (a c d : Int) : RO := some ⟨[q.av 1 2 3], [pb 4 a (.ptr 5 0 0), nb f.a q.arg, lb f.s q.src, nb f.w q.whr, tb L, fb c d]⟩
def flO (L : List Tok) (f : Fl) (q : Qry) (a c d : Int) : RO := bif decide (a < (L.length : Int)) then fl1 L f q a c d else fl1 L f q a c d
def ndO (L : List Tok) (a : Int) (S : List (List UInt8)) (x y : RO) : RO := gA L a S (bif nxB L a S then x else y)
def exG (L : List Tok) (a : Int) (z : RO) : RO := bif sameTys pTy pTy && okZ L a then z else none
def exO (L : List Tok) (a : Int) (x y : RO) : RO := exG L a (bif decide (zE L a = 0) then x else y)
def sO (L : List Tok) (a : Int) (l : List Int) (z : RO) : RO := bif sameTys pTy pTy && srG L a l then z else none
def uO (L : List Tok) (a : Int) (l : List Int) (z : RO) : RO := bif sameTys pTy pTy && (sameTys qTy qTy && unK L a l) then z else none
def wO (L : List Tok) (a : Int) (z : RO) : RO := bif sameTys pTy pTy && (okA L a wnS && shortT L) then z else none
def fA : Fl := ⟨true, false, false⟩
def qn (g : Int) (A : List Nod) (S : List Int) (j : Bool) (W : List Nod) : Qry := ⟨g, A, S, j, W, 1, 0, 0, false, 1⟩
def e6 (L : List Tok) (f : Fl) (q : Qry) (a : Int) : RO := bif decide (a < (L.length : Int)) then fl1 L f q a (w64 (a - 0)) 38 else okO L f q a
def e5 (L : List Tok) (f : Fl) (q : Qry) (a : Int) : RO := ndO L a laS (ndO L (a + 1) dsS (e6 L f { q with late := u8w (1 + u8w (nx L (a + 1) dsS)) } (a + 1 + 1)) (flO L f { q with late := 1 } (a + 1) (a + 1) 12)) (e6 L f q a)
def e4 (L : List Tok) (f : Fl) (q : Qry) (a : Int) : RO := ndO L a byS (ndO L (a + 1) keS (e5 L f { q with byKey := true } (a + 1 + 1)) (flO L f { q with byKey := true } (a + 1) (a + 1) 12)) (e5 L f q a)
def qw (q : Qry) (r : WR) : Qry := { q with wk := r.k, ws := r.s, we := r.e }
def e3 (L : List Tok) (f : Fl) (q : Qry) (a : Int) : RO := ndO L a wiS (wO L (a + 1) (bif decide ((wnR L q.join (a + 1)).d = 0) then e4 L f (qw q (wnR L q.join (a + 1))) (wnR L q.join (a + 1)).a else flO L f (qw q (wnR L q.join (a + 1))) (wnR L q.join (a + 1)).a (wnR L q.join (a + 1)).c (wnR L q.join (a + 1)).d)) (flO L f q a a 12)
def e2 (L : List Tok) (f : Fl) (q : Qry) (a : Int) : RO := ndO L a whS (exO L (a + 1) (e3 L { f with w := true } { q with whr := zX L (a + 1) } (zN L (a + 1))) (flO L { f with w := true } { q with whr := zX L (a + 1) } (zN L (a + 1)) (zN L (a + 1)) (zE L (a + 1)))) (e3 L f q a)
def fJ : Fl := ⟨true, true, true⟩
def fU : Fl := ⟨false, true, false⟩
def fX : Fl := ⟨false, false, false⟩
def e1 (L : List Tok) (g : Int) (A : List Nod) (n a : Int) : RO :=
  ndO L a joS (sO L (a + 1) [n] (bif nxB L (a + 1) abS then (bif hasI (nx L (a + 1) abS) [n] then flO L fJ (qn g A ([n] ++ [nx L (a + 1) abS]) true []) (a + 1 + 1) (a + 1) 43 else e2 L fJ (qn g A ([n] ++ [nx L (a + 1) abS]) true []) (a + 1 + 1)) else flO L fJ (qn g A ([n] ++ [0]) true []) (a + 1) (a + 1) 12))
    (ndO L a unS (uO L (a + 1) [n] (bif decide ((urA L (a + 1) [n]).d = 0) then e2 L fU (qn g A (urA L (a + 1) [n]).s false []) (urA L (a + 1) [n]).a else flO L fX (qn g A (urA L (a + 1) [n]).s false []) (urA L (a + 1) [n]).a (urA L (a + 1) [n]).c (urA L (a + 1) [n]).d)) (e2 L fU (qn g A [n] false []) a))
def flA (L : List Tok) (g : Int) (A : List Nod) (a c d : Int) : RO := flO L fA (qn g A [0] false []) a c d
def e0 (L : List Tok) (g : Int) (A : List Nod) (a : Int) : RO := ndO L a clS (ndO L (a + 1) frS (sO L (a + 1 + 1) [] (bif nxB L (a + 1 + 1) abS then e1 L g A (nx L (a + 1 + 1) abS) (a + 1 + 1 + 1) else flA L g A (a + 1 + 1) (a + 1 + 1) 12)) (flA L g A (a + 1) (a + 1) 12)) (flA L g A a a 12)
def agI (L : List Tok) (a : Int) : Int := u8w (1 + u8w (nx L a agS))
def eQ (L : List Tok) (a : Int) : RO := ndO L a seS (ndO L (a + 1) agS (ndO L (a + 1 + 1) opS
    (bif decide (agI L (a + 1) = 1) then ndO L (a + 1 + 1 + 1) stS (e0 L (agI L (a + 1)) [] (a + 1 + 1 + 1 + 1)) (flA L (agI L (a + 1)) [] (a + 1 + 1 + 1) (a + 1 + 1 + 1) 12)
      else exO L (a + 1 + 1 + 1) (e0 L (agI L (a + 1)) (zX L (a + 1 + 1 + 1)) (zN L (a + 1 + 1 + 1))) (flA L (agI L (a + 1)) (zX L (a + 1 + 1 + 1)) (zN L (a + 1 + 1 + 1)) (zN L (a + 1 + 1 + 1)) (zE L (a + 1 + 1 + 1))))
    (bif decide (agI L (a + 1) = 1) then flA L (agI L (a + 1)) [] (a + 1 + 1) (a + 1 + 1) 12 else flA L (agI L (a + 1)) [] (a + 1 + 1) (a + 1 + 1) 12)) (flA L 1 [] (a + 1) (a + 1) 12)) (flA L 1 [] a a 12)
end Go.Proofs.YtdckpbeioemopabGreatDoor.Pr
namespace Go.Proofs.YtdckpbeioemopabGreatDoor.Pr
open Go.Am Go Go.Proofs.YtdckpbeioemopabGreatDoor
set_option maxRecDepth 100000
set_option maxHeartbeats 0
variable {B : Nat → Option Obj}
theorem tQry (L : List Tok) (a : Int) : runL B lib4 [eUn] Tryz.f37 [.ptr 0 0 0] [pb 1 a .nilp, tb L] = eQ L a := by kernel_rfl
end Go.Proofs.YtdckpbeioemopabGreatDoor.Pr
namespace Go.Proofs.YtdckpbeioemopabGreatDoor.Pr
open Go.Am Go Go.Proofs.YtdckpbeioemopabGreatDoor
set_option maxRecDepth 100000
variable {B : Nat → Option Obj}
structure QR where
  q : Qry
  a : Int
  c : Int
  d : Int
def ndP (L : List Tok) (a : Int) (S : List (List UInt8)) (x y : QR) : QR := bif nxB L a S then x else y
def p6 (L : List Tok) (q : Qry) (a : Int) : QR := bif decide (a < (L.length : Int)) then ⟨q, a, a, 38⟩ else ⟨q, a, 0, 0⟩
def p5 (L : List Tok) (q : Qry) (a : Int) : QR := ndP L a laS (ndP L (a + 1) dsS (p6 L { q with late := u8w (1 + u8w (nx L (a + 1) dsS)) } (a + 1 + 1)) ⟨{ q with late := 1 }, a + 1, a + 1, 12⟩) (p6 L q a)
def p4 (L : List Tok) (q : Qry) (a : Int) : QR := ndP L a byS (ndP L (a + 1) keS (p5 L { q with byKey := true } (a + 1 + 1)) ⟨{ q with byKey := true }, a + 1, a + 1, 12⟩) (p5 L q a)
def p3 (L : List Tok) (q : Qry) (a : Int) : QR := ndP L a wiS (bif decide ((wnR L q.join (a + 1)).d = 0) then p4 L (qw q (wnR L q.join (a + 1))) (wnR L q.join (a + 1)).a else ⟨qw q (wnR L q.join (a + 1)), (wnR L q.join (a + 1)).a, (wnR L q.join (a + 1)).c, (wnR L q.join (a + 1)).d⟩) ⟨q, a, a, 12⟩
def exP (L : List Tok) (a : Int) (x y : QR) : QR := bif decide (zE L a = 0) then x else y
def p2 (L : List Tok) (q : Qry) (a : Int) : QR := ndP L a whS (exP L (a + 1) (p3 L { q with whr := zX L (a + 1) } (zN L (a + 1))) ⟨{ q with whr := zX L (a + 1) }, zN L (a + 1), zN L (a + 1), zE L (a + 1)⟩) (p3 L q a)
def p1 (L : List Tok) (g : Int) (A : List Nod) (n a : Int) : QR :=
  ndP L a joS (ndP L (a + 1) abS (bif hasI (nx L (a + 1) abS) [n] then ⟨qn g A ([n] ++ [nx L (a + 1) abS]) true [], a + 1 + 1, a + 1, 43⟩ else p2 L (qn g A ([n] ++ [nx L (a + 1) abS]) true []) (a + 1 + 1)) ⟨qn g A ([n] ++ [0]) true [], a + 1, a + 1, 12⟩)
    (ndP L a unS (bif decide ((urA L (a + 1) [n]).d = 0) then p2 L (qn g A (urA L (a + 1) [n]).s false []) (urA L (a + 1) [n]).a else ⟨qn g A (urA L (a + 1) [n]).s false [], (urA L (a + 1) [n]).a, (urA L (a + 1) [n]).c, (urA L (a + 1) [n]).d⟩) (p2 L (qn g A [n] false []) a))
def pF (g : Int) (A : List Nod) (a c d : Int) : QR := ⟨qn g A [0] false [], a, c, d⟩
def p0 (L : List Tok) (g : Int) (A : List Nod) (a : Int) : QR := ndP L a clS (ndP L (a + 1) frS (ndP L (a + 1 + 1) abS (p1 L g A (nx L (a + 1 + 1) abS) (a + 1 + 1 + 1)) (pF g A (a + 1 + 1) (a + 1 + 1) 12)) (pF g A (a + 1) (a + 1) 12)) (pF g A a a 12)
def pQ (L : List Tok) (a : Int) : QR := ndP L a seS (ndP L (a + 1) agS (ndP L (a + 1 + 1) opS
    (bif decide (agI L (a + 1) = 1) then ndP L (a + 1 + 1 + 1) stS (p0 L (agI L (a + 1)) [] (a + 1 + 1 + 1 + 1)) (pF (agI L (a + 1)) [] (a + 1 + 1 + 1) (a + 1 + 1 + 1) 12)
      else exP L (a + 1 + 1 + 1) (p0 L (agI L (a + 1)) (zX L (a + 1 + 1 + 1)) (zN L (a + 1 + 1 + 1))) (pF (agI L (a + 1)) (zX L (a + 1 + 1 + 1)) (zN L (a + 1 + 1 + 1)) (zN L (a + 1 + 1 + 1)) (zE L (a + 1 + 1 + 1))))
    (pF (agI L (a + 1)) [] (a + 1 + 1) (a + 1 + 1) 12)) (pF 1 [] (a + 1) (a + 1) 12)) (pF 1 [] a a 12)
def lq (k : Nat) (a : Int) (w : AV) : Blk := ⟨false, .gen pTy [[.slw k, i64 a, w]]⟩
def qbO (L : List Tok) (r : QR) : List Blk := [lq 4 r.a .nilp, nb false r.q.arg, lb false r.q.src, nb false r.q.whr, tb L]
def qbF (L : List Tok) (r : QR) : List Blk := [lq 4 r.a (.ptr 5 0 0), nb false r.q.arg, lb false r.q.src, nb false r.q.whr, tb L, ⟨false, .gen fTy [[i64 r.c, i64 r.d]]⟩]
def QR.blks (L : List Tok) (r : QR) : List Blk := bif decide (r.d = 0) then qbO L r else qbF L r
def Tells (L : List Tok) (z : RO) (r : QR) : Prop := ∃ o, z = some o ∧ [r.q.av 1 2 3] = o.vals ∧ r.blks L = o.blks.map lendB
theorem ok_tells {L : List Tok} {f : Fl} {q : Qry} {a c : Int} : Tells L (okO L f q a) ⟨q, a, c, 0⟩ := ⟨_, rfl, rfl, rfl⟩
theorem fl_tells {L : List Tok} {f : Fl} {q : Qry} {a c d : Int} (h : d ≠ 0) : Tells L (fl1 L f q a c d) ⟨q, a, c, d⟩ := ⟨_, rfl, rfl, by
  unfold QR.blks
  rw [decide_eq_false h]; rfl⟩
theorem fl2_tells {L : List Tok} {f : Fl} {q : Qry} {a c d : Int} (h : d ≠ 0) : Tells L (flO L f q a c d) ⟨q, a, c, d⟩ := by
  unfold flO
  cases decide (a < (L.length : Int)) <;> exact fl_tells h
structure TkO (L : List Tok) : Prop where
  v : L.all okV = true
  n : L.length ≤ 200
  s : shortT L = true
theorem nd_tells {L : List Tok} (hL : TkO L) {a : Int} {S : List (List UInt8)} (hS : S.length ≤ 1000) (h0 : 0 ≤ a) (h1 : a ≤ (L.length : Int)) {x y : RO} {X Y : QR} (hx : a < (L.length : Int) → Tells L x X) (hy : Tells L y Y) : Tells L (ndO L a S x y) (ndP L a S X Y) := by
  unfold ndO ndP
  have hn := hL.n
  rw [gA_is (okA_of S hS h0 h1 (by omega))]
  cases h : nxB L a S with
  | true => exact hx (nxB_lt h)
  | false => exact hy
theorem z_in {L : List Tok} (hL : TkO L) {a : Int} (h0 : 0 ≤ a) (h1 : a ≤ (L.length : Int)) : a ≤ zN L a ∧ zN L a ≤ (L.length : Int) := by
  obtain ⟨z1, z2, z3⟩ := z_ok hL.v hL.n h0 h1
  have hdl : (L.drop a.toNat).length = L.length - a.toNat := List.length_drop
  have hl : PR.le (L.drop a.toNat).length (zR a L) := pE_len 1500 1 _
  cases hz : zR a L with
  | out =>
    have := zR_in hL.n a
    rw [hz] at this; cases this
  | bad er n =>
    rw [hz] at z2 hl
    have hl : n ≤ (L.drop a.toNat).length := hl
    rw [hdl] at hl
    rw [z2]
    show a ≤ (L.length : Int) - n ∧ (L.length : Int) - n ≤ (L.length : Int)
    omega
  | ok e r =>
    rw [hz] at z2 hl
    have hl : r.length ≤ (L.drop a.toNat).length := hl
    rw [hdl] at hl
    rw [z2]
    show a ≤ (L.length : Int) - r.length ∧ (L.length : Int) - r.length ≤ (L.length : Int)
    omega
theorem ex_tells {L : List Tok} (hL : TkO L) {a : Int} (h0 : 0 ≤ a) (h1 : a ≤ (L.length : Int)) {x y : RO} {X Y : QR} (hx : Tells L x X) (hy : zE L a ≠ 0 → Tells L y Y) : Tells L (exO L a x y) (exP L a X Y) := by
  unfold exO exG exP
  have hz := z_in hL h0 h1
  have hn := hL.n
  rw [show sameTys pTy pTy = true from rfl, show okZ L a = true by unfold okZ; rw [hL.s, decide_eq_true (show Rng (zN L a) by unfold Rng; omega)]; rfl]
  simp only [Bool.and_self, cond_true]
  by_cases h : zE L a = 0
  · rw [decide_eq_true h]; exact hx
  · rw [decide_eq_false h]; exact hy h
theorem t6 {L : List Tok} {f : Fl} {q : Qry} {a : Int} (hL : TkO L) (h0 : 0 ≤ a) (h1 : a ≤ (L.length : Int)) : Tells L (e6 L f q a) (p6 L q a) := by
  unfold e6 p6
  have hn := hL.n
  rw [show w64 (a - 0) = a by rw [Int.sub_zero]; exact w64_rng (by unfold Rng; omega)]
  cases decide (a < (L.length : Int)) with
  | true => exact fl_tells (by decide)
  | false => exact ok_tells
theorem t5 {L : List Tok} {f : Fl} {q : Qry} {a : Int} (hL : TkO L) (h0 : 0 ≤ a) (h1 : a ≤ (L.length : Int)) : Tells L (e5 L f q a) (p5 L q a) :=
  nd_tells hL (by decide) h0 h1 (fun h => nd_tells hL (by decide) (by omega) (by omega) (fun h => t6 hL (by omega) (by omega)) (fl2_tells (by decide))) (t6 hL h0 h1)
theorem t4 {L : List Tok} {f : Fl} {q : Qry} {a : Int} (hL : TkO L) (h0 : 0 ≤ a) (h1 : a ≤ (L.length : Int)) : Tells L (e4 L f q a) (p4 L q a) :=
  nd_tells hL (by decide) h0 h1 (fun h => nd_tells hL (by decide) (by omega) (by omega) (fun h => t5 hL (by omega) (by omega)) (fl2_tells (by decide))) (t5 hL h0 h1)
theorem wnQ_in {L : List Tok} {k a : Int} (h : (wnQ L k a).d = 0) : a ≤ (wnQ L k a).a ∧ (wnQ L k a).a ≤ (L.length : Int) := by
  unfold wnQ at h ⊢
  cases hf : nmF L a with
  | true => rw [hf] at h; cases h
  | false =>
  rw [hf] at h
  have l1 := nmF_lt hf
  cases h2 : nmR L a mxS with
  | true => rw [h2] at h; cases h
  | false =>
  rw [h2] at h
  cases h3 : decide (k = 2) with
  | false =>
    simp only [cond_false]
    omega
  | true =>
  rw [h3] at h
  cases h4 : nxB L (a + 1) evS with
  | false => rw [h4] at h; cases h
  | true =>
  rw [h4] at h
  cases h5 : nmF L (a + 1 + 1) with
  | true => rw [h5] at h; cases h
  | false =>
  rw [h5] at h
  have l2 := nmF_lt h5
  cases h6 : nmR L (a + 1 + 1) (nmN L a) with
  | true => rw [h6] at h; cases h
  | false =>
  rw [h6] at h
  cases h7 : fitsW k (nmN L a) (nmN L (a + 1 + 1)) with
  | false => rw [h7] at h; cases h
  | true =>
    simp only [cond_false, cond_true]
    omega
theorem wnR_in {L : List Tok} {j : Bool} {a : Int} (h : (wnR L j a).d = 0) : a ≤ (wnR L j a).a ∧ (wnR L j a).a ≤ (L.length : Int) := by
  unfold wnR at h ⊢
  cases hx : nxB L a wnS with
  | false => rw [hx] at h; cases h
  | true =>
  rw [hx] at h
  cases hj : (j && !decide (wkI L a = 1)) with
  | true => rw [hj] at h; cases h
  | false =>
    rw [hj] at h
    have := wnQ_in h
    simp only [cond_false, cond_true]
    omega
theorem t3 {L : List Tok} {f : Fl} {q : Qry} {a : Int} (hL : TkO L) (h0 : 0 ≤ a) (h1 : a ≤ (L.length : Int)) : Tells L (e3 L f q a) (p3 L q a) := by
  refine nd_tells hL (by decide) h0 h1 (fun h => ?_) (fl2_tells (by decide))
  have hn := hL.n
  have e : ∀ z : RO, wO L (a + 1) z = z := fun z => by
    unfold wO
    rw [okA_of wnS (by decide) (show 0 ≤ a + 1 by omega) (by omega) (by omega), hL.s]; rfl
  rw [e]
  by_cases hd : (wnR L q.join (a + 1)).d = 0
  · rw [decide_eq_true hd]
    have hb := wnR_in hd
    exact t4 hL (by omega) (by omega)
  · rw [decide_eq_false hd]
    exact fl2_tells hd
theorem t2 {L : List Tok} {f : Fl} {q : Qry} {a : Int} (hL : TkO L) (h0 : 0 ≤ a) (h1 : a ≤ (L.length : Int)) : Tells L (e2 L f q a) (p2 L q a) := by
  refine nd_tells hL (by decide) h0 h1 (fun h => ?_) (t3 hL h0 h1)
  have hb := z_in hL (a := a + 1) (by omega) (by omega)
  exact ex_tells hL (by omega) (by omega) (t3 hL (by omega) (by omega)) fun hz => fl2_tells hz
theorem unR_in {L : List Tok} : ∀ (k : Nat) (a : Int) (l : List Int), a ≤ (L.length : Int) → (unR k L a l).d = 0 → a ≤ (unR k L a l).a ∧ (unR k L a l).a ≤ (L.length : Int)
  | 0, a, l, ha, _ => ⟨Int.le_refl _, ha⟩
  | k + 1, a, l, ha, h => by
    unfold unR at h ⊢
    cases h1 : nxB L a abS with
    | false => rw [h1] at h; cases h
    | true =>
    rw [h1] at h
    have l1 := nxB_lt h1
    cases h2 : hasI (nx L a abS) l with
    | true => rw [h2] at h; cases h
    | false =>
    rw [h2] at h
    cases h3 : nxB L (a + 1) unS with
    | false =>
      simp only [cond_false, cond_true]
      omega
    | true =>
      rw [h3] at h
      have l2 := nxB_lt h3
      have := unR_in k (a + 1 + 1) (l ++ [nx L a abS]) (by omega) h
      simp only [cond_false, cond_true]
      omega
theorem sO_is {L : List Tok} (hL : TkO L) {a : Int} {l : List Int} (hl : l.length ≤ 200) (h0 : 0 ≤ a) (h1 : a ≤ (L.length : Int)) (z : RO) : sO L a l z = z := by
  have hn := hL.n
  unfold sO srG
  rw [okA_of abS (by decide) h0 h1 (by omega), decide_eq_true hl]; rfl
theorem t1 {L : List Tok} {g : Int} {A : List Nod} {n a : Int} (hL : TkO L) (h0 : 0 ≤ a) (h1 : a ≤ (L.length : Int)) : Tells L (e1 L g A n a) (p1 L g A n a) := by
  have hn := hL.n
  refine nd_tells hL (by decide) h0 h1 (fun h => ?_) (nd_tells hL (by decide) h0 h1 (fun h => ?_) (t2 hL h0 h1))
  · rw [sO_is hL (by simp) (by omega) (by omega)]
    unfold ndP
    cases hx : nxB L (a + 1) abS with
    | false => exact fl2_tells (by decide)
    | true =>
      have l1 := nxB_lt hx
      cases hasI (nx L (a + 1) abS) [n] with
      | true => exact fl2_tells (by decide)
      | false => exact t2 hL (by omega) (by omega)
  · have e : ∀ z : RO, uO L (a + 1) [n] z = z := fun z => by
      unfold uO unK
      rw [okA_of [] (by decide) (show 0 ≤ a + 1 by omega) (by omega) (by omega), decide_eq_true (show 2 * (([n] : List Int).length : Int) + (L.length : Int) ≤ 400 + (a + 1) by simp only [List.length_singleton]; omega)]; rfl
    rw [e]
    by_cases hd : (urA L (a + 1) [n]).d = 0
    · rw [decide_eq_true hd]
      have hb := unR_in (L.length + 1) (a + 1) [n] (by omega) hd
      have hb : a + 1 ≤ (urA L (a + 1) [n]).a ∧ (urA L (a + 1) [n]).a ≤ (L.length : Int) := hb
      exact t2 hL (by omega) (by omega)
    · rw [decide_eq_false hd]
      exact fl2_tells hd
theorem t0 {L : List Tok} {g : Int} {A : List Nod} {a : Int} (hL : TkO L) (h0 : 0 ≤ a) (h1 : a ≤ (L.length : Int)) : Tells L (e0 L g A a) (p0 L g A a) := by
  refine nd_tells hL (by decide) h0 h1 (fun h => nd_tells hL (by decide) (by omega) (by omega) (fun h => ?_) (fl2_tells (by decide))) (fl2_tells (by decide))
  rw [sO_is hL (by simp) (by omega) (by omega)]
  unfold ndP
  cases hx : nxB L (a + 1 + 1) abS with
  | false => exact fl2_tells (by decide)
  | true =>
    have l1 := nxB_lt hx
    exact t1 hL (by omega) (by omega)
theorem tQ {L : List Tok} {a : Int} (hL : TkO L) (h0 : 0 ≤ a) (h1 : a ≤ (L.length : Int)) : Tells L (eQ L a) (pQ L a) := by
  refine nd_tells hL (by decide) h0 h1 (fun h => nd_tells hL (by decide) (by omega) (by omega) (fun h => nd_tells hL (by decide) (by omega) (by omega) (fun h => ?_) ?_) (fl2_tells (by decide))) (fl2_tells (by decide))
  · cases decide (agI L (a + 1) = 1) with
    | true => exact nd_tells hL (by decide) (by omega) (by omega) (fun h => t0 hL (by omega) (by omega)) (fl2_tells (by decide))
    | false =>
      have hb := z_in hL (a := a + 1 + 1 + 1) (by omega) (by omega)
      exact ex_tells hL (by omega) (by omega) (t0 hL (by omega) (by omega)) fun hz => fl2_tells hz
  · cases decide (agI L (a + 1) = 1) <;> exact fl2_tells (by decide)
end Go.Proofs.YtdckpbeioemopabGreatDoor.Pr
namespace Go.Proofs.YtdckpbeioemopabGreatDoor.Pr
open Go.Am Go Go.Proofs.YtdckpbeioemopabGreatDoor
set_option maxRecDepth 100000
variable {B : Nat → Option Obj}
def tkO (L : List Tok) : Bool := L.all okV && (decide (L.length ≤ 200) && shortT L)
theorem tkO_is {L : List Tok} (h : tkO L = true) : TkO L := by
  unfold tkO at h
  simp only [Bool.and_eq_true] at h
  exact ⟨h.1, of_decide_eq_true h.2.1, h.2.2⟩
theorem tkO_of {L : List Tok} (h : TkO L) : tkO L = true := by
  unfold tkO
  rw [h.v, decide_eq_true h.n, h.s]; rfl
def optT : Option Out → T Out
  | some o => .leaf o
  | none => .bad
theorem optT_sel (z : Option Out) : (optT z).sel = z := by cases z <;> rfl
def sQx : FSpec
  | [.ptr 0 0 0], [⟨true, .gen s [[.slw 1, .int .i64 a, .nilp]]⟩, ⟨false, .toks L⟩] => .node (sameTys s pTy) (optT (eQ L a)) .bad
  | _, _ => .bad
theorem okQx (hB : Laid B) : FnOk (E0 B) 37 sQx := by
  refine fnL (lib4_ok hB) (ls := [eUn]) Tryz.func37 (by kernel_rfl) (by kernel_rfl) (fun x hx => ?_) fun vs bs r h => ?_
  · simp only [List.mem_singleton] at hx; subst hx
    exact ⟨bUn, by kernel_rfl, rfl, loopUn hB⟩
  unfold sQx at h
  split at h
  · rename_i s a L
    rcases T.node_sel h with ⟨hc, h2⟩ | ⟨_, h2⟩
    · have hs := sameTys_eq hc
      subst hs
      rw [optT_sel] at h2
      exact (tQry L a).trans h2
    · simp [T.sel] at h2
  · simp [T.sel] at h
def sQry : FSpec
  | [.ptr 0 0 0], [⟨true, .gen s [[.slw 1, .int .i64 0, .nilp]]⟩, ⟨false, .toks L⟩] => .node (sameTys s pTy && tkO L) (.node (decide ((pQ L 0).d = 0)) (.leaf ⟨[(pQ L 0).q.av 1 2 3], qbO L (pQ L 0)⟩) (.leaf ⟨[(pQ L 0).q.av 1 2 3], qbF L (pQ L 0)⟩)) .bad
  | _, _ => .bad
theorem okQry (hB : Laid B) : FnOk (E0 B) 37 sQry := fnOk_lend (okQx hB) fun vs bs o' h => by
  unfold sQry at h
  split at h
  · rename_i s L
    rcases T.node_sel h with ⟨hc, h2⟩ | ⟨_, h2⟩
    · rw [Bool.and_eq_true] at hc
      obtain ⟨o, h3, h4, h5⟩ := tQ (a := 0) (tkO_is hc.2) (by omega) (by omega)
      refine ⟨o, ?_, ?_⟩
      · show (T.node (sameTys s pTy) (optT (eQ L 0)) .bad : T Out).sel = some o
        show (bif sameTys s pTy then (optT (eQ L 0)).sel else _) = _
        rw [hc.1, cond_true, optT_sel]; exact h3
      · rw [← h4, ← h5]
        unfold QR.blks
        by_cases hd : (pQ L 0).d = 0
        · have h2 : (bif decide ((pQ L 0).d = 0) then some (⟨[(pQ L 0).q.av 1 2 3], qbO L (pQ L 0)⟩ : Out) else some ⟨[(pQ L 0).q.av 1 2 3], qbF L (pQ L 0)⟩) = some o' := h2
          rw [decide_eq_true hd] at h2 ⊢
          simp only [cond_true, Option.some.injEq] at h2
          subst h2; exact ⟨rfl, rfl⟩
        · have h2 : (bif decide ((pQ L 0).d = 0) then some (⟨[(pQ L 0).q.av 1 2 3], qbO L (pQ L 0)⟩ : Out) else some ⟨[(pQ L 0).q.av 1 2 3], qbF L (pQ L 0)⟩) = some o' := h2
          rw [decide_eq_false hd] at h2 ⊢
          simp only [cond_false, Option.some.injEq] at h2
          subst h2; exact ⟨rfl, rfl⟩
    · simp [T.sel] at h2
  · simp [T.sel] at h
noncomputable def lib5 : Tb := (37, [], sQry) :: (25, [], Lx.sAll) :: []
theorem lib5_ok (hB : Laid B) : TbOk B lib5 := (TbOk.nil.add (Lx.okAll hB)).add (okQry hB)
def qZ : Qry := ⟨0, [], [], false, [], 0, 0, 0, false, 0⟩
def pzB : List Blk := [nb true [], lb true [], nb true []]
def pzO (n e : Int) : RO := some ⟨[qZ.av 0 1 2, i64 n, i64 e], pzB⟩
def psL (s : List UInt8) (L : List Tok) (r : QR) : RO := bif decide (r.d = 0) then some ⟨[r.q.av 0 1 2, i64 s.length, i64 0], [nb false r.q.arg, lb false r.q.src, nb false r.q.whr]⟩ else
  bif decide (r.c < (L.length : Int)) then Ck.inb r.c L.length (pzO (tkA L r.c).pos r.d) else pzO s.length r.d
theorem tPar (s : List UInt8) : runT B lib5 Tryz.f11 [.str s] [] = bif !decide (lexE s = 0) then pzO (lexN s) (lexE s) else bif sameTys pTy pTy && tkO (lexL s) then psL s (lexL s) (pQ (lexL s) 0) else none := by kernel_rfl
end Go.Proofs.YtdckpbeioemopabGreatDoor.Pr
namespace Go.Proofs.YtdckpbeioemopabGreatDoor.Pr
open Go.Am Go Go.Proofs.YtdckpbeioemopabGreatDoor
set_option maxRecDepth 100000
theorem nd_ok {L : List Tok} {a : Int} {S : List (List UInt8)} {X Y : QR} (h : (ndP L a S X Y).d = 0) : (nxB L a S = true ∧ ndP L a S X Y = X ∧ X.d = 0) ∨ (nxB L a S = false ∧ ndP L a S X Y = Y ∧ Y.d = 0) := by
  unfold ndP at h ⊢
  cases hx : nxB L a S with
  | true => rw [hx] at h; exact .inl ⟨rfl, rfl, h⟩
  | false => rw [hx] at h; exact .inr ⟨rfl, rfl, h⟩
theorem nd_need {L : List Tok} {a : Int} {S : List (List UInt8)} {X Y : QR} (hY : Y.d ≠ 0) (h : (ndP L a S X Y).d = 0) : nxB L a S = true ∧ ndP L a S X Y = X ∧ X.d = 0 := by
  rcases nd_ok h with h | ⟨_, _, h⟩
  · exact h
  · exact (hY h).elim
theorem nxI_lt {L : List Tok} {a : Int} {S : List (List UInt8)} (h : nxB L a S = true) : nxI L a S < S.length := by
  unfold nxB at h
  simp only [Bool.and_eq_true] at h
  exact of_decide_eq_true h.2.2
theorem u8_small {n : Int} (h0 : 0 ≤ n) (h : n < 100) : u8w (1 + u8w n) = n + 1 := by
  unfold u8w
  have e : ∀ x : Int, 0 ≤ x → x ≤ 200 → IntKind.u8.wrap x = x := fun x h0 h1 => by
    simp [IntKind.wrap, IntKind.bits, IntKind.signed]; omega
  rw [e n h0 (by omega), e (1 + n) (by omega) (by omega)]
  omega
theorem inv6 {L : List Tok} {q : Qry} {a : Int} (h : (p6 L q a).d = 0) (ha : a ≤ (L.length : Int)) : p6 L q a = ⟨q, a, 0, 0⟩ ∧ a = (L.length : Int) := by
  unfold p6 at h ⊢
  by_cases hl : a < (L.length : Int)
  · rw [decide_eq_true hl] at h; cases h
  · rw [decide_eq_false hl]; exact ⟨rfl, by omega⟩
def evn (x : Int) : Prop := ∃ m : Int, x = 2 * m
theorem inv5 {L : List Tok} {q : Qry} {a : Int} (hq : q.late = 1) (h : (p5 L q a).d = 0) (ha : a ≤ (L.length : Int)) : ∃ l, (l = 1 ∨ l = 2) ∧ (p5 L q a).q = { q with late := l } ∧ evn ((L.length : Int) - a) := by
  unfold p5 at h ⊢
  rcases nd_ok h with ⟨h1, h2, h3⟩ | ⟨h1, h2, h3⟩
  · obtain ⟨g1, g2, g3⟩ := nd_need (show (12 : Int) ≠ 0 by decide) h3
    have l1 := nxB_lt h1
    have l2 := nxB_lt g1
    obtain ⟨k1, k2⟩ := inv6 g3 (by omega)
    rw [h2, g2, k1]
    have hn : nxI L (a + 1) dsS < 2 := nxI_lt g1
    refine ⟨_, ?_, rfl, 1, by omega⟩
    rw [u8_small (show 0 ≤ nx L (a + 1) dsS by unfold nx; omega) (by unfold nx; omega)]
    unfold nx
    omega
  · obtain ⟨k1, k2⟩ := inv6 h3 ha
    rw [h2, k1]
    exact ⟨1, .inl rfl, by rw [← hq], 0, by omega⟩
theorem inv4 {L : List Tok} {q : Qry} {a : Int} (hq : q.late = 1) (h : (p4 L q a).d = 0) (ha : a ≤ (L.length : Int)) : ∃ b l, (l = 1 ∨ l = 2) ∧ (p4 L q a).q = { q with byKey := b, late := l } ∧ evn ((L.length : Int) - a) := by
  unfold p4 at h ⊢
  rcases nd_ok h with ⟨h1, h2, h3⟩ | ⟨h1, h2, h3⟩
  · obtain ⟨g1, g2, g3⟩ := nd_need (show (12 : Int) ≠ 0 by decide) h3
    have l1 := nxB_lt h1
    have l2 := nxB_lt g1
    obtain ⟨l, k1, k2, m, k3⟩ := inv5 (q := { q with byKey := true }) hq g3 (by omega)
    rw [h2, g2, k2]
    exact ⟨true, l, k1, rfl, m + 1, by omega⟩
  · obtain ⟨l, k1, k2, k3⟩ := inv5 hq h3 ha
    rw [h2, k2]
    exact ⟨q.byKey, l, k1, rfl, k3⟩
theorem wkI_in {L : List Tok} {a : Int} (h : nxB L a wnS = true) : 1 ≤ wkI L a ∧ wkI L a ≤ 3 := by
  have hn : nxI L a wnS < 3 := nxI_lt h
  unfold wkI
  rw [u8_small (by unfold nx; omega) (by unfold nx; omega)]
  unfold nx; omega
theorem wnQ_ok {L : List Tok} {k a : Int} (hk : 1 ≤ k ∧ k ≤ 3) (h : (wnQ L k a).d = 0) : (wnQ L k a).k = k ∧ fitsW k (wnQ L k a).s (wnQ L k a).e = true ∧ ((k ≠ 2 ∧ (wnQ L k a).a = a + 1) ∨ (k = 2 ∧ (wnQ L k a).a = a + 3)) := by
  unfold wnQ at h ⊢
  cases hf : nmF L a with
  | true => rw [hf] at h; cases h
  | false =>
  rw [hf] at h
  cases h2 : nmR L a mxS with
  | true => rw [h2] at h; cases h
  | false =>
  rw [h2] at h
  have hr := h2
  unfold nmR at hr
  rw [Bool.or_eq_false_iff] at hr
  have r1 := of_decide_eq_false hr.1
  have r2 := of_decide_eq_false hr.2
  unfold mxS at r2
  by_cases h3 : k = 2
  · rw [decide_eq_true h3] at h ⊢
    cases h4 : nxB L (a + 1) evS with
    | false => rw [h4] at h; cases h
    | true =>
    rw [h4] at h
    cases h5 : nmF L (a + 1 + 1) with
    | true => rw [h5] at h; cases h
    | false =>
    rw [h5] at h
    cases h6 : nmR L (a + 1 + 1) (nmN L a) with
    | true => rw [h6] at h; cases h
    | false =>
    rw [h6] at h
    cases h7 : fitsW k (nmN L a) (nmN L (a + 1 + 1)) with
    | false => rw [h7] at h; cases h
    | true =>
      simp only [cond_false, cond_true]
      exact ⟨trivial, h7, .inr ⟨h3, by omega⟩⟩
  · rw [decide_eq_false h3]
    simp only [cond_false]
    refine ⟨trivial, ?_, .inl ⟨h3, trivial⟩⟩
    unfold fitsW
    rw [decide_eq_true (show 1 ≤ nmN L a by omega), decide_eq_true (show nmN L a ≤ 1073741824 by omega), decide_eq_false h3]
    rcases (show k = 1 ∨ k = 3 by omega) with rfl | rfl <;> rfl
theorem wnR_ok {L : List Tok} {j : Bool} {a : Int} (h : (wnR L j a).d = 0) : fitsW (wnR L j a).k (wnR L j a).s (wnR L j a).e = true ∧ (j = true → (wnR L j a).k = 1) ∧ ((wnR L j a).a = a + 2 ∨ (wnR L j a).a = a + 4) := by
  unfold wnR at h ⊢
  cases hx : nxB L a wnS with
  | false => rw [hx] at h; cases h
  | true =>
  rw [hx] at h
  have hk := wkI_in hx
  cases hj : (j && !decide (wkI L a = 1)) with
  | true => rw [hj] at h; cases h
  | false =>
    rw [hj] at h
    obtain ⟨e1, e2, e3⟩ := wnQ_ok hk h
    simp only [cond_false, cond_true]
    refine ⟨by rw [e1]; exact e2, fun hjt => ?_, by omega⟩
    rw [e1]
    rw [hjt, Bool.true_and] at hj
    rw [Bool.not_eq_false'] at hj
    exact of_decide_eq_true hj
def WQ (r : Qry) : Prop := fitsW r.wk r.ws r.we = true ∧ (r.join = true → r.wk = 1) ∧ (r.late = 1 ∨ r.late = 2)
theorem inv3 {L : List Tok} {q : Qry} {a : Int} (hq : q.late = 1) (h : (p3 L q a).d = 0) : ∃ k s e b l, (p3 L q a).q = { q with wk := k, ws := s, we := e, byKey := b, late := l } ∧ WQ { q with wk := k, ws := s, we := e, byKey := b, late := l } ∧ evn ((L.length : Int) - a - 1) := by
  unfold p3 at h ⊢
  obtain ⟨g1, g2, g3⟩ := nd_need (show (12 : Int) ≠ 0 by decide) h
  have l1 := nxB_lt g1
  rw [g2]
  by_cases hd : (wnR L q.join (a + 1)).d = 0
  · rw [decide_eq_true hd] at g3 ⊢
    have hb := wnR_in hd
    obtain ⟨w1, w2, w3⟩ := wnR_ok hd
    obtain ⟨b, l, k1, k2, m, k3⟩ := inv4 (q := qw q (wnR L q.join (a + 1))) hq g3 (by omega)
    rw [cond_true, k2]
    refine ⟨_, _, _, b, l, rfl, ⟨w1, w2, k1⟩, ?_⟩
    rcases w3 with w3 | w3
    · exact ⟨m + 1, by omega⟩
    · exact ⟨m + 2, by omega⟩
  · rw [decide_eq_false hd] at g3
    exact (hd g3).elim
def Prsd (L : List Tok) (X : List Nod) : Prop := ∃ a : Int, 0 ≤ a ∧ a ≤ (L.length : Int) ∧ zE L a = 0 ∧ X = zX L a
theorem ex_ok {L : List Tok} {a : Int} {X Y : QR} (hY : zE L a ≠ 0 → Y.d ≠ 0) (h : (exP L a X Y).d = 0) : zE L a = 0 ∧ exP L a X Y = X ∧ X.d = 0 := by
  unfold exP at h ⊢
  by_cases hz : zE L a = 0
  · rw [decide_eq_true hz] at h ⊢; exact ⟨hz, rfl, h⟩
  · rw [decide_eq_false hz] at h; exact (hY hz h).elim
theorem bal_par : ∀ (ts : List Tok) (d d' : Int), balT d ts = some d' → evn ((ts.length : Int) - (nonb ts).length - (d' - d))
  | [], d, d', h => by cases h; exact ⟨0, by simp [nonb]⟩
  | t :: r, d, d', h => by
    unfold balT at h
    cases h1 : brkT t with
    | false =>
      rw [h1] at h
      obtain ⟨m, hm⟩ := bal_par r d d' h
      have e : nonb (t :: r) = t :: nonb r := by simp [nonb, h1]
      rw [e]
      exact ⟨m, by simp only [List.length_cons]; omega⟩
    | true =>
      have e : nonb (t :: r) = nonb r := by simp [nonb, h1]
      rw [e]
      rw [h1, cond_true] at h
      cases h2 : decide (t.text = [40]) with
      | true =>
        rw [h2, cond_true] at h
        obtain ⟨m, hm⟩ := bal_par r _ _ h
        exact ⟨m, by simp only [List.length_cons]; omega⟩
      | false =>
        rw [h2, cond_false] at h
        cases h3 : decide (d - 1 < 0) with
        | true => rw [h3] at h; cases h
        | false =>
          rw [h3, cond_false] at h
          obtain ⟨m, hm⟩ := bal_par r _ _ h
          exact ⟨m + 1, by simp only [List.length_cons]; omega⟩
theorem okV_sym {t : Tok} (h : okV t = true) : symB t = true := by
  unfold okV validB at h
  rw [Bool.and_eq_true] at h
  exact symB_of (of_decide_eq_true h.1)
theorem z_fact {L : List Tok} (hL : TkO L) {a : Int} (h0 : 0 ≤ a) (h1 : a ≤ (L.length : Int)) (hz : zE L a = 0) : ∃ e p r, zR a L = .ok e r ∧ L.drop a.toNat = p ++ r ∧ Gr (.E 1) e p ∧ zX L a = e.flat 0 ∧ zN L a = (L.length : Int) - r.length ∧ chkN (zX L a) = 0 ∧ evn ((zN L a - a) - (zX L a).length) ∧ (∀ x ∈ zX L a, ∃ t ∈ p, t.pos = x.pos) ∧ 0 < p.length := by
  obtain ⟨z1, z2, z3⟩ := z_ok hL.v hL.n h0 h1
  cases hr : zR a L with
  | out =>
    have := zR_in hL.n a
    rw [hr] at this; cases this
  | bad er n =>
    rw [hr] at z1
    exact (pE_err 1500 1 _ er n hr (z1.symm.trans hz)).elim
  | ok e r =>
    rw [hr] at z1 z2 z3
    have hsnd := pE_sound 1500 1 _ e r hr (by omega) (by omega)
    have hless := hsnd.less
    obtain ⟨⟨p, hp, hg⟩, hs, hd⟩ := hsnd
    have hdl : (L.drop a.toNat).length = L.length - a.toNat := List.length_drop
    have hpl : (L.drop a.toNat).length = p.length + r.length := by rw [hp, List.length_append]
    have hps : p.all symB = true := List.all_eq_true.2 fun t ht => okV_sym (List.all_eq_true.1 hL.v t (List.mem_of_mem_drop (by rw [hp]; exact List.mem_append_left _ ht)))
    have hc := gr_cnt hg hps
    have hpar := bal_par p 0 0 (hc.b 0 (by omega))
    have e1 : (nonb p).length = (e.flat 0).length := by
      have := hc.p.length_eq
      rw [List.length_map] at this
      rw [this, ← poss_flat e 0, List.length_map]
    refine ⟨e, p, r, rfl, hp, hg, z3, z2, ?_, ?_, ?_, ?_⟩
    · rw [z3]
      have hok := gr_okV hg (List.all_eq_true.2 fun t ht => List.all_eq_true.1 hL.v t (List.mem_of_mem_drop (by rw [hp]; exact List.mem_append_left _ ht)))
      show chkN (e.flat 0) = 0
      rw [chkN_flat hok, decide_eq_false (by omega), cond_false, decide_eq_false (by omega)]; rfl
    · obtain ⟨m, hm⟩ := hpar
      rw [z2, z3]
      show evn ((L.length : Int) - r.length - a - (e.flat 0).length)
      exact ⟨m, by omega⟩
    · intro x hx
      rw [z3] at hx
      have hx : x ∈ e.flat 0 := hx
      have h3 : x.pos ∈ e.poss := by rw [← poss_flat e 0]; exact List.mem_map_of_mem hx
      have h4 := hc.p.mem_iff.2 h3
      obtain ⟨t, ht, he⟩ := List.mem_map.1 h4
      exact ⟨t, (List.mem_filter.1 ht).1, he⟩
    · omega
theorem inv2 {L : List Tok} (hL : TkO L) {q : Qry} {a : Int} (hq : q.late = 1) (hw : q.whr = []) (h : (p2 L q a).d = 0) (h0 : 0 ≤ a) : ∃ W k s e b l, (p2 L q a).q = { q with whr := W, wk := k, ws := s, we := e, byKey := b, late := l } ∧ WQ { q with whr := W, wk := k, ws := s, we := e, byKey := b, late := l } ∧ ((W = [] ∧ evn ((L.length : Int) - a - 1)) ∨ (Prsd L W ∧ 0 < W.length ∧ evn ((L.length : Int) - a - W.length))) := by
  unfold p2 at h ⊢
  rcases nd_ok h with ⟨h1, h2, h3⟩ | ⟨h1, h2, h3⟩
  · have l1 := nxB_lt h1
    obtain ⟨g1, g2, g3⟩ := ex_ok (fun hz => hz) h3
    have hb := z_in hL (a := a + 1) (by omega) (by omega)
    obtain ⟨k, s, e, b, l, k1, k2, m, k3⟩ := inv3 (q := { q with whr := zX L (a + 1) }) hq g3
    rw [h2, g2, k1]
    obtain ⟨e', p, r, f1, f2, f3, f4, f5, f6, ⟨m', f7⟩, f8, f9⟩ := z_fact hL (a := a + 1) (by omega) (by omega) g1
    refine ⟨zX L (a + 1), k, s, e, b, l, rfl, k2, .inr ⟨⟨a + 1, by omega, by omega, g1, rfl⟩, ?_, m + m' + 1, by omega⟩⟩
    rw [f4, Ex.flat_len]
    cases e' <;> simp only [Ex.size] <;> omega
  · obtain ⟨k, s, e, b, l, k1, k2, k3⟩ := inv3 hq h3
    rw [h2, k1]
    exact ⟨q.whr, k, s, e, b, l, rfl, k2, .inl ⟨hw, k3⟩⟩
end Go.Proofs.YtdckpbeioemopabGreatDoor.Pr
namespace Go.Proofs.YtdckpbeioemopabGreatDoor.Pr
open Go.Am Go Go.Proofs.YtdckpbeioemopabGreatDoor
set_option maxRecDepth 100000
theorem hasI_mem : ∀ {l : List Int} {n : Int}, hasI n l = false → n ∉ l
  | [], n, _ => by simp
  | x :: r, n, h => by
    unfold hasI hitI at h
    have h := of_decide_eq_false h
    unfold firstL at h
    by_cases hx : n = x
    · rw [decide_eq_true hx] at h
      simp at h
    · rw [decide_eq_false hx] at h
      have ih : hasI n r = false := by
        unfold hasI hitI
        refine decide_eq_false ?_
        simp only [cond_false, List.length_cons] at h
        omega
      have := hasI_mem ih
      simp only [List.mem_cons, not_or]
      exact ⟨hx, this⟩
theorem dups_snoc : ∀ {l : List Int} {n : Int}, dups l = false → n ∉ l → dups (l ++ [n]) = false
  | [], n, _, _ => rfl
  | x :: r, n, h, hn => by
    unfold dups at h
    rw [Bool.or_eq_false_iff] at h
    simp only [List.mem_cons, not_or] at hn
    show ((r ++ [n]).contains x || dups (r ++ [n])) = false
    rw [dups_snoc h.2 hn.2, Bool.or_false]
    have h1 : x ∉ r := by simpa using h.1
    simp only [List.contains_eq_mem, List.mem_append, List.mem_singleton, decide_eq_false_iff_not, not_or]
    exact ⟨h1, fun e => hn.1 e.symm⟩
def cntI (n : Int) : List Int → Nat
  | [] => 0
  | x :: r => (bif decide (x = n) then 1 else 0) + cntI n r
theorem cntI_not {n : Int} : ∀ {l : List Int}, n ∉ l → cntI n l = 0
  | [], _ => rfl
  | x :: r, h => by
    simp only [List.mem_cons, not_or] at h
    unfold cntI
    rw [cntI_not h.2, decide_eq_false (fun e => h.1 e.symm)]; rfl
theorem cntI_le {n : Int} : ∀ {l : List Int}, dups l = false → cntI n l ≤ 1
  | [], _ => by simp [cntI]
  | x :: r, h => by
    unfold dups at h
    rw [Bool.or_eq_false_iff] at h
    have h1 : x ∉ r := by simpa using h.1
    unfold cntI
    by_cases hx : x = n
    · rw [decide_eq_true hx, ← hx, cntI_not h1]; simp
    · rw [decide_eq_false hx, cond_false, Nat.zero_add]; exact cntI_le h.2
theorem inR_is {n : Int} : inR n = true ↔ 0 ≤ n ∧ n ≤ 3 := by
  unfold inR
  simp
theorem len_cnt : ∀ {l : List Int}, l.all inR = true → l.length = cntI 0 l + cntI 1 l + cntI 2 l + cntI 3 l
  | [], _ => rfl
  | x :: r, h => by
    rw [List.all_cons, Bool.and_eq_true] at h
    have ih := len_cnt h.2
    obtain ⟨h0, h3⟩ := inR_is.1 h.1
    unfold cntI
    rw [List.length_cons, ih]
    rcases (show x = 0 ∨ x = 1 ∨ x = 2 ∨ x = 3 by omega) with rfl | rfl | rfl | rfl <;> simp <;> omega
theorem len4 {l : List Int} (h : l.all inR = true) (hd : dups l = false) : l.length ≤ 4 := by
  rw [len_cnt h]
  have := cntI_le (n := 0) hd
  have := cntI_le (n := 1) hd
  have := cntI_le (n := 2) hd
  have := cntI_le (n := 3) hd
  omega
theorem src_ok {l : List Int} {j : Bool} (h : l.all inR = true) (hd : dups l = false) (h0 : 0 < l.length) (hj : j = true → l.length = 2) : srcE l j = 0 := by
  have h4 := len4 h hd
  unfold srcE
  rw [decide_eq_false (show ¬ 4 < l.length by omega), decide_eq_false (show ¬ l.length = 0 by omega), h, hd]
  cases j with
  | false => rfl
  | true => rw [decide_eq_true (hj rfl)]; rfl
theorem nx_in {L : List Tok} {a : Int} (h : nxB L a abS = true) : inR (nx L a abS) = true := by
  have hn : nxI L a abS < 4 := nxI_lt h
  rw [inR_is]
  unfold nx; omega
theorem unR_ok {L : List Tok} : ∀ (k : Nat) (a : Int) (l : List Int), l.all inR = true → dups l = false → a ≤ (L.length : Int) → (L.length : Int) < a + k → (unR k L a l).d = 0 → (unR k L a l).s.all inR = true ∧ dups (unR k L a l).s = false ∧ 0 < (unR k L a l).s.length ∧ evn ((unR k L a l).a - a - 1)
  | 0, a, l, hi, hd, ha, hk, _ => by omega
  | k + 1, a, l, hi, hd, ha, hk, h => by
    unfold unR at h ⊢
    cases h1 : nxB L a abS with
    | false => rw [h1] at h; cases h
    | true =>
    rw [h1] at h
    have l1 := nxB_lt h1
    cases h2 : hasI (nx L a abS) l with
    | true => rw [h2] at h; cases h
    | false =>
    rw [h2] at h
    have hi' : (l ++ [nx L a abS]).all inR = true := by
      rw [List.all_append, hi, List.all_cons, nx_in h1]; rfl
    have hd' := dups_snoc hd (hasI_mem h2)
    cases h3 : nxB L (a + 1) unS with
    | false =>
      simp only [cond_false, cond_true]
      exact ⟨hi', hd', by simp, 0, by omega⟩
    | true =>
      rw [h3] at h
      have l2 := nxB_lt h3
      obtain ⟨r1, r2, r3, m, hm⟩ := unR_ok k (a + 1 + 1) (l ++ [nx L a abS]) hi' hd' (by omega) (by omega) h
      simp only [cond_false, cond_true]
      exact ⟨r1, r2, r3, m + 1, by omega⟩
def SQ (L : List Tok) (g : Int) (A : List Nod) (a : Int) (r : Qry) : Prop :=
  r.agg = g ∧ r.arg = A ∧ srcE r.src r.join = 0 ∧ WQ r ∧ ((r.whr = [] ∧ evn ((L.length : Int) - a - 1)) ∨ (Prsd L r.whr ∧ 0 < r.whr.length ∧ evn ((L.length : Int) - a - r.whr.length)))
theorem SQ.up {L : List Tok} {g : Int} {A : List Nod} {a b : Int} {r : Qry} (h : SQ L g A b r) (he : evn (b - a)) : SQ L g A a r := by
  obtain ⟨h1, h2, h3, h4, h5⟩ := h
  obtain ⟨m, hm⟩ := he
  refine ⟨h1, h2, h3, h4, ?_⟩
  rcases h5 with ⟨h5, m', h6⟩ | ⟨h5, h6, m', h7⟩
  · exact .inl ⟨h5, m + m', by omega⟩
  · exact .inr ⟨h5, h6, m + m', by omega⟩
theorem inv2' {L : List Tok} (hL : TkO L) {g : Int} {A : List Nod} {S : List Int} {j : Bool} {a : Int} (hs : srcE S j = 0) (h : (p2 L (qn g A S j []) a).d = 0) (h0 : 0 ≤ a) : SQ L g A a (p2 L (qn g A S j []) a).q := by
  obtain ⟨W, k, s, e, b, l, h1, h2, h3⟩ := inv2 hL (q := qn g A S j []) rfl rfl h h0
  rw [h1]
  exact ⟨rfl, rfl, hs, h2, h3⟩
theorem inv1 {L : List Tok} (hL : TkO L) {g : Int} {A : List Nod} {n a : Int} (hn : inR n = true) (h : (p1 L g A n a).d = 0) (h0 : 0 ≤ a) : SQ L g A a (p1 L g A n a).q := by
  have hn1 : [n].all inR = true := by rw [List.all_cons, hn]; rfl
  unfold p1 at h ⊢
  rcases nd_ok h with ⟨h1, h2, h3⟩ | ⟨h1, h2, h3⟩
  · have l1 := nxB_lt h1
    obtain ⟨g1, g2, g3⟩ := nd_need (show (12 : Int) ≠ 0 by decide) h3
    have l2 := nxB_lt g1
    rw [h2, g2]
    cases hh : hasI (nx L (a + 1) abS) [n] with
    | true => rw [hh] at g3; cases g3
    | false =>
      rw [hh] at g3
      refine (inv2' hL (src_ok ?_ ?_ (by simp) fun _ => by simp) g3 (by omega)).up ⟨1, by omega⟩
      · rw [List.all_append, hn1, List.all_cons, nx_in g1]; rfl
      · exact dups_snoc rfl (hasI_mem hh)
  · rw [h2]
    rcases nd_ok h3 with ⟨g1, g2, g3⟩ | ⟨g1, g2, g3⟩
    · have l1 := nxB_lt g1
      rw [g2]
      by_cases hd : (urA L (a + 1) [n]).d = 0
      · rw [decide_eq_true hd] at g3 ⊢
        have hb := unR_in (L.length + 1) (a + 1) [n] (by omega) hd
        have hb : a + 1 ≤ (urA L (a + 1) [n]).a ∧ (urA L (a + 1) [n]).a ≤ (L.length : Int) := hb
        obtain ⟨r1, r2, r3, m, r4⟩ := unR_ok (L.length + 1) (a + 1) [n] hn1 rfl (by omega) (by omega) hd
        have r4 : (urA L (a + 1) [n]).a - (a + 1) - 1 = 2 * m := r4
        exact (inv2' hL (src_ok r1 r2 r3 fun h => by cases h) g3 (by omega)).up ⟨m + 1, by omega⟩
      · rw [decide_eq_false hd] at g3
        exact (hd g3).elim
    · rw [g2]
      exact inv2' hL (src_ok hn1 rfl (by simp) fun h => by cases h) g3 h0
theorem inv0 {L : List Tok} (hL : TkO L) {g : Int} {A : List Nod} {a : Int} (h : (p0 L g A a).d = 0) (h0 : 0 ≤ a) : a + 3 ≤ (L.length : Int) ∧ SQ L g A (a + 3) (p0 L g A a).q := by
  unfold p0 at h ⊢
  obtain ⟨h1, h2, h3⟩ := nd_need (show (12 : Int) ≠ 0 by decide) h
  obtain ⟨h4, h5, h6⟩ := nd_need (show (12 : Int) ≠ 0 by decide) h3
  obtain ⟨h7, h8, h9⟩ := nd_need (show (12 : Int) ≠ 0 by decide) h6
  have l1 := nxB_lt h7
  rw [h2, h5, h8]
  refine ⟨by omega, ?_⟩
  have := inv1 hL (nx_in h7) h9 (by omega)
  rw [show a + 3 = a + 1 + 1 + 1 by omega]; exact this
def parQ (q : Qry) : Int := (bif decide (q.agg = 1) then 1 else (q.arg.length : Int)) + (bif decide (q.whr.length = 0) then 1 else (q.whr.length : Int))
structure QV (L : List Tok) (q : Qry) : Prop where
  ok : clkE q = 0
  a : q.arg = [] ∨ Prsd L q.arg
  w : q.whr = [] ∨ Prsd L q.whr
  p : evn ((L.length : Int) - parQ q)
theorem prsd_chk {L : List Tok} (hL : TkO L) {X : List Nod} (h : Prsd L X) : chkN X = 0 := by
  obtain ⟨a, h0, h1, h2, rfl⟩ := h
  obtain ⟨e, p, r, f1, f2, f3, f4, f5, f6, _⟩ := z_fact hL h0 h1 h2
  exact f6
theorem sq_qv {L : List Tok} (hL : TkO L) {g : Int} {A : List Nod} {a : Int} {r : Qry} (h : SQ L g A a r) (hg : 1 ≤ g ∧ g ≤ 4) (hA : (g = 1 ∧ A = [] ∧ evn (a - 1)) ∨ (g ≠ 1 ∧ Prsd L A ∧ evn (a - A.length))) : QV L r := by
  obtain ⟨h1, h2, h3, ⟨w1, w2, w3⟩, h4⟩ := h
  have hwc : 0 < r.whr.length → chkN r.whr = 0 := fun hw => by
    rcases h4 with ⟨h4, _⟩ | ⟨h4, _⟩
    · rw [h4] at hw; simp at hw
    · exact prsd_chk hL h4
  refine ⟨clk_mk ?_ (fun e => ?_) (fun e => ?_) hwc h3 ?_, ?_, ?_, ?_⟩
  · rw [h1, decide_eq_false (show ¬ g < 1 by omega), decide_eq_false (show ¬ 4 < g by omega)]
    rcases w3 with w3 | w3 <;> rw [w3] <;> rfl
  · rcases hA with ⟨_, hA, _⟩ | ⟨hA, _⟩
    · rw [h2, hA]
    · exact (hA (h1.symm.trans e)).elim
  · rcases hA with ⟨hA, _⟩ | ⟨_, hA, _⟩
    · exact (e (h1.trans hA)).elim
    · rw [h2]; exact prsd_chk hL hA
  · rw [w1]
    cases hj : r.join with
    | false => rfl
    | true => rw [decide_eq_true (w2 hj)]; rfl
  · rcases hA with ⟨_, hA, _⟩ | ⟨_, hA, _⟩
    · exact .inl (h2.trans hA)
    · exact .inr (by rw [h2]; exact hA)
  · rcases h4 with ⟨h4, _⟩ | ⟨h4, _⟩
    · exact .inl h4
    · exact .inr h4
  · unfold parQ
    rw [h1, h2]
    rcases hA with ⟨hA, hA', m, hm⟩ | ⟨hA, _, m, hm⟩ <;> rcases h4 with ⟨h4, m', hm'⟩ | ⟨_, h4, m', hm'⟩
    · rw [decide_eq_true hA, h4]
      exact ⟨m + m', by simp; omega⟩
    · rw [decide_eq_true hA, decide_eq_false (show ¬ r.whr.length = 0 by omega)]
      exact ⟨m + m', by simp only [cond_true, cond_false]; omega⟩
    · rw [decide_eq_false hA, h4]
      exact ⟨m + m', by simp; omega⟩
    · rw [decide_eq_false hA, decide_eq_false (show ¬ r.whr.length = 0 by omega)]
      exact ⟨m + m', by simp only [cond_false]; omega⟩
theorem agI_in {L : List Tok} {a : Int} (h : nxB L a agS = true) : 1 ≤ agI L a ∧ agI L a ≤ 4 := by
  have hn : nxI L a agS < 4 := nxI_lt h
  unfold agI
  rw [u8_small (by unfold nx; omega) (by unfold nx; omega)]
  unfold nx; omega
theorem invQ {L : List Tok} (hL : TkO L) (h : (pQ L 0).d = 0) : QV L (pQ L 0).q := by
  unfold pQ at h ⊢
  obtain ⟨h1, h2, h3⟩ := nd_need (show (12 : Int) ≠ 0 by decide) h
  obtain ⟨h4, h5, h6⟩ := nd_need (show (12 : Int) ≠ 0 by decide) h3
  obtain ⟨h7, h8, h9⟩ := nd_need (show (12 : Int) ≠ 0 by decide) h6
  have l1 := nxB_lt h7
  have hg := agI_in h4
  rw [h2, h5, h8]
  by_cases ha : agI L (0 + 1) = 1
  · rw [decide_eq_true ha] at h9 ⊢
    obtain ⟨g1, g2, g3⟩ := nd_need (show (12 : Int) ≠ 0 by decide) h9
    rw [cond_true, g2]
    obtain ⟨k1, k2⟩ := inv0 hL g3 (by omega)
    exact sq_qv hL k2 hg (.inl ⟨ha, rfl, 3, by omega⟩)
  · rw [decide_eq_false ha] at h9 ⊢
    obtain ⟨g1, g2, g3⟩ := ex_ok (fun hz => hz) h9
    rw [cond_false, g2]
    have hb := z_in hL (a := 0 + 1 + 1 + 1) (by omega) (by omega)
    obtain ⟨k1, k2⟩ := inv0 hL g3 (by omega)
    obtain ⟨e', p, r, f1, f2, f3, f4, f5, f6, ⟨m', f7⟩, f8, f9⟩ := z_fact hL (a := 0 + 1 + 1 + 1) (by omega) (by omega) g1
    exact sq_qv hL k2 hg (.inr ⟨ha, ⟨_, by omega, by omega, g1, rfl⟩, m' + 3, by omega⟩)
end Go.Proofs.YtdckpbeioemopabGreatDoor.Pr
namespace Go.Proofs.YtdckpbeioemopabGreatDoor.Pr
open Go.Am Go Go.Proofs.YtdckpbeioemopabGreatDoor
set_option maxRecDepth 100000
variable {B : Nat → Option Obj}
theorem cov_ok {s : List UInt8} (hs : s.length ≤ 400) : ∀ (l : List Tok) (a : Int), 0 ≤ a → covS s a l → shortT l = true ∧ l.all okV = true
  | [], _, _, _ => ⟨rfl, rfl⟩
  | t :: r, a, h0, h => by
    obtain ⟨c1, _, c3, _, c5, c6⟩ := h
    obtain ⟨i1, i2⟩ := cov_ok hs r _ (by omega) c6
    unfold shortT at i1 ⊢
    rw [List.all_cons, List.all_cons, i1, i2, Bool.and_true, Bool.and_true]
    refine ⟨decide_eq_true (by omega), ?_⟩
    unfold okV validB
    rw [decide_eq_true c5, decide_eq_true (show 0 ≤ t.pos ∧ t.pos ≤ 400 by omega)]; rfl
theorem lex_big {s : List UInt8} (hs : ¬ s.length ≤ 400) : lexE s = 4 ∧ lexN s = 0 := by
  unfold lexE lexN lexA
  rw [decide_eq_true (show (400 : Int) < (s.length : Int) by omega)]
  exact ⟨rfl, rfl⟩
theorem lex_tk {s : List UInt8} (he : lexE s = 0) : TkO (lexL s) ∧ (lexL s = (lx s 0 0).l) ∧ (lx s 0 0).e = 0 ∧ s.length ≤ 400 := by
  by_cases hs : s.length ≤ 400
  · have hA : lexA s = lx s 0 0 := Lx.lexA_is (by omega)
    have hl : lexL s = (lx s 0 0).l := by unfold lexL; rw [decide_eq_true he, hA]; rfl
    have he' : (lx s 0 0).e = 0 := by unfold lexE at he; rwa [hA] at he
    have hc := lx_cov s s 0 0 0 (by omega) (by omega) (by omega) rfl (fun i h1 h2 => by omega) he'
    have hcnt := lx_count s 0 0 (by omega)
    obtain ⟨h1, h2⟩ := cov_ok hs _ 0 (by omega) hc
    exact ⟨⟨by rw [hl]; exact h2, by rw [hl]; omega, by rw [hl]; exact h1⟩, hl, he', hs⟩
  · rw [(lex_big hs).1] at he; cases he
def Cin (L : List Tok) (r : QR) : Prop := r.d ≠ 0 → 0 ≤ r.c ∧ r.c ≤ (L.length : Int)
theorem nd_c {L : List Tok} {a : Int} {S : List (List UInt8)} {X Y : QR} (hx : a < (L.length : Int) → Cin L X) (hy : Cin L Y) : Cin L (ndP L a S X Y) := by
  unfold ndP
  cases h : nxB L a S with
  | true => exact hx (nxB_lt h)
  | false => exact hy
theorem c6 {L : List Tok} {q : Qry} {a : Int} (h0 : 0 ≤ a) (h1 : a ≤ (L.length : Int)) : Cin L (p6 L q a) := by
  unfold p6
  cases decide (a < (L.length : Int)) with
  | true => exact fun _ => ⟨h0, h1⟩
  | false => exact fun h => (h rfl).elim
theorem c5 {L : List Tok} {q : Qry} {a : Int} (h0 : 0 ≤ a) (h1 : a ≤ (L.length : Int)) : Cin L (p5 L q a) :=
  nd_c (fun h => nd_c (fun h => c6 (by omega) (by omega)) fun _ => ⟨show 0 ≤ a + 1 by omega, show a + 1 ≤ (L.length : Int) by omega⟩) (c6 h0 h1)
theorem c4 {L : List Tok} {q : Qry} {a : Int} (h0 : 0 ≤ a) (h1 : a ≤ (L.length : Int)) : Cin L (p4 L q a) :=
  nd_c (fun h => nd_c (fun h => c5 (by omega) (by omega)) fun _ => ⟨show 0 ≤ a + 1 by omega, show a + 1 ≤ (L.length : Int) by omega⟩) (c5 h0 h1)
theorem wnQ_c {L : List Tok} {k a : Int} (h0 : 0 ≤ a) (h1 : a ≤ (L.length : Int)) (h : (wnQ L k a).d ≠ 0) : 0 ≤ (wnQ L k a).c ∧ (wnQ L k a).c ≤ (L.length : Int) := by
  unfold wnQ at h ⊢
  cases hf : nmF L a with
  | true => simp only [cond_true]; omega
  | false =>
  rw [hf] at h
  have l1 := nmF_lt hf
  cases h2 : nmR L a mxS with
  | true => simp only [cond_true, cond_false]; omega
  | false =>
  rw [h2] at h
  cases h3 : decide (k = 2) with
  | false => rw [h3] at h; exact (h rfl).elim
  | true =>
  rw [h3] at h
  cases h4 : nxB L (a + 1) evS with
  | false => simp only [cond_true, cond_false]; omega
  | true =>
  rw [h4] at h
  have l2 := nxB_lt h4
  cases h5 : nmF L (a + 1 + 1) with
  | true => simp only [cond_true, cond_false]; omega
  | false =>
  rw [h5] at h
  cases h6 : nmR L (a + 1 + 1) (nmN L a) with
  | true => simp only [cond_true, cond_false]; omega
  | false =>
  rw [h6] at h
  cases h7 : fitsW k (nmN L a) (nmN L (a + 1 + 1)) with
  | true => rw [h7] at h; exact (h rfl).elim
  | false => simp only [cond_true, cond_false]; omega
theorem wnR_c {L : List Tok} {j : Bool} {a : Int} (h0 : 0 ≤ a) (h1 : a ≤ (L.length : Int)) (h : (wnR L j a).d ≠ 0) : 0 ≤ (wnR L j a).c ∧ (wnR L j a).c ≤ (L.length : Int) := by
  unfold wnR at h ⊢
  cases hx : nxB L a wnS with
  | false => simp only [cond_false]; omega
  | true =>
  rw [hx] at h
  have l1 := nxB_lt hx
  cases hj : (j && !decide (wkI L a = 1)) with
  | true => simp only [cond_true]; omega
  | false =>
    rw [hj] at h
    exact wnQ_c (by omega) (by omega) h
theorem c3 {L : List Tok} {q : Qry} {a : Int} (h0 : 0 ≤ a) (h1 : a ≤ (L.length : Int)) : Cin L (p3 L q a) := by
  refine nd_c (fun h => ?_) fun _ => ⟨h0, h1⟩
  by_cases hd : (wnR L q.join (a + 1)).d = 0
  · rw [decide_eq_true hd]
    have hb := wnR_in hd
    exact c4 (by omega) (by omega)
  · rw [decide_eq_false hd]
    exact fun _ => wnR_c (by omega) (by omega) hd
theorem ex_c {L : List Tok} {a : Int} {X Y : QR} (hx : Cin L X) (hy : Cin L Y) : Cin L (exP L a X Y) := by
  unfold exP
  cases decide (zE L a = 0) with
  | true => exact hx
  | false => exact hy
theorem c2 {L : List Tok} (hL : TkO L) {q : Qry} {a : Int} (h0 : 0 ≤ a) (h1 : a ≤ (L.length : Int)) : Cin L (p2 L q a) := by
  refine nd_c (fun h => ?_) (c3 h0 h1)
  have hb := z_in hL (a := a + 1) (by omega) (by omega)
  exact ex_c (c3 (by omega) (by omega)) fun _ => ⟨show 0 ≤ zN L (a + 1) by omega, hb.2⟩
theorem unR_c {L : List Tok} : ∀ (k : Nat) (a : Int) (l : List Int), 0 ≤ a → a ≤ (L.length : Int) → (unR k L a l).d ≠ 0 → 0 ≤ (unR k L a l).c ∧ (unR k L a l).c ≤ (L.length : Int)
  | 0, a, l, _, _, h => (h rfl).elim
  | k + 1, a, l, h0, ha, h => by
    unfold unR at h ⊢
    cases h1 : nxB L a abS with
    | false => simp only [cond_false]; omega
    | true =>
    rw [h1] at h
    have l1 := nxB_lt h1
    cases h2 : hasI (nx L a abS) l with
    | true => simp only [cond_true]; omega
    | false =>
    rw [h2] at h
    cases h3 : nxB L (a + 1) unS with
    | false => rw [h3] at h; exact (h rfl).elim
    | true =>
      rw [h3] at h
      have l2 := nxB_lt h3
      exact unR_c k (a + 1 + 1) (l ++ [nx L a abS]) (by omega) (by omega) h
theorem c1 {L : List Tok} (hL : TkO L) {g : Int} {A : List Nod} {n a : Int} (h0 : 0 ≤ a) (h1 : a ≤ (L.length : Int)) : Cin L (p1 L g A n a) := by
  refine nd_c (fun h => nd_c (fun h2 => ?_) fun _ => ⟨show 0 ≤ a + 1 by omega, show a + 1 ≤ (L.length : Int) by omega⟩) (nd_c (fun h => ?_) (c2 hL h0 h1))
  · cases hasI (nx L (a + 1) abS) [n] with
    | true => exact fun _ => ⟨show 0 ≤ a + 1 by omega, show a + 1 ≤ (L.length : Int) by omega⟩
    | false => exact c2 hL (by omega) (by omega)
  · by_cases hd : (urA L (a + 1) [n]).d = 0
    · rw [decide_eq_true hd]
      have hb := unR_in (L.length + 1) (a + 1) [n] (by omega) hd
      have hb : a + 1 ≤ (urA L (a + 1) [n]).a ∧ (urA L (a + 1) [n]).a ≤ (L.length : Int) := hb
      exact c2 hL (by omega) (by omega)
    · rw [decide_eq_false hd]
      exact fun _ => unR_c (L.length + 1) (a + 1) [n] (by omega) (by omega) hd
theorem c0 {L : List Tok} (hL : TkO L) {g : Int} {A : List Nod} {a : Int} (h0 : 0 ≤ a) (h1 : a ≤ (L.length : Int)) : Cin L (p0 L g A a) :=
  nd_c (fun h => nd_c (fun h => nd_c (fun h => c1 hL (by omega) (by omega)) fun _ => ⟨show 0 ≤ a + 1 + 1 by omega, show a + 1 + 1 ≤ (L.length : Int) by omega⟩) fun _ => ⟨show 0 ≤ a + 1 by omega, show a + 1 ≤ (L.length : Int) by omega⟩) fun _ => ⟨h0, h1⟩
theorem cQ {L : List Tok} (hL : TkO L) : Cin L (pQ L 0) := by
  refine nd_c (fun h => nd_c (fun h => nd_c (fun h => ?_) fun _ => ?_) fun _ => ?_) fun _ => ?_
  · cases decide (agI L (0 + 1) = 1) with
    | true => exact nd_c (fun h => c0 hL (by omega) (by omega)) fun _ => ⟨show 0 ≤ (0 : Int) + 1 + 1 + 1 by omega, show (0 : Int) + 1 + 1 + 1 ≤ (L.length : Int) by omega⟩
    | false =>
      have hb := z_in hL (a := 0 + 1 + 1 + 1) (by omega) (by omega)
      exact ex_c (c0 hL (by omega) (by omega)) fun _ => ⟨show 0 ≤ zN L (0 + 1 + 1 + 1) by omega, hb.2⟩
  · exact ⟨show 0 ≤ (0 : Int) + 1 + 1 by omega, show (0 : Int) + 1 + 1 ≤ (L.length : Int) by omega⟩
  · exact ⟨show 0 ≤ (0 : Int) + 1 by omega, show (0 : Int) + 1 ≤ (L.length : Int) by omega⟩
  · exact ⟨show 0 ≤ (0 : Int) by omega, show (0 : Int) ≤ (L.length : Int) by omega⟩
def prE (s : List UInt8) : Int := bif decide (lexE s = 0) then (pQ (lexL s) 0).d else lexE s
def prQ (s : List UInt8) : Qry := bif decide (prE s = 0) then (pQ (lexL s) 0).q else qZ
def prC (s : List UInt8) (L : List Tok) (r : QR) : Int := bif decide (r.d = 0) then (s.length : Int) else bif decide (r.c < (L.length : Int)) then (tkA L r.c).pos else (s.length : Int)
def prN (s : List UInt8) : Int := bif decide (lexE s = 0) then prC s (lexL s) (pQ (lexL s) 0) else lexN s
def parO (b : Bool) (s : List UInt8) : Out := ⟨[(prQ s).av 0 1 2, i64 (prN s), i64 (prE s)], [nb b (prQ s).arg, lb b (prQ s).src, nb b (prQ s).whr]⟩
def sParX : FSpec
  | [.str s], [] => optT (bif !decide (lexE s = 0) then pzO (lexN s) (lexE s) else psL s (lexL s) (pQ (lexL s) 0))
  | _, _ => .bad
theorem okParX (hB : Laid B) : FnOk (E0 B) 11 sParX := by
  refine fnT (lib5_ok hB) Tryz.func11 (by kernel_rfl) (by kernel_rfl) fun vs bs r h => ?_
  unfold sParX at h
  split at h
  · rename_i s
    rw [optT_sel] at h
    refine (tPar s).trans ?_
    by_cases he : lexE s = 0
    · rw [tkO_of (lex_tk he).1]
      exact h
    · rw [decide_eq_false he] at h ⊢; exact h
  · simp [T.sel] at h
theorem par_tells (s : List UInt8) : ∃ o, (bif !decide (lexE s = 0) then pzO (lexN s) (lexE s) else psL s (lexL s) (pQ (lexL s) 0)) = some o ∧ (parO false s).vals = o.vals ∧ (parO false s).blks = o.blks.map lendB := by
  unfold parO
  by_cases he : lexE s = 0
  · have hL := (lex_tk he).1
    have hc := cQ hL
    unfold prQ prN prE psL prC
    rw [decide_eq_true he]
    by_cases hd : (pQ (lexL s) 0).d = 0
    · rw [cond_true, decide_eq_true hd]
      exact ⟨_, rfl, by rw [hd]; rfl, rfl⟩
    · rw [cond_true, decide_eq_false hd]
      obtain ⟨k1, k2⟩ := hc hd
      by_cases hk : (pQ (lexL s) 0).c < ((lexL s).length : Int)
      · rw [decide_eq_true hk]
        obtain ⟨j, hj⟩ : ∃ j : Nat, (pQ (lexL s) 0).c = (j : Int) := ⟨(pQ (lexL s) 0).c.toNat, by omega⟩
        simp only [Bool.not_true, cond_false, cond_true]
        rw [hj, Ck.inb_is (by omega)]
        exact ⟨_, rfl, rfl, rfl⟩
      · rw [decide_eq_false hk]
        exact ⟨_, rfl, rfl, rfl⟩
  · unfold prQ prN prE
    rw [decide_eq_false he]
    simp only [Bool.not_false, cond_true, cond_false]
    rw [decide_eq_false he]
    exact ⟨_, rfl, rfl, rfl⟩
def sPar : FSpec
  | [.str s], [] => .leaf ⟨[(prQ s).av 0 1 2, i64 (prN s), i64 (prE s)], [nb false (prQ s).arg, lb false (prQ s).src, nb false (prQ s).whr]⟩
  | _, _ => .bad
theorem okPar (hB : Laid B) : FnOk (E0 B) 11 sPar := fnOk_lend (okParX hB) fun vs bs o' h => by
  unfold sPar at h
  split at h
  · rename_i s
    simp only [T.sel, Option.some.injEq] at h; subst h
    obtain ⟨o, h1, h2, h3⟩ := par_tells s
    refine ⟨o, ?_, h2, h3⟩
    show (optT _).sel = _
    rw [optT_sel]; exact h1
  · simp [T.sel] at h
end Go.Proofs.YtdckpbeioemopabGreatDoor.Pr
