/-
  Texts put together: R9Qr, R9Nn, R9Rel.
-/
import Derived.Test.YtdckpbeioemopabGreatDoorR9B
import Derived.Test.YtdckpbeioemopabGreatDoorExA
namespace Go.Proofs.YtdckpbeioemopabGreatDoor.R9
open Go.Am Go Go.Proofs.YtdckpbeioemopabGreatDoor Go.Proofs.YtdckpbeioemopabGreatDoor.Pr
set_option maxRecDepth 100000
variable {B : Nat → Option Obj}
def seT : List UInt8 := [115, 101, 108, 101, 99, 116]
def frT : List UInt8 := [102, 114, 111, 109]
def joT : List UInt8 := [106, 111, 105, 110]
def whT : List UInt8 := [119, 104, 101, 114, 101]
def wiT : List UInt8 := [119, 105, 110, 100, 111, 119]
def byT : List UInt8 := [98, 121]
def keT : List UInt8 := [107, 101, 121]
def laT : List UInt8 := [108, 97, 116, 101]
def gM (L : List Tok) (a e : Int) (l : List Int) (z : Option Out) : Option Out := bif rG rTy L a e && decide (l.length ≤ 500) then z else none
def gU (L : List Tok) (a e : Int) (l : List Int) (z : Option Out) : Option Out := bif rG rTy L a e && decide (2 * (l.length : Int) + (L.length : Int) ≤ 400 + a) then z else none
def XL (s : List UInt8) (L : List Tok) (q : Qry) (a e : Int) : Option Out := gT laT L a e (fin s L a { q with late := 1 } e)
def X5 (s : List UInt8) (L : List Tok) (q : Qry) (a e : Int) : Option Out := gT byT L a e (XL s L q a e)
def X4 (s : List UInt8) (L : List Tok) (q : Qry) (a e : Int) : Option Out := gT wiT L a e (gN L a e (X5 s L { q with wk := 1, ws := 0, we := 0 } a e))
def X3 (s : List UInt8) (L : List Tok) (q : Qry) (a e : Int) : Option Out := gT whT L a e (X4 s L q a e)
def X2 (s : List UInt8) (L : List Tok) (q : Qry) (a e : Int) : Option Out := gU L a e q.src (X3 s L q a e)
def X1 (s : List UInt8) (L : List Tok) (q : Qry) (a e : Int) : Option Out := gT joT L a e (X2 s L q a e)
def X0 (s : List UInt8) (L : List Tok) (q : Qry) (a e : Int) : Option Out := gT frT L a e (gM L a e q.src (X1 s L { q with src := q.src ++ [0] } a e))
def F6 (s : List UInt8) (L : List Tok) (q : Qry) (a : Int) : Option Out := bif decide (a < (L.length : Int)) then fin s L a q 38 else fin s L a q 0
def F5 (s : List UInt8) (L : List Tok) (q : Qry) (a : Int) : Option Out := gT laT L a 0 (bif nxB L a [laT] then gO dsS L (a + 1) 0 (bif nxB L (a + 1) dsS then (bif decide (nx L (a + 1) dsS = 1) then F6 s L { q with late := 2 } (a + 1 + 1) else F6 s L { q with late := 1 } (a + 1 + 1)) else fin s L (a + 1) { q with late := 1 } 12) else F6 s L { q with late := 1 } a)
def F4 (s : List UInt8) (L : List Tok) (q : Qry) (a : Int) : Option Out := gT byT L a 0 (bif nxB L a [byT] then gT keT L (a + 1) 0 (bif nxB L (a + 1) [keT] then F5 s L { q with byKey := true } (a + 1 + 1) else XL s L { q with byKey := true } (a + 1) 12) else F5 s L q a)
def F3w (s : List UInt8) (L : List Tok) (q : Qry) (r x : WR) : Option Out := g0 r.d (bif decide (r.d = 0) then F4 s L { q with wk := r.k, ws := r.s, we := r.e } r.a else X5 s L { q with wk := x.k, ws := x.s, we := x.e } r.c (erN r.d))
def F3 (s : List UInt8) (L : List Tok) (q : Qry) (a : Int) : Option Out := gT wiT L a 0 (bif nxB L a [wiT] then gN L (a + 1) 0 (F3w s L q (wnR L q.join (a + 1)) (w9 L q.join (a + 1))) else gN L a 12 (X5 s L { q with wk := 1, ws := 0, we := 0 } a 12))
def F2 (s : List UInt8) (L : List Tok) (q : Qry) (a : Int) : Option Out := gT whT L a 0 (bif nxB L a [whT] then gE L (a + 1) 0 (g0 (zE L (a + 1)) (bif decide (zE L (a + 1) = 0) then F3 s L { q with whr := zX L (a + 1) } (zN L (a + 1)) else X4 s L { q with whr := zX L (a + 1) } (zN L (a + 1)) (erZ L (a + 1)))) else F3 s L q a)
def F1j (s : List UInt8) (L : List Tok) (q : Qry) (a : Int) : Option Out := gU L a 0 q.src (F2 s L q a)
def F1u (s : List UInt8) (L : List Tok) (q : Qry) (a : Int) : Option Out := gU L a 0 q.src (bif nxB L a [uT] then g0 (urA L (a + 1) q.src).d (bif decide ((urA L (a + 1) q.src).d = 0) then F2 s L { q with src := (urA L (a + 1) q.src).s } (urA L (a + 1) q.src).a else X3 s L { q with src := (urA L (a + 1) q.src).s } (urA L (a + 1) q.src).c (erN (urA L (a + 1) q.src).d)) else F2 s L q a)
def F1 (s : List UInt8) (L : List Tok) (q : Qry) (a : Int) : Option Out := gT joT L a 0 (bif nxB L a [joT] then gM L (a + 1) 0 q.src (bif nxB L (a + 1) abS then (bif hasI (nx L (a + 1) abS) q.src then X2 s L { q with join := true, src := q.src ++ [nx L (a + 1) abS] } (a + 1) 43 else F1j s L { q with join := true, src := q.src ++ [nx L (a + 1) abS] } (a + 1 + 1)) else X2 s L { q with join := true, src := q.src ++ [0] } (a + 1) 12) else F1u s L q a)
def F0 (s : List UInt8) (L : List Tok) (q : Qry) (a : Int) : Option Out := gT frT L a 0 (bif nxB L a [frT] then gM L (a + 1) 0 q.src (bif nxB L (a + 1) abS then (bif hasI (nx L (a + 1) abS) q.src then X1 s L { q with src := q.src ++ [nx L (a + 1) abS] } (a + 1) 43 else F1 s L { q with src := q.src ++ [nx L (a + 1) abS] } (a + 1 + 1)) else X1 s L { q with src := q.src ++ [0] } (a + 1) 12) else gM L a 12 q.src (X1 s L { q with src := q.src ++ [0] } a 12))
def FC (s : List UInt8) (L : List Tok) (q : Qry) (a : Int) : Option Out := bif nxB L a [clT] then F0 s L q (a + 1) else X0 s L q a 12
def gA (L : List Tok) (a e : Int) (z : Option Out) : Option Out := bif rG rTy L a e && tkO L then z else none
def qA (n : Int) (A : List Nod) : Qry := ⟨k9 n, A, [], false, [], 0, 0, 0, false, 0⟩
def FA (s : List UInt8) (L : List Tok) (n a : Int) : Option Out := bif nxB L a [opT] then (bif decide (n = 0) then (bif nxB L (a + 1) [stT] then FC s L (qA n []) (a + 1 + 1) else X0 s L (qA n []) (a + 1) 12) else
    g0 (zE L (a + 1)) (bif decide (zE L (a + 1) = 0) then FC s L (qA n (zX L (a + 1))) (zN L (a + 1)) else X0 s L (qA n (zX L (a + 1))) (zN L (a + 1)) (erZ L (a + 1))))
    else bif decide (n = 0) then X0 s L (qA n []) a 12 else X0 s L (qA n []) a 12
def FQ (s : List UInt8) (L : List Tok) (a : Int) : Option Out := gT seT L a 0 (bif nxB L a [seT] then gA L (a + 1) 0 (bif nxB L (a + 1) agS then FA s L (nx L (a + 1) agS) (a + 1 + 1) else X0 s L (qA 0 []) (a + 1) 12) else gA L a 12 (X0 s L (qA 0 []) a 12))
theorem tQr (s : List UInt8) (L : List Tok) (a : Int) : runL B lib6 [eUn9] Tryz.f85 [.ptr 0 0 0] (rq s L a qZ 0) = FQ s L a := by kernel_rfl
end Go.Proofs.YtdckpbeioemopabGreatDoor.R9
namespace Go.Proofs.YtdckpbeioemopabGreatDoor.R9
open Go.Am Go Go.Proofs.YtdckpbeioemopabGreatDoor Go.Proofs.YtdckpbeioemopabGreatDoor.Pr
set_option maxRecDepth 100000
theorem zE_nn (L : List Tok) (a : Int) : 0 ≤ zE L a := by
  unfold zE
  cases decide (zE0 L a = 0) with
  | false =>
    show 0 ≤ zE0 L a
    unfold zE0
    cases decide (200 < L.length) <;> cases L.all okV <;> cases decide (0 ≤ a ∧ a ≤ (L.length : Int)) <;> decide
  | true =>
    show 0 ≤ prEr (zR a L)
    cases h : zR a L with
    | out => exact Int.le_refl 0
    | ok e r => exact Int.le_refl 0
    | bad e n => exact pE_nn 1500 1 _ e n h
theorem wnR_nn (L : List Tok) (j : Bool) (a : Int) : 0 ≤ (wnR L j a).d := by
  unfold wnR
  cases nxB L a wnS with
  | false => exact (by decide : (0 : Int) ≤ 12)
  | true =>
    rw [cond_true]
    cases j && !decide (wkI L a = 1) with
    | true => exact (by decide : (0 : Int) ≤ 8)
    | false =>
      rw [cond_false]
      unfold wnQ
      cases nmF L (a + 1) <;> cases nmR L (a + 1) mxS <;> cases decide (wkI L a = 2) <;> cases nxB L (a + 1 + 1) evS <;> cases nmF L (a + 1 + 1 + 1) <;> cases nmR L (a + 1 + 1 + 1) (nmN L (a + 1)) <;> cases fitsW (wkI L a) (nmN L (a + 1)) (nmN L (a + 1 + 1 + 1)) <;> (simp only [cond_true, cond_false]; omega)
theorem unR_nn (L : List Tok) : ∀ (k : Nat) (a : Int) (l : List Int), 0 ≤ (unR k L a l).d
  | 0, _, _ => Int.le_refl 0
  | k + 1, a, l => by
    unfold unR
    cases nxB L a abS with
    | false => exact (by decide : (0 : Int) ≤ 12)
    | true =>
      rw [cond_true]
      cases hasI (nx L a abS) l with
      | true => exact (by decide : (0 : Int) ≤ 43)
      | false =>
        rw [cond_false]
        cases nxB L (a + 1) unS with
        | false => exact Int.le_refl 0
        | true => exact unR_nn L k _ _
end Go.Proofs.YtdckpbeioemopabGreatDoor.R9
namespace Go.Proofs.YtdckpbeioemopabGreatDoor.R9
open Go.Am Go Go.Proofs.YtdckpbeioemopabGreatDoor Go.Proofs.YtdckpbeioemopabGreatDoor.Pr
set_option maxRecDepth 100000
variable {B : Nat → Option Obj}
def Er (s : List UInt8) (L : List Tok) (a e : Int) (z : Option Out) : Prop := 0 ≤ e ∧ ∃ q, z = fin s L a q e
def Tl (s : List UInt8) (L : List Tok) (z : Option Out) (y : QR) : Prop := ∃ a q, z = fin s L a q y.d ∧ (y.d = 0 → q = y.q ∧ a = y.a) ∧ (y.d ≠ 0 → a = y.c) ∧ 0 ≤ y.d
theorem Er.tl {s : List UInt8} {L : List Tok} {c e : Int} {z : Option Out} (h : Er s L c e z) (he : e ≠ 0) (q : Qry) (a : Int) : Tl s L z ⟨q, a, c, e⟩ := by
  obtain ⟨hn, q', hq⟩ := h
  exact ⟨c, q', hq, fun h => (he h).elim, fun _ => rfl, hn⟩
section
variable {s : List UInt8} {L : List Tok} (hT : TkO L)
include hT
theorem gA_is {a e : Int} (he : 0 ≤ e) (h0 : 0 ≤ a) (h1 : a ≤ (L.length : Int)) (z : Option Out) : gA L a e z = z := by
  unfold gA
  rw [rG_of he h0 h1 (rd_of hT).l, tkO_of hT]; rfl
theorem gM_is {a e : Int} {l : List Int} (he : 0 ≤ e) (h0 : 0 ≤ a) (h1 : a ≤ (L.length : Int)) (hl : l.length ≤ 10) (z : Option Out) : gM L a e l z = z := by
  unfold gM
  rw [rG_of he h0 h1 (rd_of hT).l, decide_eq_true (show l.length ≤ 500 by omega)]; rfl
theorem gU_is {a e : Int} {l : List Int} (he : 0 ≤ e) (h0 : 0 ≤ a) (h1 : a ≤ (L.length : Int)) (hl : l.length ≤ 10) (z : Option Out) : gU L a e l z = z := by
  have hn := hT.n
  unfold gU
  rw [rG_of he h0 h1 (rd_of hT).l, decide_eq_true (show 2 * (l.length : Int) + (L.length : Int) ≤ 400 + a by omega)]; rfl
theorem xL {q : Qry} {a e : Int} (he : 0 ≤ e) (h0 : 0 ≤ a) (h1 : a ≤ (L.length : Int)) : Er s L a e (XL s L q a e) := ⟨he, _, gT_is (rd_of hT) (by decide) he h0 h1 _⟩
theorem x5 {q : Qry} {a e : Int} (he : 0 ≤ e) (h0 : 0 ≤ a) (h1 : a ≤ (L.length : Int)) : Er s L a e (X5 s L q a e) := by
  unfold X5
  rw [gT_is (rd_of hT) (by decide) he h0 h1]
  exact xL hT he h0 h1
theorem x4 {q : Qry} {a e : Int} (he : 0 ≤ e) (h0 : 0 ≤ a) (h1 : a ≤ (L.length : Int)) : Er s L a e (X4 s L q a e) := by
  unfold X4
  rw [gT_is (rd_of hT) (by decide) he h0 h1, gN_is (rd_of hT) he h0 h1]
  exact x5 hT he h0 h1
theorem x3 {q : Qry} {a e : Int} (he : 0 ≤ e) (h0 : 0 ≤ a) (h1 : a ≤ (L.length : Int)) : Er s L a e (X3 s L q a e) := by
  unfold X3
  rw [gT_is (rd_of hT) (by decide) he h0 h1]
  exact x4 hT he h0 h1
theorem x2 {q : Qry} {a e : Int} (he : 0 ≤ e) (h0 : 0 ≤ a) (h1 : a ≤ (L.length : Int)) (hl : q.src.length ≤ 10) : Er s L a e (X2 s L q a e) := by
  unfold X2
  rw [gU_is hT he h0 h1 hl]
  exact x3 hT he h0 h1
theorem x1 {q : Qry} {a e : Int} (he : 0 ≤ e) (h0 : 0 ≤ a) (h1 : a ≤ (L.length : Int)) (hl : q.src.length ≤ 10) : Er s L a e (X1 s L q a e) := by
  unfold X1
  rw [gT_is (rd_of hT) (by decide) he h0 h1]
  exact x2 hT he h0 h1 hl
theorem x0 {q : Qry} {a e : Int} (he : 0 ≤ e) (h0 : 0 ≤ a) (h1 : a ≤ (L.length : Int)) (hl : q.src.length ≤ 9) : Er s L a e (X0 s L q a e) := by
  unfold X0
  rw [gT_is (rd_of hT) (by decide) he h0 h1, gM_is hT he h0 h1 (by omega)]
  exact x1 hT he h0 h1 (by simp only [List.length_append, List.length_singleton]; omega)
omit hT in
theorem f6 {q : Qry} {a : Int} : Tl s L (F6 s L q a) (p6 L q a) := by
  unfold F6 p6
  cases decide (a < (L.length : Int)) with
  | true =>
    show Tl s L (fin s L a q 38) ⟨q, a, a, 38⟩
    exact Er.tl ⟨by decide, q, rfl⟩ (by decide) q a
  | false =>
    show Tl s L (fin s L a q 0) ⟨q, a, 0, 0⟩
    exact ⟨a, q, rfl, fun _ => ⟨rfl, rfl⟩, fun h => (h rfl).elim, Int.le_refl 0⟩
omit hT in
theorem nx2 {a : Int} (h : nxB L a dsS = true) : nx L a dsS = 0 ∨ nx L a dsS = 1 := by
  unfold nxB at h
  simp only [Bool.and_eq_true] at h
  have h3 : nxI L a dsS < 2 := of_decide_eq_true h.2.2
  unfold nx
  omega
theorem f5 {q : Qry} {a : Int} (h0 : 0 ≤ a) (h1 : a ≤ (L.length : Int)) : Tl s L (F5 s L q a) (p5 L { q with late := 1 } a) := by
  unfold F5 p5 ndP
  rw [gT_is (rd_of hT) (by decide) (Int.le_refl 0) h0 h1]
  show Tl s L (bif nxB L a laS then _ else _) _
  cases hx : nxB L a laS with
  | false => exact f6
  | true =>
    have l1 := nxB_lt hx
    rw [cond_true, cond_true, gO_is (rd_of hT) (by decide) (Int.le_refl 0) (by omega) (by omega)]
    cases hy : nxB L (a + 1) dsS with
    | false => exact Er.tl ⟨by decide, _, rfl⟩ (by decide) _ _
    | true =>
      rw [cond_true, cond_true]
      rcases nx2 hy with e1 | e1 <;> rw [e1] <;> exact f6
theorem f4 {q : Qry} {a : Int} (h0 : 0 ≤ a) (h1 : a ≤ (L.length : Int)) : Tl s L (F4 s L q a) (p4 L { q with late := 1 } a) := by
  unfold F4 p4 ndP
  rw [gT_is (rd_of hT) (by decide) (Int.le_refl 0) h0 h1]
  show Tl s L (bif nxB L a byS then _ else _) _
  cases hx : nxB L a byS with
  | false => exact f5 hT h0 h1
  | true =>
    have l1 := nxB_lt hx
    rw [cond_true, cond_true, gT_is (rd_of hT) (by decide) (Int.le_refl 0) (by omega) (by omega)]
    show Tl s L (bif nxB L (a + 1) keS then _ else _) _
    cases hy : nxB L (a + 1) keS with
    | false => exact (xL hT (by decide) (by omega) (by omega)).tl (by decide) _ _
    | true =>
      have l2 := nxB_lt hy
      exact f5 hT (q := { q with byKey := true }) (by omega) (by omega)
def toP (q : Qry) : Qry := { q with wk := 1, ws := 0, we := 0, byKey := false, late := 1 }
omit hT in
theorem erN_is {d : Int} (h0 : 0 ≤ d) (h : d ≠ 0) : erN d = d := by
  unfold erN
  show ((d.toNat - 1 + 1 : Nat) : Int) = d
  omega
omit hT in
theorem erZ_is {a : Int} (h : zE L a ≠ 0) : erZ L a = zE L a := by
  have := zE_nn L a
  unfold erZ
  show (((zE L a).toNat - 1 + 1 : Nat) : Int) = _
  omega
theorem f3 {q : Qry} {a : Int} (hb : q.byKey = false) (h0 : 0 ≤ a) (h1 : a ≤ (L.length : Int)) : Tl s L (F3 s L q a) (p3 L (toP q) a) := by
  unfold F3 p3 ndP
  rw [gT_is (rd_of hT) (by decide) (Int.le_refl 0) h0 h1]
  show Tl s L (bif nxB L a wiS then _ else _) _
  cases hx : nxB L a wiS with
  | false =>
    rw [cond_false, cond_false, gN_is (rd_of hT) (by decide) h0 h1]
    exact (x5 hT (by decide) h0 h1).tl (by decide) _ _
  | true =>
    have l1 := nxB_lt hx
    rw [cond_true, cond_true, gN_is (rd_of hT) (Int.le_refl 0) (by omega) (by omega)]
    show Tl s L (F3w s L q (wnR L q.join (a + 1)) (w9 L q.join (a + 1))) (bif decide ((wnR L q.join (a + 1)).d = 0) then _ else _)
    have hd0 := wnR_nn L q.join (a + 1)
    unfold F3w g0
    rw [decide_eq_true hd0, cond_true]
    by_cases hd : (wnR L q.join (a + 1)).d = 0
    · obtain ⟨b0, b1⟩ := wnR_in hd
      rw [decide_eq_true hd, cond_true, cond_true]
      have := f4 (s := s) hT (q := { q with wk := (wnR L q.join (a + 1)).k, ws := (wnR L q.join (a + 1)).s, we := (wnR L q.join (a + 1)).e }) (a := (wnR L q.join (a + 1)).a) (by omega) b1
      have hq : ({ ({ q with wk := (wnR L q.join (a + 1)).k, ws := (wnR L q.join (a + 1)).s, we := (wnR L q.join (a + 1)).e } : Qry) with late := 1 } : Qry) = qw (toP q) (wnR L q.join (a + 1)) := by
        unfold qw toP
        simp only [hb]
      rw [hq] at this
      exact this
    · obtain ⟨b0, b1⟩ := wnR_c (L := L) (j := q.join) (a := a + 1) (by omega) (by omega) hd
      rw [decide_eq_false hd, cond_false, cond_false]
      have := (x5 (s := s) (L := L) hT (q := { q with wk := (w9 L q.join (a + 1)).k, ws := (w9 L q.join (a + 1)).s, we := (w9 L q.join (a + 1)).e }) (a := (wnR L q.join (a + 1)).c) (erN_nn (wnR L q.join (a + 1)).d) b0 b1)
      rw [erN_is hd0 hd] at this ⊢
      exact this.tl hd _ _
theorem f2 {q : Qry} {a : Int} (hb : q.byKey = false) (h0 : 0 ≤ a) (h1 : a ≤ (L.length : Int)) : Tl s L (F2 s L q a) (p2 L (toP q) a) := by
  unfold F2 p2 ndP
  rw [gT_is (rd_of hT) (by decide) (Int.le_refl 0) h0 h1]
  show Tl s L (bif nxB L a whS then _ else _) _
  cases hx : nxB L a whS with
  | false => exact f3 hT hb h0 h1
  | true =>
    have l1 := nxB_lt hx
    obtain ⟨z1, z2⟩ := z_in hT (a := a + 1) (by omega) (by omega)
    rw [cond_true, cond_true, gE_is (rd_of hT) (Int.le_refl 0) (by omega) (by omega)]
    unfold g0 exP
    rw [decide_eq_true (zE_nn L (a + 1)), cond_true]
    by_cases hz : zE L (a + 1) = 0
    · rw [decide_eq_true hz, cond_true, cond_true]
      exact f3 hT (q := { q with whr := zX L (a + 1) }) hb (by omega) z2
    · rw [decide_eq_false hz, cond_false, cond_false]
      have := x4 (s := s) hT (q := { q with whr := zX L (a + 1) }) (a := zN L (a + 1)) (erZ_nn L (a + 1)) (by omega) z2
      rw [erZ_is hz] at this ⊢
      exact this.tl hz _ _
def q0 (g : Int) (A : List Nod) (S : List Int) (j : Bool) : Qry := ⟨g, A, S, j, [], 0, 0, 0, false, 0⟩
theorem f1 {g : Int} {A : List Nod} {n a : Int} (h0 : 0 ≤ a) (h1 : a ≤ (L.length : Int)) : Tl s L (F1 s L (q0 g A [n] false) a) (p1 L g A n a) := by
  unfold F1 p1 ndP
  rw [gT_is (rd_of hT) (by decide) (Int.le_refl 0) h0 h1]
  show Tl s L (bif nxB L a joS then _ else _) _
  cases hx : nxB L a joS with
  | true =>
    have l1 := nxB_lt hx
    rw [cond_true, cond_true, gM_is hT (Int.le_refl 0) (by omega) (by omega) (by simp [q0])]
    cases hy : nxB L (a + 1) abS with
    | false => exact (x2 hT (q := q0 g A ([n] ++ [0]) true) (by decide) (by omega) (by omega) (by simp [q0])).tl (by decide) _ _
    | true =>
      have l2 := nxB_lt hy
      rw [cond_true, cond_true]
      show Tl s L (bif hasI (nx L (a + 1) abS) [n] then _ else _) _
      cases hasI (nx L (a + 1) abS) [n] with
      | true => exact (x2 hT (q := q0 g A ([n] ++ [nx L (a + 1) abS]) true) (by decide) (by omega) (by omega) (by simp [q0])).tl (by decide) _ _
      | false =>
        rw [cond_false, cond_false]
        show Tl s L (F1j s L (q0 g A ([n] ++ [nx L (a + 1) abS]) true) (a + 1 + 1)) _
        unfold F1j
        rw [gU_is hT (Int.le_refl 0) (by omega) (by omega) (by simp [q0])]
        exact f2 hT (q := q0 g A ([n] ++ [nx L (a + 1) abS]) true) rfl (by omega) (by omega)
  | false =>
    rw [cond_false, cond_false]
    unfold F1u
    rw [gU_is hT (Int.le_refl 0) h0 h1 (by simp [q0])]
    show Tl s L (bif nxB L a unS then g0 (urA L (a + 1) [n]).d (bif decide ((urA L (a + 1) [n]).d = 0) then _ else _) else _) _
    cases hy : nxB L a unS with
    | false => exact f2 hT (q := q0 g A [n] false) rfl h0 h1
    | true =>
      have l2 := nxB_lt hy
      have hd0 : 0 ≤ (urA L (a + 1) [n]).d := unR_nn L _ _ _
      rw [cond_true, cond_true]
      unfold g0
      rw [decide_eq_true hd0, cond_true]
      by_cases hd : (urA L (a + 1) [n]).d = 0
      · obtain ⟨b0, b1⟩ := unR_in (L := L) (L.length + 1) (a + 1) [n] (by omega) hd
        rw [decide_eq_true hd, cond_true, cond_true]
        exact f2 hT (q := q0 g A (urA L (a + 1) [n]).s false) rfl (show 0 ≤ (urA L (a + 1) [n]).a from by unfold urA; omega) b1
      · obtain ⟨b0, b1⟩ := unR_c (L := L) (L.length + 1) (a + 1) [n] (by omega) (by omega) hd
        rw [decide_eq_false hd, cond_false, cond_false]
        have := x3 (s := s) hT (q := q0 g A (urA L (a + 1) [n]).s false) (a := (urA L (a + 1) [n]).c) (erN_nn (urA L (a + 1) [n]).d) b0 b1
        show Tl s L (X3 s L (q0 g A (urA L (a + 1) [n]).s false) (urA L (a + 1) [n]).c (erN (urA L (a + 1) [n]).d)) _
        rw [erN_is hd0 hd] at this ⊢
        exact this.tl hd _ _
theorem fC {g : Int} {A : List Nod} {a : Int} (h0 : 0 ≤ a) (h1 : a ≤ (L.length : Int)) : Tl s L (FC s L (q0 g A [] false) a) (p0 L g A a) := by
  unfold FC p0 ndP
  show Tl s L (bif nxB L a clS then _ else _) _
  cases hx : nxB L a clS with
  | false => exact (x0 hT (q := q0 g A [] false) (by decide) h0 h1 (by simp [q0])).tl (by decide) _ _
  | true =>
    have l1 := nxB_lt hx
    rw [cond_true, cond_true]
    unfold F0
    rw [gT_is (rd_of hT) (by decide) (Int.le_refl 0) (by omega) (by omega)]
    show Tl s L (bif nxB L (a + 1) frS then _ else _) _
    cases hy : nxB L (a + 1) frS with
    | false =>
      rw [cond_false, cond_false, gM_is hT (by decide) (by omega) (by omega) (by simp [q0])]
      exact (x1 hT (q := q0 g A [0] false) (by decide) (by omega) (by omega) (by simp [q0])).tl (by decide) _ _
    | true =>
      have l2 := nxB_lt hy
      rw [cond_true, cond_true, gM_is hT (by decide) (by omega) (by omega) (by simp [q0])]
      cases hz : nxB L (a + 1 + 1) abS with
      | false => exact (x1 hT (q := q0 g A [0] false) (by decide) (by omega) (by omega) (by simp [q0])).tl (by decide) _ _
      | true =>
        have l3 := nxB_lt hz
        exact f1 hT (by omega) (by omega)
omit hT in
theorem nx4 {a : Int} (h : nxB L a agS = true) : k9 (nx L a agS) = agI L a ∧ decide (nx L a agS = 0) = decide (agI L a = 1) := by
  unfold nxB at h
  simp only [Bool.and_eq_true] at h
  have h3 : nxI L a agS < 4 := of_decide_eq_true h.2.2
  unfold agI nx
  rcases (show nxI L a agS = 0 ∨ nxI L a agS = 1 ∨ nxI L a agS = 2 ∨ nxI L a agS = 3 by omega) with e | e | e | e <;> rw [e] <;> decide
theorem fQ {a : Int} (h0 : 0 ≤ a) (h1 : a ≤ (L.length : Int)) : Tl s L (FQ s L a) (pQ L a) := by
  unfold FQ pQ ndP
  rw [gT_is (rd_of hT) (by decide) (Int.le_refl 0) h0 h1]
  show Tl s L (bif nxB L a seS then _ else _) _
  cases hx : nxB L a seS with
  | false =>
    rw [cond_false, cond_false, gA_is hT (by decide) h0 h1]
    exact (x0 hT (q := q0 (k9 0) [] [] false) (by decide) h0 h1 (by simp [q0])).tl (by decide) _ _
  | true =>
    have l1 := nxB_lt hx
    rw [cond_true, cond_true, gA_is hT (by decide) (by omega) (by omega)]
    cases hy : nxB L (a + 1) agS with
    | false => exact (x0 hT (q := q0 (k9 0) [] [] false) (by decide) (by omega) (by omega) (by simp [q0])).tl (by decide) _ _
    | true =>
      have l2 := nxB_lt hy
      obtain ⟨n1, n2⟩ := nx4 hy
      rw [cond_true, cond_true]
      unfold FA
      rw [n2]
      show Tl s L (bif nxB L (a + 1 + 1) Pr.opS then _ else _) _
      cases hz : nxB L (a + 1 + 1) Pr.opS with
      | false =>
        have := (x0 (s := s) hT (q := q0 (k9 (nx L (a + 1) agS)) [] [] false) (a := a + 1 + 1) (e := 12) (by decide) (by omega) (by omega) (by simp [q0])).tl (by decide) (qn (agI L (a + 1)) [] [0] false []) (a + 1 + 1)
        cases decide (agI L (a + 1) = 1) <;> exact this
      | true =>
        have l3 := nxB_lt hz
        rw [cond_true, cond_true]
        unfold qA
        rw [n1]
        cases decide (agI L (a + 1) = 1) with
        | true =>
          rw [cond_true, cond_true]
          show Tl s L (bif nxB L (a + 1 + 1 + 1) stS then _ else _) _
          cases hw : nxB L (a + 1 + 1 + 1) stS with
          | false => exact (x0 hT (q := q0 (agI L (a + 1)) [] [] false) (by decide) (by omega) (by omega) (by simp [q0])).tl (by decide) _ _
          | true =>
            have l4 := nxB_lt hw
            exact fC hT (by omega) (by omega)
        | false =>
          rw [cond_false, cond_false]
          obtain ⟨z1, z2⟩ := z_in hT (a := a + 1 + 1 + 1) (by omega) (by omega)
          unfold g0 exP
          rw [decide_eq_true (zE_nn L (a + 1 + 1 + 1)), cond_true]
          by_cases hv : zE L (a + 1 + 1 + 1) = 0
          · rw [decide_eq_true hv, cond_true, cond_true]
            exact fC hT (by omega) z2
          · rw [decide_eq_false hv, cond_false, cond_false]
            have := x0 (s := s) hT (q := q0 (agI L (a + 1)) (zX L (a + 1 + 1 + 1)) [] false) (a := zN L (a + 1 + 1 + 1)) (erZ_nn L (a + 1 + 1 + 1)) (by omega) z2 (by simp [q0])
            rw [erZ_is hv] at this ⊢
            exact this.tl hv _ _
end
end Go.Proofs.YtdckpbeioemopabGreatDoor.R9
