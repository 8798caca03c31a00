/-
  Texts put together: ParZ, ParBlk.
-/
import Derived.Test.YtdckpbeioemopabGreatDoorAlkA
import Derived.Test.YtdckpbeioemopabGreatDoorExA
import Derived.Test.YtdckpbeioemopabGreatDoorLitA
import Derived.Test.YtdckpbeioemopabGreatDoorValA
namespace Go.Proofs.YtdckpbeioemopabGreatDoor.Pr
open Go.Am Go Go.Proofs.YtdckpbeioemopabGreatDoor
set_option maxRecDepth 100000
def qz (q : Qry) : Qry := { q with arg := q.arg.map Nod.st, whr := q.whr.map Nod.st }
def rz (r : QR) : QR := { r with q := qz r.q }
theorem alk_z {p q : Qry} (h : qz p = qz q) : alkB p q = true := by
  unfold qz at h
  simp only [Qry.mk.injEq] at h
  obtain ⟨h1, h2, h3, h4, h5, h6, h7, h8, h9, h10⟩ := h
  unfold alkB
  rw [all2_st, all2_st, h2, h5, h1, h3, h4, h6, h7, h8, h9, h10]
  simp
theorem q_late {q q' : Qry} (hq : qz q = qz q') (l : Int) : qz { q with late := l } = qz { q' with late := l } := by
  unfold qz at hq ⊢
  simp only [Qry.mk.injEq] at hq ⊢
  simp [hq]
theorem q_by {q q' : Qry} (hq : qz q = qz q') (b : Bool) : qz { q with byKey := b } = qz { q' with byKey := b } := by
  unfold qz at hq ⊢
  simp only [Qry.mk.injEq] at hq ⊢
  simp [hq]
theorem q_win {q q' : Qry} (hq : qz q = qz q') (r : WR) : qz (qw q r) = qz (qw q' r) := by
  unfold qz qw at *
  simp only [Qry.mk.injEq] at hq ⊢
  simp [hq]
theorem q_whr {q q' : Qry} {X X' : List Nod} (hq : qz q = qz q') (hx : X.map Nod.st = X'.map Nod.st) : qz { q with whr := X } = qz { q' with whr := X' } := by
  unfold qz at hq ⊢
  simp only [Qry.mk.injEq] at hq ⊢
  simp [hq, hx]
theorem q_n {g : Int} {A A' : List Nod} (hA : A.map Nod.st = A'.map Nod.st) (S : List Int) (j : Bool) : qz (qn g A S j []) = qz (qn g A' S j []) := by
  unfold qz qn
  simp [hA]
theorem z_pF {g : Int} {A A' : List Nod} (hA : A.map Nod.st = A'.map Nod.st) (a c d : Int) : rz (pF g A a c d) = rz (pF g A' a c d) := by
  unfold pF rz
  simp only
  rw [q_n hA]
theorem z_ex {L M : List Tok} {a : Int} {X X' Y Y' : QR} (he : zE L a = zE M a) (hx : rz X = rz X') (hy : rz Y = rz Y') : rz (exP L a X Y) = rz (exP M a X' Y') := by
  unfold exP
  rw [he]
  cases decide (zE M a = 0) with
  | true => exact hx
  | false => exact hy
section
variable {L M : List Tok} (h : L.map Tok.z = M.map Tok.z)
include h
theorem z_len : L.length = M.length := by
  have := congrArg List.length h
  simpa using this
theorem z_tk (a : Int) : (tkA L a).kind = (tkA M a).kind ∧ (tkA L a).text = (tkA M a).text := by
  have e : (tkA L a).z = (tkA M a).z := by
    unfold tkA
    have h1 : ∀ N : List Tok, (N.getD a.toNat default).z = (N.map Tok.z).getD a.toNat default := fun N => by
      rw [List.getD, List.getD, List.getElem?_map]
      cases N[a.toNat]? <;> rfl
    rw [h1, h1, h]
  exact ⟨show (tkA L a).z.kind = (tkA M a).z.kind by rw [e], show (tkA L a).z.text = (tkA M a).z.text by rw [e]⟩
theorem z_nxI (a : Int) (S : List (List UInt8)) : nxI L a S = nxI M a S := by
  unfold nxI
  rw [(z_tk h a).2]
theorem z_nxB (a : Int) (S : List (List UInt8)) : nxB L a S = nxB M a S := by
  unfold nxB
  rw [z_len h, (z_tk h a).1, z_nxI h]
theorem z_nx (a : Int) (S : List (List UInt8)) : nx L a S = nx M a S := by
  unfold nx
  rw [z_nxI h]
theorem z_nmN (a : Int) : nmN L a = nmN M a := by
  unfold nmN
  rw [(z_tk h a).2]
theorem z_nmF (a : Int) : nmF L a = nmF M a := by
  unfold nmF
  rw [z_len h, (z_tk h a).1]
theorem z_nmR (a t : Int) : nmR L a t = nmR M a t := by
  unfold nmR
  rw [z_nmN h]
theorem z_wn (j : Bool) (a : Int) : wnR L j a = wnR M j a := by
  unfold wnR wnQ wkI
  simp only [z_nxB h, z_nx h, z_nmN h, z_nmF h, z_nmR h]
theorem z_un : ∀ (k : Nat) (a : Int) (l : List Int), unR k L a l = unR k M a l
  | 0, _, _ => rfl
  | k + 1, a, l => by
    unfold unR
    rw [z_nxB h, z_nx h, z_nxB h, z_un k]
theorem z_ur (a : Int) (l : List Int) : urA L a l = urA M a l := by
  unfold urA
  rw [z_un h, z_len h]
theorem z_e (hL : TkO L) (hM : TkO M) {a : Int} (h0 : 0 ≤ a) (h1 : a ≤ (L.length : Int)) : zE L a = zE M a ∧ zN L a = zN M a ∧ (zX L a).map Nod.st = (zX M a).map Nod.st := by
  have hl := z_len h
  obtain ⟨x1, x2, x3⟩ := z_ok hL.v hL.n h0 h1
  obtain ⟨y1, y2, y3⟩ := z_ok hM.v hM.n h0 (by omega)
  have e : (zR a L).z = (zR a M).z := by
    unfold zR
    rw [pE_z, pE_z, List.map_drop, List.map_drop, h]
  rw [x1, x2, x3, y1, y2, y3]
  cases hx : zR a L with
  | ok e1 r1 =>
    rw [hx] at e
    cases hy : zR a M with
    | ok e2 r2 =>
      rw [hy] at e
      simp only [PR.z, PR.ok.injEq] at e
      have hr := congrArg List.length e.2
      simp only [List.length_map] at hr
      refine ⟨rfl, ?_, ?_⟩
      · show (L.length : Int) - r1.length = (M.length : Int) - r2.length
        omega
      · show (e1.flat 0).map Nod.st = (e2.flat 0).map Nod.st
        rw [flat_st, flat_st, e.1]
    | bad => rw [hy] at e; cases e
    | out => rw [hy] at e; cases e
  | bad er n =>
    rw [hx] at e
    cases hy : zR a M with
    | ok => rw [hy] at e; cases e
    | bad er' n' =>
      rw [hy] at e
      simp only [PR.z, PR.bad.injEq] at e
      refine ⟨e.1, ?_, rfl⟩
      show (L.length : Int) - n = (M.length : Int) - n'
      omega
    | out => rw [hy] at e; cases e
  | out =>
    have := zR_in hL.n a
    rw [hx] at this; cases this
theorem z_nd {a : Int} {S : List (List UInt8)} {X X' Y Y' : QR} (hx : a < (L.length : Int) → rz X = rz X') (hy : rz Y = rz Y') : rz (ndP L a S X Y) = rz (ndP M a S X' Y') := by
  unfold ndP
  rw [← z_nxB h]
  cases hb : nxB L a S with
  | true => exact hx (nxB_lt hb)
  | false => exact hy
theorem z6 {q q' : Qry} {a : Int} (hq : qz q = qz q') : rz (p6 L q a) = rz (p6 M q' a) := by
  unfold p6
  rw [z_len h]
  cases decide (a < (M.length : Int)) <;> (unfold rz; simp only [cond_true, cond_false]; rw [hq])
theorem z5 {q q' : Qry} {a : Int} (hq : qz q = qz q') : rz (p5 L q a) = rz (p5 M q' a) := by
  unfold p5
  rw [z_nx h]
  refine z_nd h (fun _ => z_nd h (fun _ => z6 h (q_late hq _)) ?_) (z6 h hq)
  unfold rz
  simp only
  rw [q_late hq 1]
theorem z4 {q q' : Qry} {a : Int} (hq : qz q = qz q') : rz (p4 L q a) = rz (p4 M q' a) := by
  unfold p4
  refine z_nd h (fun _ => z_nd h (fun _ => z5 h (q_by hq _)) ?_) (z5 h hq)
  unfold rz
  simp only
  rw [q_by hq true]
theorem z3 {q q' : Qry} {a : Int} (hq : qz q = qz q') : rz (p3 L q a) = rz (p3 M q' a) := by
  unfold p3
  have hj : q.join = q'.join := show (qz q).join = (qz q').join by rw [hq]
  rw [z_wn h, hj]
  refine z_nd h (fun _ => ?_) ?_
  · cases decide ((wnR M q'.join (a + 1)).d = 0) with
    | true => exact z4 h (q_win hq _)
    | false =>
      unfold rz
      simp only [cond_false]
      rw [q_win hq]
  · unfold rz
    simp only
    rw [hq]
theorem z2 (hL : TkO L) (hM : TkO M) {q q' : Qry} {a : Int} (h0 : 0 ≤ a) (hq : qz q = qz q') : rz (p2 L q a) = rz (p2 M q' a) := by
  unfold p2
  refine z_nd h (fun ha => ?_) (z3 h hq)
  obtain ⟨e1, e2, e3⟩ := z_e h hL hM (a := a + 1) (by omega) (by omega)
  refine z_ex e1 ?_ ?_
  · rw [e2]; exact z3 h (q_whr hq e3)
  · unfold rz
    simp only
    rw [q_whr hq e3, e2, e1]
theorem z1 (hL : TkO L) (hM : TkO M) {g : Int} {A A' : List Nod} {n a : Int} (h0 : 0 ≤ a) (hA : A.map Nod.st = A'.map Nod.st) : rz (p1 L g A n a) = rz (p1 M g A' n a) := by
  unfold p1
  rw [z_nx h, z_ur h]
  refine z_nd h (fun _ => z_nd h (fun _ => ?_) ?_) (z_nd h (fun _ => ?_) (z2 h hL hM h0 (q_n hA _ _)))
  · cases hasI (nx M (a + 1) abS) [n] with
    | true =>
      unfold rz
      simp only [cond_true]
      rw [q_n hA]
    | false => exact z2 h hL hM (by omega) (q_n hA _ _)
  · unfold rz
    simp only
    rw [q_n hA]
  · by_cases hd : (urA M (a + 1) [n]).d = 0
    · rw [decide_eq_true hd]
      have hl := z_len h
      have hb := unR_in (L := M) (M.length + 1) (a + 1) [n] (by omega) hd
      have hb : a + 1 ≤ (urA M (a + 1) [n]).a ∧ (urA M (a + 1) [n]).a ≤ (M.length : Int) := hb
      exact z2 h hL hM (by omega) (q_n hA _ _)
    · rw [decide_eq_false hd]
      unfold rz
      simp only [cond_false]
      rw [q_n hA]
theorem z0 (hL : TkO L) (hM : TkO M) {g : Int} {A A' : List Nod} {a : Int} (h0 : 0 ≤ a) (hA : A.map Nod.st = A'.map Nod.st) : rz (p0 L g A a) = rz (p0 M g A' a) := by
  unfold p0
  rw [z_nx h]
  exact z_nd h (fun _ => z_nd h (fun _ => z_nd h (fun _ => z1 h hL hM (by omega) hA) (z_pF hA _ _ _)) (z_pF hA _ _ _)) (z_pF hA _ _ _)
end
end Go.Proofs.YtdckpbeioemopabGreatDoor.Pr
namespace Go.Proofs.YtdckpbeioemopabGreatDoor.Bk
open Go.Am Go Go.Proofs.YtdckpbeioemopabGreatDoor Go.Proofs.YtdckpbeioemopabGreatDoor.Pr
set_option maxRecDepth 100000
variable {B : Nat → Option Obj}
noncomputable def lib1 : Tb := (45, [], sAlk) :: (11, [], sPar) :: (61, [], Lx.sJn) :: (25, [], Lx.sAll) :: []
end Go.Proofs.YtdckpbeioemopabGreatDoor.Bk
