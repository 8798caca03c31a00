/-
  Texts put together: ChkText, ChkText2.
-/
import Derived.Test.YtgpoaohglpecgaaGreatDoorParB
import Derived.Test.YtgpoaohglpecgaaGreatDoorLitA
namespace Go.Proofs.YtgpoaohglpecgaaGreatDoor.Tx
open Go.Am Go Go.Proofs.YtgpoaohglpecgaaGreatDoor Go.Proofs.YtgpoaohglpecgaaGreatDoor.Kd Go.Proofs.YtgpoaohglpecgaaGreatDoor.Pr
set_option maxRecDepth 100000
variable {B : Nat → Option Obj}
theorem par_cases (s : List UInt8) : (prE s ≠ 0 ∧ prQ s = qZ ∧ 0 ≤ prN s ∧ prN s ≤ (s.length : Int)) ∨ (prE s = 0 ∧ prN s = (s.length : Int) ∧ lexE s = 0 ∧ (pQ (lexL s) 0).d = 0 ∧ prQ s = (pQ (lexL s) 0).q) := by
  by_cases he : lexE s = 0
  · obtain ⟨hL, h1, h2, h3⟩ := lex_tk he
    have e1 : prE s = (pQ (lexL s) 0).d := by unfold prE; rw [decide_eq_true he]; rfl
    have e2 : prN s = prC s (lexL s) (pQ (lexL s) 0) := by unfold prN; rw [decide_eq_true he]; rfl
    by_cases hd : (pQ (lexL s) 0).d = 0
    · refine .inr ⟨e1.trans hd, ?_, he, hd, ?_⟩
      · rw [e2]; unfold prC; rw [decide_eq_true hd]; rfl
      · unfold prQ; rw [decide_eq_true (e1.trans hd)]; rfl
    · refine .inl ⟨fun h => hd (e1.symm.trans h), ?_, ?_⟩
      · unfold prQ; rw [decide_eq_false (fun h => hd (e1.symm.trans h))]; rfl
      · rw [e2]
        unfold prC
        rw [decide_eq_false hd]
        obtain ⟨k1, k2⟩ := cQ hL hd
        by_cases hk : (pQ (lexL s) 0).c < ((lexL s).length : Int)
        · rw [decide_eq_true hk]
          have hm := tkA_mem k1 hk
          rw [h1] at hm
          have := lx_pos s 0 0 _ hm
          simp only [cond_false, cond_true]
          rw [h1]
          omega
        · rw [decide_eq_false hk]
          simp only [cond_false]
          omega
  · have e1 : prE s = lexE s := by unfold prE; rw [decide_eq_false he]; rfl
    refine .inl ⟨by rw [e1]; exact he, ?_, ?_⟩
    · unfold prQ; rw [e1, decide_eq_false he]; rfl
    · have e2 : prN s = lexN s := by unfold prN; rw [decide_eq_false he]; rfl
      rw [e2]
      by_cases hs : s.length ≤ 400
      · have h : ¬ (400 : Int) < (s.length : Int) := by omega
        unfold lexN
        rw [Lx.lexA_is h]
        by_cases he : (lx s 0 0).e = 0
        · rw [lx_end s 0 0 he]; omega
        · obtain ⟨p, q, h1, h2, _⟩ := lx_error s 0 0 he
          rw [h2, h1, List.length_append]; omega
      · rw [(lex_big hs).2]; omega
theorem prsd_pos {L : List Tok} (hL : TkO L) {X : List Nod} (h : X = [] ∨ Prsd L X) {x : Nod} (hx : x ∈ X) : ∃ t ∈ L, t.pos = x.pos := by
  rcases h with rfl | ⟨a, h0, h1, h2, rfl⟩
  · cases hx
  · obtain ⟨e, p, r, f1, f2, f3, f4, f5, f6, f7, f8, f9⟩ := z_fact hL h0 h1 h2
    obtain ⟨t, ht, he⟩ := f8 x hx
    exact ⟨t, List.mem_of_mem_drop (by rw [f2]; exact List.mem_append_left _ ht), he⟩
theorem tok_in {s : List UInt8} (he : lexE s = 0) {t : Tok} (ht : t ∈ lexL s) : 0 ≤ t.pos ∧ t.pos < (s.length : Int) := by
  obtain ⟨hL, h1, h2, h3⟩ := lex_tk he
  have hv := List.all_eq_true.1 hL.v t ht
  unfold okV validB at hv
  rw [Bool.and_eq_true] at hv
  obtain ⟨c, r, e, _⟩ := valid_tok (of_decide_eq_true hv.1)
  rw [h1] at ht
  have := lx_pos s 0 0 t ht
  rw [e, List.length_cons] at this
  omega
inductive K3 where
  | bad | typ | ok
end Go.Proofs.YtgpoaohglpecgaaGreatDoor.Tx
namespace Go.Proofs.YtgpoaohglpecgaaGreatDoor.Tx
open Go.Am Go Go.Proofs.YtgpoaohglpecgaaGreatDoor Go.Proofs.YtgpoaohglpecgaaGreatDoor.Kd Go.Proofs.YtgpoaohglpecgaaGreatDoor.Pr
set_option maxRecDepth 100000
variable {B : Nat → Option Obj}
def fbQ (b : Bool) (z : Option Out) : Option Out := bif b then z else rb false
def rS (b : Bool) (z : Option Out) : Option Out := bif b then z else none
def winE (p q : Qry) : Bool := decide (p.wk = q.wk) && (decide (p.ws = q.ws) && (decide (p.we = q.we) && true))
def sStr (_ : Nat → Option Obj) : FSpec
  | [.str _], [] => .leaf ⟨[.bool true], []⟩
  | _, _ => .bad
end Go.Proofs.YtgpoaohglpecgaaGreatDoor.Tx
