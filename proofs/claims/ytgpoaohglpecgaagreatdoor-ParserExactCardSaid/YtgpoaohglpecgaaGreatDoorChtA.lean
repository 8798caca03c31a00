/-
  Texts put together: ChkText, ChkText2.
-/
import Derived.Test.YtgpoaohglpecgaaGreatDoorParB
import Derived.Test.YtgpoaohglpecgaaGreatDoorLitA
namespace Go.Proofs.YtgpoaohglpecgaaGreatDoor.Tx
open Go.Am Go Go.Proofs.YtgpoaohglpecgaaGreatDoor Go.Proofs.YtgpoaohglpecgaaGreatDoor.Kd Go.Proofs.YtgpoaohglpecgaaGreatDoor.Pr
set_option maxRecDepth 100000
variable {B : Nat → Option Obj}
theorem par_cases (s : List UInt8) : (prE s ≠ 0 ∧ prQ s = qZ ∧ 0 ≤ prN s ∧ prN s ≤ (s.length : Int)) ∨ (prE s = 0 ∧ prN s = (s.length : Int) ∧ lexE s = 0 ∧ (pQ (lexL s) 0).d = 0 ∧ prQ s = (pQ (lexL s) 0).q) := by
  by_cases he : lexE s = 0
  · obtain ⟨hL, h1, h2, h3⟩ := lex_tk he
    have e1 : prE s = (pQ (lexL s) 0).d := by unfold prE; rw [decide_eq_true he]; rfl
    have e2 : prN s = prC s (lexL s) (pQ (lexL s) 0) := by unfold prN; rw [decide_eq_true he]; rfl
    by_cases hd : (pQ (lexL s) 0).d = 0
    · refine .inr ⟨e1.trans hd, ?_, he, hd, ?_⟩
      · rw [e2]; unfold prC; rw [decide_eq_true hd]; rfl
      · unfold prQ; rw [decide_eq_true (e1.trans hd)]; rfl
    · refine .inl ⟨fun h => hd (e1.symm.trans h), ?_, ?_⟩
      · unfold prQ; rw [decide_eq_false (fun h => hd (e1.symm.trans h))]; rfl
      · rw [e2]
        unfold prC
        rw [decide_eq_false hd]
        obtain ⟨k1, k2⟩ := cQ hL hd
        by_cases hk : (pQ (lexL s) 0).c < ((lexL s).length : Int)
        · rw [decide_eq_true hk]
          have hm := tkA_mem k1 hk
          rw [h1] at hm
          have := lx_pos s 0 0 _ hm
          simp only [cond_false, cond_true]
          rw [h1]
          omega
        · rw [decide_eq_false hk]
          simp only [cond_false]
          omega
  · have e1 : prE s = lexE s := by unfold prE; rw [decide_eq_false he]; rfl
    refine .inl ⟨by rw [e1]; exact he, ?_, ?_⟩
    · unfold prQ; rw [e1, decide_eq_false he]; rfl
    · have e2 : prN s = lexN s := by unfold prN; rw [decide_eq_false he]; rfl
      rw [e2]
      by_cases hs : s.length ≤ 400
      · have h : ¬ (400 : Int) < (s.length : Int) := by omega
        unfold lexN
        rw [Lx.lexA_is h]
        by_cases he : (lx s 0 0).e = 0
        · rw [lx_end s 0 0 he]; omega
        · obtain ⟨p, q, h1, h2, _⟩ := lx_error s 0 0 he
          rw [h2, h1, List.length_append]; omega
      · rw [(lex_big hs).2]; omega
inductive K3 where
  | bad | typ | ok
def sP3 : K3 → FSpec
  | .bad => fun vs bs => match vs, bs with
    | [.str s], [] => .node (!decide (prE s = 0)) (.leaf ⟨[qZ.av 0 1 2, i64 (prN s), i64 (prE s)], [nb false [], lb false [], nb false []]⟩) .bad
    | _, _ => .bad
  | _ => fun vs bs => match vs, bs with
    | [.str s], [] => .node (decide (prE s = 0)) (.leaf ⟨[(prQ s).av 0 1 2, i64 s.length, i64 0], [nb false (prQ s).arg, lb false (prQ s).src, nb false (prQ s).whr]⟩) .bad
    | _, _ => .bad
theorem okP3 (hB : Laid B) (k : K3) : FnOk (E0 B) 18 (sP3 k) := by
  refine fnOk_weak (okPar hB) fun vs bs r h => ?_
  cases k with
  | bad =>
    simp only [sP3] at h
    split at h
    · rename_i s
      rcases T.node_sel h with ⟨hc, h2⟩ | ⟨_, h2⟩
      · simp only [T.sel, Option.some.injEq] at h2; subst h2
        rcases par_cases s with ⟨h1, h3, _⟩ | ⟨h1, _⟩
        · show some (parO false s) = _
          unfold parO
          rw [h3]; rfl
        · rw [h1] at hc; cases hc
      · simp [T.sel] at h2
    · simp [T.sel] at h
  | typ =>
    simp only [sP3] at h
    split at h
    · rename_i s
      rcases T.node_sel h with ⟨hc, h2⟩ | ⟨_, h2⟩
      · simp only [T.sel, Option.some.injEq] at h2; subst h2
        rcases par_cases s with ⟨h1, h3, _⟩ | ⟨h1, h3, _⟩
        · exact (h1 (of_decide_eq_true hc)).elim
        · show some (parO false s) = _
          unfold parO
          rw [h1, h3]
      · simp [T.sel] at h2
    · simp [T.sel] at h
  | ok =>
    simp only [sP3] at h
    split at h
    · rename_i s
      rcases T.node_sel h with ⟨hc, h2⟩ | ⟨_, h2⟩
      · simp only [T.sel, Option.some.injEq] at h2; subst h2
        rcases par_cases s with ⟨h1, h3, _⟩ | ⟨h1, h3, _⟩
        · exact (h1 (of_decide_eq_true hc)).elim
        · show some (parO false s) = _
          unfold parO
          rw [h1, h3]
      · simp [T.sel] at h2
    · simp [T.sel] at h
def ckT (q : Qry) : Bool := decide ((ckE q).2 = 42)
def ckO (q : Qry) : Bool := decide ((ckE q).1 = 0) && decide ((ckE q).2 = 0)
def sC3 : K3 → FSpec
  | .typ => fun vs bs => match vs, bs with
    | [.agg [.int .u8 ag, .slw 0, .slw 1, .bool j, .slw 2, .int .u8 wk, .int .i64 ws, .int .i64 we, .bool bk, .int .u8 lt]], [⟨false, .nodes A⟩, ⟨false, .ints .i64 S⟩, ⟨false, .nodes W⟩] => .node (ckT ⟨ag, A, S, j, W, wk, ws, we, bk, lt⟩) (.leaf ⟨[.int .i64 (ckE ⟨ag, A, S, j, W, wk, ws, we, bk, lt⟩).1, .int .i64 42], []⟩) .bad
    | _, _ => .bad
  | _ => fun vs bs => match vs, bs with
    | [.agg [.int .u8 ag, .slw 0, .slw 1, .bool j, .slw 2, .int .u8 wk, .int .i64 ws, .int .i64 we, .bool bk, .int .u8 lt]], [⟨false, .nodes A⟩, ⟨false, .ints .i64 S⟩, ⟨false, .nodes W⟩] => .node (ckO ⟨ag, A, S, j, W, wk, ws, we, bk, lt⟩) (.leaf ⟨[.int .i64 0, .int .i64 0], []⟩) .bad
    | _, _ => .bad
noncomputable def libT (k : K3) : Tb := (30, [], sTrueF) :: (18, [], sP3 k) :: (32, [], sC3 k) :: Ck.lb6
end Go.Proofs.YtgpoaohglpecgaaGreatDoor.Tx
namespace Go.Proofs.YtgpoaohglpecgaaGreatDoor.Tx
open Go.Am Go Go.Proofs.YtgpoaohglpecgaaGreatDoor Go.Proofs.YtgpoaohglpecgaaGreatDoor.Kd Go.Proofs.YtgpoaohglpecgaaGreatDoor.Pr
set_option maxRecDepth 100000
variable {B : Nat → Option Obj}
def fbQ (b : Bool) (z : Option Out) : Option Out := bif b then z else rb false
def rS (b : Bool) (z : Option Out) : Option Out := bif b then z else none
def winE (p q : Qry) : Bool := decide (p.wk = q.wk) && (decide (p.ws = q.ws) && (decide (p.we = q.we) && true))
def eqlO (p q : Qry) (z : Option Out) : Option Out := fbQ (decide (p.agg = q.agg)) (rS (decide (p.arg.length ≤ 1000)) (fbQ (all2 Ck.eqNoP p.arg q.arg) (rS (decide (p.src.length ≤ 1000)) (fbQ (all2 Ck.eqInt p.src q.src) (fbQ (p.join == q.join) (rS (decide (p.whr.length ≤ 1000)) (fbQ (all2 Ck.eqNoP p.whr q.whr) (fbQ (winE p q) (fbQ (p.byKey == q.byKey) (fbQ (decide (p.late = q.late))
  (rS (decide (p.arg.length ≤ 1000)) (fbQ (all2 eqNod p.arg q.arg) (rS (decide (p.whr.length ≤ 1000)) (fbQ (all2 eqNod p.whr q.whr) z))))))))))))))
def txO (s : List UInt8) : K3 → Option Out
  | .bad => bif decide ((1000 : Int) < (s.length : Int)) then rb true else rS (!decide (prE s = 0)) (rS (!decide (prE s = 0)) (rS (!decide (prE s = 0)) (bif decide (prN s < 0) then rb false else bif decide ((s.length : Int) < prN s) then rb false else rS (!decide (prE s = 0)) (fbQ (decide (prE s = prE s)) (fbQ (decide (prN s = prN s)) (rb true))))))
  | .typ => bif decide ((1000 : Int) < (s.length : Int)) then rb true else rS (decide (prE s = 0)) (rS (ckT (prQ s)) (rS (decide (prE s = 0)) (bif decide ((ckE (prQ s)).1 < 0) then rb false else bif decide ((s.length : Int) < (ckE (prQ s)).1) then rb false else rS (ckT (prQ s)) (fbQ (decide ((ckE (prQ s)).1 = (ckE (prQ s)).1)) (fbQ (decide ((ckE (prQ s)).1 < (s.length : Int))) (rb true))))))
  | .ok => bif decide ((1000 : Int) < (s.length : Int)) then rb true else rS (decide (prE s = 0)) (rS (ckO (prQ s)) (rS (decide (prE s = 0)) (bif decide ((s.length : Int) < (s.length : Int)) then rb false else rS (ckO (prQ s)) (fbQ (decide ((s.length : Int) = (s.length : Int))) (eqlO (prQ s) (prQ s) (rb true))))))
theorem fnOk_cases {E : Env} {f : FuncId} {ι : Type} {s : FSpec} {si : ι → FSpec} (hat : ∃ fn c, FnAt E.P f fn c) (h : ∀ i, FnOk E f (si i)) (hs : ∀ vs bs r, (s vs bs).sel = some r → ∃ i, (si i vs bs).sel = some r) : FnOk E f s :=
  ⟨hat, fun vs bs out hsel => by
    obtain ⟨i, hi⟩ := hs vs bs out hsel
    exact (h i).2 vs bs out hi⟩
end Go.Proofs.YtgpoaohglpecgaaGreatDoor.Tx
