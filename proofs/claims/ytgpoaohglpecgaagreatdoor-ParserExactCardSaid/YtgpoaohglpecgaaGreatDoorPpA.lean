/-
  Texts put together: ParPart, ParPart2.
-/
import Derived.Test.YtgpoaohglpecgaaGreatDoorWrA
import Derived.Test.YtgpoaohglpecgaaGreatDoorCmpA
import Derived.Test.YtgpoaohglpecgaaGreatDoorLawA
import Derived.Test.YtgpoaohglpecgaaGreatDoorChtA
namespace Go.Proofs.YtgpoaohglpecgaaGreatDoor.Pp
open Go.Am Go Go.Proofs.YtgpoaohglpecgaaGreatDoor Go.Proofs.YtgpoaohglpecgaaGreatDoor.Pr
set_option maxRecDepth 100000
variable {B : Nat → Option Obj}
inductive KP where
  | many | good
def sAllM : FSpec
  | [.str s], [] => .node (decide (lexE s = 4)) (.leaf ⟨[.slw 0, .int .i64 (lexN s), .int .i64 4], [⟨true, .toks (lexL s)⟩]⟩) .bad
  | _, _ => .bad
theorem okAllM (hB : Laid B) : FnOk (E0 B) 16 sAllM := fnOk_weak (Lx.okAll hB) fun vs bs r h => by
  unfold sAllM at h
  split at h
  · rename_i s
    rcases T.node_sel h with ⟨hg, h2⟩ | ⟨_, h2⟩
    · rw [← h2, ← of_decide_eq_true hg]; rfl
    · simp [T.sel] at h2
  · simp [T.sel] at h
def KP.all : KP → FSpec
  | .many => sAllM
  | .good => sAllG
def KP.par : KP → Tx.K3
  | .many => .bad
  | .good => .ok
noncomputable def libP (k : KP) : Tb := (15, [], sTrueF) :: (23, [], Wr.sWt) :: (18, [], Tx.sP3 k.par) :: (16, [], k.all) :: (27, [], sParseG) :: (29, [], sSameG) :: (26, [], Lx.sGr) :: Ck.lib15
def qB (q : Qry) : Blk := ⟨true, .gen qTy [[.int .u8 q.agg, .slw 2, .slw 3, .bool q.join, .slw 4, .int .u8 q.wk, .int .i64 q.ws, .int .i64 q.we, .bool q.byKey, .int .u8 q.late]]⟩
def bsP (L : List Tok) (q : Qry) : List Blk := [qB q, tb L, nb false q.arg, lb false q.src, nb false q.whr]
end Go.Proofs.YtgpoaohglpecgaaGreatDoor.Pp
namespace Go.Proofs.YtgpoaohglpecgaaGreatDoor.Pp
open Go.Am Go Go.Proofs.YtgpoaohglpecgaaGreatDoor Go.Proofs.YtgpoaohglpecgaaGreatDoor.Pr
set_option maxRecDepth 100000
variable {B : Nat → Option Obj}
theorem qF_len (f : Bool) {q : Qry} {ea ew : Ex} (h : QX q ea ew) : 4 ≤ (qF f q ea ew).length := by
  have h0 := h.s0
  unfold qF frF
  cases hs : q.src with
  | nil => rw [hs] at h0; simp at h0
  | cons x r => simp only [List.length_cons, List.length_append]; omega
end Go.Proofs.YtgpoaohglpecgaaGreatDoor.Pp
