/-
  Exprs: contracts that promise where there is no error: for the laws.
-/
import Derived.Test.YthfieonkfailkaaGreatDoorPrsLawB
namespace Go.Proofs.YthfieonkfailkaaGreatDoor
open Go.Am Go
set_option maxRecDepth 100000
variable {B : Nat → Option Obj}
theorem fnOk_weak {E : Env} {f : FuncId} {s s' : FSpec} (h : FnOk E f s) (hw : ∀ vs bs r, (s' vs bs).sel = some r → (s vs bs).sel = some r) : FnOk E f s' := ⟨h.1, fun vs bs out hs => h.2 vs bs out (hw vs bs out hs)⟩
def sTextG : FSpec
  | [.slw 0], [⟨false, .nodes X⟩] => .node (rngX X && decide (chkN X = 0)) (.leaf ⟨[.str (txS X), .int .i64 0], []⟩) .bad
  | _, _ => .bad
def sAllG : FSpec
  | [.str s], [] => .node (decide (lexE s = 0)) (.leaf ⟨[.slw 0, .int .i64 (lexN s), .int .i64 0], [⟨true, .toks (lexL s)⟩]⟩) .bad
  | _, _ => .bad
def sParseG : FSpec
  | [.slw 0, .int .i64 at'], [⟨false, .toks L⟩] => .node (shortT L && decide (zE L at' = 0)) (.leaf ⟨[.slw 0, .int .i64 (zN L at'), .int .i64 0], [⟨true, .nodes (zX L at')⟩]⟩) .bad
  | _, _ => .bad
def sSameG : FSpec
  | [.slw 0, .slw 1], [⟨false, .nodes X⟩, ⟨false, .nodes Y⟩] => .node (decide (smE X Y = 0)) (.leaf ⟨[.bool (smB X Y), .int .i64 0], []⟩) .bad
  | _, _ => .bad
def sNodeG : FSpec
  | [.int .u8 k, .int .i64 0, .int .i64 p, .slw 0], [⟨false, .gen [t] [[.slw 1], [.slw 2]]⟩, ⟨false, .nodes L⟩, ⟨false, .nodes M⟩] => .node (Nat.beq t 29 && (decide (7 ≤ k ∧ k ≤ 19 ∧ 0 ≤ p ∧ p ≤ 400) && (decide (chkN L = 0) && (decide (chkN M = 0) && decide (chkN (biL k p L M) = 0))))) (.leaf ⟨[.slw 0, .int .i64 0], [⟨true, .nodes (biL k p L M)⟩]⟩) .bad
  | _, _ => .bad
theorem okTextG (hB : Laid B) : FnOk (E0 B) 15 sTextG := fnOk_weak (okTextE hB) fun vs bs r h => by
  unfold sTextG at h
  split at h
  · rename_i X
    rcases T.node_sel h with ⟨hg, h2⟩ | ⟨_, h2⟩
    · rw [Bool.and_eq_true] at hg
      rw [← h2]
      show (bif rngX X then _ else _) = _
      rw [hg.1, of_decide_eq_true hg.2]; rfl
    · simp [T.sel] at h2
  · simp [T.sel] at h
theorem okAllG (hB : Laid B) : FnOk (E0 B) 13 sAllG := fnOk_weak (Lx.okAll hB) fun vs bs r h => by
  unfold sAllG at h
  split at h
  · rename_i s
    rcases T.node_sel h with ⟨hg, h2⟩ | ⟨_, h2⟩
    · rw [← h2, ← of_decide_eq_true hg]; rfl
    · simp [T.sel] at h2
  · simp [T.sel] at h
theorem okParseG (hB : Laid B) : FnOk (E0 B) 14 sParseG := fnOk_weak (okParse hB) fun vs bs r h => by
  unfold sParseG at h
  split at h
  · rename_i at' L
    rcases T.node_sel h with ⟨hg, h2⟩ | ⟨_, h2⟩
    · rw [Bool.and_eq_true] at hg
      rw [← h2]
      show (bif shortT L then _ else _) = _
      rw [hg.1, of_decide_eq_true hg.2]; rfl
    · simp [T.sel] at h2
  · simp [T.sel] at h
theorem okSameG : FnOk (E0 B) 23 sSameG := fnOk_weak okSameN fun vs bs r h => by
  unfold sSameG at h
  split at h
  · rename_i X Y
    rcases T.node_sel h with ⟨hg, h2⟩ | ⟨_, h2⟩
    · rw [← h2, ← of_decide_eq_true hg]; rfl
    · simp [T.sel] at h2
  · simp [T.sel] at h
theorem okNodeG : FnOk (E0 B) 27 sNodeG := fnOk_weak okNode fun vs bs r h => by
  unfold sNodeG at h
  split at h
  · rename_i k p t L M
    rcases T.node_sel h with ⟨hg, h2⟩ | ⟨_, h2⟩
    · simp only [Bool.and_eq_true] at hg
      obtain ⟨g1, g2, g3, g4, g5⟩ := hg
      rw [← h2]
      show (bif Nat.beq t _ && (decide _ && (decide (chkN L = 0) && decide (chkN M = 0))) then (oT (biL k p L M)).sel else _) = _
      rw [g1, g2, g3, g4, oT_sel]
      unfold finN
      rw [g5]; rfl
    · simp [T.sel] at h2
  · simp [T.sel] at h
noncomputable def libW : Tb := (14, [], sParseG) :: (15, [], sTextG) :: (13, [], sAllG) :: (23, [], sSameG) :: (27, [], sNodeG) :: (16, [], sTrueF) :: lib5
theorem libW_ok (hB : Laid B) : TbOk B libW := (((((lib5_ok.add (okAlive5 hB)).add okNodeG).add okSameG).add (okAllG hB)).add (okTextG hB)).add (okParseG hB)
end Go.Proofs.YthfieonkfailkaaGreatDoor
