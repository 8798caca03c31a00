/-
  GraphNames: a literal run.
-/
import Derived.Test.YtdckpbeioemopaaGreatDoorGrChk
import Derived.Test.YtdckpbeioemopaaGreatDoorGpA
namespace Go.Proofs.YtdckpbeioemopaaGreatDoor.Gk
open Go.Am Go Go.Proofs.YtdckpbeioemopaaGreatDoor
set_option maxRecDepth 100000
variable {B : Nat → Option Obj}
theorem tChkZ (st : List Int) (q : Qry) : runT B Rp.lib1 Tryz.f18 [Pl.plAv q 0 1 2 3] (Pl.plBs true st q) = bif !decide ((ckE q).2 = 0) then some ⟨[i64 (ckE q).2], []⟩ else bif !decide (byteList st = byteList (stpQ q)) then some ⟨[i64 8], []⟩ else some ⟨[i64 0], []⟩ := by kernel_rfl
def sChkZ : FSpec
  | [.agg [.slw 0, .int .u8 ag, .slw 1, .slw 2, .bool j, .slw 3, .int .u8 wk, .int .i64 ws, .int .i64 we, .bool bk, .int .u8 lt]], [⟨false, .bytes t _⟩, ⟨false, .nodes A⟩, ⟨false, .ints .i64 S⟩, ⟨false, .nodes W⟩] => .node (Nat.beq t 5 && !decide ((ckE ⟨ag, A, S, j, W, wk, ws, we, bk, lt⟩).2 = 0)) (.leaf ⟨[i64 (ckE ⟨ag, A, S, j, W, wk, ws, we, bk, lt⟩).2], []⟩) .bad
  | _, _ => .bad
theorem okChkZ : FnOk (E0 B) 18 sChkZ := by
  refine fnT Rp.lib1_ok Tryz.func18 (by kernel_rfl) (by kernel_rfl) fun vs bs r h => ?_
  unfold sChkZ at h
  split at h
  · rename_i ag j wk ws we bk lt t st A S W
    rcases T.node_sel h with ⟨hc, h2⟩ | ⟨_, h2⟩
    · rw [Bool.and_eq_true] at hc
      have ht := Nat.eq_of_beq_eq_true hc.1
      subst ht
      refine (tChkZ st ⟨ag, A, S, j, W, wk, ws, we, bk, lt⟩).trans ?_
      rw [hc.2, cond_true]
      exact h2
    · simp [T.sel] at h2
  · simp [T.sel] at h
noncomputable def libNm : Tb := (14, [], sChk) :: (16, [], sOrder) :: (18, [], sChkZ) :: Gp.libA
theorem libNm_ok (hB : Laid B) : TbOk B libNm := (((Gp.libA_ok hB).add okChkZ).add okOrder).add okChk
theorem tNm : runT B libNm Tryz.f5 [] [] = rb true := by kernel_rfl
theorem okNm (hB : Laid B) : FnOk (E0 B) 5 sTrueF := by
  refine fnT (libNm_ok hB) Tryz.func5 (by kernel_rfl) (by kernel_rfl) fun vs bs r h => ?_
  unfold sTrueF at h
  split at h
  · simp only [T.sel, Option.some.injEq] at h; subst h; exact tNm
  · simp [T.sel] at h
end Go.Proofs.YtdckpbeioemopaaGreatDoor.Gk
