/-
  Message: the reference's Text, Check, Of; message.Event; alive, bad by contract; MessageTells, MessageSpare.
-/
import Derived.Test.YtbjokogmfllcdaaDoorMsgRef
namespace Go.Proofs.YtbjokogmfllcdaaDoor
open Go.Am
set_option maxRecDepth 100000
variable {B : Nat → Option Obj}
theorem tTextR (m : Msg) : runT B lib4 Tryd.f11 [m.av] [] = bif !validM m then so [] 8 else bif rngM m then so (writ m) 0 else none := by kernel_rfl
theorem okTextR (hB : LaidF B) : FnOk (E0 B) 11 sTextM := by
  refine fnT (lib4_ok hB) Tryd.func11 (by kernel_rfl) (by kernel_rfl) fun vs bs r h => ?_
  unfold sTextM at h
  split at h
  · rename_i k a b c t x s e u v
    rcases T.node_sel h with ⟨hc, h2⟩ | ⟨_, h2⟩
    · simp only [T.sel, Option.some.injEq] at h2; subst h2
      refine (tTextR ⟨k, a, b, c, t, x, s, e, u, v⟩).trans ?_
      rw [hc]
      unfold mText
      rw [chk_valid]
      unfold chkE
      cases validM ⟨k, a, b, c, t, x, s, e, u, v⟩ <;> rfl
    · simp [T.sel] at h2
  · simp [T.sel] at h
theorem tCheckR (m : Msg) : runT B lib4 Tryd.f15 [m.av] [] = bif !validM m then r1 8 else r1 0 := by kernel_rfl
theorem okCheckR (hB : LaidF B) : FnOk (E0 B) 15 sCheck := by
  refine fnT (lib4_ok hB) Tryd.func15 (by kernel_rfl) (by kernel_rfl) fun vs bs r h => ?_
  unfold sCheck at h
  split at h
  · rename_i k a b c t x s e u v
    simp only [T.sel, Option.some.injEq] at h; subst h
    refine (tCheckR ⟨k, a, b, c, t, x, s, e, u, v⟩).trans ?_
    unfold chkE
    cases validM ⟨k, a, b, c, t, x, s, e, u, v⟩ <;> rfl
  · simp [T.sel] at h
theorem tOfR1 (t a b c : Int) : runT B lib4 Tryd.f13 [(⟨true, t, a, b, c⟩ : Evt).av] [] = bif !decide (evE ⟨true, t, a, b, c⟩ = 0) then oO msg0 8 else oO ⟨2, 0, 0, 0, t, 0, 0, 0, 0, 0⟩ 0 := by kernel_rfl
theorem tOfR0 (t a b c : Int) : runT B lib4 Tryd.f13 [(⟨false, t, a, b, c⟩ : Evt).av] [] = bif !decide (evE ⟨false, t, a, b, c⟩ = 0) then oO msg0 8 else oO ⟨1, a, b, c, 0, 0, 0, 0, 0, 0⟩ 0 := by kernel_rfl
theorem evE_ok (e : Evt) : decide (evE e = 0) = evOk e := by unfold evE; cases evOk e <;> rfl
theorem ofR_is (e : Evt) : runT B lib4 Tryd.f13 [e.av] [] = oO (ofM e) (evE e) := by
  obtain ⟨mk, t, a, b, c⟩ := e
  cases mk with
  | true =>
    rw [tOfR1, evE_ok]
    unfold ofM evE told
    cases evOk ⟨true, t, a, b, c⟩ <;> rfl
  | false =>
    rw [tOfR0, evE_ok]
    unfold ofM evE told
    cases evOk ⟨false, t, a, b, c⟩ <;> rfl
theorem okOfR (hB : LaidF B) : FnOk (E0 B) 13 sOf := by
  refine fnT (lib4_ok hB) Tryd.func13 (by kernel_rfl) (by kernel_rfl) fun vs bs r h => ?_
  unfold sOf at h
  split at h
  · rename_i mk t a b c
    simp only [T.sel, Option.some.injEq] at h; subst h
    exact ofR_is ⟨mk, t, a, b, c⟩
  · simp [T.sel] at h
theorem tEvM (mk : Bool) (t a b c : Int) : runT B lib4 Tryd.f16 [(⟨mk, t, a, b, c⟩ : Evt).av] [] = r1 (evE ⟨mk, t, a, b, c⟩) := by kernel_rfl
theorem okEvM (hB : LaidF B) : FnOk (E0 B) 16 sEv := by
  refine fnT (lib4_ok hB) Tryd.func16 (by kernel_rfl) (by kernel_rfl) fun vs bs r h => ?_
  unfold sEv at h
  split at h
  · rename_i mk t a b c
    simp only [T.sel, Option.some.injEq] at h; subst h
    exact tEvM mk t a b c
  · simp [T.sel] at h
theorem tBad (m : Msg) : runT B lib4 Tryd.f21 [m.av] [] = bif rngM m then (bif decide (chkE m = 8) then (bif decide (chkE m = 8) then rb (decide (mText m = [])) else rb false) else rb false) else none := by kernel_rfl
def sBad : FSpec
  | [.agg [.int .u8 k, .int .i64 a, .int .i64 b, .int .i64 c, .int .i64 t, .int .i64 x, .int .i64 s, .int .i64 e, .int .i64 u, .int .i64 v]], [] =>
    .node (rngM ⟨k, a, b, c, t, x, s, e, u, v⟩) (.leaf ⟨[.bool (!validM ⟨k, a, b, c, t, x, s, e, u, v⟩)], []⟩) .bad
  | _, _ => .bad
theorem okBad (hB : LaidF B) : FnOk (E0 B) 21 sBad := by
  refine fnT (lib4_ok hB) Tryd.func21 (by kernel_rfl) (by kernel_rfl) fun vs bs r h => ?_
  unfold sBad at h
  split at h
  · rename_i k a b c t x s e u v
    rcases T.node_sel h with ⟨hc, h2⟩ | ⟨_, h2⟩
    · simp only [T.sel, Option.some.injEq] at h2; subst h2
      refine (tBad ⟨k, a, b, c, t, x, s, e, u, v⟩).trans ?_
      rw [hc]
      unfold mText
      rw [chk_valid]
      unfold chkE
      cases validM ⟨k, a, b, c, t, x, s, e, u, v⟩ <;> rfl
    · simp [T.sel] at h2
  · simp [T.sel] at h
noncomputable def lib5 : Tb := (21, [], sBad) :: (16, [], sEv) :: (13, [], sOf) :: (15, [], sCheck) :: (11, [], sTextM) :: lib4
theorem lib5_ok (hB : LaidF B) : TbOk B lib5 := lib4_ok hB |>.add (okTextR hB) |>.add (okCheckR hB) |>.add (okOfR hB) |>.add (okEvM hB) |>.add (okBad hB)
def sTrue0 : FSpec
  | [], [] => .leaf ⟨[.bool true], []⟩
  | _, _ => .bad
theorem tAlive : runT B (libR lib5) Tryd.f20 [] [] = rb true := by kernel_rfl
theorem okAlive (hB : Laid B) : FnOk (E0 B) 20 sTrue0 := by
  refine fnT (libR_ok hB (lib5_ok hB.toLaidF)) Tryd.func20 (by kernel_rfl) (by kernel_rfl) fun vs bs r h => ?_
  unfold sTrue0 at h
  split at h
  · simp only [T.sel, Option.some.injEq] at h; subst h; exact tAlive
  · simp [T.sel] at h
noncomputable def lib6 : Tb := (20, [], sTrue0) :: libR lib5
theorem lib6_ok (hB : Laid B) : TbOk B lib6 := (libR_ok hB (lib5_ok hB.toLaidF)).add (okAlive hB)
end Go.Proofs.YtbjokogmfllcdaaDoor
