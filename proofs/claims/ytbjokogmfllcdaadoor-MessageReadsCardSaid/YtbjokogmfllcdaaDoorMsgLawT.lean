/-
  MessageTells, MessageSpare: what the laws answer.
-/
import Derived.Test.YtbjokogmfllcdaaDoorMsgLaw
namespace Go.Proofs.YtbjokogmfllcdaaDoor
open Go.Am
set_option maxRecDepth 100000
variable {B : Nat → Option Obj}
theorem tTells (m : Msg) (mk : Bool) (t a b c : Int) : runT B lib5 Tryd.f3 [m.av, (⟨mk, t, a, b, c⟩ : Evt).av] [] =
    bif rngM m then (bif rngM m then (bif decide (mText m = mText m) then (bif decide (chkE m = chkE m) then (bif eqM (ofM ⟨mk, t, a, b, c⟩) (ofM ⟨mk, t, a, b, c⟩) then (bif decide (evE ⟨mk, t, a, b, c⟩ = evE ⟨mk, t, a, b, c⟩) then (bif decide (chkE m = chkE m) then rb (decide (evE ⟨mk, t, a, b, c⟩ = evE ⟨mk, t, a, b, c⟩)) else rb false) else rb false) else rb false) else rb false) else rb false) else none) else none := by kernel_rfl
theorem tells_true (m : Msg) (mk : Bool) (t a b c : Int) (hr : rngM m = true) : runT B lib5 Tryd.f3 [m.av, (⟨mk, t, a, b, c⟩ : Evt).av] [] = rb true := by
  refine (tTells m mk t a b c).trans ?_
  rw [hr, eqM_is]
  simp
def sTells (_ : Nat → Option Obj) : FSpec
  | [.agg [.int .u8 k, .int .i64 a, .int .i64 b, .int .i64 c, .int .i64 t, .int .i64 x, .int .i64 s, .int .i64 e, .int .i64 u, .int .i64 v], .agg [.bool _, .int .i64 _, .int .i64 _, .int .i64 _, .int .i64 _]], [] =>
    .node (rngM ⟨k, a, b, c, t, x, s, e, u, v⟩) (.leaf ⟨[.bool true], []⟩) .bad
  | _, _ => .bad
theorem okTells (hB : LaidF B) : FnOk (E0 B) 3 (sTells B) := by
  refine fnT (lib5_ok hB) Tryd.func3 (by kernel_rfl) (by kernel_rfl) fun vs bs r h => ?_
  unfold sTells at h
  split at h
  · rename_i k a b c t x s e u v _ _ _ _ _
    rcases T.node_sel h with ⟨hc, h2⟩ | ⟨_, h2⟩
    · simp only [T.sel, Option.some.injEq] at h2; subst h2
      exact tells_true ⟨k, a, b, c, t, x, s, e, u, v⟩ _ _ _ _ _ hc
    · simp [T.sel] at h2
  · simp [T.sel] at h
/-! MessageSpare -/
def spT (m : Msg) (n : Int) : Msg := { m with t := n }
def spR (m : Msg) (n : Int) : Msg := { m with a := n }
def spX (m : Msg) (n : Int) : Msg := { m with x := n }
def sp3 (m : Msg) (n : Int) : Option Out := bif decide (m.k = 3) then rb true else bif rngM (spX m n) then rb (!validM (spX m n)) else none
def sp2 (m : Msg) (n : Int) : Option Out := bif !decide (m.k = 1) then (bif !decide (m.k = 4) then (bif rngM (spR m n) then (bif !!validM (spR m n) then rb false else sp3 m n) else none) else sp3 m n) else sp3 m n
def sp1 (m : Msg) (n : Int) : Option Out := bif !decide (m.k = 2) then (bif rngM (spT m n) then (bif !!validM (spT m n) then rb false else sp2 m n) else none) else sp2 m n
theorem tSpare (m : Msg) (n : Int) : runT B lib6 Tryd.f7 [m.av, i64 n] [] =
    bif !decide (chkE m = 0) then rb true else bif decide (n = 0) then rb true else sp1 m n := by kernel_rfl
theorem validM_parts (m : Msg) : validM m = (bif decide (m.k = 1) || decide (m.k = 4) then isTime m.b && decide (m = onlyRec m) else bif decide (m.k = 2) then isMark' m.t && decide (m = onlyTime m) else bif decide (m.k = 3) then isSpan m.s m.e && decide (m = onlyRow m) else false) := by
  unfold validM; simp only [eqM_is]
theorem spT_bad {m : Msg} {n : Int} (h0 : n ≠ 0) (hk : m.k ≠ 2) : validM (spT m n) = false := by
  rw [validM_parts, decide_eq_false (show ¬ (spT m n).k = 2 from hk), decide_eq_false (show ¬ spT m n = onlyRec (spT m n) from fun h => h0 (congrArg Msg.t h)), decide_eq_false (show ¬ spT m n = onlyRow (spT m n) from fun h => h0 (congrArg Msg.t h))]
  simp
theorem spR_bad {m : Msg} {n : Int} (h0 : n ≠ 0) (h1 : m.k ≠ 1) (h4 : m.k ≠ 4) : validM (spR m n) = false := by
  rw [validM_parts, decide_eq_false (show ¬ (spR m n).k = 1 from h1), decide_eq_false (show ¬ (spR m n).k = 4 from h4), decide_eq_false (show ¬ spR m n = onlyTime (spR m n) from fun h => h0 (congrArg Msg.a h)), decide_eq_false (show ¬ spR m n = onlyRow (spR m n) from fun h => h0 (congrArg Msg.a h))]
  simp
theorem spX_bad {m : Msg} {n : Int} (h0 : n ≠ 0) (h3 : m.k ≠ 3) : validM (spX m n) = false := by
  rw [validM_parts, decide_eq_false (show ¬ (spX m n).k = 3 from h3), decide_eq_false (show ¬ spX m n = onlyTime (spX m n) from fun h => h0 (congrArg Msg.x h)), decide_eq_false (show ¬ spX m n = onlyRec (spX m n) from fun h => h0 (congrArg Msg.x h))]
  simp
theorem spare_true (m : Msg) (n : Int) (hr : rngM m = true) (hn : Rng n) : runT B lib6 Tryd.f7 [m.av, i64 n] [] = rb true := by
  refine (tSpare m n).trans ?_
  obtain ⟨ra, rb', rc, rt, rx, rs, re, ru, rv⟩ := of_decide_eq_true hr
  have g1 : rngM (spT m n) = true := decide_eq_true ⟨ra, rb', rc, hn, rx, rs, re, ru, rv⟩
  have g2 : rngM (spR m n) = true := decide_eq_true ⟨hn, rb', rc, rt, rx, rs, re, ru, rv⟩
  have g3 : rngM (spX m n) = true := decide_eq_true ⟨ra, rb', rc, rt, hn, rs, re, ru, rv⟩
  cases hc : decide (chkE m = 0) with
  | false => rfl
  | true =>
    by_cases h0 : n = 0
    · rw [decide_eq_true h0]; rfl
    rw [decide_eq_false h0]
    unfold sp1 sp2 sp3
    rw [g1, g2, g3]
    by_cases h2 : m.k = 2
    · rw [spR_bad h0 (by rw [h2]; decide) (by rw [h2]; decide), spX_bad h0 (by rw [h2]; decide), h2]; rfl
    rw [spT_bad h0 h2, decide_eq_false h2]
    by_cases h3 : m.k = 3
    · rw [spR_bad h0 (by rw [h3]; decide) (by rw [h3]; decide), h3]; rfl
    rw [spX_bad h0 h3, decide_eq_false h3]
    by_cases h1 : m.k = 1
    · rw [decide_eq_true h1]; rfl
    by_cases h4 : m.k = 4
    · rw [decide_eq_true h4, decide_eq_false h1]; rfl
    rw [spR_bad h0 h1 h4, decide_eq_false h1, decide_eq_false h4]; rfl
def sSpare (_ : Nat → Option Obj) : FSpec
  | [.agg [.int .u8 k, .int .i64 a, .int .i64 b, .int .i64 c, .int .i64 t, .int .i64 x, .int .i64 s, .int .i64 e, .int .i64 u, .int .i64 v], .int .i64 n], [] =>
    .node (rngM ⟨k, a, b, c, t, x, s, e, u, v⟩ && decide (Rng n)) (.leaf ⟨[.bool true], []⟩) .bad
  | _, _ => .bad
theorem okSpare (hB : Laid B) : FnOk (E0 B) 7 (sSpare B) := by
  refine fnT (lib6_ok hB) Tryd.func7 (by kernel_rfl) (by kernel_rfl) fun vs bs r h => ?_
  unfold sSpare at h
  split at h
  · rename_i k a b c t x s e u v n
    rcases T.node_sel h with ⟨hc, h2⟩ | ⟨_, h2⟩
    · simp only [T.sel, Option.some.injEq] at h2; subst h2
      rw [Bool.and_eq_true] at hc
      exact spare_true ⟨k, a, b, c, t, x, s, e, u, v⟩ n hc.1 (of_decide_eq_true hc.2)
    · simp [T.sel] at h2
  · simp [T.sel] at h
end Go.Proofs.YtbjokogmfllcdaaDoor
