/-
  Message: Check, Text by contract.
-/
import Derived.Test.YtbjokogmfllcdaaDoorMsgBase
import Derived.Test.YtbjokogmfllcdaaDoorMsgPure
namespace Go.Proofs.YtbjokogmfllcdaaDoor
open Go.Am
set_option maxRecDepth 100000
variable {B : Nat → Option Obj}
def kTime (t : Int) (m w : Msg) : Option Out := bif decide (-1099511627776 ≤ t) then kont (decide (t ≤ 1099511627776)) m w else r1 8
def kMark (t : Int) (m w : Msg) : Option Out := bif decide (-1099511627776 ≤ t) then (bif decide (t ≤ 1099511627776) then kont true m w else kont (decide (t = 9223372036854775807)) m w) else kont (decide (t = 9223372036854775807)) m w
def kSpan (s e : Int) (m w : Msg) : Option Out := bif decide (-2199023255552 ≤ s) then (bif decide (s < e) then kont (decide (e ≤ 2199023255552)) m w else r1 8) else r1 8
theorem tCheck (m : Msg) : runT B lib0 Tryd.f14 [m.av] [] =
    bif decide (m.k = 1) then kTime m.b m (onlyRec m) else bif decide (m.k = 4) then kTime m.b m (onlyRec m) else bif decide (m.k = 2) then kMark m.t m (onlyTime m) else bif decide (m.k = 3) then kSpan m.s m.e m (onlyRow m) else r1 8 := by kernel_rfl
theorem kont_is (ok : Bool) (m w : Msg) : kont ok m w = r1 (bif ok && eqM m w then 0 else 8) := by
  unfold kont
  cases ok <;> cases eqM m w <;> rfl
theorem check_is (m : Msg) : runT B lib0 Tryd.f14 [m.av] [] = r1 (chkE m) := by
  refine (tCheck m).trans ?_
  unfold kTime kMark kSpan chkE validM isTime isMark' isSpan isTime
  simp only [kont_is]
  cases decide (m.k = 1) <;> cases decide (m.k = 4) <;> cases decide (m.k = 2) <;> cases decide (m.k = 3) <;> simp only [Bool.or_true, Bool.or_false, cond_true, cond_false] <;>
    first | rfl | (cases decide (-1099511627776 ≤ m.b) <;> cases decide (m.b ≤ 1099511627776) <;> rfl) | (cases decide (-1099511627776 ≤ m.t) <;> cases decide (m.t ≤ 1099511627776) <;> cases decide (m.t = 9223372036854775807) <;> rfl) |
      (cases decide (-2199023255552 ≤ m.s) <;> cases decide (m.s < m.e) <;> cases decide (m.e ≤ 2199023255552) <;> rfl)
def sCheck : FSpec
  | [.agg [.int .u8 k, .int .i64 a, .int .i64 b, .int .i64 c, .int .i64 t, .int .i64 x, .int .i64 s, .int .i64 e, .int .i64 u, .int .i64 v]], [] => .leaf ⟨[i64 (chkE ⟨k, a, b, c, t, x, s, e, u, v⟩)], []⟩
  | _, _ => .bad
theorem okCheck (hB : LaidF B) : FnOk (E0 B) 14 sCheck := by
  refine fnT (lib0_ok hB) Tryd.func14 (by kernel_rfl) (by kernel_rfl) fun vs bs r h => ?_
  unfold sCheck at h
  split at h
  · rename_i k a b c t x s e u v
    simp only [T.sel, Option.some.injEq] at h; subst h
    exact check_is ⟨k, a, b, c, t, x, s, e, u, v⟩
  · simp [T.sel] at h
noncomputable def lib1 : Tb := (14, [], sCheck) :: lib0
theorem lib1_ok (hB : LaidF B) : TbOk B lib1 := (lib0_ok hB).add (okCheck hB)
theorem tTextM (m : Msg) : runT B lib1 Tryd.f10 [m.av] [] =
    bif !decide (chkE m = 0) then so [] (chkE m) else bif decide (m.k = 4) then wAll (ib wLate) [m.a, m.b, m.c] else bif decide (m.k = 2) then wAll (ib wMark) [m.t] else bif decide (m.k = 3) then wAll (ib wRow) [m.x, m.s, m.e, m.u, m.v] else wAll (ib wRecord) [m.a, m.b, m.c] := by kernel_rfl
theorem text_is (m : Msg) (hr : rngM m = true) : runT B lib1 Tryd.f10 [m.av] [] = so (mText m) (chkE m) := by
  refine (tTextM m).trans ?_
  unfold mText
  by_cases h : chkE m = 0
  · rw [decide_eq_true h, h]
    obtain ⟨ra, rb, rc, rt, rx, rs, re, ru, rv⟩ := of_decide_eq_true hr
    have e4 : wAll (ib wLate) [m.a, m.b, m.c] = so (saidN wLate [m.a, m.b, m.c]) 0 := wAll_is _ _ (by decide) (by simp [wLate]) (by simp [ra, rb, rc])
    have e1 : wAll (ib wRecord) [m.a, m.b, m.c] = so (saidN wRecord [m.a, m.b, m.c]) 0 := wAll_is _ _ (by decide) (by simp [wRecord]) (by simp [ra, rb, rc])
    have e2 : wAll (ib wMark) [m.t] = so (saidN wMark [m.t]) 0 := wAll_is _ _ (by decide) (by simp [wMark]) (by simp [rt])
    have e3 : wAll (ib wRow) [m.x, m.s, m.e, m.u, m.v] = so (saidN wRow [m.x, m.s, m.e, m.u, m.v]) 0 := wAll_is _ _ (by decide) (by simp [wRow]) (by simp [rx, rs, re, ru, rv])
    rw [e1, e2, e3, e4]
    unfold writ
    rcases valid_kind (by rw [← chk_valid, h]; rfl) with hk | hk | hk | hk <;> rw [hk] <;> rfl
  · rw [decide_eq_false h]; rfl
def sTextM : FSpec
  | [.agg [.int .u8 k, .int .i64 a, .int .i64 b, .int .i64 c, .int .i64 t, .int .i64 x, .int .i64 s, .int .i64 e, .int .i64 u, .int .i64 v]], [] =>
    .node (rngM ⟨k, a, b, c, t, x, s, e, u, v⟩) (.leaf ⟨[.str (mText ⟨k, a, b, c, t, x, s, e, u, v⟩), i64 (chkE ⟨k, a, b, c, t, x, s, e, u, v⟩)], []⟩) .bad
  | _, _ => .bad
theorem okText' (hB : LaidF B) : FnOk (E0 B) 10 sTextM := by
  refine fnT (lib1_ok hB) Tryd.func10 (by kernel_rfl) (by kernel_rfl) fun vs bs r h => ?_
  unfold sTextM at h
  split at h
  · rename_i k a b c t x s e u v
    rcases T.node_sel h with ⟨hc, h2⟩ | ⟨_, h2⟩
    · simp only [T.sel, Option.some.injEq] at h2; subst h2
      exact text_is ⟨k, a, b, c, t, x, s, e, u, v⟩ hc
    · simp [T.sel] at h2
  · simp [T.sel] at h
end Go.Proofs.YtbjokogmfllcdaaDoor
