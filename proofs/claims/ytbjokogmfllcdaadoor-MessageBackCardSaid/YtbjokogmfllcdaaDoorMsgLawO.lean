/-
  MessageOnce, MessageBack: what the laws answer.
-/
import Derived.Test.YtbjokogmfllcdaaDoorMsgRead2
namespace Go.Proofs.YtbjokogmfllcdaaDoor
open Go.Am
set_option maxRecDepth 100000
variable {B : Nat → Option Obj}
def on2 (a b : Msg) : Option Out := bif !decide (chkE a = 0) then rb true else bif !decide (chkE b = 0) then rb true else rb (decide (mText a = mText b) == eqM a b)
def on1 (a b : Msg) : Option Out := bif decide (chkE a = 0) then (bif decide ((mText a).length ≤ lim) then (bif !decide (readE (mText a) = 0) then rb false else bif !eqM (readM (mText a)) a then rb false else on2 a b) else none) else on2 a b
theorem tOnce (a b : Msg) : runT B lib8 Tryd.f5 [a.av, b.av] [] =
    bif rngM a then (bif rngM b then (bif !decide (chkE a = chkE a) then rb false else bif !decide (chkE b = chkE b) then rb false else on1 a b) else none) else none := by kernel_rfl
theorem saidN_len : ∀ (l : List Int) (w : List UInt8), (∀ n ∈ l, Rng n) → (saidN w l).length ≤ w.length + 22 * l.length
  | [], w, _ => by simp [saidN]
  | n :: r, w, h => by
    have h1 := itoa_len (h n (List.mem_cons_self ..))
    have := saidN_len r (w ++ 32 :: Lib.itoa n) (fun m hm => h m (List.mem_cons_of_mem _ hm))
    simp only [saidN, List.length_append, List.length_cons] at *
    omega
theorem writ_len {m : Msg} (hr : rngM m = true) : (writ m).length ≤ 200 := by
  obtain ⟨ra, rb', rc, rt, rx, rs, re, ru, rv⟩ := of_decide_eq_true hr
  have e4 := saidN_len [m.a, m.b, m.c] wLate (by simp [ra, rb', rc])
  have e1 := saidN_len [m.a, m.b, m.c] wRecord (by simp [ra, rb', rc])
  have e2 := saidN_len [m.t] wMark (by simp [rt])
  have e3 := saidN_len [m.x, m.s, m.e, m.u, m.v] wRow (by simp [rx, rs, re, ru, rv])
  simp only [List.length_cons, List.length_nil, wLate, wRecord, wMark, wRow] at e1 e2 e3 e4
  unfold writ
  cases decide (m.k = 1) <;> cases decide (m.k = 2) <;> cases decide (m.k = 3) <;> simp only [cond_true, cond_false, wLate, wRecord, wMark, wRow] <;> omega
theorem read_back {m : Msg} (hv : validM m = true) (hr : rngM m = true) : readM (writ m) = m ∧ readE (writ m) = 0 := by
  obtain ⟨h1, h2⟩ := writ_read hv hr
  unfold readM readE
  rw [h2, h1]; exact ⟨rfl, rfl⟩
theorem once_true (a b : Msg) (ha : rngM a = true) (hb : rngM b = true) : runT B lib8 Tryd.f5 [a.av, b.av] [] = rb true := by
  refine (tOnce a b).trans ?_
  rw [ha, hb, decide_eq_true rfl, decide_eq_true rfl]
  have h2 : on2 a b = rb true := by
    unfold on2
    rw [chk_valid, chk_valid]
    cases va : validM a with
    | false => rfl
    | true =>
      cases vb : validM b with
      | false => rfl
      | true =>
        have e1 : mText a = writ a := by unfold mText; rw [chk_valid, va]; rfl
        have e2 : mText b = writ b := by unfold mText; rw [chk_valid, vb]; rfl
        have : decide (writ a = writ b) = decide (a = b) := by
          by_cases h : a = b
          · rw [decide_eq_true h, decide_eq_true (congrArg writ h)]
          · rw [decide_eq_false h, decide_eq_false (fun h' => h ((writ_inj va ha vb hb).1 h'))]
        rw [e1, e2, eqM_is, this]
        simp
  unfold on1
  rw [h2, chk_valid]
  cases va : validM a with
  | false => rfl
  | true =>
    have e1 : mText a = writ a := by unfold mText; rw [chk_valid, va]; rfl
    obtain ⟨r1, r2⟩ := read_back va ha
    have hl := writ_len ha
    rw [e1, r1, r2, eqM_is, decide_eq_true (show (writ a).length ≤ lim from by simp only [lim]; omega)]
    simp
def sOnce (_ : Nat → Option Obj) : FSpec
  | [.agg [.int .u8 k, .int .i64 a, .int .i64 b, .int .i64 c, .int .i64 t, .int .i64 x, .int .i64 s, .int .i64 e, .int .i64 u, .int .i64 v], .agg [.int .u8 k', .int .i64 a', .int .i64 b', .int .i64 c', .int .i64 t', .int .i64 x', .int .i64 s', .int .i64 e', .int .i64 u', .int .i64 v']], [] =>
    .node (rngM ⟨k, a, b, c, t, x, s, e, u, v⟩ && rngM ⟨k', a', b', c', t', x', s', e', u', v'⟩) (.leaf ⟨[.bool true], []⟩) .bad
  | _, _ => .bad
theorem okOnce (hB : Laid B) : FnOk (E0 B) 5 (sOnce B) := by
  refine fnT (lib8_ok hB) Tryd.func5 (by kernel_rfl) (by kernel_rfl) fun vs bs r h => ?_
  unfold sOnce at h
  split at h
  · rename_i k a b c t x s e u v k' a' b' c' t' x' s' e' u' v'
    rcases T.node_sel h with ⟨hc, h2⟩ | ⟨_, h2⟩
    · simp only [T.sel, Option.some.injEq] at h2; subst h2
      rw [Bool.and_eq_true] at hc
      exact once_true ⟨k, a, b, c, t, x, s, e, u, v⟩ ⟨k', a', b', c', t', x', s', e', u', v'⟩ hc.1 hc.2
    · simp [T.sel] at h2
  · simp [T.sel] at h
/-! MessageBack -/
def ba2 (s : List UInt8) (m : Msg) : Option Out := bif rngM m then (bif decide (chkE m = 0) then (bif decide (s = mText m) then rb (decide (chkE m = 0)) else rb false) else rb false) else none
theorem tBack (s : List UInt8) : runT B lib8 Tryd.f6 [.str s] [] =
    bif decide ((200 : Int) < (s.length : Int)) then rb true else bif decide (s.length ≤ lim) then (bif !decide (readE s = 0) then (bif decide (readE s = 12) then rb (eqM (readM s) msg0) else rb false) else ba2 s (readM s)) else none := by kernel_rfl
theorem back_true (s : List UInt8) : runT B lib8 Tryd.f6 [.str s] [] = rb true := by
  refine (tBack s).trans ?_
  by_cases h4 : (200 : Int) < (s.length : Int)
  · rw [decide_eq_true h4]; rfl
  · rw [decide_eq_false h4, decide_eq_true (show s.length ≤ lim from by simp only [lim]; omega)]
    unfold ba2 readE readM
    cases hr : rdOk s with
    | false => rfl
    | true =>
      have hv : validM (rdM s) = true := by
        unfold rdOk at hr
        rw [Bool.and_eq_true] at hr; exact hr.2
      have hw := read_writ hr
      simp only [cond_true]
      have e1 : mText (rdM s) = s := by unfold mText; rw [chk_valid, hv]; exact hw
      rw [rdM_rng, decide_eq_true (show s = mText (rdM s) from e1.symm), chk_valid, hv]
      simp
def sBack (_ : Nat → Option Obj) : FSpec
  | [.str _], [] => .leaf ⟨[.bool true], []⟩
  | _, _ => .bad
theorem okBack (hB : Laid B) : FnOk (E0 B) 6 (sBack B) := by
  refine fnT (lib8_ok hB) Tryd.func6 (by kernel_rfl) (by kernel_rfl) fun vs bs r h => ?_
  unfold sBack at h
  split at h
  · simp only [T.sel, Option.some.injEq] at h; subst h; exact back_true _
  · simp [T.sel] at h
end Go.Proofs.YtbjokogmfllcdaaDoor
