/-
  Lexer: same, check, token by contract.
-/
import Derived.Test.YtielnommkhfghaaDoorLexRead
import Derived.Test.YtielnommkhfghaaDoorLexPure2
namespace Go.Proofs.YtielnommkhfghaaDoor
open Go.Am
set_option maxRecDepth 100000
variable {B : Nat → Option Obj}
theorem drop_cons' {s : List UInt8} {i : Int} {c : UInt8} {r : List UInt8} (h0 : 0 ≤ i) (h : s.drop i.toNat = c :: r) : i < (s.length : Int) ∧ ch s i = (c.toNat : Int) ∧ s.drop (i + 1).toNat = r ∧ rI s i = true := by
  obtain ⟨h1, h2, h3⟩ := drop_cons h
  refine ⟨by omega, by unfold ch; rw [h2], by rw [show (i + 1).toNat = i.toNat + 1 from by omega]; exact h3, decide_eq_true ⟨h0, by omega⟩⟩
theorem drop_nil' {s : List UInt8} {i : Int} (h0 : 0 ≤ i) (h : s.drop i.toNat = []) : ¬ i < (s.length : Int) := by
  have := List.drop_eq_nil_iff.1 h
  omega
theorem wr_lim {n : Int} (h0 : -1000 ≤ n) (h1 : n ≤ 3000000000) : wr n = n := by unfold wr; rw [IntKind.wrap_i64]; omega
/-! same -/
noncomputable def bSm : Code := loopAt 2 (loopsOf (bodyC Tryd.f37))
def sgSm : LSig := { cs := [(0, 0)], mv := [(3, 0)], mo := [(3, 0)], take := [] }
theorem turnSm (s : List UInt8) (n : Int) : (turn (E0 B) (Cx B lib6) noL 21 sgSm bSm [.str s, i64 n] []).sel =
    bif decide (n < (s.length : Int)) then (bif rI s n then (bif rI s 0 then (bif decide (kindN (ch s n) = kindN (ch s 0)) then some (.normal, ⟨[.str s, i64 (wr (n + 1))], []⟩) else some (.exit 0, ⟨[i64 n], []⟩)) else none) else none) else some (.exit 0, ⟨[i64 n], []⟩) := by kernel_rfl
def spSm : LSpec
  | [.str s, .int .i64 n], [] => .node (decide (1 ≤ n ∧ n ≤ (s.length : Int) ∧ s.length ≤ lim)) (.leaf (.exit 0, ⟨[i64 (n + (runK (kindN (ch s 0)) (s.drop n.toNat) : Int))], []⟩)) .bad
  | _, _ => .bad
theorem loopSm (hB : Laid B) : LoopOk (E0 B) 21 sgSm bSm spSm := by
  refine loop_turns (C := Cx B lib6) (L := noL) (cxOk (lib6_ok hB)) (noL_ok _) fun vs bs e o h => ?_
  unfold spSm at h
  split at h
  · rename_i s n
    rcases T.node_sel h with ⟨hc, h2⟩ | ⟨_, h2⟩
    · obtain ⟨h0, h1, hl⟩ := of_decide_eq_true hc
      clear hc h
      simp only [lim] at hl
      simp only [T.sel, Option.some.injEq, Prod.mk.injEq] at h2
      obtain ⟨rfl, rfl⟩ := h2
      have hs0 : rI s 0 = true := decide_eq_true ⟨by omega, by omega⟩
      generalize hr : s.drop n.toNat = r
      induction r generalizing n with
      | nil =>
        refine ⟨1, turns_done ((turnSm s n).trans ?_) (by simp)⟩
        rw [decide_eq_false (drop_nil' (by omega) hr)]
        simp [runK]
      | cons c r ih =>
        obtain ⟨d1, d2, d3, d4⟩ := drop_cons' (by omega) hr
        have ht := turnSm (B := B) s n
        rw [decide_eq_true d1, d4, hs0, d2, wr_lim (by omega) (by omega)] at ht
        rw [runK_cons]
        show ∃ k, _ = some (AExit.exit 0, (⟨[i64 (n + ((bif decide (kindN (c.toNat : Int) = kindN (ch s 0)) then runK (kindN (ch s 0)) r + 1 else 0 : Nat) : Int))], []⟩ : Out))
        by_cases hk : kindN (c.toNat : Int) = kindN (ch s 0)
        · rw [decide_eq_true hk] at ht ⊢
          obtain ⟨k, hk2⟩ := ih (n + 1) (by omega) (by omega) d3
          refine ⟨k + 1, turns_more ht ?_⟩
          rw [cond_true, show n + ((runK (kindN (ch s 0)) r + 1 : Nat) : Int) = n + 1 + (runK (kindN (ch s 0)) r : Int) from by omega]
          exact hk2
        · rw [decide_eq_false hk] at ht ⊢
          exact ⟨1, turns_done (ht.trans (by simp)) (by simp)⟩
    · simp [T.sel] at h2
  · simp [T.sel] at h
noncomputable def eSm : LEnt := { id := 2, n := 21, sg := sgSm, wr := writes bSm, s := spSm }
def sSame : FSpec
  | [.str s], [] => .node (decide (0 < s.length ∧ s.length ≤ lim)) (.leaf ⟨[i64 (runK (kindN (ch s 0)) s : Int)], []⟩) .bad
  | _, _ => .bad
theorem tSame (s : List UInt8) : runL B lib6 [eSm] Tryd.f37 [.str s] [] =
    bif decide (1 ≤ (1 : Int) ∧ (1 : Int) ≤ (s.length : Int) ∧ s.length ≤ lim) then some ⟨[i64 (1 + (runK (kindN (ch s 0)) (s.drop 1) : Int))], []⟩ else none := by kernel_rfl
theorem okSame (hB : Laid B) : FnOk (E0 B) 37 sSame := by
  refine fnL (lib6_ok hB) (ls := [eSm]) Tryd.func37 (by kernel_rfl) (by kernel_rfl) (fun x hx => ?_) fun vs bs r h => ?_
  · simp only [List.mem_singleton] at hx; subst hx
    exact ⟨bSm, by kernel_rfl, rfl, loopSm hB⟩
  · unfold sSame at h
    split at h
    · rename_i s
      rcases T.node_sel h with ⟨hc, h2⟩ | ⟨_, h2⟩
      · obtain ⟨h0, hl⟩ := of_decide_eq_true hc
        simp only [T.sel, Option.some.injEq] at h2; subst h2
        rw [tSame, decide_eq_true (show 1 ≤ (1 : Int) ∧ (1 : Int) ≤ (s.length : Int) ∧ s.length ≤ lim from ⟨by omega, by omega, hl⟩)]
        cases s with
        | nil => simp at h0
        | cons c r =>
          rw [cond_true]
          rw [runK_cons, decide_eq_true (show kd c = kindN (ch (c :: r) 0) from rfl), cond_true, List.drop_one, List.tail_cons]
          congr 4; simp [Int.add_comm]
      · simp [T.sel] at h2
    · simp [T.sel] at h
/-! check -/
def r1 (n : Int) : Option Out := some ⟨[i64 n], []⟩
theorem tCheck (k a : Int) (t : List UInt8) : runT B lib6 Tryd.f22 [.agg [.int .u8 k, .str t, .int .i64 a]] [] =
    bif decide (k = 1) then (bif decide (t.length ≤ lim) then r1 (rdE t) else none) else bif decide (k = 2) then (bif isWord t then r1 0 else r1 32) else
      bif decide (k = 3) then (bif decide (symE t 0 = 0) then (bif decide (0 < symN t 0) then (bif decide (symN t 0 = (t.length : Int)) then r1 0 else r1 32) else r1 32) else r1 32) else r1 32 := by kernel_rfl
def sCheck : FSpec
  | [.agg [.int .u8 k, .str t, .int .i64 _]], [] => .node (decide (t.length ≤ lim)) (.leaf ⟨[i64 (tokE k t)], []⟩) .bad
  | _, _ => .bad
theorem sym_at0 (t : List UInt8) : symN t 0 = sym0 t ∧ symE t 0 = 0 := by
  have : outA t 0 = false := by unfold outA; rw [decide_eq_false (by omega), decide_eq_false (by omega)]; rfl
  unfold symN symE
  rw [this]; exact ⟨by simp, rfl⟩
theorem okCheck (hB : Laid B) : FnOk (E0 B) 22 sCheck := by
  refine fnT (lib6_ok hB) Tryd.func22 (by kernel_rfl) (by kernel_rfl) fun vs bs r h => ?_
  unfold sCheck at h
  split at h
  · rename_i k t a
    rcases T.node_sel h with ⟨hc, h2⟩ | ⟨_, h2⟩
    · simp only [T.sel, Option.some.injEq] at h2; subst h2
      refine (tCheck k a t).trans ?_
      obtain ⟨e1, e2⟩ := sym_at0 t
      rw [hc, e1, e2]
      unfold tokE r1
      cases decide (k = 1) <;> cases decide (k = 2) <;> cases decide (k = 3) <;> cases isWord t <;> cases decide (0 < sym0 t) <;> cases decide (sym0 t = (t.length : Int)) <;> rfl
    · simp [T.sel] at h2
  · simp [T.sel] at h
/-! token -/
def av (t : Tok) : AV := .agg [.int .u8 t.kind, .str t.text, .int .i64 t.pos]
def oTk (k : Int) (t : List UInt8) : Option Out := some ⟨[av ⟨k, t, 0⟩], []⟩
noncomputable def lib7 : Tb := (37, [], sSame) :: (22, [], sCheck) :: lib6
theorem lib7_ok (hB : Laid B) : TbOk B lib7 := lib6_ok hB |>.add (okCheck hB) |>.add (okSame hB)
theorem tToken (s : List UInt8) : runT B lib7 Tryd.f24 [.str s] [] =
    bif rI s 0 then (bif decide (kindN (ch s 0) = 2) then (bif decide (0 < s.length ∧ s.length ≤ lim) then (bif sL s 0 (runK (kindN (ch s 0)) s : Int) then oTk 1 (s.take (runK (kindN (ch s 0)) s)) else none) else none) else
      bif decide (kindN (ch s 0) = 3) then (bif decide (0 < s.length ∧ s.length ≤ lim) then (bif sL s 0 (runK (kindN (ch s 0)) s : Int) then oTk 2 (s.take (runK (kindN (ch s 0)) s)) else none) else none) else
      bif sL s 0 (symN s 0) then oTk 3 (s.take (symN s 0).toNat) else none) else none := by kernel_rfl
end Go.Proofs.YtielnommkhfghaaDoor
