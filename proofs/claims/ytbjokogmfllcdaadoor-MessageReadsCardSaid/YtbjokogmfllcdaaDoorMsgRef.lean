/-
  Message: the reference's Text of a number, Valid, Written, Text, Check by contract.
-/
import Derived.Test.YtbjokogmfllcdaaDoorMsgFn
namespace Go.Proofs.YtbjokogmfllcdaaDoor
open Go.Am
set_option maxRecDepth 100000
variable {B : Nat → Option Obj}
noncomputable abbrev C0 (B : Nat → Option Obj) : CallR := specC (E0 B) (tab [])
theorem c0Ok : CG (E0 B) (C0 B) := specC_ok fun _ _ => tab_nil
def fails (p : Bool) : Bool := bif p then false else true
/-! the reference's Text: by how many digits there are -/
def sText (k : Nat) : FSpec
  | [.int .i64 n], [] => .node (decide (Rng n ∧ n.natAbs < 10 ^ k)) (.leaf ⟨[.str (Lib.itoa n)], []⟩) .bad
  | _, _ => .bad
def sText0 : FSpec
  | [.int .i64 n], [] => .node (decide (Rng n)) (.leaf ⟨[.str (Lib.itoa n)], []⟩) .bad
  | _, _ => .bad
def rs (s : List UInt8) : Option Out := some ⟨[.str s], []⟩
def lastD (n : Int) : List UInt8 := bif decide (n.tmod 10 < 0) then byteList [IntKind.u8.wrap (w64 (48 + w64 (0 - n.tmod 10)))] else byteList [IntKind.u8.wrap (w64 (48 + n.tmod 10))]
theorem tText (k : Nat) (n : Int) : (fnRun (E0 B) (specC (E0 B) (tab [(49, [], sText k)])) noL Tryd.f49 (bodyC Tryd.f49) [.int .i64 n] []).sel =
    bif decide (n.tmod 10 < 0) then (bif fails (decide (w64 (n.tdiv 10) = 0)) then (bif decide (Rng (w64 (n.tdiv 10)) ∧ (w64 (n.tdiv 10)).natAbs < 10 ^ k) then (bif decide ((Lib.itoa (w64 (n.tdiv 10))).length + 1 ≤ lim) then rs (Lib.itoa (w64 (n.tdiv 10)) ++ byteList [IntKind.u8.wrap (w64 (48 + w64 (0 - n.tmod 10)))]) else none) else none)
      else bif decide (n < 0) then rs ([45] ++ byteList [IntKind.u8.wrap (w64 (48 + w64 (0 - n.tmod 10)))]) else rs (byteList [IntKind.u8.wrap (w64 (48 + w64 (0 - n.tmod 10)))]))
    else (bif fails (decide (w64 (n.tdiv 10) = 0)) then (bif decide (Rng (w64 (n.tdiv 10)) ∧ (w64 (n.tdiv 10)).natAbs < 10 ^ k) then (bif decide ((Lib.itoa (w64 (n.tdiv 10))).length + 1 ≤ lim) then rs (Lib.itoa (w64 (n.tdiv 10)) ++ byteList [IntKind.u8.wrap (w64 (48 + n.tmod 10))]) else none) else none)
      else bif decide (n < 0) then rs ([45] ++ byteList [IntKind.u8.wrap (w64 (48 + n.tmod 10))]) else rs (byteList [IntKind.u8.wrap (w64 (48 + n.tmod 10))])) := by kernel_rfl

theorem itoa_step {n : Int} (h : Rng n) :
    (n.tmod 10 < 0 → byteList [IntKind.u8.wrap (w64 (48 + w64 (0 - n.tmod 10)))] = [UInt8.ofNat (48 + n.natAbs % 10)]) ∧ (¬ n.tmod 10 < 0 → byteList [IntKind.u8.wrap (w64 (48 + n.tmod 10))] = [UInt8.ofNat (48 + n.natAbs % 10)]) ∧
    w64 (n.tdiv 10) = n.tdiv 10 ∧ (n.tdiv 10).natAbs = n.natAbs / 10 ∧ (n.tdiv 10 ≠ 0 → (n.tdiv 10 < 0 ↔ n < 0)) := by
  unfold Rng at h
  have key : ∀ m : Int, 0 ≤ m → m ≤ 9 → byteList [IntKind.u8.wrap (w64 (48 + m))] = [UInt8.ofNat (48 + m.toNat)] := by
    intro m h0 h1
    rw [w64_rng (by unfold Rng; omega)]
    have e : IntKind.u8.wrap (48 + m) = 48 + m := by simp [IntKind.wrap, IntKind.bits, IntKind.signed]; omega
    rw [e]
    simp only [byteList, List.map_cons, List.map_nil]
    congr 2; omega
  rcases Int.lt_or_le n 0 with h0 | h0
  · obtain ⟨m, rfl⟩ : ∃ m : Int, n = -m := ⟨-n, by omega⟩
    rw [Int.neg_tmod, Int.neg_tdiv, Int.tmod_eq_emod_of_nonneg (by omega), Int.tdiv_eq_ediv_of_nonneg (by omega)]
    refine ⟨fun _ => ?_, fun hn => ?_, w64_rng (by unfold Rng; omega), by omega, by omega⟩
    · rw [show (0 : Int) - -(m % 10) = m % 10 from by omega, show w64 (m % 10) = m % 10 from w64_rng (by unfold Rng; omega), key _ (by omega) (by omega)]
      congr 2; omega
    · rw [show -(m % 10) = 0 from by omega, key _ (by omega) (by omega)]
      congr 2; omega
  · rw [Int.tmod_eq_emod_of_nonneg h0, Int.tdiv_eq_ediv_of_nonneg h0]
    refine ⟨fun hn => by omega, fun _ => ?_, w64_rng (by unfold Rng; omega), by omega, by omega⟩
    rw [key _ (by omega) (by omega)]
    congr 2; omega
theorem itoa_big {n : Int} (h : ¬ n.natAbs < 10) (hd : (n.tdiv 10).natAbs = n.natAbs / 10) (hs : n.tdiv 10 < 0 ↔ n < 0) : Lib.itoa n = Lib.itoa (n.tdiv 10) ++ [UInt8.ofNat (48 + n.natAbs % 10)] := by
  unfold Lib.itoa
  by_cases h0 : n < 0
  · rw [if_pos h0, if_pos (hs.2 h0), dec_big h, hd]; rfl
  · have h1 : ¬ n.tdiv 10 < 0 := fun h => h0 (hs.1 h)
    rw [if_neg h0, if_neg h1, show n.toNat = n.natAbs from by omega, dec_big h, ← hd, show (n.tdiv 10).toNat = (n.tdiv 10).natAbs from by omega]
theorem itoa_small {n : Int} (h : n.natAbs < 10) : Lib.itoa n = if n < 0 then [45, UInt8.ofNat (48 + n.natAbs % 10)] else [UInt8.ofNat (48 + n.natAbs % 10)] := by
  unfold Lib.itoa
  rw [Nat.mod_eq_of_lt h]
  split
  · rw [dec_small h]
  · rw [show n.toNat = n.natAbs from by omega, dec_small h]
theorem text_step (k : Nat) (hk : FnOk (E0 B) 49 (sText k)) : FnOk (E0 B) 49 (sText (k + 1)) := by
  refine fn_ok (C := specC (E0 B) (tab [(49, [], sText k)])) (L := noL) (c := bodyC Tryd.f49) Tryd.func49 (by kernel_rfl) (by kernel_rfl)
    (specC_ok (tab_ok fun x hx => by simp only [List.mem_singleton] at hx; subst hx; exact hk)) (noL_ok _) fun vs bs r h => ?_
  unfold sText at h
  split at h
  · rename_i n
    rcases T.node_sel h with ⟨hc, h2⟩ | ⟨_, h2⟩
    · simp only [T.sel, Option.some.injEq] at h2; subst h2
      obtain ⟨hr, hn⟩ := of_decide_eq_true hc
      refine (tText k n).trans ?_
      obtain ⟨s1, s2, s3, s4, s5⟩ := itoa_step hr
      rw [s3]
      by_cases hb : n.natAbs < 10
      · have hz : n.tdiv 10 = 0 := by omega
        rw [itoa_small hb, decide_eq_true hz]
        cases hm : decide (n.tmod 10 < 0) with
        | true =>
          rw [s1 (of_decide_eq_true hm)]
          by_cases h0 : n < 0
          · rw [decide_eq_true h0, if_pos h0]; rfl
          · rw [decide_eq_false h0, if_neg h0]; rfl
        | false =>
          rw [s2 (of_decide_eq_false hm)]
          by_cases h0 : n < 0
          · rw [decide_eq_true h0, if_pos h0]; rfl
          · rw [decide_eq_false h0, if_neg h0]; rfl
      · have hz : ¬ n.tdiv 10 = 0 := by omega
        have hrq : Rng (n.tdiv 10) := by rw [← s3]; exact rng_w64 _
        have hlt : (n.tdiv 10).natAbs < 10 ^ k := by rw [s4]; rw [Nat.pow_succ] at hn; omega
        have hlen : (Lib.itoa (n.tdiv 10)).length + 1 ≤ lim := by have := itoa_len hrq; simp only [lim]; omega
        rw [itoa_big hb s4 (s5 hz), decide_eq_false hz, decide_eq_true (show Rng (n.tdiv 10) ∧ (n.tdiv 10).natAbs < 10 ^ k from ⟨hrq, hlt⟩), decide_eq_true hlen]
        cases hm : decide (n.tmod 10 < 0) with
        | true => rw [s1 (of_decide_eq_true hm)]; rfl
        | false => rw [s2 (of_decide_eq_false hm)]; rfl
    · simp [T.sel] at h2
  · simp [T.sel] at h
theorem tText0 : (fnRun (E0 B) (C0 B) noL Tryd.f49 (bodyC Tryd.f49) [.int .i64 0] []).sel = rs [48] := by kernel_rfl
theorem text_0 : FnOk (E0 B) 49 (sText 0) := by
  refine fn_ok (C := C0 B) (L := noL) (c := bodyC Tryd.f49) Tryd.func49 (by kernel_rfl) (by kernel_rfl) c0Ok (noL_ok _) fun vs bs r h => ?_
  unfold sText at h
  split at h
  · rename_i n
    rcases T.node_sel h with ⟨hc, h2⟩ | ⟨_, h2⟩
    · simp only [T.sel, Option.some.injEq] at h2; subst h2
      obtain ⟨_, hn⟩ := of_decide_eq_true hc
      have : n = 0 := by omega
      subst this
      refine tText0.trans ?_
      rw [itoa_small (by decide)]; rfl
    · simp [T.sel] at h2
  · simp [T.sel] at h
theorem text_all (k : Nat) : FnOk (E0 B) 49 (sText k) := by
  induction k with
  | zero => exact text_0
  | succ k ih => exact text_step k ih
theorem okText : FnOk (E0 B) 49 sText0 := by
  refine ⟨text_0.1, fun vs bs out h => (text_all (B := B) 20).2 vs bs out ?_⟩
  unfold sText0 at h
  split at h
  · rename_i n
    rcases T.node_sel h with ⟨hc, h2⟩ | ⟨_, h2⟩
    · have hr := of_decide_eq_true hc
      have hr' := hr
      unfold Rng at hr'
      have h20 : (10 : Nat) ^ 20 = 100000000000000000000 := by decide
      have : decide (Rng n ∧ n.natAbs < 10 ^ 20) = true := decide_eq_true ⟨hr, by omega⟩
      simp only [sText, T.sel, this, cond_true] at h2 ⊢
      exact h2
    · simp [T.sel] at h2
  · simp [T.sel] at h


/-! Valid -/
noncomputable def lib2 : Tb := (49, [], sText0) :: (10, [], sTextM) :: lib1
theorem lib2_ok (hB : LaidF B) : TbOk B lib2 := lib1_ok hB |>.add (okText' hB) |>.add okText
def vTime (t : Int) (m w : Msg) : Option Out := bif decide (-1099511627776 ≤ t) then (bif decide (t ≤ 1099511627776) then rb (eqM m w) else rb false) else rb false
def vMark (t : Int) (m w : Msg) : Option Out := bif decide (-1099511627776 ≤ t) then (bif decide (t ≤ 1099511627776) then rb (eqM m w) else bif decide (t = 9223372036854775807) then rb (eqM m w) else rb false) else bif decide (t = 9223372036854775807) then rb (eqM m w) else rb false
def vSpan (s e : Int) (m w : Msg) : Option Out := bif decide (s < e) then (bif decide (-2199023255552 ≤ s) then (bif decide (e ≤ 2199023255552) then rb (eqM m w) else rb false) else rb false) else rb false
theorem tValid (m : Msg) : runT B lib2 Tryd.f28 [m.av] [] =
    bif decide (m.k = 1) then vTime m.b m (onlyRec m) else bif decide (m.k = 4) then vTime m.b m (onlyRec m) else bif decide (m.k = 2) then vMark m.t m (onlyTime m) else bif decide (m.k = 3) then vSpan m.s m.e m (onlyRow m) else rb false := by kernel_rfl
theorem valid_is (m : Msg) : runT B lib2 Tryd.f28 [m.av] [] = rb (validM m) := by
  refine (tValid m).trans ?_
  unfold vTime vMark vSpan validM isTime isMark' isSpan isTime
  cases decide (m.k = 1) <;> cases decide (m.k = 4) <;> cases decide (m.k = 2) <;> cases decide (m.k = 3) <;> simp only [Bool.or_true, Bool.or_false, cond_true, cond_false] <;>
    first | rfl | (cases decide (-1099511627776 ≤ m.b) <;> cases decide (m.b ≤ 1099511627776) <;> rfl) | (cases decide (-1099511627776 ≤ m.t) <;> cases decide (m.t ≤ 1099511627776) <;> cases decide (m.t = 9223372036854775807) <;> rfl) |
      (cases decide (-2199023255552 ≤ m.s) <;> cases decide (m.s < m.e) <;> cases decide (m.e ≤ 2199023255552) <;> rfl)
def sValid : FSpec
  | [.agg [.int .u8 k, .int .i64 a, .int .i64 b, .int .i64 c, .int .i64 t, .int .i64 x, .int .i64 s, .int .i64 e, .int .i64 u, .int .i64 v]], [] => .leaf ⟨[.bool (validM ⟨k, a, b, c, t, x, s, e, u, v⟩)], []⟩
  | _, _ => .bad
theorem okValid (hB : LaidF B) : FnOk (E0 B) 28 sValid := by
  refine fnT (lib2_ok hB) Tryd.func28 (by kernel_rfl) (by kernel_rfl) fun vs bs r h => ?_
  unfold sValid at h
  split at h
  · rename_i k a b c t x s e u v
    simp only [T.sel, Option.some.injEq] at h; subst h
    exact valid_is ⟨k, a, b, c, t, x, s, e, u, v⟩
  · simp [T.sel] at h
theorem tWritten (m : Msg) : runT B lib2 Tryd.f29 [m.av] [] =
    bif decide (m.k = 1) then sAll wRecord [m.a, m.b, m.c] else bif decide (m.k = 2) then sAll wMark [m.t] else bif decide (m.k = 3) then sAll wRow [m.x, m.s, m.e, m.u, m.v] else sAll wLate [m.a, m.b, m.c] := by kernel_rfl
theorem written_is (m : Msg) (hr : rngM m = true) : runT B lib2 Tryd.f29 [m.av] [] = some ⟨[.str (writ m)], []⟩ := by
  refine (tWritten m).trans ?_
  obtain ⟨ra, rb, rc, rt, rx, rs, re, ru, rv⟩ := of_decide_eq_true hr
  have e4 : sAll wLate [m.a, m.b, m.c] = some ⟨[.str (saidN wLate [m.a, m.b, m.c])], []⟩ := sAll_is _ _ (by simp [wLate]) (by simp [ra, rb, rc])
  have e1 : sAll wRecord [m.a, m.b, m.c] = some ⟨[.str (saidN wRecord [m.a, m.b, m.c])], []⟩ := sAll_is _ _ (by simp [wRecord]) (by simp [ra, rb, rc])
  have e2 : sAll wMark [m.t] = some ⟨[.str (saidN wMark [m.t])], []⟩ := sAll_is _ _ (by simp [wMark]) (by simp [rt])
  have e3 : sAll wRow [m.x, m.s, m.e, m.u, m.v] = some ⟨[.str (saidN wRow [m.x, m.s, m.e, m.u, m.v])], []⟩ := sAll_is _ _ (by simp [wRow]) (by simp [rx, rs, re, ru, rv])
  rw [e1, e2, e3, e4]
  unfold writ
  cases decide (m.k = 1) <;> cases decide (m.k = 2) <;> cases decide (m.k = 3) <;> rfl
def sWritten : FSpec
  | [.agg [.int .u8 k, .int .i64 a, .int .i64 b, .int .i64 c, .int .i64 t, .int .i64 x, .int .i64 s, .int .i64 e, .int .i64 u, .int .i64 v]], [] => .node (rngM ⟨k, a, b, c, t, x, s, e, u, v⟩) (.leaf ⟨[.str (writ ⟨k, a, b, c, t, x, s, e, u, v⟩)], []⟩) .bad
  | _, _ => .bad
theorem okWritten (hB : LaidF B) : FnOk (E0 B) 29 sWritten := by
  refine fnT (lib2_ok hB) Tryd.func29 (by kernel_rfl) (by kernel_rfl) fun vs bs r h => ?_
  unfold sWritten at h
  split at h
  · rename_i k a b c t x s e u v
    rcases T.node_sel h with ⟨hc, h2⟩ | ⟨_, h2⟩
    · simp only [T.sel, Option.some.injEq] at h2; subst h2
      exact written_is ⟨k, a, b, c, t, x, s, e, u, v⟩ hc
    · simp [T.sel] at h2
  · simp [T.sel] at h
noncomputable def lib3 : Tb := (28, [], sValid) :: (29, [], sWritten) :: lib2
theorem lib3_ok (hB : LaidF B) : TbOk B lib3 := lib2_ok hB |>.add (okWritten hB) |>.add (okValid hB)
/-! events -/
theorem tOf1 (t a b c : Int) : runT B lib3 Tryd.f12 [(⟨true, t, a, b, c⟩ : Evt).av] [] = markT t fun β => oM β ⟨true, t, a, b, c⟩ ⟨2, 0, 0, 0, t, 0, 0, 0, 0, 0⟩ := by kernel_rfl
theorem tOf0 (t a b c : Int) : runT B lib3 Tryd.f12 [(⟨false, t, a, b, c⟩ : Evt).av] [] =
    bif !decide (t = 0) then oO msg0 8 else bif decide (-1099511627776 ≤ b) then (bif !decide (b ≤ 1099511627776) then oO msg0 8 else oO ⟨1, a, b, c, 0, 0, 0, 0, 0, 0⟩ 0) else oO msg0 8 := by kernel_rfl
theorem of_is (e : Evt) : runT B lib3 Tryd.f12 [e.av] [] = oO (ofM e) (evE e) := by
  obtain ⟨mk, t, a, b, c⟩ := e
  cases mk with
  | true =>
    rw [tOf1, markT_is]
    unfold oM ofM evE evOk told
    simp only [cond_true]
    cases isMark' t <;> cases noRec ⟨true, t, a, b, c⟩ <;> rfl
  | false =>
    rw [tOf0]
    unfold ofM evE evOk told isTime
    simp only [cond_false]
    cases decide (t = 0) <;> cases decide (-1099511627776 ≤ b) <;> cases decide (b ≤ 1099511627776) <;> rfl
theorem tEv1 (t a b c : Int) : runT B lib3 Tryd.f17 [(⟨true, t, a, b, c⟩ : Evt).av] [] = markT t fun β => bif β then (bif noRec ⟨true, t, a, b, c⟩ then r1 0 else r1 8) else r1 8 := by kernel_rfl
theorem tEv0 (t a b c : Int) : runT B lib3 Tryd.f17 [(⟨false, t, a, b, c⟩ : Evt).av] [] =
    bif decide (t = 0) then (bif decide (-1099511627776 ≤ b) then (bif decide (b ≤ 1099511627776) then r1 0 else r1 8) else r1 8) else r1 8 := by kernel_rfl
theorem ev_is (e : Evt) : runT B lib3 Tryd.f17 [e.av] [] = r1 (evE e) := by
  obtain ⟨mk, t, a, b, c⟩ := e
  cases mk with
  | true =>
    rw [tEv1, markT_is]
    unfold evE evOk
    simp only [cond_true]
    cases isMark' t <;> cases noRec ⟨true, t, a, b, c⟩ <;> rfl
  | false =>
    rw [tEv0]
    unfold evE evOk isTime
    simp only [cond_false]
    cases decide (t = 0) <;> cases decide (-1099511627776 ≤ b) <;> cases decide (b ≤ 1099511627776) <;> rfl
def sOf : FSpec
  | [.agg [.bool mk, .int .i64 t, .int .i64 a, .int .i64 b, .int .i64 c]], [] => .leaf ⟨[(ofM ⟨mk, t, a, b, c⟩).av, i64 (evE ⟨mk, t, a, b, c⟩)], []⟩
  | _, _ => .bad
def sEv : FSpec
  | [.agg [.bool mk, .int .i64 t, .int .i64 a, .int .i64 b, .int .i64 c]], [] => .leaf ⟨[i64 (evE ⟨mk, t, a, b, c⟩)], []⟩
  | _, _ => .bad
theorem okOf (hB : LaidF B) : FnOk (E0 B) 12 sOf := by
  refine fnT (lib3_ok hB) Tryd.func12 (by kernel_rfl) (by kernel_rfl) fun vs bs r h => ?_
  unfold sOf at h
  split at h
  · rename_i mk t a b c
    simp only [T.sel, Option.some.injEq] at h; subst h
    exact of_is ⟨mk, t, a, b, c⟩
  · simp [T.sel] at h
theorem okEvR (hB : LaidF B) : FnOk (E0 B) 17 sEv := by
  refine fnT (lib3_ok hB) Tryd.func17 (by kernel_rfl) (by kernel_rfl) fun vs bs r h => ?_
  unfold sEv at h
  split at h
  · rename_i mk t a b c
    simp only [T.sel, Option.some.injEq] at h; subst h
    exact ev_is ⟨mk, t, a, b, c⟩
  · simp [T.sel] at h
noncomputable def lib4 : Tb := (12, [], sOf) :: (17, [], sEv) :: lib3
theorem lib4_ok (hB : LaidF B) : TbOk B lib4 := lib3_ok hB |>.add (okEvR hB) |>.add (okOf hB)
end Go.Proofs.YtbjokogmfllcdaaDoor
