/-
  Ints: Read and Text, and the reference's: told by their texts; IntsTexts answers true.
-/
import Derived.Test.YtbccnahpdmaocaaDoorIntsLaws
import Derived.Test.YtbccnahpdmaocaaDoorIntsRead
namespace Go.Proofs.YtbccnahpdmaocaaDoor
open Go.Am
set_option maxRecDepth 100000
variable {B : Nat → Option Obj}
/-! the reference's Read -/
noncomputable def bA : Code := loopAt 4 (loopsOf (bodyC Tryd.f25))
noncomputable def bB : Code := loopAt 10 (loopsOf (bodyC Tryd.f25))
def sgA : LSig := { cs := [(0, 0)], mv := [(4, 0)], mo := [(2, 0), (3, 0)], take := [] }
def sgB : LSig := { cs := [(0, 0)], mv := [(5, 0), (6, 0)], mo := [(2, 0), (3, 0), (5, 0)], take := [] }
def rA (i : Int) (s : List UInt8) : Option (AExit × Out) := some (.normal, ⟨[.str s, i64 i], []⟩)
theorem turnA (s : List UInt8) (i : Int) : (turn (E0 B) (C0 B) noL 47 sgA bA [.str s, i64 i] []).sel =
    bif decide (i < s.length) then (bif decide (0 ≤ i ∧ i < s.length) then (bif decide (((s.getD i.toNat 0).toNat : Int) < 48) then xA .ret [i64 0, i64 12] else bif decide (0 ≤ i ∧ i < s.length) then
      (bif decide (57 < ((s.getD i.toNat 0).toNat : Int)) then xA .ret [i64 0, i64 12] else rA (w64 (i + 1)) s) else none) else none) else xA (.exit 0) [.any, .any] := by kernel_rfl
def sA : LSpec
  | [.str s, .int .i64 i], [] => .node (decide (0 ≤ i ∧ i ≤ s.length ∧ s.length ≤ lim)) (.node ((s.drop i.toNat).all isDig) (.leaf (.exit 0, ⟨[.any, .any], []⟩)) (.leaf (.ret, ⟨[i64 0, i64 12], []⟩))) .bad
  | _, _ => .bad
theorem loopA : LoopOk (E0 B) 47 sgA bA sA := by
  refine loop_turns (C := C0 B) (L := noL) c0Ok (noL_ok _) fun vs bs e o h => ?_
  unfold sA at h
  split at h
  · rename_i s i
    rcases T.node_sel h with ⟨hc, h2⟩ | ⟨_, h2⟩
    · obtain ⟨h0, h1, hl⟩ := of_decide_eq_true hc
      clear hc h
      generalize hr : s.drop i.toNat = r at h2
      induction r generalizing i with
      | nil =>
        have hi : ¬ i < s.length := by
          have := List.drop_eq_nil_iff.1 hr
          omega
        simp only [List.all_nil, T.sel, cond_true, Option.some.injEq, Prod.mk.injEq] at h2
        obtain ⟨rfl, rfl⟩ := h2
        refine ⟨1, turns_done ((turnA s i).trans ?_) (by simp)⟩
        rw [decide_eq_false hi]; rfl
      | cons c r ih =>
        obtain ⟨d1, d2, d3⟩ := drop_cons hr
        have hi : i < s.length := by omega
        have ht := turnA (B := B) s i
        rw [decide_eq_true hi, cond_true, decide_eq_true (show 0 ≤ i ∧ i < s.length from ⟨h0, hi⟩), cond_true, d2] at ht
        cases hd : isDig c with
        | true =>
          have hn := dig_nat hd
          rw [decide_eq_false (show ¬ (c.toNat : Int) < 48 from by omega), cond_false, cond_true, decide_eq_false (show ¬ 57 < (c.toNat : Int) from by omega), cond_false, w64_i h0 (by omega)] at ht
          obtain ⟨k, hk⟩ := ih (i + 1) (by omega) (by omega) (by rw [show (i + 1).toNat = i.toNat + 1 from by omega]; exact d3) (by simpa [hd] using h2)
          exact ⟨k + 1, turns_more ht hk⟩
        | false =>
          simp only [List.all_cons, hd, Bool.false_and, T.sel, cond_false, Option.some.injEq, Prod.mk.injEq] at h2
          obtain ⟨rfl, rfl⟩ := h2
          have hn : ¬ (48 ≤ c.toNat ∧ c.toNat ≤ 57) := by
            intro hh
            have : isDig c = true := by simp [isDig, hh.1, hh.2]
            rw [hd] at this; cases this
          refine ⟨1, turns_done (ht.trans ?_) (by simp)⟩
          by_cases h5 : (c.toNat : Int) < 48
          · rw [decide_eq_true h5]; rfl
          · rw [decide_eq_false h5, cond_false, cond_true, decide_eq_true (show 57 < (c.toNat : Int) from by omega)]; rfl
    · simp [T.sel] at h2
  · simp [T.sel] at h

def rB (n i : Int) (s : List UInt8) : Option (AExit × Out) := some (.normal, ⟨[.str s, i64 n, i64 i], []⟩)
def dgW (c : UInt8) : Int := w64 (IntKind.u8.wrap ((c.toNat : Int) - 48))
theorem turnB (s : List UInt8) (n i : Int) : (turn (E0 B) (C0 B) noL 47 sgB bB [.str s, i64 n, i64 i] []).sel =
    bif decide (i < s.length) then (bif decide (0 ≤ i ∧ i < s.length) then (bif decide (w64 ((w64 (9223372036854775807 - dgW (s.getD i.toNat 0))).tdiv 10) < n) then xA .ret [i64 0, i64 16, i64 n]
      else rB (w64 (w64 (10 * n) + dgW (s.getD i.toNat 0))) (w64 (i + 1)) s) else none) else xA (.exit 2) [.any, .any, i64 n] := by kernel_rfl
def okB (s : List UInt8) (i n : Int) : Bool := decide (0 ≤ i ∧ i ≤ s.length ∧ s.length ≤ lim ∧ 0 ≤ n ∧ n ≤ most) && (s.drop i.toNat).all isDig
def outB (s : List UInt8) (i n : Int) : T (AExit × Out) :=
  .node (rdF n (s.drop i.toNat)).isSome (.leaf (.exit 2, ⟨[.any, .any, i64 ((rdF n (s.drop i.toNat)).getD 0)], []⟩)) (.leaf (.ret, ⟨[i64 0, i64 16, .any], []⟩))
def sgB' : LSig := { cs := [(0, 0)], mv := [(5, 0), (6, 0)], mo := [(2, 0), (3, 0), (5, 0)], take := [] }
def lastN (n : Int) : List UInt8 → Int
  | [] => n
  | c :: r => bif decide ((most - dg c).tdiv 10 < n) then n else lastN (10 * n + dg c) r
def sB : LSpec
  | [.str s, .int .i64 n, .int .i64 i], [] => .node (okB s i n) (.node (rdF n (s.drop i.toNat)).isSome (.leaf (.exit 2, ⟨[.any, .any, i64 (lastN n (s.drop i.toNat))], []⟩)) (.leaf (.ret, ⟨[i64 0, i64 16, i64 (lastN n (s.drop i.toNat))], []⟩))) .bad
  | _, _ => .bad
theorem rdF_last {n : Int} {l : List UInt8} (h : (rdF n l).isSome = true) : rdF n l = some (lastN n l) := by
  induction l generalizing n with
  | nil => rfl
  | cons c r ih =>
    simp only [rdF, lastN] at h ⊢
    cases hc : decide ((most - dg c).tdiv 10 < n) with
    | true => rw [hc] at h; simp at h
    | false => rw [hc] at h; rw [cond_false, cond_false]; exact ih h
theorem dgW_eq {c : UInt8} (h : isDig c = true) : dgW c = dg c := by
  have := dg_rng h
  have hn := dig_nat h
  unfold dgW dg at *
  have e : IntKind.u8.wrap ((c.toNat : Int) - 48) = (c.toNat : Int) - 48 := by simp [IntKind.wrap, IntKind.bits, IntKind.signed]; omega
  rw [e]; apply w64_rng; unfold Rng; omega
theorem loopB : LoopOk (E0 B) 47 sgB bB sB := by
  refine loop_turns (C := C0 B) (L := noL) c0Ok (noL_ok _) fun vs bs e o h => ?_
  unfold sB at h
  split at h
  · rename_i s n i
    rcases T.node_sel h with ⟨hc, h2⟩ | ⟨_, h2⟩
    · simp only [okB, Bool.and_eq_true, decide_eq_true_eq] at hc
      obtain ⟨⟨h0, h1, hl, hn0, hn1⟩, hall⟩ := hc
      clear h
      generalize hr : s.drop i.toNat = r at h2 hall
      induction r generalizing i n with
      | nil =>
        have hi : ¬ i < s.length := by
          have := List.drop_eq_nil_iff.1 hr
          omega
        simp only [rdF, lastN, Option.isSome_some, T.sel, cond_true, Option.some.injEq, Prod.mk.injEq] at h2
        obtain ⟨rfl, rfl⟩ := h2
        refine ⟨1, turns_done ((turnB s n i).trans ?_) (by simp)⟩
        rw [decide_eq_false hi]; rfl
      | cons c r ih =>
        simp only [List.all_cons, Bool.and_eq_true] at hall
        obtain ⟨d1, d2, d3⟩ := drop_cons hr
        have hi : i < s.length := by omega
        have ht := turnB (B := B) s n i
        have hd := dg_rng hall.1
        have hmost : most = 9223372036854775807 := rfl
        have e1 : w64 (9223372036854775807 - dg c) = most - dg c := by rw [hmost]; apply w64_rng; unfold Rng; omega
        have e2 : w64 ((most - dg c).tdiv 10) = (most - dg c).tdiv 10 := by
          rw [Int.tdiv_eq_ediv_of_nonneg (by omega)]; apply w64_rng; unfold Rng; omega
        rw [decide_eq_true hi, cond_true, decide_eq_true (show 0 ≤ i ∧ i < s.length from ⟨h0, hi⟩), cond_true, d2, dgW_eq hall.1, e1, e2] at ht
        cases hq : decide ((most - dg c).tdiv 10 < n) with
        | true =>
          rw [hq, cond_true] at ht
          simp only [rdF, lastN, hq, cond_true, Option.isSome_none, T.sel, cond_false, Option.some.injEq, Prod.mk.injEq] at h2
          obtain ⟨rfl, rfl⟩ := h2
          exact ⟨1, turns_done ht (by simp)⟩
        | false =>
          rw [hq, cond_false] at ht
          have hq' := of_decide_eq_false hq
          rw [Int.tdiv_eq_ediv_of_nonneg (by omega)] at hq'
          have e3 : w64 (10 * n) = 10 * n := by apply w64_rng; unfold Rng; omega
          have e4 : w64 (10 * n + dg c) = 10 * n + dg c := by apply w64_rng; unfold Rng; omega
          rw [e3, e4, w64_i h0 (by omega)] at ht
          obtain ⟨k, hk⟩ := ih (10 * n + dg c) (i + 1) (by omega) (by omega) (by omega) (by omega) (by rw [show (i + 1).toNat = i.toNat + 1 from by omega]; exact d3) (by simpa only [rdF, lastN, hq, cond_false] using h2) hall.2
          exact ⟨k + 1, turns_more ht hk⟩
    · simp [T.sel] at h2
  · simp [T.sel] at h
def eA : LEnt := { id := 4, n := 47, sg := sgA, wr := [10, 11, 12, 13, 16, 17, 18, 19, 20, 21, 22, 23, 24, 25, 2, 3, 14, 15, 4], s := sA }
def eB : LEnt := { id := 10, n := 47, sg := sgB, wr := [26, 27, 28, 29, 32, 33, 34, 35, 36, 7, 37, 38, 39, 40, 41, 2, 3, 42, 43, 44, 45, 5, 30, 31, 6], s := sB }
theorem tRefRead (s : List UInt8) : (fnRun (E0 B) (C0 B) (loopL (E0 B) noL [eA, eB]) Tryd.f25 (bodyC Tryd.f25) [.str s] []).sel =
    bif decide (s = []) then rp 0 12 else bif decide (0 ≤ (0 : Int) ∧ (0 : Int) ≤ s.length ∧ s.length ≤ lim) then (bif s.all isDig then (bif okB s 0 0 then (bif (rdF 0 s).isSome then rp (lastN 0 s) 0 else rp 0 16) else none) else rp 0 12) else none := by kernel_rfl
theorem okRefRead : FnOk (E0 B) 25 sRead := by
  refine fn_ok (C := C0 B) (L := loopL (E0 B) noL [eA, eB]) (c := bodyC Tryd.f25) Tryd.func25 (by kernel_rfl) (by kernel_rfl) c0Ok (loopL_fits (fun x hx => ?_) noL_ok) fun vs bs r h => ?_
  · simp only [List.mem_cons, List.mem_nil_iff, or_false] at hx
    rcases hx with rfl | rfl
    · exact ⟨bA, by kernel_rfl, by kernel_rfl, loopA⟩
    · exact ⟨bB, by kernel_rfl, by kernel_rfl, loopB⟩
  · unfold sRead at h
    split at h
    · rename_i s
      rcases T.node_sel h with ⟨hc, h2⟩ | ⟨_, h2⟩
      · simp only [T.sel, Option.some.injEq] at h2; subst h2
        refine (tRefRead s).trans ?_
        have hs := of_decide_eq_true hc
        unfold rdN rdE
        by_cases h0 : s = []
        · subst h0; rfl
        · rw [decide_eq_false h0, cond_false, decide_eq_true (show 0 ≤ (0 : Int) ∧ (0 : Int) ≤ s.length ∧ s.length ≤ lim from ⟨Int.le_refl _, by omega, hs⟩), cond_true]
          cases h1 : s.all isDig with
          | false => rfl
          | true =>
            have hok : okB s 0 0 = true := by
              simp only [okB, Bool.and_eq_true, decide_eq_true_eq]
              exact ⟨⟨by omega, by omega, hs, by omega, by decide⟩, h1⟩
            rw [hok]
            cases h3 : (rdF 0 s).isSome with
            | true => have := rdF_last h3; rw [this]; rfl
            | false =>
              have : rdF 0 s = none := by simpa using h3
              rw [this]; rfl
      · simp [T.sel] at h2
    · simp [T.sel] at h

/-! the reference's Text: by how many digits there are -/
def sText (k : Nat) : FSpec
  | [.int .i64 n], [] => .node (decide (Rng n ∧ n.natAbs < 10 ^ k)) (.leaf ⟨[.str (Lib.itoa n)], []⟩) .bad
  | _, _ => .bad
def sText0 : FSpec
  | [.int .i64 n], [] => .node (decide (Rng n)) (.leaf ⟨[.str (Lib.itoa n)], []⟩) .bad
  | _, _ => .bad
def rs (s : List UInt8) : Option Out := some ⟨[.str s], []⟩
def lastD (n : Int) : List UInt8 := bif decide (n.tmod 10 < 0) then byteList [IntKind.u8.wrap (w64 (48 + w64 (0 - n.tmod 10)))] else byteList [IntKind.u8.wrap (w64 (48 + n.tmod 10))]
theorem tText (k : Nat) (n : Int) : (fnRun (E0 B) (specC (E0 B) (tab [(27, [], sText k)])) noL Tryd.f27 (bodyC Tryd.f27) [.int .i64 n] []).sel =
    bif decide (n.tmod 10 < 0) then (bif fails (decide (w64 (n.tdiv 10) = 0)) then (bif decide (Rng (w64 (n.tdiv 10)) ∧ (w64 (n.tdiv 10)).natAbs < 10 ^ k) then (bif decide ((Lib.itoa (w64 (n.tdiv 10))).length + 1 ≤ lim) then rs (Lib.itoa (w64 (n.tdiv 10)) ++ byteList [IntKind.u8.wrap (w64 (48 + w64 (0 - n.tmod 10)))]) else none) else none)
      else bif decide (n < 0) then rs ([45] ++ byteList [IntKind.u8.wrap (w64 (48 + w64 (0 - n.tmod 10)))]) else rs (byteList [IntKind.u8.wrap (w64 (48 + w64 (0 - n.tmod 10)))]))
    else (bif fails (decide (w64 (n.tdiv 10) = 0)) then (bif decide (Rng (w64 (n.tdiv 10)) ∧ (w64 (n.tdiv 10)).natAbs < 10 ^ k) then (bif decide ((Lib.itoa (w64 (n.tdiv 10))).length + 1 ≤ lim) then rs (Lib.itoa (w64 (n.tdiv 10)) ++ byteList [IntKind.u8.wrap (w64 (48 + n.tmod 10))]) else none) else none)
      else bif decide (n < 0) then rs ([45] ++ byteList [IntKind.u8.wrap (w64 (48 + n.tmod 10))]) else rs (byteList [IntKind.u8.wrap (w64 (48 + n.tmod 10))])) := by kernel_rfl

theorem itoa_step {n : Int} (h : Rng n) :
    (n.tmod 10 < 0 → byteList [IntKind.u8.wrap (w64 (48 + w64 (0 - n.tmod 10)))] = [UInt8.ofNat (48 + n.natAbs % 10)]) ∧ (¬ n.tmod 10 < 0 → byteList [IntKind.u8.wrap (w64 (48 + n.tmod 10))] = [UInt8.ofNat (48 + n.natAbs % 10)]) ∧
    w64 (n.tdiv 10) = n.tdiv 10 ∧ (n.tdiv 10).natAbs = n.natAbs / 10 ∧ (n.tdiv 10 ≠ 0 → (n.tdiv 10 < 0 ↔ n < 0)) := by
  unfold Rng at h
  have key : ∀ m : Int, 0 ≤ m → m ≤ 9 → byteList [IntKind.u8.wrap (w64 (48 + m))] = [UInt8.ofNat (48 + m.toNat)] := by
    intro m h0 h1
    rw [w64_rng (by unfold Rng; omega)]
    have e : IntKind.u8.wrap (48 + m) = 48 + m := by simp [IntKind.wrap, IntKind.bits, IntKind.signed]; omega
    rw [e]
    simp only [byteList, List.map_cons, List.map_nil]
    congr 2; omega
  rcases Int.lt_or_le n 0 with h0 | h0
  · obtain ⟨m, rfl⟩ : ∃ m : Int, n = -m := ⟨-n, by omega⟩
    rw [Int.neg_tmod, Int.neg_tdiv, Int.tmod_eq_emod_of_nonneg (by omega), Int.tdiv_eq_ediv_of_nonneg (by omega)]
    refine ⟨fun _ => ?_, fun hn => ?_, w64_rng (by unfold Rng; omega), by omega, by omega⟩
    · rw [show (0 : Int) - -(m % 10) = m % 10 from by omega, show w64 (m % 10) = m % 10 from w64_rng (by unfold Rng; omega), key _ (by omega) (by omega)]
      congr 2; omega
    · rw [show -(m % 10) = 0 from by omega, key _ (by omega) (by omega)]
      congr 2; omega
  · rw [Int.tmod_eq_emod_of_nonneg h0, Int.tdiv_eq_ediv_of_nonneg h0]
    refine ⟨fun hn => by omega, fun _ => ?_, w64_rng (by unfold Rng; omega), by omega, by omega⟩
    rw [key _ (by omega) (by omega)]
    congr 2; omega
theorem itoa_big {n : Int} (h : ¬ n.natAbs < 10) (hd : (n.tdiv 10).natAbs = n.natAbs / 10) (hs : n.tdiv 10 < 0 ↔ n < 0) : Lib.itoa n = Lib.itoa (n.tdiv 10) ++ [UInt8.ofNat (48 + n.natAbs % 10)] := by
  unfold Lib.itoa
  by_cases h0 : n < 0
  · rw [if_pos h0, if_pos (hs.2 h0), dec_big h, hd]; rfl
  · have h1 : ¬ n.tdiv 10 < 0 := fun h => h0 (hs.1 h)
    rw [if_neg h0, if_neg h1, show n.toNat = n.natAbs from by omega, dec_big h, ← hd, show (n.tdiv 10).toNat = (n.tdiv 10).natAbs from by omega]
theorem itoa_small {n : Int} (h : n.natAbs < 10) : Lib.itoa n = if n < 0 then [45, UInt8.ofNat (48 + n.natAbs % 10)] else [UInt8.ofNat (48 + n.natAbs % 10)] := by
  unfold Lib.itoa
  rw [Nat.mod_eq_of_lt h]
  split
  · rw [dec_small h]
  · rw [show n.toNat = n.natAbs from by omega, dec_small h]
theorem text_step (k : Nat) (hk : FnOk (E0 B) 27 (sText k)) : FnOk (E0 B) 27 (sText (k + 1)) := by
  refine fn_ok (C := specC (E0 B) (tab [(27, [], sText k)])) (L := noL) (c := bodyC Tryd.f27) Tryd.func27 (by kernel_rfl) (by kernel_rfl)
    (specC_ok (tab_ok fun x hx => by simp only [List.mem_singleton] at hx; subst hx; exact hk)) (noL_ok _) fun vs bs r h => ?_
  unfold sText at h
  split at h
  · rename_i n
    rcases T.node_sel h with ⟨hc, h2⟩ | ⟨_, h2⟩
    · simp only [T.sel, Option.some.injEq] at h2; subst h2
      obtain ⟨hr, hn⟩ := of_decide_eq_true hc
      refine (tText k n).trans ?_
      obtain ⟨s1, s2, s3, s4, s5⟩ := itoa_step hr
      rw [s3]
      by_cases hb : n.natAbs < 10
      · have hz : n.tdiv 10 = 0 := by omega
        rw [itoa_small hb, decide_eq_true hz]
        cases hm : decide (n.tmod 10 < 0) with
        | true =>
          rw [s1 (of_decide_eq_true hm)]
          by_cases h0 : n < 0
          · rw [decide_eq_true h0, if_pos h0]; rfl
          · rw [decide_eq_false h0, if_neg h0]; rfl
        | false =>
          rw [s2 (of_decide_eq_false hm)]
          by_cases h0 : n < 0
          · rw [decide_eq_true h0, if_pos h0]; rfl
          · rw [decide_eq_false h0, if_neg h0]; rfl
      · have hz : ¬ n.tdiv 10 = 0 := by omega
        have hrq : Rng (n.tdiv 10) := by rw [← s3]; exact rng_w64 _
        have hlt : (n.tdiv 10).natAbs < 10 ^ k := by rw [s4]; rw [Nat.pow_succ] at hn; omega
        have hlen : (Lib.itoa (n.tdiv 10)).length + 1 ≤ lim := by have := itoa_len hrq; simp only [lim]; omega
        rw [itoa_big hb s4 (s5 hz), decide_eq_false hz, decide_eq_true (show Rng (n.tdiv 10) ∧ (n.tdiv 10).natAbs < 10 ^ k from ⟨hrq, hlt⟩), decide_eq_true hlen]
        cases hm : decide (n.tmod 10 < 0) with
        | true => rw [s1 (of_decide_eq_true hm)]; rfl
        | false => rw [s2 (of_decide_eq_false hm)]; rfl
    · simp [T.sel] at h2
  · simp [T.sel] at h
theorem tText0 : (fnRun (E0 B) (C0 B) noL Tryd.f27 (bodyC Tryd.f27) [.int .i64 0] []).sel = rs [48] := by kernel_rfl
theorem text_0 : FnOk (E0 B) 27 (sText 0) := by
  refine fn_ok (C := C0 B) (L := noL) (c := bodyC Tryd.f27) Tryd.func27 (by kernel_rfl) (by kernel_rfl) c0Ok (noL_ok _) fun vs bs r h => ?_
  unfold sText at h
  split at h
  · rename_i n
    rcases T.node_sel h with ⟨hc, h2⟩ | ⟨_, h2⟩
    · simp only [T.sel, Option.some.injEq] at h2; subst h2
      obtain ⟨_, hn⟩ := of_decide_eq_true hc
      have : n = 0 := by omega
      subst this
      refine tText0.trans ?_
      rw [itoa_small (by decide)]; rfl
    · simp [T.sel] at h2
  · simp [T.sel] at h
theorem text_all (k : Nat) : FnOk (E0 B) 27 (sText k) := by
  induction k with
  | zero => exact text_0
  | succ k ih => exact text_step k ih
theorem okText : FnOk (E0 B) 27 sText0 := by
  refine ⟨text_0.1, fun vs bs out h => (text_all (B := B) 20).2 vs bs out ?_⟩
  unfold sText0 at h
  split at h
  · rename_i n
    rcases T.node_sel h with ⟨hc, h2⟩ | ⟨_, h2⟩
    · have hr := of_decide_eq_true hc
      have hr' := hr
      unfold Rng at hr'
      have h20 : (10 : Nat) ^ 20 = 100000000000000000000 := by decide
      have : decide (Rng n ∧ n.natAbs < 10 ^ 20) = true := decide_eq_true ⟨hr, by omega⟩
      simp only [sText, T.sel, this, cond_true] at h2 ⊢
      exact h2
    · simp [T.sel] at h2
  · simp [T.sel] at h

/-! the law -/
noncomputable def lTx : List (FuncId × List Nat × FSpec) := (24, [], sRead) :: (25, [], sRead) :: (27, [], sText0) :: lAll
theorem lTx_ok (hB : Laid B) : ∀ x ∈ lTx, FnOk (E0 B) x.1 x.2.2 := by
  intro x hx
  rcases List.mem_cons.1 hx with rfl | hx
  · exact okRead hB
  rcases List.mem_cons.1 hx with rfl | hx
  · exact okRefRead
  rcases List.mem_cons.1 hx with rfl | hx
  · exact okText
  · exact lAll_ok hB x hx
theorem tTexts (n : Int) (s : List UInt8) : runT B lTx Tryd.f9 [i64 n, .str s] [] =
    bif decide (100 < (s.length : Int)) then rb true else bif decide (s.length ≤ lim) then (bif decide (s.length ≤ lim) then (bif rng64 n && decide ((10 : Int) = 10) then (bif decide (Rng n) then
      (bif decide (Lib.itoa n = Lib.itoa n) then (bif decide (rdN s = rdN s) then rb (decide (rdE s = rdE s)) else rb false) else rb false) else none) else none) else none) else none := by kernel_rfl
theorem texts_true {n : Int} {s : List UInt8} (hn : Rng n) : runT B lTx Tryd.f9 [i64 n, .str s] [] = rb true := by
  refine (tTexts n s).trans ?_
  cases h : decide (100 < (s.length : Int)) with
  | true => rfl
  | false =>
    have h1 := of_decide_eq_false h
    have h2 : s.length ≤ lim := by simp only [lim]; omega
    have h3 : rng64 n = true := decide_eq_true hn
    rw [cond_false, decide_eq_true h2, h3, decide_eq_true hn]
    simp
theorem tNames : runT B lAll Tryd.f13 [] [] = rb true := by kernel_rfl
end Go.Proofs.YtbccnahpdmaocaaDoor
