/-
  The reference's Text of a number, by contract.
-/
import Derived.Test.YthfieonkfailkaaGreatDoorNodBase
import Derived.Test.YthfieonkfailkaaGreatDoorPureA
import Derived.Shelf.Strconv.Itoa4
namespace Go.Proofs.YthfieonkfailkaaGreatDoor.R1
open Go.Am Go.Shelf
set_option maxRecDepth 100000
variable {B : Nat → Option Obj}
def fails (p : Bool) : Bool := bif p then false else true
/-! the reference's Text: by how many digits there are -/
def sText (k : Nat) : FSpec
  | [.int .i64 n], [] => .node (decide (Rng n ∧ n.natAbs < 10 ^ k)) (.leaf ⟨[.str (Lib.itoa n)], []⟩) .bad
  | _, _ => .bad
def sText0 : FSpec
  | [.int .i64 n], [] => .node (decide (Rng n)) (.leaf ⟨[.str (Lib.itoa n)], []⟩) .bad
  | _, _ => .bad
def rs (s : List UInt8) : Option Out := some ⟨[.str s], []⟩
def lastD (n : Int) : List UInt8 := bif decide (n.tmod 10 < 0) then byteList [IntKind.u8.wrap (w64 (48 + w64 (0 - n.tmod 10)))] else byteList [IntKind.u8.wrap (w64 (48 + n.tmod 10))]
theorem tText (k : Nat) (n : Int) : (fnRun (E0 B) (specC (E0 B) (tab [(99, [], sText k)])) noL Tryz.f99 (bodyC Tryz.f99) [.int .i64 n] []).sel =
    bif decide (n.tmod 10 < 0) then (bif fails (decide (w64 (n.tdiv 10) = 0)) then (bif decide (Rng (w64 (n.tdiv 10)) ∧ (w64 (n.tdiv 10)).natAbs < 10 ^ k) then (bif decide ((Lib.itoa (w64 (n.tdiv 10))).length + 1 ≤ lim) then rs (Lib.itoa (w64 (n.tdiv 10)) ++ byteList [IntKind.u8.wrap (w64 (48 + w64 (0 - n.tmod 10)))]) else none) else none)
      else bif decide (n < 0) then rs ([45] ++ byteList [IntKind.u8.wrap (w64 (48 + w64 (0 - n.tmod 10)))]) else rs (byteList [IntKind.u8.wrap (w64 (48 + w64 (0 - n.tmod 10)))]))
    else (bif fails (decide (w64 (n.tdiv 10) = 0)) then (bif decide (Rng (w64 (n.tdiv 10)) ∧ (w64 (n.tdiv 10)).natAbs < 10 ^ k) then (bif decide ((Lib.itoa (w64 (n.tdiv 10))).length + 1 ≤ lim) then rs (Lib.itoa (w64 (n.tdiv 10)) ++ byteList [IntKind.u8.wrap (w64 (48 + n.tmod 10))]) else none) else none)
      else bif decide (n < 0) then rs ([45] ++ byteList [IntKind.u8.wrap (w64 (48 + n.tmod 10))]) else rs (byteList [IntKind.u8.wrap (w64 (48 + n.tmod 10))])) := by kernel_rfl

theorem itoa_step {n : Int} (h : Rng n) :
    (n.tmod 10 < 0 → byteList [IntKind.u8.wrap (w64 (48 + w64 (0 - n.tmod 10)))] = [UInt8.ofNat (48 + n.natAbs % 10)]) ∧ (¬ n.tmod 10 < 0 → byteList [IntKind.u8.wrap (w64 (48 + n.tmod 10))] = [UInt8.ofNat (48 + n.natAbs % 10)]) ∧
    w64 (n.tdiv 10) = n.tdiv 10 ∧ (n.tdiv 10).natAbs = n.natAbs / 10 ∧ (n.tdiv 10 ≠ 0 → (n.tdiv 10 < 0 ↔ n < 0)) := by
  unfold Rng at h
  have key : ∀ m : Int, 0 ≤ m → m ≤ 9 → byteList [IntKind.u8.wrap (w64 (48 + m))] = [UInt8.ofNat (48 + m.toNat)] := by
    intro m h0 h1
    rw [w64_rng (by unfold Rng; omega)]
    have e : IntKind.u8.wrap (48 + m) = 48 + m := by simp [IntKind.wrap, IntKind.bits, IntKind.signed]; omega
    rw [e]
    simp only [byteList, List.map_cons, List.map_nil]
    congr 2; omega
  rcases Int.lt_or_le n 0 with h0 | h0
  · obtain ⟨m, rfl⟩ : ∃ m : Int, n = -m := ⟨-n, by omega⟩
    rw [Int.neg_tmod, Int.neg_tdiv, Int.tmod_eq_emod_of_nonneg (by omega), Int.tdiv_eq_ediv_of_nonneg (by omega)]
    refine ⟨fun _ => ?_, fun hn => ?_, w64_rng (by unfold Rng; omega), by omega, by omega⟩
    · rw [show (0 : Int) - -(m % 10) = m % 10 from by omega, show w64 (m % 10) = m % 10 from w64_rng (by unfold Rng; omega), key _ (by omega) (by omega)]
      congr 2; omega
    · rw [show -(m % 10) = 0 from by omega, key _ (by omega) (by omega)]
      congr 2; omega
  · rw [Int.tmod_eq_emod_of_nonneg h0, Int.tdiv_eq_ediv_of_nonneg h0]
    refine ⟨fun hn => by omega, fun _ => ?_, w64_rng (by unfold Rng; omega), by omega, by omega⟩
    rw [key _ (by omega) (by omega)]
    congr 2; omega
theorem itoa_big {n : Int} (h : ¬ n.natAbs < 10) (hd : (n.tdiv 10).natAbs = n.natAbs / 10) (hs : n.tdiv 10 < 0 ↔ n < 0) : Lib.itoa n = Lib.itoa (n.tdiv 10) ++ [UInt8.ofNat (48 + n.natAbs % 10)] := by
  unfold Lib.itoa
  by_cases h0 : n < 0
  · rw [if_pos h0, if_pos (hs.2 h0), dec_big h, hd]; rfl
  · have h1 : ¬ n.tdiv 10 < 0 := fun h => h0 (hs.1 h)
    rw [if_neg h0, if_neg h1, show n.toNat = n.natAbs from by omega, dec_big h, ← hd, show (n.tdiv 10).toNat = (n.tdiv 10).natAbs from by omega]
theorem itoa_small {n : Int} (h : n.natAbs < 10) : Lib.itoa n = if n < 0 then [45, UInt8.ofNat (48 + n.natAbs % 10)] else [UInt8.ofNat (48 + n.natAbs % 10)] := by
  unfold Lib.itoa
  rw [Nat.mod_eq_of_lt h]
  split
  · rw [dec_small h]
  · rw [show n.toNat = n.natAbs from by omega, dec_small h]
theorem text_step (k : Nat) (hk : FnOk (E0 B) 99 (sText k)) : FnOk (E0 B) 99 (sText (k + 1)) := by
  refine fn_ok (C := specC (E0 B) (tab [(99, [], sText k)])) (L := noL) (c := bodyC Tryz.f99) Tryz.func99 (by kernel_rfl) (by kernel_rfl)
    (specC_ok (tab_ok fun x hx => by simp only [List.mem_singleton] at hx; subst hx; exact hk)) (noL_ok _) fun vs bs r h => ?_
  unfold sText at h
  split at h
  · rename_i n
    rcases T.node_sel h with ⟨hc, h2⟩ | ⟨_, h2⟩
    · simp only [T.sel, Option.some.injEq] at h2; subst h2
      obtain ⟨hr, hn⟩ := of_decide_eq_true hc
      refine (tText k n).trans ?_
      obtain ⟨s1, s2, s3, s4, s5⟩ := itoa_step hr
      rw [s3]
      by_cases hb : n.natAbs < 10
      · have hz : n.tdiv 10 = 0 := by omega
        rw [itoa_small hb, decide_eq_true hz]
        cases hm : decide (n.tmod 10 < 0) with
        | true =>
          rw [s1 (of_decide_eq_true hm)]
          by_cases h0 : n < 0
          · rw [decide_eq_true h0, if_pos h0]; rfl
          · rw [decide_eq_false h0, if_neg h0]; rfl
        | false =>
          rw [s2 (of_decide_eq_false hm)]
          by_cases h0 : n < 0
          · rw [decide_eq_true h0, if_pos h0]; rfl
          · rw [decide_eq_false h0, if_neg h0]; rfl
      · have hz : ¬ n.tdiv 10 = 0 := by omega
        have hrq : Rng (n.tdiv 10) := by rw [← s3]; exact rng_w64 _
        have hlt : (n.tdiv 10).natAbs < 10 ^ k := by rw [s4]; rw [Nat.pow_succ] at hn; omega
        have hlen : (Lib.itoa (n.tdiv 10)).length + 1 ≤ lim := by have := itoa_len hrq; simp only [lim]; omega
        rw [itoa_big hb s4 (s5 hz), decide_eq_false hz, decide_eq_true (show Rng (n.tdiv 10) ∧ (n.tdiv 10).natAbs < 10 ^ k from ⟨hrq, hlt⟩), decide_eq_true hlen]
        cases hm : decide (n.tmod 10 < 0) with
        | true => rw [s1 (of_decide_eq_true hm)]; rfl
        | false => rw [s2 (of_decide_eq_false hm)]; rfl
    · simp [T.sel] at h2
  · simp [T.sel] at h
theorem tText0 : (fnRun (E0 B) (C0 B) noL Tryz.f99 (bodyC Tryz.f99) [.int .i64 0] []).sel = rs [48] := by kernel_rfl
theorem text_0 : FnOk (E0 B) 99 (sText 0) := by
  refine fn_ok (C := C0 B) (L := noL) (c := bodyC Tryz.f99) Tryz.func99 (by kernel_rfl) (by kernel_rfl) c0Ok (noL_ok _) fun vs bs r h => ?_
  unfold sText at h
  split at h
  · rename_i n
    rcases T.node_sel h with ⟨hc, h2⟩ | ⟨_, h2⟩
    · simp only [T.sel, Option.some.injEq] at h2; subst h2
      obtain ⟨_, hn⟩ := of_decide_eq_true hc
      have : n = 0 := by omega
      subst this
      refine tText0.trans ?_
      rw [itoa_small (by decide)]; rfl
    · simp [T.sel] at h2
  · simp [T.sel] at h
theorem text_all (k : Nat) : FnOk (E0 B) 99 (sText k) := by
  induction k with
  | zero => exact text_0
  | succ k ih => exact text_step k ih
theorem okText : FnOk (E0 B) 99 sText0 := by
  refine ⟨text_0.1, fun vs bs out h => (text_all (B := B) 20).2 vs bs out ?_⟩
  unfold sText0 at h
  split at h
  · rename_i n
    rcases T.node_sel h with ⟨hc, h2⟩ | ⟨_, h2⟩
    · have hr := of_decide_eq_true hc
      have hr' := hr
      unfold Rng at hr'
      have h20 : (10 : Nat) ^ 20 = 100000000000000000000 := by decide
      have : decide (Rng n ∧ n.natAbs < 10 ^ 20) = true := decide_eq_true ⟨hr, by omega⟩
      simp only [sText, T.sel, this, cond_true] at h2 ⊢
      exact h2
    · simp [T.sel] at h2
  · simp [T.sel] at h


end Go.Proofs.YthfieonkfailkaaGreatDoor.R1
