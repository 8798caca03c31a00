/-
  Lexer: Read and the reference's, by contract.
-/
import Derived.Test.YtielnommkhfghaaDoorLexKind
namespace Go.Proofs.YtielnommkhfghaaDoor
open Go.Am
set_option maxRecDepth 100000
variable {B : Nat → Option Obj}
def xA (e : AExit) (l : List AV) : Option (AExit × Out) := some (e, ⟨l, []⟩)
/-! the program's Read -/
def sRead : FSpec
  | [.str s], [] => .node (decide (s.length ≤ lim)) (.leaf ⟨[i64 (rdN s), i64 (rdE s)], []⟩) .bad
  | _, _ => .bad
theorem tRead (s : List UInt8) : runT B lib5 Tryd.f31 [.str s] [] =
    bif decide (s = []) then rp 0 12 else bif decide (s.length ≤ lim ∧ digits = digits) then (bif fails (decide (Lib.trimS s digits = [])) then rp 0 12 else
      bif decide (s.length ≤ lim) && (decide ((10 : Int) = 10) && decide ((64 : Int) = 64)) then (bif pOk s then rp (pVal s) 0 else rp 0 16) else none) else none := by kernel_rfl
theorem read_eq {s : List UInt8} (hs : s.length ≤ lim) : runT B lib5 Tryd.f31 [.str s] [] = rp (rdN s) (rdE s) := by
  refine (tRead s).trans ?_
  unfold rdN rdE
  by_cases h0 : s = []
  · subst h0; rfl
  · have h1 : decide (s = []) = false := decide_eq_false h0
    rw [h1, cond_false, decide_eq_true (show s.length ≤ lim ∧ digits = digits from ⟨hs, rfl⟩), cond_true, decide_eq_true hs]
    simp only [Bool.false_or]
    by_cases h2 : s.all isDig = true
    · have h3 : decide (Lib.trimS s digits = []) = true := decide_eq_true ((trim_digs s).2 h2)
      rw [h3, h2]
      have hp := parse_digs h0 h2
      unfold pOk pVal
      rw [hp]
      cases rdF 0 s <;> rfl
    · have h3 : decide (Lib.trimS s digits = []) = false := decide_eq_false fun h => h2 ((trim_digs s).1 h)
      have h4 : s.all isDig = false := by simpa using h2
      rw [h3, h4]; rfl
theorem okRead (hB : Laid B) : FnOk (E0 B) 31 sRead := by
  refine fnT (lib5_ok hB) Tryd.func31 (by kernel_rfl) (by kernel_rfl) fun vs bs r h => ?_
  unfold sRead at h
  split at h
  · rename_i s
    rcases T.node_sel h with ⟨hc, h2⟩ | ⟨_, h2⟩
    · simp only [T.sel, Option.some.injEq] at h2; subst h2
      exact read_eq (of_decide_eq_true hc)
    · simp [T.sel] at h2
  · simp [T.sel] at h

theorem drop_cons {s : List UInt8} {i : Nat} {c : UInt8} {r : List UInt8} (h : s.drop i = c :: r) : i < s.length ∧ s.getD i 0 = c ∧ s.drop (i + 1) = r := by
  have hlt : i < s.length := by
    rcases Nat.lt_or_ge i s.length with h1 | h1
    · exact h1
    · rw [List.drop_eq_nil_of_le h1] at h; cases h
  rw [List.drop_eq_getElem_cons hlt] at h
  cases h
  exact ⟨hlt, by simp [List.getD, hlt], rfl⟩
theorem w64_i {i : Int} (h0 : 0 ≤ i) (h1 : i ≤ lim) : w64 (i + 1) = i + 1 := by
  apply w64_rng; unfold Rng; simp only [lim] at h1; omega
/-! the reference's Read -/
noncomputable def bA : Code := loopAt 4 (loopsOf (bodyC Tryd.f27))
noncomputable def bB : Code := loopAt 10 (loopsOf (bodyC Tryd.f27))
def sgA : LSig := { cs := [(0, 0)], mv := [(4, 0)], mo := [(2, 0), (3, 0)], take := [] }
def sgB : LSig := { cs := [(0, 0)], mv := [(5, 0), (6, 0)], mo := [(2, 0), (3, 0), (5, 0)], take := [] }
def rA (i : Int) (s : List UInt8) : Option (AExit × Out) := some (.normal, ⟨[.str s, i64 i], []⟩)
theorem turnA (s : List UInt8) (i : Int) : (turn (E0 B) (C0 B) noL 47 sgA bA [.str s, i64 i] []).sel =
    bif decide (i < s.length) then (bif decide (0 ≤ i ∧ i < s.length) then (bif decide (((s.getD i.toNat 0).toNat : Int) < 48) then xA .ret [i64 0, i64 12] else bif decide (0 ≤ i ∧ i < s.length) then
      (bif decide (57 < ((s.getD i.toNat 0).toNat : Int)) then xA .ret [i64 0, i64 12] else rA (w64 (i + 1)) s) else none) else none) else xA (.exit 0) [.any, .any] := by kernel_rfl
def sA : LSpec
  | [.str s, .int .i64 i], [] => .node (decide (0 ≤ i ∧ i ≤ s.length ∧ s.length ≤ lim)) (.node ((s.drop i.toNat).all isDig) (.leaf (.exit 0, ⟨[.any, .any], []⟩)) (.leaf (.ret, ⟨[i64 0, i64 12], []⟩))) .bad
  | _, _ => .bad
theorem loopA : LoopOk (E0 B) 47 sgA bA sA := by
  refine loop_turns (C := C0 B) (L := noL) c0Ok (noL_ok _) fun vs bs e o h => ?_
  unfold sA at h
  split at h
  · rename_i s i
    rcases T.node_sel h with ⟨hc, h2⟩ | ⟨_, h2⟩
    · obtain ⟨h0, h1, hl⟩ := of_decide_eq_true hc
      clear hc h
      generalize hr : s.drop i.toNat = r at h2
      induction r generalizing i with
      | nil =>
        have hi : ¬ i < s.length := by
          have := List.drop_eq_nil_iff.1 hr
          omega
        simp only [List.all_nil, T.sel, cond_true, Option.some.injEq, Prod.mk.injEq] at h2
        obtain ⟨rfl, rfl⟩ := h2
        refine ⟨1, turns_done ((turnA s i).trans ?_) (by simp)⟩
        rw [decide_eq_false hi]; rfl
      | cons c r ih =>
        obtain ⟨d1, d2, d3⟩ := drop_cons hr
        have hi : i < s.length := by omega
        have ht := turnA (B := B) s i
        rw [decide_eq_true hi, cond_true, decide_eq_true (show 0 ≤ i ∧ i < s.length from ⟨h0, hi⟩), cond_true, d2] at ht
        cases hd : isDig c with
        | true =>
          have hn := dig_nat hd
          rw [decide_eq_false (show ¬ (c.toNat : Int) < 48 from by omega), cond_false, cond_true, decide_eq_false (show ¬ 57 < (c.toNat : Int) from by omega), cond_false, w64_i h0 (by omega)] at ht
          obtain ⟨k, hk⟩ := ih (i + 1) (by omega) (by omega) (by rw [show (i + 1).toNat = i.toNat + 1 from by omega]; exact d3) (by simpa [hd] using h2)
          exact ⟨k + 1, turns_more ht hk⟩
        | false =>
          simp only [List.all_cons, hd, Bool.false_and, T.sel, cond_false, Option.some.injEq, Prod.mk.injEq] at h2
          obtain ⟨rfl, rfl⟩ := h2
          have hn : ¬ (48 ≤ c.toNat ∧ c.toNat ≤ 57) := by
            intro hh
            have : isDig c = true := by simp [isDig, hh.1, hh.2]
            rw [hd] at this; cases this
          refine ⟨1, turns_done (ht.trans ?_) (by simp)⟩
          by_cases h5 : (c.toNat : Int) < 48
          · rw [decide_eq_true h5]; rfl
          · rw [decide_eq_false h5, cond_false, cond_true, decide_eq_true (show 57 < (c.toNat : Int) from by omega)]; rfl
    · simp [T.sel] at h2
  · simp [T.sel] at h

def rB (n i : Int) (s : List UInt8) : Option (AExit × Out) := some (.normal, ⟨[.str s, i64 n, i64 i], []⟩)
def dgW (c : UInt8) : Int := w64 (IntKind.u8.wrap ((c.toNat : Int) - 48))
theorem turnB (s : List UInt8) (n i : Int) : (turn (E0 B) (C0 B) noL 47 sgB bB [.str s, i64 n, i64 i] []).sel =
    bif decide (i < s.length) then (bif decide (0 ≤ i ∧ i < s.length) then (bif decide (w64 ((w64 (9223372036854775807 - dgW (s.getD i.toNat 0))).tdiv 10) < n) then xA .ret [i64 0, i64 16, i64 n]
      else rB (w64 (w64 (10 * n) + dgW (s.getD i.toNat 0))) (w64 (i + 1)) s) else none) else xA (.exit 2) [.any, .any, i64 n] := by kernel_rfl
def okB (s : List UInt8) (i n : Int) : Bool := decide (0 ≤ i ∧ i ≤ s.length ∧ s.length ≤ lim ∧ 0 ≤ n ∧ n ≤ most) && (s.drop i.toNat).all isDig
def outB (s : List UInt8) (i n : Int) : T (AExit × Out) :=
  .node (rdF n (s.drop i.toNat)).isSome (.leaf (.exit 2, ⟨[.any, .any, i64 ((rdF n (s.drop i.toNat)).getD 0)], []⟩)) (.leaf (.ret, ⟨[i64 0, i64 16, .any], []⟩))
def sgB' : LSig := { cs := [(0, 0)], mv := [(5, 0), (6, 0)], mo := [(2, 0), (3, 0), (5, 0)], take := [] }
def lastN (n : Int) : List UInt8 → Int
  | [] => n
  | c :: r => bif decide ((most - dg c).tdiv 10 < n) then n else lastN (10 * n + dg c) r
def sB : LSpec
  | [.str s, .int .i64 n, .int .i64 i], [] => .node (okB s i n) (.node (rdF n (s.drop i.toNat)).isSome (.leaf (.exit 2, ⟨[.any, .any, i64 (lastN n (s.drop i.toNat))], []⟩)) (.leaf (.ret, ⟨[i64 0, i64 16, i64 (lastN n (s.drop i.toNat))], []⟩))) .bad
  | _, _ => .bad
theorem rdF_last {n : Int} {l : List UInt8} (h : (rdF n l).isSome = true) : rdF n l = some (lastN n l) := by
  induction l generalizing n with
  | nil => rfl
  | cons c r ih =>
    simp only [rdF, lastN] at h ⊢
    cases hc : decide ((most - dg c).tdiv 10 < n) with
    | true => rw [hc] at h; simp at h
    | false => rw [hc] at h; rw [cond_false, cond_false]; exact ih h
theorem dgW_eq {c : UInt8} (h : isDig c = true) : dgW c = dg c := by
  have := dg_rng h
  have hn := dig_nat h
  unfold dgW dg at *
  have e : IntKind.u8.wrap ((c.toNat : Int) - 48) = (c.toNat : Int) - 48 := by simp [IntKind.wrap, IntKind.bits, IntKind.signed]; omega
  rw [e]; apply w64_rng; unfold Rng; omega
theorem loopB : LoopOk (E0 B) 47 sgB bB sB := by
  refine loop_turns (C := C0 B) (L := noL) c0Ok (noL_ok _) fun vs bs e o h => ?_
  unfold sB at h
  split at h
  · rename_i s n i
    rcases T.node_sel h with ⟨hc, h2⟩ | ⟨_, h2⟩
    · simp only [okB, Bool.and_eq_true, decide_eq_true_eq] at hc
      obtain ⟨⟨h0, h1, hl, hn0, hn1⟩, hall⟩ := hc
      clear h
      generalize hr : s.drop i.toNat = r at h2 hall
      induction r generalizing i n with
      | nil =>
        have hi : ¬ i < s.length := by
          have := List.drop_eq_nil_iff.1 hr
          omega
        simp only [rdF, lastN, Option.isSome_some, T.sel, cond_true, Option.some.injEq, Prod.mk.injEq] at h2
        obtain ⟨rfl, rfl⟩ := h2
        refine ⟨1, turns_done ((turnB s n i).trans ?_) (by simp)⟩
        rw [decide_eq_false hi]; rfl
      | cons c r ih =>
        simp only [List.all_cons, Bool.and_eq_true] at hall
        obtain ⟨d1, d2, d3⟩ := drop_cons hr
        have hi : i < s.length := by omega
        have ht := turnB (B := B) s n i
        have hd := dg_rng hall.1
        have hmost : most = 9223372036854775807 := rfl
        have e1 : w64 (9223372036854775807 - dg c) = most - dg c := by rw [hmost]; apply w64_rng; unfold Rng; omega
        have e2 : w64 ((most - dg c).tdiv 10) = (most - dg c).tdiv 10 := by
          rw [Int.tdiv_eq_ediv_of_nonneg (by omega)]; apply w64_rng; unfold Rng; omega
        rw [decide_eq_true hi, cond_true, decide_eq_true (show 0 ≤ i ∧ i < s.length from ⟨h0, hi⟩), cond_true, d2, dgW_eq hall.1, e1, e2] at ht
        cases hq : decide ((most - dg c).tdiv 10 < n) with
        | true =>
          rw [hq, cond_true] at ht
          simp only [rdF, lastN, hq, cond_true, Option.isSome_none, T.sel, cond_false, Option.some.injEq, Prod.mk.injEq] at h2
          obtain ⟨rfl, rfl⟩ := h2
          exact ⟨1, turns_done ht (by simp)⟩
        | false =>
          rw [hq, cond_false] at ht
          have hq' := of_decide_eq_false hq
          rw [Int.tdiv_eq_ediv_of_nonneg (by omega)] at hq'
          have e3 : w64 (10 * n) = 10 * n := by apply w64_rng; unfold Rng; omega
          have e4 : w64 (10 * n + dg c) = 10 * n + dg c := by apply w64_rng; unfold Rng; omega
          rw [e3, e4, w64_i h0 (by omega)] at ht
          obtain ⟨k, hk⟩ := ih (10 * n + dg c) (i + 1) (by omega) (by omega) (by omega) (by omega) (by rw [show (i + 1).toNat = i.toNat + 1 from by omega]; exact d3) (by simpa only [rdF, lastN, hq, cond_false] using h2) hall.2
          exact ⟨k + 1, turns_more ht hk⟩
    · simp [T.sel] at h2
  · simp [T.sel] at h
def eA : LEnt := { id := 4, n := 47, sg := sgA, wr := [10, 11, 12, 13, 16, 17, 18, 19, 20, 21, 22, 23, 24, 25, 2, 3, 14, 15, 4], s := sA }
def eB : LEnt := { id := 10, n := 47, sg := sgB, wr := [26, 27, 28, 29, 32, 33, 34, 35, 36, 7, 37, 38, 39, 40, 41, 2, 3, 42, 43, 44, 45, 5, 30, 31, 6], s := sB }
theorem tRefRead (s : List UInt8) : (fnRun (E0 B) (C0 B) (loopL (E0 B) noL [eA, eB]) Tryd.f27 (bodyC Tryd.f27) [.str s] []).sel =
    bif decide (s = []) then rp 0 12 else bif decide (0 ≤ (0 : Int) ∧ (0 : Int) ≤ s.length ∧ s.length ≤ lim) then (bif s.all isDig then (bif okB s 0 0 then (bif (rdF 0 s).isSome then rp (lastN 0 s) 0 else rp 0 16) else none) else rp 0 12) else none := by kernel_rfl
theorem okRefRead : FnOk (E0 B) 27 sRead := by
  refine fn_ok (C := C0 B) (L := loopL (E0 B) noL [eA, eB]) (c := bodyC Tryd.f27) Tryd.func27 (by kernel_rfl) (by kernel_rfl) c0Ok (loopL_fits (fun x hx => ?_) noL_ok) fun vs bs r h => ?_
  · simp only [List.mem_cons, List.mem_nil_iff, or_false] at hx
    rcases hx with rfl | rfl
    · exact ⟨bA, by kernel_rfl, by kernel_rfl, loopA⟩
    · exact ⟨bB, by kernel_rfl, by kernel_rfl, loopB⟩
  · unfold sRead at h
    split at h
    · rename_i s
      rcases T.node_sel h with ⟨hc, h2⟩ | ⟨_, h2⟩
      · simp only [T.sel, Option.some.injEq] at h2; subst h2
        refine (tRefRead s).trans ?_
        have hs := of_decide_eq_true hc
        unfold rdN rdE
        by_cases h0 : s = []
        · subst h0; rfl
        · rw [decide_eq_false h0, cond_false, decide_eq_true (show 0 ≤ (0 : Int) ∧ (0 : Int) ≤ s.length ∧ s.length ≤ lim from ⟨Int.le_refl _, by omega, hs⟩), cond_true]
          cases h1 : s.all isDig with
          | false => rfl
          | true =>
            have hok : okB s 0 0 = true := by
              simp only [okB, Bool.and_eq_true, decide_eq_true_eq]
              exact ⟨⟨by omega, by omega, hs, by omega, by decide⟩, h1⟩
            rw [hok]
            cases h3 : (rdF 0 s).isSome with
            | true => have := rdF_last h3; rw [this]; rfl
            | false =>
              have : rdF 0 s = none := by simpa using h3
              rw [this]; rfl
      · simp [T.sel] at h2
    · simp [T.sel] at h

noncomputable def lib6 : Tb := (31, [], sRead) :: (27, [], sRead) :: lib5
theorem lib6_ok (hB : Laid B) : TbOk B lib6 := lib5_ok hB |>.add okRefRead |>.add (okRead hB)
end Go.Proofs.YtielnommkhfghaaDoor
