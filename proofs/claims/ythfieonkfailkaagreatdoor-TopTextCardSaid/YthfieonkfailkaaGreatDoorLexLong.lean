/-
  Lexer: the reference's Read, Longest and Valid by contract, for texts of any length.
-/
import Derived.Test.YthfieonkfailkaaGreatDoorLxB
namespace Go.Proofs.YthfieonkfailkaaGreatDoor.Lx
open Go.Am
set_option maxRecDepth 100000
variable {B : Nat → Option Obj}
def lim2 : Nat := 9223372036854775807
theorem w64_iL {i : Int} (h0 : 0 ≤ i) (h1 : i < lim2) : w64 (i + 1) = i + 1 := by
  apply w64_rng; unfold Rng; simp only [lim2] at h1; omega
def sReadL : FSpec
  | [.str s], [] => .node (decide (s.length ≤ lim2)) (.leaf ⟨[i64 (rdN s), i64 (rdE s)], []⟩) .bad
  | _, _ => .bad
def okLL (s : List UInt8) (a i : Int) (L : List (List UInt8)) : Bool := decide (0 ≤ i ∧ i ≤ (L.length : Int) ∧ (L.length : Int) ≤ 900 ∧ 0 ≤ a ∧ a ≤ (s.length : Int) ∧ (s.length : Int) ≤ 9223372036854775807) && shortL L
theorem wr_inL {n : Int} (h0 : -1000 ≤ n) (h1 : n ≤ 9223372036854775807) : wr n = n := by unfold wr; rw [IntKind.wrap_i64]; omega
def sAL : LSpec
  | [.str s, .int .i64 i], [] => .node (decide (0 ≤ i ∧ i ≤ s.length ∧ s.length ≤ lim2)) (.node ((s.drop i.toNat).all isDig) (.leaf (.exit 0, ⟨[.any, .any], []⟩)) (.leaf (.ret, ⟨[i64 0, i64 12], []⟩))) .bad
  | _, _ => .bad
theorem loopAL : LoopOk (E0 B) 47 sgA bA sAL := by
  refine loop_turns (C := C0 B) (L := noL) c0Ok (noL_ok _) fun vs bs e o h => ?_
  unfold sAL at h
  split at h
  · rename_i s i
    rcases T.node_sel h with ⟨hc, h2⟩ | ⟨_, h2⟩
    · obtain ⟨h0, h1, hl⟩ := of_decide_eq_true hc
      clear hc h
      generalize hr : s.drop i.toNat = r at h2
      induction r generalizing i with
      | nil =>
        have hi : ¬ i < s.length := by
          have := List.drop_eq_nil_iff.1 hr
          omega
        simp only [List.all_nil, T.sel, cond_true, Option.some.injEq, Prod.mk.injEq] at h2
        obtain ⟨rfl, rfl⟩ := h2
        refine ⟨1, turns_done ((turnA s i).trans ?_) (by simp)⟩
        rw [decide_eq_false hi]; rfl
      | cons c r ih =>
        obtain ⟨d1, d2, d3⟩ := drop_cons hr
        have hi : i < s.length := by omega
        have ht := turnA (B := B) s i
        rw [decide_eq_true hi, cond_true, decide_eq_true (show 0 ≤ i ∧ i < s.length from ⟨h0, hi⟩), cond_true, d2] at ht
        cases hd : isDig c with
        | true =>
          have hn := dig_nat hd
          rw [decide_eq_false (show ¬ (c.toNat : Int) < 48 from by omega), cond_false, cond_true, decide_eq_false (show ¬ 57 < (c.toNat : Int) from by omega), cond_false, w64_iL h0 (by omega)] at ht
          obtain ⟨k, hk⟩ := ih (i + 1) (by omega) (by omega) (by rw [show (i + 1).toNat = i.toNat + 1 from by omega]; exact d3) (by simpa [hd] using h2)
          exact ⟨k + 1, turns_more ht hk⟩
        | false =>
          simp only [List.all_cons, hd, Bool.false_and, T.sel, cond_false, Option.some.injEq, Prod.mk.injEq] at h2
          obtain ⟨rfl, rfl⟩ := h2
          have hn : ¬ (48 ≤ c.toNat ∧ c.toNat ≤ 57) := by
            intro hh
            have : isDig c = true := by simp [isDig, hh.1, hh.2]
            rw [hd] at this; cases this
          refine ⟨1, turns_done (ht.trans ?_) (by simp)⟩
          by_cases h5 : (c.toNat : Int) < 48
          · rw [decide_eq_true h5]; rfl
          · rw [decide_eq_false h5, cond_false, cond_true, decide_eq_true (show 57 < (c.toNat : Int) from by omega)]; rfl
    · simp [T.sel] at h2
  · simp [T.sel] at h

def okBL (s : List UInt8) (i n : Int) : Bool := decide (0 ≤ i ∧ i ≤ s.length ∧ s.length ≤ lim2 ∧ 0 ≤ n ∧ n ≤ most) && (s.drop i.toNat).all isDig
def sBL : LSpec
  | [.str s, .int .i64 n, .int .i64 i], [] => .node (okBL s i n) (.node (rdF n (s.drop i.toNat)).isSome (.leaf (.exit 2, ⟨[.any, .any, i64 (lastN n (s.drop i.toNat))], []⟩)) (.leaf (.ret, ⟨[i64 0, i64 16, i64 (lastN n (s.drop i.toNat))], []⟩))) .bad
  | _, _ => .bad
theorem loopBL : LoopOk (E0 B) 47 sgB bB sBL := by
  refine loop_turns (C := C0 B) (L := noL) c0Ok (noL_ok _) fun vs bs e o h => ?_
  unfold sBL at h
  split at h
  · rename_i s n i
    rcases T.node_sel h with ⟨hc, h2⟩ | ⟨_, h2⟩
    · simp only [okBL, Bool.and_eq_true, decide_eq_true_eq] at hc
      obtain ⟨⟨h0, h1, hl, hn0, hn1⟩, hall⟩ := hc
      clear h
      generalize hr : s.drop i.toNat = r at h2 hall
      induction r generalizing i n with
      | nil =>
        have hi : ¬ i < s.length := by
          have := List.drop_eq_nil_iff.1 hr
          omega
        simp only [rdF, lastN, Option.isSome_some, T.sel, cond_true, Option.some.injEq, Prod.mk.injEq] at h2
        obtain ⟨rfl, rfl⟩ := h2
        refine ⟨1, turns_done ((turnB s n i).trans ?_) (by simp)⟩
        rw [decide_eq_false hi]; rfl
      | cons c r ih =>
        simp only [List.all_cons, Bool.and_eq_true] at hall
        obtain ⟨d1, d2, d3⟩ := drop_cons hr
        have hi : i < s.length := by omega
        have ht := turnB (B := B) s n i
        have hd := dg_rng hall.1
        have hmost : most = 9223372036854775807 := rfl
        have e1 : w64 (9223372036854775807 - dg c) = most - dg c := by rw [hmost]; apply w64_rng; unfold Rng; omega
        have e2 : w64 ((most - dg c).tdiv 10) = (most - dg c).tdiv 10 := by
          rw [Int.tdiv_eq_ediv_of_nonneg (by omega)]; apply w64_rng; unfold Rng; omega
        rw [decide_eq_true hi, cond_true, decide_eq_true (show 0 ≤ i ∧ i < s.length from ⟨h0, hi⟩), cond_true, d2, dgW_eq hall.1, e1, e2] at ht
        cases hq : decide ((most - dg c).tdiv 10 < n) with
        | true =>
          rw [hq, cond_true] at ht
          simp only [rdF, lastN, hq, cond_true, Option.isSome_none, T.sel, cond_false, Option.some.injEq, Prod.mk.injEq] at h2
          obtain ⟨rfl, rfl⟩ := h2
          exact ⟨1, turns_done ht (by simp)⟩
        | false =>
          rw [hq, cond_false] at ht
          have hq' := of_decide_eq_false hq
          rw [Int.tdiv_eq_ediv_of_nonneg (by omega)] at hq'
          have e3 : w64 (10 * n) = 10 * n := by apply w64_rng; unfold Rng; omega
          have e4 : w64 (10 * n + dg c) = 10 * n + dg c := by apply w64_rng; unfold Rng; omega
          rw [e3, e4, w64_iL h0 (by omega)] at ht
          obtain ⟨k, hk⟩ := ih (10 * n + dg c) (i + 1) (by omega) (by omega) (by omega) (by omega) (by rw [show (i + 1).toNat = i.toNat + 1 from by omega]; exact d3) (by simpa only [rdF, lastN, hq, cond_false] using h2) hall.2
          exact ⟨k + 1, turns_more ht hk⟩
    · simp [T.sel] at h2
  · simp [T.sel] at h
def eAL : LEnt := { id := 4, n := 47, sg := sgA, wr := [10, 11, 12, 13, 16, 17, 18, 19, 20, 21, 22, 23, 24, 25, 2, 3, 14, 15, 4], s := sAL }
def eBL : LEnt := { id := 10, n := 47, sg := sgB, wr := [26, 27, 28, 29, 32, 33, 34, 35, 36, 7, 37, 38, 39, 40, 41, 2, 3, 42, 43, 44, 45, 5, 30, 31, 6], s := sBL }
theorem tRefReadL (s : List UInt8) : (fnRun (E0 B) (C0 B) (loopL (E0 B) noL [eAL, eBL]) Tryz.f83 (bodyC Tryz.f83) [.str s] []).sel =
    bif decide (s = []) then rp 0 12 else bif decide (0 ≤ (0 : Int) ∧ (0 : Int) ≤ s.length ∧ s.length ≤ lim2) then (bif s.all isDig then (bif okBL s 0 0 then (bif (rdF 0 s).isSome then rp (lastN 0 s) 0 else rp 0 16) else none) else rp 0 12) else none := by kernel_rfl
theorem okRefReadL : FnOk (E0 B) 83 sReadL := by
  refine fn_ok (C := C0 B) (L := loopL (E0 B) noL [eAL, eBL]) (c := bodyC Tryz.f83) Tryz.func83 (by kernel_rfl) (by kernel_rfl) c0Ok (loopL_fits (fun x hx => ?_) noL_ok) fun vs bs r h => ?_
  · simp only [List.mem_cons, List.mem_nil_iff, or_false] at hx
    rcases hx with rfl | rfl
    · exact ⟨bA, by kernel_rfl, by kernel_rfl, loopAL⟩
    · exact ⟨bB, by kernel_rfl, by kernel_rfl, loopBL⟩
  · unfold sReadL at h
    split at h
    · rename_i s
      rcases T.node_sel h with ⟨hc, h2⟩ | ⟨_, h2⟩
      · simp only [T.sel, Option.some.injEq] at h2; subst h2
        refine (tRefReadL s).trans ?_
        have hs := of_decide_eq_true hc
        unfold rdN rdE
        by_cases h0 : s = []
        · subst h0; rfl
        · rw [decide_eq_false h0, cond_false, decide_eq_true (show 0 ≤ (0 : Int) ∧ (0 : Int) ≤ s.length ∧ s.length ≤ lim2 from ⟨Int.le_refl _, by omega, hs⟩), cond_true]
          cases h1 : s.all isDig with
          | false => rfl
          | true =>
            have hok : okBL s 0 0 = true := by
              simp only [okBL, Bool.and_eq_true, decide_eq_true_eq]
              exact ⟨⟨by omega, by omega, hs, by omega, by decide⟩, h1⟩
            rw [hok]
            cases h3 : (rdF 0 s).isSome with
            | true => have := rdF_last h3; rw [this]; rfl
            | false =>
              have : rdF 0 s = none := by simpa using h3
              rw [this]; rfl
      · simp [T.sel] at h2
    · simp [T.sel] at h

def spLL : LSpec
  | [.str s, .int .i64 a, .slw 0, .int .i64 i], [⟨false, .strs L⟩] => .node (okLL s a i L) (.node (longF s a (L.drop i.toNat)).isSome (.leaf (.ret, ⟨[i64 ((longF s a (L.drop i.toNat)).getD 0 : Nat)], []⟩)) (.leaf (.exit 0, ⟨[.any], []⟩))) .bad
  | _, _ => .bad
theorem loopLgL : LoopOk (E0 B) 46 sgL bL spLL := by
  refine loop_turns (C := C0 B) (L := noL) c0Ok (noL_ok _) fun vs bs e o h => ?_
  unfold spLL at h
  split at h
  · rename_i s a i L
    rcases T.node_sel h with ⟨hc, h2⟩ | ⟨_, h2⟩
    · simp only [okLL, Bool.and_eq_true, decide_eq_true_eq] at hc
      obtain ⟨⟨h0, h1, hl, ha0, ha1, hs⟩, hsh⟩ := hc
      clear h
      generalize hr : L.drop i.toNat = r at h2
      induction r generalizing i with
      | nil =>
        have hi : ¬ i < (L.length : Int) := by
          have := List.drop_eq_nil_iff.1 hr
          omega
        simp only [longF, Option.isSome_none, T.sel, cond_false, Option.some.injEq, Prod.mk.injEq] at h2
        obtain ⟨rfl, rfl⟩ := h2
        refine ⟨1, turns_done ((turnL s a i L).trans ?_) (by simp)⟩
        rw [decide_eq_false hi]; rfl
      | cons l r ih =>
        obtain ⟨d1, d2, d3⟩ := getD_drop hr
        have hi : i < (L.length : Int) := by omega
        have hll : l.length ≤ 10 := by
          have hm : l ∈ L := List.mem_of_mem_drop (i := i.toNat) (by rw [hr]; exact List.mem_cons_self ..)
          exact of_decide_eq_true (List.all_eq_true.1 hsh l hm)
        have ht := turnL (B := B) s a i L
        rw [decide_eq_true hi, cond_true, at0_in _ h0 hi, at0_in _ h0 hi, at0_in _ h0 hi, at0_in _ h0 hi, d1, wr_inL (n := (s.length : Int) - a) (by omega) (by omega), wr_inL (n := i + 1) (by omega) (by omega)] at ht
        have next : (longF s a (l :: r) = longF s a r) → (turn (E0 B) (C0 B) noL 46 sgL bL [.str s, i64 a, .slw 0, i64 i] [⟨false, .strs L⟩]).sel = some (.normal, ⟨[.str s, i64 a, .slw 0, i64 (i + 1)], [⟨false, .strs L⟩]⟩) → ∃ k, (turns (E0 B) (C0 B) noL 46 sgL bL k [.str s, i64 a, .slw 0, i64 i] [⟨false, .strs L⟩]).sel = some (e, o) := fun hq hturn => by
          obtain ⟨k, hk⟩ := ih (i + 1) (by omega) (by omega) (by rw [show (i + 1).toNat = i.toNat + 1 from by omega]; exact d3) (by rw [← hq]; exact h2)
          exact ⟨k + 1, turns_more hturn hk⟩
        by_cases hA : (l.length : Int) ≤ (s.length : Int) - a
        · rw [wr_inL (n := a + (l.length : Int)) (by omega) (by omega), decide_eq_true hA, cond_true, show sL s a (a + (l.length : Int)) = true from decide_eq_true ⟨by omega, by omega, by omega⟩, cond_true] at ht
          by_cases hE : cut s a (a + (l.length : Int)) = l
          · rw [decide_eq_true hE, cond_true] at ht
            have hq : longF s a (l :: r) = some l.length := by unfold longF; rw [decide_eq_true hA, decide_eq_true hE]; rfl
            rw [hq] at h2
            simp only [Option.isSome_some, T.sel, cond_true, Option.some.injEq, Prod.mk.injEq] at h2
            obtain ⟨rfl, rfl⟩ := h2
            exact ⟨1, turns_done ht (by simp)⟩
          · rw [decide_eq_false hE, cond_false] at ht
            exact next (by conv => lhs; unfold longF
                           rw [decide_eq_false hE, Bool.and_false]; rfl) ht
        · rw [decide_eq_false hA, cond_false] at ht
          exact next (by conv => lhs; unfold longF
                         rw [decide_eq_false hA, Bool.false_and]; rfl) ht
    · simp [T.sel] at h2
  · simp [T.sel] at h
def eLL : LEnt := { id := 3, n := 46, sg := sgL, wr := [8, 9, 10, 11, 14, 15, 16, 17, 18, 19, 20, 21, 22, 23, 24, 25, 26, 27, 28, 29, 30, 31, 32, 33, 34, 35, 36, 37, 38, 39, 40, 41, 42, 43, 44, 45, 4, 12, 13, 6], s := spLL }
noncomputable def specLgL (B : Nat → Option Obj) : FSpec := fun vs bs => fnRun (E0 B) (Cx B []) (loopL (E0 B) (inlL (E0 B) (Cx B []) 300) [eLL]) Tryz.f85 (bodyC Tryz.f85) vs bs
theorem okLg0L : FnOk (E0 B) 85 (specLgL B) :=
  fn_ok (c := bodyC Tryz.f85) Tryz.func85 (by kernel_rfl) (by kernel_rfl) (cxOk (l := []) (fun _ h => by cases h))
    (loopL_fits (fun x hx => by simp only [List.mem_singleton] at hx; subst hx; exact ⟨bL, by kernel_rfl, by kernel_rfl, loopLgL⟩) (inl_ok (cxOk (l := []) (fun _ h => by cases h)) 300)) fun _ _ _ h => h
theorem tLgL (s : List UInt8) (a : Int) : (specLgL B [.str s, i64 a] []).sel = bif okLL s a 0 symbols then (bif (longF s a symbols).isSome then some ⟨[i64 ((longF s a symbols).getD 0 : Nat)], []⟩ else some ⟨[i64 0], []⟩) else none := by kernel_rfl
def sLgL : FSpec
  | [.str s, .int .i64 a], [] => .node (decide (0 ≤ a ∧ a ≤ (s.length : Int) ∧ (s.length : Int) ≤ 9223372036854775807)) (.leaf ⟨[i64 (sym0 (s.drop a.toNat))], []⟩) .bad
  | _, _ => .bad
theorem okLgL : FnOk (E0 B) 85 sLgL := ⟨okLg0L.1, fun vs bs out h => by
  refine (okLg0L (B := B)).2 vs bs out ?_
  unfold sLgL at h
  split at h
  · rename_i s a
    rcases T.node_sel h with ⟨hc, h2⟩ | ⟨_, h2⟩
    · obtain ⟨h0, h1, hl⟩ := of_decide_eq_true hc
      simp only [T.sel, Option.some.injEq] at h2; subst h2
      have hok : okLL s a 0 symbols = true := by
        unfold okLL
        rw [Bool.and_eq_true]
        exact ⟨decide_eq_true ⟨by decide, by decide, by decide, h0, h1, hl⟩, by decide⟩
      refine (tLgL s a).trans ?_
      rw [hok, cond_true, ← long_sym h0 h1]
      unfold longN
      cases longF s a symbols <;> rfl
    · simp [T.sel] at h2
  · simp [T.sel] at h⟩
noncomputable def libV : Tb := (83, [], sReadL) :: (85, [], sLgL) :: (84, [], sWord) :: []
theorem libV_ok : TbOk B libV := ((TbOk.nil.add okWord').add okLgL).add okRefReadL
theorem tValidL (k a : Int) (t : List UInt8) : runT B libV Tryz.f48 [.agg [.int .u8 k, .str t, .int .i64 a]] [] =
    bif decide (k = 1) then (bif decide (t.length ≤ lim2) then rb (decide (rdE t = 0)) else none) else bif decide (k = 2) then rb (isWord t) else
      bif decide (k = 3) then (bif decide ((0 : Int) < (t.length : Int)) then (bif decide (0 ≤ (0 : Int) ∧ (0 : Int) ≤ (t.length : Int) ∧ (t.length : Int) ≤ 9223372036854775807) then rb (decide (sym0 t = (t.length : Int))) else none) else rb false) else rb false := by kernel_rfl
def sValidL : FSpec
  | [.agg [.int .u8 k, .str t, .int .i64 _]], [] => .node (decide (t.length ≤ lim2)) (.leaf ⟨[.bool (decide (tokE k t = 0))], []⟩) .bad
  | _, _ => .bad
theorem okValidL : FnOk (E0 B) 48 sValidL := by
  refine fnT libV_ok Tryz.func48 (by kernel_rfl) (by kernel_rfl) fun vs bs r h => ?_
  unfold sValidL at h
  split at h
  · rename_i k t a
    rcases T.node_sel h with ⟨hc, h2⟩ | ⟨_, h2⟩
    · simp only [T.sel, Option.some.injEq] at h2; subst h2
      have hl := of_decide_eq_true hc
      refine (tValidL k a t).trans ?_
      rw [hc, decide_eq_true (show 0 ≤ (0 : Int) ∧ (0 : Int) ≤ (t.length : Int) ∧ (t.length : Int) ≤ 9223372036854775807 from ⟨by omega, by omega, by simp only [lim2] at hl; omega⟩)]
      unfold tokE
      cases decide (k = 1)
      · cases decide (k = 2)
        · cases decide (k = 3)
          · rfl
          · by_cases h5 : sym0 t = (t.length : Int)
            · rw [h5]
              cases decide ((0 : Int) < (t.length : Int)) <;> simp [rb]
            · rw [decide_eq_false h5, Bool.and_false]
              cases decide ((0 : Int) < (t.length : Int)) <;> rfl
        · cases isWord t <;> rfl
      · rfl
    · simp [T.sel] at h2
  · simp [T.sel] at h
end Go.Proofs.YthfieonkfailkaaGreatDoor.Lx
