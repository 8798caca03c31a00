/-
  Message: Read by contract.
-/
import Derived.Test.YtbjokogmfllcdaaDoorMsgRead
namespace Go.Proofs.YtbjokogmfllcdaaDoor
open Go.Am
set_option maxRecDepth 100000
variable {B : Nat → Option Obj}
def tlS (s : List UInt8) : List (List UInt8) := ((spl s).drop 1).take ((spl s).length - 1)
def gI (l : List Int) (i : Int) (k : Option Out) : Option Out := bif decide (0 ≤ i ∧ i < (l.length : Int)) then (bif decide (i.toNat < l.length) then k else none) else none
def gAt (l : List Int) (i : Int) : Int := l.getD i.toNat 0
def rdEnd (m : Msg) : Option Out := bif !decide (chkE m = 0) then oO msg0 12 else oO m 0
def rdK (s : List UInt8) (n : Int) (k : List Int → Option Out) : Option Out :=
  bif decide ((0 : Int) ≤ 1 ∧ 1 ≤ ((spl s).length : Int)) then (bif numIn n (tlS s) then (bif numsOk n (tlS s) then k ((tlS s).map pVal) else oO msg0 12) else none) else none
def rd3 (k : Int) (l : List Int) : Option Out := gI l 0 (gI l 1 (gI l 2 (rdEnd ⟨k, gAt l 0, gAt l 1, gAt l 2, 0, 0, 0, 0, 0, 0⟩)))
def rd1 (l : List Int) : Option Out := gI l 0 (rdEnd ⟨2, 0, 0, 0, gAt l 0, 0, 0, 0, 0, 0⟩)
def rd5 (l : List Int) : Option Out := gI l 0 (gI l 1 (gI l 2 (gI l 3 (gI l 4 (rdEnd ⟨3, 0, 0, 0, 0, gAt l 0, gAt l 1, gAt l 2, gAt l 3, gAt l 4⟩)))))
def hdS (s : List UInt8) : List UInt8 := (spl s).getD (0 : Int).toNat []
theorem tRead (s : List UInt8) : runT B lib7 Tryd.f18 [.str s] [] =
    bif decide (s.length ≤ lim ∧ ([32] : List UInt8) = [32]) then (bif decide ((0 : Int) ≤ 0 ∧ 0 < ((spl s).length : Int)) then (bif decide ((0 : Int).toNat < (spl s).length) then
      (bif decide (hdS s = wRecord) then rdK s 3 (rd3 1) else bif decide (hdS s = wLate) then rdK s 3 (rd3 4) else bif decide (hdS s = wMark) then rdK s 1 rd1 else bif decide (hdS s = wRow) then rdK s 5 rd5 else rdK s 3 (rd3 0)) else none) else none) else none := by kernel_rfl
theorem tlS_is (s : List UInt8) : tlS s = tl s := by
  unfold tlS tl
  rw [List.take_of_length_le]
  rw [List.length_drop]
  exact Nat.le_refl _
theorem hdS_is (s : List UInt8) : hdS s = hd s := by
  unfold hdS hd
  cases spl s <;> rfl
theorem spl_short : ∀ (s : List UInt8), ∀ a ∈ spl s, a.length ≤ s.length
  | [], a, h => by
    simp only [spl, List.mem_singleton] at h
    subst h; exact Nat.le_refl _
  | c :: s, a, h => by
    obtain ⟨w, r, h1, h2⟩ := unspl_spl s
    have ih := spl_short s
    rw [spl_cons] at h
    rw [h1] at h ih
    cases hc : c == 32 with
    | true =>
      rw [hc] at h
      rcases List.mem_cons.1 h with rfl | h
      · simp
      · have := ih a h; simp only [List.length_cons]; omega
    | false =>
      rw [hc] at h
      rcases List.mem_cons.1 h with rfl | h
      · have := ih w (List.mem_cons_self ..); simp only [List.length_cons]; omega
      · have := ih a (List.mem_cons_of_mem _ h); simp only [List.length_cons]; omega
theorem tl_in {s : List UInt8} (hs : s.length ≤ lim) {n : Int} (hn : n = 1 ∨ n = 3 ∨ n = 5) : numIn n (tl s) = true := by
  unfold numIn
  rw [decide_eq_true hn, Bool.true_and, List.all_eq_true]
  intro a ha
  exact decide_eq_true (Nat.le_trans (spl_short s a (List.mem_of_mem_drop ha)) hs)
theorem gI_is {l : List Int} {i : Nat} (h : i < l.length) (k : Option Out) : gI l (i : Int) k = k := by
  unfold gI
  rw [decide_eq_true (show (0 : Int) ≤ (i : Int) ∧ (i : Int) < (l.length : Int) from ⟨by omega, by omega⟩), decide_eq_true (show ((i : Int)).toNat < l.length from by omega)]; rfl
theorem rdEnd_is (m : Msg) : rdEnd m = oO (bif validM m then m else msg0) (bif validM m then 0 else 12) := by
  unfold rdEnd
  rw [chk_valid]
  cases validM m <;> rfl
theorem read_is {s : List UInt8} (hs : s.length ≤ lim) : runT B lib7 Tryd.f18 [.str s] [] = oO (readM s) (readE s) := by
  refine (tRead s).trans ?_
  have hne : 0 < (spl s).length := List.length_pos_iff.2 (spl_ne s)
  rw [decide_eq_true (show s.length ≤ lim ∧ ([32] : List UInt8) = [32] from ⟨hs, rfl⟩), decide_eq_true (show (0 : Int) ≤ 0 ∧ 0 < ((spl s).length : Int) from ⟨Int.le_refl _, by omega⟩), decide_eq_true (show (0 : Int).toNat < (spl s).length from hne), hdS_is]
  have hk : ∀ n k, (n = 1 ∨ n = 3 ∨ n = 5) → rdK s n k = bif numsOk n (tl s) then k ((tl s).map pVal) else oO msg0 12 := fun n k hn => by
    unfold rdK
    rw [decide_eq_true (show (0 : Int) ≤ 1 ∧ 1 ≤ ((spl s).length : Int) from ⟨by omega, by omega⟩), tlS_is, tl_in hs hn]; rfl
  rw [hk 3 _ (.inr (.inl rfl)), hk 3 _ (.inr (.inl rfl)), hk 3 _ (.inr (.inl rfl)), hk 1 _ (.inl rfl), hk 5 _ (.inr (.inr rfl))]
  have hlen : ∀ n, numsOk n (tl s) = true → (((tl s).map pVal).length : Int) = n := fun n h => by
    unfold numsOk at h
    rw [Bool.and_eq_true] at h
    rw [List.length_map]; exact of_decide_eq_true h.1
  have k3 : ∀ (k : Int), (bif numsOk 3 (tl s) then rd3 k ((tl s).map pVal) else oO msg0 12) = bif numsOk 3 (tl s) then rdEnd ⟨k, valAt (tl s) 0, valAt (tl s) 1, valAt (tl s) 2, 0, 0, 0, 0, 0, 0⟩ else oO msg0 12 := fun k => by
    cases hb : numsOk 3 (tl s) with
    | false => rfl
    | true =>
      have hl := hlen 3 hb
      simp only [cond_true]
      unfold rd3
      rw [show (0 : Int) = ((0 : Nat) : Int) from rfl, show (1 : Int) = ((1 : Nat) : Int) from rfl, show (2 : Int) = ((2 : Nat) : Int) from rfl, gI_is (by omega), gI_is (by omega), gI_is (by omega)]
      rfl
  have k1 : (bif numsOk 1 (tl s) then rd1 ((tl s).map pVal) else oO msg0 12) = bif numsOk 1 (tl s) then rdEnd ⟨2, 0, 0, 0, valAt (tl s) 0, 0, 0, 0, 0, 0⟩ else oO msg0 12 := by
    cases hb : numsOk 1 (tl s) with
    | false => rfl
    | true =>
      have hl := hlen 1 hb
      simp only [cond_true]
      unfold rd1
      rw [show gI ((tl s).map pVal) 0 = gI ((tl s).map pVal) ((0 : Nat) : Int) from rfl, gI_is (by omega)]
      rfl
  have k5 : (bif numsOk 5 (tl s) then rd5 ((tl s).map pVal) else oO msg0 12) = bif numsOk 5 (tl s) then rdEnd ⟨3, 0, 0, 0, 0, valAt (tl s) 0, valAt (tl s) 1, valAt (tl s) 2, valAt (tl s) 3, valAt (tl s) 4⟩ else oO msg0 12 := by
    cases hb : numsOk 5 (tl s) with
    | false => rfl
    | true =>
      have hl := hlen 5 hb
      simp only [cond_true]
      unfold rd5
      generalize hv : (tl s).map pVal = l at hl
      rw [show gI l 0 = gI l ((0 : Nat) : Int) from rfl, show gI l 1 = gI l ((1 : Nat) : Int) from rfl, show gI l 2 = gI l ((2 : Nat) : Int) from rfl, show gI l 3 = gI l ((3 : Nat) : Int) from rfl, show gI l 4 = gI l ((4 : Nat) : Int) from rfl,
        gI_is (by omega), gI_is (by omega), gI_is (by omega), gI_is (by omega), gI_is (by omega), ← hv]
      rfl
  rw [k3, k3, k3, k1, k5]
  simp only [rdEnd_is]
  unfold readM readE rdOk rdM cntW kindW
  by_cases w1 : hd s = wRecord
  · rw [decide_eq_true w1]
    simp only [cond_true, mkM]
    cases numsOk 3 (tl s) <;> rfl
  by_cases w2 : hd s = wLate
  · rw [decide_eq_false w1, decide_eq_true w2]
    simp only [cond_true, cond_false, mkM]
    cases numsOk 3 (tl s) <;> rfl
  by_cases w3 : hd s = wMark
  · rw [decide_eq_false w1, decide_eq_false w2, decide_eq_true w3]
    simp only [cond_true, cond_false, mkM]
    cases numsOk 1 (tl s) <;> rfl
  by_cases w4 : hd s = wRow
  · rw [decide_eq_false w1, decide_eq_false w2, decide_eq_false w3, decide_eq_true w4]
    simp only [cond_true, cond_false, mkM]
    cases numsOk 5 (tl s) <;> rfl
  · rw [decide_eq_false w1, decide_eq_false w2, decide_eq_false w3, decide_eq_false w4]
    simp only [cond_false, mkM]
    cases numsOk 3 (tl s) <;> rfl
def sReadM : FSpec
  | [.str s], [] => .node (decide (s.length ≤ lim)) (.leaf ⟨[(readM s).av, i64 (readE s)], []⟩) .bad
  | _, _ => .bad
theorem okReadM (hB : Laid B) : FnOk (E0 B) 18 sReadM := by
  refine fnT (lib7_ok hB) Tryd.func18 (by kernel_rfl) (by kernel_rfl) fun vs bs r h => ?_
  unfold sReadM at h
  split at h
  · rename_i s
    rcases T.node_sel h with ⟨hc, h2⟩ | ⟨_, h2⟩
    · simp only [T.sel, Option.some.injEq] at h2; subst h2
      exact read_is (of_decide_eq_true hc)
    · simp [T.sel] at h2
  · simp [T.sel] at h
noncomputable def lib8 : Tb := (18, [], sReadM) :: lib7
theorem lib8_ok (hB : Laid B) : TbOk B lib8 := (lib7_ok hB).add (okReadM hB)
end Go.Proofs.YtbjokogmfllcdaaDoor
