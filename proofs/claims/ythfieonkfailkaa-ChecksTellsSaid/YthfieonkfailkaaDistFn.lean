/-
  Clauses: how many different elements a list of numbers has: walked (a map that the call makes).
-/
import Derived.WalkKit
import Derived.Maps.OwnSet
import Derived.Test.YthfieonkfailkaaNodBase
import Derived.Test.YthfieonkfailkaaDistPure
namespace Go.Proofs.Ythfieonkfailkaa
open Go.RowKit Go.Maps
set_option maxRecDepth 100000

def keysI (l : List Int) (k : Nat) : List Lit := (l.take k).map (Lit.int .i64)
def SI (l : List Int) (k : Nat) : DataW Unit := setOf (.lit (.bool true)) (keysI l k)
theorem keysI_succ (l : List Int) (k : Nat) (hk : k < l.length) : keysI l (k + 1) = keysI l k ++ [.int .i64 (l.getD k 0)] := by
  unfold keysI
  rw [List.take_add_one, List.map_append]
  simp [List.getD, List.getElem?_eq_getElem hk]
theorem SI_succ (l : List Int) (k : Nat) (hk : k < l.length) : SI l (k + 1) = (SI l k).put (.int .i64 (l.getD k 0)) (.lit (.bool true)) := by
  unfold SI
  rw [keysI_succ l k hk, setOf_snoc]
theorem SI_zero (l : List Int) : SI l 0 = .map [] := by simp [SI, keysI, setOf]
theorem SI_size (l : List Int) : Maps.size (SI l l.length) = Am.dcount l := by
  unfold SI keysI
  rw [List.take_length, size_setOf _ _ (fun x hx => by obtain ⟨_, _, rfl⟩ := List.mem_map.1 hx; trivial), Am.dcount_is]
theorem uInt : Try.prog.underlying 3 = some (.int .i64) := by kernel_rfl
theorem uBool : Try.prog.underlying 4 = some .bool := by kernel_rfl
theorem uMap : Try.prog.underlying 129 = some (.map 3 4) := by kernel_rfl
theorem lawI : Keyed Try.prog 3 := int_keyed uInt

theorem distinct_any (b off len cap : Nat) (l : List Int) (w : World) (hz : len ≤ l.length) (hm : len ≤ 1000) (hb : b < w.heap.size)
    (hc : ∀ j, j < l.length → w.cell? ⟨b, off + j, none⟩ = some (.int .i64 (l.getD j 0))) (hw : ∀ n ∈ l, (Lit.int .i64 n).wf = true) :
    Calls Try.prog 67 #[.slice (some ⟨b, off, none⟩) len cap] w fun e w' => e = .returned (.int .i64 (Maps.size (SI l len))) ∧ Below w.heap.size w w' := by
  have hmm := @run_makeMap Try.prog
  have hkey : ∀ k, keyOf Try.prog 3 (.int .i64 (l.getD k 0)) = some (.int .i64 (l.getD k 0)) := fun k => by
    refine keyOf_int_mk uInt ?_
    by_cases hk : k < l.length
    · rw [List.getD, List.getElem?_eq_getElem hk]
      exact hw _ (List.getElem_mem hk)
    · rw [List.getD, List.getElem?_eq_none (by omega)]
      decide
  go_enter Try.func67, Try.ntmps67
  go_wp2
  go_loopw [9] (fun i wr => ∃ k : Nat, k ≤ len ∧ i = .int .i64 k ∧ wr.ownsMap Try.prog 3 (plainElem Try.prog 4) w.heap.size k (SI l k) ∧ Below w.heap.size w wr)
    (fun i _ => len - (intOf i).toNat)
  case atStart => exact ⟨0, Nat.zero_le _, rfl, by rw [SI_zero]; exact World.ownsMap_made _ _ _ _, (Below.refl _ _).alloc (Nat.le_refl _) _⟩
  case round =>
    obtain ⟨k, hk, rfl, hown, hnx⟩ := hrel
    have hcx : k < len → wr.cell? ⟨b, off + k, none⟩ = some (.int .i64 (l.getD k 0)) := fun _ => (hnx.cell (by exact hb)).trans (hc k (by omega))
    have hkey := hkey k
    go_wp2_with (first
      | (at_mapUpdate; refine wpList_mapUpdate_own _ rfl _ _ _ 129 rfl 3 4 lawI uMap (plainElem (H := Unit) Try.prog 4) w.heap.size k _ rfl hown (by unfold maxLen; omega) _ _ _ rfl rfl hkey _ [] (plainElem_bool uBool true) ?_; intro w1 hown1 hgrow1)
      | (at_len; refine wpList_len_own _ rfl _ 129 rfl 3 4 uMap _ w.heap.size k _ rfl hown ?_)
      | go_in)
    · have hlt : k < len := by assumption
      go_roundw
      case rel => exact ⟨k + 1, by omega, by go_num, (SI_succ l k (by omega)).symm ▸ hown1, hnx.grown hgrow1 hnx.size (fun j hj => by cases hj; exact Nat.le_refl _)⟩
      case measure => simp [intOf]; omega
    · have : k = len := by omega
      subst this
      go_ret
      exact ⟨rfl, hnx⟩

/-- a list of small numbers -/
def sDist : Am.FSpec
  | [.slw 0], [⟨_, .ints .i64 l⟩] => .node (decide (0 < l.length ∧ l.length ≤ 1000) && l.all fun n => decide (0 ≤ n) && decide (n ≤ 3)) (.leaf ⟨[.int .i64 (Am.dcount l)], []⟩) .bad
  | _, _ => .bad
theorem okDist {B : Nat → Option Obj} : Am.FnOk (E0 B) 67 sDist := by
  refine Am.fnOk_reads (fnAt_mk (fn := Try.f67) Try.func67 (by kernel_rfl) (by kernel_rfl)) fun vs bs out hsel => ?_
  unfold sDist at hsel
  split at hsel
  · rename_i o l
    rcases Am.T.node_sel hsel with ⟨hc, h2⟩ | ⟨_, h2⟩
    · simp only [Am.T.sel, Option.some.injEq] at h2
      subst h2
      rw [Bool.and_eq_true] at hc
      obtain ⟨h0, h1⟩ := of_decide_eq_true hc.1
      refine ⟨rfl, rfl, fun w cargs ps hcfg hv => ?_⟩
      simp only [Am.VL] at hv
      obtain ⟨v, r, rfl, hv0, rfl⟩ := hv
      simp only [Am.V] at hv0
      obtain ⟨p, hp, hle, a, rfl, ha⟩ := hv0
      have hb : Am.blkH [⟨o, .ints .i64 l⟩] 0 = some ⟨o, .ints .i64 l⟩ := rfl
      obtain ⟨q, hq, hs, hl, hcap, hmax⟩ := hcfg.sat.pos 0 _ hb
      rw [hp] at hq; cases hq
      have hs : p.stride = 1 := hs
      have hl : p.len = l.length := hl
      have hcells : ∀ j, j < l.length → w.cell? ⟨p.block, p.off + j, none⟩ = some (.int .i64 (l.getD j 0)) := fun j hj => by
        obtain ⟨c, h1, h2⟩ := hcfg.sat.cells 0 _ p hb hp j hj 0 (.int .i64 (l.getD j 0)) rfl
        simp only [Am.V] at h2
        subst h2
        simpa [Am.Pos.addr, hs] using h1
      have ha := ha (by omega)
      simp only [Am.Pos.addr, hs] at ha
      have hlt := Am.cell_lt (hcells 0 h0)
      rw [hl, ha]
      refine (distinct_any p.block p.off l.length _ l w (Nat.le_refl _) h1 hlt hcells fun n hn => ?_).mono fun e w' ⟨he, hw⟩ => ⟨_, he, ?_, hw⟩
      · have := List.all_eq_true.1 hc.2 n hn
        simp only [Bool.and_eq_true, decide_eq_true_eq] at this
        have e1 : IntKind.i64.min = -9223372036854775808 := rfl
        have e2 : IntKind.i64.max = 9223372036854775807 := rfl
        show (decide (IntKind.i64.min ≤ n) && decide (n ≤ IntKind.i64.max)) = true
        rw [e1, e2, Bool.and_eq_true]
        exact ⟨decide_eq_true (by omega), decide_eq_true (by omega)⟩
      · rw [SI_size]; simp [Am.oneOrTup, Am.V]
    · simp [Am.T.sel] at h2
  · simp [Am.T.sel] at hsel
end Go.Proofs.Ythfieonkfailkaa
