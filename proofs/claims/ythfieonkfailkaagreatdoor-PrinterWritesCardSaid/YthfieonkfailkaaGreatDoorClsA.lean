/-
  Texts put together: DistFn, ClsFn, RefInt.
-/
import Derived.WalkKit
import Derived.Maps.OwnSet
import Derived.Test.YthfieonkfailkaaGreatDoorNodBase
import Derived.Test.YthfieonkfailkaaGreatDoorDistPure
import Derived.Test.YthfieonkfailkaaGreatDoorPrsAsk
import Derived.Test.YthfieonkfailkaaGreatDoorPureA
import Derived.Shelf.Strconv.Itoa4
/-
  Clauses: how many different elements a list of numbers has: walked (a map that the call makes).
-/
namespace Go.Proofs.YthfieonkfailkaaGreatDoor
open Go.RowKit Go.Maps
set_option maxRecDepth 100000

def keysI (l : List Int) (k : Nat) : List Lit := (l.take k).map (Lit.int .i64)
def SI (l : List Int) (k : Nat) : DataW Unit := setOf (.lit (.bool true)) (keysI l k)
theorem keysI_succ (l : List Int) (k : Nat) (hk : k < l.length) : keysI l (k + 1) = keysI l k ++ [.int .i64 (l.getD k 0)] := by
  unfold keysI
  rw [List.take_add_one, List.map_append]
  simp [List.getD, List.getElem?_eq_getElem hk]
theorem SI_succ (l : List Int) (k : Nat) (hk : k < l.length) : SI l (k + 1) = (SI l k).put (.int .i64 (l.getD k 0)) (.lit (.bool true)) := by
  unfold SI
  rw [keysI_succ l k hk, setOf_snoc]
theorem SI_zero (l : List Int) : SI l 0 = .map [] := by simp [SI, keysI, setOf]
theorem SI_size (l : List Int) : Maps.size (SI l l.length) = Am.dcount l := by
  unfold SI keysI
  rw [List.take_length, size_setOf _ _ (fun x hx => by obtain ⟨_, _, rfl⟩ := List.mem_map.1 hx; trivial), Am.dcount_is]
theorem uInt : Tryz.prog.underlying 3 = some (.int .i64) := by kernel_rfl
theorem uBool : Tryz.prog.underlying 4 = some .bool := by kernel_rfl
theorem uMap : Tryz.prog.underlying 201 = some (.map 3 4) := by kernel_rfl
theorem lawI : Keyed Tryz.prog 3 := int_keyed uInt

theorem distinct_any (b off len cap : Nat) (l : List Int) (w : World) (hz : len ≤ l.length) (hm : len ≤ 1000) (hb : b < w.heap.size)
    (hc : ∀ j, j < l.length → w.cell? ⟨b, off + j, none⟩ = some (.int .i64 (l.getD j 0))) (hw : ∀ n ∈ l, (Lit.int .i64 n).wf = true) :
    Calls Tryz.prog 133 #[.slice (some ⟨b, off, none⟩) len cap] w fun e w' => e = .returned (.int .i64 (Maps.size (SI l len))) ∧ Below w.heap.size w w' := by
  have hmm := @run_makeMap Tryz.prog
  have hkey : ∀ k, keyOf Tryz.prog 3 (.int .i64 (l.getD k 0)) = some (.int .i64 (l.getD k 0)) := fun k => by
    refine keyOf_int_mk uInt ?_
    by_cases hk : k < l.length
    · rw [List.getD, List.getElem?_eq_getElem hk]
      exact hw _ (List.getElem_mem hk)
    · rw [List.getD, List.getElem?_eq_none (by omega)]
      decide
  go_enter Tryz.func133, Tryz.ntmps133
  go_wp2
  go_loopw [9] (fun i wr => ∃ k : Nat, k ≤ len ∧ i = .int .i64 k ∧ wr.ownsMap Tryz.prog 3 (plainElem Tryz.prog 4) w.heap.size k (SI l k) ∧ Below w.heap.size w wr)
    (fun i _ => len - (intOf i).toNat)
  case atStart => exact ⟨0, Nat.zero_le _, rfl, by rw [SI_zero]; exact World.ownsMap_made _ _ _ _, (Below.refl _ _).alloc (Nat.le_refl _) _⟩
  case round =>
    obtain ⟨k, hk, rfl, hown, hnx⟩ := hrel
    have hcx : k < len → wr.cell? ⟨b, off + k, none⟩ = some (.int .i64 (l.getD k 0)) := fun _ => (hnx.cell (by exact hb)).trans (hc k (by omega))
    have hkey := hkey k
    go_wp2_with (first
      | (at_mapUpdate; refine wpList_mapUpdate_own _ rfl _ _ _ 201 rfl 3 4 lawI uMap (plainElem (H := Unit) Tryz.prog 4) w.heap.size k _ rfl hown (by unfold maxLen; omega) _ _ _ rfl rfl hkey _ [] (plainElem_bool uBool true) ?_; intro w1 hown1 hgrow1)
      | (at_len; refine wpList_len_own _ rfl _ 201 rfl 3 4 uMap _ w.heap.size k _ rfl hown ?_)
      | go_in)
    · have hlt : k < len := by assumption
      go_roundw
      case rel => exact ⟨k + 1, by omega, by go_num, (SI_succ l k (by omega)).symm ▸ hown1, hnx.grown hgrow1 hnx.size (fun j hj => by cases hj; exact Nat.le_refl _)⟩
      case measure => simp [intOf]; omega
    · have : k = len := by omega
      subst this
      go_ret
      exact ⟨rfl, hnx⟩

/-- a list of small numbers -/
def sDist : Am.FSpec
  | [.slw 0], [⟨_, .ints .i64 l⟩] => .node (decide (0 < l.length ∧ l.length ≤ 1000) && l.all fun n => decide (0 ≤ n) && decide (n ≤ 3)) (.leaf ⟨[.int .i64 (Am.dcount l)], []⟩) .bad
  | _, _ => .bad
theorem okDist {B : Nat → Option Obj} : Am.FnOk (E0 B) 133 sDist := by
  refine Am.fnOk_reads (fnAt_mk (fn := Tryz.f133) Tryz.func133 (by kernel_rfl) (by kernel_rfl)) fun vs bs out hsel => ?_
  unfold sDist at hsel
  split at hsel
  · rename_i o l
    rcases Am.T.node_sel hsel with ⟨hc, h2⟩ | ⟨_, h2⟩
    · simp only [Am.T.sel, Option.some.injEq] at h2
      subst h2
      rw [Bool.and_eq_true] at hc
      obtain ⟨h0, h1⟩ := of_decide_eq_true hc.1
      refine ⟨rfl, rfl, fun w cargs ps hcfg hv => ?_⟩
      simp only [Am.VL] at hv
      obtain ⟨v, r, rfl, hv0, rfl⟩ := hv
      simp only [Am.V] at hv0
      obtain ⟨p, hp, hle, a, rfl, ha⟩ := hv0
      have hb : Am.blkH [⟨o, .ints .i64 l⟩] 0 = some ⟨o, .ints .i64 l⟩ := rfl
      obtain ⟨q, hq, hs, hl, hcap, hmax⟩ := hcfg.sat.pos 0 _ hb
      rw [hp] at hq; cases hq
      have hs : p.stride = 1 := hs
      have hl : p.len = l.length := hl
      have hcells : ∀ j, j < l.length → w.cell? ⟨p.block, p.off + j, none⟩ = some (.int .i64 (l.getD j 0)) := fun j hj => by
        obtain ⟨c, h1, h2⟩ := hcfg.sat.cells 0 _ p hb hp j hj 0 (.int .i64 (l.getD j 0)) rfl
        simp only [Am.V] at h2
        subst h2
        simpa [Am.Pos.addr, hs] using h1
      have ha := ha (by omega)
      simp only [Am.Pos.addr, hs] at ha
      have hlt := Am.cell_lt (hcells 0 h0)
      rw [hl, ha]
      refine (distinct_any p.block p.off l.length _ l w (Nat.le_refl _) h1 hlt hcells fun n hn => ?_).mono fun e w' ⟨he, hw⟩ => ⟨_, he, ?_, hw⟩
      · have := List.all_eq_true.1 hc.2 n hn
        simp only [Bool.and_eq_true, decide_eq_true_eq] at this
        have e1 : IntKind.i64.min = -9223372036854775808 := rfl
        have e2 : IntKind.i64.max = 9223372036854775807 := rfl
        show (decide (IntKind.i64.min ≤ n) && decide (n ≤ IntKind.i64.max)) = true
        rw [e1, e2, Bool.and_eq_true]
        exact ⟨decide_eq_true (by omega), decide_eq_true (by omega)⟩
      · rw [SI_size]; simp [Am.oneOrTup, Am.V]
    · simp [Am.T.sel] at h2
  · simp [Am.T.sel] at hsel
end Go.Proofs.YthfieonkfailkaaGreatDoor
/-
  Clauses and their reference, by contract (for seats without checks).
-/
namespace Go.Proofs.YthfieonkfailkaaGreatDoor.Ck
open Go.Am
set_option maxRecDepth 100000
variable {B : Nat → Option Obj}
/-! slices.ContainsFunc over sources -/
noncomputable def lib8 : Tb := (133, [], sDist) ::  lib5
theorem lib8_ok : TbOk B lib8 := lib5_ok.add okDist
def inb {α : Type} (i : Int) (n : Nat) (r : Option α) : Option α := bif decide (0 ≤ i ∧ i < (n : Int)) then (bif decide (i.toNat < n) then r else none) else none
theorem inb_is {α : Type} {i n : Nat} (h : i < n) (r : Option α) : inb (i : Int) n r = r := in_range h r
def outS (x : Int) : Bool := decide (x < 0) || decide (4 ≤ x)
def outS' (x : Int) (a b : Option (AExit × Out)) : Option (AExit × Out) := bif decide (x < 0) then a else bif (bif false then true else decide (4 ≤ x)) then a else b
theorem outS_is (x : Int) (a b : Option (AExit × Out)) : outS' x a b = bif outS x then a else b := by
  unfold outS' outS
  cases decide (x < 0) <;> cases decide (4 ≤ x) <;> rfl
noncomputable def bIx : Code := loopAt 2 (loopsOf (bodyC Tryz.f153))
def sgIx : LSig := { cs := [(0, 24), (1, 0), (7, 0)], mv := [(8, 0)], mo := [(4, 0)], take := [] }
theorem turnIx (L : List Int) (n i : Int) : (turn (E0 B) (Cx B lib8) noL 19 sgIx bIx [.slw 0, .fn 131 [] [], i64 n, i64 i] [⟨false, .ints .i64 L⟩]).sel =
    bif decide (i < n) then inb i L.length (outS' (L.getD i.toNat 0) (some (.ret, ⟨[i64 i], []⟩)) (some (.normal, ⟨[.slw 0, .fn 131 [] [], i64 n, i64 (w64 (i + 1))], [⟨false, .ints .i64 L⟩]⟩))) else some (.exit 0, ⟨[.any], []⟩) := by kernel_rfl
def okIx (f : Nat) (L : List Int) (n i : Int) : Bool := Nat.beq f 131 && decide (n = (L.length : Int) ∧ L.length ≤ 1000 ∧ i = 0)
def spIx : LSpec
  | [.slw 0, .fn f [] [], .int .i64 n, .int .i64 i], [⟨false, .ints .i64 L⟩] => .node (okIx f L n i) (.node (decide (firstL outS L < L.length)) (.leaf (.ret, ⟨[i64 (firstL outS L)], []⟩)) (.leaf (.exit 0, ⟨[.any], []⟩))) .bad
  | _, _ => .bad
theorem loopIx : LoopOk (E0 B) 19 sgIx bIx spIx := by
  refine loop_turns (C := Cx B lib8) (L := noL) (cxOk lib8_ok) (noL_ok _) fun vs bs e o h => ?_
  unfold spIx at h
  split at h
  · rename_i f n i L
    rcases T.node_sel h with ⟨hc, h2⟩ | ⟨_, h2⟩
    · unfold okIx at hc
      rw [Bool.and_eq_true] at hc
      have hf := Nat.eq_of_beq_eq_true hc.1
      obtain ⟨rfl, hl, rfl⟩ := of_decide_eq_true hc.2
      subst hf
      obtain ⟨m, hm⟩ := scan_turns (E := E0 B) (C := Cx B lib8) (L := noL) (n := 19) (sg := sgIx) (body := bIx) (st := fun i => [.slw 0, .fn 131 [] [], i64 L.length, i64 i]) (bs := [⟨false, .ints .i64 L⟩]) (len := L.length)
        (bad := fun j => outS (L.getD j default)) (ob := fun j => ⟨[i64 j], []⟩) (k := 0) (oe := ⟨[.any], []⟩) (fun i hi => by
          rw [turnIx, outS_is]
          by_cases h : i < L.length
          · rw [decide_eq_true h, decide_eq_true (show (i : Int) < (L.length : Int) by omega), cond_true, inb_is h, w64_rng (show Rng ((i : Int) + 1) by unfold Rng; omega)]; rfl
          · rw [decide_eq_false h, decide_eq_false (show ¬ (i : Int) < (L.length : Int) by omega)]; rfl) L.length 0 (by omega)
      refine ⟨m, hm.trans ?_⟩
      rw [firstB_list outS L L 0 rfl, Nat.zero_add, ← h2]
      rfl
    · simp [T.sel] at h2
  · simp [T.sel] at h
noncomputable def eIx : LEnt := { id := 2, n := 19, sg := sgIx, wr := writes bIx, s := spIx }
theorem tIx (L : List Int) : runL B lib8 [eIx] Tryz.f153 [.slw 0, .fn 131 [] []] [⟨false, .ints .i64 L⟩] =
    bif okIx 131 L L.length 0 then (bif decide (firstL outS L < L.length) then some ⟨[i64 (firstL outS L)], []⟩ else some ⟨[i64 (-1)], []⟩) else none := by kernel_rfl
def ixI (b : Bool) (n : Nat) : Int := bif b then (n : Int) else -1
def sIx : FSpec
  | [.slw 0, .fn f [] []], [⟨false, .ints .i64 L⟩] => .node (Nat.beq f 131 && decide (L.length ≤ 1000)) (.leaf ⟨[.int .i64 (ixI (decide (firstL outS L < L.length)) (firstL outS L))], []⟩) .bad
  | _, _ => .bad
theorem okIxF : FnOk (E0 B) 153 sIx := by
  refine fnL lib8_ok (ls := [eIx]) Tryz.func153 (by kernel_rfl) (by kernel_rfl) (fun x hx => ?_) fun vs bs r h => ?_
  · simp only [List.mem_singleton] at hx; subst hx
    exact ⟨bIx, by kernel_rfl, rfl, loopIx⟩
  unfold sIx at h
  split at h
  · rename_i f L
    rcases T.node_sel h with ⟨hc, h2⟩ | ⟨_, h2⟩
    · simp only [T.sel, Option.some.injEq] at h2; subst h2
      rw [Bool.and_eq_true] at hc
      have hf := Nat.eq_of_beq_eq_true hc.1
      subst hf
      refine (tIx L).trans ?_
      unfold okIx
      rw [decide_eq_true (show (L.length : Int) = (L.length : Int) ∧ L.length ≤ 1000 ∧ (0 : Int) = 0 from ⟨rfl, of_decide_eq_true hc.2, rfl⟩)]
      cases decide (firstL outS L < L.length) <;> rfl
    · simp [T.sel] at h2
  · simp [T.sel] at h
noncomputable def lib9 : Tb := (153, [], sIx) :: lib8
theorem lib9_ok : TbOk B lib9 := lib8_ok.add okIxF
def eqNoP (x y : Nod) : Bool := decide (x.kind = y.kind) && (decide (x.n = y.n) && (decide (x.a = y.a) && (decide (x.b = y.b) && true)))
def eqInt (x y : Int) : Bool := decide (x = y)
def sgEq : LSig := { cs := [(0, 29), (1, 29)], mv := [(5, 0)], mo := [(4, 0)], take := [] }
def sgSs : LSig := { cs := [(0, 24), (1, 24)], mv := [(5, 0)], mo := [(4, 0)], take := [] }
/-! Alike -/
noncomputable def bAk : Code := loopAt 4 (loopsOf (bodyC Tryz.f114))
theorem turnAk (L M : List Nod) (i : Int) : (turn (E0 B) (Cx B lib9) noL 32 sgEq bAk [.slw 0, .slw 1, i64 i] [⟨false, .nodes L⟩, ⟨false, .nodes M⟩]).sel =
    bif decide (i < (L.length : Int)) then inb i L.length (inb i M.length (bif !eqNoP (L.getD i.toNat default) (M.getD i.toNat default) then some (.ret, ⟨[.bool false], []⟩) else some (.normal, ⟨[.slw 0, .slw 1, i64 (w64 (i + 1))], [⟨false, .nodes L⟩, ⟨false, .nodes M⟩]⟩))) else some (.exit 0, ⟨[.any], []⟩) := by kernel_rfl
def spAk : LSpec
  | [.slw 0, .slw 1, .int .i64 i], [⟨false, .nodes L⟩, ⟨false, .nodes M⟩] => .node (decide (i = 0 ∧ L.length = M.length ∧ L.length ≤ 1000)) (.node (all2 eqNoP L M) (.leaf (.exit 0, ⟨[.any], []⟩)) (.leaf (.ret, ⟨[.bool false], []⟩))) .bad
  | _, _ => .bad
theorem loopAk : LoopOk (E0 B) 32 sgEq bAk spAk := by
  refine loop_turns (C := Cx B lib9) (L := noL) (cxOk lib9_ok) (noL_ok _) fun vs bs e o h => ?_
  unfold spAk at h
  split at h
  · rename_i i L M
    rcases T.node_sel h with ⟨hc, h2⟩ | ⟨_, h2⟩
    · obtain ⟨rfl, hlm, hl⟩ := of_decide_eq_true hc
      obtain ⟨m, hm⟩ := scan_turns (E := E0 B) (C := Cx B lib9) (L := noL) (n := 32) (sg := sgEq) (body := bAk) (st := fun i => [.slw 0, .slw 1, i64 i]) (bs := [⟨false, .nodes L⟩, ⟨false, .nodes M⟩]) (len := L.length)
        (bad := fun j => !eqNoP (L.getD j default) (M.getD j default)) (ob := fun _ => ⟨[.bool false], []⟩) (k := 0) (oe := ⟨[.any], []⟩) (fun i hi => by
          rw [turnAk]
          by_cases h : i < L.length
          · rw [decide_eq_true h, decide_eq_true (show (i : Int) < (L.length : Int) by omega), cond_true, inb_is h, inb_is (show i < M.length by omega), w64_rng (show Rng ((i : Int) + 1) by unfold Rng; omega)]; rfl
          · rw [decide_eq_false h, decide_eq_false (show ¬ (i : Int) < (L.length : Int) by omega)]; rfl) L.length 0 (by omega)
      refine ⟨m, hm.trans ?_⟩
      rw [first2 hlm, ← h2]
      simp only [T.sel]
      cases all2 eqNoP L M <;> rfl
    · simp [T.sel] at h2
  · simp [T.sel] at h
noncomputable def eAk : LEnt := { id := 4, n := 32, sg := sgEq, wr := writes bAk, s := spAk }
theorem tAk (L M : List Nod) : runL B lib9 [eAk] Tryz.f114 [.slw 0, .slw 1] [⟨false, .nodes L⟩, ⟨false, .nodes M⟩] =
    bif !decide ((L.length : Int) = (M.length : Int)) then rb false else bif decide ((0 : Int) = 0 ∧ L.length = M.length ∧ L.length ≤ 1000) then (bif all2 eqNoP L M then rb true else rb false) else none := by kernel_rfl
def sAk : FSpec
  | [.slw 0, .slw 1], [⟨false, .nodes L⟩, ⟨false, .nodes M⟩] => .node (decide (L.length ≤ 1000)) (.leaf ⟨[.bool (all2 eqNoP L M)], []⟩) .bad
  | _, _ => .bad
theorem okFAk : FnOk (E0 B) 114 sAk := by
  refine fnL lib9_ok (ls := [eAk]) Tryz.func114 (by kernel_rfl) (by kernel_rfl) (fun x hx => ?_) fun vs bs r h => ?_
  · simp only [List.mem_singleton] at hx; subst hx
    exact ⟨bAk, by kernel_rfl, rfl, loopAk⟩
  unfold sAk at h
  split at h
  · rename_i L M
    rcases T.node_sel h with ⟨hc, h2⟩ | ⟨_, h2⟩
    · simp only [T.sel, Option.some.injEq] at h2; subst h2
      refine (tAk L M).trans ?_
      by_cases hl : L.length = M.length
      · rw [decide_eq_true (show (L.length : Int) = (M.length : Int) by omega), decide_eq_true (show (0 : Int) = 0 ∧ L.length = M.length ∧ L.length ≤ 1000 from ⟨rfl, hl, of_decide_eq_true hc⟩)]
        cases all2 eqNoP L M <;> rfl
      · rw [decide_eq_false (show ¬ (L.length : Int) = (M.length : Int) by omega)]
        cases ha : all2 eqNoP L M with
        | false => rfl
        | true => exact (hl (all2_len ha)).elim
    · simp [T.sel] at h2
  · simp [T.sel] at h
/-! SameSources -/
noncomputable def bSs : Code := loopAt 4 (loopsOf (bodyC Tryz.f115))
theorem turnSs (L M : List Int) (i : Int) : (turn (E0 B) (Cx B lib9) noL 26 sgSs bSs [.slw 0, .slw 1, i64 i] [⟨false, .ints .i64 L⟩, ⟨false, .ints .i64 M⟩]).sel =
    bif decide (i < (L.length : Int)) then inb i L.length (inb i M.length (bif !eqInt (L.getD i.toNat 0) (M.getD i.toNat 0) then some (.ret, ⟨[.bool false], []⟩) else some (.normal, ⟨[.slw 0, .slw 1, i64 (w64 (i + 1))], [⟨false, .ints .i64 L⟩, ⟨false, .ints .i64 M⟩]⟩))) else some (.exit 0, ⟨[.any], []⟩) := by kernel_rfl
def spSs : LSpec
  | [.slw 0, .slw 1, .int .i64 i], [⟨false, .ints .i64 L⟩, ⟨false, .ints .i64 M⟩] => .node (decide (i = 0 ∧ L.length = M.length ∧ L.length ≤ 1000)) (.node (all2 eqInt L M) (.leaf (.exit 0, ⟨[.any], []⟩)) (.leaf (.ret, ⟨[.bool false], []⟩))) .bad
  | _, _ => .bad
theorem loopSs : LoopOk (E0 B) 26 sgSs bSs spSs := by
  refine loop_turns (C := Cx B lib9) (L := noL) (cxOk lib9_ok) (noL_ok _) fun vs bs e o h => ?_
  unfold spSs at h
  split at h
  · rename_i i L M
    rcases T.node_sel h with ⟨hc, h2⟩ | ⟨_, h2⟩
    · obtain ⟨rfl, hlm, hl⟩ := of_decide_eq_true hc
      obtain ⟨m, hm⟩ := scan_turns (E := E0 B) (C := Cx B lib9) (L := noL) (n := 26) (sg := sgSs) (body := bSs) (st := fun i => [.slw 0, .slw 1, i64 i]) (bs := [⟨false, .ints .i64 L⟩, ⟨false, .ints .i64 M⟩]) (len := L.length)
        (bad := fun j => !eqInt (L.getD j default) (M.getD j default)) (ob := fun _ => ⟨[.bool false], []⟩) (k := 0) (oe := ⟨[.any], []⟩) (fun i hi => by
          rw [turnSs]
          by_cases h : i < L.length
          · rw [decide_eq_true h, decide_eq_true (show (i : Int) < (L.length : Int) by omega), cond_true, inb_is h, inb_is (show i < M.length by omega), w64_rng (show Rng ((i : Int) + 1) by unfold Rng; omega)]; rfl
          · rw [decide_eq_false h, decide_eq_false (show ¬ (i : Int) < (L.length : Int) by omega)]; rfl) L.length 0 (by omega)
      refine ⟨m, hm.trans ?_⟩
      rw [first2 hlm, ← h2]
      simp only [T.sel]
      cases all2 eqInt L M <;> rfl
    · simp [T.sel] at h2
  · simp [T.sel] at h
noncomputable def eSs : LEnt := { id := 4, n := 26, sg := sgSs, wr := writes bSs, s := spSs }
theorem tSs (L M : List Int) : runL B lib9 [eSs] Tryz.f115 [.slw 0, .slw 1] [⟨false, .ints .i64 L⟩, ⟨false, .ints .i64 M⟩] =
    bif !decide ((L.length : Int) = (M.length : Int)) then rb false else bif decide ((0 : Int) = 0 ∧ L.length = M.length ∧ L.length ≤ 1000) then (bif all2 eqInt L M then rb true else rb false) else none := by kernel_rfl
def sSs : FSpec
  | [.slw 0, .slw 1], [⟨false, .ints .i64 L⟩, ⟨false, .ints .i64 M⟩] => .node (decide (L.length ≤ 1000)) (.leaf ⟨[.bool (all2 eqInt L M)], []⟩) .bad
  | _, _ => .bad
theorem okFSs : FnOk (E0 B) 115 sSs := by
  refine fnL lib9_ok (ls := [eSs]) Tryz.func115 (by kernel_rfl) (by kernel_rfl) (fun x hx => ?_) fun vs bs r h => ?_
  · simp only [List.mem_singleton] at hx; subst hx
    exact ⟨bSs, by kernel_rfl, rfl, loopSs⟩
  unfold sSs at h
  split at h
  · rename_i L M
    rcases T.node_sel h with ⟨hc, h2⟩ | ⟨_, h2⟩
    · simp only [T.sel, Option.some.injEq] at h2; subst h2
      refine (tSs L M).trans ?_
      by_cases hl : L.length = M.length
      · rw [decide_eq_true (show (L.length : Int) = (M.length : Int) by omega), decide_eq_true (show (0 : Int) = 0 ∧ L.length = M.length ∧ L.length ≤ 1000 from ⟨rfl, hl, of_decide_eq_true hc⟩)]
        cases all2 eqInt L M <;> rfl
      · rw [decide_eq_false (show ¬ (L.length : Int) = (M.length : Int) by omega)]
        cases ha : all2 eqInt L M with
        | false => rfl
        | true => exact (hl (all2_len ha)).elim
    · simp [T.sel] at h2
  · simp [T.sel] at h
noncomputable def lib13 : Tb := (24, [], sEqN) :: (114, [], sAk) :: (115, [], sSs) :: lib9
theorem lib13_ok : TbOk B lib13 := lib9_ok.add okFSs |>.add okFAk |>.add okFEq
theorem fnOk_or {E : Env} {f : FuncId} {s1 s2 s : FSpec} (h1 : FnOk E f s1) (h2 : FnOk E f s2) (h : ∀ vs bs r, (s vs bs).sel = some r → (s1 vs bs).sel = some r ∨ (s2 vs bs).sel = some r) : FnOk E f s :=
  ⟨h1.1, fun vs bs out hs => (h vs bs out hs).elim (h1.2 vs bs out) (h2.2 vs bs out)⟩
def ib (L : List Int) : Blk := ⟨false, .ints .i64 L⟩
def srcK (L : List Int) : Option Out := bif Nat.beq 131 131 && decide (L.length ≤ 1000) then (bif decide (0 ≤ ixI (decide (firstL outS L < L.length)) (firstL outS L)) then ri 8 else
  (bif decide (0 < L.length ∧ L.length ≤ 1000) && L.all (fun n => decide (0 ≤ n) && decide (n ≤ 3)) then (bif decide ((dcount L : Int) < (L.length : Int)) then ri 43 else ri 0) else none)) else none
theorem tSrc (L : List Int) (j : Bool) : runT B lib13 Tryz.f100 [.slw 0, .bool j] [ib L] =
    bif decide ((4 : Int) < (L.length : Int)) then ri 4 else bif decide ((L.length : Int) = 0) then ri 8 else bif j then (bif !decide ((L.length : Int) = 2) then ri 8 else srcK L) else srcK L := by kernel_rfl
theorem out_any (L : List Int) : L.any outS = !L.all inR := by
  induction L with
  | nil => rfl
  | cons x l ih =>
    rw [List.any_cons, List.all_cons, ih, Bool.not_and]
    congr 1
    unfold outS inR
    by_cases h1 : x < 0 <;> by_cases h2 : 4 ≤ x <;> simp [h1, h2] <;> omega
theorem srcK_is {L : List Int} (h0 : 0 < L.length) (h1 : L.length ≤ 1000) : srcK L = ri (bif !L.all inR then 8 else bif dups L then 43 else 0) := by
  unfold srcK
  rw [Nat.beq_refl, decide_eq_true h1, firstL_any, out_any, decide_eq_true (show 0 < L.length ∧ L.length ≤ 1000 from ⟨h0, h1⟩), show decide ((dcount L : Int) < (L.length : Int)) = decide (dcount L < L.length) from by
    by_cases h : dcount L < L.length
    · rw [decide_eq_true h, decide_eq_true (by omega)]
    · rw [decide_eq_false h, decide_eq_false (by omega)], dcount_lt]
  have e : (L.all fun n => decide (0 ≤ n) && decide (n ≤ 3)) = L.all inR := rfl
  rw [e]
  cases L.all inR with
  | false => rfl
  | true => cases dups L <;> rfl
theorem src_is (L : List Int) (j : Bool) : (bif decide ((4 : Int) < (L.length : Int)) then ri 4 else bif decide ((L.length : Int) = 0) then ri 8 else bif j then (bif !decide ((L.length : Int) = 2) then ri 8 else srcK L) else srcK L) = ri (srcE L j) := by
  unfold srcE
  by_cases h4 : 4 < L.length
  · rw [decide_eq_true h4, decide_eq_true (show (4 : Int) < (L.length : Int) by omega)]; rfl
  · rw [decide_eq_false h4, decide_eq_false (show ¬ (4 : Int) < (L.length : Int) by omega)]
    by_cases h0 : L.length = 0
    · rw [decide_eq_true h0, decide_eq_true (show (L.length : Int) = 0 by omega)]; rfl
    · rw [decide_eq_false h0, decide_eq_false (show ¬ (L.length : Int) = 0 by omega), srcK_is (by omega) (by omega)]
      by_cases h2 : L.length = 2
      · rw [decide_eq_true h2, decide_eq_true (show (L.length : Int) = 2 by omega)]; cases j <;> rfl
      · rw [decide_eq_false h2, decide_eq_false (show ¬ (L.length : Int) = 2 by omega)]; cases j <;> rfl
def sSrcs : FSpec
  | [.slw 0, .bool j], [⟨false, .ints .i64 L⟩] => .leaf ⟨[.int .i64 (srcE L j)], []⟩
  | _, _ => .bad
theorem okSrcs : FnOk (E0 B) 100 sSrcs := by
  refine fnT lib13_ok Tryz.func100 (by kernel_rfl) (by kernel_rfl) fun vs bs r h => ?_
  unfold sSrcs at h
  split at h
  · simp only [T.sel, Option.some.injEq] at h; subst h
    exact (tSrc _ _).trans (src_is _ _)
  · simp [T.sel] at h
/-! the reference's -/
def inCh : List Int → Option Out → Option Out
  | [], k => k
  | x :: r, k => bif decide (x < 0) then ri 8 else bif decide (3 < x) then ri 8 else inCh r k
def eqCh (x : Int) : List Int → Option Out → Option Out
  | [], k => k
  | y :: r, k => bif decide (y = x) then ri 43 else eqCh x r k
def dupCh (p : List Int) : List Int → Option Out
  | [] => ri 0
  | x :: r => eqCh x p (dupCh (p ++ [x]) r)
def coreR (L : List Int) : Option Out := inCh L (dupCh [] L)
theorem tR (L : List Int) (j : Bool) : runL B lib13 [] Tryz.f105 [.slw 0, .bool j] [ib L] =
    bif decide ((4 : Int) < (L.length : Int)) then ri 4 else bif decide ((L.length : Int) = 0) then ri 8 else bif j then (bif !decide ((L.length : Int) = 2) then ri 8 else none) else none := by kernel_rfl
theorem tR1 (a : Int) (j : Bool) : runT B lib13 Tryz.f105 [.slw 0, .bool j] [ib [a]] = bif j then ri 8 else coreR [a] := by kernel_rfl
theorem tR2 (a b : Int) (j : Bool) : runT B lib13 Tryz.f105 [.slw 0, .bool j] [ib [a, b]] = bif j then coreR [a, b] else coreR [a, b] := by kernel_rfl
theorem tR3 (a b c : Int) (j : Bool) : runT B lib13 Tryz.f105 [.slw 0, .bool j] [ib [a, b, c]] = bif j then ri 8 else coreR [a, b, c] := by kernel_rfl
theorem tR4 (a b c d : Int) (j : Bool) : runT B lib13 Tryz.f105 [.slw 0, .bool j] [ib [a, b, c, d]] = bif j then ri 8 else coreR [a, b, c, d] := by kernel_rfl
theorem inCh_is (k : Option Out) : ∀ L : List Int, inCh L k = bif !L.all inR then ri 8 else k
  | [] => rfl
  | x :: r => by
    unfold inCh
    rw [inCh_is k r, List.all_cons, inR]
    by_cases h1 : x < 0
    · rw [decide_eq_true h1, decide_eq_false (show ¬ 0 ≤ x by omega)]; rfl
    · rw [decide_eq_false h1, decide_eq_true (show 0 ≤ x by omega)]
      by_cases h2 : 3 < x
      · rw [decide_eq_true h2, decide_eq_false (show ¬ x ≤ 3 by omega)]; rfl
      · rw [decide_eq_false h2, decide_eq_true (show x ≤ 3 by omega)]; rfl
theorem eqCh_is (x : Int) (k : Option Out) : ∀ L : List Int, eqCh x L k = bif L.contains x then ri 43 else k
  | [] => rfl
  | y :: r => by
    unfold eqCh
    rw [eqCh_is x k r, List.contains_cons]
    by_cases h : y = x
    · rw [decide_eq_true h, h]; simp
    · rw [decide_eq_false h]
      have : (x == y) = false := by simpa using fun e => h e.symm
      rw [this]; rfl
theorem dupCh_is : ∀ (L p : List Int), dupCh p L = bif clash p L then ri 43 else ri 0
  | [], p => rfl
  | x :: r, p => by
    unfold dupCh clash
    rw [eqCh_is, dupCh_is r]
    cases p.contains x <;> rfl
theorem coreR_is (L : List Int) : coreR L = ri (bif !L.all inR then 8 else bif dups L then 43 else 0) := by
  unfold coreR
  rw [inCh_is, dupCh_is, clash_perm]
  have : (L.any fun x => ([] : List Int).contains x) = false := by rw [List.any_eq_false]; intro x _; simp
  rw [this, Bool.false_or]
  cases L.all inR <;> cases dups L <;> rfl
theorem coreR_e {L : List Int} {j : Bool} (h4 : ¬ 4 < L.length) (h0 : ¬ L.length = 0) (h : (j && !decide (L.length = 2)) = false) : coreR L = ri (srcE L j) := by
  rw [coreR_is]
  unfold srcE
  rw [decide_eq_false h4, decide_eq_false h0, h]; rfl
theorem okSrcsR : FnOk (E0 B) 105 sSrcs := by
  refine fnOk_or (s1 := fun vs bs => match vs, bs with
      | [.slw 0, .bool j], [⟨false, .ints .i64 L⟩] => .node (decide (4 < L.length ∨ L.length = 0 ∨ (j = true ∧ L.length ≠ 2))) (.leaf ⟨[.int .i64 (srcE L j)], []⟩) .bad
      | _, _ => .bad)
    (s2 := fun vs bs => match vs, bs with
      | [.slw 0, .bool j], [⟨false, .ints .i64 L⟩] => .node (decide (¬ (4 < L.length ∨ L.length = 0 ∨ (j = true ∧ L.length ≠ 2)))) (.leaf ⟨[.int .i64 (srcE L j)], []⟩) .bad
      | _, _ => .bad) ?_ ?_ ?_
  · refine fnL lib13_ok (ls := []) Tryz.func105 (by kernel_rfl) (by kernel_rfl) (fun x hx => by cases hx) fun vs bs r h => ?_
    split at h
    · rename_i j L
      rcases T.node_sel h with ⟨hc, h2⟩ | ⟨_, h2⟩
      · simp only [T.sel, Option.some.injEq] at h2; subst h2
        have hc := of_decide_eq_true hc
        refine (tR L j).trans ?_
        rw [show (some ⟨[.int .i64 (srcE L j)], []⟩ : Option Out) = ri (srcE L j) from rfl, ← src_is]
        by_cases h4 : 4 < L.length
        · rw [decide_eq_true (show (4 : Int) < (L.length : Int) by omega)]; rfl
        · rw [decide_eq_false (show ¬ (4 : Int) < (L.length : Int) by omega)]
          by_cases h0 : L.length = 0
          · rw [decide_eq_true (show (L.length : Int) = 0 by omega)]; rfl
          · obtain ⟨hj, h2⟩ := (hc.resolve_left h4).resolve_left h0
            rw [decide_eq_false (show ¬ (L.length : Int) = 0 by omega), hj, decide_eq_false (show ¬ (L.length : Int) = 2 by omega)]; rfl
      · simp [T.sel] at h2
    · simp [T.sel] at h
  · refine fnT lib13_ok Tryz.func105 (by kernel_rfl) (by kernel_rfl) fun vs bs r h => ?_
    split at h
    · rename_i j L
      rcases T.node_sel h with ⟨hc, h2⟩ | ⟨_, h2⟩
      · simp only [T.sel, Option.some.injEq] at h2; subst h2
        have hc := of_decide_eq_true hc
        match L, hc with
        | [], hc => exact (hc (.inr (.inl rfl))).elim
        | [a], hc =>
          cases j with
          | true => exact (hc (.inr (.inr ⟨rfl, by simp⟩))).elim
          | false => exact (tR1 a false).trans (coreR_e (by simp) (by simp) rfl)
        | [a, b], hc =>
          cases j with
          | true => exact (tR2 a b true).trans (coreR_e (by simp) (by simp) rfl)
          | false => exact (tR2 a b false).trans (coreR_e (by simp) (by simp) rfl)
        | [a, b, c], hc =>
          cases j with
          | true => exact (hc (.inr (.inr ⟨rfl, by simp⟩))).elim
          | false => exact (tR3 a b c false).trans (coreR_e (by simp) (by simp) rfl)
        | [a, b, c, d], hc =>
          cases j with
          | true => exact (hc (.inr (.inr ⟨rfl, by simp⟩))).elim
          | false => exact (tR4 a b c d false).trans (coreR_e (by simp) (by simp) rfl)
        | a :: b :: c :: d :: e :: r, hc => exact (hc (.inl (by simp))).elim
      · simp [T.sel] at h2
    · simp [T.sel] at h
  · intro vs bs r h
    unfold sSrcs at h
    split at h
    · rename_i j L
      simp only [T.sel, Option.some.injEq] at h
      subst h
      by_cases hc : 4 < L.length ∨ L.length = 0 ∨ (j = true ∧ L.length ≠ 2)
      · left; simp only [T.sel, decide_eq_true hc, cond_true]
      · right; simp only [T.sel, decide_eq_true hc, cond_true]
    · simp [T.sel] at h
/-! windows -/
def winT (k s e : Int) (y n : Option Out) : Option Out := bif decide (s < 1) then n else bif decide (1073741824 < s) then n else bif decide (k = 2) then (bif decide (1 ≤ e) then (bif decide (e ≤ s) then (bif decide (s ≤ w64 (16 * e)) then y else n) else n) else n) else
  bif decide (k = 1) then (bif decide (e = 0) then y else n) else bif decide (k = 3) then (bif decide (e = 0) then y else n) else n
theorem tWin (k s e : Int) : runT B lib13 Tryz.f101 [.agg [.int .u8 k, .int .i64 s, .int .i64 e]] [] = winT k s e (ri 0) (ri 8) := by kernel_rfl
theorem tFit (k s e : Int) : runT B lib13 Tryz.f106 [.agg [.int .u8 k, .int .i64 s, .int .i64 e]] [] =
    bif decide (s < 1) then rb false else bif decide (1073741824 < s) then rb false else bif decide (k = 2) then (bif decide (1 ≤ e) then (bif decide (e ≤ s) then rb (decide (s ≤ w64 (16 * e))) else rb false) else rb false) else bif decide (k = 1) then rb (decide (e = 0)) else bif decide (k = 3) then rb (decide (e = 0)) else rb false := by kernel_rfl
theorem winT_is (k s e : Int) (y n : Option Out) : winT k s e y n = bif fitsW k s e then y else n := by
  unfold winT fitsW
  by_cases h1 : s < 1
  · rw [decide_eq_true h1, decide_eq_false (show ¬ 1 ≤ s by omega)]; rfl
  rw [decide_eq_false h1, decide_eq_true (show 1 ≤ s by omega)]
  by_cases h2 : 1073741824 < s
  · rw [decide_eq_true h2, decide_eq_false (show ¬ s ≤ 1073741824 by omega)]; rfl
  rw [decide_eq_false h2, decide_eq_true (show s ≤ 1073741824 by omega)]
  cases decide (k = 2) with
  | true =>
    by_cases h3 : 1 ≤ e
    · rw [decide_eq_true h3]
      by_cases h4 : e ≤ s
      · rw [decide_eq_true h4, w64_rng (show Rng (16 * e) by unfold Rng; omega)]; rfl
      · rw [decide_eq_false h4]; rfl
    · rw [decide_eq_false h3]; rfl
  | false => cases decide (k = 1) <;> cases decide (k = 3) <;> cases decide (e = 0) <;> rfl
def sWin : FSpec
  | [.agg [.int .u8 k, .int .i64 s, .int .i64 e]], [] => .leaf ⟨[.int .i64 (bif fitsW k s e then 0 else 8)], []⟩
  | _, _ => .bad
theorem okWin : FnOk (E0 B) 101 sWin := by
  refine fnT lib13_ok Tryz.func101 (by kernel_rfl) (by kernel_rfl) fun vs bs r h => ?_
  unfold sWin at h
  split at h
  · rename_i k s e
    simp only [T.sel, Option.some.injEq] at h; subst h
    refine (tWin k s e).trans ?_
    rw [winT_is]
    cases fitsW k s e <;> rfl
  · simp [T.sel] at h
def sFit : FSpec
  | [.agg [.int .u8 k, .int .i64 s, .int .i64 e]], [] => .leaf ⟨[.bool (fitsW k s e)], []⟩
  | _, _ => .bad
theorem okFit : FnOk (E0 B) 106 sFit := by
  refine fnT lib13_ok Tryz.func106 (by kernel_rfl) (by kernel_rfl) fun vs bs r h => ?_
  unfold sFit at h
  split at h
  · rename_i k s e
    simp only [T.sel, Option.some.injEq] at h; subst h
    refine (tFit k s e).trans ?_
    have : ∀ b : Bool, rb b = bif b then rb true else rb false := fun b => by cases b <;> rfl
    rw [this (decide (s ≤ w64 (16 * e))), this (decide (e = 0))]
    refine (winT_is k s e (rb true) (rb false)).trans ?_
    cases fitsW k s e <;> rfl
  · simp [T.sel] at h
noncomputable def lib14 : Tb := (100, [], sSrcs) :: (105, [], sSrcs) :: (101, [], sWin) :: (106, [], sFit) :: lib13
theorem lib14_ok : TbOk B lib14 := lib13_ok.add okFit |>.add okWin |>.add okSrcsR |>.add okSrcs
def qbs (q : Qry) : List Blk := [⟨false, .nodes q.arg⟩, ⟨false, .ints .i64 q.src⟩, ⟨false, .nodes q.whr⟩]
def kW (q : Qry) : Option Out := bif q.join then (bif !decide (q.wk = 1) then ri 8 else ri (bif fitsW q.wk q.ws q.we then 0 else 8)) else ri (bif fitsW q.wk q.ws q.we then 0 else 8)
def kS (q : Qry) (k : Option Out) : Option Out := bif !decide (srcE q.src q.join = 0) then ri (srcE q.src q.join) else k
def kV (q : Qry) (k : Option Out) : Option Out := bif decide ((0 : Int) < (q.whr.length : Int)) then (bif !decide (chkN q.whr = 0) then ri (chkN q.whr) else kS q k) else kS q k
def kA (q : Qry) : Option Out := bif !decide (q.agg = 1) then (bif !decide (chkN q.arg = 0) then ri (chkN q.arg) else kV q (kW q)) else (bif decide ((0 : Int) < (q.arg.length : Int)) then ri 8 else kV q (kW q))
theorem tClk (q : Qry) : runT B lib14 Tryz.f63 [q.av 0 1 2] (qbs q) =
    bif decide (q.agg < 1) then ri 8 else bif decide (4 < q.agg) then ri 8 else bif !decide (q.late = 1) then (bif !decide (q.late = 2) then ri 8 else kA q) else kA q := by kernel_rfl
def kF (q : Qry) : Option Out := bif !fitsW q.wk q.ws q.we then ri 8 else bif q.join then (bif !decide (q.wk = 1) then ri 8 else ri 0) else ri 0
def kA0 (q : Qry) : Option Out := bif !decide (q.agg = 1) then (bif !decide (chkN q.arg = 0) then ri (chkN q.arg) else kV q (kF q)) else kV q (kF q)
theorem tClkR (q : Qry) : runT B lib14 Tryz.f67 [q.av 0 1 2] (qbs q) =
    bif decide (q.agg < 1) then ri 8 else bif decide (4 < q.agg) then ri 8 else bif decide (q.late < 1) then ri 8 else bif decide (2 < q.late) then ri 8 else bif decide (q.agg = 1) then (bif decide ((0 : Int) < (q.arg.length : Int)) then ri 8 else kA0 q) else kA0 q := by kernel_rfl
theorem pos_cast (n : Nat) : decide ((0 : Int) < (n : Int)) = decide (0 < n) := by
  by_cases h : 0 < n
  · rw [decide_eq_true h, decide_eq_true (by omega)]
  · rw [decide_eq_false h, decide_eq_false (by omega)]
theorem kF_is (q : Qry) : kF q = ri (bif !fitsW q.wk q.ws q.we || (q.join && !decide (q.wk = 1)) then 8 else 0) := by
  unfold kF
  cases fitsW q.wk q.ws q.we <;> cases q.join <;> cases decide (q.wk = 1) <;> rfl
theorem kW_is (q : Qry) : kW q = ri (bif !fitsW q.wk q.ws q.we || (q.join && !decide (q.wk = 1)) then 8 else 0) := by
  unfold kW
  cases fitsW q.wk q.ws q.we <;> cases q.join <;> cases decide (q.wk = 1) <;> rfl
theorem kV_is (q : Qry) (n : Int) : kV q (ri n) = ri (bif decide (0 < q.whr.length) && !decide (chkN q.whr = 0) then chkN q.whr else bif !decide (srcE q.src q.join = 0) then srcE q.src q.join else n) := by
  unfold kV kS
  rw [pos_cast]
  cases decide (0 < q.whr.length) <;> cases decide (chkN q.whr = 0) <;> cases decide (srcE q.src q.join = 0) <;> rfl
theorem clk_is (q : Qry) : runT B lib14 Tryz.f63 [q.av 0 1 2] (qbs q) = ri (clkE q) := by
  refine (tClk q).trans ?_
  unfold kA clkE
  rw [kW_is, kV_is, pos_cast]
  cases decide (q.agg < 1) <;> cases decide (4 < q.agg) <;> cases decide (q.late = 1) <;> cases decide (q.late = 2) <;> cases decide (q.agg = 1) <;> cases decide (chkN q.arg = 0) <;> cases decide (0 < q.arg.length) <;> rfl
theorem clkR_is (q : Qry) : runT B lib14 Tryz.f67 [q.av 0 1 2] (qbs q) = ri (clkE q) := by
  refine (tClkR q).trans ?_
  unfold kA0 clkE
  rw [kF_is, kV_is, pos_cast]
  have hl : (!decide (q.late = 1) && !decide (q.late = 2)) = (decide (q.late < 1) || decide (2 < q.late)) := by
    by_cases h1 : q.late < 1
    · rw [decide_eq_true h1, decide_eq_false (show ¬ q.late = 1 by omega), decide_eq_false (show ¬ q.late = 2 by omega)]; rfl
    · by_cases h2 : 2 < q.late
      · rw [decide_eq_true h2, decide_eq_false (show ¬ q.late = 1 by omega), decide_eq_false (show ¬ q.late = 2 by omega), Bool.or_true]; rfl
      · rw [decide_eq_false h1, decide_eq_false h2]
        by_cases h3 : q.late = 1
        · rw [decide_eq_true h3]; rfl
        · rw [decide_eq_false h3, decide_eq_true (show q.late = 2 by omega)]; rfl
  rw [hl]
  cases decide (q.agg < 1) <;> cases decide (4 < q.agg) <;> cases decide (q.late < 1) <;> cases decide (2 < q.late) <;> cases decide (q.agg = 1) <;> cases decide (chkN q.arg = 0) <;> cases decide (0 < q.arg.length) <;> rfl
def sClk : FSpec
  | [.agg [.int .u8 ag, .slw 0, .slw 1, .bool j, .slw 2, .int .u8 wk, .int .i64 ws, .int .i64 we, .bool bk, .int .u8 lt]], [⟨false, .nodes A⟩, ⟨false, .ints .i64 S⟩, ⟨false, .nodes W⟩] => .leaf ⟨[.int .i64 (clkE ⟨ag, A, S, j, W, wk, ws, we, bk, lt⟩)], []⟩
  | _, _ => .bad
theorem okClk : FnOk (E0 B) 63 sClk := by
  refine fnT lib14_ok Tryz.func63 (by kernel_rfl) (by kernel_rfl) fun vs bs r h => ?_
  unfold sClk at h
  split at h
  · rename_i ag j wk ws we bk lt A S W
    simp only [T.sel, Option.some.injEq] at h; subst h
    exact clk_is ⟨ag, A, S, j, W, wk, ws, we, bk, lt⟩
  · simp [T.sel] at h
theorem okClkR : FnOk (E0 B) 67 sClk := by
  refine fnT lib14_ok Tryz.func67 (by kernel_rfl) (by kernel_rfl) fun vs bs r h => ?_
  unfold sClk at h
  split at h
  · rename_i ag j wk ws we bk lt A S W
    simp only [T.sel, Option.some.injEq] at h; subst h
    exact clkR_is ⟨ag, A, S, j, W, wk, ws, we, bk, lt⟩
  · simp [T.sel] at h
noncomputable def lib15 : Tb := (63, [], sClk) :: (67, [], sClk) :: lib14
theorem lib15_ok : TbOk B lib15 := lib14_ok.add okClkR |>.add okClk
end Go.Proofs.YthfieonkfailkaaGreatDoor.Ck
/-
  The reference's Text of a number, by contract.
-/
namespace Go.Proofs.YthfieonkfailkaaGreatDoor.R1
open Go.Am Go.Shelf
set_option maxRecDepth 100000
variable {B : Nat → Option Obj}
def fails (p : Bool) : Bool := bif p then false else true
/-! the reference's Text: by how many digits there are -/
def sText (k : Nat) : FSpec
  | [.int .i64 n], [] => .node (decide (Rng n ∧ n.natAbs < 10 ^ k)) (.leaf ⟨[.str (Lib.itoa n)], []⟩) .bad
  | _, _ => .bad
def sText0 : FSpec
  | [.int .i64 n], [] => .node (decide (Rng n)) (.leaf ⟨[.str (Lib.itoa n)], []⟩) .bad
  | _, _ => .bad
def rs (s : List UInt8) : Option Out := some ⟨[.str s], []⟩
def lastD (n : Int) : List UInt8 := bif decide (n.tmod 10 < 0) then byteList [IntKind.u8.wrap (w64 (48 + w64 (0 - n.tmod 10)))] else byteList [IntKind.u8.wrap (w64 (48 + n.tmod 10))]
theorem tText (k : Nat) (n : Int) : (fnRun (E0 B) (specC (E0 B) (tab [(99, [], sText k)])) noL Tryz.f99 (bodyC Tryz.f99) [.int .i64 n] []).sel =
    bif decide (n.tmod 10 < 0) then (bif fails (decide (w64 (n.tdiv 10) = 0)) then (bif decide (Rng (w64 (n.tdiv 10)) ∧ (w64 (n.tdiv 10)).natAbs < 10 ^ k) then (bif decide ((Lib.itoa (w64 (n.tdiv 10))).length + 1 ≤ lim) then rs (Lib.itoa (w64 (n.tdiv 10)) ++ byteList [IntKind.u8.wrap (w64 (48 + w64 (0 - n.tmod 10)))]) else none) else none)
      else bif decide (n < 0) then rs ([45] ++ byteList [IntKind.u8.wrap (w64 (48 + w64 (0 - n.tmod 10)))]) else rs (byteList [IntKind.u8.wrap (w64 (48 + w64 (0 - n.tmod 10)))]))
    else (bif fails (decide (w64 (n.tdiv 10) = 0)) then (bif decide (Rng (w64 (n.tdiv 10)) ∧ (w64 (n.tdiv 10)).natAbs < 10 ^ k) then (bif decide ((Lib.itoa (w64 (n.tdiv 10))).length + 1 ≤ lim) then rs (Lib.itoa (w64 (n.tdiv 10)) ++ byteList [IntKind.u8.wrap (w64 (48 + n.tmod 10))]) else none) else none)
      else bif decide (n < 0) then rs ([45] ++ byteList [IntKind.u8.wrap (w64 (48 + n.tmod 10))]) else rs (byteList [IntKind.u8.wrap (w64 (48 + n.tmod 10))])) := by kernel_rfl

theorem itoa_step {n : Int} (h : Rng n) :
    (n.tmod 10 < 0 → byteList [IntKind.u8.wrap (w64 (48 + w64 (0 - n.tmod 10)))] = [UInt8.ofNat (48 + n.natAbs % 10)]) ∧ (¬ n.tmod 10 < 0 → byteList [IntKind.u8.wrap (w64 (48 + n.tmod 10))] = [UInt8.ofNat (48 + n.natAbs % 10)]) ∧
    w64 (n.tdiv 10) = n.tdiv 10 ∧ (n.tdiv 10).natAbs = n.natAbs / 10 ∧ (n.tdiv 10 ≠ 0 → (n.tdiv 10 < 0 ↔ n < 0)) := by
  unfold Rng at h
  have key : ∀ m : Int, 0 ≤ m → m ≤ 9 → byteList [IntKind.u8.wrap (w64 (48 + m))] = [UInt8.ofNat (48 + m.toNat)] := by
    intro m h0 h1
    rw [w64_rng (by unfold Rng; omega)]
    have e : IntKind.u8.wrap (48 + m) = 48 + m := by simp [IntKind.wrap, IntKind.bits, IntKind.signed]; omega
    rw [e]
    simp only [byteList, List.map_cons, List.map_nil]
    congr 2; omega
  rcases Int.lt_or_le n 0 with h0 | h0
  · obtain ⟨m, rfl⟩ : ∃ m : Int, n = -m := ⟨-n, by omega⟩
    rw [Int.neg_tmod, Int.neg_tdiv, Int.tmod_eq_emod_of_nonneg (by omega), Int.tdiv_eq_ediv_of_nonneg (by omega)]
    refine ⟨fun _ => ?_, fun hn => ?_, w64_rng (by unfold Rng; omega), by omega, by omega⟩
    · rw [show (0 : Int) - -(m % 10) = m % 10 from by omega, show w64 (m % 10) = m % 10 from w64_rng (by unfold Rng; omega), key _ (by omega) (by omega)]
      congr 2; omega
    · rw [show -(m % 10) = 0 from by omega, key _ (by omega) (by omega)]
      congr 2; omega
  · rw [Int.tmod_eq_emod_of_nonneg h0, Int.tdiv_eq_ediv_of_nonneg h0]
    refine ⟨fun hn => by omega, fun _ => ?_, w64_rng (by unfold Rng; omega), by omega, by omega⟩
    rw [key _ (by omega) (by omega)]
    congr 2; omega
theorem itoa_big {n : Int} (h : ¬ n.natAbs < 10) (hd : (n.tdiv 10).natAbs = n.natAbs / 10) (hs : n.tdiv 10 < 0 ↔ n < 0) : Lib.itoa n = Lib.itoa (n.tdiv 10) ++ [UInt8.ofNat (48 + n.natAbs % 10)] := by
  unfold Lib.itoa
  by_cases h0 : n < 0
  · rw [if_pos h0, if_pos (hs.2 h0), dec_big h, hd]; rfl
  · have h1 : ¬ n.tdiv 10 < 0 := fun h => h0 (hs.1 h)
    rw [if_neg h0, if_neg h1, show n.toNat = n.natAbs from by omega, dec_big h, ← hd, show (n.tdiv 10).toNat = (n.tdiv 10).natAbs from by omega]
theorem itoa_small {n : Int} (h : n.natAbs < 10) : Lib.itoa n = if n < 0 then [45, UInt8.ofNat (48 + n.natAbs % 10)] else [UInt8.ofNat (48 + n.natAbs % 10)] := by
  unfold Lib.itoa
  rw [Nat.mod_eq_of_lt h]
  split
  · rw [dec_small h]
  · rw [show n.toNat = n.natAbs from by omega, dec_small h]
theorem text_step (k : Nat) (hk : FnOk (E0 B) 99 (sText k)) : FnOk (E0 B) 99 (sText (k + 1)) := by
  refine fn_ok (C := specC (E0 B) (tab [(99, [], sText k)])) (L := noL) (c := bodyC Tryz.f99) Tryz.func99 (by kernel_rfl) (by kernel_rfl)
    (specC_ok (tab_ok fun x hx => by simp only [List.mem_singleton] at hx; subst hx; exact hk)) (noL_ok _) fun vs bs r h => ?_
  unfold sText at h
  split at h
  · rename_i n
    rcases T.node_sel h with ⟨hc, h2⟩ | ⟨_, h2⟩
    · simp only [T.sel, Option.some.injEq] at h2; subst h2
      obtain ⟨hr, hn⟩ := of_decide_eq_true hc
      refine (tText k n).trans ?_
      obtain ⟨s1, s2, s3, s4, s5⟩ := itoa_step hr
      rw [s3]
      by_cases hb : n.natAbs < 10
      · have hz : n.tdiv 10 = 0 := by omega
        rw [itoa_small hb, decide_eq_true hz]
        cases hm : decide (n.tmod 10 < 0) with
        | true =>
          rw [s1 (of_decide_eq_true hm)]
          by_cases h0 : n < 0
          · rw [decide_eq_true h0, if_pos h0]; rfl
          · rw [decide_eq_false h0, if_neg h0]; rfl
        | false =>
          rw [s2 (of_decide_eq_false hm)]
          by_cases h0 : n < 0
          · rw [decide_eq_true h0, if_pos h0]; rfl
          · rw [decide_eq_false h0, if_neg h0]; rfl
      · have hz : ¬ n.tdiv 10 = 0 := by omega
        have hrq : Rng (n.tdiv 10) := by rw [← s3]; exact rng_w64 _
        have hlt : (n.tdiv 10).natAbs < 10 ^ k := by rw [s4]; rw [Nat.pow_succ] at hn; omega
        have hlen : (Lib.itoa (n.tdiv 10)).length + 1 ≤ lim := by have := itoa_len hrq; simp only [lim]; omega
        rw [itoa_big hb s4 (s5 hz), decide_eq_false hz, decide_eq_true (show Rng (n.tdiv 10) ∧ (n.tdiv 10).natAbs < 10 ^ k from ⟨hrq, hlt⟩), decide_eq_true hlen]
        cases hm : decide (n.tmod 10 < 0) with
        | true => rw [s1 (of_decide_eq_true hm)]; rfl
        | false => rw [s2 (of_decide_eq_false hm)]; rfl
    · simp [T.sel] at h2
  · simp [T.sel] at h
theorem tText0 : (fnRun (E0 B) (C0 B) noL Tryz.f99 (bodyC Tryz.f99) [.int .i64 0] []).sel = rs [48] := by kernel_rfl
theorem text_0 : FnOk (E0 B) 99 (sText 0) := by
  refine fn_ok (C := C0 B) (L := noL) (c := bodyC Tryz.f99) Tryz.func99 (by kernel_rfl) (by kernel_rfl) c0Ok (noL_ok _) fun vs bs r h => ?_
  unfold sText at h
  split at h
  · rename_i n
    rcases T.node_sel h with ⟨hc, h2⟩ | ⟨_, h2⟩
    · simp only [T.sel, Option.some.injEq] at h2; subst h2
      obtain ⟨_, hn⟩ := of_decide_eq_true hc
      have : n = 0 := by omega
      subst this
      refine tText0.trans ?_
      rw [itoa_small (by decide)]; rfl
    · simp [T.sel] at h2
  · simp [T.sel] at h
theorem text_all (k : Nat) : FnOk (E0 B) 99 (sText k) := by
  induction k with
  | zero => exact text_0
  | succ k ih => exact text_step k ih
theorem okText : FnOk (E0 B) 99 sText0 := by
  refine ⟨text_0.1, fun vs bs out h => (text_all (B := B) 20).2 vs bs out ?_⟩
  unfold sText0 at h
  split at h
  · rename_i n
    rcases T.node_sel h with ⟨hc, h2⟩ | ⟨_, h2⟩
    · have hr := of_decide_eq_true hc
      have hr' := hr
      unfold Rng at hr'
      have h20 : (10 : Nat) ^ 20 = 100000000000000000000 := by decide
      have : decide (Rng n ∧ n.natAbs < 10 ^ 20) = true := decide_eq_true ⟨hr, by omega⟩
      simp only [sText, T.sel, this, cond_true] at h2 ⊢
      exact h2
    · simp [T.sel] at h2
  · simp [T.sel] at h


end Go.Proofs.YthfieonkfailkaaGreatDoor.R1
