/-
  Texts put together: DistFn, ClsFn, KindFn, ClsChk.
-/
import Derived.WalkKit
import Derived.Maps.OwnSet
import Derived.Test.YtdckpbeioemopabGreatDoorNodBase
import Derived.Test.YtdckpbeioemopabGreatDoorPureB
import Derived.Test.YtdckpbeioemopabGreatDoorLawA
import Derived.Test.YtdckpbeioemopabGreatDoorNodA
import Derived.Test.YtdckpbeioemopabGreatDoorLibA
namespace Go.Proofs.YtdckpbeioemopabGreatDoor
open Go.RowKit Go.Maps
set_option maxRecDepth 100000
def keysI (l : List Int) (k : Nat) : List Lit := (l.take k).map (Lit.int .i64)
def SI (l : List Int) (k : Nat) : DataW Unit := setOf (.lit (.bool true)) (keysI l k)
theorem keysI_succ (l : List Int) (k : Nat) (hk : k < l.length) : keysI l (k + 1) = keysI l k ++ [.int .i64 (l.getD k 0)] := by
  unfold keysI
  rw [List.take_add_one, List.map_append]
  simp [List.getD, List.getElem?_eq_getElem hk]
theorem SI_succ (l : List Int) (k : Nat) (hk : k < l.length) : SI l (k + 1) = (SI l k).put (.int .i64 (l.getD k 0)) (.lit (.bool true)) := by
  unfold SI
  rw [keysI_succ l k hk, setOf_snoc]
theorem SI_zero (l : List Int) : SI l 0 = .map [] := by simp [SI, keysI, setOf]
theorem SI_size (l : List Int) : Maps.size (SI l l.length) = Am.dcount l := by
  unfold SI keysI
  rw [List.take_length, size_setOf _ _ (fun x hx => by obtain ⟨_, _, rfl⟩ := List.mem_map.1 hx; trivial), Am.dcount_is]
theorem uInt : Tryz.prog.underlying 3 = some (.int .i64) := by kernel_rfl
theorem uBool : Tryz.prog.underlying 4 = some .bool := by kernel_rfl
theorem uMap : Tryz.prog.underlying 196 = some (.map 3 4) := by kernel_rfl
theorem lawI : Keyed Tryz.prog 3 := int_keyed uInt
theorem distinct_any (b off len cap : Nat) (l : List Int) (w : World) (hz : len ≤ l.length) (hm : len ≤ 1000) (hb : b < w.heap.size)
    (hc : ∀ j, j < l.length → w.cell? ⟨b, off + j, none⟩ = some (.int .i64 (l.getD j 0))) (hw : ∀ n ∈ l, (Lit.int .i64 n).wf = true) :
    Calls Tryz.prog 104 #[.slice (some ⟨b, off, none⟩) len cap] w fun e w' => e = .returned (.int .i64 (Maps.size (SI l len))) ∧ Below w.heap.size w w' := by
  have hmm := @run_makeMap Tryz.prog
  have hkey : ∀ k, keyOf Tryz.prog 3 (.int .i64 (l.getD k 0)) = some (.int .i64 (l.getD k 0)) := fun k => by
    refine keyOf_int_mk uInt ?_
    by_cases hk : k < l.length
    · rw [List.getD, List.getElem?_eq_getElem hk]
      exact hw _ (List.getElem_mem hk)
    · rw [List.getD, List.getElem?_eq_none (by omega)]
      decide
  go_enter Tryz.func104, Tryz.ntmps104
  go_wp2
  go_loopw [9] (fun i wr => ∃ k : Nat, k ≤ len ∧ i = .int .i64 k ∧ wr.ownsMap Tryz.prog 3 (plainElem Tryz.prog 4) w.heap.size k (SI l k) ∧ Below w.heap.size w wr)
    (fun i _ => len - (intOf i).toNat)
  case atStart => exact ⟨0, Nat.zero_le _, rfl, by rw [SI_zero]; exact World.ownsMap_made _ _ _ _, (Below.refl _ _).alloc (Nat.le_refl _) _⟩
  case round =>
    obtain ⟨k, hk, rfl, hown, hnx⟩ := hrel
    have hcx : k < len → wr.cell? ⟨b, off + k, none⟩ = some (.int .i64 (l.getD k 0)) := fun _ => (hnx.cell (by exact hb)).trans (hc k (by omega))
    have hkey := hkey k
    go_wp2_with (first
      | (at_mapUpdate; refine wpList_mapUpdate_own _ rfl _ _ _ 196 rfl 3 4 lawI uMap (plainElem (H := Unit) Tryz.prog 4) w.heap.size k _ rfl hown (by unfold maxLen; omega) _ _ _ rfl rfl hkey _ [] (plainElem_bool uBool true) ?_; intro w1 hown1 hgrow1)
      | (at_len; refine wpList_len_own _ rfl _ 196 rfl 3 4 uMap _ w.heap.size k _ rfl hown ?_)
      | go_in)
    · have hlt : k < len := by assumption
      go_roundw
      case rel => exact ⟨k + 1, by omega, by go_num, (SI_succ l k (by omega)).symm ▸ hown1, hnx.grown hgrow1 hnx.size (fun j hj => by cases hj; exact Nat.le_refl _)⟩
      case measure => simp [intOf]; omega
    · have : k = len := by omega
      subst this
      go_ret
      exact ⟨rfl, hnx⟩
def sDist : Am.FSpec
  | [.slw 0], [⟨_, .ints .i64 l⟩] => .node (decide (0 < l.length ∧ l.length ≤ 1000) && l.all fun n => decide (0 ≤ n) && decide (n ≤ 3)) (.leaf ⟨[.int .i64 (Am.dcount l)], []⟩) .bad
  | _, _ => .bad
theorem okDist {B : Nat → Option Obj} : Am.FnOk (E0 B) 104 sDist := by
  refine Am.fnOk_reads (fnAt_mk (fn := Tryz.f104) Tryz.func104 (by kernel_rfl) (by kernel_rfl)) fun vs bs out hsel => ?_
  unfold sDist at hsel
  split at hsel
  · rename_i o l
    rcases Am.T.node_sel hsel with ⟨hc, h2⟩ | ⟨_, h2⟩
    · simp only [Am.T.sel, Option.some.injEq] at h2
      subst h2
      rw [Bool.and_eq_true] at hc
      obtain ⟨h0, h1⟩ := of_decide_eq_true hc.1
      refine ⟨rfl, rfl, fun w cargs ps hcfg hv => ?_⟩
      simp only [Am.VL] at hv
      obtain ⟨v, r, rfl, hv0, rfl⟩ := hv
      simp only [Am.V] at hv0
      obtain ⟨p, hp, hle, a, rfl, ha⟩ := hv0
      have hb : Am.blkH [⟨o, .ints .i64 l⟩] 0 = some ⟨o, .ints .i64 l⟩ := rfl
      obtain ⟨q, hq, hs, hl, hcap, hmax⟩ := hcfg.sat.pos 0 _ hb
      rw [hp] at hq; cases hq
      have hs : p.stride = 1 := hs
      have hl : p.len = l.length := hl
      have hcells : ∀ j, j < l.length → w.cell? ⟨p.block, p.off + j, none⟩ = some (.int .i64 (l.getD j 0)) := fun j hj => by
        obtain ⟨c, h1, h2⟩ := hcfg.sat.cells 0 _ p hb hp j hj 0 (.int .i64 (l.getD j 0)) rfl
        simp only [Am.V] at h2
        subst h2
        simpa [Am.Pos.addr, hs] using h1
      have ha := ha (by omega)
      simp only [Am.Pos.addr, hs] at ha
      have hlt := Am.cell_lt (hcells 0 h0)
      rw [hl, ha]
      refine (distinct_any p.block p.off l.length _ l w (Nat.le_refl _) h1 hlt hcells fun n hn => ?_).mono fun e w' ⟨he, hw⟩ => ⟨_, he, ?_, hw⟩
      · have := List.all_eq_true.1 hc.2 n hn
        simp only [Bool.and_eq_true, decide_eq_true_eq] at this
        have e1 : IntKind.i64.min = -9223372036854775808 := rfl
        have e2 : IntKind.i64.max = 9223372036854775807 := rfl
        show (decide (IntKind.i64.min ≤ n) && decide (n ≤ IntKind.i64.max)) = true
        rw [e1, e2, Bool.and_eq_true]
        exact ⟨decide_eq_true (by omega), decide_eq_true (by omega)⟩
      · rw [SI_size]; simp [Am.oneOrTup, Am.V]
    · simp [Am.T.sel] at h2
  · simp [Am.T.sel] at hsel
end Go.Proofs.YtdckpbeioemopabGreatDoor
namespace Go.Proofs.YtdckpbeioemopabGreatDoor.Ck
open Go.Am
set_option maxRecDepth 100000
variable {B : Nat → Option Obj}
noncomputable def lib8 : Tb := (104, [], sDist) ::  lib5
theorem lib8_ok : TbOk B lib8 := lib5_ok.add okDist
def inb {α : Type} (i : Int) (n : Nat) (r : Option α) : Option α := bif decide (0 ≤ i ∧ i < (n : Int)) then (bif decide (i.toNat < n) then r else none) else none
theorem inb_is {α : Type} {i n : Nat} (h : i < n) (r : Option α) : inb (i : Int) n r = r := in_range h r
def outS (x : Int) : Bool := decide (x < 0) || decide (4 ≤ x)
def outS' (x : Int) (a b : Option (AExit × Out)) : Option (AExit × Out) := bif decide (x < 0) then a else bif (bif false then true else decide (4 ≤ x)) then a else b
theorem outS_is (x : Int) (a b : Option (AExit × Out)) : outS' x a b = bif outS x then a else b := by
  unfold outS' outS
  cases decide (x < 0) <;> cases decide (4 ≤ x) <;> rfl
noncomputable def bIx : Code := loopAt 2 (loopsOf (bodyC Tryz.f134))
def sgIx : LSig := { cs := [(0, 23), (1, 0), (7, 0)], mv := [(8, 0)], mo := [(4, 0)], take := [] }
theorem turnIx (L : List Int) (n i : Int) : (turn (E0 B) (Cx B lib8) noL 19 sgIx bIx [.slw 0, .fn 102 [] [], i64 n, i64 i] [⟨false, .ints .i64 L⟩]).sel =
    bif decide (i < n) then inb i L.length (outS' (L.getD i.toNat 0) (some (.ret, ⟨[i64 i], []⟩)) (some (.normal, ⟨[.slw 0, .fn 102 [] [], i64 n, i64 (w64 (i + 1))], [⟨false, .ints .i64 L⟩]⟩))) else some (.exit 0, ⟨[.any], []⟩) := by kernel_rfl
def okIx (f : Nat) (L : List Int) (n i : Int) : Bool := Nat.beq f 102 && decide (n = (L.length : Int) ∧ L.length ≤ 1000 ∧ i = 0)
def spIx : LSpec
  | [.slw 0, .fn f [] [], .int .i64 n, .int .i64 i], [⟨false, .ints .i64 L⟩] => .node (okIx f L n i) (.node (decide (firstL outS L < L.length)) (.leaf (.ret, ⟨[i64 (firstL outS L)], []⟩)) (.leaf (.exit 0, ⟨[.any], []⟩))) .bad
  | _, _ => .bad
theorem loopIx : LoopOk (E0 B) 19 sgIx bIx spIx := by
  refine loop_turns (C := Cx B lib8) (L := noL) (cxOk lib8_ok) (noL_ok _) fun vs bs e o h => ?_
  unfold spIx at h
  split at h
  · rename_i f n i L
    rcases T.node_sel h with ⟨hc, h2⟩ | ⟨_, h2⟩
    · unfold okIx at hc
      rw [Bool.and_eq_true] at hc
      have hf := Nat.eq_of_beq_eq_true hc.1
      obtain ⟨rfl, hl, rfl⟩ := of_decide_eq_true hc.2
      subst hf
      obtain ⟨m, hm⟩ := scan_turns (E := E0 B) (C := Cx B lib8) (L := noL) (n := 19) (sg := sgIx) (body := bIx) (st := fun i => [.slw 0, .fn 102 [] [], i64 L.length, i64 i]) (bs := [⟨false, .ints .i64 L⟩]) (len := L.length)
        (bad := fun j => outS (L.getD j default)) (ob := fun j => ⟨[i64 j], []⟩) (k := 0) (oe := ⟨[.any], []⟩) (fun i hi => by
          rw [turnIx, outS_is]
          by_cases h : i < L.length
          · rw [decide_eq_true h, decide_eq_true (show (i : Int) < (L.length : Int) by omega), cond_true, inb_is h, w64_rng (show Rng ((i : Int) + 1) by unfold Rng; omega)]; rfl
          · rw [decide_eq_false h, decide_eq_false (show ¬ (i : Int) < (L.length : Int) by omega)]; rfl) L.length 0 (by omega)
      refine ⟨m, hm.trans ?_⟩
      rw [firstB_list outS L L 0 rfl, Nat.zero_add, ← h2]
      rfl
    · simp [T.sel] at h2
  · simp [T.sel] at h
noncomputable def eIx : LEnt := { id := 2, n := 19, sg := sgIx, wr := writes bIx, s := spIx }
theorem tIx (L : List Int) : runL B lib8 [eIx] Tryz.f134 [.slw 0, .fn 102 [] []] [⟨false, .ints .i64 L⟩] =
    bif okIx 102 L L.length 0 then (bif decide (firstL outS L < L.length) then some ⟨[i64 (firstL outS L)], []⟩ else some ⟨[i64 (-1)], []⟩) else none := by kernel_rfl
def ixI (b : Bool) (n : Nat) : Int := bif b then (n : Int) else -1
def sIx : FSpec
  | [.slw 0, .fn f [] []], [⟨false, .ints .i64 L⟩] => .node (Nat.beq f 102 && decide (L.length ≤ 1000)) (.leaf ⟨[.int .i64 (ixI (decide (firstL outS L < L.length)) (firstL outS L))], []⟩) .bad
  | _, _ => .bad
theorem okIxF : FnOk (E0 B) 134 sIx := by
  refine fnL lib8_ok (ls := [eIx]) Tryz.func134 (by kernel_rfl) (by kernel_rfl) (fun x hx => ?_) fun vs bs r h => ?_
  · simp only [List.mem_singleton] at hx; subst hx
    exact ⟨bIx, by kernel_rfl, rfl, loopIx⟩
  unfold sIx at h
  split at h
  · rename_i f L
    rcases T.node_sel h with ⟨hc, h2⟩ | ⟨_, h2⟩
    · simp only [T.sel, Option.some.injEq] at h2; subst h2
      rw [Bool.and_eq_true] at hc
      have hf := Nat.eq_of_beq_eq_true hc.1
      subst hf
      refine (tIx L).trans ?_
      unfold okIx
      rw [decide_eq_true (show (L.length : Int) = (L.length : Int) ∧ L.length ≤ 1000 ∧ (0 : Int) = 0 from ⟨rfl, of_decide_eq_true hc.2, rfl⟩)]
      cases decide (firstL outS L < L.length) <;> rfl
    · simp [T.sel] at h2
  · simp [T.sel] at h
noncomputable def lib9 : Tb := (134, [], sIx) :: lib8
theorem lib9_ok : TbOk B lib9 := lib8_ok.add okIxF
def eqNoP (x y : Nod) : Bool := decide (x.kind = y.kind) && (decide (x.n = y.n) && (decide (x.a = y.a) && (decide (x.b = y.b) && true)))
def eqInt (x y : Int) : Bool := decide (x = y)
def sgEq : LSig := { cs := [(0, 22), (1, 22)], mv := [(5, 0)], mo := [(4, 0)], take := [] }
def sgSs : LSig := { cs := [(0, 23), (1, 23)], mv := [(5, 0)], mo := [(4, 0)], take := [] }
noncomputable def bAk : Code := loopAt 4 (loopsOf (bodyC Tryz.f78))
theorem turnAk (L M : List Nod) (i : Int) : (turn (E0 B) (Cx B lib9) noL 32 sgEq bAk [.slw 0, .slw 1, i64 i] [⟨false, .nodes L⟩, ⟨false, .nodes M⟩]).sel =
    bif decide (i < (L.length : Int)) then inb i L.length (inb i M.length (bif !eqNoP (L.getD i.toNat default) (M.getD i.toNat default) then some (.ret, ⟨[.bool false], []⟩) else some (.normal, ⟨[.slw 0, .slw 1, i64 (w64 (i + 1))], [⟨false, .nodes L⟩, ⟨false, .nodes M⟩]⟩))) else some (.exit 0, ⟨[.any], []⟩) := by kernel_rfl
def spAk : LSpec
  | [.slw 0, .slw 1, .int .i64 i], [⟨false, .nodes L⟩, ⟨false, .nodes M⟩] => .node (decide (i = 0 ∧ L.length = M.length ∧ L.length ≤ 1000)) (.node (all2 eqNoP L M) (.leaf (.exit 0, ⟨[.any], []⟩)) (.leaf (.ret, ⟨[.bool false], []⟩))) .bad
  | _, _ => .bad
theorem loopAk : LoopOk (E0 B) 32 sgEq bAk spAk := by
  refine loop_turns (C := Cx B lib9) (L := noL) (cxOk lib9_ok) (noL_ok _) fun vs bs e o h => ?_
  unfold spAk at h
  split at h
  · rename_i i L M
    rcases T.node_sel h with ⟨hc, h2⟩ | ⟨_, h2⟩
    · obtain ⟨rfl, hlm, hl⟩ := of_decide_eq_true hc
      obtain ⟨m, hm⟩ := scan_turns (E := E0 B) (C := Cx B lib9) (L := noL) (n := 32) (sg := sgEq) (body := bAk) (st := fun i => [.slw 0, .slw 1, i64 i]) (bs := [⟨false, .nodes L⟩, ⟨false, .nodes M⟩]) (len := L.length)
        (bad := fun j => !eqNoP (L.getD j default) (M.getD j default)) (ob := fun _ => ⟨[.bool false], []⟩) (k := 0) (oe := ⟨[.any], []⟩) (fun i hi => by
          rw [turnAk]
          by_cases h : i < L.length
          · rw [decide_eq_true h, decide_eq_true (show (i : Int) < (L.length : Int) by omega), cond_true, inb_is h, inb_is (show i < M.length by omega), w64_rng (show Rng ((i : Int) + 1) by unfold Rng; omega)]; rfl
          · rw [decide_eq_false h, decide_eq_false (show ¬ (i : Int) < (L.length : Int) by omega)]; rfl) L.length 0 (by omega)
      refine ⟨m, hm.trans ?_⟩
      rw [first2 hlm, ← h2]
      simp only [T.sel]
      cases all2 eqNoP L M <;> rfl
    · simp [T.sel] at h2
  · simp [T.sel] at h
noncomputable def eAk : LEnt := { id := 4, n := 32, sg := sgEq, wr := writes bAk, s := spAk }
theorem tAk (L M : List Nod) : runL B lib9 [eAk] Tryz.f78 [.slw 0, .slw 1] [⟨false, .nodes L⟩, ⟨false, .nodes M⟩] =
    bif !decide ((L.length : Int) = (M.length : Int)) then rb false else bif decide ((0 : Int) = 0 ∧ L.length = M.length ∧ L.length ≤ 1000) then (bif all2 eqNoP L M then rb true else rb false) else none := by kernel_rfl
def sAk : FSpec
  | [.slw 0, .slw 1], [⟨false, .nodes L⟩, ⟨false, .nodes M⟩] => .node (decide (L.length ≤ 1000)) (.leaf ⟨[.bool (all2 eqNoP L M)], []⟩) .bad
  | _, _ => .bad
theorem okFAk : FnOk (E0 B) 78 sAk := by
  refine fnL lib9_ok (ls := [eAk]) Tryz.func78 (by kernel_rfl) (by kernel_rfl) (fun x hx => ?_) fun vs bs r h => ?_
  · simp only [List.mem_singleton] at hx; subst hx
    exact ⟨bAk, by kernel_rfl, rfl, loopAk⟩
  unfold sAk at h
  split at h
  · rename_i L M
    rcases T.node_sel h with ⟨hc, h2⟩ | ⟨_, h2⟩
    · simp only [T.sel, Option.some.injEq] at h2; subst h2
      refine (tAk L M).trans ?_
      by_cases hl : L.length = M.length
      · rw [decide_eq_true (show (L.length : Int) = (M.length : Int) by omega), decide_eq_true (show (0 : Int) = 0 ∧ L.length = M.length ∧ L.length ≤ 1000 from ⟨rfl, hl, of_decide_eq_true hc⟩)]
        cases all2 eqNoP L M <;> rfl
      · rw [decide_eq_false (show ¬ (L.length : Int) = (M.length : Int) by omega)]
        cases ha : all2 eqNoP L M with
        | false => rfl
        | true => exact (hl (all2_len ha)).elim
    · simp [T.sel] at h2
  · simp [T.sel] at h
noncomputable def bSs : Code := loopAt 4 (loopsOf (bodyC Tryz.f79))
theorem turnSs (L M : List Int) (i : Int) : (turn (E0 B) (Cx B lib9) noL 26 sgSs bSs [.slw 0, .slw 1, i64 i] [⟨false, .ints .i64 L⟩, ⟨false, .ints .i64 M⟩]).sel =
    bif decide (i < (L.length : Int)) then inb i L.length (inb i M.length (bif !eqInt (L.getD i.toNat 0) (M.getD i.toNat 0) then some (.ret, ⟨[.bool false], []⟩) else some (.normal, ⟨[.slw 0, .slw 1, i64 (w64 (i + 1))], [⟨false, .ints .i64 L⟩, ⟨false, .ints .i64 M⟩]⟩))) else some (.exit 0, ⟨[.any], []⟩) := by kernel_rfl
def spSs : LSpec
  | [.slw 0, .slw 1, .int .i64 i], [⟨false, .ints .i64 L⟩, ⟨false, .ints .i64 M⟩] => .node (decide (i = 0 ∧ L.length = M.length ∧ L.length ≤ 1000)) (.node (all2 eqInt L M) (.leaf (.exit 0, ⟨[.any], []⟩)) (.leaf (.ret, ⟨[.bool false], []⟩))) .bad
  | _, _ => .bad
theorem loopSs : LoopOk (E0 B) 26 sgSs bSs spSs := by
  refine loop_turns (C := Cx B lib9) (L := noL) (cxOk lib9_ok) (noL_ok _) fun vs bs e o h => ?_
  unfold spSs at h
  split at h
  · rename_i i L M
    rcases T.node_sel h with ⟨hc, h2⟩ | ⟨_, h2⟩
    · obtain ⟨rfl, hlm, hl⟩ := of_decide_eq_true hc
      obtain ⟨m, hm⟩ := scan_turns (E := E0 B) (C := Cx B lib9) (L := noL) (n := 26) (sg := sgSs) (body := bSs) (st := fun i => [.slw 0, .slw 1, i64 i]) (bs := [⟨false, .ints .i64 L⟩, ⟨false, .ints .i64 M⟩]) (len := L.length)
        (bad := fun j => !eqInt (L.getD j default) (M.getD j default)) (ob := fun _ => ⟨[.bool false], []⟩) (k := 0) (oe := ⟨[.any], []⟩) (fun i hi => by
          rw [turnSs]
          by_cases h : i < L.length
          · rw [decide_eq_true h, decide_eq_true (show (i : Int) < (L.length : Int) by omega), cond_true, inb_is h, inb_is (show i < M.length by omega), w64_rng (show Rng ((i : Int) + 1) by unfold Rng; omega)]; rfl
          · rw [decide_eq_false h, decide_eq_false (show ¬ (i : Int) < (L.length : Int) by omega)]; rfl) L.length 0 (by omega)
      refine ⟨m, hm.trans ?_⟩
      rw [first2 hlm, ← h2]
      simp only [T.sel]
      cases all2 eqInt L M <;> rfl
    · simp [T.sel] at h2
  · simp [T.sel] at h
noncomputable def eSs : LEnt := { id := 4, n := 26, sg := sgSs, wr := writes bSs, s := spSs }
theorem tSs (L M : List Int) : runL B lib9 [eSs] Tryz.f79 [.slw 0, .slw 1] [⟨false, .ints .i64 L⟩, ⟨false, .ints .i64 M⟩] =
    bif !decide ((L.length : Int) = (M.length : Int)) then rb false else bif decide ((0 : Int) = 0 ∧ L.length = M.length ∧ L.length ≤ 1000) then (bif all2 eqInt L M then rb true else rb false) else none := by kernel_rfl
def sSs : FSpec
  | [.slw 0, .slw 1], [⟨false, .ints .i64 L⟩, ⟨false, .ints .i64 M⟩] => .node (decide (L.length ≤ 1000)) (.leaf ⟨[.bool (all2 eqInt L M)], []⟩) .bad
  | _, _ => .bad
theorem okFSs : FnOk (E0 B) 79 sSs := by
  refine fnL lib9_ok (ls := [eSs]) Tryz.func79 (by kernel_rfl) (by kernel_rfl) (fun x hx => ?_) fun vs bs r h => ?_
  · simp only [List.mem_singleton] at hx; subst hx
    exact ⟨bSs, by kernel_rfl, rfl, loopSs⟩
  unfold sSs at h
  split at h
  · rename_i L M
    rcases T.node_sel h with ⟨hc, h2⟩ | ⟨_, h2⟩
    · simp only [T.sel, Option.some.injEq] at h2; subst h2
      refine (tSs L M).trans ?_
      by_cases hl : L.length = M.length
      · rw [decide_eq_true (show (L.length : Int) = (M.length : Int) by omega), decide_eq_true (show (0 : Int) = 0 ∧ L.length = M.length ∧ L.length ≤ 1000 from ⟨rfl, hl, of_decide_eq_true hc⟩)]
        cases all2 eqInt L M <;> rfl
      · rw [decide_eq_false (show ¬ (L.length : Int) = (M.length : Int) by omega)]
        cases ha : all2 eqInt L M with
        | false => rfl
        | true => exact (hl (all2_len ha)).elim
    · simp [T.sel] at h2
  · simp [T.sel] at h
noncomputable def lib13 : Tb := (28, [], sEqN) :: (78, [], sAk) :: (79, [], sSs) :: lib9
theorem lib13_ok : TbOk B lib13 := lib9_ok.add okFSs |>.add okFAk |>.add okFEq
theorem fnOk_or {E : Env} {f : FuncId} {s1 s2 s : FSpec} (h1 : FnOk E f s1) (h2 : FnOk E f s2) (h : ∀ vs bs r, (s vs bs).sel = some r → (s1 vs bs).sel = some r ∨ (s2 vs bs).sel = some r) : FnOk E f s :=
  ⟨h1.1, fun vs bs out hs => (h vs bs out hs).elim (h1.2 vs bs out) (h2.2 vs bs out)⟩
def ib (L : List Int) : Blk := ⟨false, .ints .i64 L⟩
def srcK (L : List Int) : Option Out := bif Nat.beq 102 102 && decide (L.length ≤ 1000) then (bif decide (0 ≤ ixI (decide (firstL outS L < L.length)) (firstL outS L)) then ri 8 else
  (bif decide (0 < L.length ∧ L.length ≤ 1000) && L.all (fun n => decide (0 ≤ n) && decide (n ≤ 3)) then (bif decide ((dcount L : Int) < (L.length : Int)) then ri 43 else ri 0) else none)) else none
theorem tSrc (L : List Int) (j : Bool) : runT B lib13 Tryz.f64 [.slw 0, .bool j] [ib L] =
    bif decide ((4 : Int) < (L.length : Int)) then ri 4 else bif decide ((L.length : Int) = 0) then ri 8 else bif j then (bif !decide ((L.length : Int) = 2) then ri 8 else srcK L) else srcK L := by kernel_rfl
theorem out_any (L : List Int) : L.any outS = !L.all inR := by
  induction L with
  | nil => rfl
  | cons x l ih =>
    rw [List.any_cons, List.all_cons, ih, Bool.not_and]
    congr 1
    unfold outS inR
    by_cases h1 : x < 0 <;> by_cases h2 : 4 ≤ x <;> simp [h1, h2] <;> omega
theorem srcK_is {L : List Int} (h0 : 0 < L.length) (h1 : L.length ≤ 1000) : srcK L = ri (bif !L.all inR then 8 else bif dups L then 43 else 0) := by
  unfold srcK
  rw [Nat.beq_refl, decide_eq_true h1, firstL_any, out_any, decide_eq_true (show 0 < L.length ∧ L.length ≤ 1000 from ⟨h0, h1⟩), show decide ((dcount L : Int) < (L.length : Int)) = decide (dcount L < L.length) from by
    by_cases h : dcount L < L.length
    · rw [decide_eq_true h, decide_eq_true (by omega)]
    · rw [decide_eq_false h, decide_eq_false (by omega)], dcount_lt]
  have e : (L.all fun n => decide (0 ≤ n) && decide (n ≤ 3)) = L.all inR := rfl
  rw [e]
  cases L.all inR with
  | false => rfl
  | true => cases dups L <;> rfl
theorem src_is (L : List Int) (j : Bool) : (bif decide ((4 : Int) < (L.length : Int)) then ri 4 else bif decide ((L.length : Int) = 0) then ri 8 else bif j then (bif !decide ((L.length : Int) = 2) then ri 8 else srcK L) else srcK L) = ri (srcE L j) := by
  unfold srcE
  by_cases h4 : 4 < L.length
  · rw [decide_eq_true h4, decide_eq_true (show (4 : Int) < (L.length : Int) by omega)]; rfl
  · rw [decide_eq_false h4, decide_eq_false (show ¬ (4 : Int) < (L.length : Int) by omega)]
    by_cases h0 : L.length = 0
    · rw [decide_eq_true h0, decide_eq_true (show (L.length : Int) = 0 by omega)]; rfl
    · rw [decide_eq_false h0, decide_eq_false (show ¬ (L.length : Int) = 0 by omega), srcK_is (by omega) (by omega)]
      by_cases h2 : L.length = 2
      · rw [decide_eq_true h2, decide_eq_true (show (L.length : Int) = 2 by omega)]; cases j <;> rfl
      · rw [decide_eq_false h2, decide_eq_false (show ¬ (L.length : Int) = 2 by omega)]; cases j <;> rfl
def sSrcs : FSpec
  | [.slw 0, .bool j], [⟨false, .ints .i64 L⟩] => .leaf ⟨[.int .i64 (srcE L j)], []⟩
  | _, _ => .bad
theorem okSrcs : FnOk (E0 B) 64 sSrcs := by
  refine fnT lib13_ok Tryz.func64 (by kernel_rfl) (by kernel_rfl) fun vs bs r h => ?_
  unfold sSrcs at h
  split at h
  · simp only [T.sel, Option.some.injEq] at h; subst h
    exact (tSrc _ _).trans (src_is _ _)
  · simp [T.sel] at h
def inCh : List Int → Option Out → Option Out
  | [], k => k
  | x :: r, k => bif decide (x < 0) then ri 8 else bif decide (3 < x) then ri 8 else inCh r k
def eqCh (x : Int) : List Int → Option Out → Option Out
  | [], k => k
  | y :: r, k => bif decide (y = x) then ri 43 else eqCh x r k
def dupCh (p : List Int) : List Int → Option Out
  | [] => ri 0
  | x :: r => eqCh x p (dupCh (p ++ [x]) r)
def coreR (L : List Int) : Option Out := inCh L (dupCh [] L)
theorem tR (L : List Int) (j : Bool) : runL B lib13 [] Tryz.f29 [.slw 0, .bool j] [ib L] =
    bif decide ((4 : Int) < (L.length : Int)) then ri 4 else bif decide ((L.length : Int) = 0) then ri 8 else bif j then (bif !decide ((L.length : Int) = 2) then ri 8 else none) else none := by kernel_rfl
theorem tR1 (a : Int) (j : Bool) : runT B lib13 Tryz.f29 [.slw 0, .bool j] [ib [a]] = bif j then ri 8 else coreR [a] := by kernel_rfl
theorem tR2 (a b : Int) (j : Bool) : runT B lib13 Tryz.f29 [.slw 0, .bool j] [ib [a, b]] = bif j then coreR [a, b] else coreR [a, b] := by kernel_rfl
theorem tR3 (a b c : Int) (j : Bool) : runT B lib13 Tryz.f29 [.slw 0, .bool j] [ib [a, b, c]] = bif j then ri 8 else coreR [a, b, c] := by kernel_rfl
theorem tR4 (a b c d : Int) (j : Bool) : runT B lib13 Tryz.f29 [.slw 0, .bool j] [ib [a, b, c, d]] = bif j then ri 8 else coreR [a, b, c, d] := by kernel_rfl
theorem inCh_is (k : Option Out) : ∀ L : List Int, inCh L k = bif !L.all inR then ri 8 else k
  | [] => rfl
  | x :: r => by
    unfold inCh
    rw [inCh_is k r, List.all_cons, inR]
    by_cases h1 : x < 0
    · rw [decide_eq_true h1, decide_eq_false (show ¬ 0 ≤ x by omega)]; rfl
    · rw [decide_eq_false h1, decide_eq_true (show 0 ≤ x by omega)]
      by_cases h2 : 3 < x
      · rw [decide_eq_true h2, decide_eq_false (show ¬ x ≤ 3 by omega)]; rfl
      · rw [decide_eq_false h2, decide_eq_true (show x ≤ 3 by omega)]; rfl
theorem eqCh_is (x : Int) (k : Option Out) : ∀ L : List Int, eqCh x L k = bif L.contains x then ri 43 else k
  | [] => rfl
  | y :: r => by
    unfold eqCh
    rw [eqCh_is x k r, List.contains_cons]
    by_cases h : y = x
    · rw [decide_eq_true h, h]; simp
    · rw [decide_eq_false h]
      have : (x == y) = false := by simpa using fun e => h e.symm
      rw [this]; rfl
theorem dupCh_is : ∀ (L p : List Int), dupCh p L = bif clash p L then ri 43 else ri 0
  | [], p => rfl
  | x :: r, p => by
    unfold dupCh clash
    rw [eqCh_is, dupCh_is r]
    cases p.contains x <;> rfl
theorem coreR_is (L : List Int) : coreR L = ri (bif !L.all inR then 8 else bif dups L then 43 else 0) := by
  unfold coreR
  rw [inCh_is, dupCh_is, clash_perm]
  have : (L.any fun x => ([] : List Int).contains x) = false := by rw [List.any_eq_false]; intro x _; simp
  rw [this, Bool.false_or]
  cases L.all inR <;> cases dups L <;> rfl
theorem coreR_e {L : List Int} {j : Bool} (h4 : ¬ 4 < L.length) (h0 : ¬ L.length = 0) (h : (j && !decide (L.length = 2)) = false) : coreR L = ri (srcE L j) := by
  rw [coreR_is]
  unfold srcE
  rw [decide_eq_false h4, decide_eq_false h0, h]; rfl
theorem okSrcsR : FnOk (E0 B) 29 sSrcs := by
  refine fnOk_or (s1 := fun vs bs => match vs, bs with
      | [.slw 0, .bool j], [⟨false, .ints .i64 L⟩] => .node (decide (4 < L.length ∨ L.length = 0 ∨ (j = true ∧ L.length ≠ 2))) (.leaf ⟨[.int .i64 (srcE L j)], []⟩) .bad
      | _, _ => .bad)
    (s2 := fun vs bs => match vs, bs with
      | [.slw 0, .bool j], [⟨false, .ints .i64 L⟩] => .node (decide (¬ (4 < L.length ∨ L.length = 0 ∨ (j = true ∧ L.length ≠ 2)))) (.leaf ⟨[.int .i64 (srcE L j)], []⟩) .bad
      | _, _ => .bad) ?_ ?_ ?_
  · refine fnL lib13_ok (ls := []) Tryz.func29 (by kernel_rfl) (by kernel_rfl) (fun x hx => by cases hx) fun vs bs r h => ?_
    split at h
    · rename_i j L
      rcases T.node_sel h with ⟨hc, h2⟩ | ⟨_, h2⟩
      · simp only [T.sel, Option.some.injEq] at h2; subst h2
        have hc := of_decide_eq_true hc
        refine (tR L j).trans ?_
        rw [show (some ⟨[.int .i64 (srcE L j)], []⟩ : Option Out) = ri (srcE L j) from rfl, ← src_is]
        by_cases h4 : 4 < L.length
        · rw [decide_eq_true (show (4 : Int) < (L.length : Int) by omega)]; rfl
        · rw [decide_eq_false (show ¬ (4 : Int) < (L.length : Int) by omega)]
          by_cases h0 : L.length = 0
          · rw [decide_eq_true (show (L.length : Int) = 0 by omega)]; rfl
          · obtain ⟨hj, h2⟩ := (hc.resolve_left h4).resolve_left h0
            rw [decide_eq_false (show ¬ (L.length : Int) = 0 by omega), hj, decide_eq_false (show ¬ (L.length : Int) = 2 by omega)]; rfl
      · simp [T.sel] at h2
    · simp [T.sel] at h
  · refine fnT lib13_ok Tryz.func29 (by kernel_rfl) (by kernel_rfl) fun vs bs r h => ?_
    split at h
    · rename_i j L
      rcases T.node_sel h with ⟨hc, h2⟩ | ⟨_, h2⟩
      · simp only [T.sel, Option.some.injEq] at h2; subst h2
        have hc := of_decide_eq_true hc
        match L, hc with
        | [], hc => exact (hc (.inr (.inl rfl))).elim
        | [a], hc =>
          cases j with
          | true => exact (hc (.inr (.inr ⟨rfl, by simp⟩))).elim
          | false => exact (tR1 a false).trans (coreR_e (by simp) (by simp) rfl)
        | [a, b], hc =>
          cases j with
          | true => exact (tR2 a b true).trans (coreR_e (by simp) (by simp) rfl)
          | false => exact (tR2 a b false).trans (coreR_e (by simp) (by simp) rfl)
        | [a, b, c], hc =>
          cases j with
          | true => exact (hc (.inr (.inr ⟨rfl, by simp⟩))).elim
          | false => exact (tR3 a b c false).trans (coreR_e (by simp) (by simp) rfl)
        | [a, b, c, d], hc =>
          cases j with
          | true => exact (hc (.inr (.inr ⟨rfl, by simp⟩))).elim
          | false => exact (tR4 a b c d false).trans (coreR_e (by simp) (by simp) rfl)
        | a :: b :: c :: d :: e :: r, hc => exact (hc (.inl (by simp))).elim
      · simp [T.sel] at h2
    · simp [T.sel] at h
  · intro vs bs r h
    unfold sSrcs at h
    split at h
    · rename_i j L
      simp only [T.sel, Option.some.injEq] at h
      subst h
      by_cases hc : 4 < L.length ∨ L.length = 0 ∨ (j = true ∧ L.length ≠ 2)
      · left; simp only [T.sel, decide_eq_true hc, cond_true]
      · right; simp only [T.sel, decide_eq_true hc, cond_true]
    · simp [T.sel] at h
def winT (k s e : Int) (y n : Option Out) : Option Out := bif decide (s < 1) then n else bif decide (1073741824 < s) then n else bif decide (k = 2) then (bif decide (1 ≤ e) then (bif decide (e ≤ s) then (bif decide (s ≤ w64 (16 * e)) then y else n) else n) else n) else
  bif decide (k = 1) then (bif decide (e = 0) then y else n) else bif decide (k = 3) then (bif decide (e = 0) then y else n) else n
theorem tWin (k s e : Int) : runT B lib13 Tryz.f65 [.agg [.int .u8 k, .int .i64 s, .int .i64 e]] [] = winT k s e (ri 0) (ri 8) := by kernel_rfl
theorem tFit (k s e : Int) : runT B lib13 Tryz.f30 [.agg [.int .u8 k, .int .i64 s, .int .i64 e]] [] =
    bif decide (s < 1) then rb false else bif decide (1073741824 < s) then rb false else bif decide (k = 2) then (bif decide (1 ≤ e) then (bif decide (e ≤ s) then rb (decide (s ≤ w64 (16 * e))) else rb false) else rb false) else bif decide (k = 1) then rb (decide (e = 0)) else bif decide (k = 3) then rb (decide (e = 0)) else rb false := by kernel_rfl
theorem winT_is (k s e : Int) (y n : Option Out) : winT k s e y n = bif fitsW k s e then y else n := by
  unfold winT fitsW
  by_cases h1 : s < 1
  · rw [decide_eq_true h1, decide_eq_false (show ¬ 1 ≤ s by omega)]; rfl
  rw [decide_eq_false h1, decide_eq_true (show 1 ≤ s by omega)]
  by_cases h2 : 1073741824 < s
  · rw [decide_eq_true h2, decide_eq_false (show ¬ s ≤ 1073741824 by omega)]; rfl
  rw [decide_eq_false h2, decide_eq_true (show s ≤ 1073741824 by omega)]
  cases decide (k = 2) with
  | true =>
    by_cases h3 : 1 ≤ e
    · rw [decide_eq_true h3]
      by_cases h4 : e ≤ s
      · rw [decide_eq_true h4, w64_rng (show Rng (16 * e) by unfold Rng; omega)]; rfl
      · rw [decide_eq_false h4]; rfl
    · rw [decide_eq_false h3]; rfl
  | false => cases decide (k = 1) <;> cases decide (k = 3) <;> cases decide (e = 0) <;> rfl
def sWin : FSpec
  | [.agg [.int .u8 k, .int .i64 s, .int .i64 e]], [] => .leaf ⟨[.int .i64 (bif fitsW k s e then 0 else 8)], []⟩
  | _, _ => .bad
theorem okWin : FnOk (E0 B) 65 sWin := by
  refine fnT lib13_ok Tryz.func65 (by kernel_rfl) (by kernel_rfl) fun vs bs r h => ?_
  unfold sWin at h
  split at h
  · rename_i k s e
    simp only [T.sel, Option.some.injEq] at h; subst h
    refine (tWin k s e).trans ?_
    rw [winT_is]
    cases fitsW k s e <;> rfl
  · simp [T.sel] at h
def sFit : FSpec
  | [.agg [.int .u8 k, .int .i64 s, .int .i64 e]], [] => .leaf ⟨[.bool (fitsW k s e)], []⟩
  | _, _ => .bad
theorem okFit : FnOk (E0 B) 30 sFit := by
  refine fnT lib13_ok Tryz.func30 (by kernel_rfl) (by kernel_rfl) fun vs bs r h => ?_
  unfold sFit at h
  split at h
  · rename_i k s e
    simp only [T.sel, Option.some.injEq] at h; subst h
    refine (tFit k s e).trans ?_
    have : ∀ b : Bool, rb b = bif b then rb true else rb false := fun b => by cases b <;> rfl
    rw [this (decide (s ≤ w64 (16 * e))), this (decide (e = 0))]
    refine (winT_is k s e (rb true) (rb false)).trans ?_
    cases fitsW k s e <;> rfl
  · simp [T.sel] at h
noncomputable def lib14 : Tb := (64, [], sSrcs) :: (29, [], sSrcs) :: (65, [], sWin) :: (30, [], sFit) :: lib13
theorem lib14_ok : TbOk B lib14 := lib13_ok.add okFit |>.add okWin |>.add okSrcsR |>.add okSrcs
def qbs (q : Qry) : List Blk := [⟨false, .nodes q.arg⟩, ⟨false, .ints .i64 q.src⟩, ⟨false, .nodes q.whr⟩]
def kW (q : Qry) : Option Out := bif q.join then (bif !decide (q.wk = 1) then ri 8 else ri (bif fitsW q.wk q.ws q.we then 0 else 8)) else ri (bif fitsW q.wk q.ws q.we then 0 else 8)
def kS (q : Qry) (k : Option Out) : Option Out := bif !decide (srcE q.src q.join = 0) then ri (srcE q.src q.join) else k
def kV (q : Qry) (k : Option Out) : Option Out := bif decide ((0 : Int) < (q.whr.length : Int)) then (bif !decide (chkN q.whr = 0) then ri (chkN q.whr) else kS q k) else kS q k
def kA (q : Qry) : Option Out := bif !decide (q.agg = 1) then (bif !decide (chkN q.arg = 0) then ri (chkN q.arg) else kV q (kW q)) else (bif decide ((0 : Int) < (q.arg.length : Int)) then ri 8 else kV q (kW q))
theorem tClk (q : Qry) : runT B lib14 Tryz.f32 [q.av 0 1 2] (qbs q) =
    bif decide (q.agg < 1) then ri 8 else bif decide (4 < q.agg) then ri 8 else bif !decide (q.late = 1) then (bif !decide (q.late = 2) then ri 8 else kA q) else kA q := by kernel_rfl
def kF (q : Qry) : Option Out := bif !fitsW q.wk q.ws q.we then ri 8 else bif q.join then (bif !decide (q.wk = 1) then ri 8 else ri 0) else ri 0
def kA0 (q : Qry) : Option Out := bif !decide (q.agg = 1) then (bif !decide (chkN q.arg = 0) then ri (chkN q.arg) else kV q (kF q)) else kV q (kF q)
theorem tClkR (q : Qry) : runT B lib14 Tryz.f8 [q.av 0 1 2] (qbs q) =
    bif decide (q.agg < 1) then ri 8 else bif decide (4 < q.agg) then ri 8 else bif decide (q.late < 1) then ri 8 else bif decide (2 < q.late) then ri 8 else bif decide (q.agg = 1) then (bif decide ((0 : Int) < (q.arg.length : Int)) then ri 8 else kA0 q) else kA0 q := by kernel_rfl
theorem pos_cast (n : Nat) : decide ((0 : Int) < (n : Int)) = decide (0 < n) := by
  by_cases h : 0 < n
  · rw [decide_eq_true h, decide_eq_true (by omega)]
  · rw [decide_eq_false h, decide_eq_false (by omega)]
theorem kF_is (q : Qry) : kF q = ri (bif !fitsW q.wk q.ws q.we || (q.join && !decide (q.wk = 1)) then 8 else 0) := by
  unfold kF
  cases fitsW q.wk q.ws q.we <;> cases q.join <;> cases decide (q.wk = 1) <;> rfl
theorem kW_is (q : Qry) : kW q = ri (bif !fitsW q.wk q.ws q.we || (q.join && !decide (q.wk = 1)) then 8 else 0) := by
  unfold kW
  cases fitsW q.wk q.ws q.we <;> cases q.join <;> cases decide (q.wk = 1) <;> rfl
theorem kV_is (q : Qry) (n : Int) : kV q (ri n) = ri (bif decide (0 < q.whr.length) && !decide (chkN q.whr = 0) then chkN q.whr else bif !decide (srcE q.src q.join = 0) then srcE q.src q.join else n) := by
  unfold kV kS
  rw [pos_cast]
  cases decide (0 < q.whr.length) <;> cases decide (chkN q.whr = 0) <;> cases decide (srcE q.src q.join = 0) <;> rfl
theorem clk_is (q : Qry) : runT B lib14 Tryz.f32 [q.av 0 1 2] (qbs q) = ri (clkE q) := by
  refine (tClk q).trans ?_
  unfold kA clkE
  rw [kW_is, kV_is, pos_cast]
  cases decide (q.agg < 1) <;> cases decide (4 < q.agg) <;> cases decide (q.late = 1) <;> cases decide (q.late = 2) <;> cases decide (q.agg = 1) <;> cases decide (chkN q.arg = 0) <;> cases decide (0 < q.arg.length) <;> rfl
theorem clkR_is (q : Qry) : runT B lib14 Tryz.f8 [q.av 0 1 2] (qbs q) = ri (clkE q) := by
  refine (tClkR q).trans ?_
  unfold kA0 clkE
  rw [kF_is, kV_is, pos_cast]
  have hl : (!decide (q.late = 1) && !decide (q.late = 2)) = (decide (q.late < 1) || decide (2 < q.late)) := by
    by_cases h1 : q.late < 1
    · rw [decide_eq_true h1, decide_eq_false (show ¬ q.late = 1 by omega), decide_eq_false (show ¬ q.late = 2 by omega)]; rfl
    · by_cases h2 : 2 < q.late
      · rw [decide_eq_true h2, decide_eq_false (show ¬ q.late = 1 by omega), decide_eq_false (show ¬ q.late = 2 by omega), Bool.or_true]; rfl
      · rw [decide_eq_false h1, decide_eq_false h2]
        by_cases h3 : q.late = 1
        · rw [decide_eq_true h3]; rfl
        · rw [decide_eq_false h3, decide_eq_true (show q.late = 2 by omega)]; rfl
  rw [hl]
  cases decide (q.agg < 1) <;> cases decide (4 < q.agg) <;> cases decide (q.late < 1) <;> cases decide (2 < q.late) <;> cases decide (q.agg = 1) <;> cases decide (chkN q.arg = 0) <;> cases decide (0 < q.arg.length) <;> rfl
def sClk : FSpec
  | [.agg [.int .u8 ag, .slw 0, .slw 1, .bool j, .slw 2, .int .u8 wk, .int .i64 ws, .int .i64 we, .bool bk, .int .u8 lt]], [⟨false, .nodes A⟩, ⟨false, .ints .i64 S⟩, ⟨false, .nodes W⟩] => .leaf ⟨[.int .i64 (clkE ⟨ag, A, S, j, W, wk, ws, we, bk, lt⟩)], []⟩
  | _, _ => .bad
theorem okClk : FnOk (E0 B) 32 sClk := by
  refine fnT lib14_ok Tryz.func32 (by kernel_rfl) (by kernel_rfl) fun vs bs r h => ?_
  unfold sClk at h
  split at h
  · rename_i ag j wk ws we bk lt A S W
    simp only [T.sel, Option.some.injEq] at h; subst h
    exact clk_is ⟨ag, A, S, j, W, wk, ws, we, bk, lt⟩
  · simp [T.sel] at h
theorem okClkR : FnOk (E0 B) 8 sClk := by
  refine fnT lib14_ok Tryz.func8 (by kernel_rfl) (by kernel_rfl) fun vs bs r h => ?_
  unfold sClk at h
  split at h
  · rename_i ag j wk ws we bk lt A S W
    simp only [T.sel, Option.some.injEq] at h; subst h
    exact clkR_is ⟨ag, A, S, j, W, wk, ws, we, bk, lt⟩
  · simp [T.sel] at h
noncomputable def lib15 : Tb := (32, [], sClk) :: (8, [], sClk) :: lib14
theorem lib15_ok : TbOk B lib15 := lib14_ok.add okClkR |>.add okClk
end Go.Proofs.YtdckpbeioemopabGreatDoor.Ck
namespace Go.Proofs.YtdckpbeioemopabGreatDoor.Kd
open Go.Am
set_option maxRecDepth 100000
variable {B : Nat → Option Obj}
noncomputable def bTd : Code := loopAt 4 (loopsOf (bodyC Tryz.f142))
def sgTd : LSig := { cs := [(12, 22), (13, 0), (4, 0), (5, 0)], mv := [(14, 0)], mo := [(2, 208), (3, 0)], take := [2] }
def bbl (l : List Bool) : Blk := ⟨true, .bools l⟩
def bxd (k : Nat) : Blk := ⟨true, .gen [208] [[.slw k]]⟩
def fnTk (k : Nat) : AV := .fn 174 [] [.ptr k 0 0]
def goTd (L : List Nod) (n i : Int) (I : List Bool) : Option (AExit × Out) := some (.normal, ⟨[.slw 0, i64 n, .ptr 1 0 0, fnTk 1, i64 i], [⟨false, .nodes L⟩, bxd 2, bbl I]⟩)
def exTd (I : List Bool) : Option (AExit × Out) := some (.exit 0, ⟨[.any, .any], [bxd 1, bbl I]⟩)
def bdTd (i : Int) (I : List Bool) : Option (AExit × Out) := some (.ret, ⟨[.slw 1, i64 i], [bxd 2, bbl [], bbl I]⟩)
def apTd (L : List Nod) (n i : Int) (I : List Bool) (g : Bool) : Option (AExit × Out) := bif decide (I.length + 1 ≤ lim) then goTd L n (w64 (i + 1)) (I ++ [g]) else none
def iAt (I : List Bool) (p : Int) (f : Bool → Option (AExit × Out)) : Option (AExit × Out) := bif decide (0 ≤ p ∧ p < (I.length : Int)) then (bif decide (p.toNat < I.length) then f (I.getD p.toNat false) else none) else none
def tk1 (t : Bool) (a : Int) (I : List Bool) (x y : Option (AExit × Out)) : Option (AExit × Out) := iAt I a fun v => bif !(v == t) then y else x
def tk2 (t : Bool) (a b : Int) (I : List Bool) (x y : Option (AExit × Out)) : Option (AExit × Out) := iAt I a fun v => bif !(v == t) then y else iAt I b fun u => bif !(u == t) then y else x
def kTd (L : List Nod) (n i : Int) (I : List Bool) (x : Nod) : Option (AExit × Out) :=
  bif decide (x.kind ≤ 4) then apTd L n i I false else bif decide (x.kind = 5) then tk1 false x.a I (apTd L n i I false) (bdTd i I) else bif decide (x.kind = 6) then tk1 true x.a I (apTd L n i I true) (bdTd i I)
  else bif decide (x.kind ≤ 11) then tk2 false x.a x.b I (apTd L n i I false) (bdTd i I) else bif decide (x.kind ≤ 15) then tk2 false x.a x.b I (apTd L n i I true) (bdTd i I)
  else bif decide (x.kind ≤ 17) then tk2 false x.a x.b I (apTd L n i I true) (tk2 true x.a x.b I (apTd L n i I true) (bdTd i I)) else tk2 true x.a x.b I (apTd L n i I true) (bdTd i I)
theorem turnTd (L : List Nod) (n i : Int) (I : List Bool) : (turn (E0 B) (Cx B lib5) (inlL (E0 B) (Cx B lib5) 450) 88 sgTd bTd [.slw 0, i64 n, .ptr 1 0 0, fnTk 1, i64 i] [⟨false, .nodes L⟩, bxd 2, bbl I]).sel =
    bif decide (i < n) then (bif decide (0 ≤ i ∧ i < (L.length : Int)) then (bif decide (i.toNat < L.length) then kTd L n i I (L.getD i.toNat default) else none) else none) else exTd I := by kernel_rfl
theorem iAt_is {L : List Nod} {i : Nat} {p : Int} (h0 : 0 ≤ p) (h1 : p < i) (h2 : i ≤ L.length) (f : Bool → Option (AExit × Out)) : iAt (giv L i) p f = f (givesN (kindAt L p)) := by
  unfold iAt
  rw [giv_len h2, decide_eq_true (show 0 ≤ p ∧ p < (i : Int) from ⟨h0, h1⟩), decide_eq_true (show p.toNat < i by omega), giv_at h0 h1 h2]; rfl
theorem kTd_is {L : List Nod} {n : Int} {i : Nat} {x : Nod} (hx : L[i]? = some x) (hi : i ≤ 1000) (ha : NodAt i x) :
    kTd L n i (giv L i) x = bif fitsN L x then goTd L n (i + 1) (giv L (i + 1)) else bdTd i (giv L i) := by
  have hlt := (List.getElem?_eq_some_iff.1 hx).1
  have hap : ∀ g, g = givesN x.kind → apTd L n i (giv L i) g = goTd L n (i + 1) (giv L (i + 1)) := fun g hg => by
    unfold apTd
    rw [giv_len (by omega), decide_eq_true (show i + 1 ≤ lim by simp only [lim]; omega), w64_rng (show Rng ((i : Int) + 1) by unfold Rng; omega), giv_snoc hx, hg]; rfl
  obtain ⟨h1, h2, h3, h4, h5, h6, h7, h8, h9, h10, h11, h12⟩ := ha
  have ea : 4 < x.kind → ∀ f, iAt (giv L i) x.a f = f (givesN (kindAt L x.a)) := fun h f => iAt_is h7 (h11 h) (by omega) f
  have eb : 6 < x.kind → ∀ f, iAt (giv L i) x.b f = f (givesN (kindAt L x.b)) := fun h f => iAt_is h8 (h12 h) (by omega) f
  unfold kTd fitsN tk1 tk2
  by_cases k4 : x.kind ≤ 4
  · rw [decide_eq_true k4]
    exact hap _ (by unfold givesN; rw [decide_eq_false (by omega), decide_eq_false (by omega)]; rfl)
  rw [decide_eq_false k4, cond_false, cond_false]
  by_cases k5 : x.kind = 5
  · rw [decide_eq_true k5, cond_true, cond_true, ea (by omega), hap false (by unfold givesN; rw [decide_eq_false (by omega), decide_eq_false (by omega)]; rfl)]
    cases givesN (kindAt L x.a) <;> rfl
  rw [decide_eq_false k5, cond_false, cond_false]
  by_cases k6 : x.kind = 6
  · rw [decide_eq_true k6, cond_true, cond_true, ea (by omega), hap true (by unfold givesN; rw [decide_eq_true k6]; rfl)]
    cases givesN (kindAt L x.a) <;> rfl
  rw [decide_eq_false k6, cond_false, cond_false]
  simp only [ea (show 4 < x.kind by omega), eb (show 6 < x.kind by omega)]
  by_cases k11 : x.kind ≤ 11
  · rw [decide_eq_true k11, cond_true, hap false (by unfold givesN; rw [decide_eq_false (by omega), decide_eq_false (by omega)]; rfl), decide_eq_false (show ¬ x.kind = 16 by omega), decide_eq_false (show ¬ x.kind = 17 by omega), decide_eq_false (show ¬ 18 ≤ x.kind by omega)]
    cases givesN (kindAt L x.a) <;> cases givesN (kindAt L x.b) <;> rfl
  have hg : givesN x.kind = true := by unfold givesN; rw [decide_eq_true (show 12 ≤ x.kind by omega), Bool.or_true]
  rw [decide_eq_false k11, cond_false, hap true hg.symm]
  by_cases k15 : x.kind ≤ 15
  · rw [decide_eq_true k15, decide_eq_false (show ¬ x.kind = 16 by omega), decide_eq_false (show ¬ x.kind = 17 by omega), decide_eq_false (show ¬ 18 ≤ x.kind by omega)]
    cases givesN (kindAt L x.a) <;> cases givesN (kindAt L x.b) <;> rfl
  rw [decide_eq_false k15]
  by_cases k17 : x.kind ≤ 17
  · rw [decide_eq_true k17, show (decide (x.kind = 16) || decide (x.kind = 17)) = true from by rw [Bool.or_eq_true, decide_eq_true_eq, decide_eq_true_eq]; omega]
    cases givesN (kindAt L x.a) <;> cases givesN (kindAt L x.b) <;> rfl
  · rw [decide_eq_false k17, decide_eq_false (show ¬ x.kind = 16 by omega), decide_eq_false (show ¬ x.kind = 17 by omega), decide_eq_true (show 18 ≤ x.kind by omega)]
    cases givesN (kindAt L x.a) <;> cases givesN (kindAt L x.b) <;> rfl
def endTd (L : List Nod) (w : Int) : Option (AExit × Out) := bif decide (w = (L.length : Int)) then exTd (giv L L.length) else bdTd w (giv L w.toNat)
theorem runTd (L : List Nod) (hc : chkN L = 0) : ∀ (r : List Nod) (i : Nat), L.drop i = r → i ≤ L.length →
    ∃ m, (turns (E0 B) (Cx B lib5) (inlL (E0 B) (Cx B lib5) 450) 88 sgTd bTd m [.slw 0, i64 L.length, .ptr 1 0 0, fnTk 1, i64 i] [⟨false, .nodes L⟩, bxd 2, bbl (giv L i)]).sel = endTd L (wrongGo L r i)
  | [], i, hr, hi => by
    have : L.length ≤ i := List.drop_eq_nil_iff.1 hr
    have e : i = L.length := by omega
    subst e
    refine ⟨1, (turns_done (e := .exit 0) (o := ⟨[.any, .any], [bxd 1, bbl (giv L L.length)]⟩) ((turnTd L L.length L.length (giv L L.length)).trans ?_) (by simp)).trans ?_⟩
    · rw [decide_eq_false (show ¬ ((L.length : Nat) : Int) < (L.length : Int) by omega)]; rfl
    · unfold wrongGo endTd
      rw [decide_eq_true rfl]; rfl
  | x :: r, i, hr, hi => by
    obtain ⟨d1, d2, d3⟩ := nod_at hr
    have hl := (chk_len hc).2
    have hx : L[i]? = some x := by rw [List.getElem?_eq_getElem d1]; simpa [List.getD, d1] using d2
    have ht := turnTd (B := B) L L.length i (giv L i)
    rw [decide_eq_true (show (i : Int) < (L.length : Int) by omega), decide_eq_true (show (0 : Int) ≤ (i : Int) ∧ (i : Int) < (L.length : Int) from ⟨by omega, by omega⟩), decide_eq_true (show ((i : Int)).toNat < L.length by omega),
      show ((i : Int)).toNat = i by omega, d2, kTd_is hx (by omega) (chk_at hc i x hx)] at ht
    simp only [cond_true] at ht
    unfold wrongGo
    cases hf : fitsN L x with
    | true =>
      rw [hf] at ht
      obtain ⟨m, hm⟩ := runTd L hc r (i + 1) d3 (by omega)
      exact ⟨m + 1, (turns_more' ht).trans hm⟩
    | false =>
      rw [hf] at ht
      refine ⟨1, (turns_done ht (by simp)).trans ?_⟩
      unfold endTd
      simp only [cond_false]
      rw [decide_eq_false (show ¬ (i : Int) = (L.length : Int) by omega), show ((i : Int)).toNat = i by omega]; rfl
def okTd (f t u : Nat) (L : List Nod) (n i : Int) (I : List Bool) : Bool := Nat.beq f 174 && (Nat.beq t 208 && (Nat.beq u 0 && decide (chkN L = 0 ∧ n = (L.length : Int) ∧ i = 0 ∧ I = [])))
def spTd : LSpec
  | [.slw 0, .int .i64 n, .ptr 1 0 0, .fn f [] [.ptr 1 0 u], .int .i64 i], [⟨false, .nodes L⟩, ⟨true, .gen [t] [[.slw 2]]⟩, ⟨true, .bools I⟩] => .node (okTd f t u L n i I)
      (.node (decide (wrongN L = (L.length : Int))) (.leaf (.exit 0, ⟨[.any, .any], [bxd 1, bbl (giv L L.length)]⟩)) (.leaf (.ret, ⟨[.slw 1, i64 (wrongN L)], [bxd 2, bbl [], bbl (giv L (wrongN L).toNat)]⟩))) .bad
  | _, _ => .bad
theorem loopTd : LoopOk (E0 B) 88 sgTd bTd spTd := by
  refine loop_turns (C := Cx B lib5) (L := inlL (E0 B) (Cx B lib5) 450) (cxOk lib5_ok) (inl_ok (cxOk lib5_ok) 450 _) fun vs bs e o h => ?_
  unfold spTd at h
  split at h
  · rename_i n f u i L t I
    rcases T.node_sel h with ⟨hc, h2⟩ | ⟨_, h2⟩
    · unfold okTd at hc
      simp only [Bool.and_eq_true] at hc
      obtain ⟨hf, ht, hu, hk⟩ := hc
      obtain ⟨hk', rfl, rfl, rfl⟩ := of_decide_eq_true hk
      have hf := Nat.eq_of_beq_eq_true hf
      have ht := Nat.eq_of_beq_eq_true ht
      have hu := Nat.eq_of_beq_eq_true hu
      subst hf; subst ht; subst hu
      obtain ⟨m, hm⟩ := runTd (B := B) L hk' L 0 rfl (Nat.zero_le _)
      refine ⟨m, hm.trans ?_⟩
      rw [← h2]
      unfold endTd
      show (bif decide (wrongN L = (L.length : Int)) then exTd (giv L L.length) else bdTd (wrongN L) (giv L (wrongN L).toNat)) = _
      simp only [T.sel]
      cases decide (wrongN L = (L.length : Int)) <;> rfl
    · simp [T.sel] at h2
  · simp [T.sel] at h
noncomputable def eTd : LEnt := { id := 4, n := 88, sg := sgTd, wr := writes bTd, s := spTd }
def tdL (L : List Nod) : List Bool := bif decide (wrongN L = (L.length : Int)) then giv L L.length else []
theorem tTold (L : List Nod) : runM B lib5 [eTd] Tryz.f142 [.slw 0] [⟨false, .nodes L⟩] =
    bif okTd 174 208 0 L L.length 0 [] then (bif decide (wrongN L = (L.length : Int)) then some ⟨[.slw 0, i64 L.length], [bbl (giv L L.length)]⟩ else some ⟨[.slw 0, i64 (wrongN L)], [bbl []]⟩) else none := by kernel_rfl
def sTold : FSpec
  | [.slw 0], [⟨false, .nodes L⟩] => .node (decide (chkN L = 0)) (.leaf ⟨[.slw 0, .int .i64 (wrongN L)], [bbl (tdL L)]⟩) .bad
  | _, _ => .bad
theorem okTold : FnOk (E0 B) 142 sTold := by
  refine fnM lib5_ok (ls := [eTd]) Tryz.func142 (by kernel_rfl) (by kernel_rfl) (fun x hx => ?_) fun vs bs r h => ?_
  · simp only [List.mem_singleton] at hx; subst hx
    exact ⟨bTd, by kernel_rfl, rfl, loopTd⟩
  unfold sTold at h
  split at h
  · rename_i L
    rcases T.node_sel h with ⟨hc, h2⟩ | ⟨_, h2⟩
    · simp only [T.sel, Option.some.injEq] at h2; subst h2
      refine (tTold L).trans ?_
      unfold okTd tdL
      rw [decide_eq_true (show chkN L = 0 ∧ (L.length : Int) = (L.length : Int) ∧ (0 : Int) = 0 ∧ ([] : List Bool) = [] from ⟨of_decide_eq_true hc, rfl, rfl, rfl⟩)]
      by_cases hw : wrongN L = (L.length : Int)
      · rw [decide_eq_true hw, hw]; rfl
      · rw [decide_eq_false hw]; rfl
    · simp [T.sel] at h2
  · simp [T.sel] at h
noncomputable def lib6 : Tb := (142, [], sTold) :: lib5
theorem lib6_ok : TbOk B lib6 := lib5_ok.add okTold
def rOf (b : Bool) (a e : Int) : Option Out := some ⟨[.bool b, i64 a, i64 e], []⟩
theorem tOf (L : List Nod) : runT B lib6 Tryz.f113 [.slw 0] [⟨false, .nodes L⟩] =
    bif !decide (chkN L = 0) then rOf false 0 (chkN L) else bif decide (chkN L = 0) then (bif decide (wrongN L < (L.length : Int)) then rOf false (wrongN L) 42 else
      bif decide (0 ≤ w64 (wrongN L - 1) ∧ w64 (wrongN L - 1) < ((tdL L).length : Int)) then (bif decide ((w64 (wrongN L - 1)).toNat < (tdL L).length) then rOf ((tdL L).getD (w64 (wrongN L - 1)).toNat false) (w64 (wrongN L - 1)) 0 else none) else none) else none := by kernel_rfl
def sOf : FSpec
  | [.slw 0], [⟨false, .nodes L⟩] => .leaf ⟨[.bool (kOf L).1, .int .i64 (kOf L).2.1, .int .i64 (kOf L).2.2], []⟩
  | _, _ => .bad
theorem of_is (L : List Nod) : runT B lib6 Tryz.f113 [.slw 0] [⟨false, .nodes L⟩] = rOf (kOf L).1 (kOf L).2.1 (kOf L).2.2 := by
  refine (tOf L).trans ?_
  unfold kOf
  by_cases hc : chkN L = 0
  · rw [decide_eq_true hc]
    simp only [Bool.not_true, cond_false, cond_true]
    by_cases hw : wrongN L < (L.length : Int)
    · rw [decide_eq_true hw]; rfl
    · obtain ⟨l1, l2⟩ := chk_len hc
      have hw2 := wrongN_le L
      have e : wrongN L = (L.length : Int) := by omega
      rw [decide_eq_false hw, e]
      unfold tdL
      rw [decide_eq_true e, cond_true, giv_len (Nat.le_refl _), w64_rng (show Rng ((L.length : Int) - 1) by unfold Rng; omega), decide_eq_true (show 0 ≤ (L.length : Int) - 1 ∧ (L.length : Int) - 1 < (L.length : Int) from ⟨by omega, by omega⟩),
        decide_eq_true (show ((L.length : Int) - 1).toNat < L.length by omega), giv_at (by omega) (by omega) (Nat.le_refl _)]
      rfl
  · rw [decide_eq_false hc]; rfl
theorem okOf : FnOk (E0 B) 113 sOf := by
  refine fnT lib6_ok Tryz.func113 (by kernel_rfl) (by kernel_rfl) fun vs bs r h => ?_
  unfold sOf at h
  split at h
  · simp only [T.sel, Option.some.injEq] at h; subst h
    exact of_is _
  · simp [T.sel] at h
noncomputable def lib7 : Tb := (113, [], sOf) :: lib6
end Go.Proofs.YtdckpbeioemopabGreatDoor.Kd
namespace Go.Proofs.YtdckpbeioemopabGreatDoor.Ck
open Go.Am Go.Proofs.YtdckpbeioemopabGreatDoor.Kd
set_option maxRecDepth 100000
variable {B : Nat → Option Obj}
def nb (L : List Nod) : Blk := ⟨false, .nodes L⟩
def ndN (L : List Nod) (i : Int) : Option (AExit × Out) := some (.normal, ⟨[.slw 0, i64 (w64 (i + 1))], [nb L]⟩)
noncomputable def lb0 : Tb := (113, [], sOf) :: lib15
theorem lb0_ok : TbOk B lb0 := lib15_ok.add okOf
theorem tGv (k : Int) : runT B lb0 Tryz.f150 [.int .u8 k] [] = bif decide (k = 6) then rb true else rb (decide (12 ≤ k)) := by kernel_rfl
def sGv : FSpec
  | [.int .u8 k], [] => .leaf ⟨[.bool (givesN k)], []⟩
  | _, _ => .bad
theorem okGives : FnOk (E0 B) 150 sGv := by
  refine fnT lb0_ok Tryz.func150 (by kernel_rfl) (by kernel_rfl) fun vs bs r h => ?_
  unfold sGv at h
  split at h
  · rename_i k
    simp only [T.sel, Option.some.injEq] at h; subst h
    refine (tGv k).trans ?_
    unfold givesN
    cases decide (k = 6) <;> rfl
  · simp [T.sel] at h
noncomputable def lb1 : Tb := (150, [], sGv) :: lb0
theorem lb1_ok : TbOk B lb1 := lb0_ok.add okGives
def fB (k : Int) (a b : Bool) : Option Out := bif decide (k ≤ 4) then rb true else bif decide (k = 5) then rb (!a) else bif decide (k = 6) then rb a else bif decide (k = 16) then rb (a == b) else bif decide (k = 17) then rb (a == b) else
  bif decide (18 ≤ k) then (bif a then rb b else rb false) else (bif !a then rb (!b) else rb false)
theorem tFits (L : List Nod) (i : Int) : runT B lb1 Tryz.f177 [.slw 0, i64 i] [nb L] =
    inb i L.length (inb (L.getD i.toNat default).a L.length (inb (L.getD i.toNat default).b L.length (fB (L.getD i.toNat default).kind (givesN (kindAt L (L.getD i.toNat default).a)) (givesN (kindAt L (L.getD i.toNat default).b))))) := by kernel_rfl
theorem fB_is (L : List Nod) (x : Nod) : fB x.kind (givesN (kindAt L x.a)) (givesN (kindAt L x.b)) = rb (fitsN L x) := by
  unfold fB fitsN
  generalize givesN (kindAt L x.a) = a
  generalize givesN (kindAt L x.b) = b
  cases decide (x.kind ≤ 4) with
  | true => rfl
  | false =>
    cases decide (x.kind = 5) with
    | true => rfl
    | false =>
      cases decide (x.kind = 6) with
      | true => rfl
      | false => cases decide (x.kind = 16) <;> cases decide (x.kind = 17) <;> cases decide (18 ≤ x.kind) <;> cases a <;> cases b <;> rfl
def sFits : FSpec
  | [.slw 0, .int .i64 i], [⟨false, .nodes L⟩] => .node (decide (chkN L = 0 ∧ 0 ≤ i ∧ i < (L.length : Int))) (.leaf ⟨[.bool (fitsN L (L.getD i.toNat default))], []⟩) .bad
  | _, _ => .bad
theorem okFits : FnOk (E0 B) 177 sFits := by
  refine fnT lb1_ok Tryz.func177 (by kernel_rfl) (by kernel_rfl) fun vs bs r h => ?_
  unfold sFits at h
  split at h
  · rename_i i L
    rcases T.node_sel h with ⟨hc, h2⟩ | ⟨_, h2⟩
    · simp only [T.sel, Option.some.injEq] at h2; subst h2
      obtain ⟨hv, h0, h1⟩ := of_decide_eq_true hc
      obtain ⟨j, rfl⟩ : ∃ j : Nat, i = (j : Int) := ⟨i.toNat, by omega⟩
      have hj : j < L.length := by omega
      have hat := chk_at hv j _ (List.getElem?_eq_getElem hj)
      refine (tFits L j).trans ?_
      have ex : L.getD ((j : Int)).toNat default = L[j] := by rw [show ((j : Int)).toNat = j by omega]; simp [List.getD, hj]
      rw [inb_is hj, ex]
      have ea : L[j].a < (j : Int) ∨ L[j].a = 0 := by
        by_cases h : 4 < L[j].kind
        · exact .inl (hat.ai h)
        · exact .inr (hat.az (by omega))
      have eb : L[j].b < (j : Int) ∨ L[j].b = 0 := by
        by_cases h : 6 < L[j].kind
        · exact .inl (hat.bi h)
        · exact .inr (hat.bz (by omega))
      have a0 := hat.a0
      have b0 := hat.b0
      have ha : inb L[j].a L.length (inb L[j].b L.length (fB L[j].kind (givesN (kindAt L L[j].a)) (givesN (kindAt L L[j].b)))) = fB L[j].kind (givesN (kindAt L L[j].a)) (givesN (kindAt L L[j].b)) := by
        unfold inb
        rw [decide_eq_true (show 0 ≤ L[j].a ∧ L[j].a < (L.length : Int) from ⟨a0, by omega⟩), decide_eq_true (show L[j].a.toNat < L.length by omega), decide_eq_true (show 0 ≤ L[j].b ∧ L[j].b < (L.length : Int) from ⟨b0, by omega⟩), decide_eq_true (show L[j].b.toNat < L.length by omega)]
        rfl
      rw [ha, fB_is]; rfl
    · simp [T.sel] at h2
  · simp [T.sel] at h
noncomputable def lb2 : Tb := (177, [], sFits) :: lb1
theorem lb2_ok : TbOk B lb2 := lb1_ok.add okFits
noncomputable def bWr : Code := loopAt 2 (loopsOf (bodyC Tryz.f149))
def sgWr : LSig := { cs := [(0, 22)], mv := [(3, 0)], mo := [(2, 0)], take := [] }
theorem turnWr (L : List Nod) (i : Int) : (turn (E0 B) (Cx B lb2) noL 17 sgWr bWr [.slw 0, i64 i] [nb L]).sel =
    bif decide (i < (L.length : Int)) then (bif decide (chkN L = 0 ∧ 0 ≤ i ∧ i < (L.length : Int)) then (bif !fitsN L (L.getD i.toNat default) then some (.ret, ⟨[i64 i], []⟩) else ndN L i) else none) else some (.exit 0, ⟨[.any], []⟩) := by kernel_rfl
theorem wrong_first (L : List Nod) : ∀ (r : List Nod) (i : Nat), wrongGo L r i = ((i + firstL (fun x => !fitsN L x) r : Nat) : Int)
  | [], i => rfl
  | x :: r, i => by
    unfold wrongGo firstL
    cases fitsN L x with
    | true => simp only [Bool.not_true, cond_true, cond_false]; rw [show ((i : Int) + 1) = ((i + 1 : Nat) : Int) from rfl, wrong_first L r (i + 1)]; omega
    | false => rfl
def spWr : LSpec
  | [.slw 0, .int .i64 i], [⟨false, .nodes L⟩] => .node (decide (chkN L = 0 ∧ i = 0)) (.node (decide (wrongN L < (L.length : Int))) (.leaf (.ret, ⟨[i64 (wrongN L)], []⟩)) (.leaf (.exit 0, ⟨[.any], []⟩))) .bad
  | _, _ => .bad
theorem loopWr : LoopOk (E0 B) 17 sgWr bWr spWr := by
  refine loop_turns (C := Cx B lb2) (L := noL) (cxOk lb2_ok) (noL_ok _) fun vs bs e o h => ?_
  unfold spWr at h
  split at h
  · rename_i i L
    rcases T.node_sel h with ⟨hc, h2⟩ | ⟨_, h2⟩
    · obtain ⟨hv, rfl⟩ := of_decide_eq_true hc
      have hl := chk_len hv
      obtain ⟨m, hm⟩ := scan_turns (E := E0 B) (C := Cx B lb2) (L := noL) (n := 17) (sg := sgWr) (body := bWr) (st := fun i => [.slw 0, i64 i]) (bs := [nb L]) (len := L.length)
        (bad := fun j => !fitsN L (L.getD j default)) (ob := fun j => ⟨[i64 j], []⟩) (k := 0) (oe := ⟨[.any], []⟩) (fun i hi => by
          rw [turnWr]
          by_cases h : i < L.length
          · rw [decide_eq_true h, decide_eq_true (show (i : Int) < (L.length : Int) by omega), cond_true, decide_eq_true (show chkN L = 0 ∧ (0 : Int) ≤ (i : Int) ∧ (i : Int) < (L.length : Int) from ⟨hv, by omega, by omega⟩)]
            unfold ndN
            rw [w64_rng (show Rng ((i : Int) + 1) by unfold Rng; omega), show ((i : Int)).toNat = i by omega]; rfl
          · rw [decide_eq_false h, decide_eq_false (show ¬ (i : Int) < (L.length : Int) by omega)]; rfl) L.length 0 (by omega)
      refine ⟨m, hm.trans ?_⟩
      have e1 : wrongN L = (firstL (fun x => !fitsN L x) L : Nat) := by
        have := wrong_first L L 0
        rw [Nat.zero_add] at this
        exact this
      rw [firstB_list (fun x => !fitsN L x) L L 0 rfl, Nat.zero_add, ← h2]
      simp only [e1, T.sel]
      by_cases h : firstL (fun x => !fitsN L x) L < L.length
      · rw [decide_eq_true h, decide_eq_true (show ((firstL (fun x => !fitsN L x) L : Nat) : Int) < (L.length : Int) by omega)]
      · rw [decide_eq_false h, decide_eq_false (show ¬ ((firstL (fun x => !fitsN L x) L : Nat) : Int) < (L.length : Int) by omega)]
    · simp [T.sel] at h2
  · simp [T.sel] at h
noncomputable def eWr : LEnt := { id := 2, n := 17, sg := sgWr, wr := writes bWr, s := spWr }
theorem tWrong (L : List Nod) : runL B lb2 [eWr] Tryz.f149 [.slw 0] [nb L] =
    bif decide (chkN L = 0 ∧ (0 : Int) = 0) then (bif decide (wrongN L < (L.length : Int)) then ri (wrongN L) else ri L.length) else none := by kernel_rfl
def sWrong : FSpec
  | [.slw 0], [⟨false, .nodes L⟩] => .node (decide (chkN L = 0)) (.leaf ⟨[.int .i64 (wrongN L)], []⟩) .bad
  | _, _ => .bad
theorem okWrong : FnOk (E0 B) 149 sWrong := by
  refine fnL lb2_ok (ls := [eWr]) Tryz.func149 (by kernel_rfl) (by kernel_rfl) (fun x hx => ?_) fun vs bs r h => ?_
  · simp only [List.mem_singleton] at hx; subst hx
    exact ⟨bWr, by kernel_rfl, rfl, loopWr⟩
  unfold sWrong at h
  split at h
  · rename_i L
    rcases T.node_sel h with ⟨hc, h2⟩ | ⟨_, h2⟩
    · simp only [T.sel, Option.some.injEq] at h2; subst h2
      have hc := of_decide_eq_true hc
      refine (tWrong L).trans ?_
      rw [decide_eq_true (show chkN L = 0 ∧ (0 : Int) = 0 from ⟨hc, rfl⟩)]
      by_cases h : wrongN L < (L.length : Int)
      · rw [decide_eq_true h]; rfl
      · have := wrongN_le L
        rw [decide_eq_false h, show wrongN L = (L.length : Int) by omega]; rfl
    · simp [T.sel] at h2
  · simp [T.sel] at h
noncomputable def lb3 : Tb := (149, [], sWrong) :: lb2
theorem lb3_ok : TbOk B lb3 := lb2_ok.add okWrong
theorem tOfR (L : List Nod) : runT B lb3 Tryz.f125 [.slw 0] [nb L] =
    bif !decide (chkN L = 0) then rOf false 0 (chkN L) else bif decide (chkN L = 0) then (bif decide (wrongN L < (L.length : Int)) then rOf false (wrongN L) 42 else
      inb (w64 ((L.length : Int) - 1)) L.length (rOf (givesN (kindAt L (w64 ((L.length : Int) - 1)))) (w64 ((L.length : Int) - 1)) 0)) else none := by kernel_rfl
theorem ofR_is (L : List Nod) : runT B lb3 Tryz.f125 [.slw 0] [nb L] = rOf (kOf L).1 (kOf L).2.1 (kOf L).2.2 := by
  refine (tOfR L).trans ?_
  unfold kOf
  by_cases hc : chkN L = 0
  · rw [decide_eq_true hc]
    simp only [Bool.not_true, cond_false, cond_true]
    by_cases hw : wrongN L < (L.length : Int)
    · rw [decide_eq_true hw]; rfl
    · obtain ⟨l1, l2⟩ := chk_len hc
      rw [decide_eq_false hw, w64_rng (show Rng ((L.length : Int) - 1) by unfold Rng; omega), show (L.length : Int) - 1 = ((L.length - 1 : Nat) : Int) by omega, inb_is (by omega)]
      unfold lastK
      rw [show (L.length : Int) - 1 = ((L.length - 1 : Nat) : Int) by omega]; rfl
  · rw [decide_eq_false hc]; rfl
theorem okOfR : FnOk (E0 B) 125 sOf := by
  refine fnT lb3_ok Tryz.func125 (by kernel_rfl) (by kernel_rfl) fun vs bs r h => ?_
  unfold sOf at h
  split at h
  · simp only [T.sel, Option.some.injEq] at h; subst h
    exact ofR_is _
  · simp [T.sel] at h
noncomputable def lb4 : Tb := (125, [], sOf) :: lb3
theorem lb4_ok : TbOk B lb4 := lb3_ok.add okOfR
def rW (L : List Nod) (e : Int) : Option Out := some ⟨[i64 (kOf L).2.1, i64 e], []⟩
def wantT (L : List Nod) (t : Bool) : Option Out := bif decide ((kOf L).2.2 = 0) then (bif !((kOf L).1 == t) then rW L 42 else rW L (kOf L).2.2) else rW L (kOf L).2.2
theorem tWant (L : List Nod) (t : Bool) : runT B lb4 Tryz.f77 [.slw 0, .bool t] [nb L] = wantT L t := by kernel_rfl
theorem tWantR (L : List Nod) (t : Bool) : runT B lb4 Tryz.f86 [.slw 0, .bool t] [nb L] = wantT L t := by kernel_rfl
theorem want_is (L : List Nod) (t : Bool) : wantT L t = some ⟨[i64 (kWant L t).1, i64 (kWant L t).2], []⟩ := by
  unfold wantT kWant rW
  cases decide ((kOf L).2.2 = 0) <;> cases (kOf L).1 == t <;> rfl
def sWant : FSpec
  | [.slw 0, .bool t], [⟨false, .nodes L⟩] => .leaf ⟨[.int .i64 (kWant L t).1, .int .i64 (kWant L t).2], []⟩
  | _, _ => .bad
theorem okWant : FnOk (E0 B) 77 sWant := by
  refine fnT lb4_ok Tryz.func77 (by kernel_rfl) (by kernel_rfl) fun vs bs r h => ?_
  unfold sWant at h
  split at h
  · simp only [T.sel, Option.some.injEq] at h; subst h
    exact (tWant _ _).trans (want_is _ _)
  · simp [T.sel] at h
theorem okWantR : FnOk (E0 B) 86 sWant := by
  refine fnT lb4_ok Tryz.func86 (by kernel_rfl) (by kernel_rfl) fun vs bs r h => ?_
  unfold sWant at h
  split at h
  · simp only [T.sel, Option.some.injEq] at h; subst h
    exact (tWantR _ _).trans (want_is _ _)
  · simp [T.sel] at h
noncomputable def lb5 : Tb := (77, [], sWant) :: (86, [], sWant) :: lb4
theorem lb5_ok : TbOk B lb5 := lb4_ok.add okWantR |>.add okWant
def r2 (a e : Int) : Option Out := some ⟨[i64 a, i64 e], []⟩
def wAt (L : List Nod) (t : Bool) (k : Option Out) : Option Out := bif !decide ((kWant L t).2 = 0) then inb (kWant L t).1 L.length (r2 (L.getD (kWant L t).1.toNat default).pos (kWant L t).2) else k
def wQ (q : Qry) : Option Out := bif decide ((q.whr.length : Int) = 0) then r2 0 0 else wAt q.whr true (r2 0 0)
theorem tChk (q : Qry) : runT B lb5 Tryz.f13 [q.av 0 1 2] (qbs q) =
    bif !decide (clkE q = 0) then r2 0 (clkE q) else bif decide ((q.arg.length : Int) = 0) then wQ q else wAt q.arg false (wQ q) := by kernel_rfl
def wQR (q : Qry) : Option Out := bif decide ((0 : Int) < (q.whr.length : Int)) then wAt q.whr true (r2 0 0) else r2 0 0
theorem kOf_at {L : List Nod} (h : chkN L = 0) : 0 ≤ (kOf L).2.1 ∧ (kOf L).2.1 < (L.length : Int) := by
  unfold kOf
  rw [decide_eq_true h]
  have hl := chk_len h
  have hw := wrongN_le L
  by_cases hc : wrongN L < (L.length : Int)
  · rw [decide_eq_true hc]; exact ⟨hw.1, hc⟩
  · rw [decide_eq_false hc]; exact ⟨by show (0 : Int) ≤ (L.length : Int) - 1; omega, by show (L.length : Int) - 1 < L.length; omega⟩
theorem wAt_is {L : List Nod} (h : chkN L = 0) (t : Bool) (k : Option Out) : wAt L t k = bif !decide ((kWant L t).2 = 0) then r2 (posAt L (kWant L t).1) (kWant L t).2 else k := by
  unfold wAt inb
  obtain ⟨h1, h2⟩ := kOf_at h
  have e : (kWant L t).1 = (kOf L).2.1 := rfl
  rw [e, decide_eq_true (show 0 ≤ (kOf L).2.1 ∧ (kOf L).2.1 < (L.length : Int) from ⟨h1, h2⟩), decide_eq_true (show (kOf L).2.1.toNat < L.length by omega)]; rfl
theorem clk_arg {q : Qry} (h : clkE q = 0) (hp : 0 < q.arg.length) : chkN q.arg = 0 := by
  unfold clkE at h
  cases h1 : (decide (q.agg < 1) || decide (4 < q.agg) || (!decide (q.late = 1) && !decide (q.late = 2))) with
  | true => rw [h1] at h; cases h
  | false =>
    rw [h1, decide_eq_true hp] at h
    cases h2 : decide (q.agg = 1) with
    | true => rw [h2] at h; cases h
    | false =>
      rw [h2] at h
      cases h3 : decide (chkN q.arg = 0) with
      | true => exact of_decide_eq_true h3
      | false => rw [h3] at h; exact h
theorem clk_whr {q : Qry} (h : clkE q = 0) (hp : 0 < q.whr.length) : chkN q.whr = 0 := by
  unfold clkE at h
  cases h1 : (decide (q.agg < 1) || decide (4 < q.agg) || (!decide (q.late = 1) && !decide (q.late = 2))) with
  | true => rw [h1] at h; cases h
  | false =>
    rw [h1, decide_eq_true hp] at h
    cases h3 : decide (chkN q.whr = 0) with
    | true => exact of_decide_eq_true h3
    | false =>
      rw [h3] at h
      have h3 := of_decide_eq_false h3
      cases h4 : (decide (q.agg = 1) && decide (0 < q.arg.length)) with
      | true => rw [h4] at h; cases h
      | false =>
        rw [h4] at h
        cases h5 : (!decide (q.agg = 1) && !decide (chkN q.arg = 0)) with
        | true =>
          rw [h5] at h
          rw [Bool.and_eq_true] at h5
          have := of_decide_eq_false (by simpa using h5.2 : decide (chkN q.arg = 0) = false)
          exact (this h).elim
        | false => rw [h5] at h; exact h
theorem ck_core {q : Qry} (h : clkE q = 0) : (bif decide (0 < q.arg.length) then wAt q.arg false (bif decide (0 < q.whr.length) then wAt q.whr true (r2 0 0) else r2 0 0) else (bif decide (0 < q.whr.length) then wAt q.whr true (r2 0 0) else r2 0 0)) = r2 (ckR q).1 (ckR q).2 := by
  have hw : (bif decide (0 < q.whr.length) then wAt q.whr true (r2 0 0) else r2 0 0) = r2 (ckW q).1 (ckW q).2 := by
    unfold ckW
    cases hp : decide (0 < q.whr.length) with
    | false => rfl
    | true =>
      rw [cond_true, wAt_is (clk_whr h (of_decide_eq_true hp))]
      cases decide ((kWant q.whr true).2 = 0) <;> rfl
  rw [hw]
  unfold ckR
  cases hp : decide (0 < q.arg.length) with
  | false => rfl
  | true =>
    rw [cond_true, wAt_is (clk_arg h (of_decide_eq_true hp))]
    cases decide ((kWant q.arg false).2 = 0) <;> rfl
theorem len0 {α : Type} (L : List Nod) (a b : α) : (bif decide ((L.length : Int) = 0) then a else b) = bif decide (0 < L.length) then b else a := by
  by_cases h : 0 < L.length
  · rw [decide_eq_true h, decide_eq_false (by omega)]; rfl
  · rw [decide_eq_false h, decide_eq_true (by omega)]; rfl
theorem chk_is (q : Qry) : runT B lb5 Tryz.f13 [q.av 0 1 2] (qbs q) = r2 (ckE q).1 (ckE q).2 := by
  refine (tChk q).trans ?_
  unfold wQ ckE
  rw [len0, len0]
  by_cases h : clkE q = 0
  · rw [decide_eq_true h]; exact ck_core h
  · rw [decide_eq_false h]; rfl
def sChk : FSpec
  | [.agg [.int .u8 ag, .slw 0, .slw 1, .bool j, .slw 2, .int .u8 wk, .int .i64 ws, .int .i64 we, .bool bk, .int .u8 lt]], [⟨false, .nodes A⟩, ⟨false, .ints .i64 S⟩, ⟨false, .nodes W⟩] =>
    .leaf ⟨[.int .i64 (ckE ⟨ag, A, S, j, W, wk, ws, we, bk, lt⟩).1, .int .i64 (ckE ⟨ag, A, S, j, W, wk, ws, we, bk, lt⟩).2], []⟩
  | _, _ => .bad
theorem okChk : FnOk (E0 B) 13 sChk := by
  refine fnT lb5_ok Tryz.func13 (by kernel_rfl) (by kernel_rfl) fun vs bs r h => ?_
  unfold sChk at h
  split at h
  · rename_i ag j wk ws we bk lt A S W
    simp only [T.sel, Option.some.injEq] at h; subst h
    exact chk_is ⟨ag, A, S, j, W, wk, ws, we, bk, lt⟩
  · simp [T.sel] at h
end Go.Proofs.YtdckpbeioemopabGreatDoor.Ck
