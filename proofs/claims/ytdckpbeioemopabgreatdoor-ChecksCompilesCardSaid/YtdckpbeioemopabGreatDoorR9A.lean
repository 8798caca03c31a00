/-
  Texts put together: R9Tx, R9On, R9Ex, R9Nm.
-/
import Derived.Test.YtdckpbeioemopabGreatDoorR5C
import Derived.Test.YtdckpbeioemopabGreatDoorParB
namespace Go.Proofs.YtdckpbeioemopabGreatDoor.R9
open Go.Am Go Go.Proofs.YtdckpbeioemopabGreatDoor Go.Proofs.YtdckpbeioemopabGreatDoor.Pr
set_option maxRecDepth 100000
variable {B : Nat → Option Obj}
def rTy : List TypeId := [9, 51, 3, 5, 22, 23, 4, 22, 5, 2, 2, 4, 5, 3]
def rx (k x y z : Nat) (s : List UInt8) (a g : Int) (j : Bool) (wk ws we : Int) (bk : Bool) (lt e : Int) : Blk := ⟨true, .gen rTy [[.str s, .slw k, i64 a, .int .u8 g, .slw x, .slw y, .bool j, .slw z, .int .u8 wk, i64 ws, i64 we, .bool bk, .int .u8 lt, i64 e]]⟩
def rp (s : List UInt8) (L : List Tok) (a : Int) (g : Int) (A : List Nod) (S : List Int) (j : Bool) (W : List Nod) (wk ws we : Int) (bk : Bool) (lt : Int) (e : Int) : List Blk := [rx 1 2 3 4 s a g j wk ws we bk lt e, tb L, nb true A, lb true S, nb true W]
def rq (s : List UInt8) (L : List Tok) (a : Int) (q : Qry) (e : Int) : List Blk := rp s L a q.agg q.arg q.src q.join q.whr q.wk q.ws q.we q.byKey q.late e
def rG (ty : List TypeId) (L : List Tok) (a e : Int) : Bool := sameTys ty rTy && decide (0 ≤ e ∧ 0 ≤ a ∧ a ≤ (L.length : Int) ∧ L.length ≤ 1000)
theorem rG_is {ty : List TypeId} {L : List Tok} {a e : Int} (h : rG ty L a e = true) : ty = rTy ∧ 0 ≤ e ∧ 0 ≤ a ∧ a ≤ (L.length : Int) ∧ L.length ≤ 1000 := by
  unfold rG at h
  rw [Bool.and_eq_true] at h
  exact ⟨sameTys_eq h.1, of_decide_eq_true h.2⟩
def tx9 (L : List Tok) (a e : Int) : List UInt8 := bif decide (e = 0) then (bif decide ((L.length : Int) ≤ a) then [] else bif decide ((tkA L a).kind = 1) then [48] else (tkA L a).text) else []
def sTx : FSpec
  | [.ptr 0 0 0], [⟨true, .gen ty [[.str s, .slw 1, .int .i64 a, .int .u8 g, .slw 2, .slw 3, .bool j, .slw 4, .int .u8 wk, .int .i64 ws, .int .i64 we, .bool bk, .int .u8 lt, .int .i64 e]]⟩, ⟨false, .toks L⟩, ⟨true, .nodes A⟩, ⟨true, .ints .i64 S⟩, ⟨true, .nodes W⟩] => .node (rG ty L a e) (.leaf ⟨[.str (tx9 L a e)], rp s L a g A S j W wk ws we bk lt e⟩) .bad
  | _, _ => .bad
def txR (s : List UInt8) (L : List Tok) (a : Int) (q : Qry) (e : Int) (t : List UInt8) : Option Out := some ⟨[.str t], rq s L a q e⟩
theorem tTx0 (s : List UInt8) (L : List Tok) (a : Int) (q : Qry) : runT B [] Tryz.f146 [.ptr 0 0 0] (rq s L a q 0) =
    bif decide ((L.length : Int) ≤ a) then txR s L a q 0 [] else Ck.inb a L.length (bif decide ((tkA L a).kind = 1) then txR s L a q 0 [48] else Ck.inb a L.length (txR s L a q 0 (tkA L a).text)) := by kernel_rfl
theorem tTxE (s : List UInt8) (L : List Tok) (a : Int) (q : Qry) (m : Nat) : runT B [] Tryz.f146 [.ptr 0 0 0] (rq s L a q (Int.ofNat (m + 1))) = txR s L a q (Int.ofNat (m + 1)) [] := by kernel_rfl
theorem e_is {e : Int} (h : 0 ≤ e) : e = 0 ∨ ∃ m : Nat, e = Int.ofNat (m + 1) := by
  obtain ⟨n, rfl⟩ : ∃ n : Nat, e = n := ⟨e.toNat, by omega⟩
  cases n with
  | zero => exact .inl rfl
  | succ m => exact .inr ⟨m, rfl⟩
theorem inb_a {a : Int} {n : Nat} (h0 : 0 ≤ a) (h1 : a < (n : Int)) (z : Option Out) : Ck.inb a n z = z := by
  obtain ⟨m, rfl⟩ : ∃ m : Nat, a = m := ⟨a.toNat, by omega⟩
  exact Ck.inb_is (show m < n by omega) z
theorem okTx : FnOk (E0 B) 146 sTx := by
  refine fnT TbOk.nil Tryz.func146 (by kernel_rfl) (by kernel_rfl) fun vs bs r h => ?_
  unfold sTx at h
  split at h
  · rename_i ty s a g j wk ws we bk lt e L A S W
    rcases T.node_sel h with ⟨hc, h2⟩ | ⟨_, h2⟩
    · obtain ⟨rfl, he, h0, h1, h3⟩ := rG_is hc
      simp only [T.sel, Option.some.injEq] at h2; subst h2
      rcases e_is he with rfl | ⟨m, rfl⟩
      · refine (tTx0 s L a ⟨g, A, S, j, W, wk, ws, we, bk, lt⟩).trans ?_
        unfold tx9
        rw [decide_eq_true (rfl : (0 : Int) = 0), cond_true]
        by_cases hl : (L.length : Int) ≤ a
        · rw [decide_eq_true hl]; rfl
        · rw [decide_eq_false hl, inb_a h0 (by omega), inb_a h0 (by omega)]
          cases decide ((tkA L a).kind = 1) <;> rfl
      · exact tTxE s L a ⟨g, A, S, j, W, wk, ws, we, bk, lt⟩ m
    · simp [T.sel] at h2
  · simp [T.sel] at h
noncomputable def lib1 : Tb := (146, [2, 3, 4], sTx) :: []
theorem lib1_ok : TbOk B lib1 := TbOk.nil.add okTx
def okT (t : List UInt8) : Bool := decide (t ≠ [] ∧ t ≠ [48])
def sIs : FSpec
  | [.ptr 0 0 0, .str t], [⟨true, .gen ty [[.str s, .slw 1, .int .i64 a, .int .u8 g, .slw 2, .slw 3, .bool j, .slw 4, .int .u8 wk, .int .i64 ws, .int .i64 we, .bool bk, .int .u8 lt, .int .i64 e]]⟩, ⟨false, .toks L⟩, ⟨true, .nodes A⟩, ⟨true, .ints .i64 S⟩, ⟨true, .nodes W⟩] => .node (rG ty L a e && okT t) (bif decide (e = 0) then .node (nxB L a [t]) (.leaf ⟨[.bool true], rp s L (a + 1) g A S j W wk ws we bk lt e⟩) (.leaf ⟨[.bool false], rp s L a g A S j W wk ws we bk lt e⟩) else .leaf ⟨[.bool false], rp s L a g A S j W wk ws we bk lt e⟩) .bad
  | _, _ => .bad
def isR (s : List UInt8) (L : List Tok) (a : Int) (q : Qry) (e : Int) (b : Bool) : Option Out := some ⟨[.bool b], rq s L a q e⟩
def gR (L : List Tok) (a e : Int) (z : Option Out) : Option Out := bif rG rTy L a e then z else none
theorem tIs (s t : List UInt8) (L : List Tok) (a : Int) (q : Qry) (e : Int) : runT B lib1 Tryz.f121 [.ptr 0 0 0, .str t] (rq s L a q e) =
    gR L a e (bif !decide (tx9 L a e = t) then isR s L a q e false else isR s L (w64 (a + 1)) q e true) := by kernel_rfl
theorem nx_one (L : List Tok) (a : Int) (t : List UInt8) : nxB L a [t] = (!decide ((L.length : Int) ≤ a) && (!decide ((tkA L a).kind = 1) && decide ((tkA L a).text = t))) := by
  unfold nxB nxI
  have : decide (firstL (hitS (tkA L a).text) [t] < [t].length) = decide ((tkA L a).text = t) := by
    unfold firstL hitS
    by_cases h : (tkA L a).text = t
    · rw [decide_eq_true h]; rfl
    · rw [decide_eq_false h]; rfl
  rw [this]
theorem tx_nx {L : List Tok} {a : Int} {t : List UInt8} (ht : okT t = true) : decide (tx9 L a 0 = t) = nxB L a [t] := by
  obtain ⟨t0, t1⟩ := of_decide_eq_true ht
  rw [nx_one]
  unfold tx9
  rw [decide_eq_true (rfl : (0 : Int) = 0), cond_true]
  cases decide ((L.length : Int) ≤ a) with
  | true => exact decide_eq_false (fun h => t0 h.symm)
  | false =>
    cases decide ((tkA L a).kind = 1) with
    | true => exact decide_eq_false (fun h => t1 h.symm)
    | false => rfl
theorem gR_is {L : List Tok} {a e : Int} (he : 0 ≤ e) (h0 : 0 ≤ a) (h1 : a ≤ (L.length : Int)) (h3 : L.length ≤ 1000) (z : Option Out) : gR L a e z = z := by
  unfold gR rG
  rw [decide_eq_true (show 0 ≤ e ∧ 0 ≤ a ∧ a ≤ (L.length : Int) ∧ L.length ≤ 1000 from ⟨he, h0, h1, h3⟩)]; rfl
theorem wA {a : Int} {n : Nat} (h0 : 0 ≤ a) (h1 : a ≤ (n : Int)) (h3 : n ≤ 1000) : w64 (a + 1) = a + 1 := w64_rng (by unfold Rng; omega)
theorem okIs : FnOk (E0 B) 121 sIs := by
  refine fnT lib1_ok Tryz.func121 (by kernel_rfl) (by kernel_rfl) fun vs bs r h => ?_
  unfold sIs at h
  split at h
  · rename_i t ty s a g j wk ws we bk lt e L A S W
    rcases T.node_sel h with ⟨hc, h2⟩ | ⟨_, h2⟩
    · rw [Bool.and_eq_true] at hc
      obtain ⟨rfl, he, h0, h1, h3⟩ := rG_is hc.1
      refine (tIs s t L a ⟨g, A, S, j, W, wk, ws, we, bk, lt⟩ e).trans ?_
      rw [gR_is he h0 h1 h3, wA h0 h1 h3, ← h2]
      rcases e_is he with rfl | ⟨m, rfl⟩
      · rw [tx_nx hc.2]
        show _ = (T.node (nxB L a [t]) _ _).sel
        cases nxB L a [t] <;> rfl
      · rw [show tx9 L a (Int.ofNat (m + 1)) = [] from rfl, decide_eq_false (fun h => (of_decide_eq_true hc.2).1 h.symm)]; rfl
    · simp [T.sel] at h2
  · simp [T.sel] at h
noncomputable def lib2 : Tb := (121, [2, 3, 4], sIs) :: lib1
theorem lib2_ok : TbOk B lib2 := lib1_ok.add okIs
def sNeed : FSpec
  | [.ptr 0 0 0, .str t], [⟨true, .gen ty [[.str s, .slw 1, .int .i64 a, .int .u8 g, .slw 2, .slw 3, .bool j, .slw 4, .int .u8 wk, .int .i64 ws, .int .i64 we, .bool bk, .int .u8 lt, .int .i64 e]]⟩, ⟨false, .toks L⟩, ⟨true, .nodes A⟩, ⟨true, .ints .i64 S⟩, ⟨true, .nodes W⟩] => .node (rG ty L a e && okT t) (bif decide (e = 0) then .node (nxB L a [t]) (.leaf ⟨[], rp s L (a + 1) g A S j W wk ws we bk lt e⟩) (.leaf ⟨[], rp s L a g A S j W wk ws we bk lt 12⟩) else .leaf ⟨[], rp s L a g A S j W wk ws we bk lt e⟩) .bad
  | _, _ => .bad
def ndR (s : List UInt8) (L : List Tok) (a : Int) (q : Qry) (e : Int) : Option Out := some ⟨[], rq s L a q e⟩
theorem tNd0 (s t : List UInt8) (L : List Tok) (a : Int) (q : Qry) : runT B lib2 Tryz.f118 [.ptr 0 0 0, .str t] (rq s L a q 0) =
    bif rG rTy L a 0 && okT t then (bif nxB L a [t] then ndR s L (a + 1) q 0 else ndR s L a q 12) else none := by kernel_rfl
theorem tNdE (s t : List UInt8) (L : List Tok) (a : Int) (q : Qry) (m : Nat) : runT B lib2 Tryz.f118 [.ptr 0 0 0, .str t] (rq s L a q (Int.ofNat (m + 1))) = ndR s L a q (Int.ofNat (m + 1)) := by kernel_rfl
theorem okNeed : FnOk (E0 B) 118 sNeed := by
  refine fnT lib2_ok Tryz.func118 (by kernel_rfl) (by kernel_rfl) fun vs bs r h => ?_
  unfold sNeed at h
  split at h
  · rename_i t ty s a g j wk ws we bk lt e L A S W
    rcases T.node_sel h with ⟨hc, h2⟩ | ⟨_, h2⟩
    · have hc0 := hc
      rw [Bool.and_eq_true] at hc
      obtain ⟨rfl, he, h0, h1, h3⟩ := rG_is hc.1
      rcases e_is he with rfl | ⟨m, rfl⟩
      · refine (tNd0 s t L a ⟨g, A, S, j, W, wk, ws, we, bk, lt⟩).trans ?_
        rw [hc0, ← h2]
        show _ = (T.node (nxB L a [t]) _ _).sel
        cases nxB L a [t] <;> rfl
      · refine (tNdE s t L a ⟨g, A, S, j, W, wk, ws, we, bk, lt⟩ m).trans ?_
        rw [← h2]; rfl
    · simp [T.sel] at h2
  · simp [T.sel] at h
end Go.Proofs.YtdckpbeioemopabGreatDoor.R9
namespace Go.Proofs.YtdckpbeioemopabGreatDoor.R9
open Go.Am Go Go.Proofs.YtdckpbeioemopabGreatDoor Go.Proofs.YtdckpbeioemopabGreatDoor.Pr
set_option maxRecDepth 100000
variable {B : Nat → Option Obj}
noncomputable def bOn : Code := loopAt 2 (loopsOf (bodyC Tryz.f124))
def sgOn : LSig := { cs := [(0, 0), (1, 67)], mv := [(5, 0)], mo := [(4, 0)], take := [3, 4, 5] }
def vOn (i : Int) : List AV := [.ptr 0 0 0, .slw 1, i64 i]
def rpt (T : List (List UInt8)) (s : List UInt8) (L : List Tok) (a : Int) (g : Int) (A : List Nod) (S : List Int) (j : Bool) (W : List Nod) (wk ws we : Int) (bk : Bool) (lt : Int) (e : Int) : List Blk := [rx 2 3 4 5 s a g j wk ws we bk lt e, sb T, tb L, nb true A, lb true S, nb true W]
def rqt (T : List (List UInt8)) (s : List UInt8) (L : List Tok) (a : Int) (q : Qry) (e : Int) : List Blk := rpt T s L a q.agg q.arg q.src q.join q.whr q.wk q.ws q.we q.byKey q.late e
def exOn (s : List UInt8) (L : List Tok) (a : Int) (q : Qry) (e : Int) : Option (AExit × Out) := some (.exit 0, ⟨[.any], rq s L a q e⟩)
def reOn (i : Int) (s : List UInt8) (L : List Tok) (a : Int) (q : Qry) (e : Int) : Option (AExit × Out) := some (.ret, ⟨[i64 i], rq s L a q e⟩)
def noOn (T : List (List UInt8)) (i : Int) (s : List UInt8) (L : List Tok) (a : Int) (q : Qry) (e : Int) : Option (AExit × Out) := some (.normal, ⟨vOn i, rqt T s L a q e⟩)
def gOn (L : List Tok) (a e : Int) (t : List UInt8) (z : Option (AExit × Out)) : Option (AExit × Out) := bif rG rTy L a e && okT t then z else none
theorem turnOn0 (T : List (List UInt8)) (i : Int) (s : List UInt8) (L : List Tok) (a : Int) (q : Qry) : (turn (E0 B) (Cx B lib2) noL 27 sgOn bOn (vOn i) (rqt T s L a q 0)).sel =
    bif decide (i < (T.length : Int)) then Ck.inb i T.length (gOn L a 0 (T.getD i.toNat []) (bif nxB L a [T.getD i.toNat []] then reOn i s L (a + 1) q 0 else noOn T (w64 (i + 1)) s L a q 0)) else exOn s L a q 0 := by kernel_rfl
theorem turnOnE (T : List (List UInt8)) (i : Int) (s : List UInt8) (L : List Tok) (a : Int) (q : Qry) (m : Nat) : (turn (E0 B) (Cx B lib2) noL 27 sgOn bOn (vOn i) (rqt T s L a q (Int.ofNat (m + 1)))).sel =
    bif decide (i < (T.length : Int)) then Ck.inb i T.length (gOn L a (Int.ofNat (m + 1)) (T.getD i.toNat []) (noOn T (w64 (i + 1)) s L a q (Int.ofNat (m + 1)))) else exOn s L a q (Int.ofNat (m + 1)) := by kernel_rfl
theorem first_no (T : List (List UInt8)) : firstL (fun _ => false) T = T.length := by
  induction T with
  | nil => rfl
  | cons t q ih => unfold firstL; rw [ih]; rfl
theorem nx_list (L : List Tok) (a : Int) (T : List (List UInt8)) : decide (firstL (fun t => nxB L a [t]) T < T.length) = nxB L a T ∧ (nxB L a T = true → firstL (fun t => nxB L a [t]) T = nxI L a T) := by
  have h1 : (fun t => nxB L a [t]) = fun t => !decide ((L.length : Int) ≤ a) && (!decide ((tkA L a).kind = 1) && decide ((tkA L a).text = t)) := funext fun t => nx_one L a t
  rw [h1]
  unfold nxB nxI
  cases decide ((L.length : Int) ≤ a) with
  | true =>
    simp only [Bool.not_true, Bool.false_and]
    rw [first_no]
    exact ⟨decide_eq_false (by omega), fun h => by cases h⟩
  | false =>
    cases decide ((tkA L a).kind = 1) with
    | true =>
      simp only [Bool.not_true, Bool.not_false, Bool.false_and, Bool.and_false]
      rw [first_no]
      exact ⟨decide_eq_false (by omega), fun h => by cases h⟩
    | false =>
      simp only [Bool.not_false, Bool.true_and]
      exact ⟨rfl, fun _ => rfl⟩
theorem okT_at {T : List (List UInt8)} (h : T.all okT = true) {i : Nat} (hi : i < T.length) : okT (T.getD i []) = true := by
  rw [List.getD_eq_getElem?_getD, List.getElem?_eq_getElem hi]
  exact List.all_eq_true.1 h _ (List.getElem_mem hi)
def spOn : LSpec
  | [.ptr 0 0 0, .slw 1, .int .i64 i], [⟨true, .gen ty [[.str s, .slw 2, .int .i64 a, .int .u8 g, .slw 3, .slw 4, .bool j, .slw 5, .int .u8 wk, .int .i64 ws, .int .i64 we, .bool bk, .int .u8 lt, .int .i64 e]]⟩, ⟨false, .strs U⟩, ⟨false, .toks L⟩, ⟨true, .nodes A⟩, ⟨true, .ints .i64 S⟩, ⟨true, .nodes W⟩] => .node (rG ty L a e && (decide (i = 0 ∧ U.length ≤ 1000) && U.all okT))
      (bif decide (e = 0) then .node (nxB L a U) (.leaf (.ret, ⟨[i64 (nx L a U)], rp s L (a + 1) g A S j W wk ws we bk lt e⟩)) (.leaf (.exit 0, ⟨[.any], rp s L a g A S j W wk ws we bk lt e⟩)) else .leaf (.exit 0, ⟨[.any], rp s L a g A S j W wk ws we bk lt e⟩)) .bad
  | _, _ => .bad
theorem gOn_is {L : List Tok} {a e : Int} {t : List UInt8} (he : 0 ≤ e) (h0 : 0 ≤ a) (h1 : a ≤ (L.length : Int)) (h3 : L.length ≤ 1000) (ht : okT t = true) (z : Option (AExit × Out)) : gOn L a e t z = z := by
  unfold gOn rG
  rw [ht, decide_eq_true (show 0 ≤ e ∧ 0 ≤ a ∧ a ≤ (L.length : Int) ∧ L.length ≤ 1000 from ⟨he, h0, h1, h3⟩)]; rfl
theorem loopOn : LoopOk (E0 B) 27 sgOn bOn spOn := by
  refine loop_turns (C := Cx B lib2) (L := noL) (cxOk lib2_ok) (noL_ok _) fun vs bs x o h => ?_
  unfold spOn at h
  split at h
  · rename_i i ty s a g j wk ws we bk lt e U L A S W
    rcases T.node_sel h with ⟨hc, h2⟩ | ⟨_, h2⟩
    · rw [Bool.and_eq_true, Bool.and_eq_true] at hc
      obtain ⟨rfl, he, h0, h1, h3⟩ := rG_is hc.1
      obtain ⟨rfl, hl⟩ := of_decide_eq_true hc.2.1
      rcases e_is he with rfl | ⟨k, rfl⟩
      · obtain ⟨m, hm⟩ := scan_turns (E := E0 B) (C := Cx B lib2) (L := noL) (n := 27) (sg := sgOn) (body := bOn) (st := fun i => vOn i) (bs := rqt U s L a ⟨g, A, S, j, W, wk, ws, we, bk, lt⟩ 0) (len := U.length)
          (bad := fun j => nxB L a [U.getD j default]) (ob := fun i => ⟨[i64 i], rq s L (a + 1) ⟨g, A, S, j, W, wk, ws, we, bk, lt⟩ 0⟩) (k := 0) (oe := ⟨[.any], rq s L a ⟨g, A, S, j, W, wk, ws, we, bk, lt⟩ 0⟩) (fun i hi => by
            rw [turnOn0]
            by_cases h : i < U.length
            · rw [decide_eq_true h, decide_eq_true (show (i : Int) < (U.length : Int) by omega), cond_true, Ck.inb_is h, Int.toNat_natCast, gOn_is (Int.le_refl 0) h0 h1 h3 (okT_at hc.2.2 h), w64_rng (show Rng ((i : Int) + 1) by unfold Rng; omega)]; rfl
            · rw [decide_eq_false h, decide_eq_false (show ¬ (i : Int) < (U.length : Int) by omega)]; rfl) U.length 0 (by omega)
        refine ⟨m, hm.trans ?_⟩
        have hn := nx_list L a U
        rw [firstB_list (fun t => nxB L a [t]) U U 0 rfl, Nat.zero_add, hn.1, ← h2]
        show _ = (T.node (nxB L a U) _ _).sel
        cases hx : nxB L a U with
        | false => rfl
        | true => rw [hn.2 hx]; rfl
      · obtain ⟨m, hm⟩ := scan_turns (E := E0 B) (C := Cx B lib2) (L := noL) (n := 27) (sg := sgOn) (body := bOn) (st := fun i => vOn i) (bs := rqt U s L a ⟨g, A, S, j, W, wk, ws, we, bk, lt⟩ (Int.ofNat (k + 1))) (len := U.length)
          (bad := fun j => (fun _ => false) (U.getD j default)) (ob := fun i => ⟨[i64 i], rq s L (a + 1) ⟨g, A, S, j, W, wk, ws, we, bk, lt⟩ 0⟩) (k := 0) (oe := ⟨[.any], rq s L a ⟨g, A, S, j, W, wk, ws, we, bk, lt⟩ (Int.ofNat (k + 1))⟩) (fun i hi => by
            rw [turnOnE]
            by_cases h : i < U.length
            · rw [decide_eq_true h, decide_eq_true (show (i : Int) < (U.length : Int) by omega), cond_true, Ck.inb_is h, Int.toNat_natCast, gOn_is he h0 h1 h3 (okT_at hc.2.2 h), w64_rng (show Rng ((i : Int) + 1) by unfold Rng; omega)]; rfl
            · rw [decide_eq_false h, decide_eq_false (show ¬ (i : Int) < (U.length : Int) by omega)]; rfl) U.length 0 (by omega)
        refine ⟨m, hm.trans ?_⟩
        rw [firstB_list (fun _ => false) U U 0 rfl, Nat.zero_add, first_no, decide_eq_false (show ¬ U.length < U.length by omega), ← h2]
        rfl
    · simp [T.sel] at h2
  · simp [T.sel] at h
noncomputable def eOn : LEnt := { id := 2, n := 27, sg := sgOn, wr := writes bOn, s := spOn }
def onR (i : Int) (s : List UInt8) (L : List Tok) (a : Int) (q : Qry) (e : Int) : Option Out := some ⟨[i64 i], rq s L a q e⟩
def gOT (T : List (List UInt8)) (L : List Tok) (a e : Int) (z : Option Out) : Option Out := bif rG rTy L a e && (decide ((0 : Int) = 0 ∧ T.length ≤ 1000) && T.all okT) then z else none
theorem tOn0 (T : List (List UInt8)) (s : List UInt8) (L : List Tok) (a : Int) (q : Qry) : runL B lib2 [eOn] Tryz.f124 [.ptr 0 0 0, .slw 1] (rqt T s L a q 0) =
    gOT T L a 0 (bif nxB L a T then onR (nx L a T) s L (a + 1) q 0 else onR 0 s L a q 12) := by kernel_rfl
theorem tOnE (T : List (List UInt8)) (s : List UInt8) (L : List Tok) (a : Int) (q : Qry) (m : Nat) : runL B lib2 [eOn] Tryz.f124 [.ptr 0 0 0, .slw 1] (rqt T s L a q (Int.ofNat (m + 1))) =
    gOT T L a (Int.ofNat (m + 1)) (onR 0 s L a q (Int.ofNat (m + 1))) := by kernel_rfl
def sOne : FSpec
  | [.ptr 0 0 0, .slw 1], [⟨true, .gen ty [[.str s, .slw 2, .int .i64 a, .int .u8 g, .slw 3, .slw 4, .bool j, .slw 5, .int .u8 wk, .int .i64 ws, .int .i64 we, .bool bk, .int .u8 lt, .int .i64 e]]⟩, ⟨false, .strs U⟩, ⟨false, .toks L⟩, ⟨true, .nodes A⟩, ⟨true, .ints .i64 S⟩, ⟨true, .nodes W⟩] => .node (rG ty L a e && (decide (U.length ≤ 1000) && U.all okT))
      (bif decide (e = 0) then .node (nxB L a U) (.leaf ⟨[i64 (nx L a U)], rp s L (a + 1) g A S j W wk ws we bk lt e⟩) (.leaf ⟨[i64 0], rp s L a g A S j W wk ws we bk lt 12⟩) else .leaf ⟨[i64 0], rp s L a g A S j W wk ws we bk lt e⟩) .bad
  | _, _ => .bad
theorem okOne : FnOk (E0 B) 124 sOne := by
  refine fnL lib2_ok (ls := [eOn]) Tryz.func124 (by kernel_rfl) (by kernel_rfl) (fun x hx => ?_) fun vs bs r h => ?_
  · simp only [List.mem_singleton] at hx; subst hx
    exact ⟨bOn, by kernel_rfl, rfl, loopOn⟩
  · unfold sOne at h
    split at h
    · rename_i ty s a g j wk ws we bk lt e U L A S W
      rcases T.node_sel h with ⟨hc, h2⟩ | ⟨_, h2⟩
      · rw [Bool.and_eq_true, Bool.and_eq_true] at hc
        have hrg := hc.1
        obtain ⟨rfl, he, h0, h1, h3⟩ := rG_is hc.1
        have hg : ∀ z, gOT U L a e z = z := fun z => by
          unfold gOT
          rw [hrg, hc.2.2, decide_eq_true (show (0 : Int) = 0 ∧ U.length ≤ 1000 from ⟨rfl, of_decide_eq_true hc.2.1⟩)]; rfl
        rcases e_is he with rfl | ⟨m, rfl⟩
        · refine (tOn0 U s L a ⟨g, A, S, j, W, wk, ws, we, bk, lt⟩).trans ?_
          rw [hg, ← h2]
          show _ = (T.node (nxB L a U) _ _).sel
          cases nxB L a U <;> rfl
        · refine (tOnE U s L a ⟨g, A, S, j, W, wk, ws, we, bk, lt⟩ m).trans ?_
          rw [hg, ← h2]; rfl
      · simp [T.sel] at h2
    · simp [T.sel] at h
end Go.Proofs.YtdckpbeioemopabGreatDoor.R9
namespace Go.Proofs.YtdckpbeioemopabGreatDoor.R9
open Go.Am Go Go.Proofs.YtdckpbeioemopabGreatDoor Go.Proofs.YtdckpbeioemopabGreatDoor.Pr
set_option maxRecDepth 100000
variable {B : Nat → Option Obj}
noncomputable def lib3 : Tb := (147, [], sParse) :: (89, [], Lx.sReadL) :: lib1
theorem lib3_ok : TbOk B lib3 := (lib1_ok.add Lx.okRefReadL).add R5.okPs
def rpx (X : List Nod) (s : List UInt8) (L : List Tok) (a : Int) (g : Int) (A : List Nod) (S : List Int) (j : Bool) (W : List Nod) (wk ws we : Int) (bk : Bool) (lt : Int) (e : Int) : List Blk := [rx 2 3 4 5 s a g j wk ws we bk lt e, nb true X, tb L, nb true A, lb true S, nb true W]
def rqx (X : List Nod) (s : List UInt8) (L : List Tok) (a : Int) (q : Qry) (e : Int) : List Blk := rpx X s L a q.agg q.arg q.src q.join q.whr q.wk q.ws q.we q.byKey q.late e
def erZ (L : List Tok) (a : Int) : Int := Int.ofNat ((zE L a).toNat - 1 + 1)
def sExp : FSpec
  | [.ptr 0 0 0], [⟨true, .gen ty [[.str s, .slw 1, .int .i64 a, .int .u8 g, .slw 2, .slw 3, .bool j, .slw 4, .int .u8 wk, .int .i64 ws, .int .i64 we, .bool bk, .int .u8 lt, .int .i64 e]]⟩, ⟨false, .toks L⟩, ⟨true, .nodes A⟩, ⟨true, .ints .i64 S⟩, ⟨true, .nodes W⟩] => .node (rG ty L a e && shortT L) (bif decide (e = 0) then .node (decide (0 ≤ zE L a)) (.node (decide (zE L a = 0)) (.leaf ⟨[.slw 1], rpx (zX L a) s L (zN L a) g A S j W wk ws we bk lt e⟩) (.leaf ⟨[.slw 1], rpx (zX L a) s L (zN L a) g A S j W wk ws we bk lt (erZ L a)⟩)) .bad else .leaf ⟨[.slw 1], rpx [] s L a g A S j W wk ws we bk lt e⟩) .bad
  | _, _ => .bad
def exR (X : List Nod) (s : List UInt8) (L : List Tok) (a : Int) (q : Qry) (e : Int) : Option Out := some ⟨[.slw 1], rqx X s L a q e⟩
theorem tEx0 (s : List UInt8) (L : List Tok) (a : Int) (q : Qry) : runT B lib3 Tryz.f122 [.ptr 0 0 0] (rq s L a q 0) = R5.gI (shortT L) (exR (zX L a) s L (zN L a) q (zE L a)) := by kernel_rfl
theorem tExE (s : List UInt8) (L : List Tok) (a : Int) (q : Qry) (m : Nat) : runT B lib3 Tryz.f122 [.ptr 0 0 0] (rq s L a q (Int.ofNat (m + 1))) = exR [] s L a q (Int.ofNat (m + 1)) := by kernel_rfl
theorem okExp : FnOk (E0 B) 122 sExp := by
  refine fnT lib3_ok Tryz.func122 (by kernel_rfl) (by kernel_rfl) fun vs bs r h => ?_
  unfold sExp at h
  split at h
  · rename_i ty s a g j wk ws we bk lt e L A S W
    rcases T.node_sel h with ⟨hc, h2⟩ | ⟨_, h2⟩
    · rw [Bool.and_eq_true] at hc
      obtain ⟨rfl, he, h0, h1, h3⟩ := rG_is hc.1
      rcases e_is he with rfl | ⟨m, rfl⟩
      · refine (tEx0 s L a ⟨g, A, S, j, W, wk, ws, we, bk, lt⟩).trans ?_
        rw [R5.gI_t hc.2]
        rcases T.node_sel h2 with ⟨hz, h4⟩ | ⟨_, h4⟩
        · have hz := of_decide_eq_true hz
          rcases T.node_sel h4 with ⟨h5, h6⟩ | ⟨h5, h6⟩
          · rw [of_decide_eq_true h5]; exact h6
          · have h5 := of_decide_eq_false h5
            have : zE L a = erZ L a := by
              unfold erZ
              show _ = (((zE L a).toNat - 1 + 1 : Nat) : Int)
              omega
            rw [this]; exact h6
        · simp [T.sel] at h4
      · exact (tExE s L a ⟨g, A, S, j, W, wk, ws, we, bk, lt⟩ m).trans h2
    · simp [T.sel] at h2
  · simp [T.sel] at h
def nuR (n : Int) (s : List UInt8) (L : List Tok) (a : Int) (q : Qry) (e : Int) : Option Out := some ⟨[i64 n], rq s L a q e⟩
theorem tNu0 (t : Int) (s : List UInt8) (L : List Tok) (a : Int) (q : Qry) : runT B lib3 Tryz.f148 [.ptr 0 0 0, i64 t] (rq s L a q 0) =
    gR L a 0 (bif !decide (tx9 L a 0 = [48]) then nuR 0 s L a q 12 else Ck.inb a L.length (bif decide ((tkA L a).text.length ≤ Lx.lim2) then (bif decide (nmN L a < 1) then nuR 0 s L a q 16 else bif decide (t < nmN L a) then nuR 0 s L a q 16 else nuR (nmN L a) s L (w64 (a + 1)) q 0) else none)) := by kernel_rfl
theorem tNuE (t : Int) (s : List UInt8) (L : List Tok) (a : Int) (q : Qry) (m : Nat) : runT B lib3 Tryz.f148 [.ptr 0 0 0, i64 t] (rq s L a q (Int.ofNat (m + 1))) =
    gR L a (Int.ofNat (m + 1)) (nuR 0 s L a q (Int.ofNat (m + 1))) := by kernel_rfl
def sNum : FSpec
  | [.ptr 0 0 0, .int .i64 t], [⟨true, .gen ty [[.str s, .slw 1, .int .i64 a, .int .u8 g, .slw 2, .slw 3, .bool j, .slw 4, .int .u8 wk, .int .i64 ws, .int .i64 we, .bool bk, .int .u8 lt, .int .i64 e]]⟩, ⟨false, .toks L⟩, ⟨true, .nodes A⟩, ⟨true, .ints .i64 S⟩, ⟨true, .nodes W⟩] => .node (rG ty L a e && (shortT L && L.all okV)) (bif decide (e = 0) then .node (nmF L a) (.leaf ⟨[i64 0], rp s L a g A S j W wk ws we bk lt 12⟩) (.node (nmR L a t) (.leaf ⟨[i64 0], rp s L a g A S j W wk ws we bk lt 16⟩) (.leaf ⟨[i64 (nmN L a)], rp s L (a + 1) g A S j W wk ws we bk lt e⟩)) else .leaf ⟨[i64 0], rp s L a g A S j W wk ws we bk lt e⟩) .bad
  | _, _ => .bad
theorem nm_is {L : List Tok} {a : Int} (h0 : 0 ≤ a) (hv : L.all okV = true) : (!decide (tx9 L a 0 = [48])) = nmF L a := by
  unfold nmF tx9
  rw [decide_eq_true (rfl : (0 : Int) = 0), cond_true]
  by_cases hl : (L.length : Int) ≤ a
  · rw [decide_eq_true hl]; rfl
  · rw [decide_eq_false hl, cond_false, Bool.false_or]
    by_cases hk : (tkA L a).kind = 1
    · rw [decide_eq_true hk]; rfl
    · rw [decide_eq_false hk, cond_false]
      have hval := List.all_eq_true.1 hv _ (tkA_mem h0 (by omega))
      unfold okV at hval
      rw [Bool.and_eq_true] at hval
      rw [decide_eq_false (R5.no48 hval.1 hk)]
theorem okNum : FnOk (E0 B) 148 sNum := by
  refine fnT lib3_ok Tryz.func148 (by kernel_rfl) (by kernel_rfl) fun vs bs r h => ?_
  unfold sNum at h
  split at h
  · rename_i t ty s a g j wk ws we bk lt e L A S W
    rcases T.node_sel h with ⟨hc, h2⟩ | ⟨_, h2⟩
    · rw [Bool.and_eq_true, Bool.and_eq_true] at hc
      obtain ⟨rfl, he, h0, h1, h3⟩ := rG_is hc.1
      rcases e_is he with rfl | ⟨m, rfl⟩
      · refine (tNu0 t s L a ⟨g, A, S, j, W, wk, ws, we, bk, lt⟩).trans ?_
        rw [gR_is he h0 h1 h3, nm_is h0 hc.2.2, wA h0 h1 h3, ← h2]
        show _ = (T.node (nmF L a) _ (T.node (nmR L a t) _ _)).sel
        cases hn : nmF L a with
        | true => rfl
        | false =>
          have hl : a < (L.length : Int) := by
            unfold nmF at hn
            rw [Bool.or_eq_false_iff] at hn
            have := of_decide_eq_false hn.1
            omega
          rw [cond_false, inb_a h0 hl, decide_eq_true (show (tkA L a).text.length ≤ Lx.lim2 from by have := short_mem hc.2.1 (tkA_mem h0 hl); unfold Lx.lim2; omega)]
          unfold nmR
          cases decide (nmN L a < 1) <;> cases decide (t < nmN L a) <;> rfl
      · refine (tNuE t s L a ⟨g, A, S, j, W, wk, ws, we, bk, lt⟩ m).trans ?_
        rw [gR_is he h0 h1 h3, ← h2]; rfl
    · simp [T.sel] at h2
  · simp [T.sel] at h
end Go.Proofs.YtdckpbeioemopabGreatDoor.R9
namespace Go.Proofs.YtdckpbeioemopabGreatDoor.R9
open Go.Am Go Go.Proofs.YtdckpbeioemopabGreatDoor Go.Proofs.YtdckpbeioemopabGreatDoor.Pr
set_option maxRecDepth 100000
variable {B : Nat → Option Obj}
noncomputable def bNm : Code := loopAt 2 (loopsOf (bodyC Tryz.f120))
def sgNm : LSig := { cs := [(0, 0), (2, 0)], mv := [(3, 0)], mo := [], take := [2, 3, 4] }
def vNm (n i : Int) : List AV := [.ptr 0 0 0, i64 n, i64 i]
noncomputable def lib4 : Tb := (124, [3, 4, 5], sOne) :: []
theorem lib4_ok : TbOk B lib4 := TbOk.nil.add okOne
def noNm (n i : Int) (s : List UInt8) (L : List Tok) (a : Int) (q : Qry) (e : Int) : Option (AExit × Out) := some (.normal, ⟨vNm n i, rq s L a q e⟩)
def exNm (s : List UInt8) (L : List Tok) (a : Int) (q : Qry) (e : Int) : Option (AExit × Out) := some (.exit 0, ⟨[], rq s L a q e⟩)
theorem turnNm0 (n i : Int) (s : List UInt8) (L : List Tok) (a : Int) (q : Qry) : (turn (E0 B) (Cx B lib4) noL 56 sgNm bNm (vNm n i) (rq s L a q 0)).sel =
    bif decide (i < (q.src.length : Int)) then Ck.inb i q.src.length (bif decide (q.src.getD i.toNat 0 = n) then noNm n (w64 (i + 1)) s L (w64 (a - 1)) q 43 else noNm n (w64 (i + 1)) s L a q 0) else exNm s L a q 0 := by kernel_rfl
theorem turnNmE (n i : Int) (s : List UInt8) (L : List Tok) (a : Int) (q : Qry) (m : Nat) : (turn (E0 B) (Cx B lib4) noL 56 sgNm bNm (vNm n i) (rq s L a q (Int.ofNat (m + 1)))).sel =
    bif decide (i < (q.src.length : Int)) then noNm n (w64 (i + 1)) s L a q (Int.ofNat (m + 1)) else exNm s L a q (Int.ofNat (m + 1)) := by kernel_rfl
theorem wI {i : Nat} {n : Nat} (h : i < n) (h3 : n ≤ 1000) : w64 ((i : Int) + 1) = ((i + 1 : Nat) : Int) := by rw [w64_rng (show Rng ((i : Int) + 1) by unfold Rng; omega)]; omega
theorem nmE (n : Int) (s : List UInt8) (L : List Tok) (a : Int) (q : Qry) (m : Nat) (hl : q.src.length ≤ 1000) : ∀ (f i : Nat), i + f = q.src.length → ∃ k, (turns (E0 B) (Cx B lib4) noL 56 sgNm bNm k (vNm n i) (rq s L a q (Int.ofNat (m + 1)))).sel = exNm s L a q (Int.ofNat (m + 1))
  | 0, i, hi => ⟨1, turns_done ((turnNmE n i s L a q m).trans (by rw [decide_eq_false (show ¬ (i : Int) < (q.src.length : Int) by omega)]; rfl)) (by simp)⟩
  | f + 1, i, hi => by
    have ht := turnNmE (B := B) n i s L a q m
    rw [decide_eq_true (show (i : Int) < (q.src.length : Int) by omega), cond_true, wI (show i < q.src.length by omega) hl] at ht
    obtain ⟨k, hk⟩ := nmE n s L a q m hl f (i + 1) (by omega)
    exact ⟨k + 1, (turns_more' ht).trans hk⟩
def nmZ (s : List UInt8) (L : List Tok) (a : Int) (q : Qry) (b : Bool) : Option (AExit × Out) := bif b then exNm s L (a - 1) q 43 else exNm s L a q 0
theorem nm0 (n : Int) (s : List UInt8) (L : List Tok) (a : Int) (q : Qry) (ha : 0 ≤ a ∧ a ≤ 1000) (hl : q.src.length ≤ 1000) : ∀ (f i : Nat), i + f = q.src.length → ∃ k, (turns (E0 B) (Cx B lib4) noL 56 sgNm bNm k (vNm n i) (rq s L a q 0)).sel = nmZ s L a q (decide (firstB (fun j => hitI n (q.src.getD j default)) f i < q.src.length))
  | 0, i, hi => by
    unfold firstB
    rw [decide_eq_false (show ¬ i < q.src.length by omega)]
    show ∃ k, _ = exNm s L a q 0
    exact ⟨1, turns_done ((turnNm0 n i s L a q).trans (by rw [decide_eq_false (show ¬ (i : Int) < (q.src.length : Int) by omega)]; rfl)) (by simp)⟩
  | f + 1, i, hi => by
    have hlt : i < q.src.length := by omega
    have ht := turnNm0 (B := B) n i s L a q
    rw [decide_eq_true (show (i : Int) < (q.src.length : Int) by omega), cond_true, Ck.inb_is hlt, wI hlt hl, Int.toNat_natCast] at ht
    unfold firstB
    by_cases hx : q.src.getD i 0 = n
    · have hh : hitI n (q.src.getD i default) = true := decide_eq_true hx.symm
      rw [decide_eq_true hx, cond_true, w64_rng (show Rng (a - 1) by unfold Rng; omega)] at ht
      rw [hh, cond_true, decide_eq_true hlt]
      obtain ⟨k, hk⟩ := nmE (B := B) n s L (a - 1) q 42 hl f (i + 1) (by omega)
      exact ⟨k + 1, (turns_more' ht).trans hk⟩
    · have hh : hitI n (q.src.getD i default) = false := decide_eq_false (fun h => hx h.symm)
      rw [decide_eq_false hx, cond_false] at ht
      rw [hh, cond_false]
      obtain ⟨k, hk⟩ := nm0 n s L a q ha hl f (i + 1) (by omega)
      exact ⟨k + 1, (turns_more' ht).trans hk⟩
def spNm : LSpec
  | [.ptr 0 0 0, .int .i64 n, .int .i64 i], [⟨true, .gen ty [[.str s, .slw 1, .int .i64 a, .int .u8 g, .slw 2, .slw 3, .bool j, .slw 4, .int .u8 wk, .int .i64 ws, .int .i64 we, .bool bk, .int .u8 lt, .int .i64 e]]⟩, ⟨false, .toks L⟩, ⟨true, .nodes A⟩, ⟨true, .ints .i64 S⟩, ⟨true, .nodes W⟩] => .node (rG ty L a e && decide (i = 0 ∧ S.length ≤ 1000)) (bif decide (e = 0) then .node (hasI n S) (.leaf (.exit 0, ⟨[], rp s L (a - 1) g A S j W wk ws we bk lt 43⟩)) (.leaf (.exit 0, ⟨[], rp s L a g A S j W wk ws we bk lt e⟩)) else .leaf (.exit 0, ⟨[], rp s L a g A S j W wk ws we bk lt e⟩)) .bad
  | _, _ => .bad
theorem loopNm : LoopOk (E0 B) 56 sgNm bNm spNm := by
  refine loop_turns (C := Cx B lib4) (L := noL) (cxOk lib4_ok) (noL_ok _) fun vs bs x o h => ?_
  unfold spNm at h
  split at h
  · rename_i n i ty s a g j wk ws we bk lt e L A S W
    rcases T.node_sel h with ⟨hc, h2⟩ | ⟨_, h2⟩
    · rw [Bool.and_eq_true] at hc
      obtain ⟨rfl, he, h0, h1, h3⟩ := rG_is hc.1
      obtain ⟨rfl, hl⟩ := of_decide_eq_true hc.2
      rcases e_is he with rfl | ⟨k, rfl⟩
      · obtain ⟨m, hm⟩ := nm0 (B := B) n s L a ⟨g, A, S, j, W, wk, ws, we, bk, lt⟩ ⟨h0, by omega⟩ hl S.length 0 (by simp)
        refine ⟨m, hm.trans ?_⟩
        rw [firstB_list (hitI n) S S 0 rfl, Nat.zero_add, ← h2]
        show nmZ s L a _ (hasI n S) = (T.node (hasI n S) _ _).sel
        cases hasI n S <;> rfl
      · obtain ⟨m, hm⟩ := nmE (B := B) n s L a ⟨g, A, S, j, W, wk, ws, we, bk, lt⟩ k hl S.length 0 (by simp)
        exact ⟨m, hm.trans (by rw [← h2]; rfl)⟩
    · simp [T.sel] at h2
  · simp [T.sel] at h
noncomputable def eNm : LEnt := { id := 2, n := 56, sg := sgNm, wr := writes bNm, s := spNm }
def nO (s : List UInt8) (L : List Tok) (a : Int) (q : Qry) (e : Int) (l : List Int) : Option Out := some ⟨[], rp s L a q.agg q.arg l q.join q.whr q.wk q.ws q.we q.byKey q.late e⟩
def lpG (L : List Tok) (a e : Int) (l : List Int) (z : Option Out) : Option Out := bif rG rTy L a e && decide ((0 : Int) = 0 ∧ l.length ≤ 1000) then z else none
def apG (l : List Int) (z : Option Out) : Option Out := bif decide (l.length + 1 ≤ lim) then z else none
def gO2 (L : List Tok) (a e : Int) (z : Option Out) : Option Out := bif rG rTy L a e && (decide (abS.length ≤ 1000) && abS.all okT) then z else none
theorem tNm0 (s : List UInt8) (L : List Tok) (a : Int) (q : Qry) : runL B lib4 [eNm] Tryz.f120 [.ptr 0 0 0] (rq s L a q 0) =
    gO2 L a 0 (bif nxB L a abS then lpG L (a + 1) 0 q.src (bif hasI (nx L a abS) q.src then apG q.src (nO s L (a + 1 - 1) q 43 (q.src ++ [nx L a abS])) else apG q.src (nO s L (a + 1) q 0 (q.src ++ [nx L a abS]))) else lpG L a 12 q.src (apG q.src (nO s L a q 12 (q.src ++ [0])))) := by kernel_rfl
theorem tNmE (s : List UInt8) (L : List Tok) (a : Int) (q : Qry) (m : Nat) : runL B lib4 [eNm] Tryz.f120 [.ptr 0 0 0] (rq s L a q (Int.ofNat (m + 1))) =
    gO2 L a (Int.ofNat (m + 1)) (lpG L a (Int.ofNat (m + 1)) q.src (apG q.src (nO s L a q (Int.ofNat (m + 1)) (q.src ++ [0])))) := by kernel_rfl
def sName : FSpec
  | [.ptr 0 0 0], [⟨true, .gen ty [[.str s, .slw 1, .int .i64 a, .int .u8 g, .slw 2, .slw 3, .bool j, .slw 4, .int .u8 wk, .int .i64 ws, .int .i64 we, .bool bk, .int .u8 lt, .int .i64 e]]⟩, ⟨false, .toks L⟩, ⟨true, .nodes A⟩, ⟨true, .ints .i64 S⟩, ⟨true, .nodes W⟩] => .node (rG ty L a e && decide (S.length ≤ 500)) (bif decide (e = 0) then .node (nxB L a abS) (.node (hasI (nx L a abS) S) (.leaf ⟨[], rp s L a g A (S ++ [nx L a abS]) j W wk ws we bk lt 43⟩) (.leaf ⟨[], rp s L (a + 1) g A (S ++ [nx L a abS]) j W wk ws we bk lt e⟩)) (.leaf ⟨[], rp s L a g A (S ++ [0]) j W wk ws we bk lt 12⟩) else .leaf ⟨[], rp s L a g A (S ++ [0]) j W wk ws we bk lt e⟩) .bad
  | _, _ => .bad
theorem rG_of {L : List Tok} {a e : Int} (he : 0 ≤ e) (h0 : 0 ≤ a) (h1 : a ≤ (L.length : Int)) (h3 : L.length ≤ 1000) : rG rTy L a e = true := by
  unfold rG
  rw [decide_eq_true (show 0 ≤ e ∧ 0 ≤ a ∧ a ≤ (L.length : Int) ∧ L.length ≤ 1000 from ⟨he, h0, h1, h3⟩)]; rfl
theorem gO2_is {L : List Tok} {a e : Int} (he : 0 ≤ e) (h0 : 0 ≤ a) (h1 : a ≤ (L.length : Int)) (h3 : L.length ≤ 1000) (z : Option Out) : gO2 L a e z = z := by
  unfold gO2
  rw [rG_of he h0 h1 h3]; rfl
theorem lpG_is {L : List Tok} {a e : Int} {l : List Int} (he : 0 ≤ e) (h0 : 0 ≤ a) (h1 : a ≤ (L.length : Int)) (h3 : L.length ≤ 1000) (hl : l.length ≤ 500) (z : Option Out) : lpG L a e l z = z := by
  unfold lpG
  rw [rG_of he h0 h1 h3, decide_eq_true (show (0 : Int) = 0 ∧ l.length ≤ 1000 from ⟨rfl, by omega⟩)]; rfl
theorem apG_is {l : List Int} (hl : l.length ≤ 500) (z : Option Out) : apG l z = z := by
  unfold apG
  rw [decide_eq_true (show l.length + 1 ≤ lim by simp only [lim]; omega)]; rfl
theorem okName : FnOk (E0 B) 120 sName := by
  refine fnL lib4_ok (ls := [eNm]) Tryz.func120 (by kernel_rfl) (by kernel_rfl) (fun x hx => ?_) fun vs bs r h => ?_
  · simp only [List.mem_singleton] at hx; subst hx
    exact ⟨bNm, by kernel_rfl, rfl, loopNm⟩
  · unfold sName at h
    split at h
    · rename_i ty s a g j wk ws we bk lt e L A S W
      rcases T.node_sel h with ⟨hc, h2⟩ | ⟨_, h2⟩
      · rw [Bool.and_eq_true] at hc
        obtain ⟨rfl, he, h0, h1, h3⟩ := rG_is hc.1
        have hl := of_decide_eq_true hc.2
        rcases e_is he with rfl | ⟨m, rfl⟩
        · refine (tNm0 s L a ⟨g, A, S, j, W, wk, ws, we, bk, lt⟩).trans ?_
          rw [gO2_is he h0 h1 h3, ← h2, lpG_is (by omega) h0 h1 h3 hl, apG_is hl, apG_is hl, apG_is hl]
          show _ = (T.node (nxB L a abS) (T.node (hasI (nx L a abS) S) _ _) _).sel
          cases hn : nxB L a abS with
          | false => rfl
          | true =>
            have := nxB_lt hn
            rw [cond_true, lpG_is (by omega) (by omega) (by omega) h3 hl, show a + 1 - 1 = a by omega]
            cases hasI (nx L a abS) S <;> rfl
        · refine (tNmE s L a ⟨g, A, S, j, W, wk, ws, we, bk, lt⟩ m).trans ?_
          rw [gO2_is he h0 h1 h3, ← h2, lpG_is he h0 h1 h3 hl, apG_is hl]; rfl
      · simp [T.sel] at h2
    · simp [T.sel] at h
end Go.Proofs.YtdckpbeioemopabGreatDoor.R9
