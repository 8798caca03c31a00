/-
  Texts put together: RefInt, RefWr, RefWr2, RefTd, RefTd2.
-/
import Derived.Test.YtfniiapkghpihaaGreatDoorNodBase
import Derived.Test.YtfniiapkghpihaaGreatDoorPureA
import Derived.Shelf.Strconv.Itoa4
import Derived.Test.YtfniiapkghpihaaGreatDoorPrtP
import Derived.Test.YtfniiapkghpihaaGreatDoorClsA
/-
  The reference's Text of a number, by contract.
-/
namespace Go.Proofs.YtfniiapkghpihaaGreatDoor.R1
open Go.Am Go.Shelf
set_option maxRecDepth 100000
variable {B : Nat → Option Obj}
def fails (p : Bool) : Bool := bif p then false else true
/-! the reference's Text: by how many digits there are -/
def sText (k : Nat) : FSpec
  | [.int .i64 n], [] => .node (decide (Rng n ∧ n.natAbs < 10 ^ k)) (.leaf ⟨[.str (Lib.itoa n)], []⟩) .bad
  | _, _ => .bad
def sText0 : FSpec
  | [.int .i64 n], [] => .node (decide (Rng n)) (.leaf ⟨[.str (Lib.itoa n)], []⟩) .bad
  | _, _ => .bad
def rs (s : List UInt8) : Option Out := some ⟨[.str s], []⟩
def lastD (n : Int) : List UInt8 := bif decide (n.tmod 10 < 0) then byteList [IntKind.u8.wrap (w64 (48 + w64 (0 - n.tmod 10)))] else byteList [IntKind.u8.wrap (w64 (48 + n.tmod 10))]
theorem itoa_step {n : Int} (h : Rng n) :
    (n.tmod 10 < 0 → byteList [IntKind.u8.wrap (w64 (48 + w64 (0 - n.tmod 10)))] = [UInt8.ofNat (48 + n.natAbs % 10)]) ∧ (¬ n.tmod 10 < 0 → byteList [IntKind.u8.wrap (w64 (48 + n.tmod 10))] = [UInt8.ofNat (48 + n.natAbs % 10)]) ∧
    w64 (n.tdiv 10) = n.tdiv 10 ∧ (n.tdiv 10).natAbs = n.natAbs / 10 ∧ (n.tdiv 10 ≠ 0 → (n.tdiv 10 < 0 ↔ n < 0)) := by
  unfold Rng at h
  have key : ∀ m : Int, 0 ≤ m → m ≤ 9 → byteList [IntKind.u8.wrap (w64 (48 + m))] = [UInt8.ofNat (48 + m.toNat)] := by
    intro m h0 h1
    rw [w64_rng (by unfold Rng; omega)]
    have e : IntKind.u8.wrap (48 + m) = 48 + m := by simp [IntKind.wrap, IntKind.bits, IntKind.signed]; omega
    rw [e]
    simp only [byteList, List.map_cons, List.map_nil]
    congr 2; omega
  rcases Int.lt_or_le n 0 with h0 | h0
  · obtain ⟨m, rfl⟩ : ∃ m : Int, n = -m := ⟨-n, by omega⟩
    rw [Int.neg_tmod, Int.neg_tdiv, Int.tmod_eq_emod_of_nonneg (by omega), Int.tdiv_eq_ediv_of_nonneg (by omega)]
    refine ⟨fun _ => ?_, fun hn => ?_, w64_rng (by unfold Rng; omega), by omega, by omega⟩
    · rw [show (0 : Int) - -(m % 10) = m % 10 from by omega, show w64 (m % 10) = m % 10 from w64_rng (by unfold Rng; omega), key _ (by omega) (by omega)]
      congr 2; omega
    · rw [show -(m % 10) = 0 from by omega, key _ (by omega) (by omega)]
      congr 2; omega
  · rw [Int.tmod_eq_emod_of_nonneg h0, Int.tdiv_eq_ediv_of_nonneg h0]
    refine ⟨fun hn => by omega, fun _ => ?_, w64_rng (by unfold Rng; omega), by omega, by omega⟩
    rw [key _ (by omega) (by omega)]
    congr 2; omega
theorem itoa_big {n : Int} (h : ¬ n.natAbs < 10) (hd : (n.tdiv 10).natAbs = n.natAbs / 10) (hs : n.tdiv 10 < 0 ↔ n < 0) : Lib.itoa n = Lib.itoa (n.tdiv 10) ++ [UInt8.ofNat (48 + n.natAbs % 10)] := by
  unfold Lib.itoa
  by_cases h0 : n < 0
  · rw [if_pos h0, if_pos (hs.2 h0), dec_big h, hd]; rfl
  · have h1 : ¬ n.tdiv 10 < 0 := fun h => h0 (hs.1 h)
    rw [if_neg h0, if_neg h1, show n.toNat = n.natAbs from by omega, dec_big h, ← hd, show (n.tdiv 10).toNat = (n.tdiv 10).natAbs from by omega]
theorem itoa_small {n : Int} (h : n.natAbs < 10) : Lib.itoa n = if n < 0 then [45, UInt8.ofNat (48 + n.natAbs % 10)] else [UInt8.ofNat (48 + n.natAbs % 10)] := by
  unfold Lib.itoa
  rw [Nat.mod_eq_of_lt h]
  split
  · rw [dec_small h]
  · rw [show n.toNat = n.natAbs from by omega, dec_small h]
end Go.Proofs.YtfniiapkghpihaaGreatDoor.R1
/-
  Printer's reference: Line, part, Written by contract.
-/
namespace Go.Proofs.YtfniiapkghpihaaGreatDoor
open Go.Am Go
set_option maxRecDepth 100000
variable {B : Nat → Option Obj}
def lnL : List Int := [0, 9, 9, 9, 9, 8, 3, 7, 6, 6, 5, 5, 4, 4, 4, 4, 4, 4, 2, 1]
theorem ln_is : ∀ k : Fin 20, 1 ≤ k.val → lnL.getD (k.val + 0) 0 = (lineK k.val : Int) := by decide +kernel
def sLine : FSpec
  | [.int .u8 k], [] => .node (decide (1 ≤ k ∧ k ≤ 19)) (.leaf ⟨[.int .i64 (lineK k : Int)], []⟩) .bad
  | _, _ => .bad
/-! Written, and a part of it -/
def gW (k : Nat) (X : List Nod) (i m : Int) : Bool := okX k X i && (rngX X && decide ((wrN k X i m).length ≤ 100000))
def sWrt (k : Nat) : FSpec
  | [.slw 0, .int .i64 i], [⟨false, .nodes X⟩] => .node (gW k X i 0) (.leaf ⟨[.str (wrN k X i 0)], []⟩) .bad
  | _, _ => .bad
def sPt (k : Nat) : FSpec
  | [.slw 0, .int .i64 i, .int .i64 m], [⟨false, .nodes X⟩] => .node (decide (m ≤ 9) && gW k X i m) (.leaf ⟨[.str (wrN k X i m)], []⟩) .bad
  | _, _ => .bad
noncomputable def libR (_ : Nat) : Tb := lib5
noncomputable def libR2 (k : Nat) : Tb := libR k
def kIn (k : Int) (z : Option Out) : Option Out := bif decide (1 ≤ k ∧ k ≤ 19) then z else none
/-- brackets stand around -/
theorem wrN_brk {k : Nat} {X : List Nod} {i m : Int} (h : okX k X i = true) (hm : m ≤ 9) : wrN k X i m = brT (decide ((lineK (nodA X i).kind : Int) < m)) (wrN k X i 0) := by
  cases k with
  | zero => cases h
  | succ k =>
    have hln : ∀ a : Int, a ≤ 4 → lineK a = 9 := fun a ha => by unfold lineK; rw [decide_eq_true ha]; rfl
    unfold wrN
    have h0 : decide ((lineK (nodA X i).kind : Int) < 0) = false := decide_eq_false (by omega)
    rw [h0]
    by_cases h1 : (nodA X i).kind = 1
    · rw [decide_eq_true h1, hln _ (by omega), decide_eq_false (show ¬ ((9 : Nat) : Int) < m by omega)]; rfl
    · rw [decide_eq_false h1]
      by_cases h4 : (nodA X i).kind ≤ 4
      · rw [decide_eq_true h4, hln _ h4, decide_eq_false (show ¬ ((9 : Nat) : Int) < m by omega)]; rfl
      · rw [decide_eq_false h4]; rfl
theorem okX_rng {k : Nat} {X : List Nod} {i : Int} (h : okX k X i = true) : 0 ≤ i ∧ i < (X.length : Int) ∧ 1 ≤ (nodA X i).kind ∧ (nodA X i).kind ≤ 19 := by
  cases k with
  | zero => cases h
  | succ k =>
    unfold okX at h
    rw [Bool.and_eq_true] at h
    exact of_decide_eq_true h.1
end Go.Proofs.YtfniiapkghpihaaGreatDoor
/-
  Printer's reference: Written by contract.
-/
namespace Go.Proofs.YtfniiapkghpihaaGreatDoor
open Go.Am Go
set_option maxRecDepth 100000
variable {B : Nat → Option Obj}
def fldL : List (List UInt8) := [[107], [116], [118]]
def subR (k : Nat) (X : List Nod) (j m : Int) (f : List UInt8 → Option Out) : Option Out := bif decide (m ≤ 9) && gW k X j m then f (wrN k X j m) else none
def binR (k : Nat) (X : List Nod) (x : Nod) (l : Int) : Option Out := subR k X x.a l fun s => catO s [32] fun u => inb' (u8 (x.kind - 7)) sgnL.length (catO u (sgnL.getD (u8 (x.kind - 7)).toNat []) fun v => catO v [32] fun w => subR k X x.b (w64 ((lineK x.kind : Int) + 1)) fun s' => catO w s' strO)
def wrR (k : Nat) (X : List Nod) (x : Nod) : Option Out := kIn x.kind (bif decide (x.kind = 1) then (bif decide (Rng x.n) then strO (Lib.itoa x.n) else none) else bif decide ((lineK x.kind : Int) = 9) then inb' (u8 (x.kind - 2)) fldL.length (strO (fldL.getD (u8 (x.kind - 2)).toNat []))
  else bif decide ((lineK x.kind : Int) = 8) then subR k X x.a 8 (fun s => catO [45] s strO) else bif decide ((lineK x.kind : Int) = 3) then subR k X x.a 3 (fun s => catO [110, 111, 116, 32] s strO)
  else bif decide ((lineK x.kind : Int) = 4) then binR k X x 5 else binR k X x (lineK x.kind : Int))
theorem fld_txt9 : ∀ k : Fin 5, 2 ≤ k.val → (0 ≤ u8 ((k.val : Int) - 2) ∧ u8 ((k.val : Int) - 2) < 3) ∧ fldL.getD (u8 ((k.val : Int) - 2)).toNat [] = fldT k.val := by decide +kernel
theorem ln_cases : ∀ k : Fin 20, 1 ≤ k.val → (lineK k.val = 9 ↔ k.val ≤ 4) ∧ (lineK k.val = 8 ↔ k.val = 5) ∧ (lineK k.val = 3 ↔ k.val = 6) ∧ lineK k.val ≤ 9 ∧ (7 ≤ k.val → lineK k.val ≤ 7) := by decide +kernel
theorem ln_of {k : Int} (h1 : 1 ≤ k) (h2 : k ≤ 19) : (((lineK k : Int) = 9 ↔ k ≤ 4) ∧ ((lineK k : Int) = 8 ↔ k = 5) ∧ ((lineK k : Int) = 3 ↔ k = 6)) ∧ (lineK k : Int) ≤ 9 ∧ (7 ≤ k → (lineK k : Int) ≤ 7) := by
  have h3 := ln_cases ⟨k.toNat, by omega⟩ (by simp only; omega)
  have e : ((k.toNat : Nat) : Int) = k := by omega
  simp only [e] at h3
  obtain ⟨a, b, c, d, f⟩ := h3
  refine ⟨⟨⟨fun h => ?_, fun h => ?_⟩, ⟨fun h => ?_, fun h => ?_⟩, ⟨fun h => ?_, fun h => ?_⟩⟩, by omega, fun h => ?_⟩
  · have := a.1 (by omega); omega
  · have := a.2 (by omega); omega
  · have := b.1 (by omega); omega
  · have := b.2 (by omega); omega
  · have := c.1 (by omega); omega
  · have := c.2 (by omega); omega
  · have := f (by omega); omega
theorem subR_in {k : Nat} {X : List Nod} {j m : Int} (hm : m ≤ 9) (hx : okX k X j = true) (hr : rngX X = true) (hl : (wrN k X j m).length ≤ 100000) (f : List UInt8 → Option Out) : subR k X j m f = f (wrN k X j m) := by
  unfold subR gW
  rw [decide_eq_true hm, hx, hr, decide_eq_true hl]; rfl
theorem wrR_is {k : Nat} {X : List Nod} {i : Int} (hx : okX (k + 1) X i = true) (hr : rngX X = true) (hl : (wrN (k + 1) X i 0).length ≤ 100000) : inb' i X.length (wrR k X (nodA X i)) = strO (wrN (k + 1) X i 0) := by
  unfold okX at hx
  rw [Bool.and_eq_true] at hx
  obtain ⟨i0, i1, k1, k19⟩ := of_decide_eq_true hx.1
  have hx := hx.2
  rw [inb_in i0 i1]
  unfold wrN at hl ⊢
  unfold wrR kIn
  have hmem : nodA X i ∈ X := by
    unfold nodA
    have : i.toNat < X.length := by omega
    rw [List.getD_eq_getElem?_getD, List.getElem?_eq_getElem this]
    exact List.getElem_mem this
  have hn : rng64 (nodA X i).n = true := List.all_eq_true.1 hr _ hmem
  generalize nodA X i = x at *
  obtain ⟨⟨l9, l8, l3⟩, hle, h7⟩ := ln_of k1 k19
  have h0 : decide ((lineK x.kind : Int) < 0) = false := decide_eq_false (by omega)
  rw [h0] at hl ⊢
  unfold brT at hl ⊢
  simp only [cond_false] at hl ⊢
  rw [decide_eq_true (show 1 ≤ x.kind ∧ x.kind ≤ 19 from ⟨k1, k19⟩), cond_true]
  by_cases e1 : x.kind = 1
  · have hrn : Rng x.n := by simpa [rng64, Rng] using hn
    rw [decide_eq_true e1, decide_eq_true hrn]; rfl
  rw [decide_eq_false e1, cond_false] at hl
  rw [decide_eq_false e1, cond_false, cond_false]
  by_cases e4 : x.kind ≤ 4
  · rw [decide_eq_true e4, decide_eq_true (l9.2 e4), cond_true, cond_true]
    obtain ⟨⟨f1, f2⟩, f3⟩ := fld_txt9 ⟨x.kind.toNat, by omega⟩ (by simp only; omega)
    have e : ((x.kind.toNat : Nat) : Int) = x.kind := by omega
    simp only [e] at f1 f2 f3
    rw [inb_in f1 (show u8 (x.kind - 2) < (fldL.length : Int) from f2), f3]
  rw [decide_eq_false e4, cond_false] at hl hx
  rw [decide_eq_false e4, decide_eq_false (fun h => e4 (l9.1 h)), cond_false, cond_false]
  by_cases e5 : x.kind = 5
  · rw [decide_eq_true e5, cond_true] at hl
    rw [decide_eq_true (show x.kind ≤ 6 by omega), cond_true] at hx
    rw [decide_eq_true e5, decide_eq_true (l8.2 e5), cond_true, cond_true]
    rw [List.length_append] at hl
    rw [subR_in (by omega) hx hr (by omega), catO_in (by simp only [List.length_cons, List.length_nil]; omega)]
  rw [decide_eq_false e5, cond_false] at hl
  rw [decide_eq_false e5, decide_eq_false (fun h => e5 (l8.1 h)), cond_false, cond_false]
  by_cases e6 : x.kind = 6
  · rw [decide_eq_true e6, cond_true] at hl
    rw [decide_eq_true (show x.kind ≤ 6 by omega), cond_true] at hx
    rw [decide_eq_true e6, decide_eq_true (l3.2 e6), cond_true, cond_true]
    rw [List.length_append] at hl
    rw [subR_in (by omega) hx hr (by omega), catO_in (by simp only [List.length_cons, List.length_nil]; omega)]
  rw [decide_eq_false e6, cond_false] at hl
  rw [decide_eq_false (show ¬ x.kind ≤ 6 by omega), cond_false, Bool.and_eq_true] at hx
  rw [decide_eq_false e6, decide_eq_false (fun h => e6 (l3.1 h)), cond_false, cond_false]
  have h7 := h7 (by omega)
  obtain ⟨o1, o2, o3⟩ := op_txt ⟨x.kind.toNat, by omega⟩ (by simp only; omega)
  have e : ((x.kind.toNat : Nat) : Int) = x.kind := by omega
  simp only [e] at o1 o2 o3
  have hleft : leftI x.kind ≤ 9 := by unfold leftI; cases decide ((lineK x.kind : Int) = 4) <;> simp only [cond_true, cond_false] <;> omega
  have hw : w64 ((lineK x.kind : Int) + 1) = (lineK x.kind : Int) + 1 := w64_rng (by unfold Rng; omega)
  have hbin : (bif decide ((lineK x.kind : Int) = 4) then binR k X x 5 else binR k X x (lineK x.kind : Int)) = binR k X x (leftI x.kind) := by
    unfold leftI
    cases decide ((lineK x.kind : Int) = 4) <;> rfl
  unfold opS at hl ⊢
  simp only [List.length_append] at hl
  rw [hbin]
  unfold binR
  have hin : ∀ z : Option Out, inb' (u8 (x.kind - 7)) sgnL.length z = z := fun z => inb_in o1 o2 z
  simp only [hin, o3, hw]
  have h32 : ([32] : List UInt8).length = 1 := rfl
  have ho := opT_len x.kind
  rw [subR_in hleft hx.1 hr (by omega), catO_in (by omega), catO_in (by simp only [List.length_append]; omega), catO_in (by simp only [List.length_append]; omega), subR_in (by omega) hx.2 hr (by omega), catO_in (by simp only [List.length_append]; omega)]
  simp only [List.append_assoc]
end Go.Proofs.YtfniiapkghpihaaGreatDoor
/-
  Printer's reference: names of sources; Told's loop by contract.
-/
namespace Go.Proofs.YtfniiapkghpihaaGreatDoor
open Go.Am Go
set_option maxRecDepth 100000
variable {B : Nat → Option Obj}
def nmL : List (List UInt8) := [[97], [98], [99], [100]]
def nmS (n : Int) : List UInt8 := nmL.getD n.toNat []
def nameO (_ e : Int) (s : List UInt8) : Option Out := some ⟨[.str s, i64 e], []⟩
theorem tNm (n : Int) : runT B lib5 Tryz.f70 [.int .i64 n] [] = bif decide (n < 0) then nameO n 2 [] else bif decide (4 ≤ n) then nameO n 2 [] else bif decide (0 ≤ n ∧ n ≤ w64 (n + 1) ∧ w64 (n + 1) ≤ (([97, 98, 99, 100] : List UInt8).length : Int)) then nameO n 0 ((([97, 98, 99, 100] : List UInt8).take (w64 (n + 1)).toNat).drop n.toNat) else none := by kernel_rfl
def sNm : FSpec
  | [.int .i64 n], [] => .node (inR n) (.leaf ⟨[.str (nmS n), .int .i64 0], []⟩) .bad
  | _, _ => .bad
theorem inR_of {n : Int} (h : inR n = true) : 0 ≤ n ∧ n ≤ 3 := by
  unfold inR at h
  rw [Bool.and_eq_true, decide_eq_true_eq, decide_eq_true_eq] at h
  exact h
theorem nm_txt : ∀ k : Fin 4, (([97, 98, 99, 100] : List UInt8).take ((k.val : Int) + 1).toNat).drop (k.val : Int).toNat = nmS k.val := by decide +kernel
theorem okNm : FnOk (E0 B) 70 sNm := by
  refine fnT lib5_ok Tryz.func70 (by kernel_rfl) (by kernel_rfl) fun vs bs r h => ?_
  unfold sNm at h
  split at h
  · rename_i n
    rcases T.node_sel h with ⟨hc, h2⟩ | ⟨_, h2⟩
    · simp only [T.sel, Option.some.injEq] at h2; subst h2
      obtain ⟨n0, n3⟩ := inR_of hc
      refine (tNm n).trans ?_
      have h1 := nm_txt ⟨n.toNat, by omega⟩
      have e : ((n.toNat : Nat) : Int) = n := by omega
      simp only [e] at h1
      have hw : w64 (n + 1) = n + 1 := w64_rng (by unfold Rng; omega)
      rw [hw, h1, decide_eq_false (show ¬ n < 0 by omega), decide_eq_false (show ¬ 4 ≤ n by omega), decide_eq_true (show 0 ≤ n ∧ n ≤ n + 1 ∧ n + 1 ≤ (([97, 98, 99, 100] : List UInt8).length : Int) from ⟨n0, by omega, by show n + 1 ≤ 4; omega⟩)]; rfl
    · simp [T.sel] at h2
  · simp [T.sel] at h
noncomputable def libT9 : Tb := (70, [], sNm) :: Ck.lib15
theorem libT9_ok : TbOk B libT9 := (((Ck.lib15_ok.add okNm)))
def sgTd9 : LSig := { cs := [(1, 0), (5, 0)], mv := [(4, 0), (6, 0)], mo := [(4, 0)], take := [] }
def qTy : List TypeId := [5, 23, 24, 4, 23, 5, 2, 2, 4, 5]
def qBx (q : Qry) (a b c : Nat) : Blk := ⟨true, .gen qTy [(q.av a b c).cells]⟩
def qBs (q : Qry) : List Blk := [qBx q 1 2 3, ⟨false, .nodes q.arg⟩, ⟨false, .ints .i64 q.src⟩, ⟨false, .nodes q.whr⟩]
def cat9 {α : Type} (a b : List UInt8) (f : List UInt8 → Option α) : Option α := bif decide (a.length + b.length ≤ lim) then f (a ++ b) else none
theorem cat9_in {α : Type} {a b : List UInt8} (h : a.length + b.length ≤ 1000000) (f : List UInt8 → Option α) : cat9 a b f = f (a ++ b) := by
  unfold cat9
  rw [decide_eq_true (show a.length + b.length ≤ lim by simp only [lim]; omega)]; rfl
def sGt (q : Qry) (i : Int) : Int := q.src.getD i.toNat 0
def nmK (q : Qry) (bt u : List UInt8) (i : Int) : Option (AExit × Out) := inb' i q.src.length (bif inR (sGt q i) then cat9 u (nmS (sGt q i)) (fun v => some (.normal, ⟨[.ptr 0 0 0, .str bt, .str v, i64 (w64 (i + 1))], qBs q⟩)) else none)
/-- the sources behind the first -/
def srcT (bt : List UInt8) : List UInt8 → List Int → List UInt8
  | s, [] => s
  | s, x :: r => srcT bt (s ++ bt ++ nmS x) r
def srcF (bt : List UInt8) (s : List UInt8) : List Int → List UInt8
  | [] => s
  | x :: r => srcT bt (s ++ nmS x) r
theorem nmS_len (n : Int) : (nmS n).length ≤ 1 := by
  unfold nmS nmL
  rcases n.toNat with _ | _ | _ | _ | k <;> simp [List.getD]
theorem srcT_len {bt : List UInt8} : ∀ (r : List Int) (s : List UInt8), (srcT bt s r).length ≤ s.length + r.length * (bt.length + 1)
  | [], s => by simp [srcT]
  | x :: r, s => by
    unfold srcT
    have h1 := srcT_len (bt := bt) r (s ++ bt ++ nmS x)
    have h2 := nmS_len x
    simp only [List.length_append, List.length_cons] at h1 ⊢
    rw [Nat.add_mul, Nat.one_mul]
    omega
theorem nmK_in {q : Qry} {bt u : List UInt8} {i : Nat} {x : Int} {r : List Int} (hd : q.src.drop i = x :: r) (hr : inR x = true) (hu : u.length ≤ 500000) (hi : i ≤ 1000) : nmK q bt u i = some (.normal, ⟨[.ptr 0 0 0, .str bt, .str (u ++ nmS x), i64 (i + 1 : Nat)], qBs q⟩) := by
  have hlt : i < q.src.length := by
    have := congrArg List.length hd
    simp only [List.length_drop, List.length_cons] at this
    omega
  have hg : sGt q i = x := by
    unfold sGt
    rw [Int.toNat_natCast, List.getD_eq_getElem?_getD]
    have h0 : (q.src.drop i)[0]? = q.src[i]? := by rw [List.getElem?_drop, Nat.add_zero]
    rw [← h0, hd]; rfl
  have hn := nmS_len x
  unfold nmK
  rw [inb'_is hlt, hg, hr, cond_true, cat9_in (by omega), w64_rng (show Rng ((i : Int) + 1) by unfold Rng; omega)]; rfl
def spTd9 : LSpec
  | [.ptr 0 0 0, .str bt, .str s, .int .i64 i], [⟨true, .gen ty [[.int .u8 ag, .slw 1, .slw 2, .bool j, .slw 3, .int .u8 wk, .int .i64 ws, .int .i64 we, .bool bk, .int .u8 lt]]⟩, ⟨false, .nodes A⟩, ⟨false, .ints .i64 S⟩, ⟨false, .nodes W⟩] =>
    .node (decide (ty = qTy) && (decide (i = 0 ∧ S.length ≤ 4 ∧ s.length ≤ 200000 ∧ bt.length ≤ 100) && S.all inR)) (.leaf (.exit 0, ⟨[.str (srcF bt s S)], [⟨true, .gen qTy [[.int .u8 ag, .slw 1, .slw 2, .bool j, .slw 3, .int .u8 wk, .int .i64 ws, .int .i64 we, .bool bk, .int .u8 lt]]⟩, ⟨false, .nodes A⟩, ⟨false, .ints .i64 S⟩, ⟨false, .nodes W⟩]⟩)) .bad
  | _, _ => .bad
end Go.Proofs.YtfniiapkghpihaaGreatDoor
/-
  Printer's reference: Told by contract.
-/
namespace Go.Proofs.YtfniiapkghpihaaGreatDoor
open Go.Am Go
set_option maxRecDepth 100000
variable {B : Nat → Option Obj}
def agL : List (List UInt8) := [[99, 111, 117, 110, 116], [115, 117, 109], [109, 105, 110], [109, 97, 120]]
def wiL : List (List UInt8) := [[116, 117, 109, 98, 108, 101, 32], [115, 108, 105, 100, 101, 32], [115, 101, 115, 115, 105, 111, 110, 32]]
def sbT (X : List Nod) (f : List UInt8 → Option Out) : Option Out := bif gW 20 X (w64 ((X.length : Int) - 1)) 0 then f (wrN 20 X (w64 ((X.length : Int) - 1)) 0) else none
def tdL (lt : Int) (s : List UInt8) : Option Out := bif decide (lt = 2) then cat9 s [32, 108, 97, 116, 101, 32, 115, 105, 100, 101] strO else strO s
def tdK (bk : Bool) (lt : Int) (s : List UInt8) : Option Out := bif bk then cat9 s [32, 98, 121, 32, 107, 101, 121] (tdL lt) else tdL lt s
def tdE (wk we : Int) (bk : Bool) (lt : Int) (s : List UInt8) : Option Out := bif decide (wk = 2) then (bif decide (Rng we) then cat9 [32, 101, 118, 101, 114, 121, 32] (Lib.itoa we) fun u => cat9 s u (tdK bk lt) else none) else tdK bk lt s
def tdW (q : Qry) (s : List UInt8) : Option Out := inb' (u8 (q.wk - 1)) wiL.length (cat9 [32, 119, 105, 110, 100, 111, 119, 32] (wiL.getD (u8 (q.wk - 1)).toNat []) fun u => bif decide (Rng q.ws) then cat9 u (Lib.itoa q.ws) (fun v => cat9 s v (tdE q.wk q.we q.byKey q.late)) else none)
def tdR (q : Qry) (s : List UInt8) : Option Out := bif decide ((0 : Int) < (q.whr.length : Int)) then sbT q.whr (fun w => cat9 [32, 119, 104, 101, 114, 101, 32] w fun u => cat9 s u (tdW q)) else tdW q s
def tdS (q : Qry) (bt s : List UInt8) : Option Out := bif decide (qTy = qTy) && (decide ((0 : Int) = 0 ∧ q.src.length ≤ 4 ∧ s.length ≤ 200000 ∧ bt.length ≤ 100) && q.src.all inR) then tdR q (srcF bt s q.src) else none
def tdA (q : Qry) (a : List UInt8) : Option Out := inb' (u8 (q.agg - 1)) agL.length (cat9 [115, 101, 108, 101, 99, 116, 32] (agL.getD (u8 (q.agg - 1)).toNat []) fun s => cat9 s [40] fun s => cat9 s a fun s => cat9 s [41, 32, 102, 114, 111, 109, 32] fun s =>
  bif q.join then tdS q [32, 106, 111, 105, 110, 32] s else tdS q [32, 117, 110, 105, 111, 110, 32] s)
def tdO (q : Qry) : Option Out := bif !decide (q.agg = 1) then sbT q.arg (tdA q) else tdA q [42]
/-! what it is -/
def agT (k : Int) : List UInt8 := agL.getD (u8 (k - 1)).toNat []
def wiT (k : Int) : List UInt8 := wiL.getD (u8 (k - 1)).toNat []
def argT (q : Qry) : List UInt8 := bif decide (q.agg = 1) then [42] else prS q.arg
def btT (j : Bool) : List UInt8 := bif j then [32, 106, 111, 105, 110, 32] else [32, 117, 110, 105, 111, 110, 32]
def hdT (q : Qry) : List UInt8 := [115, 101, 108, 101, 99, 116, 32] ++ agT q.agg ++ [40] ++ argT q ++ [41, 32, 102, 114, 111, 109, 32]
def whT (q : Qry) : List UInt8 := bif decide (0 < q.whr.length) then [32, 119, 104, 101, 114, 101, 32] ++ prS q.whr else []
def wnT (q : Qry) : List UInt8 := [32, 119, 105, 110, 100, 111, 119, 32] ++ wiT q.wk ++ Lib.itoa q.ws
def evT (q : Qry) : List UInt8 := bif decide (q.wk = 2) then [32, 101, 118, 101, 114, 121, 32] ++ Lib.itoa q.we else []
def bkT (q : Qry) : List UInt8 := bif q.byKey then [32, 98, 121, 32, 107, 101, 121] else []
def ltT (q : Qry) : List UInt8 := bif decide (q.late = 2) then [32, 108, 97, 116, 101, 32, 115, 105, 100, 101] else []
/-- a query's text -/
def tdT (q : Qry) : List UInt8 := srcF (btT q.join) (hdT q) q.src ++ whT q ++ wnT q ++ evT q ++ bkT q ++ ltT q
theorem tdL_is (q : Qry) {s : List UInt8} (h : s.length ≤ 500000) : tdL q.late s = strO (s ++ ltT q) := by
  unfold tdL ltT
  cases decide (q.late = 2) with
  | true => exact cat9_in (by simp only [List.length_cons, List.length_nil]; omega) _
  | false => rw [cond_false, cond_false, List.append_nil]
theorem tdK_is (q : Qry) {s : List UInt8} (h : s.length ≤ 400000) : tdK q.byKey q.late s = strO (s ++ bkT q ++ ltT q) := by
  unfold tdK bkT
  cases q.byKey with
  | true =>
    rw [cond_true, cond_true, cat9_in (by simp only [List.length_cons, List.length_nil]; omega), tdL_is q (by simp only [List.length_append, List.length_cons, List.length_nil]; omega)]
  | false => rw [cond_false, cond_false, List.append_nil, tdL_is q (by omega)]
theorem tdE_is (q : Qry) (hw : Rng q.we) {s : List UInt8} (h : s.length ≤ 300000) : tdE q.wk q.we q.byKey q.late s = strO (s ++ evT q ++ bkT q ++ ltT q) := by
  unfold tdE evT
  have hi := itoa_len hw
  cases decide (q.wk = 2) with
  | true =>
    rw [cond_true, cond_true, decide_eq_true hw, cond_true, cat9_in (by simp only [List.length_cons, List.length_nil]; omega), cat9_in (by simp only [List.length_append, List.length_cons, List.length_nil]; omega),
      tdK_is q (by simp only [List.length_append, List.length_cons, List.length_nil]; omega)]
  | false => rw [cond_false, cond_false, List.append_nil, tdK_is q (by omega)]
theorem wi_in : ∀ k : Fin 4, 1 ≤ k.val → (0 ≤ u8 ((k.val : Int) - 1) ∧ u8 ((k.val : Int) - 1) < 3) ∧ (wiT k.val).length ≤ 10 := by decide +kernel
theorem ag_in : ∀ k : Fin 5, 1 ≤ k.val → (0 ≤ u8 ((k.val : Int) - 1) ∧ u8 ((k.val : Int) - 1) < 4) ∧ (agT k.val).length ≤ 10 := by decide +kernel
theorem wi_of {k : Int} (h1 : 1 ≤ k) (h2 : k ≤ 3) : (0 ≤ u8 (k - 1) ∧ u8 (k - 1) < 3) ∧ (wiT k).length ≤ 10 := by
  have h3 := wi_in ⟨k.toNat, by omega⟩ (by simp only; omega)
  have e : ((k.toNat : Nat) : Int) = k := by omega
  simp only [e] at h3
  exact h3
theorem ag_of {k : Int} (h1 : 1 ≤ k) (h2 : k ≤ 4) : (0 ≤ u8 (k - 1) ∧ u8 (k - 1) < 4) ∧ (agT k).length ≤ 10 := by
  have h3 := ag_in ⟨k.toNat, by omega⟩ (by simp only; omega)
  have e : ((k.toNat : Nat) : Int) = k := by omega
  simp only [e] at h3
  exact h3
theorem tdW_is (q : Qry) (hs : Rng q.ws) (hw : Rng q.we) (k1 : 1 ≤ q.wk) (k3 : q.wk ≤ 3) {s : List UInt8} (h : s.length ≤ 200000) : tdW q s = strO (s ++ wnT q ++ evT q ++ bkT q ++ ltT q) := by
  obtain ⟨⟨w1, w2⟩, w3⟩ := wi_of k1 k3
  have hi := itoa_len hs
  unfold wnT
  unfold wiT at w3 ⊢
  unfold tdW
  rw [inb_in w1 (show u8 (q.wk - 1) < (wiL.length : Int) from w2), cat9_in (by simp only [List.length_cons, List.length_nil]; omega), decide_eq_true hs, cond_true, cat9_in (by simp only [List.length_append, List.length_cons, List.length_nil]; omega),
    cat9_in (by simp only [List.length_append, List.length_cons, List.length_nil]; omega), tdE_is q hw (by simp only [List.length_append, List.length_cons, List.length_nil]; omega)]
theorem sbT_is {X : List Nod} (hc : chkN X = 0) (hr : rngX X = true) : (prS X).length ≤ 2000 ∧ ∀ f, sbT X f = f (prS X) := by
  obtain ⟨e, he, rfl, hs, _⟩ := chkN_tree hc
  have h1 := prS_is he hc
  have hx := (txS_is he hc).2
  have hp := e.size_pos
  have hrr : e.rng = true := by rw [← rng_flat e 0]; exact hr
  have hw : w64 (((e.flat 0).length : Int) - 1) = ((e.flat 0).length : Int) - 1 := w64_rng (by unfold Rng; rw [Ex.flat_len]; omega)
  have hb := pcsS_bound false e 0 hrr
  have h1' : wrN 20 (e.flat 0) (((e.flat 0).length : Int) - 1) 0 = prS (e.flat 0) := by
    unfold prS
    rw [decide_eq_true hc]; rfl
  have hl : (prS (e.flat 0)).length ≤ 2000 := by
    rw [h1]; unfold Ex.txt; omega
  refine ⟨hl, fun f => ?_⟩
  unfold sbT gW
  rw [hw, h1', hx, hr, decide_eq_true (show (prS (e.flat 0)).length ≤ 100000 by omega)]; rfl
structure QOk (q : Qry) : Prop where
  a1 : 1 ≤ q.agg
  a4 : q.agg ≤ 4
  arg : q.agg ≠ 1 → chkN q.arg = 0
  rA : rngX q.arg = true
  whr : 0 < q.whr.length → chkN q.whr = 0
  rW : rngX q.whr = true
  s4 : q.src.length ≤ 4
  s0 : 0 < q.src.length
  sR : q.src.all inR = true
  k1 : 1 ≤ q.wk
  k3 : q.wk ≤ 3
  ws : Rng q.ws
  we : Rng q.we
theorem bt_len (j : Bool) : (btT j).length ≤ 7 := by cases j <;> decide
theorem srcF_len (bt s : List UInt8) (L : List Int) (hL : L.length ≤ 4) (hb : bt.length ≤ 7) : (srcF bt s L).length ≤ s.length + 100 := by
  cases L with
  | nil => show s.length ≤ _; omega
  | cons x r =>
    have h1 := srcT_len (bt := bt) r (s ++ nmS x)
    have h2 := nmS_len x
    simp only [List.length_cons] at hL
    have hm : r.length * (bt.length + 1) ≤ 3 * 8 := Nat.mul_le_mul (by omega) (by omega)
    simp only [List.length_append] at h1
    show (srcT bt (s ++ nmS x) r).length ≤ _
    omega
theorem tdR_is {q : Qry} (h : QOk q) {s : List UInt8} (hl : s.length ≤ 150000) : tdR q s = strO (s ++ whT q ++ wnT q ++ evT q ++ bkT q ++ ltT q) := by
  unfold tdR whT
  by_cases h0 : 0 < q.whr.length
  · obtain ⟨p1, p2⟩ := sbT_is (h.whr h0) h.rW
    rw [decide_eq_true h0, decide_eq_true (show (0 : Int) < (q.whr.length : Int) by omega), cond_true, cond_true, p2, cat9_in (by simp only [List.length_cons, List.length_nil]; omega), cat9_in (by simp only [List.length_append, List.length_cons, List.length_nil]; omega),
      tdW_is q h.ws h.we h.k1 h.k3 (by simp only [List.length_append, List.length_cons, List.length_nil]; omega)]
  · rw [decide_eq_false h0, decide_eq_false (show ¬ (0 : Int) < (q.whr.length : Int) by omega), cond_false, cond_false, List.append_nil, tdW_is q h.ws h.we h.k1 h.k3 (by omega)]
theorem tdS_is {q : Qry} (h : QOk q) {s : List UInt8} (hl : s.length ≤ 100000) (j : Bool) : tdS q (btT j) s = strO (srcF (btT j) s q.src ++ whT q ++ wnT q ++ evT q ++ bkT q ++ ltT q) := by
  have hb := bt_len j
  have h4 := h.s4
  unfold tdS
  rw [decide_eq_true (rfl : qTy = qTy), decide_eq_true (show (0 : Int) = 0 ∧ q.src.length ≤ 4 ∧ s.length ≤ 200000 ∧ (btT j).length ≤ 100 by omega), h.sR]
  exact tdR_is h (by have := srcF_len (btT j) s q.src h4 hb; omega)
theorem tdA_is {q : Qry} (h : QOk q) (hl : (argT q).length ≤ 2000) : tdA q (argT q) = strO (tdT q) := by
  obtain ⟨⟨w1, w2⟩, w3⟩ := ag_of h.a1 h.a4
  unfold tdA tdT hdT
  unfold agT at w3 ⊢
  rw [inb_in w1 (show u8 (q.agg - 1) < (agL.length : Int) from w2), cat9_in (by simp only [List.length_cons, List.length_nil]; omega), cat9_in (by simp only [List.length_append, List.length_cons, List.length_nil]; omega),
    cat9_in (by simp only [List.length_append, List.length_cons, List.length_nil]; omega), cat9_in (by simp only [List.length_append, List.length_cons, List.length_nil]; omega)]
  cases hj : q.join with
  | true => exact tdS_is h (by simp only [List.length_append, List.length_cons, List.length_nil]; omega) true
  | false => exact tdS_is h (by simp only [List.length_append, List.length_cons, List.length_nil]; omega) false
theorem tdO_is {q : Qry} (h : QOk q) : tdO q = strO (tdT q) := by
  have hA : (argT q).length ≤ 2000 := by
    unfold argT
    by_cases h1 : q.agg = 1
    · rw [decide_eq_true h1]; show ([42] : List UInt8).length ≤ 2000; decide
    · rw [decide_eq_false h1]; exact (sbT_is (h.arg h1) h.rA).1
  have ht := tdA_is h hA
  unfold tdO
  unfold argT at ht
  by_cases h1 : q.agg = 1
  · rw [decide_eq_true h1] at ht ⊢; exact ht
  · rw [decide_eq_false h1] at ht ⊢
    rw [Bool.not_false, cond_true, (sbT_is (h.arg h1) h.rA).2]; exact ht
end Go.Proofs.YtfniiapkghpihaaGreatDoor
