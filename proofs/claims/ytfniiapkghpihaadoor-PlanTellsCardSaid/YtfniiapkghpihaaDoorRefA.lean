/-
  Texts put together: RefInt, RefWr, RefWr2, RefTd, RefTd2.
-/
import Derived.Test.YtfniiapkghpihaaDoorNodBase
import Derived.Test.YtfniiapkghpihaaDoorPureA
import Derived.Shelf.Strconv.Itoa4
import Derived.Test.YtfniiapkghpihaaDoorPrtP
import Derived.Test.YtfniiapkghpihaaDoorClsA
/-
  The reference's Text of a number, by contract.
-/
namespace Go.Proofs.YtfniiapkghpihaaDoor.R1
open Go.Am Go.Shelf
set_option maxRecDepth 100000
variable {B : Nat → Option Obj}
def fails (p : Bool) : Bool := bif p then false else true
/-! the reference's Text: by how many digits there are -/
def sText (k : Nat) : FSpec
  | [.int .i64 n], [] => .node (decide (Rng n ∧ n.natAbs < 10 ^ k)) (.leaf ⟨[.str (Lib.itoa n)], []⟩) .bad
  | _, _ => .bad
def sText0 : FSpec
  | [.int .i64 n], [] => .node (decide (Rng n)) (.leaf ⟨[.str (Lib.itoa n)], []⟩) .bad
  | _, _ => .bad
def rs (s : List UInt8) : Option Out := some ⟨[.str s], []⟩
theorem tText (k : Nat) (n : Int) : (fnRun (E0 B) (specC (E0 B) (tab [(37, [], sText k)])) noL Tryd.f37 (bodyC Tryd.f37) [.int .i64 n] []).sel =
    bif decide (n.tmod 10 < 0) then (bif fails (decide (w64 (n.tdiv 10) = 0)) then (bif decide (Rng (w64 (n.tdiv 10)) ∧ (w64 (n.tdiv 10)).natAbs < 10 ^ k) then (bif decide ((Lib.itoa (w64 (n.tdiv 10))).length + 1 ≤ lim) then rs (Lib.itoa (w64 (n.tdiv 10)) ++ byteList [IntKind.u8.wrap (w64 (48 + w64 (0 - n.tmod 10)))]) else none) else none)
      else bif decide (n < 0) then rs ([45] ++ byteList [IntKind.u8.wrap (w64 (48 + w64 (0 - n.tmod 10)))]) else rs (byteList [IntKind.u8.wrap (w64 (48 + w64 (0 - n.tmod 10)))]))
    else (bif fails (decide (w64 (n.tdiv 10) = 0)) then (bif decide (Rng (w64 (n.tdiv 10)) ∧ (w64 (n.tdiv 10)).natAbs < 10 ^ k) then (bif decide ((Lib.itoa (w64 (n.tdiv 10))).length + 1 ≤ lim) then rs (Lib.itoa (w64 (n.tdiv 10)) ++ byteList [IntKind.u8.wrap (w64 (48 + n.tmod 10))]) else none) else none)
      else bif decide (n < 0) then rs ([45] ++ byteList [IntKind.u8.wrap (w64 (48 + n.tmod 10))]) else rs (byteList [IntKind.u8.wrap (w64 (48 + n.tmod 10))])) := by kernel_rfl

theorem itoa_step {n : Int} (h : Rng n) :
    (n.tmod 10 < 0 → byteList [IntKind.u8.wrap (w64 (48 + w64 (0 - n.tmod 10)))] = [UInt8.ofNat (48 + n.natAbs % 10)]) ∧ (¬ n.tmod 10 < 0 → byteList [IntKind.u8.wrap (w64 (48 + n.tmod 10))] = [UInt8.ofNat (48 + n.natAbs % 10)]) ∧
    w64 (n.tdiv 10) = n.tdiv 10 ∧ (n.tdiv 10).natAbs = n.natAbs / 10 ∧ (n.tdiv 10 ≠ 0 → (n.tdiv 10 < 0 ↔ n < 0)) := by
  unfold Rng at h
  have key : ∀ m : Int, 0 ≤ m → m ≤ 9 → byteList [IntKind.u8.wrap (w64 (48 + m))] = [UInt8.ofNat (48 + m.toNat)] := by
    intro m h0 h1
    rw [w64_rng (by unfold Rng; omega)]
    have e : IntKind.u8.wrap (48 + m) = 48 + m := by simp [IntKind.wrap, IntKind.bits, IntKind.signed]; omega
    rw [e]
    simp only [byteList, List.map_cons, List.map_nil]
    congr 2; omega
  rcases Int.lt_or_le n 0 with h0 | h0
  · obtain ⟨m, rfl⟩ : ∃ m : Int, n = -m := ⟨-n, by omega⟩
    rw [Int.neg_tmod, Int.neg_tdiv, Int.tmod_eq_emod_of_nonneg (by omega), Int.tdiv_eq_ediv_of_nonneg (by omega)]
    refine ⟨fun _ => ?_, fun hn => ?_, w64_rng (by unfold Rng; omega), by omega, by omega⟩
    · rw [show (0 : Int) - -(m % 10) = m % 10 from by omega, show w64 (m % 10) = m % 10 from w64_rng (by unfold Rng; omega), key _ (by omega) (by omega)]
      congr 2; omega
    · rw [show -(m % 10) = 0 from by omega, key _ (by omega) (by omega)]
      congr 2; omega
  · rw [Int.tmod_eq_emod_of_nonneg h0, Int.tdiv_eq_ediv_of_nonneg h0]
    refine ⟨fun hn => by omega, fun _ => ?_, w64_rng (by unfold Rng; omega), by omega, by omega⟩
    rw [key _ (by omega) (by omega)]
    congr 2; omega
theorem itoa_big {n : Int} (h : ¬ n.natAbs < 10) (hd : (n.tdiv 10).natAbs = n.natAbs / 10) (hs : n.tdiv 10 < 0 ↔ n < 0) : Lib.itoa n = Lib.itoa (n.tdiv 10) ++ [UInt8.ofNat (48 + n.natAbs % 10)] := by
  unfold Lib.itoa
  by_cases h0 : n < 0
  · rw [if_pos h0, if_pos (hs.2 h0), dec_big h, hd]; rfl
  · have h1 : ¬ n.tdiv 10 < 0 := fun h => h0 (hs.1 h)
    rw [if_neg h0, if_neg h1, show n.toNat = n.natAbs from by omega, dec_big h, ← hd, show (n.tdiv 10).toNat = (n.tdiv 10).natAbs from by omega]
theorem itoa_small {n : Int} (h : n.natAbs < 10) : Lib.itoa n = if n < 0 then [45, UInt8.ofNat (48 + n.natAbs % 10)] else [UInt8.ofNat (48 + n.natAbs % 10)] := by
  unfold Lib.itoa
  rw [Nat.mod_eq_of_lt h]
  split
  · rw [dec_small h]
  · rw [show n.toNat = n.natAbs from by omega, dec_small h]
theorem text_step (k : Nat) (hk : FnOk (E0 B) 37 (sText k)) : FnOk (E0 B) 37 (sText (k + 1)) := by
  refine fn_ok (C := specC (E0 B) (tab [(37, [], sText k)])) (L := noL) (c := bodyC Tryd.f37) Tryd.func37 (by kernel_rfl) (by kernel_rfl)
    (specC_ok (tab_ok fun x hx => by simp only [List.mem_singleton] at hx; subst hx; exact hk)) (noL_ok _) fun vs bs r h => ?_
  unfold sText at h
  split at h
  · rename_i n
    rcases T.node_sel h with ⟨hc, h2⟩ | ⟨_, h2⟩
    · simp only [T.sel, Option.some.injEq] at h2; subst h2
      obtain ⟨hr, hn⟩ := of_decide_eq_true hc
      refine (tText k n).trans ?_
      obtain ⟨s1, s2, s3, s4, s5⟩ := itoa_step hr
      rw [s3]
      by_cases hb : n.natAbs < 10
      · have hz : n.tdiv 10 = 0 := by omega
        rw [itoa_small hb, decide_eq_true hz]
        cases hm : decide (n.tmod 10 < 0) with
        | true =>
          rw [s1 (of_decide_eq_true hm)]
          by_cases h0 : n < 0
          · rw [decide_eq_true h0, if_pos h0]; rfl
          · rw [decide_eq_false h0, if_neg h0]; rfl
        | false =>
          rw [s2 (of_decide_eq_false hm)]
          by_cases h0 : n < 0
          · rw [decide_eq_true h0, if_pos h0]; rfl
          · rw [decide_eq_false h0, if_neg h0]; rfl
      · have hz : ¬ n.tdiv 10 = 0 := by omega
        have hrq : Rng (n.tdiv 10) := by rw [← s3]; exact rng_w64 _
        have hlt : (n.tdiv 10).natAbs < 10 ^ k := by rw [s4]; rw [Nat.pow_succ] at hn; omega
        have hlen : (Lib.itoa (n.tdiv 10)).length + 1 ≤ lim := by have := itoa_len hrq; simp only [lim]; omega
        rw [itoa_big hb s4 (s5 hz), decide_eq_false hz, decide_eq_true (show Rng (n.tdiv 10) ∧ (n.tdiv 10).natAbs < 10 ^ k from ⟨hrq, hlt⟩), decide_eq_true hlen]
        cases hm : decide (n.tmod 10 < 0) with
        | true => rw [s1 (of_decide_eq_true hm)]; rfl
        | false => rw [s2 (of_decide_eq_false hm)]; rfl
    · simp [T.sel] at h2
  · simp [T.sel] at h
theorem tText0 : (fnRun (E0 B) (C0 B) noL Tryd.f37 (bodyC Tryd.f37) [.int .i64 0] []).sel = rs [48] := by kernel_rfl
theorem text_0 : FnOk (E0 B) 37 (sText 0) := by
  refine fn_ok (C := C0 B) (L := noL) (c := bodyC Tryd.f37) Tryd.func37 (by kernel_rfl) (by kernel_rfl) c0Ok (noL_ok _) fun vs bs r h => ?_
  unfold sText at h
  split at h
  · rename_i n
    rcases T.node_sel h with ⟨hc, h2⟩ | ⟨_, h2⟩
    · simp only [T.sel, Option.some.injEq] at h2; subst h2
      obtain ⟨_, hn⟩ := of_decide_eq_true hc
      have : n = 0 := by omega
      subst this
      refine tText0.trans ?_
      rw [itoa_small (by decide)]; rfl
    · simp [T.sel] at h2
  · simp [T.sel] at h
theorem text_all (k : Nat) : FnOk (E0 B) 37 (sText k) := by
  induction k with
  | zero => exact text_0
  | succ k ih => exact text_step k ih
theorem okText : FnOk (E0 B) 37 sText0 := by
  refine ⟨text_0.1, fun vs bs out h => (text_all (B := B) 20).2 vs bs out ?_⟩
  unfold sText0 at h
  split at h
  · rename_i n
    rcases T.node_sel h with ⟨hc, h2⟩ | ⟨_, h2⟩
    · have hr := of_decide_eq_true hc
      have hr' := hr
      unfold Rng at hr'
      have h20 : (10 : Nat) ^ 20 = 100000000000000000000 := by decide
      have : decide (Rng n ∧ n.natAbs < 10 ^ 20) = true := decide_eq_true ⟨hr, by omega⟩
      simp only [sText, T.sel, this, cond_true] at h2 ⊢
      exact h2
    · simp [T.sel] at h2
  · simp [T.sel] at h


end Go.Proofs.YtfniiapkghpihaaDoor.R1
/-
  Printer's reference: Line, part, Written by contract.
-/
namespace Go.Proofs.YtfniiapkghpihaaDoor
open Go.Am Go
set_option maxRecDepth 100000
variable {B : Nat → Option Obj}
def lnL : List Int := [0, 9, 9, 9, 9, 8, 3, 7, 6, 6, 5, 5, 4, 4, 4, 4, 4, 4, 2, 1]
theorem tLine (k : Int) : runT B lib5 Tryd.f54 [.int .u8 k] [] = bif decide (0 ≤ k ∧ k < (lnL.length : Int)) then (bif decide (k.toNat + 0 < lnL.length) then some ⟨[i64 (lnL.getD (k.toNat + 0) 0)], []⟩ else none) else none := by kernel_rfl
theorem ln_is : ∀ k : Fin 20, 1 ≤ k.val → lnL.getD (k.val + 0) 0 = (lineK k.val : Int) := by decide +kernel
def sLine : FSpec
  | [.int .u8 k], [] => .node (decide (1 ≤ k ∧ k ≤ 19)) (.leaf ⟨[.int .i64 (lineK k : Int)], []⟩) .bad
  | _, _ => .bad
theorem okLine : FnOk (E0 B) 54 sLine := by
  refine fnT lib5_ok Tryd.func54 (by kernel_rfl) (by kernel_rfl) fun vs bs r h => ?_
  unfold sLine at h
  split at h
  · rename_i k
    rcases T.node_sel h with ⟨hc, h2⟩ | ⟨_, h2⟩
    · simp only [T.sel, Option.some.injEq] at h2; subst h2
      obtain ⟨k1, k2⟩ := of_decide_eq_true hc
      refine (tLine k).trans ?_
      have hl : lnL.length = 20 := rfl
      have h3 := ln_is ⟨k.toNat, by omega⟩ (by simp only; omega)
      have e : ((k.toNat : Nat) : Int) = k := by omega
      simp only [e] at h3
      rw [decide_eq_true (show 0 ≤ k ∧ k < (lnL.length : Int) by rw [hl]; omega), decide_eq_true (show k.toNat + 0 < lnL.length by rw [hl]; omega), h3]; rfl
    · simp [T.sel] at h2
  · simp [T.sel] at h
/-! Written, and a part of it -/
def gW (k : Nat) (X : List Nod) (i m : Int) : Bool := okX k X i && (rngX X && decide ((wrN k X i m).length ≤ 100000))
def sWrt (k : Nat) : FSpec
  | [.slw 0, .int .i64 i], [⟨false, .nodes X⟩] => .node (gW k X i 0) (.leaf ⟨[.str (wrN k X i 0)], []⟩) .bad
  | _, _ => .bad
def sPt (k : Nat) : FSpec
  | [.slw 0, .int .i64 i, .int .i64 m], [⟨false, .nodes X⟩] => .node (decide (m ≤ 9) && gW k X i m) (.leaf ⟨[.str (wrN k X i m)], []⟩) .bad
  | _, _ => .bad
noncomputable def libR (k : Nat) : Tb := (39, [], sWrt k) :: (54, [], sLine) :: (37, [], R1.sText0) :: lib5
theorem libR_ok (k : Nat) (h : FnOk (E0 B) 39 (sWrt k)) : TbOk B (libR k) := ((lib5_ok.add R1.okText).add okLine).add h
noncomputable def libR2 (k : Nat) : Tb := (55, [], sPt k) :: libR k
def kIn (k : Int) (z : Option Out) : Option Out := bif decide (1 ≤ k ∧ k ≤ 19) then z else none
theorem tPt (k : Nat) (X : List Nod) (i m : Int) : runT B (libR k) Tryd.f55 [.slw 0, i64 i, i64 m] [ndb X] =
    inb' i X.length (kIn (nodA X i).kind (bif decide ((lineK (nodA X i).kind : Int) < m) then (bif gW k X i 0 then catO [40] (wrN k X i 0) (fun s => catO s [41] strO) else none) else (bif gW k X i 0 then strO (wrN k X i 0) else none))) := by kernel_rfl
/-- brackets stand around -/
theorem wrN_brk {k : Nat} {X : List Nod} {i m : Int} (h : okX k X i = true) (hm : m ≤ 9) : wrN k X i m = brT (decide ((lineK (nodA X i).kind : Int) < m)) (wrN k X i 0) := by
  cases k with
  | zero => cases h
  | succ k =>
    have hln : ∀ a : Int, a ≤ 4 → lineK a = 9 := fun a ha => by unfold lineK; rw [decide_eq_true ha]; rfl
    unfold wrN
    have h0 : decide ((lineK (nodA X i).kind : Int) < 0) = false := decide_eq_false (by omega)
    rw [h0]
    by_cases h1 : (nodA X i).kind = 1
    · rw [decide_eq_true h1, hln _ (by omega), decide_eq_false (show ¬ ((9 : Nat) : Int) < m by omega)]; rfl
    · rw [decide_eq_false h1]
      by_cases h4 : (nodA X i).kind ≤ 4
      · rw [decide_eq_true h4, hln _ h4, decide_eq_false (show ¬ ((9 : Nat) : Int) < m by omega)]; rfl
      · rw [decide_eq_false h4]; rfl
theorem okX_rng {k : Nat} {X : List Nod} {i : Int} (h : okX k X i = true) : 0 ≤ i ∧ i < (X.length : Int) ∧ 1 ≤ (nodA X i).kind ∧ (nodA X i).kind ≤ 19 := by
  cases k with
  | zero => cases h
  | succ k =>
    unfold okX at h
    rw [Bool.and_eq_true] at h
    exact of_decide_eq_true h.1
theorem okPt {k : Nat} (h : FnOk (E0 B) 39 (sWrt k)) : FnOk (E0 B) 55 (sPt k) := by
  refine fnT (libR_ok k h) Tryd.func55 (by kernel_rfl) (by kernel_rfl) fun vs bs r h => ?_
  unfold sPt at h
  split at h
  · rename_i i m X
    rcases T.node_sel h with ⟨hc, h2⟩ | ⟨_, h2⟩
    · simp only [T.sel, Option.some.injEq] at h2; subst h2
      rw [Bool.and_eq_true] at hc
      have hm := of_decide_eq_true hc.1
      have hg := hc.2
      unfold gW at hg
      simp only [Bool.and_eq_true] at hg
      obtain ⟨hx, hr, hl⟩ := hg
      have hl := of_decide_eq_true hl
      obtain ⟨i0, i1, k1, k2⟩ := okX_rng hx
      have hb := wrN_brk hx hm
      have hle : (wrN k X i 0).length ≤ 100000 := Nat.le_trans (by rw [hb]; exact brT_ge _ _) hl
      have hg0 : gW k X i 0 = true := by unfold gW; rw [hx, hr, decide_eq_true hle]; rfl
      refine (tPt k X i m).trans ?_
      unfold kIn
      rw [inb_in i0 i1, decide_eq_true (show 1 ≤ (nodA X i).kind ∧ (nodA X i).kind ≤ 19 from ⟨k1, k2⟩), cond_true, hg0, hb]
      cases decide ((lineK (nodA X i).kind : Int) < m) with
      | true => exact partO_in (p := true) (by omega)
      | false => rfl
    · simp [T.sel] at h2
  · simp [T.sel] at h
theorem libR2_ok (k : Nat) (h : FnOk (E0 B) 39 (sWrt k)) : TbOk B (libR2 k) := (libR_ok k h).add (okPt h)
end Go.Proofs.YtfniiapkghpihaaDoor
/-
  Printer's reference: Written by contract.
-/
namespace Go.Proofs.YtfniiapkghpihaaDoor
open Go.Am Go
set_option maxRecDepth 100000
variable {B : Nat → Option Obj}
def fldL : List (List UInt8) := [[107], [116], [118]]
def subR (k : Nat) (X : List Nod) (j m : Int) (f : List UInt8 → Option Out) : Option Out := bif decide (m ≤ 9) && gW k X j m then f (wrN k X j m) else none
def binR (k : Nat) (X : List Nod) (x : Nod) (l : Int) : Option Out := subR k X x.a l fun s => catO s [32] fun u => inb' (u8 (x.kind - 7)) sgnL.length (catO u (sgnL.getD (u8 (x.kind - 7)).toNat []) fun v => catO v [32] fun w => subR k X x.b (w64 ((lineK x.kind : Int) + 1)) fun s' => catO w s' strO)
def wrR (k : Nat) (X : List Nod) (x : Nod) : Option Out := kIn x.kind (bif decide (x.kind = 1) then (bif decide (Rng x.n) then strO (Lib.itoa x.n) else none) else bif decide ((lineK x.kind : Int) = 9) then inb' (u8 (x.kind - 2)) fldL.length (strO (fldL.getD (u8 (x.kind - 2)).toNat []))
  else bif decide ((lineK x.kind : Int) = 8) then subR k X x.a 8 (fun s => catO [45] s strO) else bif decide ((lineK x.kind : Int) = 3) then subR k X x.a 3 (fun s => catO [110, 111, 116, 32] s strO)
  else bif decide ((lineK x.kind : Int) = 4) then binR k X x 5 else binR k X x (lineK x.kind : Int))
theorem tWrt (k : Nat) (X : List Nod) (i : Int) : runT B (libR2 k) Tryd.f39 [.slw 0, i64 i] [ndb X] = inb' i X.length (wrR k X (nodA X i)) := by kernel_rfl
theorem fld_txt9 : ∀ k : Fin 5, 2 ≤ k.val → (0 ≤ u8 ((k.val : Int) - 2) ∧ u8 ((k.val : Int) - 2) < 3) ∧ fldL.getD (u8 ((k.val : Int) - 2)).toNat [] = fldT k.val := by decide +kernel
theorem ln_cases : ∀ k : Fin 20, 1 ≤ k.val → (lineK k.val = 9 ↔ k.val ≤ 4) ∧ (lineK k.val = 8 ↔ k.val = 5) ∧ (lineK k.val = 3 ↔ k.val = 6) ∧ lineK k.val ≤ 9 ∧ (7 ≤ k.val → lineK k.val ≤ 7) := by decide +kernel
theorem ln_of {k : Int} (h1 : 1 ≤ k) (h2 : k ≤ 19) : (((lineK k : Int) = 9 ↔ k ≤ 4) ∧ ((lineK k : Int) = 8 ↔ k = 5) ∧ ((lineK k : Int) = 3 ↔ k = 6)) ∧ (lineK k : Int) ≤ 9 ∧ (7 ≤ k → (lineK k : Int) ≤ 7) := by
  have h3 := ln_cases ⟨k.toNat, by omega⟩ (by simp only; omega)
  have e : ((k.toNat : Nat) : Int) = k := by omega
  simp only [e] at h3
  obtain ⟨a, b, c, d, f⟩ := h3
  refine ⟨⟨⟨fun h => ?_, fun h => ?_⟩, ⟨fun h => ?_, fun h => ?_⟩, ⟨fun h => ?_, fun h => ?_⟩⟩, by omega, fun h => ?_⟩
  · have := a.1 (by omega); omega
  · have := a.2 (by omega); omega
  · have := b.1 (by omega); omega
  · have := b.2 (by omega); omega
  · have := c.1 (by omega); omega
  · have := c.2 (by omega); omega
  · have := f (by omega); omega
theorem subR_in {k : Nat} {X : List Nod} {j m : Int} (hm : m ≤ 9) (hx : okX k X j = true) (hr : rngX X = true) (hl : (wrN k X j m).length ≤ 100000) (f : List UInt8 → Option Out) : subR k X j m f = f (wrN k X j m) := by
  unfold subR gW
  rw [decide_eq_true hm, hx, hr, decide_eq_true hl]; rfl
theorem wrR_is {k : Nat} {X : List Nod} {i : Int} (hx : okX (k + 1) X i = true) (hr : rngX X = true) (hl : (wrN (k + 1) X i 0).length ≤ 100000) : inb' i X.length (wrR k X (nodA X i)) = strO (wrN (k + 1) X i 0) := by
  unfold okX at hx
  rw [Bool.and_eq_true] at hx
  obtain ⟨i0, i1, k1, k19⟩ := of_decide_eq_true hx.1
  have hx := hx.2
  rw [inb_in i0 i1]
  unfold wrN at hl ⊢
  unfold wrR kIn
  have hmem : nodA X i ∈ X := by
    unfold nodA
    have : i.toNat < X.length := by omega
    rw [List.getD_eq_getElem?_getD, List.getElem?_eq_getElem this]
    exact List.getElem_mem this
  have hn : rng64 (nodA X i).n = true := List.all_eq_true.1 hr _ hmem
  generalize nodA X i = x at *
  obtain ⟨⟨l9, l8, l3⟩, hle, h7⟩ := ln_of k1 k19
  have h0 : decide ((lineK x.kind : Int) < 0) = false := decide_eq_false (by omega)
  rw [h0] at hl ⊢
  unfold brT at hl ⊢
  simp only [cond_false] at hl ⊢
  rw [decide_eq_true (show 1 ≤ x.kind ∧ x.kind ≤ 19 from ⟨k1, k19⟩), cond_true]
  by_cases e1 : x.kind = 1
  · have hrn : Rng x.n := by simpa [rng64, Rng] using hn
    rw [decide_eq_true e1, decide_eq_true hrn]; rfl
  rw [decide_eq_false e1, cond_false] at hl
  rw [decide_eq_false e1, cond_false, cond_false]
  by_cases e4 : x.kind ≤ 4
  · rw [decide_eq_true e4, decide_eq_true (l9.2 e4), cond_true, cond_true]
    obtain ⟨⟨f1, f2⟩, f3⟩ := fld_txt9 ⟨x.kind.toNat, by omega⟩ (by simp only; omega)
    have e : ((x.kind.toNat : Nat) : Int) = x.kind := by omega
    simp only [e] at f1 f2 f3
    rw [inb_in f1 (show u8 (x.kind - 2) < (fldL.length : Int) from f2), f3]
  rw [decide_eq_false e4, cond_false] at hl hx
  rw [decide_eq_false e4, decide_eq_false (fun h => e4 (l9.1 h)), cond_false, cond_false]
  by_cases e5 : x.kind = 5
  · rw [decide_eq_true e5, cond_true] at hl
    rw [decide_eq_true (show x.kind ≤ 6 by omega), cond_true] at hx
    rw [decide_eq_true e5, decide_eq_true (l8.2 e5), cond_true, cond_true]
    rw [List.length_append] at hl
    rw [subR_in (by omega) hx hr (by omega), catO_in (by simp only [List.length_cons, List.length_nil]; omega)]
  rw [decide_eq_false e5, cond_false] at hl
  rw [decide_eq_false e5, decide_eq_false (fun h => e5 (l8.1 h)), cond_false, cond_false]
  by_cases e6 : x.kind = 6
  · rw [decide_eq_true e6, cond_true] at hl
    rw [decide_eq_true (show x.kind ≤ 6 by omega), cond_true] at hx
    rw [decide_eq_true e6, decide_eq_true (l3.2 e6), cond_true, cond_true]
    rw [List.length_append] at hl
    rw [subR_in (by omega) hx hr (by omega), catO_in (by simp only [List.length_cons, List.length_nil]; omega)]
  rw [decide_eq_false e6, cond_false] at hl
  rw [decide_eq_false (show ¬ x.kind ≤ 6 by omega), cond_false, Bool.and_eq_true] at hx
  rw [decide_eq_false e6, decide_eq_false (fun h => e6 (l3.1 h)), cond_false, cond_false]
  have h7 := h7 (by omega)
  obtain ⟨o1, o2, o3⟩ := op_txt ⟨x.kind.toNat, by omega⟩ (by simp only; omega)
  have e : ((x.kind.toNat : Nat) : Int) = x.kind := by omega
  simp only [e] at o1 o2 o3
  have hleft : leftI x.kind ≤ 9 := by unfold leftI; cases decide ((lineK x.kind : Int) = 4) <;> simp only [cond_true, cond_false] <;> omega
  have hw : w64 ((lineK x.kind : Int) + 1) = (lineK x.kind : Int) + 1 := w64_rng (by unfold Rng; omega)
  have hbin : (bif decide ((lineK x.kind : Int) = 4) then binR k X x 5 else binR k X x (lineK x.kind : Int)) = binR k X x (leftI x.kind) := by
    unfold leftI
    cases decide ((lineK x.kind : Int) = 4) <;> rfl
  unfold opS at hl ⊢
  simp only [List.length_append] at hl
  rw [hbin]
  unfold binR
  have hin : ∀ z : Option Out, inb' (u8 (x.kind - 7)) sgnL.length z = z := fun z => inb_in o1 o2 z
  simp only [hin, o3, hw]
  have h32 : ([32] : List UInt8).length = 1 := rfl
  have ho := opT_len x.kind
  rw [subR_in hleft hx.1 hr (by omega), catO_in (by omega), catO_in (by simp only [List.length_append]; omega), catO_in (by simp only [List.length_append]; omega), subR_in (by omega) hx.2 hr (by omega), catO_in (by simp only [List.length_append]; omega)]
  simp only [List.append_assoc]
theorem okWrt : ∀ k, FnOk (E0 B) 39 (sWrt k)
  | 0 => by
    refine fnT lib5_ok Tryd.func39 (by kernel_rfl) (by kernel_rfl) fun vs bs r h => ?_
    unfold sWrt at h
    split at h
    · rcases T.node_sel h with ⟨hg, _⟩ | ⟨_, h2⟩
      · cases hg
      · simp [T.sel] at h2
    · simp [T.sel] at h
  | k + 1 => by
    refine fnT (libR2_ok k (okWrt k)) Tryd.func39 (by kernel_rfl) (by kernel_rfl) fun vs bs r h => ?_
    unfold sWrt at h
    split at h
    · rename_i i X
      rcases T.node_sel h with ⟨hg, h2⟩ | ⟨_, h2⟩
      · simp only [T.sel, Option.some.injEq] at h2; subst h2
        unfold gW at hg
        simp only [Bool.and_eq_true] at hg
        exact (tWrt k X i).trans (wrR_is hg.1 hg.2.1 (of_decide_eq_true hg.2.2))
      · simp [T.sel] at h2
    · simp [T.sel] at h
end Go.Proofs.YtfniiapkghpihaaDoor
/-
  Printer's reference: names of sources; Told's loop by contract.
-/
namespace Go.Proofs.YtfniiapkghpihaaDoor
open Go.Am Go
set_option maxRecDepth 100000
variable {B : Nat → Option Obj}
def nmL : List (List UInt8) := [[97], [98], [99], [100]]
def nmS (n : Int) : List UInt8 := nmL.getD n.toNat []
def nameO (_ e : Int) (s : List UInt8) : Option Out := some ⟨[.str s, i64 e], []⟩
theorem tNmR (n : Int) : runT B lib5 Tryd.f38 [.int .i64 n] [] = bif decide (n < 0) then nameO n 2 [] else bif decide (3 < n) then nameO n 2 [] else inb' n nmL.length (nameO n 0 (nmS n)) := by kernel_rfl
theorem tNm (n : Int) : runT B lib5 Tryd.f34 [.int .i64 n] [] = bif decide (n < 0) then nameO n 2 [] else bif decide (4 ≤ n) then nameO n 2 [] else bif decide (0 ≤ n ∧ n ≤ w64 (n + 1) ∧ w64 (n + 1) ≤ (([97, 98, 99, 100] : List UInt8).length : Int)) then nameO n 0 ((([97, 98, 99, 100] : List UInt8).take (w64 (n + 1)).toNat).drop n.toNat) else none := by kernel_rfl
def sNm : FSpec
  | [.int .i64 n], [] => .node (inR n) (.leaf ⟨[.str (nmS n), .int .i64 0], []⟩) .bad
  | _, _ => .bad
theorem inR_of {n : Int} (h : inR n = true) : 0 ≤ n ∧ n ≤ 3 := by
  unfold inR at h
  rw [Bool.and_eq_true, decide_eq_true_eq, decide_eq_true_eq] at h
  exact h
theorem okNmR : FnOk (E0 B) 38 sNm := by
  refine fnT lib5_ok Tryd.func38 (by kernel_rfl) (by kernel_rfl) fun vs bs r h => ?_
  unfold sNm at h
  split at h
  · rename_i n
    rcases T.node_sel h with ⟨hc, h2⟩ | ⟨_, h2⟩
    · simp only [T.sel, Option.some.injEq] at h2; subst h2
      obtain ⟨n0, n3⟩ := inR_of hc
      refine (tNmR n).trans ?_
      rw [decide_eq_false (show ¬ n < 0 by omega), decide_eq_false (show ¬ 3 < n by omega), inb_in n0 (show n < (nmL.length : Int) from by show n < 4; omega)]; rfl
    · simp [T.sel] at h2
  · simp [T.sel] at h
theorem nm_txt : ∀ k : Fin 4, (([97, 98, 99, 100] : List UInt8).take ((k.val : Int) + 1).toNat).drop (k.val : Int).toNat = nmS k.val := by decide +kernel
theorem okNm : FnOk (E0 B) 34 sNm := by
  refine fnT lib5_ok Tryd.func34 (by kernel_rfl) (by kernel_rfl) fun vs bs r h => ?_
  unfold sNm at h
  split at h
  · rename_i n
    rcases T.node_sel h with ⟨hc, h2⟩ | ⟨_, h2⟩
    · simp only [T.sel, Option.some.injEq] at h2; subst h2
      obtain ⟨n0, n3⟩ := inR_of hc
      refine (tNm n).trans ?_
      have h1 := nm_txt ⟨n.toNat, by omega⟩
      have e : ((n.toNat : Nat) : Int) = n := by omega
      simp only [e] at h1
      have hw : w64 (n + 1) = n + 1 := w64_rng (by unfold Rng; omega)
      rw [hw, h1, decide_eq_false (show ¬ n < 0 by omega), decide_eq_false (show ¬ 4 ≤ n by omega), decide_eq_true (show 0 ≤ n ∧ n ≤ n + 1 ∧ n + 1 ≤ (([97, 98, 99, 100] : List UInt8).length : Int) from ⟨n0, by omega, by show n + 1 ≤ 4; omega⟩)]; rfl
    · simp [T.sel] at h2
  · simp [T.sel] at h
noncomputable def libT9 : Tb := (39, [], sWrt 20) :: (37, [], R1.sText0) :: (38, [], sNm) :: (34, [], sNm) :: Ck.lib15
theorem libT9_ok : TbOk B libT9 := (((Ck.lib15_ok.add okNm).add okNmR).add R1.okText).add (okWrt 20)
def qTy : List TypeId := [5, 22, 23, 4, 22, 5, 2, 2, 4, 5]
def qBx (q : Qry) (a b c : Nat) : Blk := ⟨true, .gen qTy [(q.av a b c).cells]⟩
def qBs (q : Qry) : List Blk := [qBx q 1 2 3, ⟨false, .nodes q.arg⟩, ⟨false, .ints .i64 q.src⟩, ⟨false, .nodes q.whr⟩]
def cat9 {α : Type} (a b : List UInt8) (f : List UInt8 → Option α) : Option α := bif decide (a.length + b.length ≤ lim) then f (a ++ b) else none
theorem cat9_in {α : Type} {a b : List UInt8} (h : a.length + b.length ≤ 1000000) (f : List UInt8 → Option α) : cat9 a b f = f (a ++ b) := by
  unfold cat9
  rw [decide_eq_true (show a.length + b.length ≤ lim by simp only [lim]; omega)]; rfl
def sGt (q : Qry) (i : Int) : Int := q.src.getD i.toNat 0
theorem nmS_len (n : Int) : (nmS n).length ≤ 1 := by
  unfold nmS nmL
  rcases n.toNat with _ | _ | _ | _ | k <;> simp [List.getD]
end Go.Proofs.YtfniiapkghpihaaDoor
/-
  Printer's reference: Told by contract.
-/
namespace Go.Proofs.YtfniiapkghpihaaDoor
open Go.Am Go
set_option maxRecDepth 100000
variable {B : Nat → Option Obj}
def sbT (X : List Nod) (f : List UInt8 → Option Out) : Option Out := bif gW 20 X (w64 ((X.length : Int) - 1)) 0 then f (wrN 20 X (w64 ((X.length : Int) - 1)) 0) else none
def tdL (lt : Int) (s : List UInt8) : Option Out := bif decide (lt = 2) then cat9 s [32, 108, 97, 116, 101, 32, 115, 105, 100, 101] strO else strO s
/-! what it is -/
theorem sbT_is {X : List Nod} (hc : chkN X = 0) (hr : rngX X = true) : (prS X).length ≤ 2000 ∧ ∀ f, sbT X f = f (prS X) := by
  obtain ⟨e, he, rfl, hs, _⟩ := chkN_tree hc
  have h1 := prS_is he hc
  have hx := (txS_is he hc).2
  have hp := e.size_pos
  have hrr : e.rng = true := by rw [← rng_flat e 0]; exact hr
  have hw : w64 (((e.flat 0).length : Int) - 1) = ((e.flat 0).length : Int) - 1 := w64_rng (by unfold Rng; rw [Ex.flat_len]; omega)
  have hb := pcsS_bound false e 0 hrr
  have h1' : wrN 20 (e.flat 0) (((e.flat 0).length : Int) - 1) 0 = prS (e.flat 0) := by
    unfold prS
    rw [decide_eq_true hc]; rfl
  have hl : (prS (e.flat 0)).length ≤ 2000 := by
    rw [h1]; unfold Ex.txt; omega
  refine ⟨hl, fun f => ?_⟩
  unfold sbT gW
  rw [hw, h1', hx, hr, decide_eq_true (show (prS (e.flat 0)).length ≤ 100000 by omega)]; rfl
structure QOk (q : Qry) : Prop where
  a1 : 1 ≤ q.agg
  a4 : q.agg ≤ 4
  arg : q.agg ≠ 1 → chkN q.arg = 0
  rA : rngX q.arg = true
  whr : 0 < q.whr.length → chkN q.whr = 0
  rW : rngX q.whr = true
  s4 : q.src.length ≤ 4
  s0 : 0 < q.src.length
  sR : q.src.all inR = true
  k1 : 1 ≤ q.wk
  k3 : q.wk ≤ 3
  ws : Rng q.ws
  we : Rng q.we
end Go.Proofs.YtfniiapkghpihaaDoor
