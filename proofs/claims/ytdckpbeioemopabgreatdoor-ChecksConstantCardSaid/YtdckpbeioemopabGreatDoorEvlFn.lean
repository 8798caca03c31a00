/-
  Evals: the values of an expression that has no fields, by contract.
-/
import Derived.Test.YtdckpbeioemopabGreatDoorConFn
namespace Go.Proofs.YtdckpbeioemopabGreatDoor.Cn
open Go.Am Go Go.Proofs.YtdckpbeioemopabGreatDoor Go.Proofs.YtdckpbeioemopabGreatDoor.Ck
set_option maxRecDepth 100000
variable {B : Nat → Option Obj}
noncomputable def lE : Tb := (18, [], sCon) :: lC
theorem lE_ok : TbOk B lE := lC_ok.add okCon
noncomputable def bEv : Code := loopAt 7 (loopsOf (bodyC Tryz.f50))
def sgEv : LSig := { cs := [(7, 0), (28, 22), (29, 0)], mv := [(8, 0), (30, 0)], mo := [(8, 0)], take := [2] }
def vEv (n i : Int) : List AV := [.ptr 0 0 0, .slw 1, i64 n, .slw 2, i64 i]
def bsEv (F : List Int) (L : List Nod) (V : List Int) : List Blk := [⟨true, .ints .i64 F⟩, ⟨false, .nodes L⟩, ⟨true, .ints .i64 V⟩]
def stV (F : List Int) (L : List Nod) (V : List Int) (n i v : Int) : Option (AExit × Out) := bif decide (0 ≤ i ∧ i < (V.length : Int)) then (bif decide (i.toNat + 0 < V.length) then some (.normal, ⟨vEv n (w64 (i + 1)), bsEv F L (V.set (i.toNat + 0) v)⟩) else none) else none
def inV {α : Type} (p : Int) (V : List Int) (z : Option α) : Option α := bif decide (0 ≤ p ∧ p < (V.length : Int)) then (bif decide (p.toNat + 0 < V.length) then z else none) else none
def nK (L : List Nod) (i : Int) : Nod := L.getD i.toNat default
def gV (V : List Int) (p : Int) : Int := V.getD (p.toNat + 0) 0
def bdV (F : List Int) (L : List Nod) (V : List Int) (n i : Int) (x : Nod) : Option (AExit × Out) :=
  bif decide (x.kind = 1) then stV F L V n i x.n else bif decide (x.kind ≤ 4) then (bif decide (0 ≤ x.kind ∧ x.kind < 5) then (bif decide (0 + (0 + x.kind.toNat * 1) < F.length) then stV F L V n i (F.getD (0 + (0 + x.kind.toNat * 1)) 0) else none) else none)
  else inV x.a V (inV x.b V (bif !decide (doE x.kind = 0) then some (.ret, ⟨[.slw 1], [⟨true, .ints .i64 F⟩, ⟨true, .ints .i64 V⟩]⟩) else stV F L V n i (doN x.kind (gV V x.a) (gV V x.b))))
theorem turnEv (F : List Int) (L : List Nod) (V : List Int) (n i : Int) : (turn (E0 B) (Cx B lE) noL 80 sgEv bEv (vEv n i) (bsEv F L V)).sel =
    bif decide (i < n) then Ck.inb i L.length (bdV F L V n i (nK L i)) else some (.exit 0, ⟨[.slw 1], [⟨true, .ints .i64 F⟩, ⟨true, .ints .i64 V⟩]⟩) := by kernel_rfl
def valK (F V : List Int) (x : Nod) : Int := bif decide (x.kind = 1) then x.n else bif decide (x.kind ≤ 4) then F.getD x.kind.toNat 0 else doN x.kind (V.getD x.a.toNat 0) (V.getD x.b.toNat 0)
def valGo (F : List Int) : List Nod → Nat → List Int → List Int
  | [], _, V => V
  | x :: r, i, V => valGo F r (i + 1) (V.set i (valK F V x))
theorem valGo_len (F : List Int) : ∀ (r : List Nod) (i : Nat) (V : List Int), (valGo F r i V).length = V.length
  | [], _, _ => rfl
  | x :: r, i, V => by
    unfold valGo
    rw [valGo_len F r]
    simp
theorem valGo_fix (F G : List Int) : ∀ (r : List Nod) (i : Nat) (V : List Int), fixedN r = true → (∀ x ∈ r, 1 ≤ x.kind) → valGo F r i V = valGo G r i V
  | [], _, _, _, _ => rfl
  | x :: r, i, V, h, hk => by
    unfold fixedN at h
    rw [List.all_cons, Bool.and_eq_true] at h
    have k1 := hk x List.mem_cons_self
    have e : valK F V x = valK G V x := by
      unfold valK
      by_cases h1 : x.kind = 1
      · rw [decide_eq_true h1]; rfl
      · by_cases h4 : x.kind ≤ 4
        · have h2 := h.1
          rw [decide_eq_true (show 1 < x.kind by omega), decide_eq_true (show x.kind < 5 by omega)] at h2
          cases h2
        · rw [decide_eq_false h1, decide_eq_false h4]; rfl
    unfold valGo
    rw [e]
    exact valGo_fix F G r (i + 1) _ h.2 fun y hy => hk y (List.mem_cons_of_mem _ hy)
theorem inV_is {α : Type} {p : Int} {V : List Int} (h0 : 0 ≤ p) (h1 : p < (V.length : Int)) (z : Option α) : inV p V z = z := by
  unfold inV
  rw [decide_eq_true ⟨h0, h1⟩, decide_eq_true (show p.toNat + 0 < V.length by omega)]; rfl
theorem stV_is {F : List Int} {L : List Nod} {V : List Int} {n v : Int} {i : Nat} (hi : i < V.length) (hv : V.length ≤ 1000) : stV F L V n i v = some (.normal, ⟨vEv n ((i + 1 : Nat) : Int), bsEv F L (V.set i v)⟩) := by
  unfold stV
  have hw : w64 ((i : Int) + 1) = ((i + 1 : Nat) : Int) := by rw [w64_rng (show Rng ((i : Int) + 1) by unfold Rng; omega)]; omega
  rw [decide_eq_true (show 0 ≤ (i : Int) ∧ (i : Int) < (V.length : Int) by omega), decide_eq_true (show ((i : Int)).toNat + 0 < V.length by omega), hw]; rfl
theorem bdV_is {F : List Int} {L : List Nod} {V : List Int} {n : Int} {i : Nat} {x : Nod} (hF : F.length = 5) (ha : NodAt i x) (hi : i < V.length) (hv : V.length ≤ 1000) : bdV F L V n i x = some (.normal, ⟨vEv n ((i + 1 : Nat) : Int), bsEv F L (V.set i (valK F V x))⟩) := by
  obtain ⟨h1, h2, _, _, _, _, h7, h8, _, h10, h11, h12⟩ := ha
  unfold bdV valK gV
  by_cases k1 : x.kind = 1
  · rw [decide_eq_true k1, cond_true, cond_true, stV_is hi hv]
  rw [decide_eq_false k1, cond_false, cond_false]
  by_cases k4 : x.kind ≤ 4
  · rw [decide_eq_true k4, cond_true, cond_true, decide_eq_true (show 0 ≤ x.kind ∧ x.kind < 5 by omega), decide_eq_true (show 0 + (0 + x.kind.toNat * 1) < F.length by omega), cond_true, cond_true, stV_is hi hv, show 0 + (0 + x.kind.toNat * 1) = x.kind.toNat by omega]
  · have hb : x.b < (V.length : Int) := by
      by_cases k6 : x.kind ≤ 6
      · have := h10 k6; omega
      · have := h12 (by omega); omega
    have hd : doE x.kind = 0 := by
      unfold doE
      rw [decide_eq_true (show 5 ≤ x.kind by omega), decide_eq_true h2]; rfl
    rw [decide_eq_false k4, cond_false, cond_false, inV_is h7 (by have := h11 (by omega); omega), inV_is h8 hb, hd, decide_eq_true rfl, Bool.not_true, cond_false, stV_is hi hv]; rfl
theorem runEv (F : List Int) (L : List Nod) (hF : F.length = 5) (hc : chkN L = 0) : ∀ (r : List Nod) (i : Nat) (V : List Int), L.drop i = r → V.length = L.length → i ≤ L.length →
    ∃ m, (turns (E0 B) (Cx B lE) noL 80 sgEv bEv m (vEv L.length i) (bsEv F L V)).sel = some (.exit 0, ⟨[.slw 1], [⟨true, .ints .i64 F⟩, ⟨true, .ints .i64 (valGo F r i V)⟩]⟩)
  | [], i, V, hr, hV, hi => by
    have : L.length ≤ i := List.drop_eq_nil_iff.1 hr
    refine ⟨1, turns_done ((turnEv F L V L.length i).trans ?_) (by simp)⟩
    rw [decide_eq_false (by omega)]; rfl
  | x :: r, i, V, hr, hV, hi => by
    obtain ⟨d1, d2, d3⟩ := nod_at hr
    have hl := (chk_len hc).2
    have hx : L[i]? = some x := by rw [List.getElem?_eq_getElem d1]; simpa [List.getD, d1] using d2
    have ht := turnEv (B := B) F L V L.length i
    have hn : nK L (i : Int) = x := by unfold nK; rw [Int.toNat_natCast]; exact d2
    rw [decide_eq_true (show (i : Int) < (L.length : Int) by omega), cond_true, Ck.inb_is d1, hn, bdV_is hF (chk_at hc i x hx) (by omega) (by omega)] at ht
    obtain ⟨m, hm⟩ := runEv F L hF hc r (i + 1) (V.set i (valK F V x)) d3 (by simpa using hV) (by omega)
    exact ⟨m + 1, (turns_more' ht).trans hm⟩
def valN (F : List Int) (L : List Nod) : List Int := valGo F L 0 (List.replicate L.length 0)
def spEv : LSpec
  | [.ptr 0 0 0, .slw 1, .int .i64 n, .slw 2, .int .i64 i], [⟨true, .ints .i64 F⟩, ⟨false, .nodes L⟩, ⟨true, .ints .i64 V⟩] => .node (decide (chkN L = 0 ∧ F.length = 5 ∧ n = (L.length : Int) ∧ i = 0 ∧ V = List.replicate L.length 0)) (.leaf (.exit 0, ⟨[.slw 1], [⟨true, .ints .i64 F⟩, ⟨true, .ints .i64 (valN F L)⟩]⟩)) .bad
  | _, _ => .bad
theorem loopEv : LoopOk (E0 B) 80 sgEv bEv spEv := by
  refine loop_turns (C := Cx B lE) (L := noL) (cxOk lE_ok) (noL_ok _) fun vs bs e o h => ?_
  unfold spEv at h
  split at h
  · rename_i n i F L V
    rcases T.node_sel h with ⟨hc, h2⟩ | ⟨_, h2⟩
    · obtain ⟨hk, hF, rfl, rfl, rfl⟩ := of_decide_eq_true hc
      obtain ⟨m, hm⟩ := runEv (B := B) F L hF hk L 0 (List.replicate L.length 0) rfl (by simp) (by omega)
      refine ⟨m, hm.trans ?_⟩
      rw [← h2]; rfl
    · simp [T.sel] at h2
  · simp [T.sel] at h
noncomputable def eEv : LEnt := { id := 7, n := 80, sg := sgEv, wr := writes bEv, s := spEv }
end Go.Proofs.YtdckpbeioemopabGreatDoor.Cn
