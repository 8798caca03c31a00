/-
  Texts put together: PrtFew, PrtFew2, PrtFew3.
-/
import Derived.Test.YthfieonkfailkaaGreatDoorPrtBack
import Derived.Test.YthfieonkfailkaaGreatDoorFewA
/-
  PrinterFew: the law's loops, told.
-/
namespace Go.Proofs.YthfieonkfailkaaGreatDoor
open Go.Am Go
set_option maxRecDepth 100000
variable {B : Nat → Option Obj}
def byA (s : List UInt8) (i : Int) : Int := ((s.getD i.toNat 0).toNat : Int)
noncomputable def bOp : Code := loopAt 8 (loopsOf (bodyC Tryz.f10))
def sgOp : LSig := { cs := [(5, 0)], mv := [(7, 24), (8, 0)], mo := [(7, 24)], take := [0] }
def itb (l : List Int) : Blk := ⟨true, .ints .i64 l⟩
def opN (s : List UInt8) (i : Int) (l : List Int) : Option (AExit × Out) := some (.normal, ⟨[.str s, .slw 0, i64 (w64 (i + 1))], [itb l]⟩)
theorem turnOp (s : List UInt8) (i : Int) (l : List Int) : (turn (E0 B) (Cx B lib5) noL 151 sgOp bOp [.str s, .slw 0, i64 i] [itb l]).sel =
    bif decide (i < (s.length : Int)) then inbP i s.length (bif decide (byA s i = 40) then (bif decide (l.length + 1 ≤ lim) then opN s i (l ++ [i]) else none) else opN s i l) else some (.exit 0, ⟨[.slw 0], [itb l]⟩) := by kernel_rfl
/-- the places of the brackets -/
def opF (i : Int) : List UInt8 → List Int
  | [] => []
  | c :: r => bif decide ((c.toNat : Int) = 40) then i :: opF (i + 1) r else opF (i + 1) r
theorem byA_is {s : List UInt8} {i : Int} {c : UInt8} {r : List UInt8} (h0 : 0 ≤ i) (h : s.drop i.toNat = c :: r) : i < s.length ∧ byA s i = (c.toNat : Int) ∧ s.drop (i + 1).toNat = r := by
  have hlt : i.toNat < s.length := by
    rcases Nat.lt_or_ge i.toNat s.length with h1 | h1
    · exact h1
    · rw [List.drop_eq_nil_of_le h1] at h; cases h
  rw [List.drop_eq_getElem_cons hlt] at h
  injection h with h1 h2
  refine ⟨by omega, ?_, by rw [show (i + 1).toNat = i.toNat + 1 by omega]; exact h2⟩
  unfold byA
  rw [List.getD_eq_getElem?_getD, List.getElem?_eq_getElem hlt]
  show (((s[i.toNat] : UInt8).toNat : Nat) : Int) = _
  rw [h1]
def spOp : LSpec
  | [.str s, .slw 0, .int .i64 i], [⟨true, .ints .i64 l⟩] => .node (decide (0 ≤ i ∧ i ≤ (s.length : Int) ∧ s.length ≤ 100000 ∧ (l.length : Int) ≤ i)) (.leaf (.exit 0, ⟨[.slw 0], [itb (l ++ opF i (s.drop i.toNat))]⟩)) .bad
  | _, _ => .bad
theorem loopOp : LoopOk (E0 B) 151 sgOp bOp spOp := by
  refine loop_turns (C := Cx B lib5) (L := noL) (cxOk lib5_ok) (noL_ok _) fun vs bs e o h => ?_
  unfold spOp at h
  split at h
  · rename_i s i l
    rcases T.node_sel h with ⟨hc, h2⟩ | ⟨_, h2⟩
    · obtain ⟨h0, h1, hs, hl⟩ := of_decide_eq_true hc
      clear hc h
      simp only [T.sel, Option.some.injEq, Prod.mk.injEq] at h2
      obtain ⟨rfl, rfl⟩ := h2
      generalize hr : s.drop i.toNat = r
      induction r generalizing i l with
      | nil =>
        have hi : ¬ i < (s.length : Int) := by
          have := List.drop_eq_nil_iff.1 hr
          omega
        refine ⟨1, turns_done ((turnOp s i l).trans ?_) (by simp)⟩
        rw [decide_eq_false hi]
        simp [opF]
      | cons c r ih =>
        obtain ⟨d1, d2, d3⟩ := byA_is h0 hr
        have ht := turnOp (B := B) s i l
        unfold inbP at ht
        rw [decide_eq_true d1, decide_eq_true (show 0 ≤ i ∧ i < (s.length : Int) from ⟨h0, d1⟩), d2, decide_eq_true (show l.length + 1 ≤ lim by simp only [lim]; omega)] at ht
        unfold opN at ht
        rw [w64_rng (show Rng (i + 1) by unfold Rng; omega)] at ht
        unfold opF
        cases hb : decide ((c.toNat : Int) = 40) with
        | true =>
          rw [hb] at ht
          obtain ⟨k, hk⟩ := ih (i + 1) (l ++ [i]) (by omega) (by omega) (by simp; omega) d3
          refine ⟨k + 1, turns_more ht (hk.trans ?_)⟩
          simp
        | false =>
          rw [hb] at ht
          obtain ⟨k, hk⟩ := ih (i + 1) l (by omega) (by omega) (by omega) d3
          exact ⟨k + 1, turns_more ht hk⟩
    · simp [T.sel] at h2
  · simp [T.sel] at h
noncomputable def eOp : LEnt := { id := 8, n := 151, sg := sgOp, wr := writes bOp, s := spOp }
/-! where a bracket is shut -/
noncomputable def bMt : Code := loopAt 17 (loopsOf (bodyC Tryz.f10))
def sgMt : LSig := { cs := [(5, 0)], mv := [(10, 0), (11, 0), (12, 0)], mo := [(11, 0)], take := [] }
def mtN (s : List UInt8) (d t i : Int) : Option (AExit × Out) := some (.normal, ⟨[.str s, i64 d, i64 t, i64 (w64 (i + 1))], []⟩)
def mtB (s : List UInt8) (d t i : Int) : Option (AExit × Out) := inbP i s.length (bif decide (byA s i = 41) then (bif decide (w64 (d - 1) = 0) then mtN s (w64 (d - 1)) i i else mtN s (w64 (d - 1)) t i) else mtN s d t i)
theorem turnMt (s : List UInt8) (d t i : Int) : (turn (E0 B) (Cx B lib5) noL 151 sgMt bMt [.str s, i64 d, i64 t, i64 i] []).sel =
    bif decide (i < (s.length : Int)) then (bif decide (t < 0) then inbP i s.length (bif decide (byA s i = 40) then mtB s (w64 (d + 1)) t i else mtB s d t i) else some (.exit 2, ⟨[i64 t], []⟩)) else some (.exit 2, ⟨[i64 t], []⟩) := by kernel_rfl
def mtF (d i : Int) : List UInt8 → Int
  | [] => -1
  | c :: r => bif decide ((c.toNat : Int) = 40) then mtF (d + 1) (i + 1) r else bif decide ((c.toNat : Int) = 41) then (bif decide (d - 1 = 0) then i else mtF (d - 1) (i + 1) r) else mtF d (i + 1) r
def spMt : LSpec
  | [.str s, .int .i64 d, .int .i64 t, .int .i64 i], [] => .node (decide (0 ≤ i ∧ i ≤ (s.length : Int) ∧ s.length ≤ 100000 ∧ t = -1 ∧ d = 0)) (.leaf (.exit 2, ⟨[i64 (mtF d i (s.drop i.toNat))], []⟩)) .bad
  | _, _ => .bad
theorem runMt (s : List UInt8) (hs : s.length ≤ 100000) : ∀ (r : List UInt8) (d i : Int), 0 ≤ i → i ≤ (s.length : Int) → -i ≤ d → d ≤ i → s.drop i.toNat = r → ∃ m, (turns (E0 B) (Cx B lib5) noL 151 sgMt bMt m [.str s, i64 d, i64 (-1), i64 i] []).sel = some (.exit 2, ⟨[i64 (mtF d i r)], []⟩)
  | [], d, i, h0, h1, h2, h3, hr => by
    have hi : ¬ i < (s.length : Int) := by
      have := List.drop_eq_nil_iff.1 hr
      omega
    refine ⟨1, turns_done ((turnMt s d (-1) i).trans ?_) (by simp)⟩
    rw [decide_eq_false hi]; rfl
  | c :: r, d, i, h0, h1, h2, h3, hr => by
    obtain ⟨d1, d2, d3⟩ := byA_is h0 hr
    have ht := turnMt (B := B) s d (-1) i
    unfold mtB mtN inbP at ht
    rw [decide_eq_true d1, decide_eq_true (show (-1 : Int) < 0 by decide), decide_eq_true (show 0 ≤ i ∧ i < (s.length : Int) from ⟨h0, d1⟩), d2, w64_rng (show Rng (i + 1) by unfold Rng; omega), w64_rng (show Rng (d + 1) by unfold Rng; omega), w64_rng (show Rng (d - 1) by unfold Rng; omega), w64_rng (show Rng (d + 1 - 1) by unfold Rng; omega)] at ht
    unfold mtF
    by_cases hb : (c.toNat : Int) = 40
    · rw [decide_eq_true hb] at ht ⊢
      rw [decide_eq_false (show ¬ (c.toNat : Int) = 41 by omega)] at ht
      obtain ⟨k, hk⟩ := runMt s hs r (d + 1) (i + 1) (by omega) (by omega) (by omega) (by omega) d3
      exact ⟨k + 1, turns_more ht hk⟩
    · rw [decide_eq_false hb] at ht ⊢
      by_cases hc : (c.toNat : Int) = 41
      · rw [decide_eq_true hc] at ht ⊢
        by_cases hz : d - 1 = 0
        · rw [decide_eq_true hz] at ht ⊢
          have ht2 := turnMt (B := B) s (d - 1) i (i + 1)
          refine ⟨2, turns_more ht (turns_done (ht2.trans ?_) (by simp))⟩
          rw [decide_eq_false (show ¬ i < 0 by omega)]
          cases decide (i + 1 < (s.length : Int)) <;> rfl
        · rw [decide_eq_false hz] at ht ⊢
          obtain ⟨k, hk⟩ := runMt s hs r (d - 1) (i + 1) (by omega) (by omega) (by omega) (by omega) d3
          exact ⟨k + 1, turns_more ht hk⟩
      · rw [decide_eq_false hc] at ht ⊢
        obtain ⟨k, hk⟩ := runMt s hs r d (i + 1) (by omega) (by omega) (by omega) (by omega) d3
        exact ⟨k + 1, turns_more ht hk⟩
theorem loopMt : LoopOk (E0 B) 151 sgMt bMt spMt := by
  refine loop_turns (C := Cx B lib5) (L := noL) (cxOk lib5_ok) (noL_ok _) fun vs bs e o h => ?_
  unfold spMt at h
  split at h
  · rename_i s d t i
    rcases T.node_sel h with ⟨hc, h2⟩ | ⟨_, h2⟩
    · obtain ⟨h0, h1, hs, rfl, rfl⟩ := of_decide_eq_true hc
      simp only [T.sel, Option.some.injEq, Prod.mk.injEq] at h2
      obtain ⟨rfl, rfl⟩ := h2
      exact runMt s hs _ 0 i h0 h1 (by omega) (by omega) rfl
    · simp [T.sel] at h2
  · simp [T.sel] at h
noncomputable def eMt : LEnt := { id := 17, n := 151, sg := sgMt, wr := writes bMt, s := spMt }
noncomputable def libPF : Tb := (14, [], sParse) :: libPB
theorem libPF_ok (hB : Laid B) : TbOk B libPF := (libPB_ok hB).add (okParse hB)
end Go.Proofs.YthfieonkfailkaaGreatDoor
/-
  PrinterFew: the law, told.
-/
namespace Go.Proofs.YthfieonkfailkaaGreatDoor
open Go.Am Go
set_option maxRecDepth 100000
variable {B : Nat → Option Obj}
def opL (S : List UInt8) : List Int := [] ++ opF 0 (S.drop (0 : Int).toNat)
def frF (S : List UInt8) (k : Int) : Int := (opL S).getD (k.tmod ((opL S).length : Int)).toNat 0
def toF (S : List UInt8) (f : Int) : Int := mtF 0 f (S.drop f.toNat)
def endF (X : List Nod) (L : List Tok) : Option Out := bif shortT L then (bif !decide (zE L 0 = 0) then rb true else bif !decide (zN L 0 = (L.length : Int)) then rb true else bif decide (smE (zX L 0) X = 0) then (bif !smB (zX L 0) X then rb true else rb false) else none) else none
def cutF (S : List UInt8) (f t : Int) (K : List UInt8 → Option Out) : Option Out := bif decide ((0 : Int) ≤ 0 ∧ (0 : Int) ≤ f ∧ f ≤ (S.length : Int)) then (catO ((S.take f.toNat).drop (0 : Int).toNat) [32] fun u => bif decide (0 ≤ w64 (f + 1) ∧ w64 (f + 1) ≤ t ∧ t ≤ (S.length : Int)) then (catO u ((S.take t.toNat).drop (w64 (f + 1)).toNat) fun u => catO u [32] fun u =>
  bif decide (0 ≤ w64 (t + 1) ∧ w64 (t + 1) ≤ (S.length : Int)) then catO u (S.drop (w64 (t + 1)).toNat) K else none) else none) else none
def fewS (X : List Nod) (S : List UInt8) (k : Int) : Option Out := bif decide ((0 : Int) ≤ 0 ∧ (0 : Int) ≤ (S.length : Int) ∧ S.length ≤ 100000 ∧ ((([] : List Int).length : Nat) : Int) ≤ 0) then (bif decide (((opL S).length : Int) = 0) then rb true else bif decide (400 < (S.length : Int)) then rb true else
  bif decide (((opL S).length : Int) = 0) then none else inb' (k.tmod ((opL S).length : Int)) (opL S).length (bif decide (0 ≤ frF S k ∧ frF S k ≤ (S.length : Int) ∧ S.length ≤ 100000 ∧ (-1 : Int) = -1 ∧ (0 : Int) = 0) then (bif decide (toF S (frF S k) < 0) then rb false else
    cutF S (frF S k) (toF S (frF S k)) fun u => bif decide (lexE u = 0) then endF X (lexL u) else none) else none)) else none
theorem tFew (X : List Nod) (k : Int) : runL B libPF [eOp, eMt] Tryz.f10 [.slw 0, i64 k] [ndb X] =
    bif decide (70 < (X.length : Int)) then rb true else bif !decide (chkN X = 0) then rb true else bif decide (k < 0) then rb true else gX X (fewS X (prS X) k) := by kernel_rfl
end Go.Proofs.YthfieonkfailkaaGreatDoor
/-
  PrinterFew: that the law answers true.
-/
namespace Go.Proofs.YthfieonkfailkaaGreatDoor
open Go.Am Go Go.Lib
set_option maxRecDepth 100000
variable {B : Nat → Option Obj}
theorem opF_mem : ∀ (r : List UInt8) (i x : Int), x ∈ opF i r → ∃ j : Nat, x = i + j ∧ r[j]? = some 40
  | [], _, _, h => by cases h
  | c :: r, i, x, h => by
    unfold opF at h
    by_cases hc : (c.toNat : Int) = 40
    · rw [decide_eq_true hc, cond_true] at h
      rcases List.mem_cons.1 h with rfl | h
      · refine ⟨0, by omega, ?_⟩
        have : c = 40 := UInt8.toNat_inj.1 (by show c.toNat = 40; omega)
        rw [this]; rfl
      · obtain ⟨j, h1, h2⟩ := opF_mem r (i + 1) x h
        exact ⟨j + 1, by omega, h2⟩
    · rw [decide_eq_false hc, cond_false] at h
      obtain ⟨j, h1, h2⟩ := opF_mem r (i + 1) x h
      exact ⟨j + 1, by omega, h2⟩
theorem mt_skip : ∀ (t : List UInt8) (d i : Int) (q : List UInt8), noB t = true → mtF d i (t ++ q) = mtF d (i + t.length) q
  | [], d, i, q, _ => by simp
  | c :: t, d, i, q, h => by
    unfold noB at h
    rw [List.all_cons, Bool.and_eq_true] at h
    have hc := h.1
    simp only [Bool.and_eq_true, Bool.not_eq_true', decide_eq_false_iff_not] at hc
    have h40 : ¬ (c.toNat : Int) = 40 := fun e => hc.1 (UInt8.toNat_inj.1 (by show c.toNat = 40; omega))
    have h41 : ¬ (c.toNat : Int) = 41 := fun e => hc.2 (UInt8.toNat_inj.1 (by show c.toNat = 41; omega))
    rw [List.cons_append, mtF, decide_eq_false h40, decide_eq_false h41, cond_false, cond_false, mt_skip t d (i + 1) q h.2]
    congr 1
    simp only [List.length_cons]; omega
theorem noB_gap {g : List UInt8} (h : g.all (fun c => decide (c = 32)) = true) : noB g = true := List.all_eq_true.2 fun c hc => by
  have := of_decide_eq_true (List.all_eq_true.1 h c hc)
  rw [this]; decide
theorem mt_find : ∀ (l : List Pc) (d i : Int), l.all gdP = true → 1 ≤ d → d + dpc l ≤ 0 → ∃ l3 q l4, l = l3 ++ q :: l4 ∧ q.t = [41] ∧ mtF d i (pcsS l) = i + (pcsS l3).length + q.g.length
  | [], d, i, _, h1, h2 => by simp [dpc] at h2; omega
  | p :: r, d, i, hg, h1, h2 => by
    rw [List.all_cons, Bool.and_eq_true] at hg
    have hp := hg.1
    unfold gdP at hp
    rw [Bool.and_eq_true] at hp
    have hsk := fun q => mt_skip p.g d i q (noB_gap hp.1)
    have hq := hp.2
    simp only [Bool.or_eq_true, decide_eq_true_eq] at hq
    unfold dpc at h2
    rcases hq with hq | hq | hq
    · rw [decide_eq_true hq, cond_true] at h2
      obtain ⟨l3, q, l4, e1, e2, e3⟩ := mt_find r (d + 1) (i + p.g.length + 1) hg.2 (by omega) (by omega)
      refine ⟨p :: l3, q, l4, by rw [e1]; rfl, e2, ?_⟩
      rw [pcsS, hsk, hq]
      show mtF d (i + p.g.length) (40 :: pcsS r) = _
      rw [mtF, decide_eq_true (show (((40 : UInt8).toNat : Nat) : Int) = 40 by decide), cond_true, e3]
      simp only [pcsS, List.length_append, hq, List.length_cons, List.length_nil]
      omega
    · have hne : ¬ p.t = [40] := by rw [hq]; decide
      rw [decide_eq_false hne, decide_eq_true hq, cond_false, cond_true] at h2
      rw [pcsS, hsk, hq]
      show ∃ l3 q l4, _ ∧ _ ∧ mtF d (i + p.g.length) (41 :: pcsS r) = _
      rw [mtF, decide_eq_false (show ¬ (((41 : UInt8).toNat : Nat) : Int) = 40 by decide), decide_eq_true (show (((41 : UInt8).toNat : Nat) : Int) = 41 by decide), cond_false, cond_true]
      by_cases hd : d - 1 = 0
      · rw [decide_eq_true hd, cond_true]
        exact ⟨[], p, r, rfl, hq, by simp [pcsS]⟩
      · rw [decide_eq_false hd, cond_false]
        obtain ⟨l3, q, l4, e1, e2, e3⟩ := mt_find r (d - 1) (i + p.g.length + 1) hg.2 (by omega) (by omega)
        refine ⟨p :: l3, q, l4, by rw [e1]; rfl, e2, ?_⟩
        rw [e3]
        simp only [pcsS, List.length_append, hq, List.length_cons, List.length_nil]
        omega
    · obtain ⟨n1, n2⟩ := noB_ne hq
      rw [decide_eq_false n1, decide_eq_false n2, cond_false, cond_false] at h2
      obtain ⟨l3, q, l4, e1, e2, e3⟩ := mt_find r d (i + p.g.length + p.t.length) hg.2 h1 (by omega)
      refine ⟨p :: l3, q, l4, by rw [e1]; rfl, e2, ?_⟩
      rw [pcsS, hsk, mt_skip p.t _ _ _ hq, e3]
      simp only [pcsS, List.length_append]
      omega
theorem blank_gap {g : List UInt8} (h : g.all (fun c => decide (c = 32)) = true) : (g ++ [32]).all (fun c => decide (kd c = 1)) = true := List.all_eq_true.2 fun c hc => by
  rcases List.mem_append.1 hc with h1 | h1
  · have := of_decide_eq_true (List.all_eq_true.1 h c h1)
    rw [this]; decide
  · simp only [List.mem_singleton] at h1
    rw [h1]; decide
/-- where the pair stands -/
structure Pair (l : List Pc) (f t : Int) where
  l1 : List Pc
  p : Pc
  l3 : List Pc
  q : Pc
  l4 : List Pc
  e : l = l1 ++ p :: (l3 ++ q :: l4)
  pt : p.t = [40]
  qt : q.t = [41]
  hf : f = (pcsS l1).length + p.g.length
  ht : t = f + 1 + (pcsS l3).length + q.g.length
theorem pair_of {l : List Pc} (hg : l.all gdP = true) (hb : BalP l) {f : Int} (h : f ∈ opL (pcsS l)) : Nonempty (Pair l f (toF (pcsS l) f)) := by
  have h : f ∈ opF 0 ((pcsS l).drop (0 : Int).toNat) := by
    unfold opL at h
    rwa [List.nil_append] at h
  obtain ⟨j, hj, h40⟩ := opF_mem _ _ _ h
  rw [show (0 : Int).toNat = 0 from rfl, List.drop_zero] at h40
  obtain ⟨l1, p, l2, e1, e2, e3⟩ := op_split l j hg h40
  have hg2 : l2.all gdP = true := by
    rw [e1, List.all_append, List.all_cons] at hg
    simp only [Bool.and_eq_true] at hg
    exact hg.2.2
  have hd : 1 + dpc l2 ≤ 0 := by
    have h1 := hb.pre l1.length
    rw [e1, List.take_left] at h1
    have h2 := hb.tot
    have h3 : dpc (p :: l2) = 1 + dpc l2 := by
      show (bif decide (p.t = [40]) then 1 else _) + dpc l2 = _
      rw [decide_eq_true e2]; rfl
    rw [e1, dpc_app, h3] at h2
    omega
  obtain ⟨l3, q, l4, g1, g2, g3⟩ := mt_find l2 1 (f + 1) hg2 (by omega) hd
  have hfe : f = (pcsS l1).length + p.g.length := by omega
  have hto : toF (pcsS l) f = f + 1 + (pcsS l3).length + q.g.length := by
    unfold toF
    have : (pcsS l).drop f.toNat = 40 :: pcsS l2 := by
      rw [e1, pcsS_app, pcsS, e2, show f.toNat = (pcsS l1 ++ p.g).length by rw [List.length_append]; omega, ← List.append_assoc, List.drop_left]; rfl
    rw [this, mtF, decide_eq_true (show (((40 : UInt8).toNat : Nat) : Int) = 40 by decide), cond_true, show (0 : Int) + 1 = 1 from rfl, g3]
  exact ⟨⟨l1, p, l3, q, l4, by rw [e1, g1], e2, g2, hfe, hto⟩⟩
/-- what is left -/
structure Left (l : List Pc) (u : List UInt8) : Prop where
  h : ∃ N : List Pc, lexA u = ⟨pcsT 0 N, u.length, 0⟩ ∧ pcOk N = true ∧ N.length + 2 = l.length ∧ pnb N + 1 = pnb l ∧ (pcsS N).length ≤ u.length
theorem cut_is {l : List Pc} (hg : l.all gdP = true) (hok : pcOk l = true) (hn : l.length ≤ 200) (hl : (pcsS l).length ≤ 400) {f t : Int} (P : Pair l f t) (K : List UInt8 → Option Out) : ∃ u, cutF (pcsS l) f t K = K u ∧ u.length = (pcsS l).length ∧ Left l u := by
  obtain ⟨l1, p, l3, q, l4, e, pt, qt, hf, ht⟩ := P
  subst e
  have hS : pcsS (l1 ++ p :: (l3 ++ q :: l4)) = (pcsS l1 ++ p.g) ++ (40 :: ((pcsS l3 ++ q.g) ++ (41 :: pcsS l4))) := by
    simp [pcsS, pcsS_app, pt, qt]
  obtain ⟨A, hA⟩ : ∃ A, A = pcsS l1 ++ p.g := ⟨_, rfl⟩
  obtain ⟨M, hM⟩ : ∃ M, M = pcsS l3 ++ q.g := ⟨_, rfl⟩
  obtain ⟨Z, hZ⟩ : ∃ Z, Z = pcsS l4 := ⟨_, rfl⟩
  rw [← hA, ← hM, ← hZ] at hS
  have hfA : f = A.length := by rw [hA, List.length_append]; omega
  have htM : t = A.length + 1 + M.length := by rw [hM, List.length_append]; omega
  have hlen : (pcsS (l1 ++ p :: (l3 ++ q :: l4))).length = A.length + 1 + M.length + 1 + Z.length := by rw [hS]; simp; omega
  rw [hlen] at hl
  refine ⟨A ++ ([32] ++ (M ++ ([32] ++ Z))), ?_, by rw [hlen]; simp; omega, ?_⟩
  · unfold cutF
    rw [hlen, w64_rng (show Rng (f + 1) by unfold Rng; omega), w64_rng (show Rng (t + 1) by unfold Rng; omega), decide_eq_true (show (0 : Int) ≤ 0 ∧ (0 : Int) ≤ f ∧ f ≤ ((A.length + 1 + M.length + 1 + Z.length : Nat) : Int) by omega),
      decide_eq_true (show 0 ≤ f + 1 ∧ f + 1 ≤ t ∧ t ≤ ((A.length + 1 + M.length + 1 + Z.length : Nat) : Int) by omega), decide_eq_true (show 0 ≤ t + 1 ∧ t + 1 ≤ ((A.length + 1 + M.length + 1 + Z.length : Nat) : Int) by omega)]
    have d1 : ((pcsS (l1 ++ p :: (l3 ++ q :: l4))).take f.toNat).drop (0 : Int).toNat = A := by
      rw [hS, show f.toNat = A.length by omega, List.take_left]; rfl
    have d2 : ((pcsS (l1 ++ p :: (l3 ++ q :: l4))).take t.toNat).drop (f + 1).toNat = M := by
      rw [hS, show A ++ (40 :: (M ++ (41 :: Z))) = ((A ++ [40]) ++ M) ++ (41 :: Z) by simp, show t.toNat = ((A ++ [40]) ++ M).length by simp; omega, List.take_left, show (f + 1).toNat = (A ++ [40]).length by simp; omega, List.drop_left]
    have d3 : (pcsS (l1 ++ p :: (l3 ++ q :: l4))).drop (t + 1).toNat = Z := by
      rw [hS, show A ++ (40 :: (M ++ (41 :: Z))) = (((A ++ [40]) ++ M) ++ [41]) ++ Z by simp, show (t + 1).toNat = (((A ++ [40]) ++ M) ++ [41]).length by simp; omega, List.drop_left]
    rw [d1, d2, d3]
    simp only [cond_true]
    rw [catO_in (by simp only [List.length_cons, List.length_nil]; omega), catO_in (by simp only [List.length_append, List.length_cons, List.length_nil]; omega), catO_in (by simp only [List.length_append, List.length_cons, List.length_nil]; omega), catO_in (by simp only [List.length_append, List.length_cons, List.length_nil]; omega)]
    simp only [List.append_assoc]
  · have hgs : p.g.all (fun c => decide (c = 32)) = true ∧ q.g.all (fun c => decide (c = 32)) = true := by
      rw [List.all_append, List.all_cons, List.all_append, List.all_cons] at hg
      simp only [Bool.and_eq_true] at hg
      obtain ⟨_, hp, _, hq, _⟩ := hg
      unfold gdP at hp hq
      rw [Bool.and_eq_true] at hp hq
      exact ⟨hp.1, hq.1⟩
    obtain ⟨k1, k2⟩ := pcOk_split hok
    have k3 := (pcOk_split (a := [p]) k2).2
    obtain ⟨k4, k5⟩ := pcOk_split k3
    have k6 := (pcOk_split (a := [q]) k5).2
    have b1 := blank_gap hgs.1
    have b2 := blank_gap hgs.2
    obtain ⟨y1, y2⟩ := glu_ok b2 (l4, []) k6 rfl
    have j1 : pcOk (l3 ++ (glu (q.g ++ [32]) (l4, [])).1) = true := pcOk_join k4 y1 (glu_gap (by simp) _)
    obtain ⟨w1, w2⟩ := glu_ok b1 (l3 ++ (glu (q.g ++ [32]) (l4, [])).1, (glu (q.g ++ [32]) (l4, [])).2) j1 y2
    have j2 : pcOk (l1 ++ (glu (p.g ++ [32]) (l3 ++ (glu (q.g ++ [32]) (l4, [])).1, (glu (q.g ++ [32]) (l4, [])).2)).1) = true := pcOk_join k1 w1 (glu_gap (by simp) _)
    have x1 := glu_tx (q.g ++ [32]) (l4, [])
    have x2 := glu_tx (p.g ++ [32]) (l3 ++ (glu (q.g ++ [32]) (l4, [])).1, (glu (q.g ++ [32]) (l4, [])).2)
    have n1 := glu_len (q.g ++ [32]) (l4, [])
    have n2 := glu_len (p.g ++ [32]) (l3 ++ (glu (q.g ++ [32]) (l4, [])).1, (glu (q.g ++ [32]) (l4, [])).2)
    have m1 := glu_pnb (q.g ++ [32]) (l4, [])
    have m2 := glu_pnb (p.g ++ [32]) (l3 ++ (glu (q.g ++ [32]) (l4, [])).1, (glu (q.g ++ [32]) (l4, [])).2)
    generalize glu (p.g ++ [32]) (l3 ++ (glu (q.g ++ [32]) (l4, [])).1, (glu (q.g ++ [32]) (l4, [])).2) = W at *
    generalize glu (q.g ++ [32]) (l4, []) = Y at *
    simp only at n1 n2 m1 m2
    have hu : A ++ ([32] ++ (M ++ ([32] ++ Z))) = pcsS (l1 ++ W.1) ++ W.2 := by
      unfold ptx at x1 x2
      simp only at x1 x2
      rw [pcsS_app, List.append_assoc, x2, pcsS_app, List.append_assoc (pcsS l3), x1, hA, hM, hZ]
      simp
    have hll : (l1 ++ p :: (l3 ++ q :: l4)).length = l1.length + (l3.length + (l4.length + 1) + 1) := by simp
    have hnn : (l1 ++ W.1).length = l1.length + (l3.length + l4.length) := by rw [List.length_append, n2, List.length_append, n1]
    refine ⟨l1 ++ W.1, ?_, j2, by rw [hll, hnn]; omega, ?_, by rw [hu, List.length_append]; omega⟩
    · have hlx := lx_tailB w2 (l1 ++ W.1) 0 0 j2 (by rw [hnn]; rw [hll] at hn; omega)
      rw [Lx.lexA_is (by simp; omega), hu, hlx]
      simp
    · rw [pnb_app, m2, pnb_app, m1, pnb_app]
      have e1 : pnb (p :: (l3 ++ q :: l4)) = 1 + pnb (l3 ++ q :: l4) := by simp [pnb, pt]
      have e2 : pnb (q :: l4) = pnb l4 := by simp [pnb, qt]
      rw [e1, pnb_app, e2]; omega
theorem endF_is {e : Ex} (h : e.ok = true) (hr : e.rng = true) (hs : e.size ≤ 60) (hd : e.depth ≤ 20) {u : List UInt8} (hu : u.length ≤ 400) (hl : Left (e.pcs false [] 0) u) : lexE u = 0 ∧ endF (e.flat 0) (lexL u) = rb true := by
  obtain ⟨N, n1, n2, n3, n4, n5⟩ := hl.h
  have hln := pcs_len false e [] 0
  have hE : lexE u = 0 := by unfold lexE; rw [n1]
  have hL : lexL u = pcsT 0 N := by unfold lexL; rw [hE, n1]; rfl
  have hv : (pcsT 0 N).all okV = true := List.all_eq_true.2 fun t ht => by
    obtain ⟨⟨h1, h2, h3⟩, _⟩ := pcsT_mem N 0 n2 t ht
    unfold okV validB
    rw [decide_eq_true h1, decide_eq_true (show 0 ≤ t.pos ∧ t.pos ≤ 400 by omega)]; rfl
  have hsh : shortT (pcsT 0 N) = true := List.all_eq_true.2 fun t ht => decide_eq_true (by have := (pcsT_mem N 0 n2 t ht).2; omega)
  have hn : (pcsT 0 N).length ≤ 200 := by rw [pcsT_len]; omega
  refine ⟨hE, ?_⟩
  rw [hL]
  unfold endF
  obtain ⟨z1, z2, z3⟩ := z_ok hv hn (Int.le_refl 0) (by omega)
  rw [hsh, z1, z2, z3, cond_true]
  have hgood := pE_good (k := 1500) (s := 1) (r := pcsT 0 N) (okV_tk hsh hv) (by omega) (by omega) (by
    have := zR_in hn 0
    exact this)
  have hz : zR 0 (pcsT 0 N) = pE 1500 1 (pcsT 0 N) := rfl
  rw [hz]
  cases hp : pE 1500 1 (pcsT 0 N) with
  | out => rw [hp] at hgood; exact hgood.elim
  | bad er n =>
    rw [hp] at hgood
    have hgood : er ≠ 0 := hgood
    rw [show prEr (.bad er n) = er from rfl, decide_eq_false hgood]; rfl
  | ok e' r =>
    rw [hp] at hgood
    obtain ⟨g1, g2, g3⟩ := hgood
    show (bif !decide ((0 : Int) = 0) then _ else bif !decide (((pcsT 0 N).length : Int) - (r.length : Int) = ((pcsT 0 N).length : Int)) then rb true else bif decide (smE (e'.flat 0) (e.flat 0) = 0) then (bif !smB (e'.flat 0) (e.flat 0) then rb true else rb false) else none) = rb true
    rw [decide_eq_true (rfl : (0 : Int) = 0), Bool.not_true, cond_false]
    by_cases hr0 : r.length = 0
    · rw [decide_eq_true (show ((pcsT 0 N).length : Int) - (r.length : Int) = ((pcsT 0 N).length : Int) by omega), Bool.not_true, cond_false]
      obtain ⟨m1, m2⟩ := sm_st g1 h g2 g3 hs hd
      rw [m1, m2]
      have hne : e'.st ≠ e.st := by
        intro hst
        have hr1 : r = [] := List.length_eq_zero_iff.1 hr0
        obtain ⟨⟨p, q1, q2⟩, _, _⟩ := pE_sound 1500 1 _ _ _ hp (by omega) (by omega)
        rw [hr1, List.append_nil] at q1
        rw [← q1] at q2
        have f1 : e'.bks 1 ≤ nbr (pcsT 0 N) := gr_few q2
        have f2 := nbr_pnb N 0
        have f3 : e'.bks 1 = e.bks 1 := by rw [← bks_st e', hst, bks_st]
        have f4 := pnb_pcs e [] 0 h hr
        have f5 := bks_mono (show 0 ≤ 1 by omega) e
        omega
      rw [decide_eq_false hne]; rfl
    · rw [decide_eq_false (show ¬ ((pcsT 0 N).length : Int) - (r.length : Int) = ((pcsT 0 N).length : Int) by omega)]; rfl
theorem few_true {X : List Nod} {k : Int} (hr : rngX X = true) : runL B libPF [eOp, eMt] Tryz.f10 [.slw 0, i64 k] [ndb X] = rb true := by
  refine (tFew X k).trans ?_
  cases decide (70 < (X.length : Int)) with
  | true => rfl
  | false =>
    by_cases hc : chkN X = 0
    · by_cases hk : k < 0
      · rw [decide_eq_true hc, decide_eq_true hk]; rfl
      · obtain ⟨e, he, rfl, hs, hd⟩ := chkN_tree hc
        unfold gX
        rw [decide_eq_true hc, decide_eq_false hk, hr, prS_is he hc]
        have hr : e.rng = true := by rw [← rng_flat e 0]; exact hr
        have hb := pcsS_bound false e 0 hr
        show fewS (e.flat 0) (pcsS (e.pcs false [] 0)) k = rb true
        unfold fewS
        rw [decide_eq_true (show (0 : Int) ≤ 0 ∧ (0 : Int) ≤ ((pcsS (e.pcs false [] 0)).length : Int) ∧ (pcsS (e.pcs false [] 0)).length ≤ 100000 ∧ ((([] : List Int).length : Nat) : Int) ≤ 0 by simp; omega), cond_true]
        by_cases hz : ((opL (pcsS (e.pcs false [] 0))).length : Int) = 0
        · rw [decide_eq_true hz]; rfl
        · rw [decide_eq_false hz, cond_false, cond_false]
          by_cases h4 : 400 < ((pcsS (e.pcs false [] 0)).length : Int)
          · rw [decide_eq_true h4]; rfl
          · rw [decide_eq_false h4, cond_false]
            have hpos : 0 < ((opL (pcsS (e.pcs false [] 0))).length : Int) := by omega
            have i0 : 0 ≤ k.tmod ((opL (pcsS (e.pcs false [] 0))).length : Int) := Int.tmod_nonneg _ (by omega)
            have i1 : k.tmod ((opL (pcsS (e.pcs false [] 0))).length : Int) < ((opL (pcsS (e.pcs false [] 0))).length : Int) := Int.tmod_lt_of_pos _ hpos
            rw [inb_in i0 i1]
            have hmem : frF (pcsS (e.pcs false [] 0)) k ∈ opL (pcsS (e.pcs false [] 0)) := by
              unfold frF
              have : (k.tmod ((opL (pcsS (e.pcs false [] 0))).length : Int)).toNat < (opL (pcsS (e.pcs false [] 0))).length := by omega
              rw [List.getD_eq_getElem?_getD, List.getElem?_eq_getElem this]
              exact List.getElem_mem this
            obtain ⟨P⟩ := pair_of (gd_pcs e [] 0 he hr rfl) (bal_pcs e [] 0 he hr) hmem
            have hln := pcs_len false e [] 0
            have hff := P.hf
            have htt := P.ht
            have hS : (pcsS (e.pcs false [] 0)).length = (pcsS P.l1).length + (P.p.g.length + (1 + ((pcsS P.l3).length + (P.q.g.length + (1 + (pcsS P.l4).length))))) := by
              refine (congrArg (fun l => (pcsS l).length) P.e).trans ?_
              simp [pcsS, pcsS_app, P.pt, P.qt]; omega
            rw [decide_eq_true (show 0 ≤ frF (pcsS (e.pcs false [] 0)) k ∧ frF (pcsS (e.pcs false [] 0)) k ≤ ((pcsS (e.pcs false [] 0)).length : Int) ∧ (pcsS (e.pcs false [] 0)).length ≤ 100000 ∧ (-1 : Int) = -1 ∧ (0 : Int) = 0 from ⟨by omega, by omega, by omega, rfl, rfl⟩), cond_true, decide_eq_false (show ¬ toF (pcsS (e.pcs false [] 0)) (frF (pcsS (e.pcs false [] 0)) k) < 0 by omega), cond_false]
            obtain ⟨u, u1, u2, u3⟩ := cut_is (gd_pcs e [] 0 he hr rfl) (pcOk_txt he hr) (by omega) (by omega) P (fun u => bif decide (lexE u = 0) then endF (e.flat 0) (lexL u) else none)
            rw [u1]
            obtain ⟨v1, v2⟩ := endF_is he hr hs hd (by omega) u3
            rw [v1]; exact v2
    · rw [decide_eq_false hc]; rfl
def sFew (_ : Nat → Option Obj) : FSpec
  | [.slw 0, .int .i64 _], [⟨false, .nodes X⟩] => .node (rngX X) (.leaf ⟨[.bool true], []⟩) .bad
  | _, _ => .bad
theorem sFew_sel {X : List Nod} {k : Int} (h : ∀ x ∈ X, nodWf x) : (sFew B [.slw 0, .int .i64 k] [⟨false, .nodes X⟩]).sel = some ⟨[.bool true], []⟩ := by
  show (bif rngX X then _ else _) = _
  rw [rng_of h]; rfl
theorem okFew (hB : Laid B) : FnOk (E0 B) 10 (sFew B) := by
  refine fnL (libPF_ok hB) (ls := [eOp, eMt]) Tryz.func10 (by kernel_rfl) (by kernel_rfl) (fun x hx => ?_) fun vs bs r h => ?_
  · simp only [List.mem_cons, List.mem_nil_iff, or_false] at hx
    rcases hx with rfl | rfl
    · exact ⟨bOp, by kernel_rfl, rfl, loopOp⟩
    · exact ⟨bMt, by kernel_rfl, rfl, loopMt⟩
  · unfold sFew at h
    split at h
    · rename_i k X
      rcases T.node_sel h with ⟨hr, h2⟩ | ⟨_, h2⟩
      · simp only [T.sel, Option.some.injEq] at h2; subst h2
        exact few_true hr
      · simp [T.sel] at h2
    · simp [T.sel] at h
end Go.Proofs.YthfieonkfailkaaGreatDoor
