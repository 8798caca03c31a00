/-
  Texts put together: PrsCnt, PrsCntL.
-/
import Derived.Test.YthfieonkfailkaaGreatDoorPrsAsk
import Derived.Test.YthfieonkfailkaaGreatDoorCntA
/-
  ExprsCounts: its loops by contract.
-/
namespace Go.Proofs.YthfieonkfailkaaGreatDoor
open Go.Am Go
set_option maxRecDepth 100000
variable {B : Nat → Option Obj}
noncomputable def bC1 : Code := loopAt 11 (loopsOf (bodyC Tryz.f4))
noncomputable def bC2 : Code := loopAt 22 (loopsOf (bodyC Tryz.f4))
noncomputable def bC3 : Code := loopAt 28 (loopsOf (bodyC Tryz.f4))
def sgC1 : LSig := { cs := [(0, 25), (6, 0), (10, 0)], mv := [(8, 0), (9, 0), (11, 0)], mo := [(4, 0), (8, 0), (9, 0)], take := [] }
def sgC2 : LSig := { cs := [(5, 29), (10, 0)], mv := [(12, 0)], mo := [(4, 0)], take := [] }
def sgC3 : LSig := { cs := [(10, 0)], mv := [(13, 0)], mo := [(4, 0)], take := [] }
def inA {α : Type} (p : Int) (A : List Int) (z : Option α) : Option α := bif decide (0 ≤ p ∧ p < 401) then (bif decide (0 + (0 + p.toNat * 1) < A.length) then z else none) else none
def stA (p : Int) (A : List Int) (c : Int → Int) : List Int := A.set (0 + (0 + p.toNat * 1)) (c (A.getD (0 + (0 + p.toNat * 1)) 0))
def arB (A : List Int) : Blk := ⟨true, .ints .i64 A⟩
def gl (L : List Tok) (i : Int) : Tok := L.getD i.toNat default
def c1V (n c o i : Int) : List AV := [.slw 0, i64 n, .ptr 1 0 0, i64 c, i64 o, i64 i]
def rF (A : List Int) : Option (AExit × Out) := some (.ret, ⟨[.bool false], [arB A]⟩)
def rF1 (A : List Int) (c o : Int) : Option (AExit × Out) := some (.ret, ⟨[.bool false, i64 c, i64 o], [arB A]⟩)
def c1A (L : List Tok) (A : List Int) (n c o i : Int) : Option (AExit × Out) := inb' i L.length (bif decide ((gl L i).text = [40]) then (bif decide (w64 (o + 1) < 0) then rF1 A c (w64 (o + 1)) else some (.normal, ⟨c1V n c (w64 (o + 1)) (w64 (i + 1)), [tkb L, arB A]⟩)) else
  (bif decide (w64 (o - 1) < 0) then rF1 A c (w64 (o - 1)) else some (.normal, ⟨c1V n c (w64 (o - 1)) (w64 (i + 1)), [tkb L, arB A]⟩)))
def c1B (L : List Tok) (A : List Int) (n c o i : Int) : Option (AExit × Out) := inb' i L.length (inA (gl L i).pos A (inA (gl L i).pos A (some (.normal, ⟨c1V n (w64 (c + 1)) o (w64 (i + 1)), [tkb L, arB (stA (gl L i).pos A fun x => w64 (x + 1))]⟩))))
theorem turnC1 (L : List Tok) (A : List Int) (n c o i : Int) : (turn (E0 B) (Cx B lib5) noL 145 sgC1 bC1 (c1V n c o i) [tkb L, arB A]).sel =
    bif decide (i < n) then inb' i L.length (bif decide ((gl L i).kind = 3) then (bif decide ((gl L i).text = [40]) then c1A L A n c o i else bif decide ((gl L i).text = [41]) then c1A L A n c o i else c1B L A n c o i) else c1B L A n c o i) else some (.exit 0, ⟨[.any, i64 c, i64 o], [arB A]⟩) := by kernel_rfl
def gx (X : List Nod) (i : Int) : Nod := X.getD i.toNat default
theorem turnC2 (X : List Nod) (A : List Int) (i : Int) : (turn (E0 B) (Cx B lib5) noL 145 sgC2 bC2 [.slw 0, .ptr 1 0 0, i64 i] [ndb X, arB A]).sel =
    bif decide (i < (X.length : Int)) then inb' i X.length (bif decide ((gx X i).pos < 0) then rF A else inb' i X.length (bif decide (400 < (gx X i).pos) then rF A else inb' i X.length (inA (gx X i).pos A (inA (gx X i).pos A (some (.normal, ⟨[.slw 0, .ptr 1 0 0, i64 (w64 (i + 1))], [ndb X, arB (stA (gx X i).pos A fun x => w64 (x - 1))]⟩))))))
    else some (.exit 2, ⟨[.any], [arB A]⟩) := by kernel_rfl
theorem turnC3 (A : List Int) (i : Int) : (turn (E0 B) (Cx B lib5) noL 145 sgC3 bC3 [.ptr 0 0 0, i64 i] [arB A]).sel =
    bif decide (i < 401) then inA i A (bif !decide (A.getD (0 + (0 + i.toNat * 1)) 0 = 0) then rF A else some (.normal, ⟨[.ptr 0 0 0, i64 (w64 (i + 1))], [arB A]⟩)) else some (.exit 4, ⟨[.any], [arB A]⟩) := by kernel_rfl
theorem inA_is {α : Type} {p : Int} {A : List Int} (h : 0 ≤ p ∧ p ≤ 400) (hA : A.length = 401) (z : Option α) : inA p A z = z := by
  unfold inA
  rw [decide_eq_true (show 0 ≤ p ∧ p < 401 by omega), decide_eq_true (show 0 + (0 + p.toNat * 1) < A.length by omega)]; rfl
theorem stA_is (p : Int) (A : List Int) (c : Int → Int) : stA p A c = A.set p.toNat (c (A.getD p.toNat 0)) := by
  unfold stA
  rw [show 0 + (0 + p.toNat * 1) = p.toNat by omega]
theorem nonb_cons (t : Tok) (r : List Tok) : nonb (t :: r) = bif brkT t then nonb r else t :: nonb r := by
  unfold nonb
  rw [List.filter_cons]
  cases brkT t <;> rfl
def okPs (L : List Tok) : Bool := L.all fun t => decide (0 ≤ t.pos ∧ t.pos ≤ 400)
theorem run1 : ∀ (seg rest L : List Tok) (i : Nat) (c o d : Int) (A : List Int), L.drop i = seg ++ rest → okPs seg = true → balT o seg = some d → 0 ≤ o → o ≤ i → 0 ≤ c → c ≤ i → i + seg.length ≤ 1000 → A.length = 401 → smA i A = true →
    ∃ m, (turns (E0 B) (Cx B lib5) noL 145 sgC1 bC1 m (c1V (i + seg.length : Nat) c o i) [tkb L, arB A]).sel = some (.exit 0, ⟨[.any, i64 (c + (nonb seg).length), i64 d], [arB (bmp 1 A ((nonb seg).map Tok.pos))]⟩)
  | [], rest, L, i, c, o, d, A, _, _, hb, _, _, _, _, _, _, _ => by
    cases hb
    refine ⟨1, turns_done ((turnC1 L A _ c o i).trans ?_) (by simp)⟩
    rw [decide_eq_false (show ¬ (i : Int) < ((i + ([] : List Tok).length : Nat) : Int) by simp), cond_false]
    show some (_, _) = some (_, _)
    simp [nonb, bmp]
  | t :: seg, rest, L, i, c, o, d, A, hd, hp, hb, o0, oi, c0, ci, hn, hA, hs => by
    have hlt : i < L.length := by
      have := congrArg List.length hd
      simp only [List.length_drop, List.length_append, List.length_cons] at this
      omega
    have hg : gl L i = t := by
      unfold gl
      rw [Int.toNat_natCast, List.getD_eq_getElem?_getD]
      have h0 : (L.drop i)[0]? = L[i]? := by rw [List.getElem?_drop, Nat.add_zero]
      rw [← h0, hd]; rfl
    have hd' : L.drop (i + 1) = seg ++ rest := by
      rw [← List.drop_drop, hd]; rfl
    simp only [List.length_cons] at hn
    have hne : i + (t :: seg).length = i + 1 + seg.length := by simp only [List.length_cons]; omega
    unfold okPs at hp
    rw [List.all_cons, Bool.and_eq_true] at hp
    obtain ⟨hp1, hp2⟩ := hp
    have hp1 := of_decide_eq_true hp1
    have ht := turnC1 (B := B) L A (i + (t :: seg).length : Nat) c o i
    rw [decide_eq_true (show (i : Int) < ((i + (t :: seg).length : Nat) : Int) by rw [hne]; omega), cond_true, inb'_is hlt] at ht
    unfold c1A c1B at ht
    rw [inb'_is hlt, inb'_is hlt, hg, inA_is hp1 hA, inA_is hp1 hA, stA_is] at ht
    have hr1 : w64 ((i : Int) + 1) = ((i + 1 : Nat) : Int) := by rw [w64_rng (show Rng ((i : Int) + 1) by unfold Rng; omega)]; rfl
    have ho1 : w64 (o + 1) = o + 1 := w64_rng (by unfold Rng; omega)
    have ho2 : w64 (o - 1) = o - 1 := w64_rng (by unfold Rng; omega)
    have hc1 : w64 (c + 1) = c + 1 := w64_rng (by unfold Rng; omega)
    have hA2 := smA_get (by omega) hs t.pos.toNat
    have ha1 : w64 (A.getD t.pos.toNat 0 + 1) = A.getD t.pos.toNat 0 + 1 := w64_rng (by unfold Rng; omega)
    rw [hr1, ho1, ho2, hc1, ha1, decide_eq_false (show ¬ o + 1 < 0 by omega), cond_false] at ht
    have hs1 : smA ((i + 1 : Nat) : Int) A = true := List.all_eq_true.2 fun a ha => by
      have := of_decide_eq_true (List.all_eq_true.1 hs a ha)
      exact decide_eq_true (by omega)
    unfold balT at hb
    rw [nonb_cons, hne]
    rw [hne] at ht
    unfold brkT at hb ⊢
    cases h3 : decide (t.kind = 3) with
    | false =>
      rw [h3] at ht hb
      rw [Bool.false_and, cond_false] at hb
      obtain ⟨m, hm⟩ := run1 seg rest L (i + 1) (c + 1) o d (A.set t.pos.toNat (A.getD t.pos.toNat 0 + 1)) hd' hp2 hb o0 (by omega) (by omega) (by omega) (by omega) (by simpa using hA) (smA_set (by omega) hs _ (by omega))
      refine ⟨m + 1, (turns_more ht hm).trans ?_⟩
      simp only [Bool.false_and, cond_false, List.map_cons, List.length_cons, bmp]
      rw [show c + 1 + ((nonb seg).length : Int) = c + (((nonb seg).length + 1 : Nat) : Int) by omega]
    | true =>
      rw [h3] at ht hb
      rw [Bool.true_and] at hb
      cases h4 : decide (t.text = [40]) with
      | true =>
        rw [h4] at ht hb
        obtain ⟨m, hm⟩ := run1 seg rest L (i + 1) c (o + 1) d A hd' hp2 hb (by omega) (by omega) (by omega) (by omega) (by omega) hA hs1
        exact ⟨m + 1, turns_more ht hm⟩
      | false =>
        rw [h4] at ht hb
        cases h5 : decide (t.text = [41]) with
        | true =>
          rw [h5] at ht hb
          rw [Bool.false_or, cond_true, cond_false] at hb
          cases h6 : decide (o - 1 < 0) with
          | true => rw [h6] at hb; cases hb
          | false =>
            rw [h6] at ht hb
            have h6 := of_decide_eq_false h6
            obtain ⟨m, hm⟩ := run1 seg rest L (i + 1) c (o - 1) d A hd' hp2 hb (by omega) (by omega) (by omega) (by omega) (by omega) hA hs1
            exact ⟨m + 1, turns_more ht hm⟩
        | false =>
          rw [h5] at ht hb
          rw [Bool.false_or, cond_false] at hb
          obtain ⟨m, hm⟩ := run1 seg rest L (i + 1) (c + 1) o d (A.set t.pos.toNat (A.getD t.pos.toNat 0 + 1)) hd' hp2 hb o0 (by omega) (by omega) (by omega) (by omega) (by simpa using hA) (smA_set (by omega) hs _ (by omega))
          refine ⟨m + 1, (turns_more ht hm).trans ?_⟩
          simp only [Bool.true_and, Bool.false_or, cond_false, List.map_cons, List.length_cons, bmp]
          rw [show c + 1 + ((nonb seg).length : Int) = c + (((nonb seg).length + 1 : Nat) : Int) by omega]
def poss (X : List Nod) : List Int := X.map Nod.pos
theorem run2 : ∀ (seg X : List Nod) (i : Nat) (A : List Int) (c : Nat), X.drop i = seg → inP (poss seg) = true → i + seg.length ≤ 1000 → A.length = 401 → smA c A = true → c + seg.length ≤ 5000 →
    ∃ m, (turns (E0 B) (Cx B lib5) noL 145 sgC2 bC2 m [.slw 0, .ptr 1 0 0, i64 i] [ndb X, arB A]).sel = some (.exit 2, ⟨[.any], [arB (bmp (-1) A (poss seg))]⟩)
  | [], X, i, A, c, hd, _, _, _, _, _ => by
    refine ⟨1, turns_done ((turnC2 X A i).trans ?_) (by simp)⟩
    have hle : X.length ≤ i := List.drop_eq_nil_iff.1 hd
    rw [decide_eq_false (show ¬ (i : Int) < (X.length : Int) by omega)]; rfl
  | t :: seg, X, i, A, c, hd, hp, hn, hA, hs, hc => by
    have hlt : i < X.length := by
      have := congrArg List.length hd
      simp only [List.length_drop, List.length_cons] at this
      omega
    have hg : gx X i = t := by
      unfold gx
      rw [Int.toNat_natCast, List.getD_eq_getElem?_getD]
      have h0 : (X.drop i)[0]? = X[i]? := by rw [List.getElem?_drop, Nat.add_zero]
      rw [← h0, hd]; rfl
    have hd' : X.drop (i + 1) = seg := by
      rw [← List.drop_drop, hd]; rfl
    simp only [List.length_cons] at hn hc
    obtain ⟨hp1, hp2⟩ := inP_cons hp
    have ht := turnC2 (B := B) X A i
    rw [decide_eq_true (show (i : Int) < (X.length : Int) by omega), cond_true, inb'_is hlt, inb'_is hlt, inb'_is hlt, hg, inA_is hp1 hA, inA_is hp1 hA, stA_is, decide_eq_false (show ¬ t.pos < 0 by omega), cond_false, decide_eq_false (show ¬ 400 < t.pos by omega), cond_false] at ht
    have hr1 : w64 ((i : Int) + 1) = ((i + 1 : Nat) : Int) := by rw [w64_rng (show Rng ((i : Int) + 1) by unfold Rng; omega)]; rfl
    have hA2 := smA_get (by omega) hs t.pos.toNat
    have ha1 : w64 (A.getD t.pos.toNat 0 - 1) = A.getD t.pos.toNat 0 + -1 := by rw [w64_rng (show Rng (A.getD t.pos.toNat 0 - 1) by unfold Rng; omega)]; rfl
    rw [hr1, ha1] at ht
    obtain ⟨m, hm⟩ := run2 seg X (i + 1) (A.set t.pos.toNat (A.getD t.pos.toNat 0 + -1)) (c + 1) hd' hp2 (by omega) (by simpa using hA) (smA_set (by omega) hs _ (by omega)) (by omega)
    exact ⟨m + 1, turns_more ht hm⟩
def zA : List Int := List.replicate 401 0
theorem zA_sm (c : Int) (hc : 0 ≤ c) : smA c zA = true := List.all_eq_true.2 fun a ha => by
  have := List.eq_of_mem_replicate ha
  exact decide_eq_true (by omega)
theorem zA_get (k : Nat) : zA.getD k 0 = 0 := by
  have := smA_get (c := 0) (by omega) (zA_sm 0 (by omega)) k
  omega
theorem run3 : ∀ (k i : Nat), i + k = 401 → ∃ m, (turns (E0 B) (Cx B lib5) noL 145 sgC3 bC3 m [.ptr 0 0 0, i64 i] [arB zA]).sel = some (.exit 4, ⟨[.any], [arB zA]⟩)
  | 0, i, h => by
    refine ⟨1, turns_done ((turnC3 zA i).trans ?_) (by simp)⟩
    rw [decide_eq_false (show ¬ (i : Int) < 401 by omega)]; rfl
  | k + 1, i, h => by
    have ht := turnC3 (B := B) zA i
    have hz : zA.getD (0 + (0 + (i : Int).toNat * 1)) 0 = 0 := zA_get _
    have hr1 : w64 ((i : Int) + 1) = ((i + 1 : Nat) : Int) := by rw [w64_rng (show Rng ((i : Int) + 1) by unfold Rng; omega)]; rfl
    rw [decide_eq_true (show (i : Int) < 401 by omega), cond_true, inA_is (by omega) (by simp [zA]), hz, hr1] at ht
    obtain ⟨m, hm⟩ := run3 k (i + 1) (by omega)
    exact ⟨m + 1, turns_more ht hm⟩
/-! the loops' contracts -/
def seg1 (L : List Tok) (i n : Int) : List Tok := (L.drop i.toNat).take (n - i).toNat
def spC1 : LSpec
  | [.slw 0, .int .i64 n, .ptr 1 0 0, .int .i64 c, .int .i64 o, .int .i64 i], [⟨false, .toks L⟩, ⟨true, .ints .i64 A⟩] =>
    .node (decide (0 ≤ i ∧ i ≤ n ∧ n ≤ (L.length : Int) ∧ L.length ≤ 200 ∧ c = 0 ∧ o = 0 ∧ A = zA) && (okPs (seg1 L i n) && decide (balT 0 (seg1 L i n) = some 0))) (.leaf (.exit 0, ⟨[.any, i64 ((nonb (seg1 L i n)).length), i64 0], [arB (bmp 1 zA ((nonb (seg1 L i n)).map Tok.pos))]⟩)) .bad
  | _, _ => .bad
theorem loopC1 : LoopOk (E0 B) 145 sgC1 bC1 spC1 := by
  refine loop_turns (C := Cx B lib5) (L := noL) (cxOk lib5_ok) (noL_ok _) fun vs bs e o h => ?_
  unfold spC1 at h
  split at h
  · rename_i n c o' i L A
    rcases T.node_sel h with ⟨hc, h2⟩ | ⟨_, h2⟩
    · simp only [Bool.and_eq_true] at hc
      obtain ⟨hc, hp, hb⟩ := hc
      obtain ⟨i0, hin, hnL, hL, rfl, rfl, rfl⟩ := of_decide_eq_true hc
      have hb := of_decide_eq_true hb
      obtain ⟨j, rfl⟩ : ∃ j : Nat, i = j := ⟨i.toNat, by omega⟩
      obtain ⟨k, rfl⟩ : ∃ k : Nat, n = k := ⟨n.toNat, by omega⟩
      simp only [T.sel, Option.some.injEq] at h2
      rw [← h2]
      have hlen : (seg1 L j k).length = k - j := by
        unfold seg1
        rw [List.length_take, List.length_drop]; omega
      have hk : ((j + (seg1 L j k).length : Nat) : Int) = (k : Int) := by rw [hlen]; omega
      obtain ⟨m, hm⟩ := run1 (B := B) (seg1 L j k) ((L.drop j).drop ((k : Int) - j).toNat) L j 0 0 0 zA (by unfold seg1; rw [Int.toNat_natCast, List.take_append_drop]) hp hb (by omega) (by omega) (by omega) (by omega) (by omega) (by simp [zA]) (List.all_eq_true.2 fun a ha => by
        have := List.eq_of_mem_replicate ha
        exact decide_eq_true (by omega))
      rw [hk, Int.zero_add] at hm
      exact ⟨m, hm⟩
    · simp [T.sel] at h2
  · simp [T.sel] at h
def spC2 : LSpec
  | [.slw 0, .ptr 1 0 0, .int .i64 i], [⟨false, .nodes X⟩, ⟨true, .ints .i64 A⟩] =>
    .node (decide (i = 0 ∧ X.length ≤ 500 ∧ A.length = 401) && (inP (poss X) && smA 1000 A)) (.leaf (.exit 2, ⟨[.any], [arB (bmp (-1) A (poss X))]⟩)) .bad
  | _, _ => .bad
theorem loopC2 : LoopOk (E0 B) 145 sgC2 bC2 spC2 := by
  refine loop_turns (C := Cx B lib5) (L := noL) (cxOk lib5_ok) (noL_ok _) fun vs bs e o h => ?_
  unfold spC2 at h
  split at h
  · rename_i i X A
    rcases T.node_sel h with ⟨hc, h2⟩ | ⟨_, h2⟩
    · simp only [Bool.and_eq_true] at hc
      obtain ⟨hc, hp, hb⟩ := hc
      obtain ⟨rfl, hX, hA⟩ := of_decide_eq_true hc
      simp only [T.sel, Option.some.injEq] at h2
      rw [← h2]
      exact run2 (B := B) X X 0 A 1000 rfl hp (by omega) hA hb (by omega)
    · simp [T.sel] at h2
  · simp [T.sel] at h
def spC3 : LSpec
  | [.ptr 0 0 0, .int .i64 i], [⟨true, .ints .i64 A⟩] => .node (decide (i = 0 ∧ A = zA)) (.leaf (.exit 4, ⟨[.any], [arB zA]⟩)) .bad
  | _, _ => .bad
theorem loopC3 : LoopOk (E0 B) 145 sgC3 bC3 spC3 := by
  refine loop_turns (C := Cx B lib5) (L := noL) (cxOk lib5_ok) (noL_ok _) fun vs bs e o h => ?_
  unfold spC3 at h
  split at h
  · rename_i i A
    rcases T.node_sel h with ⟨hc, h2⟩ | ⟨_, h2⟩
    · obtain ⟨rfl, rfl⟩ := of_decide_eq_true hc
      simp only [T.sel, Option.some.injEq] at h2
      rw [← h2]
      exact run3 (B := B) 401 0 rfl
    · simp [T.sel] at h2
  · simp [T.sel] at h
noncomputable def eC1 : LEnt := { id := 11, n := 145, sg := sgC1, wr := writes bC1, s := spC1 }
noncomputable def eC2 : LEnt := { id := 22, n := 145, sg := sgC2, wr := writes bC2, s := spC2 }
noncomputable def eC3 : LEnt := { id := 28, n := 145, sg := sgC3, wr := writes bC3, s := spC3 }
end Go.Proofs.YthfieonkfailkaaGreatDoor
/-
  ExprsCounts: that the law answers true.
-/
namespace Go.Proofs.YthfieonkfailkaaGreatDoor
open Go.Am Go
set_option maxRecDepth 100000
variable {B : Nat → Option Obj}
noncomputable def libC : Tb := (14, [], sParse) :: (18, [], sAsked) :: (17, [], Lx.sGr) :: (16, [], sTrueF) :: lib5
theorem libC_ok (hB : Laid B) : TbOk B libC := (((lib5_ok.add (okAlive5 hB)).add (Lx.okGreat hB)).add okAsked).add (okParse hB)
theorem great_short : ∀ (l : List Tok) (i : Int), greatB i l = false → shortT l = true
  | [], _, _ => rfl
  | t :: r, i, h => by
    unfold greatB at h
    simp only [Bool.or_eq_false_iff, decide_eq_false_iff_not] at h
    unfold shortT
    rw [List.all_cons, Bool.and_eq_true, decide_eq_true_eq]
    exact ⟨by omega, great_short r (i + 1) h.2.2⟩
theorem short_long {L : List Tok} (h : shortT L = true) : longT L = true := List.all_eq_true.2 fun t ht => decide_eq_true (by
  have := short_mem h ht
  simp only [Lx.lim2]; omega)
def cnP (L : List Tok) (at' : Int) : List Int := (nonb (seg1 L at' (zN L at'))).map Tok.pos
def cnT (L : List Tok) (at' : Int) : Option Out :=
  bif decide ((0 : Int) ≤ at' ∧ at' ≤ zN L at' ∧ zN L at' ≤ (L.length : Int) ∧ L.length ≤ 200 ∧ (0 : Int) = 0 ∧ (0 : Int) = 0 ∧ zA = zA) && (okPs (seg1 L at' (zN L at')) && decide (balT 0 (seg1 L at' (zN L at')) = some 0)) then
    (bif decide ((0 : Int) = 0 ∧ (zX L at').length ≤ 500 ∧ (bmp 1 zA (cnP L at')).length = 401) && (inP (poss (zX L at')) && smA 1000 (bmp 1 zA (cnP L at'))) then
      (bif decide ((0 : Int) = 0 ∧ bmp (-1) (bmp 1 zA (cnP L at')) (poss (zX L at')) = zA) then (bif decide (((nonb (seg1 L at' (zN L at'))).length : Int) = ((zX L at').length : Int)) then rb true else rb false) else none) else none) else none
def cnR (L : List Tok) (at' : Int) : Option Out := bif !decide (zE L at' = 0) then (bif decide (((zX L at').length : Int) = 0) then (bif decide (at' ≤ zN L at') then (bif decide (zN L at' ≤ (L.length : Int)) then rb true else rb false) else rb false) else rb false)
  else bif !decide (chkN (zX L at') = 0) then rb false else bif decide (zN L at' ≤ at') then rb false else bif decide ((L.length : Int) < zN L at') then rb false else cnT L at'
theorem tCounts (L : List Tok) (at' : Int) : runL B libC [eC1, eC2, eC3] Tryz.f4 [.slw 0, i64 at'] [tkb L] =
    bif greatB 0 L then rb true else bif longT L then (bif !decide (zE0 L at' = 0) then rb true else bif shortT L then cnR L at' else none) else none := by kernel_rfl
theorem zE0_inv {L : List Tok} {at' : Int} (h : zE0 L at' = 0) : L.all okV = true ∧ L.length ≤ 200 ∧ 0 ≤ at' ∧ at' ≤ (L.length : Int) := by
  unfold zE0 at h
  cases h1 : decide (200 < L.length) with
  | true => rw [h1] at h; cases h
  | false =>
    have h1' := of_decide_eq_false h1
    rw [h1, cond_false] at h
    cases h2 : L.all okV with
    | false => rw [h2] at h; cases h
    | true =>
      rw [h2, cond_true] at h
      cases h3 : decide (0 ≤ at' ∧ at' ≤ (L.length : Int)) with
      | false => rw [h3] at h; cases h
      | true => exact ⟨rfl, by omega, of_decide_eq_true h3⟩
theorem okV_pos {t : Tok} (h : okV t = true) : 0 ≤ t.pos ∧ t.pos ≤ 400 := by
  unfold okV at h
  rw [Bool.and_eq_true] at h
  exact of_decide_eq_true h.2
theorem okV_sym {t : Tok} (h : okV t = true) : symB t = true := by
  unfold okV validB at h
  rw [Bool.and_eq_true] at h
  exact symB_of (of_decide_eq_true h.1)
theorem cnR_true {L : List Tok} {at' : Int} (h : zE0 L at' = 0) : cnR L at' = rb true := by
  obtain ⟨hv, hn, a0, a1⟩ := zE0_inv h
  obtain ⟨z1, z2, z3⟩ := z_ok hv hn a0 a1
  have hdl : (L.drop at'.toNat).length = L.length - at'.toNat := List.length_drop
  cases hz : zR at' L with
  | out =>
    have := zR_in hn at'
    rw [hz] at this; cases this
  | bad er n =>
    rw [hz] at z1 z2 z3
    have he : er ≠ 0 := pE_err 1500 1 _ er n hz
    have hl : PR.le (L.drop at'.toNat).length (zR at' L) := pE_len 1500 1 _
    rw [hz] at hl
    have hl : n ≤ (L.drop at'.toNat).length := hl
    rw [hdl] at hl
    unfold cnR
    rw [z1, z2, z3]
    show (bif !decide (er = 0) then (bif decide (((([] : List Nod)).length : Int) = 0) then (bif decide (at' ≤ (L.length : Int) - n) then (bif decide ((L.length : Int) - n ≤ (L.length : Int)) then rb true else rb false) else rb false) else rb false) else _) = _
    rw [decide_eq_false he, decide_eq_true (show at' ≤ (L.length : Int) - n by omega), decide_eq_true (show (L.length : Int) - n ≤ (L.length : Int) by omega)]; rfl
  | ok e r =>
    rw [hz] at z1 z2 z3
    have hsnd := pE_sound 1500 1 _ e r hz (by omega) (by omega)
    have hless := hsnd.less
    obtain ⟨⟨p, hp, hg⟩, hsz, hdp⟩ := hsnd
    have z1 : zE L at' = 0 := z1
    have z2 : zN L at' = (L.length : Int) - r.length := z2
    have z3 : zX L at' = e.flat 0 := z3
    have hpl := congrArg List.length hp
    rw [hdl, List.length_append] at hpl
    rw [hdl] at hless
    have hpv : p.all okV = true := List.all_eq_true.2 fun t ht => List.all_eq_true.1 hv t (List.mem_of_mem_drop (i := at'.toNat) (by rw [hp]; exact List.mem_append_left _ ht))
    have hseg : seg1 L at' (zN L at') = p := by
      unfold seg1
      rw [hp, z2, show ((L.length : Int) - r.length - at').toNat = p.length by omega, List.take_left']
      rfl
    obtain ⟨c1, c2⟩ := gr_cnt hg (List.all_eq_true.2 fun t ht => okV_sym (List.all_eq_true.1 hpv t ht))
    have hP : inP ((nonb p).map Tok.pos) = true := List.all_eq_true.2 fun x hx => by
      obtain ⟨t, ht, rfl⟩ := List.mem_map.1 hx
      exact decide_eq_true (okV_pos (List.all_eq_true.1 hpv t ((List.mem_filter.1 ht).1)))
    have hQ : inP (poss (e.flat 0)) = true := List.all_eq_true.2 fun x hx => by
      unfold poss at hx
      rw [poss_flat] at hx
      exact List.all_eq_true.1 hP x (c1.mem_iff.2 hx)
    have hperm : List.Perm ((nonb p).map Tok.pos) (poss (e.flat 0)) := by unfold poss; rw [poss_flat]; exact c1
    have hlen : (nonb p).length = (e.flat 0).length := by
      have := hperm.length_eq
      unfold poss at this
      simpa using this
    have hnb : (nonb p).length ≤ p.length := List.length_filter_le _ _
    have hzero : bmp (-1) (bmp 1 zA ((nonb p).map Tok.pos)) (poss (e.flat 0)) = zA := bmp_zero hperm hP hQ
    have hsm : smA 1000 (bmp 1 zA ((nonb p).map Tok.pos)) = true := by
      have h1 := bmp_sm (d := 1) (by omega) ((nonb p).map Tok.pos) zA 0 (by omega) (zA_sm 0 (by omega))
      refine List.all_eq_true.2 fun a ha => ?_
      have h2 := of_decide_eq_true (List.all_eq_true.1 h1 a ha)
      rw [List.length_map] at h2
      exact decide_eq_true (by omega)
    have hok : okPs p = true := List.all_eq_true.2 fun t ht => decide_eq_true (okV_pos (List.all_eq_true.1 hpv t ht))
    unfold cnR cnT cnP
    rw [hseg, z1, z2, z3, chk_of (gr_okV hg hpv) hsz hdp, hzero, hsm, hQ, hok, c2 0 (by omega), bmp_len, hlen,
      decide_eq_false (show ¬ (L.length : Int) - r.length ≤ at' by omega), decide_eq_false (show ¬ (L.length : Int) < (L.length : Int) - r.length by omega),
      decide_eq_true (show (0 : Int) ≤ at' ∧ at' ≤ (L.length : Int) - r.length ∧ (L.length : Int) - r.length ≤ (L.length : Int) ∧ L.length ≤ 200 ∧ (0 : Int) = 0 ∧ (0 : Int) = 0 ∧ zA = zA from ⟨a0, by omega, by omega, hn, rfl, rfl, rfl⟩),
      decide_eq_true (show (0 : Int) = 0 ∧ (e.flat 0).length ≤ 500 ∧ zA.length = 401 from ⟨rfl, by omega, by simp [zA]⟩),
      decide_eq_true (show (0 : Int) = 0 ∧ zA = zA from ⟨rfl, rfl⟩), decide_eq_true (rfl : ((e.flat 0).length : Int) = ((e.flat 0).length : Int)), decide_eq_true (rfl : (some 0 : Option Int) = some 0)]
    rfl
def sCounts (_ : Nat → Option Obj) : FSpec
  | [.slw 0, .int .i64 _], [⟨false, .toks _⟩] => .leaf ⟨[.bool true], []⟩
  | _, _ => .bad
theorem okCounts (hB : Laid B) : FnOk (E0 B) 4 (sCounts B) := by
  refine fnL (libC_ok hB) (ls := [eC1, eC2, eC3]) Tryz.func4 (by kernel_rfl) (by kernel_rfl) (fun x hx => ?_) fun vs bs r h => ?_
  · simp only [List.mem_cons, List.not_mem_nil, or_false] at hx
    rcases hx with rfl | rfl | rfl
    · exact ⟨bC1, by kernel_rfl, rfl, loopC1⟩
    · exact ⟨bC2, by kernel_rfl, rfl, loopC2⟩
    · exact ⟨bC3, by kernel_rfl, rfl, loopC3⟩
  · unfold sCounts at h
    split at h
    · rename_i at' L
      simp only [T.sel, Option.some.injEq] at h; subst h
      refine (tCounts L at').trans ?_
      cases hg : greatB 0 L with
      | true => rfl
      | false =>
        have hs := great_short L 0 hg
        rw [cond_false, short_long hs, cond_true]
        by_cases hz : zE0 L at' = 0
        · rw [decide_eq_true hz, hs]
          exact cnR_true hz
        · rw [decide_eq_false hz]; rfl
    · simp [T.sel] at h
end Go.Proofs.YthfieonkfailkaaGreatDoor
