/-
  PlanSteps: what the law answers.
-/
import Derived.Test.YtfniiapkghpihaaGreatDoorPlnC
namespace Go.Proofs.YtfniiapkghpihaaGreatDoor.Ps
open Go.Am Go Go.Proofs.YtfniiapkghpihaaGreatDoor
set_option maxRecDepth 100000
variable {B : Nat → Option Obj}
noncomputable def lib1 : Tb := (19, [], Pl.sChkP) :: Sm.lib2
theorem lib1_ok (hB : Laid B) : TbOk B lib1 := (Sm.lib2_ok hB).add Pl.okChkP
/-! how many lines -/
def nl : List UInt8 → Nat
  | [] => 0
  | c :: r => bif decide ((c.toNat : Int) = 10) then nl r + 1 else nl r
noncomputable def b1 : Code := loopAt 10 (loopsOf (bodyC Tryz.f4))
def sg1 : LSig := { cs := [(10, 0)], mv := [(12, 0), (13, 0)], mo := [(12, 0)], take := [] }
def n1 (s : List UInt8) (n i : Int) : Option (AExit × Out) := some (.normal, ⟨[.str s, i64 n, i64 (w64 (i + 1))], []⟩)
theorem turn1 (s : List UInt8) (n i : Int) : (turn (E0 B) (Cx B lib1) noL 195 sg1 b1 [.str s, i64 n, i64 i] []).sel =
    bif decide (i < (s.length : Int)) then (bif decide (0 ≤ i ∧ i < (s.length : Int)) then (bif decide (((s.getD i.toNat 0).toNat : Int) = 10) then n1 s (w64 (n + 1)) i else n1 s n i) else none) else some (.exit 0, ⟨[i64 n], []⟩) := by kernel_rfl
theorem run1 (s : List UInt8) (hs : s.length ≤ 100000) : ∀ (r : List UInt8) (i n : Nat), s.drop i = r → i ≤ s.length → n ≤ i → ∃ m, (turns (E0 B) (Cx B lib1) noL 195 sg1 b1 m [.str s, i64 n, i64 i] []).sel = some (.exit 0, ⟨[i64 ((n + nl r : Nat) : Int)], []⟩)
  | [], i, n, hd, hi, hn => by
    have hl : i = s.length := by have := List.drop_eq_nil_iff.1 hd; omega
    refine ⟨1, turns_done ((turn1 s n i).trans ?_) (by simp)⟩
    rw [decide_eq_false (by omega)]; rfl
  | c :: r, i, n, hd, hi, hn => by
    have hlt : i < s.length := by
      rcases Nat.lt_or_ge i s.length with h | h
      · exact h
      · rw [List.drop_eq_nil_iff.2 h] at hd; cases hd
    have hg : s.getD i 0 = c := by
      have := List.drop_eq_getElem_cons hlt
      rw [hd] at this
      injection this with h1 _
      simp [List.getD, hlt, h1]
    have hd' : s.drop (i + 1) = r := by rw [← List.drop_drop, hd]; rfl
    have ht := turn1 (B := B) s n i
    have hr1 : w64 ((i : Int) + 1) = ((i + 1 : Nat) : Int) := by rw [w64_rng (show Rng ((i : Int) + 1) by unfold Rng; omega)]; rfl
    have hr2 : w64 ((n : Int) + 1) = ((n + 1 : Nat) : Int) := by rw [w64_rng (show Rng ((n : Int) + 1) by unfold Rng; omega)]; rfl
    unfold n1 at ht
    rw [decide_eq_true (show (i : Int) < (s.length : Int) by omega), decide_eq_true (show 0 ≤ (i : Int) ∧ (i : Int) < (s.length : Int) from ⟨by omega, by omega⟩), Int.toNat_natCast, hg, hr1, hr2] at ht
    unfold nl
    cases hc : decide ((c.toNat : Int) = 10) with
    | true =>
      rw [hc] at ht
      obtain ⟨m, hm⟩ := run1 s hs r (i + 1) (n + 1) hd' (by omega) (by omega)
      refine ⟨m + 1, (turns_more ht hm).trans ?_⟩
      rw [cond_true, show n + 1 + nl r = n + (nl r + 1) by omega]
    | false =>
      rw [hc] at ht
      obtain ⟨m, hm⟩ := run1 s hs r (i + 1) n hd' (by omega) (by omega)
      exact ⟨m + 1, turns_more ht hm⟩
def sp1 : LSpec
  | [.str s, .int .i64 n, .int .i64 i], [] => .node (decide (n = 0 ∧ i = 0 ∧ s.length ≤ 100000)) (.leaf (.exit 0, ⟨[i64 (nl s : Nat)], []⟩)) .bad
  | _, _ => .bad
theorem loop1 (hB : Laid B) : LoopOk (E0 B) 195 sg1 b1 sp1 := by
  refine loop_turns (C := Cx B lib1) (L := noL) (cxOk (lib1_ok hB)) (noL_ok _) fun vs bs e o h => ?_
  unfold sp1 at h
  split at h
  · rename_i s n i
    rcases T.node_sel h with ⟨hc, h2⟩ | ⟨_, h2⟩
    · obtain ⟨rfl, rfl, hs⟩ := of_decide_eq_true hc
      simp only [T.sel, Option.some.injEq] at h2
      rw [← h2]
      obtain ⟨m, hm⟩ := run1 (B := B) s hs s 0 0 rfl (Nat.zero_le _) (Nat.le_refl _)
      rw [Nat.zero_add] at hm
      exact ⟨m, hm⟩
    · simp [T.sel] at h2
  · simp [T.sel] at h
noncomputable def e1 : LEnt := { id := 10, n := 195, sg := sg1, wr := writes b1, s := sp1 }
/-! steps that increase -/
noncomputable def b2 : Code := loopAt 15 (loopsOf (bodyC Tryz.f4))
def sg2 : LSig := { cs := [(8, 0)], mv := [(14, 0)], mo := [(6, 0)], take := [] }
def p2 (q : Qry) (st : List Int) : List Blk := [⟨true, .gen Pl.pTy [Pl.pCs q 1 2 3 4]⟩, ⟨false, .bytes 5 st⟩, ⟨false, .nodes q.arg⟩, ⟨false, .ints .i64 q.src⟩, ⟨false, .nodes q.whr⟩]
def r2' (q : Qry) (st : List Int) : Option (AExit × Out) := some (.ret, ⟨[.bool false], p2 q st⟩)
def nx2 (q : Qry) (st : List Int) (i : Int) : Option (AExit × Out) := some (.normal, ⟨[.ptr 0 0 0, i64 (w64 (i + 1))], p2 q st⟩)
def sX (st : List Int) (i : Int) : Int := st.getD i.toNat 0
theorem turn2 (q : Qry) (st : List Int) (i : Int) : (turn (E0 B) (Cx B lib1) noL 195 sg2 b2 [.ptr 0 0 0, i64 i] (p2 q st)).sel =
    bif decide (i < (st.length : Int)) then Ck.inb i st.length (bif decide (sX st i < 1) then r2' q st else Ck.inb i st.length (bif decide (10 < sX st i) then r2' q st else bif decide (0 < i) then Ck.inb (w64 (i - 1)) st.length (Ck.inb i st.length (bif decide (sX st i ≤ sX st (w64 (i - 1))) then r2' q st else nx2 q st i)) else nx2 q st i)) else some (.exit 2, ⟨[.any], p2 q st⟩) := by kernel_rfl
def stOk (st : List Int) (j : Nat) : Bool := decide (1 ≤ st.getD j 0 ∧ st.getD j 0 ≤ 10) && (decide (j = 0) || decide (st.getD (j - 1) 0 < st.getD j 0))
def incOk (st : List Int) : Bool := (List.range st.length).all (stOk st)
theorem run2 (q : Qry) (st : List Int) (hl : st.length ≤ 1000) (h : ∀ j, j < st.length → stOk st j = true) : ∀ (k i : Nat), i + k = st.length → ∃ m, (turns (E0 B) (Cx B lib1) noL 195 sg2 b2 m [.ptr 0 0 0, i64 i] (p2 q st)).sel = some (.exit 2, ⟨[.any], p2 q st⟩)
  | 0, i, hi => by
    refine ⟨1, turns_done ((turn2 q st i).trans ?_) (by simp)⟩
    rw [decide_eq_false (by omega)]; rfl
  | k + 1, i, hi => by
    have hj := h i (by omega)
    unfold stOk at hj
    rw [Bool.and_eq_true, Bool.or_eq_true] at hj
    obtain ⟨j1, j2⟩ := hj
    obtain ⟨j3, j4⟩ := of_decide_eq_true j1
    have hr1 : w64 ((i : Int) + 1) = ((i + 1 : Nat) : Int) := by rw [w64_rng (show Rng ((i : Int) + 1) by unfold Rng; omega)]; rfl
    have ht := turn2 (B := B) q st i
    have hx : sX st i = st.getD i 0 := rfl
    unfold nx2 at ht
    rw [decide_eq_true (show (i : Int) < (st.length : Int) by omega), cond_true, Ck.inb_is (by omega), hx, decide_eq_false (show ¬ st.getD i 0 < 1 by omega), cond_false, Ck.inb_is (by omega), decide_eq_false (show ¬ 10 < st.getD i 0 by omega), cond_false, hr1] at ht
    obtain ⟨m, hm⟩ := run2 q st hl h k (i + 1) (by omega)
    suffices htt : (turn (E0 B) (Cx B lib1) noL 195 sg2 b2 [.ptr 0 0 0, i64 i] (p2 q st)).sel = some (.normal, ⟨[.ptr 0 0 0, i64 (i + 1 : Nat)], p2 q st⟩) by
      exact ⟨m + 1, turns_more htt hm⟩
    refine ht.trans ?_
    by_cases h0 : 0 < (i : Int)
    · have hr2 : w64 ((i : Int) - 1) = ((i - 1 : Nat) : Int) := by rw [w64_rng (show Rng ((i : Int) - 1) by unfold Rng; omega)]; omega
      have j5 := j2.resolve_left (fun g => by have := of_decide_eq_true g; omega)
      have j5 := of_decide_eq_true j5
      have hx2 : sX st ((i - 1 : Nat) : Int) = st.getD (i - 1) 0 := rfl
      rw [decide_eq_true h0, cond_true, hr2, Ck.inb_is (by omega), Ck.inb_is (by omega), hx2, decide_eq_false (show ¬ st.getD i 0 ≤ st.getD (i - 1) 0 by omega)]; rfl
    · rw [decide_eq_false h0]; rfl
def sp2 : LSpec
  | [.ptr 0 0 0, .int .i64 i], [⟨true, .gen ty [[.slw 1, .int .u8 ag, .slw 2, .slw 3, .bool j, .slw 4, .int .u8 wk, .int .i64 ws, .int .i64 we, .bool bk, .int .u8 lt]]⟩, ⟨false, .bytes t st⟩, ⟨false, .nodes A⟩, ⟨false, .ints .i64 S⟩, ⟨false, .nodes W⟩] =>
    .node (decide (ty = Pl.pTy) && (Nat.beq t 5 && (decide (i = 0 ∧ st.length ≤ 1000) && incOk st))) (.leaf (.exit 2, ⟨[.any], p2 ⟨ag, A, S, j, W, wk, ws, we, bk, lt⟩ st⟩)) .bad
  | _, _ => .bad
theorem loop2 (hB : Laid B) : LoopOk (E0 B) 195 sg2 b2 sp2 := by
  refine loop_turns (C := Cx B lib1) (L := noL) (cxOk (lib1_ok hB)) (noL_ok _) fun vs bs e o h => ?_
  unfold sp2 at h
  split at h
  · rename_i i ty ag j wk ws we bk lt t st A S W
    rcases T.node_sel h with ⟨hc, h2⟩ | ⟨_, h2⟩
    · simp only [Bool.and_eq_true] at hc
      obtain ⟨c1, c2, c3, c4⟩ := hc
      have c1 := of_decide_eq_true c1
      have c2 := Nat.eq_of_beq_eq_true c2
      obtain ⟨rfl, hl⟩ := of_decide_eq_true c3
      subst c1; subst c2
      simp only [T.sel, Option.some.injEq] at h2
      rw [← h2]
      exact run2 (B := B) ⟨ag, A, S, j, W, wk, ws, we, bk, lt⟩ st hl (fun k hk => List.all_eq_true.1 c4 k (List.mem_range.2 hk)) st.length 0 (by omega)
    · simp [T.sel] at h2
  · simp [T.sel] at h
noncomputable def e2 : LEnt := { id := 15, n := 195, sg := sg2, wr := writes b2, s := sp2 }
/-! the run -/
def rS (b : Bool) (z : Option Out) : Option Out := bif b then z else none
def drL (X : List Int) (i : Int) : List Int := (X.drop i.toNat).take (X.length - i.toNat)
def lsL (X : List Int) (a : Int) : List Int := X.take a.toNat ++ drL X (w64 (a + 1))
def mrL (X : List Int) (a b : Int) : List Int := (X.take a.toNat ++ [b]) ++ drL X a
def otL (X : List Int) (a b : Int) : List Int := X.set a.toNat b
def laS (q : Qry) (X : List Int) (a b : Int) : Option Out := rS (decide ((lsL X a).length ≤ 1000)) (fbQ (decide (Pl.plE (lsL X a) q = 8)) (rS (decide ((mrL X a b).length ≤ 1000)) (fbQ (decide (Pl.plE (mrL X a b) q = 8)) (rS (decide ((otL X a b).length ≤ 1000)) (Ck.inb a X.length (rb (decide (Pl.plE (otL X a b) q = 0) == decide (b = X.getD a.toNat 0))))))))
def slS (q : Qry) (X : List Int) (a b : Int) : Option Out := rS (decide ((0 : Int) ≤ 0 ∧ 0 ≤ a ∧ a ≤ (X.length : Int))) (rS (decide (([] : List Int).length + (X.take a.toNat).length ≤ lim)) (rS (decide (0 ≤ w64 (a + 1) ∧ w64 (a + 1) ≤ (X.length : Int))) (rS (decide ((X.take a.toNat).length + (drL X (w64 (a + 1))).length ≤ lim))
  (rS (decide ((0 : Int) ≤ 0 ∧ 0 ≤ a ∧ a ≤ (X.length : Int))) (rS (decide (([] : List Int).length + (X.take a.toNat).length ≤ lim)) (rS (decide ((X.take a.toNat).length + [b].length ≤ lim)) (rS (decide (0 ≤ a ∧ a ≤ (X.length : Int))) (rS (decide ((X.take a.toNat ++ [b]).length + (drL X a).length ≤ lim)) (rS (decide (([] : List Int).length + X.length ≤ lim)) (Ck.inb a X.length (laS q X a b)))))))))))
def miS (q : Qry) (X : List Int) (a b : Int) : Option Out := bif decide ((X.length : Int) < 6) then rb false else bif decide (9 < (X.length : Int)) then rb false else rS (decide (X.length ≤ 1000)) (bif !decide (Pl.plE X q = 0) then rb false else
  rS (decide ((0 : Int) = 0 ∧ (0 : Int) = 0 ∧ (Pl.plB q X).length ≤ 100000)) (rS (decide ((0 : Int) = 0 ∧ X.length ≤ 1000) && incOk X) (bif !decide ((nl (Pl.plB q X) : Int) = (X.length : Int)) then rb false else bif decide (a < 0) then rb true else bif decide ((X.length : Int) ≤ a) then rb true else slS q X a b)))
def spO (q : Qry) (a b : Int) : Option Out := Pl.grP q (rS (Pl.okQ q) (rS (Sm.txG (stpQ q) q) (miS q (stpQ q) a b)))
theorem tSt (q : Qry) (a b : Int) : runL B lib1 [e1, e2] Tryz.f4 [q.av 0 1 2, i64 a, .int .u8 b] (Ck.qbs q) = spO q a b := by kernel_rfl
/-! that it is true -/
theorem nl_cons (c : UInt8) (r : List UInt8) : nl (c :: r) = bif decide ((c.toNat : Int) = 10) then nl r + 1 else nl r := rfl
theorem nl_app : ∀ a b : List UInt8, nl (a ++ b) = nl a + nl b
  | [], b => by simp [nl]
  | c :: a, b => by
    rw [List.cons_append, nl_cons, nl_cons, nl_app a b]
    cases decide ((c.toNat : Int) = 10) <;> simp only [cond_true, cond_false] <;> omega
theorem nl_no : ∀ l : List UInt8, noC 10 l = true → nl l = 0
  | [], _ => rfl
  | c :: l, h => by
    rw [noC_cons, Bool.and_eq_true, Bool.not_eq_true', decide_eq_false_iff_not] at h
    have hc : ¬ ((c.toNat : Int) = 10) := fun e => h.1 (by
      have : c.toNat = 10 := by omega
      exact UInt8.toNat_inj.1 this)
    unfold nl
    rw [decide_eq_false hc, cond_false, nl_no l h.2]
theorem nl_unl : ∀ L : List (List UInt8), L.all (noC 10) = true → nl (unl L) = L.length
  | [], _ => rfl
  | l :: r, h => by
    rw [List.all_cons, Bool.and_eq_true] at h
    have e : unl (l :: r) = l ++ ([10] ++ unl r) := rfl
    rw [e, nl_app, nl_app, nl_no l h.1, nl_unl r h.2]
    have : nl [10] = 1 := rfl
    rw [this, List.length_cons]; omega
theorem pl_len (q : Qry) (ta tw : List UInt8) : (plL q ta tw).length = (stpQ q).length := by
  unfold plL stpQ stp
  cases decide (0 < q.whr.length) <;> cases q.byKey <;> cases decide (q.late = 2) <;> simp
theorem st_len (q : Qry) : 6 ≤ (stpQ q).length ∧ (stpQ q).length ≤ 9 := by
  unfold stpQ stp
  cases decide (0 < q.whr.length) <;> cases q.byKey <;> cases decide (q.late = 2) <;> simp
theorem inc_st (q : Qry) : incOk (stpQ q) = true := by
  unfold stpQ
  cases decide (0 < q.whr.length) <;> cases q.byKey <;> cases q.join <;> cases decide (q.late = 2) <;> decide
theorem plB_len {q : Qry} : ∀ r : List Int, r.all (Pl.lnG q) = true → (Pl.plB q r).length ≤ 2101 * r.length
  | [], _ => Nat.le_refl _
  | s :: r, h => by
    rw [List.all_cons, Bool.and_eq_true] at h
    have h1 := Pl.lnS_len h.1
    have h2 := plB_len r h.2
    simp only [Pl.plB, List.length_append, List.length_cons]
    omega
theorem inb_at {a : Int} {n : Nat} (h0 : 0 ≤ a) (h1 : a < (n : Int)) (z : Option Out) : Ck.inb a n z = z := by
  unfold Ck.inb
  rw [decide_eq_true (show 0 ≤ a ∧ a < (n : Int) from ⟨h0, h1⟩), decide_eq_true (show a.toNat < n by omega)]; rfl
theorem pe_8 {q : Qry} (hq : Pl.okQ q = true) {st : List Int} (h : st ≠ stpQ q) : Pl.plE st q = 8 := by
  unfold Pl.plE
  rw [show decide ((ckE q).2 = 0) = true from hq, decide_eq_false h]; rfl
theorem sl_true {q : Qry} (hq : Pl.okQ q = true) {a b : Int} (h0 : 0 ≤ a) (h1 : a < ((stpQ q).length : Int)) : slS q (stpQ q) a b = rb true := by
  obtain ⟨l1, l2⟩ := st_len q
  have hw : w64 (a + 1) = a + 1 := w64_rng (by unfold Rng; omega)
  have t1 : ((stpQ q).take a.toNat).length = a.toNat := by rw [List.length_take]; omega
  have t2 : ∀ i : Int, 0 ≤ i → i ≤ ((stpQ q).length : Int) → (drL (stpQ q) i).length = (stpQ q).length - i.toNat := fun i g0 g1 => by
    unfold drL
    rw [List.length_take, List.length_drop]; omega
  have t3 := t2 (a + 1) (by omega) (by omega)
  have t4 := t2 a h0 (by omega)
  have n1 : (lsL (stpQ q) a).length = (stpQ q).length - 1 := by
    unfold lsL
    rw [List.length_append, t1, hw, t3]; omega
  have n2 : (mrL (stpQ q) a b).length = (stpQ q).length + 1 := by
    unfold mrL
    rw [List.length_append, List.length_append, t1, t4]; simp only [List.length_cons, List.length_nil]; omega
  have n3 : (otL (stpQ q) a b).length = (stpQ q).length := List.length_set ..
  have c1 : Pl.plE (lsL (stpQ q) a) q = 8 := pe_8 hq fun e => by rw [e] at n1; omega
  have c2 : Pl.plE (mrL (stpQ q) a b) q = 8 := pe_8 hq fun e => by rw [e] at n2; omega
  have hlt : a.toNat < (stpQ q).length := by omega
  have c3 : decide (Pl.plE (otL (stpQ q) a b) q = 0) = decide (b = (stpQ q).getD a.toNat 0) := by
    have hg : (stpQ q).getD a.toNat 0 = (stpQ q)[a.toNat] := by simp [List.getD, hlt]
    by_cases hb : b = (stpQ q).getD a.toNat 0
    · have he : otL (stpQ q) a b = stpQ q := by
        unfold otL
        rw [hb, hg]
        exact List.set_getElem_self hlt
      rw [decide_eq_true hb, he]
      unfold Pl.plE
      rw [show decide ((ckE q).2 = 0) = true from hq, decide_eq_true rfl]; rfl
    · have he : otL (stpQ q) a b ≠ stpQ q := fun e => by
        have h2 : (otL (stpQ q) a b)[a.toNat]? = some b := by
          unfold otL
          rw [List.getElem?_set_self hlt]
        rw [e, List.getElem?_eq_getElem hlt] at h2
        exact hb (by rw [hg]; exact (Option.some.inj h2).symm)
      rw [decide_eq_false hb, pe_8 hq he]; rfl
  unfold slS laS rS fbQ
  rw [inb_at h0 h1, inb_at h0 h1, hw, decide_eq_true (show (0 : Int) ≤ 0 ∧ 0 ≤ a ∧ a ≤ ((stpQ q).length : Int) from ⟨by omega, h0, by omega⟩), decide_eq_true (show ([] : List Int).length + ((stpQ q).take a.toNat).length ≤ lim by simp only [List.length_nil, t1, lim]; omega),
    decide_eq_true (show 0 ≤ a + 1 ∧ a + 1 ≤ ((stpQ q).length : Int) from ⟨by omega, by omega⟩), decide_eq_true (show ((stpQ q).take a.toNat).length + (drL (stpQ q) (a + 1)).length ≤ lim by simp only [t1, t3, lim]; omega), decide_eq_true (show ((stpQ q).take a.toNat).length + [b].length ≤ lim by simp only [t1, List.length_cons, List.length_nil, lim]; omega),
    decide_eq_true (show 0 ≤ a ∧ a ≤ ((stpQ q).length : Int) from ⟨h0, by omega⟩), decide_eq_true (show ((stpQ q).take a.toNat ++ [b]).length + (drL (stpQ q) a).length ≤ lim by simp only [List.length_append, t1, t4, List.length_cons, List.length_nil, lim]; omega), decide_eq_true (show ([] : List Int).length + (stpQ q).length ≤ lim by simp only [List.length_nil, lim]; omega),
    decide_eq_true (show (lsL (stpQ q) a).length ≤ 1000 by omega), decide_eq_true (show (mrL (stpQ q) a b).length ≤ 1000 by omega), decide_eq_true (show (otL (stpQ q) a b).length ≤ 1000 by omega), c1, c2, c3, beq_self_eq_true]
  rfl
theorem sp_true {q : Qry} (a b : Int) (hA : rngX q.arg = true) (hW : rngX q.whr = true) : spO q a b = rb true := by
  unfold spO Pl.grP
  cases decide ((70 : Int) < (q.arg.length : Int)) with
  | true => rfl
  | false =>
  cases decide ((70 : Int) < (q.whr.length : Int)) with
  | true => rfl
  | false =>
  cases decide ((10 : Int) < (q.src.length : Int)) with
  | true => rfl
  | false =>
  cases hq : Pl.okQ q with
  | false =>
    have : decide ((ckE q).2 = 0) = false := hq
    rw [this]; rfl
  | true =>
    have hq' : decide ((ckE q).2 = 0) = true := hq
    have hc := Pl.ckE_clk (of_decide_eq_true hq')
    obtain ⟨ea, ew, h1, h2, h3⟩ := Sm.qx_of hc hA hW
    obtain ⟨g1, g2, g3⟩ := Pl.stp_all hc hA hW
    obtain ⟨l1, l2⟩ := st_len q
    have hB := plB_len (stpQ q) g1
    have hn : nl (Pl.plB q (stpQ q)) = (stpQ q).length := by
      rw [Sm.plB_is h1.sR, nl_unl _ (plL_no h1 h2 h3), pl_len]
    have hE : Pl.plE (stpQ q) q = 0 := by
      unfold Pl.plE
      rw [hq', decide_eq_true rfl]; rfl
    have hT : Sm.txG (stpQ q) q = true := by
      unfold Sm.txG
      rw [hq, hA, hW, decide_eq_true rfl]; rfl
    have hb : 2101 * (stpQ q).length ≤ 2101 * 9 := Nat.mul_le_mul (Nat.le_refl _) l2
    rw [hq', hT]
    unfold miS rS
    rw [decide_eq_false (show ¬ ((stpQ q).length : Int) < 6 by omega), decide_eq_false (show ¬ 9 < ((stpQ q).length : Int) by omega), decide_eq_true (show (stpQ q).length ≤ 1000 by omega), hE, decide_eq_true (show (0 : Int) = 0 ∧ (0 : Int) = 0 ∧ (Pl.plB q (stpQ q)).length ≤ 100000 from ⟨rfl, rfl, by omega⟩),
      decide_eq_true (show (0 : Int) = 0 ∧ (stpQ q).length ≤ 1000 from ⟨rfl, by omega⟩), inc_st, hn, decide_eq_true (rfl : ((stpQ q).length : Int) = _)]
    by_cases ha : a < 0
    · rw [decide_eq_true ha]; rfl
    by_cases ha2 : ((stpQ q).length : Int) ≤ a
    · rw [decide_eq_false ha, decide_eq_true ha2]; rfl
    rw [decide_eq_false ha, decide_eq_false ha2, sl_true hq (by omega) (by omega)]; rfl
def sSteps (_ : Nat → Option Obj) : FSpec
  | [.agg [.int .u8 _, .slw 0, .slw 1, .bool _, .slw 2, .int .u8 _, .int .i64 _, .int .i64 _, .bool _, .int .u8 _], .int .i64 _, .int .u8 _], [⟨false, .nodes A⟩, ⟨false, .ints .i64 _⟩, ⟨false, .nodes W⟩] => .node (rngX A && rngX W) (.leaf ⟨[.bool true], []⟩) .bad
  | _, _ => .bad
theorem sSteps_sel {q : Qry} {a b : Int} (hq : qryWf q) : (sSteps B [q.av 0 1 2, .int .i64 a, .int .u8 b] [⟨false, .nodes q.arg⟩, ⟨false, .ints .i64 q.src⟩, ⟨false, .nodes q.whr⟩]).sel = some ⟨[.bool true], []⟩ := by
  show (bif rngX q.arg && rngX q.whr then _ else _) = _
  rw [rng_of hq.1, rng_of hq.2.1]; rfl
theorem okSt (hB : Laid B) : FnOk (E0 B) 4 (sSteps B) := by
  refine fnL (lib1_ok hB) (ls := [e1, e2]) Tryz.func4 (by kernel_rfl) (by kernel_rfl) (fun x hx => ?_) fun vs bs r h => ?_
  · simp only [List.mem_cons, List.not_mem_nil, or_false] at hx
    rcases hx with rfl | rfl
    · exact ⟨b1, by kernel_rfl, rfl, loop1 hB⟩
    · exact ⟨b2, by kernel_rfl, rfl, loop2 hB⟩
  unfold sSteps at h
  split at h
  · rename_i ag j wk ws we bk lt a b A S W
    rcases T.node_sel h with ⟨hc, h2⟩ | ⟨_, h2⟩
    · simp only [T.sel, Option.some.injEq] at h2; subst h2
      rw [Bool.and_eq_true] at hc
      exact (tSt ⟨ag, A, S, j, W, wk, ws, we, bk, lt⟩ a b).trans (sp_true a b hc.1 hc.2)
    · simp [T.sel] at h2
  · simp [T.sel] at h
end Go.Proofs.YtfniiapkghpihaaGreatDoor.Ps
