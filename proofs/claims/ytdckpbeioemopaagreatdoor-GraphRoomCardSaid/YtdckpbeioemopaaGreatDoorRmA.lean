/-
  Texts put together: GrSame, GrRm, GrRm2, GrRm3.
-/
import Derived.Test.YtdckpbeioemopaaGreatDoorGrChk
import Derived.Test.YtdckpbeioemopaaGreatDoorGpA
import Derived.Test.YtdckpbeioemopaaGreatDoorGrA
import Derived.Test.YtdckpbeioemopaaGreatDoorGrB
import Derived.Test.YtdckpbeioemopaaGreatDoorGpLaw2
namespace Go.Proofs.YtdckpbeioemopaaGreatDoor.Sg
open Go.Am Go Go.Proofs.YtdckpbeioemopaaGreatDoor Go.Proofs.YtdckpbeioemopaaGreatDoor.Jo
set_option maxRecDepth 100000
variable {B : Nat → Option Obj}
noncomputable def sC : Code := bodyC Tryz.f23
noncomputable def bS1 : Code := loopAt 4 (loopsOf sC)
noncomputable def bS2 : Code := loopAt 9 (loopsOf sC)
def sg1 : LSig := { cs := [(2, 0), (3, 0)], mv := [(5, 0)], mo := [(4, 0)], take := [] }
def sg2 : LSig := { cs := [(2, 0), (3, 0)], mv := [(6, 0)], mo := [(4, 0)], take := [] }
def vS (i : Int) : List AV := [.ptr 0 0 0, .ptr 1 0 0, i64 i]
def bsS (O : List Opr) (C : List Chn) (O' : List Opr) (C' : List Chn) : List Blk := [Jo.gBx 2 3, Jo.gBx 4 5, Jo.ob O, Jo.cb C, Jo.ob O', Jo.cb C']
def eqO (a b : Opr) : Bool := decide (a.kind = b.kind) && (decide (a.n = b.n) && true)
def eqC (a b : Chn) : Bool := decide (a.src = b.src) && (decide (a.out = b.out) && (decide (a.dst = b.dst) && (decide (a.inp = b.inp) && (decide (a.room = b.room) && true))))
def bS (O : List Opr) (O' : List Opr) (i : Nat) : Bool := !eqO (O.getD i default) (O'.getD i default)
def bT (C : List Chn) (C' : List Chn) (i : Nat) : Bool := !eqC (C.getD i default) (C'.getD i default)
theorem turn1 (O : List Opr) (C : List Chn) (O' : List Opr) (C' : List Chn) (i : Int) : (turn (E0 B) (Cx B []) noL 59 sg1 bS1 (vS i) (bsS O C O' C')).sel =
    bif decide (i < (O.length : Int)) then Jo.inb i O.length (Jo.inb i O'.length (bif !eqO (O.getD i.toNat default) (O'.getD i.toNat default) then some (.ret, ⟨[.bool false], bsS O C O' C'⟩) else some (.normal, ⟨vS (w64 (i + 1)), bsS O C O' C'⟩))) else some (.exit 0, ⟨[.any], bsS O C O' C'⟩) := by kernel_rfl
theorem turn2 (O : List Opr) (C : List Chn) (O' : List Opr) (C' : List Chn) (i : Int) : (turn (E0 B) (Cx B []) noL 59 sg2 bS2 (vS i) (bsS O C O' C')).sel =
    bif decide (i < (C.length : Int)) then Jo.inb i C.length (Jo.inb i C'.length (bif !eqC (C.getD i.toNat default) (C'.getD i.toNat default) then some (.ret, ⟨[.bool false], bsS O C O' C'⟩) else some (.normal, ⟨vS (w64 (i + 1)), bsS O C O' C'⟩))) else some (.exit 2, ⟨[.any], bsS O C O' C'⟩) := by kernel_rfl
def two (a b c d : TypeId) : Bool := decide (a = 33 ∧ b = 34 ∧ c = 33 ∧ d = 34)
def sp1 : LSpec
  | [.ptr 0 0 0, .ptr 1 0 0, .int .i64 i], [⟨true, .gen [a, b] [[.slw 2, .slw 3]]⟩, ⟨true, .gen [c, d] [[.slw 4, .slw 5]]⟩, ⟨false, .oprs O⟩, ⟨false, .chns C⟩, ⟨false, .oprs O'⟩, ⟨false, .chns C'⟩] =>
    .node (two a b c d && decide (i = 0 ∧ O.length = O'.length ∧ O.length ≤ 1000)) (.node ((List.range' 0 O.length).any (bS O O')) (.leaf (.ret, ⟨[.bool false], bsS O C O' C'⟩)) (.leaf (.exit 0, ⟨[.any], bsS O C O' C'⟩))) .bad
  | _, _ => .bad
def sp2 : LSpec
  | [.ptr 0 0 0, .ptr 1 0 0, .int .i64 i], [⟨true, .gen [a, b] [[.slw 2, .slw 3]]⟩, ⟨true, .gen [c, d] [[.slw 4, .slw 5]]⟩, ⟨false, .oprs O⟩, ⟨false, .chns C⟩, ⟨false, .oprs O'⟩, ⟨false, .chns C'⟩] =>
    .node (two a b c d && decide (i = 0 ∧ C.length = C'.length ∧ C.length ≤ 1000)) (.node ((List.range' 0 C.length).any (bT C C')) (.leaf (.ret, ⟨[.bool false], bsS O C O' C'⟩)) (.leaf (.exit 2, ⟨[.any], bsS O C O' C'⟩))) .bad
  | _, _ => .bad
theorem loop1 : LoopOk (E0 B) 59 sg1 bS1 sp1 := by
  refine loop_turns (C := Cx B []) (L := noL) (cxOk TbOk.nil) (noL_ok _) fun vs bs e o h => ?_
  unfold sp1 at h
  split at h
  · rename_i i a b c d O C O' C'
    rcases T.node_sel h with ⟨hc, h2⟩ | ⟨_, h2⟩
    · rw [Bool.and_eq_true] at hc
      obtain ⟨rfl, rfl, rfl, rfl⟩ := of_decide_eq_true hc.1
      obtain ⟨rfl, hl, hs⟩ := of_decide_eq_true hc.2
      obtain ⟨m, hm⟩ := scan_turns (E := E0 B) (C := Cx B []) (L := noL) (n := 59) (sg := sg1) (body := bS1) (st := fun k => vS k) (bs := bsS O C O' C') (len := O.length) (bad := bS O O') (ob := fun _ => ⟨[.bool false], bsS O C O' C'⟩) (k := 0) (oe := ⟨[.any], bsS O C O' C'⟩)
        (fun k hk => by
          refine (turn1 O C O' C' k).trans ?_
          by_cases hlt : k < O.length
          · rw [decide_eq_true (show (k : Int) < ((O.length : Nat) : Int) by omega), decide_eq_true hlt, cond_true, cond_true, En.inb_is hlt, En.inb_is (hl ▸ hlt), Int.toNat_natCast, w64_rng (show Rng ((k : Int) + 1) by unfold Rng; omega)]
            rfl
          · rw [decide_eq_false (show ¬ (k : Int) < ((O.length : Nat) : Int) by omega), decide_eq_false hlt]; rfl) O.length 0 (by omega)
      refine ⟨m, hm.trans ?_⟩
      have hf := firstB_any (bS O O') O.length 0
      rw [Nat.zero_add] at hf
      rw [hf, ← h2]
      rfl
    · simp [T.sel] at h2
  · simp [T.sel] at h
theorem loop2 : LoopOk (E0 B) 59 sg2 bS2 sp2 := by
  refine loop_turns (C := Cx B []) (L := noL) (cxOk TbOk.nil) (noL_ok _) fun vs bs e o h => ?_
  unfold sp2 at h
  split at h
  · rename_i i a b c d O C O' C'
    rcases T.node_sel h with ⟨hc, h2⟩ | ⟨_, h2⟩
    · rw [Bool.and_eq_true] at hc
      obtain ⟨rfl, rfl, rfl, rfl⟩ := of_decide_eq_true hc.1
      obtain ⟨rfl, hl, hs⟩ := of_decide_eq_true hc.2
      obtain ⟨m, hm⟩ := scan_turns (E := E0 B) (C := Cx B []) (L := noL) (n := 59) (sg := sg2) (body := bS2) (st := fun k => vS k) (bs := bsS O C O' C') (len := C.length) (bad := bT C C') (ob := fun _ => ⟨[.bool false], bsS O C O' C'⟩) (k := 2) (oe := ⟨[.any], bsS O C O' C'⟩)
        (fun k hk => by
          refine (turn2 O C O' C' k).trans ?_
          by_cases hlt : k < C.length
          · rw [decide_eq_true (show (k : Int) < ((C.length : Nat) : Int) by omega), decide_eq_true hlt, cond_true, cond_true, En.inb_is hlt, En.inb_is (hl ▸ hlt), Int.toNat_natCast, w64_rng (show Rng ((k : Int) + 1) by unfold Rng; omega)]
            rfl
          · rw [decide_eq_false (show ¬ (k : Int) < ((C.length : Nat) : Int) by omega), decide_eq_false hlt]; rfl) C.length 0 (by omega)
      refine ⟨m, hm.trans ?_⟩
      have hf := firstB_any (bT C C') C.length 0
      rw [Nat.zero_add] at hf
      rw [hf, ← h2]
      rfl
    · simp [T.sel] at h2
  · simp [T.sel] at h
noncomputable def e1 : LEnt := { id := 4, n := 59, sg := sg1, wr := writes bS1, s := sp1 }
noncomputable def e2 : LEnt := { id := 9, n := 59, sg := sg2, wr := writes bS2, s := sp2 }
theorem tSame (O : List Opr) (C : List Chn) (O' : List Opr) (C' : List Chn) : runL B [] [e1, e2] Tryz.f23 [.agg [.slw 0, .slw 1], .agg [.slw 2, .slw 3]] [Jo.ob O, Jo.cb C, Jo.ob O', Jo.cb C'] =
    bif !decide ((O.length : Int) = (O'.length : Int)) then some ⟨[.bool false], []⟩ else bif !decide ((C.length : Int) = (C'.length : Int)) then some ⟨[.bool false], []⟩ else
      Gk.gd (two 33 34 33 34 && decide ((0 : Int) = 0 ∧ O.length = O'.length ∧ O.length ≤ 1000)) (bif (List.range' 0 O.length).any (bS O O') then some ⟨[.bool false], []⟩ else
        Gk.gd (two 33 34 33 34 && decide ((0 : Int) = 0 ∧ C.length = C'.length ∧ C.length ≤ 1000)) (bif (List.range' 0 C.length).any (bT C C') then some ⟨[.bool false], []⟩ else some ⟨[.bool true], []⟩)) := by kernel_rfl
def smB (O : List Opr) (C : List Chn) (O' : List Opr) (C' : List Chn) : Bool := decide (O.length = O'.length) && (decide (C.length = C'.length) && (!(List.range' 0 O.length).any (bS O O') && !(List.range' 0 C.length).any (bT C C')))
def sSm : FSpec
  | [.agg [.slw 0, .slw 1], .agg [.slw 2, .slw 3]], [⟨false, .oprs O⟩, ⟨false, .chns C⟩, ⟨false, .oprs O'⟩, ⟨false, .chns C'⟩] => .node (decide (O.length ≤ 1000 ∧ C.length ≤ 1000)) (.leaf ⟨[.bool (smB O C O' C')], []⟩) .bad
  | _, _ => .bad
theorem okSm : FnOk (E0 B) 23 sSm := by
  refine fnL TbOk.nil (ls := [e1, e2]) Tryz.func23 (by kernel_rfl) (by kernel_rfl) (fun x hx => ?_) fun vs bs r h => ?_
  · simp only [List.mem_cons, List.mem_nil_iff, or_false] at hx
    rcases hx with rfl | rfl
    · exact ⟨bS1, by kernel_rfl, rfl, loop1⟩
    · exact ⟨bS2, by kernel_rfl, rfl, loop2⟩
  · unfold sSm at h
    split at h
    · rename_i O C O' C'
      rcases T.node_sel h with ⟨hc, h2⟩ | ⟨_, h2⟩
      · obtain ⟨h3, h4⟩ := of_decide_eq_true hc
        simp only [T.sel, Option.some.injEq] at h2
        subst h2
        refine (tSame O C O' C').trans ?_
        unfold smB Gk.gd
        by_cases hO : O.length = O'.length
        · by_cases hC : C.length = C'.length
          · rw [decide_eq_true (show (O.length : Int) = (O'.length : Int) by omega), decide_eq_true (show (C.length : Int) = (C'.length : Int) by omega), decide_eq_true (show (0 : Int) = 0 ∧ O.length = O'.length ∧ O.length ≤ 1000 from ⟨rfl, hO, h3⟩), decide_eq_true (show (0 : Int) = 0 ∧ C.length = C'.length ∧ C.length ≤ 1000 from ⟨rfl, hC, h4⟩), decide_eq_true hO, decide_eq_true hC]
            cases (List.range' 0 O.length).any (bS O O') <;> cases (List.range' 0 C.length).any (bT C C') <;> rfl
          · rw [decide_eq_true (show (O.length : Int) = (O'.length : Int) by omega), decide_eq_false (show ¬ (C.length : Int) = (C'.length : Int) by omega), decide_eq_false hC, decide_eq_true hO]; rfl
        · rw [decide_eq_false (show ¬ (O.length : Int) = (O'.length : Int) by omega), decide_eq_false hO]; rfl
      · simp [T.sel] at h2
    · simp [T.sel] at h
theorem sm_refl (O : List Opr) (C : List Chn) : smB O C O C = true := by
  unfold smB
  have h1 : (List.range' 0 O.length).any (bS O O) = false := by
    rw [List.any_eq_false]; intro i _; simp [bS, eqO]
  have h2 : (List.range' 0 C.length).any (bT C C) = false := by
    rw [List.any_eq_false]; intro i _; simp [bT, eqC]
  rw [h1, h2, decide_eq_true rfl, decide_eq_true rfl]; rfl
end Go.Proofs.YtdckpbeioemopaaGreatDoor.Sg
namespace Go.Proofs.YtdckpbeioemopaaGreatDoor.Rm
open Go.Am Go Go.Proofs.YtdckpbeioemopaaGreatDoor
set_option maxRecDepth 100000
variable {B : Nat → Option Obj}
theorem walk_turns {E : Env} {C : CallR} {L : LoopR} {n : Nat} {sg : LSig} {body : Code} {st : Nat → List AV} {bs : Nat → List Blk} {len k : Nat} {oe : Out}
    (h : ∀ i : Nat, i ≤ len → (turn E C L n sg body (st i) (bs i)).sel = bif decide (i < len) then some (.normal, ⟨st (i + 1), bs (i + 1)⟩) else some (.exit k, oe)) :
    ∀ (f i : Nat), i + f = len → ∃ m, (turns E C L n sg body m (st i) (bs i)).sel = some (.exit k, oe)
  | 0, i, hi => by
    have ht := h i (by omega)
    rw [decide_eq_false (by omega), cond_false] at ht
    exact ⟨1, turns_done ht (by simp)⟩
  | f + 1, i, hi => by
    have ht := h i (by omega)
    rw [decide_eq_true (show i < len by omega), cond_true] at ht
    obtain ⟨m, hm⟩ := walk_turns h f (i + 1) (by omega)
    exact ⟨m + 1, (turns_more' ht).trans hm⟩
noncomputable def lC : Code := bodyC Tryz.f7
noncomputable def bA : Code := loopAt 10 (loopsOf lC)
noncomputable def bB : Code := loopAt 16 (loopsOf lC)
def sgA : LSig := { cs := [(14, 24)], mv := [(16, 0)], mo := [(8, 0)], take := [] }
def sgB : LSig := { cs := [(10, 0), (17, 0), (2, 0), (3, 0)], mv := [(18, 0)], mo := [(8, 0)], take := [5] }
def vsA (i : Int) : List AV := [.slw 0, i64 i]
def bsA (l : List Int) : List Blk := [⟨false, .ints .i64 l⟩]
def vsB (r s i : Int) : List AV := [.ptr 0 0 0, .ptr 1 0 0, i64 r, i64 s, i64 i]
def bsB (O : List Opr) (C : List Chn) (O' : List Opr) (C' : List Chn) : List Blk := [Jo.gBx 2 3, Jo.gBx 4 5, Jo.ob O, Jo.cb C, Jo.ob O', ⟨true, .chns C'⟩]
theorem turnA (l : List Int) (i : Int) : (turn (E0 B) (Cx B []) noL 139 sgA bA (vsA i) (bsA l)).sel =
    bif decide (i < (l.length : Int)) then Jo.inb i l.length (bif !decide (l.getD i.toNat 0 = i) then some (.ret, ⟨[.bool false], []⟩) else some (.normal, ⟨vsA (w64 (i + 1)), bsA l⟩)) else some (.exit 0, ⟨[.any], []⟩) := by kernel_rfl
theorem turnB (O : List Opr) (C : List Chn) (O' : List Opr) (D : List Chn) (r s i : Int) : (turn (E0 B) (Cx B []) noL 139 sgB bB (vsB r s i) (bsB O C O' D)).sel =
    bif decide (i < (D.length : Int)) then Jo.inb i C.length (bif !decide ((C.getD i.toNat default).room = r) then some (.ret, ⟨[.bool false], bsB O C O' D⟩) else Jo.inb i D.length (bif !decide ((D.getD i.toNat default).room = s) then some (.ret, ⟨[.bool false], bsB O C O' D⟩) else
      Jo.inb i D.length (some (.normal, ⟨vsB r s (w64 (i + 1)), bsB O C O' (D.set i.toNat (rm r (D.getD i.toNat default)))⟩)))) else some (.exit 2, ⟨[.any], bsB O C O' D⟩) := by kernel_rfl
def spA : LSpec
  | [.slw 0, .int .i64 i], [⟨false, .ints .i64 l⟩] => .node (decide (i = 0 ∧ l.length ≤ 1000)) (.node ((List.range' 0 l.length).any (badE l)) (.leaf (.ret, ⟨[.bool false], []⟩)) (.leaf (.exit 0, ⟨[.any], []⟩))) .bad
  | _, _ => .bad
theorem loopA : LoopOk (E0 B) 139 sgA bA spA := by
  refine loop_turns (C := Cx B []) (L := noL) (cxOk TbOk.nil) (noL_ok _) fun vs bs e o h => ?_
  unfold spA at h
  split at h
  · rename_i i l
    rcases T.node_sel h with ⟨hc, h2⟩ | ⟨_, h2⟩
    · obtain ⟨rfl, hs⟩ := of_decide_eq_true hc
      obtain ⟨m, hm⟩ := scan_turns (E := E0 B) (C := Cx B []) (L := noL) (n := 139) (sg := sgA) (body := bA) (st := fun k => vsA k) (bs := bsA l) (len := l.length) (bad := badE l) (ob := fun _ => ⟨[.bool false], []⟩) (k := 0) (oe := ⟨[.any], []⟩)
        (fun k hk => by
          refine (turnA l k).trans ?_
          by_cases hlt : k < l.length
          · rw [decide_eq_true (show (k : Int) < ((l.length : Nat) : Int) by omega), decide_eq_true hlt, cond_true, cond_true, En.inb_is hlt, Int.toNat_natCast, w64_rng (show Rng ((k : Int) + 1) by unfold Rng; omega)]
            rfl
          · rw [decide_eq_false (show ¬ (k : Int) < ((l.length : Nat) : Int) by omega), decide_eq_false hlt]; rfl) l.length 0 (by omega)
      refine ⟨m, hm.trans ?_⟩
      have hf := firstB_any (badE l) l.length 0
      rw [Nat.zero_add] at hf
      rw [hf, ← h2]
      rfl
    · simp [T.sel] at h2
  · simp [T.sel] at h
def isR (r : Int) (C : List Chn) : Bool := C.all fun c => decide (c.room = r)
def spB : LSpec
  | [.ptr 0 0 0, .ptr 1 0 0, .int .i64 r, .int .i64 s, .int .i64 i], [⟨true, .gen [a, b] [[.slw 2, .slw 3]]⟩, ⟨true, .gen [c, d] [[.slw 4, .slw 5]]⟩, ⟨false, .oprs O⟩, ⟨false, .chns C⟩, ⟨false, .oprs O'⟩, ⟨true, .chns C'⟩] =>
    .node (Sg.two a b c d && (decide (i = 0 ∧ C.length = C'.length ∧ C.length ≤ 1000) && (isR r C && isR s C'))) (.leaf (.exit 2, ⟨[.any], bsB O C O' (C'.map (rm r))⟩)) .bad
  | _, _ => .bad
def upto (r : Int) (C : List Chn) (k : Nat) : List Chn := (C.take k).map (rm r) ++ C.drop k
theorem upto_len (r : Int) (C : List Chn) (k : Nat) : (upto r C k).length = C.length := by simp [upto]; omega
theorem upto_at {r : Int} {C : List Chn} {k : Nat} (h : k < C.length) : (upto r C k).getD k default = C.getD k default := by
  unfold upto
  rw [List.getD_eq_getElem?_getD, List.getElem?_append_right (by simp; omega), List.getD_eq_getElem?_getD]
  simp [Nat.min_eq_left (Nat.le_of_lt h)]
theorem upto_succ {r : Int} {C : List Chn} {k : Nat} (h : k < C.length) : (upto r C k).set k (rm r (C.getD k default)) = upto r C (k + 1) := by
  unfold upto
  rw [List.set_append_right _ _ (by simp; omega), Jo.take_at h, List.map_append]
  simp only [List.length_map, List.length_take, Nat.min_eq_left (Nat.le_of_lt h), Nat.sub_self, List.map_cons, List.map_nil, List.append_assoc]
  rw [show C.drop k = C.getD k default :: C.drop (k + 1) by rw [List.drop_eq_getElem_cons h]; simp [List.getD, h]]
  rfl
theorem isR_at {r : Int} {C : List Chn} (h : isR r C = true) {k : Nat} (hk : k < C.length) : (C.getD k default).room = r := of_decide_eq_true (List.all_eq_true.1 h _ (getD_mem hk))
theorem loopB : LoopOk (E0 B) 139 sgB bB spB := by
  refine loop_turns (C := Cx B []) (L := noL) (cxOk TbOk.nil) (noL_ok _) fun vs bs e o h => ?_
  unfold spB at h
  split at h
  · rename_i r s i a b c d O C O' C'
    rcases T.node_sel h with ⟨hc, h2⟩ | ⟨_, h2⟩
    · rw [Bool.and_eq_true, Bool.and_eq_true, Bool.and_eq_true] at hc
      obtain ⟨rfl, rfl, rfl, rfl⟩ := of_decide_eq_true hc.1
      obtain ⟨rfl, hl, hs⟩ := of_decide_eq_true hc.2.1
      obtain ⟨hr, hs'⟩ := hc.2.2
      obtain ⟨m, hm⟩ := walk_turns (E := E0 B) (C := Cx B []) (L := noL) (n := 139) (sg := sgB) (body := bB) (st := fun k => vsB r s k) (bs := fun k => bsB O C O' (upto r C' k)) (len := C'.length) (k := 2) (oe := ⟨[.any], bsB O C O' (upto r C' C'.length)⟩)
        (fun k hk => by
          refine (turnB O C O' (upto r C' k) r s k).trans ?_
          rw [upto_len]
          by_cases hlt : k < C'.length
          · rw [decide_eq_true (show (k : Int) < ((C'.length : Nat) : Int) by omega), decide_eq_true hlt, cond_true, cond_true, En.inb_is (hl ▸ hlt), En.inb_is hlt, En.inb_is hlt, Int.toNat_natCast, isR_at hr (hl ▸ hlt), upto_at hlt, isR_at hs' hlt, upto_succ hlt, decide_eq_true rfl, decide_eq_true rfl, w64_rng (show Rng ((k : Int) + 1) by unfold Rng; omega)]
            rfl
          · have : k = C'.length := by omega
            subst this
            rw [decide_eq_false (show ¬ ((C'.length : Nat) : Int) < ((C'.length : Nat) : Int) by omega), decide_eq_false hlt]; rfl) C'.length 0 (by omega)
      refine ⟨m, ?_⟩
      have h0 : upto r C' 0 = C' := by simp [upto]
      have h9 : upto r C' C'.length = C'.map (rm r) := by simp [upto]
      simp only [h0, h9] at hm
      exact hm.trans h2
    · simp [T.sel] at h2
  · simp [T.sel] at h
end Go.Proofs.YtdckpbeioemopaaGreatDoor.Rm
namespace Go.Proofs.YtdckpbeioemopaaGreatDoor.Rm
open Go.Am Go Go.Proofs.YtdckpbeioemopaaGreatDoor Go.Proofs.YtdckpbeioemopaaGreatDoor.Gf Go.Proofs.YtdckpbeioemopaaGreatDoor.Gp
set_option maxRecDepth 100000
variable {B : Nat → Option Obj}
noncomputable def libRm : Tb := (8, [], sTrueF) :: (9, [], sFit) :: (10, [], sOfG) :: (16, [], Gk.sOrder) :: (23, [], Sg.sSm) :: []
theorem libRm_ok (hB : Laid B) : TbOk B libRm := ((((TbOk.nil.add Sg.okSm).add Gk.okOrder).add okOfG).add okFit).add (okAl24 hB)
noncomputable def eA : LEnt := { id := 10, n := 139, sg := sgA, wr := writes bA, s := spA }
noncomputable def eB : LEnt := { id := 16, n := 139, sg := sgB, wr := writes bB, s := spB }
def rest (O : List Opr) (C C' : List Chn) (r s : Int) (l : List Int) : Option Out :=
  bif !decide ((l.length : Int) = (O.length : Int)) then rb false else bif !decide ((C.length : Int) = (C'.length : Int)) then rb false else
    gdO (decide ((0 : Int) = 0 ∧ l.length ≤ 1000)) (bif (List.range' 0 l.length).any (badE l) then rb false else
      gdO (decide (0 + C'.length ≤ lim)) (gdO (Sg.two 33 34 33 34 && (decide ((0 : Int) = 0 ∧ C.length = C'.length ∧ C.length ≤ 1000) && (isR r C && isR s C')))
        (gdO (decide (O.length ≤ 1000 ∧ C.length ≤ 1000)) (rb (Sg.smB O C O (C'.map (rm r)))))))
def roomO (st : List Int) (q : Qry) (p r s : Int) : Option Out :=
  gdO (st.all inByte) (bif !fitB st q p r then rb true else gdO (st.all inByte) (bif !fitB st q p s then rb true else
    gdO (okG st q p r) (gdO (okG st q p s) (
      bif decide (Gk.chkN (ofO q.src.length p.toNat q.byKey q.join (decide (q.late = 2))) (ofC q.src.length p.toNat q.byKey (decide (q.late = 2)) r) = 0) then
        rest (ofO q.src.length p.toNat q.byKey q.join (decide (q.late = 2))) (ofC q.src.length p.toNat q.byKey (decide (q.late = 2)) r) (ofC q.src.length p.toNat q.byKey (decide (q.late = 2)) s) r s (ordN (ofO q.src.length p.toNat q.byKey q.join (decide (q.late = 2))).length (ofC q.src.length p.toNat q.byKey (decide (q.late = 2)) r))
      else bif !decide (Gk.chkN (ofO q.src.length p.toNat q.byKey q.join (decide (q.late = 2))) (ofC q.src.length p.toNat q.byKey (decide (q.late = 2)) r) = 0) then rb false else
        rest (ofO q.src.length p.toNat q.byKey q.join (decide (q.late = 2))) (ofC q.src.length p.toNat q.byKey (decide (q.late = 2)) r) (ofC q.src.length p.toNat q.byKey (decide (q.late = 2)) s) r s []))))
theorem tRm (st : List Int) (q : Qry) (p r s : Int) : runL B libRm [eA, eB] Tryz.f7 [Pl.plAv q 0 1 2 3, i64 p, i64 r, i64 s] (Pl.plBs false st q) = roomO st q p r s := by kernel_rfl
end Go.Proofs.YtdckpbeioemopaaGreatDoor.Rm
namespace Go.Proofs.YtdckpbeioemopaaGreatDoor.Rm
open Go.Am Go Go.Proofs.YtdckpbeioemopaaGreatDoor Go.Proofs.YtdckpbeioemopaaGreatDoor.Gf Go.Proofs.YtdckpbeioemopaaGreatDoor.Gp
set_option maxRecDepth 100000
variable {B : Nat → Option Obj}
def szT (n p : Nat) (j : Bool) : Bool := bb.all fun bk => bb.all fun sd => decide ((ofO n p bk j sd).length ≤ 20) && (decide ((ofC n p bk sd 1).length ≤ 100) && upC (ofC n p bk sd 1))
def szAll : Bool := [1, 2, 3, 4].all fun n => [1, 2, 3].all fun p => bb.all fun j => szT n p j
theorem sz_all : szAll = true := by kernel_rfl
theorem sz_at {n p : Nat} (hn : n = 1 ∨ n = 2 ∨ n = 3 ∨ n = 4) (hp : p = 1 ∨ p = 2 ∨ p = 3) (bk sd j : Bool) : (ofO n p bk j sd).length ≤ 20 ∧ (ofC n p bk sd 1).length ≤ 100 ∧ upC (ofC n p bk sd 1) = true := by
  have h1 := List.all_eq_true.1 sz_all n (by simp; omega)
  have h2 := List.all_eq_true.1 h1 p (by simp; omega)
  have h3 := List.all_eq_true.1 h2 j (bb_mem j)
  have h4 := List.all_eq_true.1 (List.all_eq_true.1 h3 bk (bb_mem bk)) sd (bb_mem sd)
  rw [Bool.and_eq_true, Bool.and_eq_true] at h4
  exact ⟨of_decide_eq_true h4.1, of_decide_eq_true h4.2.1, h4.2.2⟩
theorem upC_rm (r : Int) (C : List Chn) : upC (C.map (rm r)) = upC C := by unfold upC; rw [List.all_map]; rfl
theorem isR_rm (r : Int) (C : List Chn) : isR r (C.map (rm r)) = true := by
  unfold isR
  rw [List.all_map]
  exact List.all_eq_true.2 fun c _ => decide_eq_true rfl
theorem rm_rm (r s : Int) (C : List Chn) : (C.map (rm s)).map (rm r) = C.map (rm r) := by rw [List.map_map]; rfl
theorem rest_is {O : List Opr} {C : List Chn} {r s : Int} (h1 : O.length ≤ 20) (h2 : C.length ≤ 100) : rest O (C.map (rm r)) (C.map (rm s)) r s (numI O.length) = rb true := by
  unfold rest gdO
  rw [numI_len, numI_any, rm_rm, Sg.sm_refl, isR_rm, isR_rm]
  rw [List.length_map, List.length_map]
  rw [decide_eq_true (show (O.length : Int) = (O.length : Int) from rfl), decide_eq_true (show (C.length : Int) = (C.length : Int) from rfl), decide_eq_true (show (0 : Int) = 0 ∧ O.length ≤ 1000 from ⟨rfl, by omega⟩), decide_eq_true (show 0 + C.length ≤ lim by simp only [lim]; omega), decide_eq_true (show (0 : Int) = 0 ∧ C.length = C.length ∧ C.length ≤ 1000 from ⟨rfl, rfl, by omega⟩), decide_eq_true (show O.length ≤ 1000 ∧ C.length ≤ 1000 by omega)]
  rfl
theorem room_is {st : List Int} {q : Qry} {p r s : Int} (hb : st.all inByte = true) : roomO st q p r s = rb true := by
  unfold roomO
  cases hf : fitB st q p r with
  | false => unfold gdO; rw [hb]; rfl
  | true =>
  cases hg : fitB st q p s with
  | false => unfold gdO; rw [hb]; rfl
  | true =>
  obtain ⟨_, h0, p1, p3, r1, r8⟩ := fitB_of hf
  obtain ⟨_, _, _, _, s1, s8⟩ := fitB_of hg
  obtain ⟨_, hn1, hn4, hj⟩ := src_len (Pl.ckE_clk (Pl.plE_0 h0).1)
  rw [okG_of hf, okG_of hg, hb]
  obtain ⟨m, rfl⟩ : ∃ m : Nat, p = (m : Int) := ⟨p.toNat, by omega⟩
  rw [Int.toNat_natCast]
  have hp : m = 1 ∨ m = 2 ∨ m = 3 := by omega
  have hn : q.src.length = 1 ∨ q.src.length = 2 ∨ q.src.length = 3 ∨ q.src.length = 4 := by omega
  have hv := val_all hn hp q.byKey (decide (q.late = 2)) q.join hj r1 r8
  obtain ⟨z1, z2, z3⟩ := sz_at hn hp q.byKey (decide (q.late = 2)) q.join
  generalize ofO q.src.length m q.byKey q.join (decide (q.late = 2)) = O at *
  rw [ofC_rm _ _ _ _ r, ofC_rm _ _ _ _ s]
  rw [ofC_rm _ _ _ _ r] at hv
  generalize ofC q.src.length m q.byKey (decide (q.late = 2)) 1 = C at *
  have hc : Gk.chkN O (C.map (rm r)) = 0 := by
    unfold Gk.chkN
    rw [hv, List.length_map, decide_eq_false (show ¬ 20 < O.length by omega), decide_eq_false (show ¬ 100 < C.length by omega)]; rfl
  rw [hc, ordN_up ((upC_rm r C).trans z3), rest_is z1 z2]
  rfl
def sRm : FSpec
  | [.agg [.slw 0, .int .u8 _, .slw 1, .slw 2, .bool _, .slw 3, .int .u8 _, .int .i64 _, .int .i64 _, .bool _, .int .u8 _], .int .i64 _, .int .i64 _, .int .i64 _], [⟨false, .ints .u8 st⟩, ⟨false, .nodes _⟩, ⟨false, .ints .i64 _⟩, ⟨false, .nodes _⟩] => .node (st.all inByte) (.leaf ⟨[.bool true], []⟩) .bad
  | _, _ => .bad
def sRmB (_ : Nat → Option Obj) : FSpec := sRm
theorem okRm (hB : Laid B) : FnOk (E0 B) 7 sRm := by
  refine fnL (libRm_ok hB) (ls := [eA, eB]) Tryz.func7 (by kernel_rfl) (by kernel_rfl) (fun x hx => ?_) fun vs bs out h => ?_
  · simp only [List.mem_cons, List.mem_nil_iff, or_false] at hx
    rcases hx with rfl | rfl
    · exact ⟨bA, by kernel_rfl, rfl, loopA⟩
    · exact ⟨bB, by kernel_rfl, rfl, loopB⟩
  · unfold sRm at h
    split at h
    · rename_i ag j wk ws we bk lt p r s st A S W
      rcases T.node_sel h with ⟨hc, h2⟩ | ⟨_, h2⟩
      · simp only [T.sel, Option.some.injEq] at h2; subst h2
        exact (tRm st ⟨ag, A, S, j, W, wk, ws, we, bk, lt⟩ p r s).trans (room_is hc)
      · simp [T.sel] at h2
    · simp [T.sel] at h
theorem sRm_sel {q : Qry} {st : List Int} {p r s : Int} (hb : bytWf st) : (sRm [planAv q 0 1 2 3, i64 p, i64 r, i64 s] [⟨false, .ints .u8 st⟩, ⟨false, .nodes q.arg⟩, ⟨false, .ints .i64 q.src⟩, ⟨false, .nodes q.whr⟩]).sel = some ⟨[.bool true], []⟩ := by
  show (bif st.all inByte then _ else _) = _
  rw [byt_all hb]; rfl
end Go.Proofs.YtdckpbeioemopaaGreatDoor.Rm
