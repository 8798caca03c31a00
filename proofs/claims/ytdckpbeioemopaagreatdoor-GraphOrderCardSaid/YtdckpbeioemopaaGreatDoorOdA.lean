/-
  Texts put together: OrdLaw, AmGo, GrCk, GrOd, GrOd2, AmGraph.
-/
import Derived.Test.YtdckpbeioemopaaGreatDoorGrB
import Derived.Test.YtdckpbeioemopaaGreatDoorLibA
import Derived.Test.YtdckpbeioemopaaGreatDoorGrChk
import Derived.Test.YtdckpbeioemopaaGreatDoorGrA
import Derived.Test.YtdckpbeioemopaaGreatDoorGpA
import Derived.Test.YtdckpbeioemopaaGreatDoorPureB
namespace Go.Am
theorem ordGo_pre {n : Nat} {C : List Chn} : ∀ (k : Nat) (p : List Int), ∃ s, ordGo n C k p = p ++ s
  | 0, p => ⟨[], by simp [ordGo]⟩
  | k + 1, p => by
    unfold ordGo
    cases decide (nextN n C p < 0) with
    | true => exact ⟨[], by simp⟩
    | false =>
      obtain ⟨s, hs⟩ := ordGo_pre (n := n) (C := C) k (p ++ [nextN n C p])
      exact ⟨nextN n C p :: s, by rw [cond_false, hs]; simp⟩
theorem ordGo_at {n : Nat} {C : List Chn} : ∀ (k : Nat) (p : List Int) (i : Nat) (x : Int), p.length ≤ i → (ordGo n C k p)[i]? = some x → 0 ≤ x ∧ x = nextN n C ((ordGo n C k p).take i)
  | 0, p, i, x, hi, hx => by
    have := (List.getElem?_eq_some_iff.1 hx).1
    unfold ordGo at this
    omega
  | k + 1, p, i, x, hi, hx => by
    by_cases hn : nextN n C p < 0
    · unfold ordGo at hx
      rw [decide_eq_true hn, cond_true] at hx
      have := (List.getElem?_eq_some_iff.1 hx).1
      omega
    · rw [ordGo_more (by omega)] at hx ⊢
      rcases Nat.lt_or_ge p.length i with h1 | h1
      · exact ordGo_at k _ i x (by simp; omega) hx
      · have hie : i = p.length := by omega
        subst hie
        obtain ⟨s, hs⟩ := ordGo_pre (n := n) (C := C) k (p ++ [nextN n C p])
        rw [hs] at hx ⊢
        rw [List.append_assoc] at hx ⊢
        rw [List.getElem?_append_right (Nat.le_refl _)] at hx
        simp at hx
        rw [List.take_left']
        · exact ⟨by omega, hx.symm⟩
        · rfl
def plB (n : Nat) (p : List Int) : List Bool := (List.range n).map fun (v : Nat) => p.contains (v : Int)
theorem plB_len (n : Nat) (p : List Int) : (plB n p).length = n := by simp [plB]
theorem plB_get {n : Nat} (p : List Int) {v : Int} (h0 : 0 ≤ v) (hn : v < (n : Int)) : (plB n p).getD v.toNat false = p.contains v := by
  unfold plB
  rw [List.getD, List.getElem?_map, List.getElem?_range (by omega)]
  simp only [Option.map_some, Option.getD_some]
  rw [show ((v.toNat : Nat) : Int) = v by omega]
theorem plB_nil (n : Nat) : plB n [] = List.replicate n false := by
  unfold plB
  apply List.ext_getElem
  · simp
  · intro i _ _; simp
theorem plB_set (n : Nat) (p : List Int) {x : Int} (h0 : 0 ≤ x) : (plB n p).set x.toNat true = plB n (p ++ [x]) := by
  apply List.ext_getElem
  · simp [plB]
  · intro i h1 h2
    rw [List.getElem_set]
    simp only [plB, List.getElem_map, List.getElem_range]
    by_cases h : x.toNat = i
    · rw [if_pos h]
      have : x = (i : Int) := by omega
      simp [this]
    · rw [if_neg h]
      have : ¬ (i : Int) = x := by omega
      simp [this]
def rdB (C : List Chn) (P : List Bool) (op : Int) (r : Bool) (k : Nat) : Bool := r && (C.take k).all fun c => !decide (c.dst = op) || P.getD c.src.toNat false
theorem rdB_zero (C : List Chn) (P : List Bool) (op : Int) (r : Bool) : rdB C P op r 0 = r := by simp [rdB]
theorem rdB_succ {C : List Chn} {k : Nat} (h : k < C.length) (P : List Bool) (op : Int) (r : Bool) : rdB C P op r (k + 1) = (rdB C P op r k && (!decide ((C.getD k default).dst = op) || P.getD (C.getD k default).src.toNat false)) := by
  have hk : C[k]? = some (C.getD k default) := by rw [List.getD, List.getElem?_eq_getElem h]; rfl
  unfold rdB
  rw [List.take_add_one, hk, Option.toList_some, List.all_append, List.all_cons, List.all_nil, Bool.and_true, Bool.and_assoc]
theorem rdB_is {n : Nat} {C : List Chn} (hb : bndC n C = true) (p : List Int) {op : Int} (h0 : 0 ≤ op) (hn : op < (n : Int)) : rdB C (plB n p) op (!(plB n p).getD op.toNat false) C.length = rdyN C p op := by
  unfold rdB
  rw [List.take_length, plB_get p h0 hn, Bool.eq_iff_iff, rdyN_is, cntP_zero, Bool.and_eq_true, List.all_eq_true]
  constructor
  · rintro ⟨h1, h2⟩
    refine ⟨by simpa using h1, fun c hc hd => ?_⟩
    have := h2 c hc
    have hbc := bndC_mem hb hc
    rw [plB_get p hbc.1 hbc.2.1, decide_eq_true hd] at this
    simpa using this
  · rintro ⟨h1, h2⟩
    refine ⟨by simpa using h1, fun c hc => ?_⟩
    have hbc := bndC_mem hb hc
    rw [plB_get p hbc.1 hbc.2.1]
    by_cases hd : c.dst = op
    · rw [Bool.or_eq_true]; right
      simpa using h2 c hc hd
    · simp [hd]
theorem ord_least {n : Nat} {C : List Chn} {i : Nat} {x : Int} (hx : (ordN n C)[i]? = some x) :
    (0 ≤ x ∧ x < (n : Int)) ∧ rdyN C ((ordN n C).take i) x = true ∧ ∀ y : Int, 0 ≤ y → y ≤ x → rdyN C ((ordN n C).take i) y = decide (y = x) := by
  obtain ⟨h0, he⟩ := ordGo_at n [] i x (by simp) hx
  have he : x = nextN n C ((ordN n C).take i) := he
  rcases least_next n C ((ordN n C).take i) with ⟨h1, _⟩ | ⟨_, h2, h3, h4⟩
  · omega
  · rw [← he] at h2 h3 h4
    refine ⟨⟨h0, h2⟩, h3, fun y hy hyx => ?_⟩
    by_cases e : y = x
    · subst e; rw [h3, decide_eq_true rfl]
    · rw [decide_eq_false e]
      cases hr : rdyN C ((ordN n C).take i) y with
      | false => rfl
      | true => have := h4 y hy (by omega) hr; omega
end Go.Am
namespace Go.Am
theorem go_turns {E : Env} {C : CallR} {L : LoopR} {n : Nat} {sg : LSig} {body : Code} {st : Nat → List AV} {bs : Nat → List Blk} {len k : Nat} {oe : Out}
    (h : ∀ i : Nat, i ≤ len → (turn E C L n sg body (st i) (bs i)).sel = bif decide (i < len) then some (.normal, ⟨st (i + 1), bs (i + 1)⟩) else some (.exit k, oe)) :
    ∀ (f i : Nat), i + f = len → ∃ m, (turns E C L n sg body m (st i) (bs i)).sel = some (.exit k, oe)
  | 0, i, hi => by
    have ht := h i (by omega)
    rw [decide_eq_false (by omega), cond_false] at ht
    exact ⟨1, turns_done ht (by simp)⟩
  | f + 1, i, hi => by
    have ht := h i (by omega)
    rw [decide_eq_true (show i < len by omega), cond_true] at ht
    obtain ⟨m, hm⟩ := go_turns h f (i + 1) (by omega)
    exact ⟨m + 1, (turns_more' ht).trans hm⟩
end Go.Am
namespace Go.Proofs.YtdckpbeioemopaaGreatDoor.Rc
open Go.Am Go Go.Proofs.YtdckpbeioemopaaGreatDoor Go.Proofs.YtdckpbeioemopaaGreatDoor.Gr
set_option maxRecDepth 100000
variable {B : Nat → Option Obj}
theorem tCk (O : List Opr) (C : List Chn) : runT B libH Tryz.f22 [.agg [.slw 0, .slw 1]] [Jo.ob O, Jo.cb C] =
    bif decide (20 < (O.length : Int)) then Gk.rn 4 else bif decide (100 < (C.length : Int)) then Gk.rn 4 else Gk.gd (decide (C.length ≤ 1000 ∧ O.length ≤ 1000)) (bif !validN O C then Gk.rn 8 else Gk.rn 0) := by kernel_rfl
theorem ck_is (O : List Opr) (C : List Chn) : (bif decide (20 < (O.length : Int)) then Gk.rn 4 else bif decide (100 < (C.length : Int)) then Gk.rn 4 else Gk.gd (decide (C.length ≤ 1000 ∧ O.length ≤ 1000)) (bif !validN O C then Gk.rn 8 else Gk.rn 0)) = Gk.rn (Gk.chkN O C) := by
  unfold Gk.chkN Gk.gd
  by_cases h1 : 20 < O.length
  · rw [decide_eq_true (show (20 : Int) < (O.length : Int) by omega), decide_eq_true h1]; rfl
  rw [decide_eq_false (show ¬ (20 : Int) < (O.length : Int) by omega), decide_eq_false h1, cond_false]
  by_cases h2 : 100 < C.length
  · rw [decide_eq_true (show (100 : Int) < (C.length : Int) by omega), decide_eq_true h2]; rfl
  rw [decide_eq_false (show ¬ (100 : Int) < (C.length : Int) by omega), decide_eq_false h2, cond_false, decide_eq_true (show C.length ≤ 1000 ∧ O.length ≤ 1000 by omega)]
  cases validN O C <;> rfl
def sCk : FSpec
  | [.agg [.slw 0, .slw 1]], [⟨false, .oprs O⟩, ⟨false, .chns C⟩] => .leaf ⟨[i64 (Gk.chkN O C)], []⟩
  | _, _ => .bad
theorem okCk : FnOk (E0 B) 22 sCk := by
  refine fnT libH_ok Tryz.func22 (by kernel_rfl) (by kernel_rfl) fun vs bs r h => ?_
  unfold sCk at h
  split at h
  · rename_i O C
    simp only [T.sel, Option.some.injEq] at h
    subst h
    exact (tCk O C).trans (ck_is O C)
  · simp [T.sel] at h
end Go.Proofs.YtdckpbeioemopaaGreatDoor.Rc
namespace Go.Proofs.YtdckpbeioemopaaGreatDoor.Od
open Go.Am Go Go.Proofs.YtdckpbeioemopaaGreatDoor Go.Proofs.YtdckpbeioemopaaGreatDoor.Gr
set_option maxRecDepth 100000
variable {B : Nat → Option Obj}
noncomputable def wC : Code := bodyC Tryz.f6
noncomputable def bO : Code := loopAt 9 (loopsOf wC)
noncomputable def bM : Code := loopAt 14 (loopsOf bO)
noncomputable def bK : Code := loopAt 18 (loopsOf bM)
def sgK : LSig := { cs := [(1, 0), (8, 0)], mv := [(6, 45), (9, 0), (10, 0)], mo := [(6, 45), (9, 0)], take := [1] }
def vK (op : Int) (r : Bool) (k : Int) : List AV := [.ptr 0 0 0, i64 op, .slw 1, .bool r, i64 k]
def bsK (O : List Opr) (C : List Chn) (R : List Bool) : List Blk := [Jo.gBx 2 3, ⟨true, .bools R⟩, Jo.ob O, Jo.cb C]
def nrK (O : List Opr) (C : List Chn) (R : List Bool) (op k : Int) (r : Bool) : Option (AExit × Out) := some (.normal, ⟨vK op r (w64 (k + 1)), bsK O C R⟩)
theorem turnK (O : List Opr) (C : List Chn) (R : List Bool) (op k : Int) (r : Bool) : (turn (E0 B) (Cx B []) noL 129 sgK bK (vK op r k) (bsK O C R)).sel =
    bif decide (k < (C.length : Int)) then (bif r then Jo.inb k C.length (bif !decide ((C.getD k.toNat default).dst = op) then nrK O C R op k true else Jo.inb k C.length (Jo.inb (C.getD k.toNat default).src R.length (nrK O C R op k (R.getD (C.getD k.toNat default).src.toNat false)))) else nrK O C R op k false) else some (.exit 4, ⟨[.slw 1, .bool r], bsK O C R⟩) := by kernel_rfl
theorem inb_in {i : Int} {n : Nat} {r : Option (AExit × Out)} (h0 : 0 ≤ i) (hn : i < (n : Int)) : Jo.inb i n r = r := by
  unfold Jo.inb
  rw [decide_eq_true (show 0 ≤ i ∧ i < (n : Int) from ⟨h0, hn⟩), decide_eq_true (show i.toNat < n by omega)]; rfl
theorem turnK_is {O : List Opr} {C : List Chn} {R : List Bool} {op : Int} {k : Nat} {r : Bool} (hk : k < C.length) (hR : R.length = O.length) (hb : bndC O.length C = true) (hC : C.length ≤ 1000) :
    (turn (E0 B) (Cx B []) noL 129 sgK bK (vK op r k) (bsK O C R)).sel = some (.normal, ⟨vK op (r && (!decide ((C.getD k default).dst = op) || R.getD (C.getD k default).src.toNat false)) ((k + 1 : Nat) : Int), bsK O C R⟩) := by
  have hm : C.getD k default ∈ C := by
    rw [show C.getD k default = C[k] by simp [List.getD, hk]]
    exact List.getElem_mem hk
  obtain ⟨b1, b2, _, _⟩ := bndC_mem hb hm
  have hw : w64 ((k : Int) + 1) = ((k + 1 : Nat) : Int) := by rw [w64_rng (show Rng ((k : Int) + 1) by unfold Rng; omega)]; omega
  refine (turnK O C R op k r).trans ?_
  rw [decide_eq_true (show (k : Int) < (C.length : Int) by omega), cond_true, En.inb_is hk, En.inb_is hk, Int.toNat_natCast, inb_in b1 (show (C.getD k default).src < ((R.length : Nat) : Int) by omega)]
  unfold nrK
  rw [hw]
  cases r with
  | false => rfl
  | true => cases decide ((C.getD k default).dst = op) <;> rfl
def spK : LSpec
  | [.ptr 0 0 0, .int .i64 op, .slw 1, .bool r, .int .i64 k], [⟨true, .gen [a, b] [[.slw 2, .slw 3]]⟩, ⟨true, .bools R⟩, ⟨false, .oprs O⟩, ⟨false, .chns C⟩] =>
    .node (decide (a = 33 ∧ b = 34) && (decide (k = 0 ∧ R.length = O.length) && rcG O C)) (.leaf (.exit 4, ⟨[.slw 1, .bool (rdB C R op r C.length)], bsK O C R⟩)) .bad
  | _, _ => .bad
theorem rcG_of {O : List Opr} {C : List Chn} (h : rcG O C = true) : C.length ≤ 1000 ∧ O.length ≤ 1000 ∧ bndC O.length C = true := by
  unfold rcG at h
  rw [Bool.and_eq_true] at h
  have := of_decide_eq_true h.1
  exact ⟨this.1, this.2, h.2⟩
theorem loopK : LoopOk (E0 B) 129 sgK bK spK := by
  refine loop_turns (C := Cx B []) (L := noL) (cxOk TbOk.nil) (noL_ok _) fun vs bs e o h => ?_
  unfold spK at h
  split at h
  · rename_i op r k a b R O C
    rcases T.node_sel h with ⟨hc, h2⟩ | ⟨_, h2⟩
    · rw [Bool.and_eq_true, Bool.and_eq_true] at hc
      obtain ⟨rfl, rfl⟩ := of_decide_eq_true hc.1
      obtain ⟨rfl, hR⟩ := of_decide_eq_true hc.2.1
      obtain ⟨hC, _, hb⟩ := rcG_of hc.2.2
      obtain ⟨m, hm⟩ := go_turns (E := E0 B) (C := Cx B []) (L := noL) (n := 129) (sg := sgK) (body := bK) (st := fun k => vK op (rdB C R op r k) k) (bs := fun _ => bsK O C R) (len := C.length) (k := 4) (oe := ⟨[.slw 1, .bool (rdB C R op r C.length)], bsK O C R⟩)
        (fun k hk => by
          by_cases hlt : k < C.length
          · rw [decide_eq_true hlt, cond_true, rdB_succ hlt]
            exact turnK_is hlt hR hb hC
          · have : k = C.length := by omega
            subst this
            rw [turnK, decide_eq_false (show ¬ ((C.length : Nat) : Int) < ((C.length : Nat) : Int) by omega), decide_eq_false hlt]; rfl) C.length 0 (by omega)
      refine ⟨m, ?_⟩
      rw [rdB_zero] at hm
      exact hm.trans h2
    · simp [T.sel] at h2
  · simp [T.sel] at h
noncomputable def eK : LEnt := { id := 18, n := 129, sg := sgK, wr := writes bK, s := spK }
def sgM : LSig := { cs := [(1, 0), (4, 24), (7, 0)], mv := [(6, 45), (8, 0)], mo := [(2, 0), (6, 45)], take := [2] }
def vM (i op : Int) : List AV := [.ptr 0 0 0, .slw 1, i64 i, .slw 2, i64 op]
def bsM (O : List Opr) (C : List Chn) (l : List Int) (R : List Bool) : List Blk := [Jo.gBx 3 4, ⟨false, .ints .i64 l⟩, ⟨true, .bools R⟩, Jo.ob O, Jo.cb C]
def bsY (O : List Opr) (C : List Chn) : List Blk := [Jo.gBx 1 2, Jo.ob O, Jo.cb C]
def bsZ (O : List Opr) (C : List Chn) (R : List Bool) : List Blk := [Jo.gBx 2 3, ⟨true, .bools R⟩, Jo.ob O, Jo.cb C]
def xM (O : List Opr) (C : List Chn) (R : List Bool) : Option (AExit × Out) := some (.exit 2, ⟨[.any, .slw 1], bsZ O C R⟩)
def fR (O : List Opr) (C : List Chn) (R : List Bool) : Option (AExit × Out) := some (.ret, ⟨[.bool false, .slw 1], bsZ O C R⟩)
def fM (O : List Opr) (C : List Chn) : Option (AExit × Out) := some (.ret, ⟨[.bool false], bsY O C⟩)
theorem turnM (O : List Opr) (C : List Chn) (l : List Int) (R : List Bool) (i op : Int) : (turn (E0 B) (Cx B []) (loopL (E0 B) noL [eK]) 129 sgM bM (vM i op) (bsM O C l R)).sel =
    Jo.inb i l.length (bif decide (op ≤ l.getD i.toNat 0) then Jo.inb op R.length (Jo.gd (decide ((0 : Int) = 0 ∧ R.length = O.length) && rcG O C) (Jo.inb i l.length
      (bif !(rdB C R op (!R.getD op.toNat false) C.length == decide (op = l.getD i.toNat 0)) then fR O C R else some (.normal, ⟨vM i (w64 (op + 1)), bsM O C l R⟩)))) else xM O C R) := by kernel_rfl
def lstB (C : List Chn) (R : List Bool) (x : Int) (op : Nat) : Bool := rdB C R (op : Int) (!R.getD op false) C.length == decide ((op : Int) = x)
def midB (O : List Opr) (C : List Chn) (l : List Int) (R : List Bool) (i : Int) : Bool := decide (0 ≤ i ∧ i < (l.length : Int) ∧ R.length = O.length) && (decide (0 ≤ l.getD i.toNat 0 ∧ l.getD i.toNat 0 < (O.length : Int)) && (List.range ((l.getD i.toNat 0).toNat + 1)).all (lstB C R (l.getD i.toNat 0)))
def spM : LSpec
  | [.ptr 0 0 0, .slw 1, .int .i64 i, .slw 2, .int .i64 op], [⟨true, .gen [a, b] [[.slw 3, .slw 4]]⟩, ⟨false, .ints .i64 l⟩, ⟨true, .bools R⟩, ⟨false, .oprs O⟩, ⟨false, .chns C⟩] =>
    .node (decide (a = 33 ∧ b = 34) && (decide (op = 0) && (rcG O C && midB O C l R i))) (.leaf (.exit 2, ⟨[.any, .slw 1], bsZ O C R⟩)) .bad
  | _, _ => .bad
theorem loopM : LoopOk (E0 B) 129 sgM bM spM := by
  refine loop_turns (C := Cx B []) (L := loopL (E0 B) noL [eK]) (cxOk TbOk.nil) (loopL_fits (fun x hx => by
    simp only [List.mem_singleton] at hx; subst hx
    exact ⟨bK, by kernel_rfl, rfl, loopK⟩) noL_ok) fun vs bs e o h => ?_
  unfold spM at h
  split at h
  · rename_i i op a b l R O C
    rcases T.node_sel h with ⟨hc, h2⟩ | ⟨_, h2⟩
    · rw [Bool.and_eq_true, Bool.and_eq_true, Bool.and_eq_true] at hc
      obtain ⟨rfl, rfl⟩ := of_decide_eq_true hc.1
      have := of_decide_eq_true hc.2.1
      subst this
      have hr := hc.2.2.1
      obtain ⟨hC, hO, hb⟩ := rcG_of hr
      have hm := hc.2.2.2
      unfold midB at hm
      rw [Bool.and_eq_true, Bool.and_eq_true] at hm
      obtain ⟨h0, hi, hR⟩ := of_decide_eq_true hm.1
      obtain ⟨x0, xn⟩ := of_decide_eq_true hm.2.1
      have hall := List.all_eq_true.1 hm.2.2
      obtain ⟨m, hm2⟩ := go_turns (E := E0 B) (C := Cx B []) (L := loopL (E0 B) noL [eK]) (n := 129) (sg := sgM) (body := bM) (st := fun k => vM i k) (bs := fun _ => bsM O C l R) (len := (l.getD i.toNat 0).toNat + 1) (k := 2) (oe := ⟨[.any, .slw 1], bsZ O C R⟩)
        (fun k hk => by
          rw [turnM, inb_in h0 hi, inb_in h0 hi]
          by_cases hlt : k < (l.getD i.toNat 0).toNat + 1
          · have hx := hall k (List.mem_range.2 hlt)
            unfold lstB at hx
            rw [decide_eq_true hlt, cond_true, decide_eq_true (show (k : Int) ≤ l.getD i.toNat 0 by omega), cond_true, En.inb_is (show k < R.length by omega), hr, decide_eq_true (show (0 : Int) = 0 ∧ R.length = O.length from ⟨rfl, hR⟩), Int.toNat_natCast, hx, show w64 ((k : Int) + 1) = ((k + 1 : Nat) : Int) by rw [w64_rng (show Rng ((k : Int) + 1) by unfold Rng; omega)]; omega]
            rfl
          · rw [decide_eq_false hlt, decide_eq_false (show ¬ (k : Int) ≤ l.getD i.toNat 0 by omega)]; rfl) ((l.getD i.toNat 0).toNat + 1) 0 (by omega)
      exact ⟨m, hm2.trans h2⟩
    · simp [T.sel] at h2
  · simp [T.sel] at h
noncomputable def eM : LEnt := { id := 14, n := 129, sg := sgM, wr := writes bM, s := spM }
def sgO : LSig := { cs := [(1, 0), (4, 24)], mv := [(6, 45), (7, 0)], mo := [(2, 0)], take := [2] }
def vO (i : Int) : List AV := [.ptr 0 0 0, .slw 1, .slw 2, i64 i]
def bsO (O : List Opr) (C : List Chn) (l : List Int) (R : List Bool) : List Blk := [Jo.gBx 3 4, ⟨false, .ints .i64 l⟩, ⟨true, .bools R⟩, Jo.ob O, Jo.cb C]
def xO (O : List Opr) (C : List Chn) : Option (AExit × Out) := some (.exit 0, ⟨[.any], bsY O C⟩)
theorem turnO (O : List Opr) (C : List Chn) (l : List Int) (R : List Bool) (i : Int) : (turn (E0 B) (Cx B []) (loopL (E0 B) noL [eM]) 129 sgO bO (vO i) (bsO O C l R)).sel =
    bif decide (i < (l.length : Int)) then Jo.inb i l.length (bif decide (l.getD i.toNat 0 < 0) then fM O C else Jo.inb i l.length (bif decide ((R.length : Int) ≤ l.getD i.toNat 0) then fM O C else Jo.inb i l.length (Jo.inb (l.getD i.toNat 0) R.length (bif R.getD (l.getD i.toNat 0).toNat false then fM O C else
      Jo.gd (decide ((0 : Int) = 0) && (rcG O C && midB O C l R i)) (Jo.inb i l.length (Jo.inb (l.getD i.toNat 0) R.length (some (.normal, ⟨vO (w64 (i + 1)), bsO O C l (R.set (l.getD i.toNat 0).toNat true)⟩)))))))) else xO O C := by kernel_rfl
end Go.Proofs.YtdckpbeioemopaaGreatDoor.Od
namespace Go.Proofs.YtdckpbeioemopaaGreatDoor.Od
open Go.Am Go Go.Proofs.YtdckpbeioemopaaGreatDoor Go.Proofs.YtdckpbeioemopaaGreatDoor.Gr
set_option maxRecDepth 100000
variable {B : Nat → Option Obj}
theorem ord_getD {n : Nat} {C : List Chn} {i : Nat} (hi : i < (ordN n C).length) : (ordN n C)[i]? = some ((ordN n C).getD i 0) := by
  rw [List.getD, List.getElem?_eq_getElem hi]; rfl
theorem take_snoc {l : List Int} {i : Nat} (hi : i < l.length) : l.take i ++ [l.getD i 0] = l.take (i + 1) := by
  rw [List.take_add_one, List.getD, List.getElem?_eq_getElem hi]; rfl
theorem mid_is {O : List Opr} {C : List Chn} (hb : bndC O.length C = true) {i : Nat} (hi : i < (ordN O.length C).length) : midB O C (ordN O.length C) (plB O.length ((ordN O.length C).take i)) (i : Int) = true := by
  obtain ⟨⟨x0, xn⟩, _, hl⟩ := ord_least (ord_getD hi)
  unfold midB
  rw [Int.toNat_natCast, decide_eq_true (show 0 ≤ (i : Int) ∧ (i : Int) < ((ordN O.length C).length : Int) ∧ (plB O.length ((ordN O.length C).take i)).length = O.length from ⟨by omega, by omega, plB_len _ _⟩), decide_eq_true (show 0 ≤ (ordN O.length C).getD i 0 ∧ (ordN O.length C).getD i 0 < (O.length : Int) from ⟨x0, xn⟩), Bool.true_and, Bool.true_and, List.all_eq_true]
  intro op hop
  have hop := List.mem_range.1 hop
  unfold lstB
  have := rdB_is (n := O.length) hb ((ordN O.length C).take i) (op := (op : Int)) (by omega) (by omega)
  rw [Int.toNat_natCast] at this
  rw [this, hl op (by omega) (by omega)]
  simp
theorem not_yet {O : List Opr} {C : List Chn} {i : Nat} (hi : i < (ordN O.length C).length) : (plB O.length ((ordN O.length C).take i)).getD ((ordN O.length C).getD i 0).toNat false = false := by
  obtain ⟨⟨x0, xn⟩, hr, _⟩ := ord_least (ord_getD hi)
  rw [plB_get _ x0 xn]
  have := (rdyN_is.1 hr).1
  simpa using this
def spO : LSpec
  | [.ptr 0 0 0, .slw 1, .slw 2, .int .i64 i], [⟨true, .gen [a, b] [[.slw 3, .slw 4]]⟩, ⟨false, .ints .i64 l⟩, ⟨true, .bools R⟩, ⟨false, .oprs O⟩, ⟨false, .chns C⟩] =>
    .node (decide (a = 33 ∧ b = 34) && (decide (i = 0 ∧ l = ordN O.length C ∧ R = List.replicate O.length false) && rcG O C)) (.leaf (.exit 0, ⟨[.any], bsY O C⟩)) .bad
  | _, _ => .bad
theorem loopO : LoopOk (E0 B) 129 sgO bO spO := by
  refine loop_turns (C := Cx B []) (L := loopL (E0 B) noL [eM]) (cxOk TbOk.nil) (loopL_fits (fun x hx => by
    simp only [List.mem_singleton] at hx; subst hx
    exact ⟨bM, by kernel_rfl, rfl, loopM⟩) noL_ok) fun vs bs e o h => ?_
  unfold spO at h
  split at h
  · rename_i i a b l R O C
    rcases T.node_sel h with ⟨hc, h2⟩ | ⟨_, h2⟩
    · rw [Bool.and_eq_true, Bool.and_eq_true] at hc
      obtain ⟨rfl, rfl⟩ := of_decide_eq_true hc.1
      obtain ⟨rfl, rfl, rfl⟩ := of_decide_eq_true hc.2.1
      have hr := hc.2.2
      obtain ⟨hC, hO, hb⟩ := rcG_of hr
      have hlen : (ordN O.length C).length ≤ O.length := (ordN_end O.length C).1.le
      obtain ⟨m, hm⟩ := go_turns (E := E0 B) (C := Cx B []) (L := loopL (E0 B) noL [eM]) (n := 129) (sg := sgO) (body := bO) (st := fun k => vO k) (bs := fun k => bsO O C (ordN O.length C) (plB O.length ((ordN O.length C).take k))) (len := (ordN O.length C).length) (k := 0) (oe := ⟨[.any], bsY O C⟩)
        (fun k hk => by
          rw [turnO]
          by_cases hlt : k < (ordN O.length C).length
          · obtain ⟨⟨x0, xn⟩, _, _⟩ := ord_least (ord_getD hlt)
            rw [decide_eq_true hlt, cond_true, decide_eq_true (show (k : Int) < ((ordN O.length C).length : Int) by omega), cond_true, En.inb_is hlt, En.inb_is hlt, En.inb_is hlt, En.inb_is hlt, mid_is hb hlt, hr, Int.toNat_natCast, plB_len, inb_in x0 xn, inb_in x0 xn, not_yet hlt, decide_eq_false (show ¬ (ordN O.length C).getD k 0 < 0 by omega), decide_eq_false (show ¬ (O.length : Int) ≤ (ordN O.length C).getD k 0 by omega), plB_set _ _ x0, take_snoc hlt, show w64 ((k : Int) + 1) = ((k + 1 : Nat) : Int) by rw [w64_rng (show Rng ((k : Int) + 1) by unfold Rng; omega)]; omega]
            rfl
          · rw [decide_eq_false hlt, decide_eq_false (show ¬ (k : Int) < ((ordN O.length C).length : Int) by omega)]; rfl) (ordN O.length C).length 0 (by omega)
      refine ⟨m, ?_⟩
      rw [List.take_zero, plB_nil] at hm
      exact hm.trans h2
    · simp [T.sel] at h2
  · simp [T.sel] at h
noncomputable def eO : LEnt := { id := 9, n := 129, sg := sgO, wr := writes bO, s := spO }
def sOrdG : FSpec
  | [.agg [.slw 0, .slw 1]], [⟨false, .oprs O⟩, ⟨false, .chns C⟩] => .node (decide (Gk.chkN O C = 0)) (.leaf ⟨[.slw 0, i64 0], [⟨true, .ints .i64 (ordN O.length C)⟩]⟩) .bad
  | _, _ => .bad
theorem okOrdG : FnOk (E0 B) 16 sOrdG := by
  refine Gf.or_spec Gk.okOrder Gk.okOrder fun vs bs r h => Or.inl ?_
  unfold sOrdG at h
  split at h
  · rename_i O C
    rcases T.node_sel h with ⟨hc, h2⟩ | ⟨_, h2⟩
    · unfold Gk.sOrder
      simp only [T.sel] at h2 ⊢
      rw [hc]; exact h2
    · simp [T.sel] at h2
  · simp [T.sel] at h
noncomputable def libO : Tb := (8, [], sTrueF) :: (22, [], Rc.sCk) :: (16, [], sOrdG) :: []
theorem libO_ok (hB : Laid B) : TbOk B libO := ((TbOk.nil.add okOrdG).add Rc.okCk).add (Gp.okAl24 hB)
theorem tOd (O : List Opr) (C : List Chn) : runL B libO [eO] Tryz.f6 [.agg [.slw 0, .slw 1]] [Jo.ob O, Jo.cb C] =
    bif decide (30 < (O.length : Int)) then rb true else bif decide (120 < (C.length : Int)) then rb true else bif !decide (Gk.chkN O C = 0) then rb true else
      Gk.gd (decide (Gk.chkN O C = 0)) (bif !decide (((ordN O.length C).length : Int) = (O.length : Int)) then rb false else
        Gk.gd (decide (0 ≤ (O.length : Int) ∧ (O.length : Int) ≤ (lim : Int) ∧ (O.length : Int) = (O.length : Int))) (Gk.gd (decide ((0 : Int) = 0 ∧ ordN O.length C = ordN O.length C ∧ List.replicate ((O.length : Int)).toNat false = List.replicate O.length false) && rcG O C) (rb true))) := by kernel_rfl
theorem od_is (O : List Opr) (C : List Chn) : runL B libO [eO] Tryz.f6 [.agg [.slw 0, .slw 1]] [Jo.ob O, Jo.cb C] = rb true := by
  rw [tOd]
  cases decide (30 < (O.length : Int)) with
  | true => rfl
  | false =>
  cases decide (120 < (C.length : Int)) with
  | true => rfl
  | false =>
  by_cases hc : Gk.chkN O C = 0
  · obtain ⟨hO, hC, hv⟩ := Gk.chk0 hc
    obtain ⟨h1, h2⟩ := valid_ord.1 hv
    have hr : rcG O C = true := by
      unfold rcG
      rw [Gk.jn_bnd h1.2, decide_eq_true (show C.length ≤ 1000 ∧ O.length ≤ 1000 by omega)]; rfl
    unfold Gk.gd
    rw [decide_eq_true hc, hr, decide_eq_true (show ((ordN O.length C).length : Int) = (O.length : Int) by omega), decide_eq_true (show 0 ≤ (O.length : Int) ∧ (O.length : Int) ≤ (lim : Int) ∧ (O.length : Int) = (O.length : Int) from ⟨by omega, Int.ofNat_le.2 (show O.length ≤ lim by simp only [lim]; omega), rfl⟩),
      decide_eq_true (show (0 : Int) = 0 ∧ ordN O.length C = ordN O.length C ∧ List.replicate ((O.length : Int)).toNat false = List.replicate O.length false from ⟨rfl, rfl, by rw [Int.toNat_natCast]⟩)]
    rfl
  · rw [decide_eq_false hc]; rfl
def sOd : FSpec
  | [.agg [.slw 0, .slw 1]], [⟨false, .oprs _⟩, ⟨false, .chns _⟩] => .leaf ⟨[.bool true], []⟩
  | _, _ => .bad
def sOdB (_ : Nat → Option Obj) : FSpec := sOd
theorem okOd (hB : Laid B) : FnOk (E0 B) 6 sOd := by
  refine fnL (libO_ok hB) (ls := [eO]) Tryz.func6 (by kernel_rfl) (by kernel_rfl) (fun x hx => ?_) fun vs bs out h => ?_
  · simp only [List.mem_singleton] at hx; subst hx
    exact ⟨bO, by kernel_rfl, rfl, loopO⟩
  · unfold sOd at h
    split at h
    · rename_i O C
      simp only [T.sel, Option.some.injEq] at h
      subst h
      exact od_is O C
    · simp [T.sel] at h
end Go.Proofs.YtdckpbeioemopaaGreatDoor.Od
namespace Go.Am
open Go.RowKit Go.WideShapes Go.ChangeShapes
section
variable {H : Type} {enc : TypeId × Value → H} {P : Program} {w : World} {base : Nat} {spare : Nat → Bool} {held : Bool}
def oprWf (x : Opr) : Prop := (Lit.int .u8 x.kind).wf = true ∧ (Lit.int .i64 x.n).wf = true
def chnWf (x : Chn) : Prop := (Lit.int .i64 x.src).wf = true ∧ (Lit.int .i64 x.out).wf = true ∧ (Lit.int .i64 x.dst).wf = true ∧ (Lit.int .i64 x.inp).wf = true ∧ (Lit.int .i64 x.room).wf = true
theorem opr_elem {e : TypeId} {f0 f1 : Field} (he : P.underlying e = some (.struct #[f0, f1])) (hc : P.cellsOf e = 2) (o0 : f0.offset = 0) (o1 : f1.offset = 1) (c0 : P.cellsOf f0.type = 1) (c1 : P.cellsOf f1.type = 1)
    (h0 : P.underlying f0.type = some (.int .u8)) (h1 : P.underlying f1.type = some (.int .i64)) (n : Nat) (cs : List Value) (y : DataW H × List MemPlace) (h : DataW.trod enc P w base spare held n e cs = some y) :
    ∃ x : Opr, VL (fun _ => none) x.enc cs ∧ oprWf x := by
  obtain ⟨xs, n', _, _, hl, hxl, hf⟩ := DataW.trod_struct he h
  rw [hc] at hl
  match cs, hl with
  | [a, b], _ =>
    have hx : xs.length = 2 := hxl
    match xs, hx with
    | [y0, y1], _ =>
      have g0 := hf 0 f0 rfl
      have g1 := hf 1 f1 rfl
      rw [o0, c0] at g0
      rw [o1, c1] at g1
      obtain ⟨k, e0, _, w0⟩ := DataW.trod_int h0 g0
      obtain ⟨n1, e1, _, w1⟩ := DataW.trod_int h1 g1
      simp only [List.drop_zero, List.take_succ_cons, List.take_zero, List.drop_succ_cons, List.cons.injEq, and_true] at e0 e1
      subst e0 e1
      refine ⟨⟨k, n1⟩, ?_, w0, w1⟩
      simp only [Opr.enc, VL, V]
      exact ⟨_, _, rfl, rfl, _, _, rfl, rfl, rfl⟩
theorem chn_elem {e : TypeId} {f0 f1 f2 f3 f4 : Field} (he : P.underlying e = some (.struct #[f0, f1, f2, f3, f4])) (hc : P.cellsOf e = 5) (o0 : f0.offset = 0) (o1 : f1.offset = 1) (o2 : f2.offset = 2) (o3 : f3.offset = 3) (o4 : f4.offset = 4)
    (c0 : P.cellsOf f0.type = 1) (c1 : P.cellsOf f1.type = 1) (c2 : P.cellsOf f2.type = 1) (c3 : P.cellsOf f3.type = 1) (c4 : P.cellsOf f4.type = 1)
    (h0 : P.underlying f0.type = some (.int .i64)) (h1 : P.underlying f1.type = some (.int .i64)) (h2 : P.underlying f2.type = some (.int .i64)) (h3 : P.underlying f3.type = some (.int .i64)) (h4 : P.underlying f4.type = some (.int .i64))
    (n : Nat) (cs : List Value) (y : DataW H × List MemPlace) (h : DataW.trod enc P w base spare held n e cs = some y) :
    ∃ x : Chn, VL (fun _ => none) x.enc cs ∧ chnWf x := by
  obtain ⟨xs, n', _, _, hl, hxl, hf⟩ := DataW.trod_struct he h
  rw [hc] at hl
  match cs, hl with
  | [a, b, c, d, e'], _ =>
    have hx : xs.length = 5 := hxl
    match xs, hx with
    | [y0, y1, y2, y3, y4], _ =>
      have g0 := hf 0 f0 rfl
      have g1 := hf 1 f1 rfl
      have g2 := hf 2 f2 rfl
      have g3 := hf 3 f3 rfl
      have g4 := hf 4 f4 rfl
      rw [o0, c0] at g0
      rw [o1, c1] at g1
      rw [o2, c2] at g2
      rw [o3, c3] at g3
      rw [o4, c4] at g4
      obtain ⟨k, e0, _, w0⟩ := DataW.trod_int h0 g0
      obtain ⟨n1, e1, _, w1⟩ := DataW.trod_int h1 g1
      obtain ⟨n2, e2, _, w2⟩ := DataW.trod_int h2 g2
      obtain ⟨n3, e3, _, w3⟩ := DataW.trod_int h3 g3
      obtain ⟨n4, e4, _, w4⟩ := DataW.trod_int h4 g4
      simp only [List.drop_zero, List.take_succ_cons, List.take_zero, List.drop_succ_cons, List.cons.injEq, and_true] at e0 e1 e2 e3 e4
      subst e0 e1 e2 e3 e4
      refine ⟨⟨k, n1, n2, n3, n4⟩, ?_, w0, w1, w2, w3, w4⟩
      simp only [Chn.enc, VL, V]
      exact ⟨_, _, rfl, rfl, _, _, rfl, rfl, _, _, rfl, rfl, _, _, rfl, rfl, _, _, rfl, rfl, rfl⟩
def OprsAt (w : World) (L : List Opr) (p : Pos) : Prop := p.stride = 2 ∧ p.len = L.length ∧ p.len ≤ p.cap ∧ p.cap ≤ maxLen ∧ ∀ i, i < L.length → ∀ j av, ((L.getD i default).enc)[j]? = some av → ∃ c, w.cell? (p.addr i j) = some c ∧ V (fun _ => none) av c
def ChnsAt (w : World) (L : List Chn) (p : Pos) : Prop := p.stride = 5 ∧ p.len = L.length ∧ p.len ≤ p.cap ∧ p.cap ≤ maxLen ∧ ∀ i, i < L.length → ∀ j av, ((L.getD i default).enc)[j]? = some av → ∃ c, w.cell? (p.addr i j) = some c ∧ V (fun _ => none) av c
theorem OprsAt.rd {w : World} {L : List Opr} {p : Pos} (h : OprsAt w L p) : RdD w (.oprs L) p := ⟨h.1, h.2.1, h.2.2.1, h.2.2.2.1, fun _ _ => ⟨rfl, rfl⟩, h.2.2.2.2⟩
theorem ChnsAt.rd {w : World} {L : List Chn} {p : Pos} (h : ChnsAt w L p) : RdD w (.chns L) p := ⟨h.1, h.2.1, h.2.2.1, h.2.2.2.1, fun _ _ => ⟨rfl, rfl⟩, h.2.2.2.2⟩
structure GrT (P : Program) (t ol cl eO eC : TypeId) (f0 f1 : Field) : Prop where
  ht : P.underlying t = some (.struct #[f0, f1])
  hts : P.cellTypes P.depth t = some [ol, cl]
  hn : P.cellsOf t = 2
  o0 : f0.offset = 0
  o1 : f1.offset = 1
  c0 : P.cellsOf f0.type = 1
  c1 : P.cellsOf f1.type = 1
  t0 : f0.type = ol
  t1 : f1.type = cl
  hl : P.underlying ol = some (.slice eO)
  hk : P.underlying cl = some (.slice eC)
  h1 : P.cellsOf eO = 2
  h2 : P.cellsOf eC = 5
def GraphV (w : World) (O : List Opr) (C : List Chn) (p0 p1 : Pos) (v : Value) : Prop :=
  ∃ v0 v1, v = .agg #[v0, v1] ∧ V (fun _ => some p0) (.slw 0) v0 ∧ V (fun _ => some p1) (.slw 0) v1 ∧ OprsAt w O p0 ∧ ChnsAt w C p1
def graphAv (a b : Nat) : AV := .agg [.slw a, .slw b]
theorem GraphV.at' {w : World} {O : List Opr} {C : List Chn} {p0 p1 : Pos} {v : Value} (h : GraphV w O C p0 p1 v) {ps : List Pos} {a b : Nat} (ha : ps[a]? = some p0) (hb : ps[b]? = some p1) : V (psRho ps) (graphAv a b) v := by
  obtain ⟨v0, v1, rfl, h0, h1, _⟩ := h
  unfold graphAv
  simp only [V]
  refine ⟨_, rfl, ?_⟩
  simp only [VL]
  exact ⟨_, _, rfl, slw_at ha h0, _, _, rfl, slw_at hb h1, rfl⟩
def OprEl (enc : TypeId × Value → H) (P : Program) (w : World) (base : Nat) (spare : Nat → Bool) (held : Bool) (e : TypeId) : Prop :=
  ∀ (n : Nat) (cs : List Value) (y : DataW H × List MemPlace), DataW.trod enc P w base spare held n e cs = some y → ∃ x : Opr, VL (fun _ => none) x.enc cs ∧ oprWf x
def ChnEl (enc : TypeId × Value → H) (P : Program) (w : World) (base : Nat) (spare : Nat → Bool) (held : Bool) (e : TypeId) : Prop :=
  ∀ (n : Nat) (cs : List Value) (y : DataW H × List MemPlace), DataW.trod enc P w base spare held n e cs = some y → ∃ x : Chn, VL (fun _ => none) x.enc cs ∧ chnWf x
theorem graph_arg {t ol cl eO eC : TypeId} {f0 f1 : Field} (S : GrT P t ol cl eO eC f0 f1) (hO : OprEl enc P w base spare held eO) (hC : ChnEl enc P w base spare held eC) {b0 : Nat} {v : Value} {d : DataW H} {ps : List MemPlace}
    (hval : Value.okWide P w .any b0 t v) (h : DataW.Trod enc P w base spare held t v d ps) : ∃ O C p0 p1, GraphV w O C p0 p1 v ∧ (∀ x ∈ O, oprWf x) ∧ ∀ x ∈ C, chnWf x := by
  simp only [Value.okWide, S.ht] at hval
  obtain ⟨cs, rfl, hs, ts', h1, _, h2⟩ := hval
  rw [S.hts] at h1
  cases h1
  have hcs : cs.toList.length = 2 := by rw [Array.length_toList, hs, S.hn]
  obtain ⟨n, h⟩ := h
  have hok0 : ∀ (i : Nat) v u, cs.toList[i]? = some v → [ol, cl][i]? = some u → Cell.okWide P w .any b0 u v := fun i v u hi hu => by
    obtain ⟨u', hu', hok⟩ := h2 i v (by simpa using hi)
    have hlt : i < 2 := (List.getElem?_eq_some_iff.1 hu).1
    rw [show [ol, cl].length = 2 from rfl, Nat.mod_eq_of_lt hlt, hu] at hu'
    cases hu'
    exact hok
  obtain ⟨c0, c1, hc⟩ : ∃ c0 c1, cs.toList = [c0, c1] := by
    match hc : cs.toList, hcs with
    | [c0, c1], _ => exact ⟨c0, c1, rfl⟩
  have h : DataW.trod enc P w base spare held n t [c0, c1] = some (d, ps) := by
    rw [← hc]; simpa [Value.cells] using h
  obtain ⟨xs, n', _, _, _, hxl, hf⟩ := DataW.trod_struct S.ht h
  have k0 := hf 0 f0 rfl
  have k1 := hf 1 f1 rfl
  rw [S.o0, S.c0, S.t0] at k0
  rw [S.o1, S.c1, S.t1] at k1
  simp only [List.drop_succ_cons, List.drop_zero, List.take_succ_cons, List.take_zero] at k0 k1
  have hx : xs.length = 2 := hxl
  obtain ⟨y0, e0⟩ : ∃ y, xs[0]? = some y := ⟨_, List.getElem?_eq_getElem (by omega)⟩
  obtain ⟨y1, e1⟩ : ∃ y, xs[1]? = some y := ⟨_, List.getElem?_eq_getElem (by omega)⟩
  rw [e0] at k0
  rw [e1] at k1
  have v0 := cell_slice S.hl (hok0 0 c0 _ (by rw [hc]; rfl) rfl)
  have v1 := cell_slice S.hk (hok0 1 c1 _ (by rw [hc]; rfl) rfl)
  have tr0 : DataW.Trod enc P w base spare held ol c0 y0.1 y0.2 := by
    have hv := v0
    obtain ⟨_, _, _, rfl⟩ := okWide_slice S.hl hv
    exact ⟨n', k0⟩
  have tr1 : DataW.Trod enc P w base spare held cl c1 y1.1 y1.2 := by
    have hv := v1
    obtain ⟨_, _, _, rfl⟩ := okWide_slice S.hk hv
    exact ⟨n', k1⟩
  obtain ⟨L1, p1, r1, s1, s2, s3, s4, q1, s5⟩ := slice_arg Opr.enc oprWf S.hl v0 tr0 hO
  obtain ⟨L2, p2, r2, u1, u2, u3, u4, q2, u5⟩ := slice_arg Chn.enc chnWf S.hk v1 tr1 hC
  refine ⟨L1, L2, p1, p2, ⟨c0, c1, ?_, r1, r2, ⟨s1.trans S.h1, s2, s3, s4, s5⟩, ⟨u1.trans S.h2, u2, u3, u4, u5⟩⟩, q1, q2⟩
  have : cs = [c0, c1].toArray := by rw [← hc]
  rw [this]
end
end Go.Am
