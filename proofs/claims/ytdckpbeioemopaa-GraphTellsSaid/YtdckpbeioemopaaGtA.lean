/-
  Texts put together: OrdLaw, OrdLaw2, AmGo, GrCk, GtOrd, GtOrd2.
-/
import Derived.Test.YtdckpbeioemopaaGrB
import Derived.Test.YtdckpbeioemopaaLibA
import Derived.Test.YtdckpbeioemopaaGrChk
import Derived.Test.YtdckpbeioemopaaGrA
namespace Go.Am
theorem ordGo_pre {n : Nat} {C : List Chn} : ∀ (k : Nat) (p : List Int), ∃ s, ordGo n C k p = p ++ s
  | 0, p => ⟨[], by simp [ordGo]⟩
  | k + 1, p => by
    unfold ordGo
    cases decide (nextN n C p < 0) with
    | true => exact ⟨[], by simp⟩
    | false =>
      obtain ⟨s, hs⟩ := ordGo_pre (n := n) (C := C) k (p ++ [nextN n C p])
      exact ⟨nextN n C p :: s, by rw [cond_false, hs]; simp⟩
theorem ordGo_at {n : Nat} {C : List Chn} : ∀ (k : Nat) (p : List Int) (i : Nat) (x : Int), p.length ≤ i → (ordGo n C k p)[i]? = some x → 0 ≤ x ∧ x = nextN n C ((ordGo n C k p).take i)
  | 0, p, i, x, hi, hx => by
    have := (List.getElem?_eq_some_iff.1 hx).1
    unfold ordGo at this
    omega
  | k + 1, p, i, x, hi, hx => by
    by_cases hn : nextN n C p < 0
    · unfold ordGo at hx
      rw [decide_eq_true hn, cond_true] at hx
      have := (List.getElem?_eq_some_iff.1 hx).1
      omega
    · rw [ordGo_more (by omega)] at hx ⊢
      rcases Nat.lt_or_ge p.length i with h1 | h1
      · exact ordGo_at k _ i x (by simp; omega) hx
      · have hie : i = p.length := by omega
        subst hie
        obtain ⟨s, hs⟩ := ordGo_pre (n := n) (C := C) k (p ++ [nextN n C p])
        rw [hs] at hx ⊢
        rw [List.append_assoc] at hx ⊢
        rw [List.getElem?_append_right (Nat.le_refl _)] at hx
        simp at hx
        rw [List.take_left']
        · exact ⟨by omega, hx.symm⟩
        · rfl
def plB (n : Nat) (p : List Int) : List Bool := (List.range n).map fun (v : Nat) => p.contains (v : Int)
theorem plB_len (n : Nat) (p : List Int) : (plB n p).length = n := by simp [plB]
theorem plB_get {n : Nat} (p : List Int) {v : Int} (h0 : 0 ≤ v) (hn : v < (n : Int)) : (plB n p).getD v.toNat false = p.contains v := by
  unfold plB
  rw [List.getD, List.getElem?_map, List.getElem?_range (by omega)]
  simp only [Option.map_some, Option.getD_some]
  rw [show ((v.toNat : Nat) : Int) = v by omega]
theorem plB_nil (n : Nat) : plB n [] = List.replicate n false := by
  unfold plB
  apply List.ext_getElem
  · simp
  · intro i _ _; simp
theorem plB_set (n : Nat) (p : List Int) {x : Int} (h0 : 0 ≤ x) : (plB n p).set x.toNat true = plB n (p ++ [x]) := by
  apply List.ext_getElem
  · simp [plB]
  · intro i h1 h2
    rw [List.getElem_set]
    simp only [plB, List.getElem_map, List.getElem_range]
    by_cases h : x.toNat = i
    · rw [if_pos h]
      have : x = (i : Int) := by omega
      simp [this]
    · rw [if_neg h]
      have : ¬ (i : Int) = x := by omega
      simp [this]
def rdB (C : List Chn) (P : List Bool) (op : Int) (r : Bool) (k : Nat) : Bool := r && (C.take k).all fun c => !decide (c.dst = op) || P.getD c.src.toNat false
theorem rdB_zero (C : List Chn) (P : List Bool) (op : Int) (r : Bool) : rdB C P op r 0 = r := by simp [rdB]
theorem rdB_succ {C : List Chn} {k : Nat} (h : k < C.length) (P : List Bool) (op : Int) (r : Bool) : rdB C P op r (k + 1) = (rdB C P op r k && (!decide ((C.getD k default).dst = op) || P.getD (C.getD k default).src.toNat false)) := by
  have hk : C[k]? = some (C.getD k default) := by rw [List.getD, List.getElem?_eq_getElem h]; rfl
  unfold rdB
  rw [List.take_add_one, hk, Option.toList_some, List.all_append, List.all_cons, List.all_nil, Bool.and_true, Bool.and_assoc]
theorem rdB_is {n : Nat} {C : List Chn} (hb : bndC n C = true) (p : List Int) {op : Int} (h0 : 0 ≤ op) (hn : op < (n : Int)) : rdB C (plB n p) op (!(plB n p).getD op.toNat false) C.length = rdyN C p op := by
  unfold rdB
  rw [List.take_length, plB_get p h0 hn, Bool.eq_iff_iff, rdyN_is, cntP_zero, Bool.and_eq_true, List.all_eq_true]
  constructor
  · rintro ⟨h1, h2⟩
    refine ⟨by simpa using h1, fun c hc hd => ?_⟩
    have := h2 c hc
    have hbc := bndC_mem hb hc
    rw [plB_get p hbc.1 hbc.2.1, decide_eq_true hd] at this
    simpa using this
  · rintro ⟨h1, h2⟩
    refine ⟨by simpa using h1, fun c hc => ?_⟩
    have hbc := bndC_mem hb hc
    rw [plB_get p hbc.1 hbc.2.1]
    by_cases hd : c.dst = op
    · rw [Bool.or_eq_true]; right
      simpa using h2 c hc hd
    · simp [hd]
theorem ord_least {n : Nat} {C : List Chn} {i : Nat} {x : Int} (hx : (ordN n C)[i]? = some x) :
    (0 ≤ x ∧ x < (n : Int)) ∧ rdyN C ((ordN n C).take i) x = true ∧ ∀ y : Int, 0 ≤ y → y ≤ x → rdyN C ((ordN n C).take i) y = decide (y = x) := by
  obtain ⟨h0, he⟩ := ordGo_at n [] i x (by simp) hx
  have he : x = nextN n C ((ordN n C).take i) := he
  rcases least_next n C ((ordN n C).take i) with ⟨h1, _⟩ | ⟨_, h2, h3, h4⟩
  · omega
  · rw [← he] at h2 h3 h4
    refine ⟨⟨h0, h2⟩, h3, fun y hy hyx => ?_⟩
    by_cases e : y = x
    · subst e; rw [h3, decide_eq_true rfl]
    · rw [decide_eq_false e]
      cases hr : rdyN C ((ordN n C).take i) y with
      | false => rfl
      | true => have := h4 y hy (by omega) hr; omega
end Go.Am
namespace Go.Am
def dnA (f : Nat → Bool) (n : Nat) : Nat → Int
  | 0 => -1
  | s + 1 => bif f (n - 1 - s) then ((n - 1 - s : Nat) : Int) else dnA f n s
theorem dnA_drop (f : Nat → Bool) (n : Nat) : ∀ s, s ≤ n → dnA f n s = (match ((List.range n).drop (n - s)).find? f with
    | none => -1
    | some i => ((i : Nat) : Int))
  | 0, _ => by
    rw [List.drop_eq_nil_of_le (by simp)]; rfl
  | s + 1, hs => by
    have hlt : n - (s + 1) < (List.range n).length := by simp; omega
    rw [List.drop_eq_getElem_cons hlt, List.getElem_range, show n - (s + 1) + 1 = n - s by omega, List.find?_cons]
    unfold dnA
    rw [show n - 1 - s = n - (s + 1) by omega]
    cases f (n - (s + 1)) with
    | true => rfl
    | false => exact dnA_drop f n s (by omega)
theorem dnA_next (n : Nat) (C : List Chn) (p : List Int) : dnA (fun i => rdyN C p (i : Int)) n n = nextN n C p := by
  rw [dnA_drop _ n n (Nat.le_refl _), Nat.sub_self, List.drop_zero]
  rfl
theorem dnA_congr {f g : Nat → Bool} {n : Nat} (h : ∀ i, i < n → f i = g i) : ∀ s, s ≤ n → dnA f n s = dnA g n s
  | 0, _ => rfl
  | s + 1, hs => by
    unfold dnA
    rw [h (n - 1 - s) (by omega), dnA_congr h s (by omega)]
theorem ord_next {n : Nat} {C : List Chn} {i : Nat} {x : Int} (hx : (ordN n C)[i]? = some x) : nextN n C ((ordN n C).take i) = x :=
  (ordGo_at n [] i x (by simp) hx).2.symm
end Go.Am
namespace Go.Am
theorem go_turns {E : Env} {C : CallR} {L : LoopR} {n : Nat} {sg : LSig} {body : Code} {st : Nat → List AV} {bs : Nat → List Blk} {len k : Nat} {oe : Out}
    (h : ∀ i : Nat, i ≤ len → (turn E C L n sg body (st i) (bs i)).sel = bif decide (i < len) then some (.normal, ⟨st (i + 1), bs (i + 1)⟩) else some (.exit k, oe)) :
    ∀ (f i : Nat), i + f = len → ∃ m, (turns E C L n sg body m (st i) (bs i)).sel = some (.exit k, oe)
  | 0, i, hi => by
    have ht := h i (by omega)
    rw [decide_eq_false (by omega), cond_false] at ht
    exact ⟨1, turns_done ht (by simp)⟩
  | f + 1, i, hi => by
    have ht := h i (by omega)
    rw [decide_eq_true (show i < len by omega), cond_true] at ht
    obtain ⟨m, hm⟩ := go_turns h f (i + 1) (by omega)
    exact ⟨m + 1, (turns_more' ht).trans hm⟩
end Go.Am
namespace Go.Proofs.Ytdckpbeioemopaa.Rc
open Go.Am Go Go.Proofs.Ytdckpbeioemopaa Go.Proofs.Ytdckpbeioemopaa.Gr
set_option maxRecDepth 100000
variable {B : Nat → Option Obj}
theorem tCk (O : List Opr) (C : List Chn) : runT B libH Try.f13 [.agg [.slw 0, .slw 1]] [Jo.ob O, Jo.cb C] =
    bif decide (20 < (O.length : Int)) then Gk.rn 4 else bif decide (100 < (C.length : Int)) then Gk.rn 4 else Gk.gd (decide (C.length ≤ 1000 ∧ O.length ≤ 1000)) (bif !validN O C then Gk.rn 8 else Gk.rn 0) := by kernel_rfl
theorem ck_is (O : List Opr) (C : List Chn) : (bif decide (20 < (O.length : Int)) then Gk.rn 4 else bif decide (100 < (C.length : Int)) then Gk.rn 4 else Gk.gd (decide (C.length ≤ 1000 ∧ O.length ≤ 1000)) (bif !validN O C then Gk.rn 8 else Gk.rn 0)) = Gk.rn (Gk.chkN O C) := by
  unfold Gk.chkN Gk.gd
  by_cases h1 : 20 < O.length
  · rw [decide_eq_true (show (20 : Int) < (O.length : Int) by omega), decide_eq_true h1]; rfl
  rw [decide_eq_false (show ¬ (20 : Int) < (O.length : Int) by omega), decide_eq_false h1, cond_false]
  by_cases h2 : 100 < C.length
  · rw [decide_eq_true (show (100 : Int) < (C.length : Int) by omega), decide_eq_true h2]; rfl
  rw [decide_eq_false (show ¬ (100 : Int) < (C.length : Int) by omega), decide_eq_false h2, cond_false, decide_eq_true (show C.length ≤ 1000 ∧ O.length ≤ 1000 by omega)]
  cases validN O C <;> rfl
def sCk : FSpec
  | [.agg [.slw 0, .slw 1]], [⟨false, .oprs O⟩, ⟨false, .chns C⟩] => .leaf ⟨[i64 (Gk.chkN O C)], []⟩
  | _, _ => .bad
theorem okCk : FnOk (E0 B) 13 sCk := by
  refine fnT libH_ok Try.func13 (by kernel_rfl) (by kernel_rfl) fun vs bs r h => ?_
  unfold sCk at h
  split at h
  · rename_i O C
    simp only [T.sel, Option.some.injEq] at h
    subst h
    exact (tCk O C).trans (ck_is O C)
  · simp [T.sel] at h
end Go.Proofs.Ytdckpbeioemopaa.Rc
namespace Go.Proofs.Ytdckpbeioemopaa.To
open Go.Am Go Go.Proofs.Ytdckpbeioemopaa Go.Proofs.Ytdckpbeioemopaa.Gr
set_option maxRecDepth 100000
variable {B : Nat → Option Obj}
noncomputable def wC : Code := bodyC Try.f9
noncomputable def bO : Code := loopAt 6 (loopsOf wC)
noncomputable def bM : Code := loopAt 9 (loopsOf bO)
noncomputable def bK : Code := loopAt 13 (loopsOf bM)
def sgK : LSig := { cs := [(1, 0), (8, 0)], mv := [(5, 62), (9, 0), (10, 0)], mo := [(5, 62), (9, 0)], take := [1] }
def vK (op : Int) (r : Bool) (k : Int) : List AV := [.ptr 0 0 0, i64 op, .slw 1, .bool r, i64 k]
def bsK (O : List Opr) (C : List Chn) (R : List Bool) : List Blk := [Jo.gBx 2 3, ⟨true, .bools R⟩, Jo.ob O, Jo.cb C]
def nrK (O : List Opr) (C : List Chn) (R : List Bool) (op k : Int) (r : Bool) : Option (AExit × Out) := some (.normal, ⟨vK op r (w64 (k + 1)), bsK O C R⟩)
theorem turnK (O : List Opr) (C : List Chn) (R : List Bool) (op k : Int) (r : Bool) : (turn (E0 B) (Cx B []) noL 78 sgK bK (vK op r k) (bsK O C R)).sel =
    bif decide (k < (C.length : Int)) then Jo.inb k C.length (bif decide ((C.getD k.toNat default).dst = op) then Jo.inb k C.length (Jo.inb (C.getD k.toNat default).src R.length (bif !R.getD (C.getD k.toNat default).src.toNat false then nrK O C R op k false else nrK O C R op k r)) else nrK O C R op k r) else some (.exit 4, ⟨[.slw 1, .bool r], bsK O C R⟩) := by kernel_rfl
theorem inb_in {i : Int} {n : Nat} {r : Option (AExit × Out)} (h0 : 0 ≤ i) (hn : i < (n : Int)) : Jo.inb i n r = r := by
  unfold Jo.inb
  rw [decide_eq_true (show 0 ≤ i ∧ i < (n : Int) from ⟨h0, hn⟩), decide_eq_true (show i.toNat < n by omega)]; rfl
theorem turnK_is {O : List Opr} {C : List Chn} {R : List Bool} {op : Int} {k : Nat} {r : Bool} (hk : k < C.length) (hR : R.length = O.length) (hb : bndC O.length C = true) (hC : C.length ≤ 1000) :
    (turn (E0 B) (Cx B []) noL 78 sgK bK (vK op r k) (bsK O C R)).sel = some (.normal, ⟨vK op (r && (!decide ((C.getD k default).dst = op) || R.getD (C.getD k default).src.toNat false)) ((k + 1 : Nat) : Int), bsK O C R⟩) := by
  have hm : C.getD k default ∈ C := by
    rw [show C.getD k default = C[k] by simp [List.getD, hk]]
    exact List.getElem_mem hk
  obtain ⟨b1, b2, _, _⟩ := bndC_mem hb hm
  have hw : w64 ((k : Int) + 1) = ((k + 1 : Nat) : Int) := by rw [w64_rng (show Rng ((k : Int) + 1) by unfold Rng; omega)]; omega
  refine (turnK O C R op k r).trans ?_
  rw [decide_eq_true (show (k : Int) < (C.length : Int) by omega), cond_true, En.inb_is hk, En.inb_is hk, Int.toNat_natCast, inb_in b1 (show (C.getD k default).src < ((R.length : Nat) : Int) by omega)]
  unfold nrK
  rw [hw]
  cases decide ((C.getD k default).dst = op) <;> cases r <;> cases R.getD (C.getD k default).src.toNat false <;> rfl
def spK : LSpec
  | [.ptr 0 0 0, .int .i64 op, .slw 1, .bool r, .int .i64 k], [⟨true, .gen [a, b] [[.slw 2, .slw 3]]⟩, ⟨true, .bools R⟩, ⟨false, .oprs O⟩, ⟨false, .chns C⟩] =>
    .node (decide (a = 31 ∧ b = 32) && (decide (k = 0 ∧ R.length = O.length) && rcG O C)) (.leaf (.exit 4, ⟨[.slw 1, .bool (rdB C R op r C.length)], bsK O C R⟩)) .bad
  | _, _ => .bad
theorem rcG_of {O : List Opr} {C : List Chn} (h : rcG O C = true) : C.length ≤ 1000 ∧ O.length ≤ 1000 ∧ bndC O.length C = true := by
  unfold rcG at h
  rw [Bool.and_eq_true] at h
  have := of_decide_eq_true h.1
  exact ⟨this.1, this.2, h.2⟩
theorem loopK : LoopOk (E0 B) 78 sgK bK spK := by
  refine loop_turns (C := Cx B []) (L := noL) (cxOk TbOk.nil) (noL_ok _) fun vs bs e o h => ?_
  unfold spK at h
  split at h
  · rename_i op r k a b R O C
    rcases T.node_sel h with ⟨hc, h2⟩ | ⟨_, h2⟩
    · rw [Bool.and_eq_true, Bool.and_eq_true] at hc
      obtain ⟨rfl, rfl⟩ := of_decide_eq_true hc.1
      obtain ⟨rfl, hR⟩ := of_decide_eq_true hc.2.1
      obtain ⟨hC, _, hb⟩ := rcG_of hc.2.2
      obtain ⟨m, hm⟩ := go_turns (E := E0 B) (C := Cx B []) (L := noL) (n := 78) (sg := sgK) (body := bK) (st := fun k => vK op (rdB C R op r k) k) (bs := fun _ => bsK O C R) (len := C.length) (k := 4) (oe := ⟨[.slw 1, .bool (rdB C R op r C.length)], bsK O C R⟩)
        (fun k hk => by
          by_cases hlt : k < C.length
          · rw [decide_eq_true hlt, cond_true, rdB_succ hlt]
            exact turnK_is hlt hR hb hC
          · have : k = C.length := by omega
            subst this
            rw [turnK, decide_eq_false (show ¬ ((C.length : Nat) : Int) < ((C.length : Nat) : Int) by omega), decide_eq_false hlt]; rfl) C.length 0 (by omega)
      refine ⟨m, ?_⟩
      rw [rdB_zero] at hm
      exact hm.trans h2
    · simp [T.sel] at h2
  · simp [T.sel] at h
noncomputable def eK : LEnt := { id := 13, n := 78, sg := sgK, wr := writes bK, s := spK }
def sgM : LSig := { cs := [(1, 0)], mv := [(5, 62), (7, 0), (8, 0)], mo := [(5, 62), (7, 0)], take := [1] }
def vM (x i : Int) : List AV := [.ptr 0 0 0, .slw 1, i64 x, i64 i]
def nrM (O : List Opr) (C : List Chn) (R : List Bool) (x i : Int) : Option (AExit × Out) := some (.normal, ⟨vM x (w64 (i - 1)), bsK O C R⟩)
theorem turnM (O : List Opr) (C : List Chn) (R : List Bool) (x i : Int) : (turn (E0 B) (Cx B []) (loopL (E0 B) noL [eK]) 78 sgM bM (vM x i) (bsK O C R)).sel =
    bif decide (0 ≤ i) then Jo.inb i R.length (Jo.gd (decide ((0 : Int) = 0 ∧ R.length = O.length) && rcG O C) (bif rdB C R i (!R.getD i.toNat false) C.length then nrM O C R i i else nrM O C R x i)) else some (.exit 2, ⟨[.slw 1, i64 x], bsK O C R⟩) := by kernel_rfl
def rdF (C : List Chn) (R : List Bool) (i : Nat) : Bool := rdB C R (i : Int) (!R.getD i false) C.length
def spM : LSpec
  | [.ptr 0 0 0, .slw 1, .int .i64 x, .int .i64 i], [⟨true, .gen [a, b] [[.slw 2, .slw 3]]⟩, ⟨true, .bools R⟩, ⟨false, .oprs O⟩, ⟨false, .chns C⟩] =>
    .node (decide (a = 31 ∧ b = 32) && (decide (x = -1 ∧ i = w64 ((O.length : Int) - 1) ∧ R.length = O.length) && rcG O C)) (.leaf (.exit 2, ⟨[.slw 1, i64 (dnA (rdF C R) O.length O.length)], bsK O C R⟩)) .bad
  | _, _ => .bad
theorem loopM : LoopOk (E0 B) 78 sgM bM spM := by
  refine loop_turns (C := Cx B []) (L := loopL (E0 B) noL [eK]) (cxOk TbOk.nil) (loopL_fits (fun x hx => by
    simp only [List.mem_singleton] at hx; subst hx
    exact ⟨bK, by kernel_rfl, rfl, loopK⟩) noL_ok) fun vs bs e o h => ?_
  unfold spM at h
  split at h
  · rename_i x i a b R O C
    rcases T.node_sel h with ⟨hc, h2⟩ | ⟨_, h2⟩
    · rw [Bool.and_eq_true, Bool.and_eq_true] at hc
      obtain ⟨rfl, rfl⟩ := of_decide_eq_true hc.1
      obtain ⟨rfl, rfl, hR⟩ := of_decide_eq_true hc.2.1
      have hr := hc.2.2
      obtain ⟨hC, hO, hb⟩ := rcG_of hr
      obtain ⟨m, hm⟩ := go_turns (E := E0 B) (C := Cx B []) (L := loopL (E0 B) noL [eK]) (n := 78) (sg := sgM) (body := bM) (st := fun k => vM (dnA (rdF C R) O.length k) ((O.length : Int) - 1 - k)) (bs := fun _ => bsK O C R) (len := O.length) (k := 2) (oe := ⟨[.slw 1, i64 (dnA (rdF C R) O.length O.length)], bsK O C R⟩)
        (fun k hk => by
          rw [turnM]
          by_cases hlt : k < O.length
          · obtain ⟨j, hj⟩ : ∃ j : Nat, (O.length : Int) - 1 - k = (j : Int) := ⟨O.length - 1 - k, by omega⟩
            have hjn : O.length - 1 - k = j := by omega
            have e1 : (O.length : Int) - 1 - ((k + 1 : Nat) : Int) = (j : Int) - 1 := by omega
            rw [decide_eq_true hlt, cond_true, hj, decide_eq_true (show 0 ≤ (j : Int) by omega), cond_true, En.inb_is (show j < R.length by omega), hr, decide_eq_true (show (0 : Int) = 0 ∧ R.length = O.length from ⟨rfl, hR⟩), Int.toNat_natCast, e1, show dnA (rdF C R) O.length (k + 1) = (bif rdF C R j then (j : Int) else dnA (rdF C R) O.length k) by rw [← hjn]; rfl]
            unfold nrM
            rw [w64_rng (show Rng ((j : Int) - 1) by unfold Rng; omega)]
            show (bif rdF C R j then _ else _) = _
            cases rdF C R j <;> rfl
          · have : k = O.length := by omega
            subst this
            rw [decide_eq_false hlt, decide_eq_false (show ¬ 0 ≤ (O.length : Int) - 1 - ((O.length : Nat) : Int) by omega)]; rfl) O.length 0 (by omega)
      refine ⟨m, ?_⟩
      have e0 : (O.length : Int) - 1 - ((0 : Nat) : Int) = w64 ((O.length : Int) - 1) := by rw [w64_rng (show Rng ((O.length : Int) - 1) by unfold Rng; omega)]; omega
      rw [e0] at hm
      exact hm.trans h2
    · simp [T.sel] at h2
  · simp [T.sel] at h
noncomputable def eM : LEnt := { id := 9, n := 78, sg := sgM, wr := writes bM, s := spM }
def sgO : LSig := { cs := [(1, 0)], mv := [(5, 62), (6, 24)], mo := [(2, 24), (3, 0), (6, 24)], take := [1, 2] }
def vO : List AV := [.ptr 0 0 0, .slw 1, .slw 2]
def bsO (O : List Opr) (C : List Chn) (l : List Int) (R : List Bool) : List Blk := [Jo.gBx 3 4, ⟨true, .bools R⟩, ⟨true, .ints .i64 l⟩, Jo.ob O, Jo.cb C]
def bsE (O : List Opr) (C : List Chn) (l : List Int) : List Blk := [Jo.gBx 2 3, ⟨true, .ints .i64 l⟩, Jo.ob O, Jo.cb C]
def rtO (O : List Opr) (C : List Chn) (l : List Int) : Option (AExit × Out) := some (.ret, ⟨[.slw 1, i64 8, .slw 2], [Jo.gBx 3 4, ⟨true, .ints .i64 []⟩, ⟨true, .ints .i64 l⟩, Jo.ob O, Jo.cb C]⟩)
def nxR (C : List Chn) (R : List Bool) (n : Nat) : Int := dnA (rdF C R) n n
theorem turnO (O : List Opr) (C : List Chn) (l : List Int) (R : List Bool) : (turn (E0 B) (Cx B []) (loopL (E0 B) noL [eM]) 78 sgO bO vO (bsO O C l R)).sel =
    bif decide ((l.length : Int) < (O.length : Int)) then Jo.gd (decide ((-1 : Int) = -1 ∧ w64 ((O.length : Int) - 1) = w64 ((O.length : Int) - 1) ∧ R.length = O.length) && rcG O C) (bif decide (nxR C R O.length < 0) then rtO O C l else
      Jo.inb (nxR C R O.length) R.length (Jo.gd (decide (l.length + 1 ≤ lim)) (some (.normal, ⟨vO, bsO O C (l ++ [nxR C R O.length]) (R.set (nxR C R O.length).toNat true)⟩)))) else some (.exit 0, ⟨[.any, .any, .slw 1], bsE O C l⟩) := by kernel_rfl
end Go.Proofs.Ytdckpbeioemopaa.To
namespace Go.Proofs.Ytdckpbeioemopaa.To
open Go.Am Go Go.Proofs.Ytdckpbeioemopaa Go.Proofs.Ytdckpbeioemopaa.Gr
set_option maxRecDepth 100000
variable {B : Nat → Option Obj}
theorem ord_getD {n : Nat} {C : List Chn} {i : Nat} (hi : i < (ordN n C).length) : (ordN n C)[i]? = some ((ordN n C).getD i 0) := by
  rw [List.getD, List.getElem?_eq_getElem hi]; rfl
theorem take_snoc {l : List Int} {i : Nat} (hi : i < l.length) : l.take i ++ [l.getD i 0] = l.take (i + 1) := by
  rw [List.take_add_one, List.getD, List.getElem?_eq_getElem hi]; rfl
theorem nx_is {O : List Opr} {C : List Chn} (hb : bndC O.length C = true) {i : Nat} (hi : i < (ordN O.length C).length) : nxR C (plB O.length ((ordN O.length C).take i)) O.length = (ordN O.length C).getD i 0 := by
  unfold nxR
  rw [dnA_congr (g := fun i' => rdyN C ((ordN O.length C).take i) (i' : Int)) (fun j hj => by
    unfold rdF
    have := rdB_is (n := O.length) hb ((ordN O.length C).take i) (op := (j : Int)) (by omega) (by omega)
    rw [Int.toNat_natCast] at this
    exact this) O.length (Nat.le_refl _), dnA_next]
  exact ord_next (ord_getD hi)
def spO : LSpec
  | [.ptr 0 0 0, .slw 1, .slw 2], [⟨true, .gen [a, b] [[.slw 3, .slw 4]]⟩, ⟨true, .bools R⟩, ⟨true, .ints .i64 l⟩, ⟨false, .oprs O⟩, ⟨false, .chns C⟩] =>
    .node (decide (a = 31 ∧ b = 32) && (decide (l = [] ∧ R = List.replicate O.length false ∧ (ordN O.length C).length = O.length) && rcG O C)) (.leaf (.exit 0, ⟨[.any, .any, .slw 1], bsE O C (ordN O.length C)⟩)) .bad
  | _, _ => .bad
theorem loopO : LoopOk (E0 B) 78 sgO bO spO := by
  refine loop_turns (C := Cx B []) (L := loopL (E0 B) noL [eM]) (cxOk TbOk.nil) (loopL_fits (fun x hx => by
    simp only [List.mem_singleton] at hx; subst hx
    exact ⟨bM, by kernel_rfl, rfl, loopM⟩) noL_ok) fun vs bs e o h => ?_
  unfold spO at h
  split at h
  · rename_i a b R l O C
    rcases T.node_sel h with ⟨hc, h2⟩ | ⟨_, h2⟩
    · rw [Bool.and_eq_true, Bool.and_eq_true] at hc
      obtain ⟨rfl, rfl⟩ := of_decide_eq_true hc.1
      obtain ⟨rfl, rfl, hl⟩ := of_decide_eq_true hc.2.1
      have hr := hc.2.2
      obtain ⟨hC, hO, hb⟩ := rcG_of hr
      obtain ⟨m, hm⟩ := go_turns (E := E0 B) (C := Cx B []) (L := loopL (E0 B) noL [eM]) (n := 78) (sg := sgO) (body := bO) (st := fun _ => vO) (bs := fun k => bsO O C ((ordN O.length C).take k) (plB O.length ((ordN O.length C).take k))) (len := O.length) (k := 0) (oe := ⟨[.any, .any, .slw 1], bsE O C (ordN O.length C)⟩)
        (fun k hk => by
          rw [turnO, List.length_take, hl, Nat.min_eq_left hk]
          by_cases hlt : k < O.length
          · have hlt' : k < (ordN O.length C).length := by omega
            obtain ⟨⟨x0, xn⟩, _, _⟩ := ord_least (ord_getD hlt')
            rw [decide_eq_true hlt, cond_true, decide_eq_true (show (k : Int) < (O.length : Int) by omega), cond_true, nx_is hb hlt', plB_len, hr, decide_eq_true (show (-1 : Int) = -1 ∧ w64 ((O.length : Int) - 1) = w64 ((O.length : Int) - 1) ∧ O.length = O.length from ⟨rfl, rfl, rfl⟩), decide_eq_false (show ¬ (ordN O.length C).getD k 0 < 0 by omega), inb_in x0 xn, plB_set _ _ x0, take_snoc hlt', decide_eq_true (show k + 1 ≤ lim by simp only [lim]; omega)]
            rfl
          · have : k = O.length := by omega
            subst this
            rw [decide_eq_false hlt, decide_eq_false (show ¬ ((O.length : Nat) : Int) < (O.length : Int) by omega), List.take_of_length_le (by omega)]; rfl) O.length 0 (by omega)
      refine ⟨m, ?_⟩
      rw [List.take_zero, plB_nil] at hm
      exact hm.trans h2
    · simp [T.sel] at h2
  · simp [T.sel] at h
noncomputable def eO : LEnt := { id := 6, n := 78, sg := sgO, wr := writes bO, s := spO }
noncomputable def libC : Tb := (13, [], Rc.sCk) :: []
theorem libC_ok : TbOk B libC := TbOk.nil.add Rc.okCk
theorem tOrd (O : List Opr) (C : List Chn) : runL B libC [eO] Try.f9 [.agg [.slw 0, .slw 1]] [Jo.ob O, Jo.cb C] =
    bif !decide (Gk.chkN O C = 0) then some ⟨[.slw 0, i64 (Gk.chkN O C)], [⟨true, .ints .i64 []⟩]⟩ else
      Gk.gd (decide (0 ≤ (O.length : Int) ∧ (O.length : Int) ≤ (lim : Int) ∧ (O.length : Int) = (O.length : Int))) (Gk.gd (decide (([] : List Int) = [] ∧ List.replicate ((O.length : Int)).toNat false = List.replicate O.length false ∧ (ordN O.length C).length = O.length) && rcG O C) (some ⟨[.slw 0, i64 0], [⟨true, .ints .i64 (ordN O.length C)⟩]⟩)) := by kernel_rfl
theorem okOrdR : FnOk (E0 B) 9 Gk.sOrder := by
  refine fnL libC_ok (ls := [eO]) Try.func9 (by kernel_rfl) (by kernel_rfl) (fun x hx => ?_) fun vs bs out h => ?_
  · simp only [List.mem_singleton] at hx; subst hx
    exact ⟨bO, by kernel_rfl, rfl, loopO⟩
  · unfold Gk.sOrder at h
    split at h
    · rename_i O C
      refine (tOrd O C).trans ?_
      rcases T.node_sel h with ⟨hc, h2⟩ | ⟨hc, h2⟩
      · obtain ⟨hO, hC, hv⟩ := Gk.chk0 (of_decide_eq_true hc)
        obtain ⟨h4, h5⟩ := valid_ord.1 hv
        have hr : rcG O C = true := by
          unfold rcG
          rw [Gk.jn_bnd h4.2, decide_eq_true (show C.length ≤ 1000 ∧ O.length ≤ 1000 by omega)]; rfl
        simp only [T.sel, Option.some.injEq] at h2
        subst h2
        unfold Gk.gd
        rw [hc, hr, decide_eq_true (show 0 ≤ (O.length : Int) ∧ (O.length : Int) ≤ (lim : Int) ∧ (O.length : Int) = (O.length : Int) from ⟨by omega, Int.ofNat_le.2 (show O.length ≤ lim by simp only [lim]; omega), rfl⟩),
          decide_eq_true (show ([] : List Int) = [] ∧ List.replicate ((O.length : Int)).toNat false = List.replicate O.length false ∧ (ordN O.length C).length = O.length from ⟨rfl, by rw [Int.toNat_natCast], h5⟩)]
        rfl
      · simp only [T.sel, Option.some.injEq] at h2
        subst h2
        rw [hc]; rfl
    · simp [T.sel] at h
noncomputable def bI : Code := loopAt 4 (loopsOf (bodyC Try.f11))
def sgI : LSig := { cs := [(0, 24), (1, 24)], mv := [(5, 0)], mo := [(4, 0)], take := [] }
def vI (i : Int) : List AV := [.slw 0, .slw 1, i64 i]
def bsI (a b : List Int) : List Blk := [⟨false, .ints .i64 a⟩, ⟨false, .ints .i64 b⟩]
theorem turnI (a b : List Int) (i : Int) : (turn (E0 B) (Cx B []) noL 26 sgI bI (vI i) (bsI a b)).sel =
    bif decide (i < (a.length : Int)) then Jo.inb i a.length (Jo.inb i b.length (bif !decide (a.getD i.toNat 0 = b.getD i.toNat 0) then some (.ret, ⟨[.bool false], []⟩) else some (.normal, ⟨vI (w64 (i + 1)), bsI a b⟩))) else some (.exit 0, ⟨[.any], []⟩) := by kernel_rfl
def spI : LSpec
  | [.slw 0, .slw 1, .int .i64 i], [⟨false, .ints .i64 a⟩, ⟨false, .ints .i64 b⟩] => .node (decide (i = 0 ∧ a = b ∧ a.length ≤ 1000)) (.leaf (.exit 0, ⟨[.any], []⟩)) .bad
  | _, _ => .bad
theorem loopI : LoopOk (E0 B) 26 sgI bI spI := by
  refine loop_turns (C := Cx B []) (L := noL) (cxOk TbOk.nil) (noL_ok _) fun vs bs e o h => ?_
  unfold spI at h
  split at h
  · rename_i i a b
    rcases T.node_sel h with ⟨hc, h2⟩ | ⟨_, h2⟩
    · obtain ⟨rfl, rfl, hl⟩ := of_decide_eq_true hc
      obtain ⟨m, hm⟩ := go_turns (E := E0 B) (C := Cx B []) (L := noL) (n := 26) (sg := sgI) (body := bI) (st := fun k => vI k) (bs := fun _ => bsI a a) (len := a.length) (k := 0) (oe := ⟨[.any], []⟩)
        (fun k hk => by
          rw [turnI]
          by_cases hlt : k < a.length
          · rw [decide_eq_true hlt, cond_true, decide_eq_true (show (k : Int) < (a.length : Int) by omega), cond_true, En.inb_is hlt, En.inb_is hlt, decide_eq_true rfl, show w64 ((k : Int) + 1) = ((k + 1 : Nat) : Int) by rw [w64_rng (show Rng ((k : Int) + 1) by unfold Rng; omega)]; omega]
            rfl
          · rw [decide_eq_false hlt, decide_eq_false (show ¬ (k : Int) < (a.length : Int) by omega)]; rfl) a.length 0 (by omega)
      exact ⟨m, hm.trans h2⟩
    · simp [T.sel] at h2
  · simp [T.sel] at h
noncomputable def eI : LEnt := { id := 4, n := 26, sg := sgI, wr := writes bI, s := spI }
theorem tInts (a b : List Int) : runL B [] [eI] Try.f11 [.slw 0, .slw 1] (bsI a b) =
    bif !decide ((a.length : Int) = (b.length : Int)) then rb false else Gk.gd (decide ((0 : Int) = 0 ∧ a = b ∧ a.length ≤ 1000)) (rb true) := by kernel_rfl
def sInts : FSpec
  | [.slw 0, .slw 1], [⟨false, .ints .i64 a⟩, ⟨false, .ints .i64 b⟩] => .node (decide (a = b ∧ a.length ≤ 1000)) (.leaf ⟨[.bool true], []⟩) .bad
  | _, _ => .bad
theorem okInts : FnOk (E0 B) 11 sInts := by
  refine fnL TbOk.nil (ls := [eI]) Try.func11 (by kernel_rfl) (by kernel_rfl) (fun x hx => ?_) fun vs bs out h => ?_
  · simp only [List.mem_singleton] at hx; subst hx
    exact ⟨bI, by kernel_rfl, rfl, loopI⟩
  · unfold sInts at h
    split at h
    · rename_i a b
      rcases T.node_sel h with ⟨hc, h2⟩ | ⟨_, h2⟩
      · obtain ⟨rfl, hl⟩ := of_decide_eq_true hc
        simp only [T.sel, Option.some.injEq] at h2
        subst h2
        refine (tInts a a).trans ?_
        unfold Gk.gd
        rw [decide_eq_true rfl, decide_eq_true (show (0 : Int) = 0 ∧ a = a ∧ a.length ≤ 1000 from ⟨rfl, rfl, hl⟩)]; rfl
      · simp [T.sel] at h2
    · simp [T.sel] at h
end Go.Proofs.Ytdckpbeioemopaa.To
