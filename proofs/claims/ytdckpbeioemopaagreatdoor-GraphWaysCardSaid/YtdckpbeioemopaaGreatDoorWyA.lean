/-
  Texts put together: GrWy, GrWy2, GrWy3.
-/
import Derived.Test.YtdckpbeioemopaaGreatDoorGrChk
import Derived.Test.YtdckpbeioemopaaGreatDoorGpA
import Derived.Test.YtdckpbeioemopaaGreatDoorGpLaw2
import Derived.Test.YtdckpbeioemopaaGreatDoorRmA
namespace Go.Proofs.YtdckpbeioemopaaGreatDoor.Wy
open Go.Am Go Go.Proofs.YtdckpbeioemopaaGreatDoor Go.Proofs.YtdckpbeioemopaaGreatDoor.Gr
set_option maxRecDepth 100000
variable {B : Nat → Option Obj}
noncomputable def wC : Code := bodyC Tryz.f4
noncomputable def bO : Code := loopAt 8 (loopsOf wC)
noncomputable def bI : Code := loopAt 13 (loopsOf bO)
noncomputable def libI : Tb := (13, [], sRch) :: []
theorem libI_ok : TbOk B libI := TbOk.nil.add okRch
def sgI : LSig := { cs := [(8, 0), (10, 0), (13, 45)], mv := [(11, 0), (12, 0), (14, 0)], mo := [(11, 0), (12, 0)], take := [] }
def vsI (i : Int) (f t : Bool) (k : Int) : List AV := [.ptr 0 0 0, i64 i, .slw 1, .bool f, .bool t, i64 k]
def bsI (O : List Opr) (C : List Chn) (R : List Bool) : List Blk := [Jo.gBx 2 3, ⟨false, .bools R⟩, Jo.ob O, Jo.cb C]
def bsX (O : List Opr) (C : List Chn) : List Blk := [Jo.gBx 1 2, Jo.ob O, Jo.cb C]
def nrm (O : List Opr) (C : List Chn) (R : List Bool) (i k : Int) (f t : Bool) : Option (AExit × Out) := some (.normal, ⟨vsI i f t (w64 (k + 1)), bsI O C R⟩)
def yI (O : List Opr) (C : List Chn) (R : List Bool) (i k : Int) (f t : Bool) : Option (AExit × Out) :=
  bif f then nrm O C R i k true t else Jo.inb k O.length (bif decide ((O.getD k.toNat default).kind = 1) then Jo.gd (rcG O C) (Jo.inb i (reachN O.length C k).length (nrm O C R i k ((reachN O.length C k).getD i.toNat false) t)) else nrm O C R i k false t)
theorem turnI (O : List Opr) (C : List Chn) (R : List Bool) (i k : Int) (f t : Bool) : (turn (E0 B) (Cx B libI) noL 123 sgI bI (vsI i f t k) (bsI O C R)).sel =
    bif decide (k < (O.length : Int)) then (bif t then yI O C R i k f true else Jo.inb k R.length (bif R.getD k.toNat false then Jo.inb k O.length (yI O C R i k f (decide (6 ≤ (O.getD k.toNat default).kind))) else yI O C R i k f false)) else some (.exit 2, ⟨[.bool f, .bool t], bsX O C⟩) := by kernel_rfl
theorem walk_turns {E : Env} {C : CallR} {L : LoopR} {n : Nat} {sg : LSig} {body : Code} {st : Nat → List AV} {bs : Nat → List Blk} {len k : Nat} {oe : Out}
    (h : ∀ i : Nat, i ≤ len → (turn E C L n sg body (st i) (bs i)).sel = bif decide (i < len) then some (.normal, ⟨st (i + 1), bs (i + 1)⟩) else some (.exit k, oe)) :
    ∀ (f i : Nat), i + f = len → ∃ m, (turns E C L n sg body m (st i) (bs i)).sel = some (.exit k, oe)
  | 0, i, hi => by
    have ht := h i (by omega)
    rw [decide_eq_false (by omega), cond_false] at ht
    exact ⟨1, turns_done ht (by simp)⟩
  | f + 1, i, hi => by
    have ht := h i (by omega)
    rw [decide_eq_true (show i < len by omega), cond_true] at ht
    obtain ⟨m, hm⟩ := walk_turns h f (i + 1) (by omega)
    exact ⟨m + 1, (turns_more' ht).trans hm⟩
def frB (O : List Opr) (C : List Chn) (i j : Nat) : Bool := decide ((O.getD j default).kind = 1) && (reachN O.length C (j : Int)).getD i false
def toB (O : List Opr) (R : List Bool) (j : Nat) : Bool := R.getD j false && decide (6 ≤ (O.getD j default).kind)
def frK (O : List Opr) (C : List Chn) (i : Nat) (f : Bool) (k : Nat) : Bool := f || (List.range k).any (frB O C i)
def toK (O : List Opr) (R : List Bool) (t : Bool) (k : Nat) : Bool := t || (List.range k).any (toB O R)
theorem frK_succ (O : List Opr) (C : List Chn) (i : Nat) (f : Bool) (k : Nat) : frK O C i f (k + 1) = (frK O C i f k || frB O C i k) := by
  unfold frK; rw [List.range_succ, List.any_append, List.any_cons, List.any_nil, Bool.or_false, Bool.or_assoc]
theorem toK_succ (O : List Opr) (R : List Bool) (t : Bool) (k : Nat) : toK O R t (k + 1) = (toK O R t k || toB O R k) := by
  unfold toK; rw [List.range_succ, List.any_append, List.any_cons, List.any_nil, Bool.or_false, Bool.or_assoc]
theorem yI_is {O : List Opr} {C : List Chn} {R : List Bool} {i k : Nat} {f t : Bool} (hk : k < O.length) (hi : i < O.length) (hc : rcG O C = true) : yI O C R i k f t = nrm O C R i k (f || frB O C i k) t := by
  unfold yI frB
  cases f with
  | true => rfl
  | false =>
    rw [En.inb_is hk, hc, En.inb_is (by rw [reachN_len]; exact hi), Int.toNat_natCast, Int.toNat_natCast]
    cases decide ((O.getD k default).kind = 1) <;> rfl
theorem turnI_is {O : List Opr} {C : List Chn} {R : List Bool} {i k : Nat} {f t : Bool} (hk : k < O.length) (hi : i < O.length) (hR : R.length = O.length) (hc : rcG O C = true) :
    (turn (E0 B) (Cx B libI) noL 123 sgI bI (vsI i f t k) (bsI O C R)).sel = some (.normal, ⟨vsI i (f || frB O C i k) (t || toB O R k) (w64 ((k : Int) + 1)), bsI O C R⟩) := by
  rw [turnI, decide_eq_true (show (k : Int) < (O.length : Int) by omega), cond_true, yI_is hk hi hc, yI_is hk hi hc, yI_is hk hi hc, En.inb_is (hR ▸ hk), En.inb_is hk, Int.toNat_natCast]
  unfold nrm toB
  cases t with
  | true => rfl
  | false => cases R.getD k false <;> rfl
def spI : LSpec
  | [.ptr 0 0 0, .int .i64 i, .slw 1, .bool f, .bool t, .int .i64 k], [⟨true, .gen [a, b] [[.slw 2, .slw 3]]⟩, ⟨false, .bools R⟩, ⟨false, .oprs O⟩, ⟨false, .chns C⟩] =>
    .node (decide (a = 33 ∧ b = 34) && (decide (k = 0 ∧ 0 ≤ i ∧ i < (O.length : Int) ∧ R.length = O.length) && rcG O C)) (.leaf (.exit 2, ⟨[.bool (frK O C i.toNat f O.length), .bool (toK O R t O.length)], bsX O C⟩)) .bad
  | _, _ => .bad
theorem loopI : LoopOk (E0 B) 123 sgI bI spI := by
  refine loop_turns (C := Cx B libI) (L := noL) (cxOk libI_ok) (noL_ok _) fun vs bs e o h => ?_
  unfold spI at h
  split at h
  · rename_i i f t k a b R O C
    rcases T.node_sel h with ⟨hc, h2⟩ | ⟨_, h2⟩
    · rw [Bool.and_eq_true, Bool.and_eq_true] at hc
      obtain ⟨rfl, rfl⟩ := of_decide_eq_true hc.1
      obtain ⟨rfl, h0, hi, hR⟩ := of_decide_eq_true hc.2.1
      obtain ⟨i, rfl⟩ : ∃ m : Nat, i = (m : Int) := ⟨i.toNat, by omega⟩
      have hl : O.length ≤ 1000 := by
        have := hc.2.2
        unfold rcG at this
        rw [Bool.and_eq_true] at this
        exact (of_decide_eq_true this.1).2
      obtain ⟨m, hm⟩ := walk_turns (E := E0 B) (C := Cx B libI) (L := noL) (n := 123) (sg := sgI) (body := bI) (st := fun k => vsI i (frK O C i f k) (toK O R t k) k) (bs := fun _ => bsI O C R) (len := O.length) (k := 2) (oe := ⟨[.bool (frK O C i f O.length), .bool (toK O R t O.length)], bsX O C⟩)
        (fun k hk => by
          by_cases hlt : k < O.length
          · rw [decide_eq_true hlt, cond_true, frK_succ, toK_succ]
            refine (turnI_is hlt (by omega) hR hc.2.2).trans ?_
            rw [w64_rng (show Rng ((k : Int) + 1) by unfold Rng; omega)]
            rfl
          · have : k = O.length := by omega
            subst this
            rw [turnI, decide_eq_false (show ¬ ((O.length : Nat) : Int) < ((O.length : Nat) : Int) by omega), decide_eq_false hlt]; rfl) O.length 0 (by omega)
      refine ⟨m, ?_⟩
      have f0 : frK O C i f 0 = f := by simp [frK]
      have t0 : toK O R t 0 = t := by simp [toK]
      rw [f0, t0] at hm
      exact hm.trans h2
    · simp [T.sel] at h2
  · simp [T.sel] at h
end Go.Proofs.YtdckpbeioemopaaGreatDoor.Wy
namespace Go.Proofs.YtdckpbeioemopaaGreatDoor.Wy
open Go.Am Go Go.Proofs.YtdckpbeioemopaaGreatDoor Go.Proofs.YtdckpbeioemopaaGreatDoor.Gr Go.Proofs.YtdckpbeioemopaaGreatDoor.Gf Go.Proofs.YtdckpbeioemopaaGreatDoor.Gp
set_option maxRecDepth 100000
variable {B : Nat → Option Obj}
noncomputable def eI : LEnt := { id := 13, n := 123, sg := sgI, wr := writes bI, s := spI }
def sgO : LSig := { cs := [(8, 0)], mv := [(10, 0)], mo := [(6, 0)], take := [] }
def vsO (i : Int) : List AV := [.ptr 0 0 0, i64 i]
def kndI (O : List Opr) (i : Int) : Int := (O.getD i.toNat default).kind
theorem turnO (O : List Opr) (C : List Chn) (i : Int) : (turn (E0 B) (Cx B libI) (loopL (E0 B) noL [eI]) 123 sgO bO (vsO i) (bsX O C)).sel =
    bif decide (i < (O.length : Int)) then Jo.inb i O.length (Jo.inb i O.length (Jo.gd (rcG O C) (Jo.gd (decide ((0 : Int) = 0 ∧ 0 ≤ i ∧ i < (O.length : Int) ∧ (reachN O.length C i).length = O.length) && rcG O C)
      (bif !frK O C i.toNat (decide (kndI O i = 1)) O.length then some (.ret, ⟨[.bool false], bsX O C⟩) else bif !toK O (reachN O.length C i) (decide (6 ≤ kndI O i)) O.length then some (.ret, ⟨[.bool false], bsX O C⟩) else
        Jo.inb i (reachN O.length C i).length (bif (reachN O.length C i).getD i.toNat false then some (.ret, ⟨[.bool false], bsX O C⟩) else some (.normal, ⟨vsO (w64 (i + 1)), bsX O C⟩)))))) else some (.exit 0, ⟨[.any], bsX O C⟩) := by kernel_rfl
def badW (O : List Opr) (C : List Chn) (i : Nat) : Bool := bif !frK O C i (decide ((O.getD i default).kind = 1)) O.length then true else bif !toK O (reachN O.length C (i : Int)) (decide (6 ≤ (O.getD i default).kind)) O.length then true else (reachN O.length C (i : Int)).getD i false
def spO : LSpec
  | [.ptr 0 0 0, .int .i64 i], [⟨true, .gen [a, b] [[.slw 1, .slw 2]]⟩, ⟨false, .oprs O⟩, ⟨false, .chns C⟩] =>
    .node (decide (a = 33 ∧ b = 34) && (decide (i = 0) && rcG O C)) (.node ((List.range' 0 O.length).any (badW O C)) (.leaf (.ret, ⟨[.bool false], bsX O C⟩)) (.leaf (.exit 0, ⟨[.any], bsX O C⟩))) .bad
  | _, _ => .bad
theorem loopO : LoopOk (E0 B) 123 sgO bO spO := by
  refine loop_turns (C := Cx B libI) (L := loopL (E0 B) noL [eI]) (cxOk libI_ok) (loopL_fits (fun x hx => by
    simp only [List.mem_singleton] at hx; subst hx
    exact ⟨bI, by kernel_rfl, rfl, loopI⟩) noL_ok) fun vs bs e o h => ?_
  unfold spO at h
  split at h
  · rename_i i a b O C
    rcases T.node_sel h with ⟨hc, h2⟩ | ⟨_, h2⟩
    · rw [Bool.and_eq_true, Bool.and_eq_true] at hc
      obtain ⟨rfl, rfl⟩ := of_decide_eq_true hc.1
      have := of_decide_eq_true hc.2.1
      subst this
      have hr := hc.2.2
      have hl : O.length ≤ 1000 := by
        have := hr
        unfold rcG at this
        rw [Bool.and_eq_true] at this
        exact (of_decide_eq_true this.1).2
      obtain ⟨m, hm⟩ := scan_turns (E := E0 B) (C := Cx B libI) (L := loopL (E0 B) noL [eI]) (n := 123) (sg := sgO) (body := bO) (st := fun k => vsO k) (bs := bsX O C) (len := O.length) (bad := badW O C) (ob := fun _ => ⟨[.bool false], bsX O C⟩) (k := 0) (oe := ⟨[.any], bsX O C⟩)
        (fun k hk => by
          refine (turnO O C k).trans ?_
          by_cases hlt : k < O.length
          · rw [decide_eq_true (show (k : Int) < ((O.length : Nat) : Int) by omega), decide_eq_true hlt, cond_true, cond_true, En.inb_is hlt, En.inb_is hlt, En.inb_is (by rw [reachN_len]; exact hlt), hr, decide_eq_true (show (0 : Int) = 0 ∧ 0 ≤ (k : Int) ∧ (k : Int) < (O.length : Int) ∧ (reachN O.length C (k : Int)).length = O.length from ⟨rfl, by omega, by omega, reachN_len _ _ _⟩), w64_rng (show Rng ((k : Int) + 1) by unfold Rng; omega)]
            unfold kndI badW
            rw [Int.toNat_natCast]
            cases frK O C k (decide ((O.getD k default).kind = 1)) O.length
            · rfl
            · cases toK O (reachN O.length C (k : Int)) (decide (6 ≤ (O.getD k default).kind)) O.length
              · rfl
              · cases (reachN O.length C (k : Int)).getD k false <;> rfl
          · rw [decide_eq_false (show ¬ (k : Int) < ((O.length : Nat) : Int) by omega), decide_eq_false hlt]; rfl) O.length 0 (by omega)
      refine ⟨m, hm.trans ?_⟩
      have hf := firstB_any (badW O C) O.length 0
      rw [Nat.zero_add] at hf
      rw [hf, ← h2]
      rfl
    · simp [T.sel] at h2
  · simp [T.sel] at h
noncomputable def eO : LEnt := { id := 8, n := 123, sg := sgO, wr := writes bO, s := spO }
noncomputable def libW : Tb := (8, [], sTrueF) :: (9, [], sFit) :: (10, [], sOfG) :: (14, [], Gk.sChk) :: (11, [], sVal) :: []
theorem libW_ok (hB : Laid B) : TbOk B libW := ((((TbOk.nil.add okVal).add Gk.okChk).add okOfG).add okFit).add (okAl24 hB)
def wayG (O : List Opr) (C : List Chn) : Option Out :=
  bif !decide (Gk.chkN O C = 0) then rb false else gdO (decide (C.length ≤ 1000 ∧ O.length ≤ 1000)) (bif !validN O C then rb false else gdO (decide ((0 : Int) = 0) && rcG O C) (bif (List.range' 0 O.length).any (badW O C) then rb false else rb true))
def wayO (st : List Int) (q : Qry) (p r : Int) : Option Out :=
  gdO (st.all inByte) (bif !fitB st q p r then rb true else gdO (okG st q p r) (wayG (ofO q.src.length p.toNat q.byKey q.join (decide (q.late = 2))) (ofC q.src.length p.toNat q.byKey (decide (q.late = 2)) r)))
theorem tWy (st : List Int) (q : Qry) (p r : Int) : runL B libW [eO] Tryz.f4 [Pl.plAv q 0 1 2 3, i64 p, i64 r] (Pl.plBs false st q) = wayO st q p r := by kernel_rfl
end Go.Proofs.YtdckpbeioemopaaGreatDoor.Wy
namespace Go.Proofs.YtdckpbeioemopaaGreatDoor.Wy
open Go.Am Go Go.Proofs.YtdckpbeioemopaaGreatDoor Go.Proofs.YtdckpbeioemopaaGreatDoor.Gr Go.Proofs.YtdckpbeioemopaaGreatDoor.Gf Go.Proofs.YtdckpbeioemopaaGreatDoor.Gp
set_option maxRecDepth 100000
variable {B : Nat → Option Obj}
def wT (n p : Nat) (j : Bool) : Bool := bb.all fun bk => bb.all fun sd => !(List.range' 0 (ofO n p bk j sd).length).any (badW (ofO n p bk j sd) (ofC n p bk sd 1))
theorem y11 : wT 1 1 false = true := by kernel_rfl
theorem y12 : wT 1 2 false = true := by kernel_rfl
theorem y13 : wT 1 3 false = true := by kernel_rfl
theorem y21 : wT 2 1 false = true := by kernel_rfl
theorem y22 : wT 2 2 false = true := by kernel_rfl
theorem y23 : wT 2 3 false = true := by kernel_rfl
theorem y31 : wT 3 1 false = true := by kernel_rfl
theorem y32 : wT 3 2 false = true := by kernel_rfl
theorem y33 : wT 3 3 false = true := by kernel_rfl
theorem y41 : wT 4 1 false = true := by kernel_rfl
theorem y42 : wT 4 2 false = true := by kernel_rfl
theorem y43 : wT 4 3 false = true := by kernel_rfl
theorem z1 : wT 2 1 true = true := by kernel_rfl
theorem z2 : wT 2 2 true = true := by kernel_rfl
theorem z3 : wT 2 3 true = true := by kernel_rfl
theorem w_at {n p : Nat} (hn : n = 1 ∨ n = 2 ∨ n = 3 ∨ n = 4) (hp : p = 1 ∨ p = 2 ∨ p = 3) (bk sd j : Bool) (hj : j = true → n = 2) : (List.range' 0 (ofO n p bk j sd).length).any (badW (ofO n p bk j sd) (ofC n p bk sd 1)) = false := by
  have key : wT n p j = true := by
    cases j with
    | false =>
      rcases hn with rfl | rfl | rfl | rfl <;> rcases hp with rfl | rfl | rfl
      · exact y11
      · exact y12
      · exact y13
      · exact y21
      · exact y22
      · exact y23
      · exact y31
      · exact y32
      · exact y33
      · exact y41
      · exact y42
      · exact y43
    | true =>
      have := hj rfl
      subst this
      rcases hp with rfl | rfl | rfl
      · exact z1
      · exact z2
      · exact z3
  have h4 := List.all_eq_true.1 (List.all_eq_true.1 key bk (bb_mem bk)) sd (bb_mem sd)
  simpa using h4
theorem badW_rm (O : List Opr) (C : List Chn) (r : Int) (i : Nat) : badW O (C.map (rm r)) i = badW O C i := by
  unfold badW
  have h1 : frK O (C.map (rm r)) i (decide ((O.getD i default).kind = 1)) O.length = frK O C i (decide ((O.getD i default).kind = 1)) O.length := by
    unfold frK
    rw [show frB O (C.map (rm r)) i = frB O C i from funext fun j => by unfold frB; rw [reachN_rm]]
  rw [h1, reachN_rm]
theorem way_is {st : List Int} {q : Qry} {p r : Int} (hb : st.all inByte = true) : wayO st q p r = rb true := by
  unfold wayO
  cases hf : fitB st q p r with
  | false => unfold gdO; rw [hb]; rfl
  | true =>
  obtain ⟨_, h0, p1, p3, r1, r8⟩ := fitB_of hf
  obtain ⟨_, hn1, hn4, hj⟩ := src_len (Pl.ckE_clk (Pl.plE_0 h0).1)
  rw [okG_of hf, hb]
  obtain ⟨m, rfl⟩ : ∃ m : Nat, p = (m : Int) := ⟨p.toNat, by omega⟩
  rw [Int.toNat_natCast]
  have hp : m = 1 ∨ m = 2 ∨ m = 3 := by omega
  have hn : q.src.length = 1 ∨ q.src.length = 2 ∨ q.src.length = 3 ∨ q.src.length = 4 := by omega
  have hv := val_all hn hp q.byKey (decide (q.late = 2)) q.join hj r1 r8
  have hw := w_at hn hp q.byKey (decide (q.late = 2)) q.join hj
  obtain ⟨z1, z2, z3⟩ := Rm.sz_at hn hp q.byKey (decide (q.late = 2)) q.join
  rw [ofC_rm _ _ _ _ r] at hv ⊢
  generalize ofO q.src.length m q.byKey q.join (decide (q.late = 2)) = O at *
  generalize ofC q.src.length m q.byKey (decide (q.late = 2)) 1 = C at *
  have hc : Gk.chkN O (C.map (rm r)) = 0 := by
    unfold Gk.chkN
    rw [hv, List.length_map, decide_eq_false (show ¬ 20 < O.length by omega), decide_eq_false (show ¬ 100 < C.length by omega)]; rfl
  have hr : rcG O (C.map (rm r)) = true := by
    unfold rcG
    rw [List.length_map, decide_eq_true (show C.length ≤ 1000 ∧ O.length ≤ 1000 by omega), Gk.jn_bnd (valid_ord.1 hv).1.2]; rfl
  unfold wayG
  rw [hc, hv, hr, show badW O (C.map (rm r)) = badW O C from funext fun i => badW_rm O C r i, hw, List.length_map]
  unfold gdO
  rw [decide_eq_true (show C.length ≤ 1000 ∧ O.length ≤ 1000 by omega)]
  rfl
def sWy : FSpec
  | [.agg [.slw 0, .int .u8 _, .slw 1, .slw 2, .bool _, .slw 3, .int .u8 _, .int .i64 _, .int .i64 _, .bool _, .int .u8 _], .int .i64 _, .int .i64 _], [⟨false, .ints .u8 st⟩, ⟨false, .nodes _⟩, ⟨false, .ints .i64 _⟩, ⟨false, .nodes _⟩] => .node (st.all inByte) (.leaf ⟨[.bool true], []⟩) .bad
  | _, _ => .bad
def sWyB (_ : Nat → Option Obj) : FSpec := sWy
theorem okWy (hB : Laid B) : FnOk (E0 B) 4 sWy := by
  refine fnL (libW_ok hB) (ls := [eO]) Tryz.func4 (by kernel_rfl) (by kernel_rfl) (fun x hx => ?_) fun vs bs out h => ?_
  · simp only [List.mem_singleton] at hx; subst hx
    exact ⟨bO, by kernel_rfl, rfl, loopO⟩
  · unfold sWy at h
    split at h
    · rename_i ag j wk ws we bk lt p r st A S W
      rcases T.node_sel h with ⟨hc, h2⟩ | ⟨_, h2⟩
      · simp only [T.sel, Option.some.injEq] at h2; subst h2
        exact (tWy st ⟨ag, A, S, j, W, wk, ws, we, bk, lt⟩ p r).trans (way_is hc)
      · simp [T.sel] at h2
    · simp [T.sel] at h
theorem sWy_sel {q : Qry} {st : List Int} {p r : Int} (hb : bytWf st) : (sWy [planAv q 0 1 2 3, i64 p, i64 r] [⟨false, .ints .u8 st⟩, ⟨false, .nodes q.arg⟩, ⟨false, .ints .i64 q.src⟩, ⟨false, .nodes q.whr⟩]).sel = some ⟨[.bool true], []⟩ := by
  show (bif st.all inByte then _ else _) = _
  rw [byt_all hb]; rfl
end Go.Proofs.YtdckpbeioemopaaGreatDoor.Wy
