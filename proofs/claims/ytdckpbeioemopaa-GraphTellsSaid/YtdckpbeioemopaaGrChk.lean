/-
  graph.Check and graph.Order by contract.
-/
import Derived.Test.YtdckpbeioemopaaJnB
import Derived.Test.YtdckpbeioemopaaOrdA
import Derived.Test.YtdckpbeioemopaaGrB
namespace Go.Proofs.Ytdckpbeioemopaa.Gk
open Go.Am Go Go.Proofs.Ytdckpbeioemopaa
set_option maxRecDepth 100000
variable {B : Nat → Option Obj}
noncomputable def bC : Code := lP (bK (sB (sA (sB (sB (bodyC Try.f12))))))
def sgK : LSig := { cs := [(16, 31), (17, 0)], mv := [(18, 0)], mo := [(2, 0)], take := [] }
def vK (n i : Int) : List AV := [.slw 0, i64 n, i64 i]
def bsK (O : List Opr) : List Blk := [⟨false, .oprs O⟩]
def badO (O : List Opr) (i : Nat) : Bool := !oprK (O.getD i default)
def bd4 (o : Opr) (x y : Option (AExit × Out)) : Option (AExit × Out) := bif decide (o.kind < 1) then x else bif decide (7 < o.kind) then x else bif decide (o.n < 0) then x else bif decide (3 < o.n) then x else y
theorem turnK (O : List Opr) (n i : Int) : (turn (E0 B) (Cx B []) noL 53 sgK bC (vK n i) (bsK O)).sel =
    bif decide (i < n) then Jo.inb i O.length (bd4 (O.getD i.toNat default) (some (.ret, ⟨[i64 8], []⟩)) (some (.normal, ⟨vK n (w64 (i + 1)), bsK O⟩))) else some (.exit 0, ⟨[.any], []⟩) := by kernel_rfl
theorem bd4_is (o : Opr) (x y : Option (AExit × Out)) : bd4 o x y = bif !oprK o then x else y := by
  unfold bd4 oprK
  by_cases h1 : o.kind < 1
  · rw [decide_eq_true h1, decide_eq_false (show ¬ (1 ≤ o.kind ∧ o.kind ≤ 7 ∧ 0 ≤ o.n ∧ o.n ≤ 3) by omega)]; rfl
  by_cases h2 : 7 < o.kind
  · rw [decide_eq_false h1, decide_eq_true h2, decide_eq_false (show ¬ (1 ≤ o.kind ∧ o.kind ≤ 7 ∧ 0 ≤ o.n ∧ o.n ≤ 3) by omega)]; rfl
  by_cases h3 : o.n < 0
  · rw [decide_eq_false h1, decide_eq_false h2, decide_eq_true h3, decide_eq_false (show ¬ (1 ≤ o.kind ∧ o.kind ≤ 7 ∧ 0 ≤ o.n ∧ o.n ≤ 3) by omega)]; rfl
  by_cases h4 : 3 < o.n
  · rw [decide_eq_false h1, decide_eq_false h2, decide_eq_false h3, decide_eq_true h4, decide_eq_false (show ¬ (1 ≤ o.kind ∧ o.kind ≤ 7 ∧ 0 ≤ o.n ∧ o.n ≤ 3) by omega)]; rfl
  · rw [decide_eq_false h1, decide_eq_false h2, decide_eq_false h3, decide_eq_false h4, decide_eq_true (show 1 ≤ o.kind ∧ o.kind ≤ 7 ∧ 0 ≤ o.n ∧ o.n ≤ 3 by omega)]; rfl
def spK : LSpec
  | [.slw 0, .int .i64 n, .int .i64 i], [⟨false, .oprs O⟩] => .node (decide (n = (O.length : Int) ∧ i = 0 ∧ O.length ≤ 1000)) (.node ((List.range' 0 O.length).any (badO O)) (.leaf (.ret, ⟨[i64 8], []⟩)) (.leaf (.exit 0, ⟨[.any], []⟩))) .bad
  | _, _ => .bad
theorem loopK : LoopOk (E0 B) 53 sgK bC spK := by
  refine loop_turns (C := Cx B []) (L := noL) (cxOk TbOk.nil) (noL_ok _) fun vs bs e o h => ?_
  unfold spK at h
  split at h
  · rename_i n i O
    rcases T.node_sel h with ⟨hc, h2⟩ | ⟨_, h2⟩
    · obtain ⟨rfl, rfl, hs⟩ := of_decide_eq_true hc
      obtain ⟨m, hm⟩ := scan_turns (E := E0 B) (C := Cx B []) (L := noL) (n := 53) (sg := sgK) (body := bC) (st := fun k => vK O.length k) (bs := bsK O) (len := O.length) (bad := badO O) (ob := fun _ => ⟨[i64 8], []⟩) (k := 0) (oe := ⟨[.any], []⟩)
        (fun k hk => by
          refine (turnK O O.length k).trans ?_
          by_cases hlt : k < O.length
          · rw [decide_eq_true (show (k : Int) < ((O.length : Nat) : Int) by omega), decide_eq_true hlt, cond_true, cond_true, En.inb_is hlt, Int.toNat_natCast, bd4_is, w64_rng (show Rng ((k : Int) + 1) by unfold Rng; omega)]
            rfl
          · rw [decide_eq_false (show ¬ (k : Int) < ((O.length : Nat) : Int) by omega), decide_eq_false hlt]; rfl) O.length 0 (by omega)
      refine ⟨m, hm.trans ?_⟩
      have hf := firstB_any (badO O) O.length 0
      rw [Nat.zero_add] at hf
      rw [hf, ← h2]
      rfl
    · simp [T.sel] at h2
  · simp [T.sel] at h
noncomputable def eK : LEnt := { id := 4, n := 53, sg := sgK, wr := writes bC, s := spK }
noncomputable def libK : Tb := (21, [], Jo.sJn) :: (20, [], Or.sOrd) :: []
theorem libK_ok : TbOk B libK := (TbOk.nil.add Or.okOrd).add Jo.okJn
def rn (n : Int) : Option Out := some ⟨[i64 n], []⟩
def gd {α : Type} (b : Bool) (z : Option α) : Option α := bif b then z else none
theorem tChk (O : List Opr) (C : List Chn) : runM B libK [eK] Try.f12 [.agg [.slw 0, .slw 1]] [⟨false, .oprs O⟩, ⟨false, .chns C⟩] =
    bif decide (20 < (O.length : Int)) then rn 4 else bif decide (100 < (C.length : Int)) then rn 4 else
      gd (decide ((O.length : Int) = (O.length : Int) ∧ (0 : Int) = 0 ∧ O.length ≤ 1000)) (bif (List.range' 0 O.length).any (badO O) then rn 8 else
        gd (decide (O.length ≤ 1000 ∧ C.length ≤ 1000)) (bif !jnN O C then rn 8 else gd (decide (O.length ≤ 1000 ∧ C.length ≤ 1000) && bndC O.length C) (bif !decide (((ordN O.length C).length : Int) = (O.length : Int)) then rn 8 else rn 0))) := by kernel_rfl
theorem any_bad (O : List Opr) : (List.range' 0 O.length).any (badO O) = !O.all oprK := by
  cases h : O.all oprK with
  | true =>
    rw [Bool.not_true, List.any_eq_false]
    intro i hi
    rw [List.mem_range'_1] at hi
    unfold badO
    have hi : i < O.length := by omega
    have : O.getD i default ∈ O := by
      rw [show O.getD i default = O[i] by simp [List.getD, hi]]
      exact List.getElem_mem hi
    rw [List.all_eq_true.1 h _ this]; simp
  | false =>
    rw [Bool.not_false, List.any_eq_true]
    obtain ⟨o, ho, hk⟩ := List.all_eq_false.1 h
    obtain ⟨i, hi, e⟩ := List.getElem_of_mem ho
    refine ⟨i, by rw [List.mem_range'_1]; omega, ?_⟩
    unfold badO
    rw [show O.getD i default = o by simp [List.getD, hi, e]]
    simpa using hk
def chkN (O : List Opr) (C : List Chn) : Int := bif decide (20 < O.length) || decide (100 < C.length) then 4 else bif validN O C then 0 else 8
theorem jn_bnd {O : List Opr} {C : List Chn} (h : jnN O C = true) : bndC O.length C = true := by
  unfold jnN at h
  rw [Bool.and_eq_true] at h
  refine chOk_bnd (List.all_eq_true.2 fun c hc => ?_)
  obtain ⟨i, hi, rfl⟩ := mem_getD hc
  have := List.all_eq_true.1 h.1 i (List.mem_range.2 hi)
  unfold chn1 at this
  rw [Bool.and_eq_true] at this
  exact this.1
theorem chk_is (O : List Opr) (C : List Chn) : (bif decide (20 < (O.length : Int)) then rn 4 else bif decide (100 < (C.length : Int)) then rn 4 else
      gd (decide ((O.length : Int) = (O.length : Int) ∧ (0 : Int) = 0 ∧ O.length ≤ 1000)) (bif (List.range' 0 O.length).any (badO O) then rn 8 else
        gd (decide (O.length ≤ 1000 ∧ C.length ≤ 1000)) (bif !jnN O C then rn 8 else gd (decide (O.length ≤ 1000 ∧ C.length ≤ 1000) && bndC O.length C) (bif !decide (((ordN O.length C).length : Int) = (O.length : Int)) then rn 8 else rn 0)))) = rn (chkN O C) := by
  unfold chkN
  by_cases h1 : 20 < O.length
  · rw [decide_eq_true (show (20 : Int) < (O.length : Int) by omega), decide_eq_true h1]; rfl
  rw [decide_eq_false (show ¬ (20 : Int) < (O.length : Int) by omega), decide_eq_false h1, cond_false]
  by_cases h2 : 100 < C.length
  · rw [decide_eq_true (show (100 : Int) < (C.length : Int) by omega), decide_eq_true h2]; rfl
  rw [decide_eq_false (show ¬ (100 : Int) < (C.length : Int) by omega), decide_eq_false h2, cond_false, any_bad]
  unfold gd
  rw [decide_eq_true (show (O.length : Int) = (O.length : Int) ∧ (0 : Int) = 0 ∧ O.length ≤ 1000 from ⟨rfl, rfl, by omega⟩), decide_eq_true (show O.length ≤ 1000 ∧ C.length ≤ 1000 by omega), cond_true, cond_true, Bool.true_and, Bool.false_or, cond_false]
  cases ha : O.all oprK with
  | false =>
    have : validN O C = false := Bool.eq_false_iff.2 fun h => by rw [(valid_ord.1 h).1.1] at ha; cases ha
    rw [this]; rfl
  | true =>
  rw [Bool.not_true, cond_false]
  cases hj : jnN O C with
  | false =>
    have : validN O C = false := Bool.eq_false_iff.2 fun h => by rw [(valid_ord.1 h).1.2] at hj; cases hj
    rw [this]; rfl
  | true =>
  rw [jn_bnd hj, Bool.not_true, cond_false, cond_true]
  by_cases hl : (ordN O.length C).length = O.length
  · rw [valid_ord.2 ⟨⟨ha, hj⟩, hl⟩, decide_eq_true (show ((ordN O.length C).length : Int) = (O.length : Int) by omega)]; rfl
  · have : validN O C = false := Bool.eq_false_iff.2 fun h => hl (valid_ord.1 h).2
    rw [this, decide_eq_false (show ¬ ((ordN O.length C).length : Int) = (O.length : Int) by omega)]; rfl
def sChk : FSpec
  | [.agg [.slw 0, .slw 1]], [⟨false, .oprs O⟩, ⟨false, .chns C⟩] => .leaf ⟨[i64 (chkN O C)], []⟩
  | _, _ => .bad
theorem okChk : FnOk (E0 B) 12 sChk := by
  refine fnM libK_ok (ls := [eK]) Try.func12 (by kernel_rfl) (by kernel_rfl) (fun x hx => ?_) fun vs bs r h => ?_
  · simp only [List.mem_singleton] at hx; subst hx
    exact ⟨bC, by kernel_rfl, rfl, loopK⟩
  · unfold sChk at h
    split at h
    · rename_i O C
      simp only [T.sel, Option.some.injEq] at h
      subst h
      exact (tChk O C).trans (chk_is O C)
    · simp [T.sel] at h
noncomputable def libR : Tb := (12, [], sChk) :: (20, [], Or.sOrd) :: []
theorem libR_ok : TbOk B libR := (TbOk.nil.add Or.okOrd).add okChk
def sOrder : FSpec
  | [.agg [.slw 0, .slw 1]], [⟨false, .oprs O⟩, ⟨false, .chns C⟩] => .node (decide (chkN O C = 0)) (.leaf ⟨[.slw 0, i64 0], [⟨true, .ints .i64 (ordN O.length C)⟩]⟩) (.leaf ⟨[.slw 0, i64 (chkN O C)], [⟨true, .ints .i64 []⟩]⟩)
  | _, _ => .bad
theorem tOrder (O : List Opr) (C : List Chn) : runT B libR Try.f8 [.agg [.slw 0, .slw 1]] [⟨false, .oprs O⟩, ⟨false, .chns C⟩] =
    bif !decide (chkN O C = 0) then some ⟨[.slw 0, i64 (chkN O C)], [⟨true, .ints .i64 []⟩]⟩ else gd (decide (O.length ≤ 1000 ∧ C.length ≤ 1000) && bndC O.length C) (some ⟨[.slw 0, i64 0], [⟨true, .ints .i64 (ordN O.length C)⟩]⟩) := by kernel_rfl
theorem chk0 {O : List Opr} {C : List Chn} (h : chkN O C = 0) : O.length ≤ 20 ∧ C.length ≤ 100 ∧ validN O C = true := by
  unfold chkN at h
  by_cases h1 : 20 < O.length
  · rw [decide_eq_true h1] at h; cases h
  rw [decide_eq_false h1] at h
  by_cases h2 : 100 < C.length
  · rw [decide_eq_true h2] at h; cases h
  rw [decide_eq_false h2] at h
  refine ⟨by omega, by omega, ?_⟩
  cases hv : validN O C with
  | true => rfl
  | false => rw [hv] at h; cases h
theorem okOrder : FnOk (E0 B) 8 sOrder := by
  refine fnT libR_ok Try.func8 (by kernel_rfl) (by kernel_rfl) fun vs bs r h => ?_
  unfold sOrder at h
  split at h
  · rename_i O C
    refine (tOrder O C).trans ?_
    rcases T.node_sel h with ⟨hc, h2⟩ | ⟨hc, h2⟩
    · obtain ⟨h3, h4, h5⟩ := chk0 (of_decide_eq_true hc)
      simp only [T.sel, Option.some.injEq] at h2
      subst h2
      rw [hc, Bool.not_true, cond_false, jn_bnd (valid_ord.1 h5).1.2, decide_eq_true (show O.length ≤ 1000 ∧ C.length ≤ 1000 by omega)]; rfl
    · simp only [T.sel, Option.some.injEq] at h2
      subst h2
      rw [hc]; rfl
  · simp [T.sel] at h
end Go.Proofs.Ytdckpbeioemopaa.Gk
