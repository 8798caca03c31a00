/-
  Texts put together: OrdFn, OrdFn2, OrdFn3, OrdFn4, OrdFn5, OrdFn6, OrdFn7.
-/
import Derived.Test.YtdckpbeioemopaaNodBase
import Derived.Test.YtdckpbeioemopaaAmD
import Derived.Test.YtdckpbeioemopaaGrB
namespace Go.Proofs.Ytdckpbeioemopaa.Or
open Go.Am Go Go.Proofs.Ytdckpbeioemopaa
set_option maxRecDepth 100000
variable {B : Nat → Option Obj}
noncomputable def oC : Code := bodyC Try.f20
noncomputable def o1 : Code := sB oC
noncomputable def o2 : Code := sB o1
noncomputable def o3 : Code := sB o2
noncomputable def o4 : Code := sB o3
noncomputable def o5 : Code := sB o4
noncomputable def r0 : Code := sA oC
noncomputable def r1 : Code := sA o1
noncomputable def r2 : Code := sA (sA o2)
noncomputable def b1 : Code := lP (bK (sB (sA o2)))
noncomputable def r7 : Code := sA (sA o3)
noncomputable def b2 : Code := lP (bK (sB (sA o3)))
noncomputable def r12 : Code := sA o4
noncomputable def b4 : Code := lP (bK (sA o5))
noncomputable def r29 : Code := sB o5
theorem oC_eq : oC = .seq r0 (.seq r1 (.seq (.seq r2 (.block 0 (.loop b1))) (.seq (.seq r7 (.block 2 (.loop b2))) (.seq r12 (.seq (.block 4 (.loop b4)) r29))))) := by kernel_rfl
noncomputable def r3 : Code := sA b1
noncomputable def r4 : Code := sA (bK (sA (sB (sB b1))))
noncomputable def r5 : Code := sB (bK (sA (sB (sB b1))))
noncomputable def r6 : Code := sB (sB (sB b1))
theorem b1_eq : b1 = .seq r3 (.seq (.cond (.tmp 18) .skip (.exit 0)) (.seq (.block 1 (.seq r4 r5)) r6)) := by kernel_rfl
def gTy : List TypeId := [31, 32]
def gBx (a b : Nat) : Blk := ⟨true, .gen gTy [[.slw a, .slw b]]⟩
def ob (O : List Opr) : Blk := ⟨false, .oprs O⟩
def cb (C : List Chn) : Blk := ⟨false, .chns C⟩
def cTy : List TypeId := [3, 3, 3, 3, 3]
def cBx (c : Chn) : Blk := ⟨true, .gen cTy [[i64 c.src, i64 c.out, i64 c.dst, i64 c.inp, i64 c.room]]⟩
def bsG (O : List Opr) (C : List Chn) : List Blk := [gBx 1 2, ob O, cb C]
def bs0 (O : List Opr) (C : List Chn) : List Blk := [ob O, cb C]
def bsA (O : List Opr) (C : List Chn) : List Blk := [ob O, cb C, gBx 3 4, ob O, cb C]
def sl0 : List (Nat × TypeId) := [(0, 34), (1, 0)]
def sl1 : List (Nat × TypeId) := [(1, 0), (16, 0), (17, 0)]
def sl1a : List (Nat × TypeId) := [(1, 0), (16, 0), (17, 0), (18, 0)]
def sl1b : List (Nat × TypeId) := [(1, 0), (16, 0), (17, 0), (4, 0)]
def vs1 (n i : Int) : List AV := [.ptr 0 0 0, i64 n, i64 i]
noncomputable abbrev tu (B : Nat → Option Obj) (c : Code) (sl mo : List (Nat × TypeId)) (vs : List AV) (bs : List Blk) : Option (AExit × Out) := (turn (E0 B) (Cx B []) noL 84 ⟨[], sl, mo, []⟩ c vs bs).sel
theorem t0 (O : List Opr) (C : List Chn) : tu B r0 sl0 [] [.agg [.slw 0, .slw 1], .any] (bs0 O C) = some (.normal, ⟨[.agg [.slw 0, .slw 1], .ptr 2 0 0], bsA O C⟩) := by kernel_rfl
theorem t2 (O : List Opr) (C : List Chn) : tu B r2 sl1 [] [.ptr 2 0 0, .any, .any] (bsA O C) = some (.normal, ⟨vs1 O.length 0, bsG O C⟩) := by kernel_rfl
theorem t3 (O : List Opr) (C : List Chn) (n i : Int) : tu B r3 sl1a [] (vs1 n i ++ [.any]) (bsG O C) = some (.normal, ⟨vs1 n i ++ [.bool (decide (i < n))], bsG O C⟩) := by kernel_rfl
theorem t4 (O : List Opr) (C : List Chn) (n i : Int) : tu B r4 sl1b [] (vs1 n i ++ [.any]) (bsG O C) = some (.normal, ⟨vs1 n i ++ [i64 i], bsG O C⟩) := by kernel_rfl
theorem t6 (O : List Opr) (C : List Chn) (n i : Int) : tu B r6 sl1 [] (vs1 n i) (bsG O C) = some (.normal, ⟨vs1 n (w64 (i + 1)), bsG O C⟩) := by kernel_rfl
noncomputable def r8 : Code := sA b2
noncomputable def r9 : Code := sA (bK (sA (sB (sB b2))))
noncomputable def r10 : Code := sB (bK (sA (sB (sB b2))))
noncomputable def r11 : Code := sB (sB (sB b2))
theorem b2_eq : b2 = .seq r8 (.seq (.cond (.tmp 27) .skip (.exit 2)) (.seq (.block 3 (.seq r9 r10)) r11)) := by kernel_rfl
def sl2 : List (Nat × TypeId) := [(1, 0), (24, 32), (25, 0), (26, 0)]
def sl2a : List (Nat × TypeId) := sl2 ++ [(27, 0)]
def sl2b : List (Nat × TypeId) := sl2 ++ [(6, 0)]
def sl2c : List (Nat × TypeId) := sl2 ++ [(6, 0), (32, 0)]
def bsC (O : List Opr) (C : List Chn) : List Blk := [gBx 2 3, cb C, ob O, cb C]
def bsCc (O : List Opr) (C : List Chn) (c : Chn) : List Blk := [gBx 3 4, cb C, cBx c, ob O, cb C]
def vs2 (n i : Int) : List AV := [.ptr 0 0 0, .slw 1, i64 n, i64 i]
def cAt (C : List Chn) (i : Int) : Chn := C.getD i.toNat default
def inb (i : Int) (n : Nat) (r : Option (AExit × Out)) : Option (AExit × Out) := bif decide (0 ≤ i ∧ i < (n : Int)) then (bif decide (i.toNat < n) then r else none) else none
theorem t7 (O : List Opr) (C : List Chn) : tu B r7 sl2 [] [.ptr 0 0 0, .any, .any, .any] (bsG O C) = some (.normal, ⟨vs2 C.length 0, bsC O C⟩) := by kernel_rfl
theorem t8 (O : List Opr) (C : List Chn) (n i : Int) : tu B r8 sl2a [] (vs2 n i ++ [.any]) (bsC O C) = some (.normal, ⟨vs2 n i ++ [.bool (decide (i < n))], bsC O C⟩) := by kernel_rfl
theorem t9 (O : List Opr) (C : List Chn) (n i : Int) : tu B r9 sl2b [] (vs2 n i ++ [.any]) (bsC O C) = inb i C.length (some (.normal, ⟨vs2 n i ++ [.ptr 2 0 0], bsCc O C (cAt C i)⟩)) := by kernel_rfl
noncomputable def l10 : List Oper := ((Go.Am.opsOf r10).drop 1).take 2
theorem t10 (O : List Opr) (C : List Chn) (n i : Int) (c : Chn) : (rturn (E0 B) (Cx B []) 84 ⟨[], sl2c, [], []⟩ l10.toArray (vs2 n i ++ [.ptr 2 0 0, .any]) (bsCc O C c)).sel = some ⟨vs2 n i ++ [.ptr 2 0 0, i64 c.dst], bsCc O C c⟩ := by kernel_rfl
theorem t11 (O : List Opr) (C : List Chn) (n i : Int) (c : Chn) : tu B r11 sl2 [] (vs2 n i) (bsCc O C c) = some (.normal, ⟨vs2 n (w64 (i + 1)), bsC O C⟩) := by kernel_rfl
end Go.Proofs.Ytdckpbeioemopaa.Or
namespace Go.Proofs.Ytdckpbeioemopaa.Or
open Go.Am Go Go.Proofs.Ytdckpbeioemopaa
set_option maxRecDepth 100000
variable {B : Nat → Option Obj}
abbrev ownI (w : World) (b : Nat) (L : List Int) (f : Int → Int) : Prop := ownM Try.prog 3 3 w b L f
theorem kp_own (b : Nat) (L : List Int) (f : Int → Int) : Kp (fun w => ownI w b L f) := fun _ _ hk h => h.others hk
def rI (i : Nat) : List Int := (List.range i).map fun (j : Nat) => (j : Int)
theorem rI_mem {n : Nat} {v : Int} : v ∈ rI n ↔ 0 ≤ v ∧ v < (n : Int) := by
  unfold rI
  rw [List.mem_map]
  constructor
  · rintro ⟨j, hj, rfl⟩
    have := List.mem_range.1 hj
    omega
  · rintro ⟨h0, h1⟩
    exact ⟨v.toNat, List.mem_range.2 (by omega), by omega⟩
theorem rI_succ (n : Nat) : rI (n + 1) = rI n ++ [(n : Int)] := by unfold rI; rw [List.range_succ, List.map_append]; rfl
theorem rI_len (n : Nat) : (rI n).length = n := by simp [rI]
theorem rI_nodup (n : Nat) : (rI n).Nodup := by
  unfold rI
  rw [List.nodup_iff_pairwise_ne, List.pairwise_map]
  refine List.Pairwise.imp ?_ (List.nodup_iff_pairwise_ne.1 List.nodup_range)
  intro a b hne; omega
theorem mapAt {w0 : World} {b : Nat} (hlo : w0.heap.size ≤ b) (hng : (E0 B).ng ≤ b) : MapAt (E0 B) w0 70 3 3 b := ⟨by kernel_rfl, by kernel_rfl, by kernel_rfl, hng, hlo⟩
theorem wf64 {v : Int} (h : Rng v) : (Lit.int .i64 v).wf = true := WalkArith.wf_i64 (by unfold Rng at h; omega)
noncomputable def x50 : Oper := (Go.Am.opN r5 0).getD default
noncomputable def x51 : Oper := (Go.Am.opN r5 1).getD default
noncomputable def x52 : Oper := (Go.Am.opN r5 2).getD default
theorem r5_eq : r5 = .region 5 ([x50, x51, x52] : List Oper).toArray false := by kernel_rfl
noncomputable abbrev S (B : Nat → Option Obj) (w0 : World) (ps0 : List Pos) (O : List Opr) (C : List Chn) (sl : List (Nat × TypeId)) (vs : List AV) (bs : List Blk) (fs : List (Nat × Value)) (W : World → Prop) (a : Act) (w : World) : Prop := St (E0 B) 84 sl vs bs w0 (bs0 O C) ps0 fs W a w
theorem cx0 : CG (E0 B) (Cx B []) := cxOk TbOk.nil
theorem w64n {i : Nat} (h : i ≤ 2000) : w64 ((i : Int) + 1) = ((i + 1 : Nat) : Int) := by rw [w64_rng (show Rng ((i : Int) + 1) by unfold Rng; omega)]; omega
theorem loop1 {w0 : World} {ps0 : List Pos} {O : List Opr} {C : List Chn} {b : Nat} (hlo : w0.heap.size ≤ b) (hng : (E0 B).ng ≤ b) (hn : O.length ≤ 1000) {Q : Exit → Act → World → Prop}
    (hQ : ∀ a' w', S B w0 ps0 O C sl1 (vs1 O.length O.length) (bsG O C) [(3, .map (some b))] (fun w => ownI w b (rI O.length) (fun _ => 0)) a' w' → Q (.exit 0) a' w') : ∀ (r i : Nat), i + r = O.length → ∀ a w,
    S B w0 ps0 O C sl1 (vs1 O.length i) (bsG O C) [(3, .map (some b))] (fun w => ownI w b (rI i) (fun _ => 0)) a w → Code.rounds Try.prog b1 Q (r + 1) a w := by
  intro r
  induction r with
  | zero =>
    intro i hi a w H
    rw [rounds_succ, b1_eq]
    refine wp_seq ?_
    refine (H.pick [((1, 0), some 0), ((16, 0), some 1), ((17, 0), some 2), ((18, 0), none)] rfl).run cx0 (noL_ok _) [] [] (t3 O C _ _) (kp_own _ _ _) (by kernel_rfl) fun a1 w1 H1 => ?_
    refine wp_seq (wp_cond_false (H1.h.bool (k := 3) rfl (by rw [decide_eq_false (by omega)]; rfl)) (wp_exit ?_))
    have hi : i = O.length := by omega
    subst hi
    exact hQ a1 w1 (H1.pick [((1, 0), some 0), ((16, 0), some 1), ((17, 0), some 2)] rfl)
  | succ r ih =>
    intro i hi a w H
    rw [rounds_succ, b1_eq]
    refine wp_seq ?_
    refine (H.pick [((1, 0), some 0), ((16, 0), some 1), ((17, 0), some 2), ((18, 0), none)] rfl).run cx0 (noL_ok _) [] [] (t3 O C _ _) (kp_own _ _ _) (by kernel_rfl) fun a1 w1 H1 => ?_
    refine wp_seq (wp_cond_true (H1.h.bool (k := 3) rfl (by rw [decide_eq_true (by omega)]; rfl)) (wp_skip ?_))
    refine wp_seq (wp_block (wp_seq ?_))
    refine (H1.pick [((1, 0), some 0), ((16, 0), some 1), ((17, 0), some 2), ((4, 0), none)] rfl).run cx0 (noL_ok _) [] [] (t4 O C _ _) (kp_own _ _ _) (by kernel_rfl) fun a2 w2 H2 => ?_
    show r5.wp _ _ _ _
    rw [r5_eq]
    refine wp_region_lit ?_
    refine H2.move (by kernel_rfl) (i := 3) (d := 20) (by kernel_rfl) (by kernel_rfl) (H2.f (3, .map (some b)) (by simp)) (by rfl) (by rfl) (by decide) fun a3 H3 => ?_
    refine H3.move (by kernel_rfl) (i := 4) (d := 21) (by kernel_rfl) (by kernel_rfl) (H3.h.int (k := 3) rfl rfl) (by rfl) (by rfl) (by decide) fun a4 H4 => ?_
    refine H4.add (mapAt hlo hng) (by kernel_rfl) (.tmp 20) (.tmp 21) (.const (.int .i64 0)) (by kernel_rfl) (by kernel_rfl) (H4.ev (by simp)) H4.w (by rw [rI_len]; simp only [maxLen]; omega) (v := i) (c := 0) (fun hm => by have := rI_mem.1 hm; omega) (wf64 (by unfold Rng; omega)) (wf64 (by unfold Rng; omega)) (H4.ev (by simp)) rfl fun w5 H5 => ?_
    refine wpList_nil ?_
    show r6.wp _ _ _ _
    have H6 := (H5.pick [((1, 0), some 0), ((16, 0), some 1), ((17, 0), some 2)] rfl).weak (fs' := [(3, .map (some b))]) (W' := fun w => ownI w b (rI (i + 1)) (fun _ => 0)) (by simp) fun h => by
      rw [rI_succ]
      exact ownM.congr h fun v _ => by by_cases e : v = (i : Int) <;> simp [e]
    refine H6.run cx0 (noL_ok _) [] [] (t6 O C _ _) (kp_own _ _ _) (by kernel_rfl) fun a7 w7 H7 => ?_
    rw [w64n (by omega)] at H7
    exact ih (i + 1) (by omega) a7 w7 H7
end Go.Proofs.Ytdckpbeioemopaa.Or
namespace Go.Proofs.Ytdckpbeioemopaa.Or
open Go.Am Go Go.Proofs.Ytdckpbeioemopaa
set_option maxRecDepth 100000
variable {B : Nat → Option Obj}
noncomputable def y0 : Oper := (Go.Am.opN r10 0).getD default
noncomputable def y3 : Oper := (Go.Am.opN r10 3).getD default
noncomputable def y4 : Oper := (Go.Am.opN r10 4).getD default
noncomputable def y5 : Oper := (Go.Am.opN r10 5).getD default
theorem r10_eq : r10 = .region 10 (y0 :: (l10 ++ (y3 :: ([y4] ++ [y5])))).toArray false := by kernel_rfl
theorem t10b (O : List Opr) (C : List Chn) (n i : Int) (c : Chn) (k : Int) : (rturn (E0 B) (Cx B []) 84 ⟨[], sl2c ++ [(33, 0), (34, 0)], [], []⟩ ([y4] : List Oper).toArray (vs2 n i ++ [.ptr 2 0 0, i64 c.dst, i64 k, .any]) (bsCc O C c)).sel = some ⟨vs2 n i ++ [.ptr 2 0 0, i64 c.dst, i64 k, i64 (w64 (k + 1))], bsCc O C c⟩ := by kernel_rfl
theorem inb_is {i n : Nat} {r : Option (AExit × Out)} (h : i < n) : inb (i : Int) n r = r := by
  unfold inb
  rw [decide_eq_true (show 0 ≤ (i : Int) ∧ (i : Int) < (n : Int) by omega), Int.toNat_natCast, decide_eq_true h]; rfl
theorem zeroI (w : World) : (zeroValue 3).run Try.prog w = .ok (.int .i64 0) w := by kernel_rfl
theorem loop2 {w0 : World} {ps0 : List Pos} {O : List Opr} {C : List Chn} {b : Nat} (hlo : w0.heap.size ≤ b) (hng : (E0 B).ng ≤ b) (hn : O.length ≤ 1000) (hC : C.length ≤ 1000) (hb : bndC O.length C = true) {Q : Exit → Act → World → Prop}
    (hQ : ∀ a' w', S B w0 ps0 O C sl2 (vs2 C.length C.length) (bsC O C) [(3, .map (some b))] (fun w => ownI w b (rI O.length) (fun v => inK C v C.length)) a' w' → Q (.exit 2) a' w') : ∀ (r i : Nat), i + r = C.length → ∀ a w,
    S B w0 ps0 O C sl2 (vs2 C.length i) (bsC O C) [(3, .map (some b))] (fun w => ownI w b (rI O.length) (fun v => inK C v i)) a w → Code.rounds Try.prog b2 Q (r + 1) a w := by
  intro r
  induction r with
  | zero =>
    intro i hi a w H
    rw [rounds_succ, b2_eq]
    refine wp_seq ?_
    refine (H.pick [((1, 0), some 0), ((24, 32), some 1), ((25, 0), some 2), ((26, 0), some 3), ((27, 0), none)] rfl).run cx0 (noL_ok _) [] [] (t8 O C _ _) (kp_own _ _ _) (by kernel_rfl) fun a1 w1 H1 => ?_
    refine wp_seq (wp_cond_false (H1.h.bool (k := 4) rfl (by rw [decide_eq_false (by omega)]; rfl)) (wp_exit ?_))
    have hi : i = C.length := by omega
    subst hi
    exact hQ a1 w1 (H1.pick [((1, 0), some 0), ((24, 32), some 1), ((25, 0), some 2), ((26, 0), some 3)] rfl)
  | succ r ih =>
    intro i hi a w H
    have hlt : i < C.length := by omega
    have hc : C[i]? = some (cAt C (i : Int)) := by unfold cAt; rw [Int.toNat_natCast]; simp [List.getD, hlt]
    have hcb := bndC_mem hb (List.mem_of_getElem? hc)
    rw [rounds_succ, b2_eq]
    refine wp_seq ?_
    refine (H.pick [((1, 0), some 0), ((24, 32), some 1), ((25, 0), some 2), ((26, 0), some 3), ((27, 0), none)] rfl).run cx0 (noL_ok _) [] [] (t8 O C _ _) (kp_own _ _ _) (by kernel_rfl) fun a1 w1 H1 => ?_
    refine wp_seq (wp_cond_true (H1.h.bool (k := 4) rfl (by rw [decide_eq_true (by omega)]; rfl)) (wp_skip ?_))
    refine wp_seq (wp_block (wp_seq ?_))
    refine (H1.pick [((1, 0), some 0), ((24, 32), some 1), ((25, 0), some 2), ((26, 0), some 3), ((6, 0), none)] rfl).run cx0 (noL_ok _) [] [] ((t9 O C _ _).trans (inb_is hlt)) (kp_own _ _ _) (by kernel_rfl) fun a2 w2 H2 => ?_
    show r10.wp _ _ _ _
    rw [r10_eq]
    refine wp_region_lit ?_
    refine H2.move (by kernel_rfl) (i := 3) (d := 30) (by kernel_rfl) (by kernel_rfl) (H2.f (3, .map (some b)) (by simp)) (by rfl) (by rfl) (by decide) fun a3 H3 => ?_
    refine (H3.pick [((1, 0), some 0), ((24, 32), some 1), ((25, 0), some 2), ((26, 0), some 3), ((6, 0), some 4), ((32, 0), none)] rfl).seg cx0 [] [] (by kernel_rfl) (t10 O C _ _ _) (kp_own _ _ _) (by kernel_rfl) fun a4 w4 H4 => ?_
    have hd := H4.h.int (k := 5) (s := 32) rfl rfl
    refine H4.lookup (mapAt hlo hng) (zeroI _) (by kernel_rfl) (.tmp 30) (.tmp 32) (by kernel_rfl) (d := 33) (by kernel_rfl) (H4.ev (by simp)) H4.w (v := (cAt C (i : Int)).dst) (rI_mem.2 hcb.2.2) (wf64 (by unfold Rng; omega)) hd (by rfl) (by rfl) (by decide) fun a5 H5 => ?_
    have hk := inK_le C (cAt C (i : Int)).dst i
    refine ((H5.know 0 (H5.f (33, _) (List.mem_cons_self ..))).pick [((1, 0), some 0), ((24, 32), some 1), ((25, 0), some 2), ((26, 0), some 3), ((6, 0), some 4), ((32, 0), some 5), ((33, 0), some 6), ((34, 0), none)] rfl).seg cx0 [] [] (by kernel_rfl) (t10b O C _ _ _ _) (kp_own _ _ _) (by kernel_rfl) fun a6 w6 H6 => ?_
    have hw : w64 (((inK C (cAt C (i : Int)).dst i : Nat) : Int) + 1) = ((inK C (cAt C (i : Int)).dst i + 1 : Nat) : Int) := w64n (by omega)
    refine H6.update (mapAt hlo hng) (by kernel_rfl) (.tmp 30) (.tmp 32) (.tmp 34) (by kernel_rfl) (by kernel_rfl) (H6.ev (by simp)) H6.w (by rw [rI_len]; simp only [maxLen]; omega) (v := (cAt C (i : Int)).dst) (c := ((inK C (cAt C (i : Int)).dst i + 1 : Nat) : Int)) (rI_mem.2 hcb.2.2) (wf64 (by unfold Rng; omega)) (wf64 (by unfold Rng; omega)) (H6.h.int (k := 5) (s := 32) rfl rfl) (by rw [eval_tmp, H6.h.int (k := 7) (s := 34) rfl rfl, hw]) fun w7 H7 => ?_
    refine wpList_nil ?_
    show r11.wp _ _ _ _
    have H8 := (H7.pick [((1, 0), some 0), ((24, 32), some 1), ((25, 0), some 2), ((26, 0), some 3)] rfl).weak (fs' := [(3, .map (some b))]) (W' := fun w => ownI w b (rI O.length) (fun v => inK C v (i + 1))) (by simp) fun h =>
      ownM.congr h fun v _ => by
        rw [inK_succ hc]
        by_cases e : v = (cAt C (i : Int)).dst
        · subst e; simp
        · rw [if_neg e, if_neg (fun h => e h.symm)]; simp
    refine H8.run cx0 (noL_ok _) [] [] (t11 O C _ _ _) (kp_own _ _ _) (by kernel_rfl) fun a9 w9 H9 => ?_
    rw [w64n (by omega)] at H9
    exact ih (i + 1) (by omega) a9 w9 H9
end Go.Proofs.Ytdckpbeioemopaa.Or
namespace Go.Proofs.Ytdckpbeioemopaa.Or
open Go.Am Go Go.Proofs.Ytdckpbeioemopaa
set_option maxRecDepth 100000
variable {B : Nat → Option Obj}
noncomputable def r13 : Code := sA (sA b4)
noncomputable def k5 : Code := bK (sB b4)
noncomputable def r14 : Code := sA k5
noncomputable def k5b : Code := sB k5
noncomputable def r15 : Code := sA (sA k5b)
noncomputable def b6 : Code := lP (bK (sB (sA k5b)))
noncomputable def k5c : Code := sB k5b
noncomputable def r20 : Code := sA k5c
noncomputable def k5d : Code := sB k5c
noncomputable def r21 : Code := sA k5d
noncomputable def k5e : Code := sB k5d
noncomputable def r22 : Code := sA k5e
noncomputable def k5f : Code := sB k5e
noncomputable def r23 : Code := sA k5f
noncomputable def b8 : Code := lP (bK (sB k5f))
theorem b4_eq : b4 = .seq (.seq r13 (.cond (.tmp 38) .skip (.exit 4))) (.block 5 (.seq r14 (.seq (.seq r15 (.block 6 (.loop b6))) (.seq r20 (.seq r21 (.seq r22 (.seq r23 (.block 8 (.loop b8))))))))) := by kernel_rfl
noncomputable def r16 : Code := sA b6
noncomputable def r17 : Code := sA (bK (sB (sB b6)))
noncomputable def r18 : Code := sB (bK (sB (sB b6)))
theorem b6_eq : b6 = .seq r16 (.seq (.cond (.tmp 42) .skip (.exit 6)) (.block 7 (.seq r17 r18))) := by kernel_rfl
noncomputable def r24 : Code := sA b8
noncomputable def k9 : Code := bK (sA (sB (sB b8)))
noncomputable def r25 : Code := sA k9
noncomputable def r26 : Code := sA (sB k9)
noncomputable def r27 : Code := cA (sB (sB k9))
noncomputable def r28 : Code := sB (sB (sB b8))
theorem b8_eq : b8 = .seq r24 (.seq (.cond (.tmp 70) .skip (.exit 8)) (.seq (.block 9 (.seq r25 (.seq r26 (.cond (.tmp 76) r27 .skip)))) r28)) := by kernel_rfl
def own (p : List Int) : Blk := ⟨true, .ints .i64 p⟩
def slM : List (Nat × TypeId) := [(1, 0), (7, 24)]
def bsM (O : List Opr) (C : List Chn) (p : List Int) : List Blk := [gBx 2 3, own p, ob O, cb C]
def vsM : List AV := [.ptr 0 0 0, .slw 1]
noncomputable abbrev tk (B : Nat → Option Obj) (c : Code) (sl mo : List (Nat × TypeId)) (vs : List AV) (bs : List Blk) : Option (AExit × Out) := (turn (E0 B) (Cx B []) noL 84 ⟨[], sl, mo, [1]⟩ c vs bs).sel
theorem t12 (O : List Opr) (C : List Chn) : tk B r12 slM [] [.ptr 0 0 0, .any] (bsC O C) = some (.normal, ⟨vsM, bsM O C []⟩) := by kernel_rfl
noncomputable def z0 : Oper := (Go.Am.opN r13 0).getD default
noncomputable def z1 : Oper := (Go.Am.opN r13 1).getD default
noncomputable def z2 : Oper := (Go.Am.opN r13 2).getD default
theorem r13_eq : r13 = .region 13 (z0 :: z1 :: ([z2] ++ [])).toArray false := by kernel_rfl
theorem t13 (O : List Opr) (C : List Chn) (p : List Int) (k : Int) : (rturn (E0 B) (Cx B []) 84 ⟨[], slM ++ [(37, 0), (38, 0)], [], [1]⟩ ([z2] : List Oper).toArray (vsM ++ [i64 k, .any]) (bsM O C p)).sel = some ⟨vsM ++ [i64 k, .bool (decide (0 < k))], bsM O C p⟩ := by kernel_rfl
def slN : List (Nat × TypeId) := slM ++ [(8, 0)]
def vsN (x : Int) : List AV := vsM ++ [i64 x]
theorem t14 (O : List Opr) (C : List Chn) (p : List Int) : tk B r14 slN [] (vsM ++ [.any]) (bsM O C p) = some (.normal, ⟨vsN (-1), bsM O C p⟩) := by kernel_rfl
noncomputable def u0 : Oper := (Go.Am.opN r15 0).getD default
noncomputable def u1 : Oper := (Go.Am.opN r15 1).getD default
theorem r15_eq : r15 = .region 15 ([u0, u1] : List Oper).toArray false := by kernel_rfl
noncomputable def v0 : Oper := (Go.Am.opN r16 0).getD default
noncomputable def v1 : Oper := (Go.Am.opN r16 1).getD default
theorem r16_eq : r16 = .region 16 ([v0, v1] : List Oper).toArray false := by kernel_rfl
noncomputable def q0 : Oper := (Go.Am.opN r17 0).getD default
noncomputable def q1 : Oper := (Go.Am.opN r17 1).getD default
noncomputable def q2 : Oper := (Go.Am.opN r17 2).getD default
noncomputable def q3 : Oper := (Go.Am.opN r17 3).getD default
noncomputable def q4 : Oper := (Go.Am.opN r17 4).getD default
theorem r17_eq : r17 = .region 17 ([q0, q1, q2, q3, q4] : List Oper).toArray false := by kernel_rfl
def slX : List (Nat × TypeId) := slN ++ [(9, 0), (10, 0)]
def nxt (nx x c : Int) (y z : Option (AExit × Out)) : Option (AExit × Out) := bif decide (c = 0) then (bif decide (nx < 0) then y else bif decide (x < nx) then y else z) else z
theorem t18 (O : List Opr) (C : List Chn) (p : List Int) (nx x c : Int) : tk B r18 slX [] (vsN nx ++ [i64 x, i64 c]) (bsM O C p) = nxt nx x c (some (.normal, ⟨vsN x ++ [i64 x, i64 c], bsM O C p⟩)) (some (.normal, ⟨vsN nx ++ [i64 x, i64 c], bsM O C p⟩)) := by kernel_rfl
theorem t20 (O : List Opr) (C : List Chn) (p : List Int) (nx : Int) : tk B r20 slN slM (vsN nx) (bsM O C p) = bif decide (nx < 0) then some (.exit 4, ⟨vsM, bsM O C p⟩) else some (.normal, ⟨vsN nx, bsM O C p⟩) := by kernel_rfl
theorem t21 (O : List Opr) (C : List Chn) (p : List Int) (nx : Int) : tk B r21 slN [] (vsN nx) (bsM O C p) = bif decide (p.length + 1 ≤ lim) then some (.normal, ⟨vsN nx, bsM O C (p ++ [nx])⟩) else none := by kernel_rfl
noncomputable def d0 : Oper := (Go.Am.opN r22 0).getD default
noncomputable def d1 : Oper := (Go.Am.opN r22 1).getD default
noncomputable def d2 : Oper := (Go.Am.opN r22 2).getD default
theorem r22_eq : r22 = .region 22 ([d0, d1, d2] : List Oper).toArray false := by kernel_rfl
def sl8 : List (Nat × TypeId) := slN ++ [(67, 32), (68, 0), (69, 0)]
def vs8 (x n i : Int) : List AV := vsN x ++ [.slw 2, i64 n, i64 i]
def bs8 (O : List Opr) (C : List Chn) (p : List Int) : List Blk := [gBx 3 4, own p, cb C, ob O, cb C]
def bs8c (O : List Opr) (C : List Chn) (p : List Int) (c : Chn) : List Blk := [gBx 4 5, own p, cb C, cBx c, ob O, cb C]
theorem t23 (O : List Opr) (C : List Chn) (p : List Int) (x : Int) : tk B r23 sl8 [] (vsN x ++ [.any, .any, .any]) (bsM O C p) = some (.normal, ⟨vs8 x C.length 0, bs8 O C p⟩) := by kernel_rfl
theorem t24 (O : List Opr) (C : List Chn) (p : List Int) (x n i : Int) : tk B r24 (sl8 ++ [(70, 0)]) [] (vs8 x n i ++ [.any]) (bs8 O C p) = some (.normal, ⟨vs8 x n i ++ [.bool (decide (i < n))], bs8 O C p⟩) := by kernel_rfl
theorem t25 (O : List Opr) (C : List Chn) (p : List Int) (x n i : Int) : tk B r25 (sl8 ++ [(12, 0)]) [] (vs8 x n i ++ [.any]) (bs8 O C p) = inb i C.length (some (.normal, ⟨vs8 x n i ++ [.ptr 3 0 0], bs8c O C p (cAt C i)⟩)) := by kernel_rfl
theorem t26 (O : List Opr) (C : List Chn) (p : List Int) (x n i : Int) (c : Chn) : tk B r26 (sl8 ++ [(12, 0), (76, 0)]) [] (vs8 x n i ++ [.ptr 3 0 0, .any]) (bs8c O C p c) = some (.normal, ⟨vs8 x n i ++ [.ptr 3 0 0, .bool (decide (c.src = x))], bs8c O C p c⟩) := by kernel_rfl
noncomputable def l27 : List Oper := ((Go.Am.opsOf r27).drop 1).take 2
noncomputable def e0 : Oper := (Go.Am.opN r27 0).getD default
noncomputable def e3 : Oper := (Go.Am.opN r27 3).getD default
noncomputable def e4 : Oper := (Go.Am.opN r27 4).getD default
noncomputable def e5 : Oper := (Go.Am.opN r27 5).getD default
theorem r27_eq : r27 = .region 27 (e0 :: (l27 ++ (e3 :: ([e4] ++ [e5])))).toArray false := by kernel_rfl
theorem t27 (O : List Opr) (C : List Chn) (p : List Int) (x n i : Int) (c : Chn) : (rturn (E0 B) (Cx B []) 84 ⟨[], sl8 ++ [(12, 0), (79, 0)], [], [1]⟩ l27.toArray (vs8 x n i ++ [.ptr 3 0 0, .any]) (bs8c O C p c)).sel = some ⟨vs8 x n i ++ [.ptr 3 0 0, i64 c.dst], bs8c O C p c⟩ := by kernel_rfl
theorem t27b (O : List Opr) (C : List Chn) (p : List Int) (x n i : Int) (c : Chn) (k : Int) : (rturn (E0 B) (Cx B []) 84 ⟨[], sl8 ++ [(12, 0), (79, 0), (80, 0), (81, 0)], [], [1]⟩ ([e4] : List Oper).toArray (vs8 x n i ++ [.ptr 3 0 0, i64 c.dst, i64 k, .any]) (bs8c O C p c)).sel = some ⟨vs8 x n i ++ [.ptr 3 0 0, i64 c.dst, i64 k, i64 (w64 (k - 1))], bs8c O C p c⟩ := by kernel_rfl
theorem t28 (O : List Opr) (C : List Chn) (p : List Int) (x n i : Int) (c : Chn) : tk B r28 sl8 [] (vs8 x n i) (bs8c O C p c) = some (.normal, ⟨vs8 x n (w64 (i + 1)), bs8 O C p⟩) := by kernel_rfl
theorem t29 (O : List Opr) (C : List Chn) (p : List Int) : (turn (E0 B) (Cx B []) noL 84 ⟨[], [(7, 24)], [(2, 24)], [0]⟩ r29 [.slw 1] (bsM O C p)).sel = some (.ret, ⟨[.slw 0], [own p]⟩) := by kernel_rfl
end Go.Proofs.Ytdckpbeioemopaa.Or
namespace Go.Proofs.Ytdckpbeioemopaa.Or
open Go.Am Go Go.Proofs.Ytdckpbeioemopaa
set_option maxRecDepth 100000
variable {B : Nat → Option Obj}
theorem loop8 {w0 : World} {ps0 : List Pos} {O : List Opr} {C : List Chn} {b : Nat} (hlo : w0.heap.size ≤ b) (hng : (E0 B).ng ≤ b) (hn : O.length ≤ 1000) (hC : C.length ≤ 1000) (hb : bndC O.length C = true) {p q : List Int} {x : Int} {L : List Int} (hL : L.length ≤ 1000)
    (hlead : ∀ c ∈ C, c.src = x → c.dst ∈ L) {Q : Exit → Act → World → Prop}
    (hQ : ∀ a' w', S B w0 ps0 O C slM vsM (bs8 O C q) [(3, .map (some b))] (fun w => ownI w b L (fun v => (cntP C p v : Int) - (dnK C x v C.length : Int))) a' w' → Q (.exit 8) a' w') : ∀ (r i : Nat), i + r = C.length → ∀ a w,
    S B w0 ps0 O C sl8 (vs8 x C.length i) (bs8 O C q) [(3, .map (some b))] (fun w => ownI w b L (fun v => (cntP C p v : Int) - (dnK C x v i : Int))) a w → Code.rounds Try.prog b8 Q (r + 1) a w := by
  intro r
  induction r with
  | zero =>
    intro i hi a w H
    rw [rounds_succ, b8_eq]
    refine wp_seq ?_
    refine (H.pick [((1, 0), some 0), ((7, 24), some 1), ((8, 0), some 2), ((67, 32), some 3), ((68, 0), some 4), ((69, 0), some 5), ((70, 0), none)] rfl).run cx0 (noL_ok _) [] [1] (t24 O C q _ _ _) (kp_own _ _ _) (by kernel_rfl) fun a1 w1 H1 => ?_
    refine wp_seq (wp_cond_false (H1.h.bool (k := 6) rfl (by rw [decide_eq_false (by omega)]; rfl)) (wp_exit ?_))
    have hi : i = C.length := by omega
    subst hi
    exact hQ a1 w1 (H1.pick [((1, 0), some 0), ((7, 24), some 1)] rfl)
  | succ r ih =>
    intro i hi a w H
    have hlt : i < C.length := by omega
    have hc : C[i]? = some (cAt C (i : Int)) := by unfold cAt; rw [Int.toNat_natCast]; simp [List.getD, hlt]
    have hm := List.mem_of_getElem? hc
    have hcb := bndC_mem hb hm
    rw [rounds_succ, b8_eq]
    refine wp_seq ?_
    refine (H.pick [((1, 0), some 0), ((7, 24), some 1), ((8, 0), some 2), ((67, 32), some 3), ((68, 0), some 4), ((69, 0), some 5), ((70, 0), none)] rfl).run cx0 (noL_ok _) [] [1] (t24 O C q _ _ _) (kp_own _ _ _) (by kernel_rfl) fun a1 w1 H1 => ?_
    refine wp_seq (wp_cond_true (H1.h.bool (k := 6) rfl (by rw [decide_eq_true (by omega)]; rfl)) (wp_skip ?_))
    refine wp_seq (wp_block (wp_seq ?_))
    refine (H1.pick [((1, 0), some 0), ((7, 24), some 1), ((8, 0), some 2), ((67, 32), some 3), ((68, 0), some 4), ((69, 0), some 5), ((12, 0), none)] rfl).run cx0 (noL_ok _) [] [1] ((t25 O C q _ _ _).trans (inb_is hlt)) (kp_own _ _ _) (by kernel_rfl) fun a2 w2 H2 => ?_
    refine wp_seq ?_
    refine (H2.pick [((1, 0), some 0), ((7, 24), some 1), ((8, 0), some 2), ((67, 32), some 3), ((68, 0), some 4), ((69, 0), some 5), ((12, 0), some 6), ((76, 0), none)] rfl).run cx0 (noL_ok _) [] [1] (t26 O C q _ _ _ _) (kp_own _ _ _) (by kernel_rfl) fun a3 w3 H3 => ?_
    have last : ∀ a w, S B w0 ps0 O C sl8 (vs8 x C.length i) (bs8c O C q (cAt C i)) [(3, .map (some b))] (fun w => ownI w b L (fun v => (cntP C p v : Int) - (dnK C x v (i + 1) : Int))) a w → r28.wp Try.prog (Exit.then (Code.rounds Try.prog b8 Q (r + 1)) Q) a w := fun a w H => by
      refine H.run cx0 (noL_ok _) [] [1] (t28 O C q _ _ _ _) (kp_own _ _ _) (by kernel_rfl) fun a9 w9 H9 => ?_
      rw [w64n (by omega)] at H9
      exact ih (i + 1) (by omega) a9 w9 H9
    by_cases hs : (cAt C (i : Int)).src = x
    · refine wp_cond_true (H3.h.bool (k := 7) rfl (by rw [decide_eq_true hs]; rfl)) ?_
      rw [r27_eq]
      refine wp_region_lit ?_
      have hin := hlead _ hm hs
      have hk1 := cntP_le C p (cAt C (i : Int)).dst
      have hk2 := dnK_le C x (cAt C (i : Int)).dst i
      refine (H3.pick [((1, 0), some 0), ((7, 24), some 1), ((8, 0), some 2), ((67, 32), some 3), ((68, 0), some 4), ((69, 0), some 5), ((12, 0), some 6)] rfl).move (by kernel_rfl) (i := 3) (d := 77) (by kernel_rfl) (by kernel_rfl) (H3.f (3, .map (some b)) (by simp)) (by rfl) (by rfl) (by decide) fun a4 H4 => ?_
      refine (H4.pick [((1, 0), some 0), ((7, 24), some 1), ((8, 0), some 2), ((67, 32), some 3), ((68, 0), some 4), ((69, 0), some 5), ((12, 0), some 6), ((79, 0), none)] rfl).seg cx0 [] [1] (by kernel_rfl) (t27 O C q _ _ _ _) (kp_own _ _ _) (by kernel_rfl) fun a5 w5 H5 => ?_
      have hd := H5.h.int (k := 7) (s := 79) rfl rfl
      refine H5.lookup (mapAt hlo hng) (zeroI _) (by kernel_rfl) (.tmp 77) (.tmp 79) (by kernel_rfl) (d := 80) (by kernel_rfl) (H5.ev (by simp)) H5.w (v := (cAt C (i : Int)).dst) hin (wf64 (by unfold Rng; omega)) hd (by rfl) (by rfl) (by decide) fun a6 H6 => ?_
      refine ((H6.know 0 (H6.f (80, _) (List.mem_cons_self ..))).pick [((1, 0), some 0), ((7, 24), some 1), ((8, 0), some 2), ((67, 32), some 3), ((68, 0), some 4), ((69, 0), some 5), ((12, 0), some 6), ((79, 0), some 7), ((80, 0), some 8), ((81, 0), none)] rfl).seg cx0 [] [1] (by kernel_rfl) (t27b O C q _ _ _ _ _) (kp_own _ _ _) (by kernel_rfl) fun a7 w7 H7 => ?_
      have hw : w64 ((cntP C p (cAt C (i : Int)).dst : Int) - (dnK C x (cAt C (i : Int)).dst i : Int) - 1) = (cntP C p (cAt C (i : Int)).dst : Int) - (dnK C x (cAt C (i : Int)).dst i : Int) - 1 := w64_rng (by unfold Rng; omega)
      refine H7.update (mapAt hlo hng) (by kernel_rfl) (.tmp 77) (.tmp 79) (.tmp 81) (by kernel_rfl) (by kernel_rfl) (H7.ev (by simp)) H7.w (by simp only [maxLen]; omega) (v := (cAt C (i : Int)).dst) (c := (cntP C p (cAt C (i : Int)).dst : Int) - (dnK C x (cAt C (i : Int)).dst i : Int) - 1) hin (wf64 (by unfold Rng; omega)) (wf64 (by unfold Rng; omega)) (H7.h.int (k := 7) (s := 79) rfl rfl) (by rw [eval_tmp, H7.h.int (k := 9) (s := 81) rfl rfl, hw]) fun w8 H8 => ?_
      refine wpList_nil ?_
      refine last _ _ ((H8.pick [((1, 0), some 0), ((7, 24), some 1), ((8, 0), some 2), ((67, 32), some 3), ((68, 0), some 4), ((69, 0), some 5)] rfl).weak (by simp) fun h => ownM.congr h fun v _ => ?_)
      rw [dnK_succ hc]
      by_cases e : v = (cAt C (i : Int)).dst
      · subst e; rw [if_pos rfl, if_pos ⟨rfl, hs⟩]; omega
      · rw [if_neg e, if_neg (fun h => e h.1.symm)]; simp
    · refine wp_cond_false (H3.h.bool (k := 7) rfl (by rw [decide_eq_false hs]; rfl)) (wp_skip ?_)
      refine last _ _ ((H3.pick [((1, 0), some 0), ((7, 24), some 1), ((8, 0), some 2), ((67, 32), some 3), ((68, 0), some 4), ((69, 0), some 5)] rfl).weak (by simp) fun h => ownM.congr h fun v _ => ?_)
      rw [dnK_succ hc, if_neg (fun h => hs h.2)]; simp
def Seen (f : Int → Int) (L : List Int) (T : Int → Prop) (nx : Int) : Prop :=
  (nx = -1 ∧ ∀ v ∈ L, ¬ T v → f v ≠ 0) ∨ (nx ∈ L ∧ f nx = 0 ∧ ∀ v ∈ L, ¬ T v → f v = 0 → nx ≤ v)
theorem Seen.start (f : Int → Int) (L : List Int) : Seen f L (fun v => v ∈ L) (-1) := .inl ⟨rfl, fun _ hv h => (h hv).elim⟩
theorem Seen.same {f : Int → Int} {L : List Int} {T : Int → Prop} {nx x : Int} (h : Seen f L T nx) (hx : f x ≠ 0 ∨ (0 ≤ nx ∧ nx ≤ x)) : Seen f L (fun u => T u ∧ u ≠ x) nx := by
  have key : ∀ v, ¬ (T v ∧ v ≠ x) → ¬ T v ∨ v = x := fun v hv => Classical.byContradiction fun hc => hv ⟨Classical.byContradiction fun h => hc (.inl h), fun e => hc (.inr e)⟩
  rcases h with ⟨rfl, h⟩ | ⟨h1, h2, h3⟩
  · refine .inl ⟨rfl, fun v hv ht => ?_⟩
    rcases key v ht with ht | rfl
    · exact h v hv ht
    · rcases hx with hx | hx
      · exact hx
      · omega
  · refine .inr ⟨h1, h2, fun v hv ht hz => ?_⟩
    rcases key v ht with ht | rfl
    · exact h3 v hv ht hz
    · rcases hx with hx | hx
      · exact (hx hz).elim
      · exact hx.2
theorem Seen.next {f : Int → Int} {L : List Int} {T : Int → Prop} {nx x : Int} (h : Seen f L T nx) (hL : x ∈ L) (hx : f x = 0) (hn : nx < 0 ∨ x < nx) (h0 : ∀ v ∈ L, 0 ≤ v) : Seen f L (fun u => T u ∧ u ≠ x) x := by
  refine .inr ⟨hL, hx, fun v hv ht hz => ?_⟩
  by_cases e : v = x
  · omega
  have ht : ¬ T v := fun h => ht ⟨h, e⟩
  rcases h with ⟨rfl, h⟩ | ⟨h1, h2, h3⟩
  · exact (h v hv ht hz).elim
  · have := h3 v hv ht hz
    have := h0 nx h1
    omega
theorem kp_rng (b r : Nat) (L : List Int) (f : Int → Int) (T : Int → Prop) (m : Nat) : Kp (fun w => rngM Try.prog 3 3 w b r L f T ∧ w.rangeLeft b r = m) := fun _ _ hk h => by
  obtain ⟨h1, h2⟩ := rngM.others h.1 hk
  exact ⟨h1, h2.trans h.2⟩
theorem loop6 {w0 : World} {ps0 : List Pos} {O : List Opr} {C : List Chn} {b rr : Nat} (hlo : w0.heap.size ≤ b) (hng : (E0 B).ng ≤ b) (rlo : w0.heap.size ≤ rr) (rng : (E0 B).ng ≤ rr) {p L : List Int} {f : Int → Int} (h0 : ∀ v ∈ L, 0 ≤ v) {Q : Exit → Act → World → Prop}
    (hQ : ∀ a' w' nx, Seen f L (fun _ => False) nx → S B w0 ps0 O C slN (vsN nx) (bsM O C p) [(3, .map (some b))] (fun w => ownI w b L f) a' w' → Q (.exit 6) a' w') : ∀ (m k : Nat), m < k → ∀ (T : Int → Prop) (nx : Int) a w, Seen f L T nx →
    S B w0 ps0 O C slN (vsN nx) (bsM O C p) [(40, .pointer (some ⟨rr, 0, none⟩)), (3, .map (some b))] (fun w => rngM Try.prog 3 3 w b rr L f T ∧ w.rangeLeft b rr = m) a w → Code.rounds Try.prog b6 Q k a w := by
  intro m
  induction m using Nat.strongRecOn with
  | _ m ih =>
    intro k hk T nx a w hseen H
    obtain ⟨k, rfl⟩ : ∃ j, k = j + 1 := ⟨k - 1, by omega⟩
    rw [rounds_succ, b6_eq]
    refine wp_seq ?_
    rw [r16_eq]
    refine wp_region_lit ?_
    refine H.next (mapAt hlo hng) rlo rng (by kernel_rfl) (.tmp 40) (by kernel_rfl) (d := 41) (by kernel_rfl) (H.ev (by simp)) H.w.1 (by rfl) (by rfl) (by decide) (fun hS a1 H1 => ?_) fun x a1 w1 hS hL hlt hent H1 => ?_
    · refine H1.extract (by kernel_rfl) (i := 41) (j := 0) (d := 42) (by kernel_rfl) (by kernel_rfl) (H1.f (41, _) (List.mem_cons_self ..)) rfl (by rfl) (by rfl) (by decide) fun a2 H2 => ?_
      refine wpList_nil ?_
      refine wp_seq (wp_cond_false (H2.ev (by simp)) (wp_exit ?_))
      refine hQ _ _ nx ?_ (H2.weak (by simp) fun h => rngM.own h.1)
      rcases hseen with ⟨e, h⟩ | ⟨h1, h2, h3⟩
      · exact .inl ⟨e, fun v hv _ => h v hv (hS v)⟩
      · exact .inr ⟨h1, h2, fun v hv _ => h3 v hv (hS v)⟩
    · refine H1.extract (by kernel_rfl) (i := 41) (j := 0) (d := 42) (by kernel_rfl) (by kernel_rfl) (H1.f (41, _) (List.mem_cons_self ..)) rfl (by rfl) (by rfl) (by decide) fun a2 H2 => ?_
      refine wpList_nil ?_
      refine wp_seq (wp_cond_true (H2.ev (by simp)) (wp_skip ?_))
      refine wp_block (wp_seq ?_)
      rw [r17_eq]
      refine wp_region_lit ?_
      have H2 := H2.weak (fs' := [(40, .pointer (some ⟨rr, 0, none⟩)), (3, .map (some b))]) (W' := fun w => rngM Try.prog 3 3 w b rr L f (fun u => T u ∧ u ≠ x) ∧ w.rangeLeft b rr = w1.rangeLeft b rr) (by simp) fun h => ⟨h, rfl⟩
      refine H2.entry (by kernel_rfl) (i := 40) (d := 43) (by kernel_rfl) (by kernel_rfl) (H2.f (40, .pointer (some ⟨rr, 0, none⟩)) (by simp)) hent (by rfl) (by rfl) (by decide) fun a3 H3 => ?_
      refine H3.extract (by kernel_rfl) (i := 43) (j := 0) (d := 44) (by kernel_rfl) (by kernel_rfl) (H3.f (43, _) (List.mem_cons_self ..)) rfl (by rfl) (by rfl) (by decide) fun a4 H4 => ?_
      refine H4.extract (by kernel_rfl) (i := 43) (j := 1) (d := 45) (by kernel_rfl) (by kernel_rfl) (H4.f (43, .tuple #[.int .i64 x, .int .i64 (f x)]) (by simp)) rfl (by rfl) (by rfl) (by decide) fun a5 H5 => ?_
      refine H5.assign (by kernel_rfl) (i := 44) (d := 9) (by kernel_rfl) (by kernel_rfl) (H5.f (44, .int .i64 x) (by simp)) (by rfl) (by rfl) (by decide) fun a6 H6 => ?_
      refine H6.assign (by kernel_rfl) (i := 45) (d := 10) (by kernel_rfl) (by kernel_rfl) (H6.f (45, .int .i64 (f x)) (by simp)) (by rfl) (by rfl) (by decide) fun a7 H7 => ?_
      refine wpList_nil ?_
      have H8 := ((H7.know 0 (H7.f (9, .int .i64 x) (by simp))).know 0 (H7.f (10, .int .i64 (f x)) (by simp))).weak (fs' := [(40, .pointer (some ⟨rr, 0, none⟩)), (3, .map (some b))]) (W' := fun w => rngM Try.prog 3 3 w b rr L f (fun u => T u ∧ u ≠ x) ∧ w.rangeLeft b rr = w1.rangeLeft b rr) (by simp) fun h => h
      have hm : w1.rangeLeft b rr < m := by have := H.w.2; omega
      have go : ∀ nx', Seen f L (fun u => T u ∧ u ≠ x) nx' → nxt nx x (f x) (some (.normal, ⟨vsN x ++ [i64 x, i64 (f x)], bsM O C p⟩)) (some (.normal, ⟨vsN nx ++ [i64 x, i64 (f x)], bsM O C p⟩)) = some (.normal, ⟨vsN nx' ++ [i64 x, i64 (f x)], bsM O C p⟩) → r18.wp Try.prog (Exit.inBlock 7 (Exit.then (Code.rounds Try.prog b6 Q k) Q)) a7 w1 := fun nx' hs he => by
        refine H8.run cx0 (noL_ok _) [] [1] ((t18 O C p nx x (f x)).trans he) (kp_rng _ _ _ _ _ _) (by kernel_rfl) fun a9 w9 H9 => ?_
        exact ih _ hm k (by omega) _ nx' a9 w9 hs (H9.pick [((1, 0), some 0), ((7, 24), some 1), ((8, 0), some 2)] rfl)
      by_cases hz : f x = 0
      · by_cases h1 : nx < 0
        · exact go x (hseen.next hL hz (.inl h1) h0) (by unfold nxt; rw [decide_eq_true hz, decide_eq_true h1]; rfl)
        · by_cases h2 : x < nx
          · exact go x (hseen.next hL hz (.inr h2) h0) (by unfold nxt; rw [decide_eq_true hz, decide_eq_false h1, decide_eq_true h2]; rfl)
          · exact go nx (hseen.same (.inr (by omega))) (by unfold nxt; rw [decide_eq_true hz, decide_eq_false h1, decide_eq_false h2]; rfl)
      · exact go nx (hseen.same (.inl hz)) (by unfold nxt; rw [decide_eq_false hz]; rfl)
end Go.Proofs.Ytdckpbeioemopaa.Or
namespace Go.Proofs.Ytdckpbeioemopaa.Or
open Go.Am Go Go.Proofs.Ytdckpbeioemopaa
set_option maxRecDepth 100000
variable {B : Nat → Option Obj}
theorem t13b (O : List Opr) (C : List Chn) (p : List Int) (k : Int) : (rturn (E0 B) (Cx B []) 84 ⟨[], slM ++ [(37, 0), (38, 0)], [], [1]⟩ ([z2] : List Oper).toArray (vsM ++ [i64 k, .any]) (bs8 O C p)).sel = some ⟨vsM ++ [i64 k, .bool (decide (0 < k))], bsM O C p⟩ := by kernel_rfl
structure Lp (n : Nat) (p L : List Int) : Prop where
  nd : L.Nodup
  mem : ∀ v, v ∈ L ↔ (0 ≤ v ∧ v < (n : Int)) ∧ v ∉ p
theorem Lp.len {n : Nat} {p L : List Int} (h : Lp n p L) : L.length ≤ n := by
  have h1 : L ⊆ rI n := fun v hv => rI_mem.2 ((h.mem v).1 hv).1
  have := sub_len h.nd h1
  rw [rI_len] at this; exact this
theorem Lp.next {n : Nat} {p L : List Int} (h : Lp n p L) (x : Int) : Lp n (p ++ [x]) (L.erase x) := ⟨h.nd.erase x, fun v => by
  rw [List.Nodup.mem_erase_iff h.nd, h.mem v, List.mem_append, List.mem_singleton]
  constructor
  · rintro ⟨h1, h2, h3⟩
    exact ⟨h2, fun e => e.elim h3 h1⟩
  · rintro ⟨h1, h2⟩
    exact ⟨fun e => h2 (.inr e), h1, fun e => h2 (.inl e)⟩⟩
theorem kpT : Kp (fun _ => True) := fun _ _ _ h => h
theorem least_m1 {n : Nat} {C : List Chn} {p L : List Int} (h : Lp n p L) (hz : ∀ v ∈ L, ¬ False → (cntP C p v : Int) ≠ 0) : nextN n C p = -1 := by
  refine least_one (least_next n C p) (.inl ⟨rfl, fun y h0 h1 => ?_⟩)
  cases hr : rdyN C p y with
  | false => rfl
  | true =>
    obtain ⟨h2, h3⟩ := rdyN_is.1 hr
    exact absurd (by rw [h3]; rfl) (hz y ((h.mem y).2 ⟨⟨h0, h1⟩, h2⟩) id)
theorem least_x {n : Nat} {C : List Chn} {p L : List Int} (h : Lp n p L) {x : Int} (hx : x ∈ L) (hz : (cntP C p x : Int) = 0) (hm : ∀ v ∈ L, ¬ False → (cntP C p v : Int) = 0 → x ≤ v) : nextN n C p = x ∧ rdyN C p x = true := by
  obtain ⟨h1, h2⟩ := (h.mem x).1 hx
  have hr : rdyN C p x = true := rdyN_is.2 ⟨h2, by omega⟩
  refine ⟨least_one (least_next n C p) (.inr ⟨h1.1, h1.2, hr, fun y h0 hy hy2 => ?_⟩), hr⟩
  obtain ⟨h3, h4⟩ := rdyN_is.1 hy2
  exact hm y ((h.mem y).2 ⟨⟨h0, hy⟩, h3⟩) id (by omega)
theorem round4 {w0 : World} {ps0 : List Pos} {O : List Opr} {C : List Chn} {b : Nat} (hlo : w0.heap.size ≤ b) (hng : (E0 B).ng ≤ b) (hn : O.length ≤ 1000) (hC : C.length ≤ 1000) (hb : bndC O.length C = true) {p L : List Int} (hp : Plc O.length C p) (hL : Lp O.length p L) {k : Nat} {Q : Exit → Act → World → Prop}
    (hstop : (L = [] ∨ nextN O.length C p = -1) → ∀ a' w', S B w0 ps0 O C slM vsM (bsM O C p) [] (fun _ => True) a' w' → Q (.exit 4) a' w')
    (hgo : ∀ nx, nextN O.length C p = nx → nx ∈ L → rdyN C p nx = true → ∀ a' w', S B w0 ps0 O C slM vsM (bs8 O C (p ++ [nx])) [(3, .map (some b))] (fun w => ownI w b (L.erase nx) (fun v => (cntP C (p ++ [nx]) v : Int))) a' w' → Code.rounds Try.prog b4 Q k a' w')
    {a : Act} {w : World} {bs : List Blk} (hbs : bs = bsM O C p ∨ bs = bs8 O C p) (H : S B w0 ps0 O C slM vsM bs [(3, .map (some b))] (fun w => ownI w b L (fun v => (cntP C p v : Int))) a w) : Code.rounds Try.prog b4 Q (k + 1) a w := by
  have hLl := hL.len
  have hpl := hp.le
  rw [rounds_succ, b4_eq]
  refine wp_seq (wp_seq ?_)
  rw [r13_eq]
  refine wp_region_lit ?_
  refine H.move (by kernel_rfl) (i := 3) (d := 36) (by kernel_rfl) (by kernel_rfl) (H.f (3, .map (some b)) (by simp)) (by rfl) (by rfl) (by decide) fun a1 H1 => ?_
  refine H1.len (mapAt hlo hng) (by kernel_rfl) (.tmp 36) (by kernel_rfl) (d := 37) (by kernel_rfl) (H1.ev (by simp)) H1.w (by rfl) (by rfl) (by decide) fun a2 H2 => ?_
  have t13' : (rturn (E0 B) (Cx B []) 84 ⟨[], slM ++ [(37, 0), (38, 0)], [], [1]⟩ ([z2] : List Oper).toArray (vsM ++ [i64 (L.length : Nat), .any]) bs).sel = some ⟨vsM ++ [i64 (L.length : Nat), .bool (decide (0 < ((L.length : Nat) : Int)))], bsM O C p⟩ := by
    rcases hbs with rfl | rfl
    · exact t13 O C p _
    · exact t13b O C p _
  refine ((H2.know 0 (H2.f (37, _) (List.mem_cons_self ..))).pick [((1, 0), some 0), ((7, 24), some 1), ((37, 0), some 2), ((38, 0), none)] rfl).seg cx0 [] [1] (by kernel_rfl) t13' (kp_own _ _ _) (by kernel_rfl) fun a3 w3 H3 => ?_
  refine wpList_nil ?_
  by_cases hz : L = []
  · refine wp_cond_false (H3.h.bool (k := 3) rfl (by rw [hz]; rfl)) (wp_exit ?_)
    exact hstop (.inl hz) _ _ ((H3.pick [((1, 0), some 0), ((7, 24), some 1)] rfl).weak (by simp) fun _ => trivial)
  have hpos : 0 < L.length := List.length_pos_iff.2 hz
  refine wp_cond_true (H3.h.bool (k := 3) rfl (by rw [decide_eq_true (show 0 < ((L.length : Nat) : Int) by omega)]; rfl)) (wp_skip ?_)
  refine wp_block (wp_seq ?_)
  refine (H3.pick [((1, 0), some 0), ((7, 24), some 1), ((8, 0), none)] rfl).run cx0 (noL_ok _) [] [1] (t14 O C p) (kp_own _ _ _) (by kernel_rfl) fun a4 w4 H4 => ?_
  refine wp_seq (wp_seq ?_)
  rw [r15_eq]
  refine wp_region_lit ?_
  refine H4.move (by kernel_rfl) (i := 3) (d := 39) (by kernel_rfl) (by kernel_rfl) (H4.f (3, .map (some b)) (by simp)) (by rfl) (by rfl) (by decide) fun a5 H5 => ?_
  refine H5.range (mapAt hlo hng) (by kernel_rfl) (.tmp 39) (by kernel_rfl) (d := 40) (by kernel_rfl) (H5.ev (by simp)) H5.w (by rfl) (by rfl) (by decide) fun a6 w6 rr rlo rng H6 => ?_
  refine wpList_nil ?_
  refine wp_block (wp_loop_rounds (w6.rangeLeft b rr + 1) (loop6 hlo hng rlo rng (fun v hv => ((hL.mem v).1 hv).1.1) (fun a7 w7 nx hseen H7 => ?_) _ _ (Nat.lt_succ_self _) _ (-1) _ _ (Seen.start _ _) (H6.weak (by simp) fun h => ⟨h, rfl⟩)))
  refine wp_seq ?_
  rcases hseen with ⟨rfl, hno⟩ | ⟨hx, hx0, hmin⟩
  · refine H7.out cx0 (noL_ok _) slM [1] (t20 O C p (-1)) (by simp) (kp_own _ _ _) (by kernel_rfl) fun a8 w8 H8 => ?_
    exact hstop (.inr (least_m1 hL hno)) _ _ (H8.weak (by simp) fun _ => trivial)
  obtain ⟨hnx, hrdy⟩ := least_x hL hx hx0 hmin
  have hrng := ((hL.mem nx).1 hx).1
  refine H7.run cx0 (noL_ok _) slM [1] ((t20 O C p nx).trans (by rw [decide_eq_false (by omega)]; rfl)) (kp_own _ _ _) (by kernel_rfl) fun a8 w8 H8 => ?_
  refine wp_seq ?_
  refine H8.run cx0 (noL_ok _) [] [1] ((t21 O C p nx).trans (by rw [decide_eq_true (show p.length + 1 ≤ lim by simp only [lim]; omega)]; rfl)) (kp_own _ _ _) (by kernel_rfl) fun a9 w9 H9 => ?_
  refine wp_seq ?_
  rw [r22_eq]
  refine wp_region_lit ?_
  refine H9.move (by kernel_rfl) (i := 3) (d := 64) (by kernel_rfl) (by kernel_rfl) (H9.f (3, .map (some b)) (by simp)) (by rfl) (by rfl) (by decide) fun a10 H10 => ?_
  refine H10.move (by kernel_rfl) (i := 8) (d := 65) (by kernel_rfl) (by kernel_rfl) (H10.h.int (k := 2) rfl rfl) (by rfl) (by rfl) (by decide) fun a11 H11 => ?_
  refine H11.delete (mapAt hlo hng) (by kernel_rfl) (.tmp 64) (.tmp 65) (by kernel_rfl) (by kernel_rfl) (H11.ev (by simp)) H11.w hL.nd (v := nx) hx (wf64 (by unfold Rng; omega)) (H11.ev (by simp)) fun w12 H12 => ?_
  refine wpList_nil ?_
  refine wp_seq ?_
  have H12 := (H12.pick [((1, 0), some 0), ((7, 24), some 1), ((8, 0), some 2), ((67, 32), none), ((68, 0), none), ((69, 0), none)] rfl).weak (fs' := [(3, .map (some b))]) (W' := fun w => ownI w b (L.erase nx) (fun v => (cntP C p v : Int))) (by simp) fun h => h
  refine H12.run cx0 (noL_ok _) [] [1] (t23 O C (p ++ [nx]) nx) (kp_own _ _ _) (by kernel_rfl) fun a13 w13 H13 => ?_
  refine wp_block (wp_loop_rounds (C.length + 1) (loop8 (p := p) (x := nx) (L := L.erase nx) hlo hng hn hC hb (by rw [List.length_erase_of_mem hx]; omega) (fun c hc hs => ?_) (fun a14 w14 H14 => ?_) C.length 0 (by omega) _ _ (H13.weak (by simp) fun h => ownM.congr h fun v _ => by rw [dnK_zero]; simp)))
  · have h1 := hp.lead hrdy hc hs
    have h2 := bndC_mem hb hc
    exact ((hL.next nx).mem _).2 ⟨⟨h2.2.2.1, h2.2.2.2⟩, h1⟩
  · exact hgo nx hnx hx hrdy _ _ (H14.weak (by simp) fun h => ownM.congr h fun v _ => (cntP_place (rdyN_is.1 hrdy).1 v).symm)
theorem loop4 {w0 : World} {ps0 : List Pos} {O : List Opr} {C : List Chn} {b : Nat} (hlo : w0.heap.size ≤ b) (hng : (E0 B).ng ≤ b) (hn : O.length ≤ 1000) (hC : C.length ≤ 1000) (hb : bndC O.length C = true) {Q : Exit → Act → World → Prop} : ∀ (r : Nat) (p L : List Int), Plc O.length C p → Lp O.length p L → p.length + r = O.length →
    (∀ a' w', S B w0 ps0 O C slM vsM (bsM O C (ordGo O.length C r p)) [] (fun _ => True) a' w' → Q (.exit 4) a' w') →
    ∀ a w bs, bs = bsM O C p ∨ bs = bs8 O C p → S B w0 ps0 O C slM vsM bs [(3, .map (some b))] (fun w => ownI w b L (fun v => (cntP C p v : Int))) a w → Code.rounds Try.prog b4 Q (r + 1) a w := by
  intro r
  induction r with
  | zero =>
    intro p L hp hL hr hQ a w bs hbs H
    refine round4 hlo hng hn hC hb hp hL (fun _ => hQ) (fun nx _ hx hrdy => ?_) hbs H
    have h1 := ((hL.mem nx).1 hx).1
    have := (hp.next h1.1 h1.2 hrdy).le
    simp at this; omega
  | succ r ih =>
    intro p L hp hL hr hQ a w bs hbs H
    refine round4 hlo hng hn hC hb hp hL (fun hs => ?_) (fun nx hnx hx hrdy a' w' H' => ?_) hbs H
    · rcases hs with hs | hs
      · exfalso
        have hsub : rI O.length ⊆ p := fun v hv => Classical.byContradiction fun hno => by
          have := (hL.mem v).2 ⟨rI_mem.1 hv, hno⟩
          rw [hs] at this; cases this
        have := sub_len (rI_nodup _) hsub
        rw [rI_len] at this; omega
      · rw [ordGo_stop hs] at hQ; exact hQ
    · have h1 := ((hL.mem nx).1 hx).1
      rw [ordGo_more (by rw [hnx]; exact h1.1), hnx] at hQ
      exact ih (p ++ [nx]) _ (hp.next h1.1 h1.2 hrdy) (hL.next nx) (by simp; omega) hQ a' w' _ (.inr rfl) H'
end Go.Proofs.Ytdckpbeioemopaa.Or
namespace Go.Proofs.Ytdckpbeioemopaa.Or
open Go.Am Go Go.Proofs.Ytdckpbeioemopaa
set_option maxRecDepth 100000
variable {B : Nat → Option Obj}
noncomputable def m0 : Oper := (Go.Am.opN r1 0).getD default
noncomputable def m1 : Oper := (Go.Am.opN r1 1).getD default
theorem r1_eq : r1 = .region 1 ([m0, m1] : List Oper).toArray false := by kernel_rfl
def sOrd : FSpec
  | [.agg [.slw 0, .slw 1]], [⟨false, .oprs O⟩, ⟨false, .chns C⟩] => .node (decide (O.length ≤ 1000 ∧ C.length ≤ 1000) && bndC O.length C) (.leaf ⟨[.slw 0], [⟨true, .ints .i64 (ordN O.length C)⟩]⟩) .bad
  | _, _ => .bad
theorem wpList_makeMap {P : Program} {ops : Array Oper} {rest : List Oper} {o : Oper} {a : Act} {w : World} {Q : Exit → Act → World → Prop} {t : TypeId} (hg : o.guard = none) (hop : o.op = .makeMap t none)
    (hK : wpList P ops Q rest (a.put o.dst (.map (some w.heap.size))) (w.alloc (.map #[] 0))) : wpList P ops Q (o :: rest) a w := by
  refine wpList_plain hg fun K hK' => ?_
  unfold Oper.wp
  have : (Instr.makeMap t none).run P w = .ok (.map (some w.heap.size)) (w.alloc (.map #[] 0)) := rfl
  simp [execOp, hop, this, Result.andThen]
  exact hK' _ _ hK
theorem okOrd : FnOk (E0 B) 20 sOrd := by
  refine ⟨fnAt_mk (fn := Try.f20) Try.func20 (by kernel_rfl) (by kernel_rfl), fun vs bs out hsel w cargs ps hc hv => ?_⟩
  unfold sOrd at hsel
  split at hsel
  rotate_left
  · simp [T.sel] at hsel
  rename_i O C
  rcases T.node_sel hsel with ⟨hg, h2⟩ | ⟨_, h2⟩
  rotate_left
  · simp [T.sel] at h2
  rw [Bool.and_eq_true] at hg
  obtain ⟨⟨hn, hC⟩, hb⟩ : (O.length ≤ 1000 ∧ C.length ≤ 1000) ∧ bndC O.length C = true := ⟨of_decide_eq_true hg.1, hg.2⟩
  simp only [T.sel, Option.some.injEq] at h2
  subst h2
  have hcl : cargs.length = 1 := hv.length
  have H0 : S B w ps O C [(0, 34)] [.agg [.slw 0, .slw 1]] (bs0 O C) [] (fun _ => True) { tmps := cargs.toArray ++ Array.replicate (Try.f20.ntmps - cargs.toArray.size) undef, defers := [] } w :=
    ⟨Hr.start (fn := Try.f20) hc hv (by kernel_rfl) (by omega) (by rw [hcl]; rfl), by simp, trivial⟩
  refine calls_of_wp Try.func20 (show Try.f20.body = some oC by kernel_rfl) ?_
  rw [oC_eq]
  refine wp_seq ?_
  refine (H0.pick [((0, 34), some 0), ((1, 0), none)] rfl).run cx0 (noL_ok _) [] [] (t0 O C) kpT (by kernel_rfl) fun a1 w1 H1 => ?_
  refine wp_seq ?_
  rw [r1_eq]
  refine wp_region_lit ?_
  have hlo : w.heap.size ≤ w1.heap.size := by
    obtain ⟨_, _, p1, _, _, hm⟩ := H1.h
    exact hm.stp.ext.size
  have hng : (E0 B).ng ≤ w1.heap.size := by
    obtain ⟨_, _, p1, hc1, _, _⟩ := H1.h
    exact hc1.g.size
  refine wpList_makeMap (t := 70) (by kernel_rfl) (by kernel_rfl) ?_
  rw [show m0.dst = some 13 by kernel_rfl]
  have H2 := ((H1.put (d := 13) (.map (some w1.heap.size)) (by rfl) (by rfl) (by decide)).turn (W' := fun w => ownI w w1.heap.size [] (fun _ => 0)) (World.grownBy_alloc w1 (.map #[] 0) none) (fun r hr => by cases hr) (ownM_made _ _ _ _ _))
  refine H2.assign (by kernel_rfl) (i := 13) (d := 3) (by kernel_rfl) (by kernel_rfl) (H2.f (13, .map (some w1.heap.size)) (by simp)) (by rfl) (by rfl) (by decide) fun a3 H3 => ?_
  refine wpList_nil ?_
  refine wp_seq (wp_seq ?_)
  have H3 := (H3.pick [((1, 0), some 1), ((16, 0), none), ((17, 0), none)] rfl).weak (fs' := [(3, .map (some w1.heap.size))]) (W' := fun w => ownI w w1.heap.size [] (fun _ => 0)) (by simp) fun h => h
  refine H3.run cx0 (noL_ok _) [] [] (t2 O C) (kp_own _ _ _) (by kernel_rfl) fun a4 w4 H4 => ?_
  refine wp_block (wp_loop_rounds (O.length + 1) (loop1 (i := 0) hlo hng hn (fun a5 w5 H5 => ?_) O.length (by omega) _ _ H4))
  refine wp_seq (wp_seq ?_)
  have H5 := (H5.pick [((1, 0), some 0), ((24, 32), none), ((25, 0), none), ((26, 0), none)] rfl).weak (fs' := [(3, .map (some w1.heap.size))]) (W' := fun w => ownI w w1.heap.size (rI O.length) (fun v => inK C v 0)) (by simp) fun h => ownM.congr h fun v _ => by rw [inK_zero]; rfl
  refine H5.run cx0 (noL_ok _) [] [] (t7 O C) (kp_own _ _ _) (by kernel_rfl) fun a6 w6 H6 => ?_
  refine wp_block (wp_loop_rounds (C.length + 1) (loop2 (i := 0) hlo hng hn hC hb (fun a7 w7 H7 => ?_) C.length (by omega) _ _ H6))
  refine wp_seq ?_
  have H7 := (H7.pick [((1, 0), some 0), ((7, 24), none)] rfl).weak (fs' := [(3, .map (some w1.heap.size))]) (W' := fun w => ownI w w1.heap.size (rI O.length) (fun v => (cntP C [] v : Int))) (by simp) fun h => ownM.congr h fun v _ => by rw [inK_all]
  refine H7.run cx0 (noL_ok _) [] [1] (t12 O C) (kp_own _ _ _) (by kernel_rfl) fun a8 w8 H8 => ?_
  refine wp_seq ?_
  refine wp_block (wp_loop_rounds (O.length + 1) (loop4 hlo hng hn hC hb O.length [] (rI O.length) (Plc.nil _ _) ⟨rI_nodup _, fun v => by rw [rI_mem]; simp⟩ (by simp) (fun a9 w9 H9 => ?_) _ _ _ (.inl rfl) H8))
  refine (H9.h.pick [((7, 24), some 1)] rfl).out cx0 (noL_ok _) (mo := [(2, 24)]) (tk := [0]) (t29 O C _) (by simp) fun a10 w10 H10 _ _ => ?_
  obtain ⟨_, hd, ps', g1, g2, g3⟩ := H10
  refine ⟨hd, a10.tmps.getD 2 undef, results_tmp (t := 2) (by kernel_rfl) _ _ _, _, ps', rfl, g1, ?_, g3, fun j k hj => ?_⟩
  · simp only [slotVs, List.map_cons, List.map_nil, VL] at g2
    obtain ⟨_, _, h1, h2, _⟩ := g2
    injection h1 with h1 _
    subst h1
    exact h2
  · rw [show pers [AV.agg [.slw 0, .slw 1]] [⟨false, .oprs O⟩, ⟨false, .chns C⟩] = [] from rfl] at hj
    simp at hj
end Go.Proofs.Ytdckpbeioemopaa.Or
