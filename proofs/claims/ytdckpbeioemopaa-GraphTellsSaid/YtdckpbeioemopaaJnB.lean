/-
  Texts put together: JnWalk, JnWalk2, JnWalk3.
-/
import Derived.Test.YtdckpbeioemopaaJnA
namespace Go.Proofs.Ytdckpbeioemopaa.Jo
open Go.Am Go Go.Proofs.Ytdckpbeioemopaa
set_option maxRecDepth 100000
variable {B : Nat → Option Obj}
theorem cx0 : CG (E0 B) (Cx B []) := cxOk TbOk.nil
theorem w64n {i : Nat} (h : i ≤ 2000) : w64 ((i : Int) + 1) = ((i + 1 : Nat) : Int) := by rw [w64_rng (show Rng ((i : Int) + 1) by unfold Rng; omega)]; omega
theorem bad1_is (n : Nat) (c : Chn) (x y : Option (AExit × Out)) : bad1 n c x y = bif chOk n c then y else x := by
  unfold bad1
  have no : ∀ z : Option (AExit × Out), ¬ (0 ≤ c.src ∧ 0 ≤ c.dst ∧ c.src < (n : Int) ∧ c.dst < (n : Int) ∧ 1 ≤ c.room ∧ c.room ≤ 8) → x = z → z = bif chOk n c then y else x := fun z h e => by
    unfold chOk
    rw [decide_eq_false h, cond_false, e]
  by_cases h1 : (if c.dst < c.src then c.dst else c.src) < 0
  · rw [decide_eq_true h1, cond_true]; exact no _ (by split at h1 <;> omega) rfl
  rw [decide_eq_false h1, cond_false]
  by_cases h2 : (n : Int) ≤ (if c.src < c.dst then c.dst else c.src)
  · rw [decide_eq_true h2, cond_true]; exact no _ (by split at h2 <;> omega) rfl
  rw [decide_eq_false h2, cond_false]
  by_cases h3 : c.room < 1
  · rw [decide_eq_true h3, cond_true]; exact no _ (by omega) rfl
  rw [decide_eq_false h3, cond_false]
  by_cases h4 : 8 < c.room
  · rw [decide_eq_true h4, cond_true]; exact no _ (by omega) rfl
  rw [decide_eq_false h4, cond_false]
  unfold chOk
  have h5 : 0 ≤ c.src ∧ 0 ≤ c.dst := by split at h1 <;> omega
  have h6 : c.src < (n : Int) ∧ c.dst < (n : Int) := by split at h2 <;> omega
  rw [decide_eq_true (show 0 ≤ c.src ∧ 0 ≤ c.dst ∧ c.src < (n : Int) ∧ c.dst < (n : Int) ∧ 1 ≤ c.room ∧ c.room ≤ 8 by omega), cond_true]
theorem bad2_is (k : Nat) (b c : Chn) (x y : Option (AExit × Out)) : bad2 (k : Int) b c x y = bif (decide (k = 0) || !adjN b c) then y else x := by
  unfold bad2 adjN
  by_cases h0 : k = 0
  · subst h0; rfl
  rw [decide_eq_true (show (0 : Int) < (k : Int) by omega), decide_eq_false h0, cond_true, Bool.false_or]
  generalize decide (c.src < b.src) = a1
  generalize decide (b.src = c.src) = a2
  generalize decide (c.out ≤ b.out) = a3
  cases a1 <;> cases a2 <;> cases a3 <;> rfl
theorem prv_is {k : Nat} (h : k ≤ 2000) : prv (k : Int) = ((k - 1 : Nat) : Int) := by
  unfold prv
  rw [w64_rng (show Rng ((k : Int) - 1) by unfold Rng; omega)]
  split <;> omega
def I1 (C : List Chn) (k : Nat) : Bool → Nat → List Int := fun s j => ((C.take k).filter fun c => decide ((bif s then c.src else c.dst) = (j : Int))).map fun c => bif s then c.out else c.inp
theorem I1_len (C : List Chn) (k : Nat) (s : Bool) (j : Nat) : (I1 C k s j).length ≤ k := by
  unfold I1
  rw [List.length_map]
  exact Nat.le_trans (List.length_filter_le _ _) (by rw [List.length_take]; omega)
theorem take_at {C : List Chn} {k : Nat} (h : k < C.length) : C.take (k + 1) = C.take k ++ [C.getD k default] := by
  rw [List.take_add_one, List.getElem?_eq_getElem h]; simp [List.getD, h]
theorem I1_succ {C : List Chn} {k t f : Nat} (h : k < C.length) (ht : (C.getD k default).dst = (t : Int)) (hf : (C.getD k default).src = (f : Int)) :
    updI (I1 C k) t f (I1 C k false t ++ [(C.getD k default).inp]) (I1 C k true f ++ [(C.getD k default).out]) = I1 C (k + 1) := by
  have hk := take_at h
  generalize C.getD k default = c at hk ht hf ⊢
  funext s j
  unfold updI
  cases s with
  | false =>
    by_cases hj : j = t
    · subst hj
      rw [if_pos ⟨rfl, rfl⟩]
      simp [I1, hk, List.filter_append, ht]
    · rw [if_neg (by simp [hj]), if_neg (by simp)]
      have : ¬ (t : Int) = (j : Int) := by omega
      simp [I1, hk, List.filter_append, ht, this]
  | true =>
    by_cases hj : j = f
    · subst hj
      rw [if_neg (by simp), if_pos ⟨rfl, rfl⟩]
      simp [I1, hk, List.filter_append, hf]
    · rw [if_neg (by simp), if_neg (by simp [hj])]
      have : ¬ (f : Int) = (j : Int) := by omega
      simp [I1, hk, List.filter_append, hf, this]
theorem I1_zero (C : List Chn) : I1 C 0 = fun _ _ => [] := by funext s j; simp [I1]
theorem I1_ins (C : List Chn) (j : Nat) : I1 C C.length false j = insN C j := by simp [I1, insN]
theorem I1_outs (C : List Chn) (j : Nat) : I1 C C.length true j = outsN C j := by simp [I1, outsN]
theorem bs0_own {O : List Opr} {C : List Chn} {ps0 : List Pos} : ∀ k, ¬ ownB (psRho ps0) (blkH (bs0 O C)) k := by
  rintro k ⟨b, z, p, h1, h2, _⟩
  match b, h1 with
  | 0, h1 => cases h1; cases h2
  | 1, h1 => cases h1; cases h2
  | b + 2, h1 => cases h1
noncomputable abbrev J (B : Nat → Option Obj) (w0 : World) (ps0 : List Pos) (O : List Opr) (C : List Chn) (sl : List (Nat × TypeId)) (vs : List AV) (bs : List Blk) (m : Nat) (A : Bool → Nat × Nat) (I : Bool → Nat → List Int) (D : Bool → Nat → Option Nat) (val : Bool → Value) (a : Act) (w : World) : Prop := Jn (E0 B) 143 sl vs bs w0 (bs0 O C) ps0 3 4 m O.length A I D val a w
theorem f10 {O : List Opr} {C : List Chn} (n i : Int) {t f k : Nat} {c : Chn} {l1 l2 : List Int} (ht : c.dst = (t : Int)) (hf : c.src = (f : Int)) (h1 : t < k) (h2 : f < k) (h3 : l1.length + 1 ≤ lim) (h4 : l2.length + 1 ≤ lim) :
    (Go.Am.focT (E0 B) (Cx B []) noL r10 (loopSt (E0 B) 143 ⟨[], sl10, [], []⟩ (vs10 n i t f k) (focBs 24 (bsCc O C c) l1 l2)) 7 8 [] sl1).sel = some (⟨vs1 n i, bsC O C⟩, l1 ++ [c.inp], l2 ++ [c.out]) := by
  rw [t10, decide_eq_true (show c.dst = (t : Int) ∧ 0 ≤ (t : Int) ∧ (t : Int) < (k : Int) by omega), decide_eq_true (show c.src = (f : Int) ∧ 0 ≤ (f : Int) ∧ (f : Int) < (k : Int) by omega), decide_eq_true h3, decide_eq_true h4]
  rfl
def fin1 : List ((Nat × TypeId) × Option Nat) := [((1, 0), some 0), ((21, 32), some 1), ((22, 0), some 2), ((23, 0), some 3)]
def fin6 : List ((Nat × TypeId) × Option Nat) := [((1, 0), some 0), ((21, 32), some 1), ((22, 0), some 2), ((23, 0), some 3), ((6, 0), some 4)]
theorem fin6_sl : fin6.map (·.1) = sl1 ++ [(6, 0)] := rfl
theorem fin6_vs (n i : Int) : pickV (vsc n i) fin6 = vs1 n i ++ [.ptr 2 0 0] := rfl
theorem loop1 {w0 : World} {ps0 : List Pos} {O : List Opr} {C : List Chn} (hC : C.length ≤ 1000) {A : Bool → Nat × Nat} {val : Bool → Value} {Q : Exit → Act → World → Prop}
    (hF : (List.range C.length).all (chn1 O.length C) = false → ∀ bs a' w', Hr (E0 B) 143 [(2, 0)] [.bool false] bs w0 (bs0 O C) ps0 a' w' → Q .ret a' w')
    (hQ : (List.range C.length).all (chn1 O.length C) = true → ∀ a' w' D, J B w0 ps0 O C sl1 (vs1 C.length C.length) (bsC O C) 0 A (I1 C C.length) D val a' w' → Q (.exit 0) a' w') :
    ∀ (r k : Nat), k + r = C.length → (∀ i, i < k → chn1 O.length C i = true) → ∀ a w D, J B w0 ps0 O C sl1 (vs1 C.length k) (bsC O C) 0 A (I1 C k) D val a w → Code.rounds Try.prog b1 Q (r + 1) a w := by
  intro r
  induction r with
  | zero =>
    intro k hk hall a w D H
    rw [rounds_succ, b1_eq]
    refine wp_seq ?_
    refine (H.pick (fin1 ++ [((24, 0), none)]) rfl).run cx0 (noL_ok _) [] [] (t3 O C _ _) (by kernel_rfl) fun a1 w1 H1 => ?_
    refine wp_seq (wp_cond_false (H1.hr.bool (k := 4) rfl (by rw [decide_eq_false (by omega)]; rfl)) (wp_exit ?_))
    have hk : k = C.length := by omega
    subst hk
    exact hQ (List.all_eq_true.2 fun i hi => hall i (List.mem_range.1 hi)) a1 w1 D (H1.pick fin1 rfl)
  | succ r ih =>
    intro k hk hall a w D H
    have hlt : k < C.length := by omega
    rw [rounds_succ, b1_eq]
    refine wp_seq ?_
    refine (H.pick (fin1 ++ [((24, 0), none)]) rfl).run cx0 (noL_ok _) [] [] (t3 O C _ _) (by kernel_rfl) fun a1 w1 H1 => ?_
    refine wp_seq (wp_cond_true (H1.hr.bool (k := 4) rfl (by rw [decide_eq_true (by omega)]; rfl)) (wp_skip ?_))
    refine wp_seq (wp_block (wp_seq ?_))
    refine (H1.pick (fin1 ++ [((6, 0), none), ((5, 0), none)]) rfl).run cx0 (noL_ok _) [] [] ((t4 O C _ _).trans (En.inb_is hlt)) (by kernel_rfl) fun a2 w2 H2 => ?_
    refine wp_seq ?_
    have hcat : cAt C (k : Int) = C.getD k default := by unfold cAt; rw [Int.toNat_natCast]
    rw [hcat] at H2
    have hbad : chn1 O.length C k = false → (List.range C.length).all (chn1 O.length C) = false := fun h => by
      rw [Bool.eq_false_iff]
      intro h2
      rw [List.all_eq_true.1 h2 k (List.mem_range.2 hlt)] at h
      cases h
    cases hc : chOk O.length (C.getD k default) with
    | false =>
      refine H2.hr.out cx0 (noL_ok _) (mo := [(2, 0)]) (tk := []) ((t5 O C _ _ _).trans (by rw [bad1_is, hc]; rfl)) (by simp) fun a3 w3 H3 _ _ => ?_
      exact hF (hbad (by unfold chn1; rw [hc]; rfl)) _ a3 w3 H3
    | true =>
    refine H2.run cx0 (noL_ok _) [(2, 0)] [] ((t5 O C _ _ _).trans (by rw [bad1_is, hc]; rfl)) (by kernel_rfl) fun a3 w3 H3 => ?_
    refine wp_seq ?_
    have h7 : tu B r7 (sl1 ++ [(6, 0), (5, 0)]) [(2, 0)] (vsc C.length k) (bsCc O C (C.getD k default)) = bif (decide (k = 0) || !adjN (C.getD (k - 1) default) (C.getD k default)) then some (.normal, ⟨vsc C.length k, bsCc O C (C.getD k default)⟩) else some (.ret, ⟨[.bool false], [gBx 2 3, cBx (C.getD k default), ob O, cb C]⟩) := by
      rw [t7, prv_is (by omega), En.inb_is (by omega), bad2_is]
      unfold cAt; rw [Int.toNat_natCast]
    cases hd : (decide (k = 0) || !adjN (C.getD (k - 1) default) (C.getD k default)) with
    | false =>
      rw [hd] at h7
      refine H3.hr.out cx0 (noL_ok _) (mo := [(2, 0)]) (tk := []) h7 (by simp) fun a4 w4 H4 _ _ => ?_
      exact hF (hbad (by unfold chn1; rw [hd, Bool.and_false])) _ a4 w4 H4
    | true =>
    rw [hd] at h7
    refine H3.run cx0 (noL_ok _) [(2, 0)] [] h7 (by kernel_rfl) fun a4 w4 H4 => ?_
    have hcc := hc
    unfold chOk at hcc
    have hcc := of_decide_eq_true hcc
    obtain ⟨t, ht⟩ : ∃ t : Nat, (C.getD k default).dst = (t : Int) := ⟨(C.getD k default).dst.toNat, by omega⟩
    obtain ⟨f, hf⟩ : ∃ f : Nat, (C.getD k default).src = (f : Int) := ⟨(C.getD k default).src.toNat, by omega⟩
    have l1 := I1_len C k false t
    have l2 := I1_len C k true f
    have H4' : J B w0 ps0 O C (sl1 ++ [(6, 0)]) (vs1 C.length k ++ [.ptr 2 0 0]) (bsCc O C (C.getD k default)) 0 A (I1 C k) D val a4 w4 := by
      have hh := H4.pick fin6 rfl
      rw [fin6_sl] at hh
      simp only [fin6_vs] at hh
      exact hh
    have h10 := f10 (B := B) (O := O) (C := C) C.length k (k := O.length) (l1 := I1 C k false t) (l2 := I1 C k true f) ht hf (by omega) (by omega) (by simp only [lim]; omega) (by simp only [lim]; omega)
    refine Jn.foc H4' cx0 (noL_ok _) (T := 24) (by kernel_rfl) (by show (5 : Nat) < 900; omega) (Nat.zero_le _) (t := t) (f := f) (by omega) (Nat.zero_le _) (by omega) [] [] [] h10 (by kernel_rfl) bs0_own fun a5 w5 D' H5 => ?_
    rw [I1_succ hlt ht hf] at H5
    show r11.wp _ _ _ _
    refine H5.run cx0 (noL_ok _) [] [] (t11 O C _ _) (by kernel_rfl) fun a6 w6 H6 => ?_
    rw [w64n (by omega)] at H6
    refine ih (k + 1) (by omega) (fun i hi => ?_) a6 w6 D' H6
    by_cases e : i = k
    · subst e; unfold chn1; rw [hc, hd]; rfl
    · exact hall i (by omega)
end Go.Proofs.Ytdckpbeioemopaa.Jo
namespace Go.Proofs.Ytdckpbeioemopaa.Jo
open Go.Am Go Go.Proofs.Ytdckpbeioemopaa
set_option maxRecDepth 100000
variable {B : Nat → Option Obj}
theorem libJ_ok : TbOk B libJ := TbOk.nil.add En.okEnd
theorem cxJ : CG (E0 B) (Cx B libJ) := cxOk libJ_ok
theorem f16 {O : List Opr} {C : List Chn} (n : Int) {i k : Nat} {o : Opr} {x y : Int × Int} {l1 l2 : List Int} (hi : i < k) (h1 : l1.length ≤ 1000) (h2 : l2.length ≤ 1000) :
    (Go.Am.useT (E0 B) (Cx B libJ) noL r16 (loopSt (E0 B) 143 ⟨[], sl15 ++ [(3, 0), (4, 0)], [], []⟩ (vs16 n i k) (focBs 24 (bsOb O C o x y) l1 l2)) 9 10 [] sl16).sel = some ⟨vs2 n i ++ [.bool (!(endsN l1 x && endsN l2 y))], bsO O C⟩ := by
  rw [t16, decide_eq_true (show (i : Int) = (i : Int) ∧ 0 ≤ (i : Int) ∧ (i : Int) < (k : Int) by omega), decide_eq_true h1, decide_eq_true h2]
  cases endsN l1 x <;> rfl
def gin2 : List ((Nat × TypeId) × Option Nat) := [((1, 0), some 0), ((113, 31), some 1), ((114, 0), some 2), ((115, 0), some 3)]
def gin15 : List ((Nat × TypeId) × Option Nat) := [((1, 0), some 0), ((113, 31), some 1), ((114, 0), some 2), ((115, 0), some 3), ((9, 0), some 4), ((8, 0), some 5), ((10, 0), none), ((11, 0), none)]
theorem gin15_sl : gin15.map (·.1) = sl15 := rfl
theorem gin15_vs (n i : Int) : pickV (vso n i) gin15 = vso n i ++ [.any, .any] := rfl
theorem gin2_sl : gin2.map (·.1) = sl2 := rfl
theorem gin2_vs (n i : Int) (x : AV) : pickV (vs2 n i ++ [x]) gin2 = vs2 n i := rfl
theorem loop2 {w0 : World} {ps0 : List Pos} {O : List Opr} {C : List Chn} (hn : O.length ≤ 1000) (hC : C.length ≤ 1000) {A : Bool → Nat × Nat} {val : Bool → Value} {D : Bool → Nat → Option Nat} {Q : Exit → Act → World → Prop}
    (hF : (List.range O.length).all (opr1 O C) = false → ∀ bs a' w', Hr (E0 B) 143 [(2, 0)] [.bool false] bs w0 (bs0 O C) ps0 a' w' → Q .ret a' w')
    (hQ : (List.range O.length).all (opr1 O C) = true → ∀ a' w', Hr (E0 B) 143 sl2 (vs2 O.length O.length) (bsO O C) w0 (bs0 O C) ps0 a' w' → Q (.exit 2) a' w') :
    ∀ (r k : Nat), k + r = O.length → (∀ i, i < k → opr1 O C i = true) → ∀ a w, J B w0 ps0 O C sl2 (vs2 O.length k) (bsO O C) k A (I1 C C.length) D val a w → Code.rounds Try.prog b2 Q (r + 1) a w := by
  intro r
  induction r with
  | zero =>
    intro k hk hall a w H
    rw [rounds_succ, b2_eq]
    refine wp_seq ?_
    refine (H.pick (gin2 ++ [((116, 0), none)]) rfl).run cx0 (noL_ok _) [] [] (t13 O C _ _) (by kernel_rfl) fun a1 w1 H1 => ?_
    refine wp_seq (wp_cond_false (H1.hr.bool (k := 4) rfl (by rw [decide_eq_false (by omega)]; rfl)) (wp_exit ?_))
    have hk : k = O.length := by omega
    subst hk
    exact hQ (List.all_eq_true.2 fun i hi => hall i (List.mem_range.1 hi)) a1 w1 (H1.pick gin2 rfl).hr
  | succ r ih =>
    intro k hk hall a w H
    have hlt : k < O.length := by omega
    rw [rounds_succ, b2_eq]
    refine wp_seq ?_
    refine (H.pick (gin2 ++ [((116, 0), none)]) rfl).run cx0 (noL_ok _) [] [] (t13 O C _ _) (by kernel_rfl) fun a1 w1 H1 => ?_
    refine wp_seq (wp_cond_true (H1.hr.bool (k := 4) rfl (by rw [decide_eq_true (by omega)]; rfl)) (wp_skip ?_))
    refine wp_seq (wp_block (wp_seq ?_))
    refine (H1.pick (gin2 ++ [((9, 0), none), ((8, 0), none)]) rfl).run cx0 (noL_ok _) [] [] ((t14 O C _ _).trans (En.inb_is hlt)) (by kernel_rfl) fun a2 w2 H2 => ?_
    refine wp_seq ?_
    have hcat : oAt O (k : Int) = O.getD k default := by unfold oAt; rw [Int.toNat_natCast]
    rw [hcat] at H2
    have H2' : J B w0 ps0 O C sl15 (vso O.length k ++ [.any, .any]) (bsOo O C (O.getD k default)) k A (I1 C C.length) D val a2 w2 := by
      have hh := H2.pick gin15 rfl
      rw [gin15_sl] at hh
      simp only [gin15_vs] at hh
      exact hh
    refine H2'.run cx0 (noL_ok _) [] [] (u15 O C _ _ _) (by kernel_rfl) fun a3 w3 H3 => ?_
    refine wp_seq ?_
    have h16 := f16 (B := B) (O := O) (C := C) O.length (o := O.getD k default) (x := bndI (O.getD k default).kind) (y := bndO (O.getD k default).kind) (l1 := I1 C C.length false k) (l2 := I1 C C.length true k) hlt (Nat.le_trans (I1_len _ _ _ _) hC) (Nat.le_trans (I1_len _ _ _ _) hC)
    refine Jn.use H3 cxJ (noL_ok _) (T := 24) (by kernel_rfl) (by show (7 : Nat) < 900; omega) hlt [] [] [] h16 (by kernel_rfl) fun a4 w4 H4 => ?_
    have hop : opr1 O C k = (endsN (I1 C C.length false k) (bndI (O.getD k default).kind) && endsN (I1 C C.length true k) (bndO (O.getD k default).kind)) := by
      rw [I1_ins, I1_outs]; rfl
    rw [← hop] at H4
    have hb := H4.hr.bool (k := 4) (s := 141) (t := 0) (b := !opr1 O C k) rfl rfl
    have H5 : J B w0 ps0 O C sl2 (vs2 O.length k) (bsO O C) (k + 1) A (I1 C C.length) D val a4 w4 := by
      have hh := H4.pick gin2 rfl
      rw [gin2_sl] at hh
      simp only [gin2_vs] at hh
      exact hh
    cases ho : opr1 O C k with
    | false =>
      rw [ho] at hb
      refine wp_cond_true hb ?_
      refine H5.hr.out cx0 (noL_ok _) (mo := [(2, 0)]) (tk := []) (t17 O C _ _) (by simp) fun a5 w5 H6 _ _ => ?_
      refine hF ?_ _ a5 w5 H6
      rw [Bool.eq_false_iff]
      intro h2
      rw [List.all_eq_true.1 h2 k (List.mem_range.2 hlt)] at ho
      cases ho
    | true =>
      rw [ho] at hb
      refine wp_cond_false hb (wp_skip ?_)
      show r18.wp _ _ _ _
      refine H5.run cx0 (noL_ok _) [] [] (t18 O C _ _) (by kernel_rfl) fun a6 w6 H6 => ?_
      rw [w64n (by omega)] at H6
      refine ih (k + 1) (by omega) (fun i hi => ?_) a6 w6 H6
      by_cases e : i = k
      · subst e; exact ho
      · exact hall i (by omega)
def sJn : FSpec
  | [.agg [.slw 0, .slw 1]], [⟨false, .oprs O⟩, ⟨false, .chns C⟩] => .node (decide (O.length ≤ 1000 ∧ C.length ≤ 1000)) (.leaf ⟨[.bool (jnN O C)], []⟩) .bad
  | _, _ => .bad
end Go.Proofs.Ytdckpbeioemopaa.Jo
namespace Go.Proofs.Ytdckpbeioemopaa.Jo
open Go.Am Go Go.Proofs.Ytdckpbeioemopaa
set_option maxRecDepth 100000
variable {B : Nat → Option Obj}
theorem f1 {O : List Opr} {C : List Chn} (hn : O.length ≤ 1000) : (Go.Am.mkT (E0 B) (Cx B []) noL r1 (loopSt (E0 B) 143 ⟨[], [(1, 0)], [], []⟩ [.ptr 2 0 0] (bsA O C)) 3 4 [] [(1, 0)]).sel = some (⟨[.ptr 0 0 0], bsG O C⟩, List.replicate O.length [.nils], List.replicate O.length [.nils]) := by
  rw [t1, decide_eq_true (show 0 ≤ (O.length : Int) ∧ (O.length : Int) ≤ (lim : Int) ∧ (O.length : Int) = (O.length : Int) by refine ⟨by omega, ?_, rfl⟩; simp only [lim]; omega)]
  rfl
theorem t12r (O : List Opr) (C : List Chn) : tu B r12 sl2 [] [.ptr 0 0 0, .any, .any, .any] (bsC O C) = some (.normal, ⟨vs2 O.length 0, bsO O C⟩) := by kernel_rfl
theorem t19r (O : List Opr) (C : List Chn) : tu B r19 [(1, 0)] [(2, 0)] [.ptr 0 0 0] (bsO O C) = some (.ret, ⟨[.bool true], [gBx 1 2, ob O, cb C]⟩) := by kernel_rfl
theorem ended {O : List Opr} {C : List Chn} {w w' : World} {ps : List Pos} {a' : Act} {b : Bool} {bs : List Blk} (hb : jnN O C = b) (H : Hr (E0 B) 143 [(2, 0)] [.bool b] bs w (bs0 O C) ps a' w') :
    bodyPost (E0 B).P Try.f21 (fun e w' => ∃ cv ps', e = Ending.returned cv ∧ CfgOk (E0 B) w' [] ps' ∧ V (psRho ps') (oneOrTup [.bool (jnN O C)]) cv ∧ Mv w (bs0 O C) ps w' [] ps' ∧ ∀ (j k : Nat), (pers [.agg [.slw 0, .slw 1]] (bs0 O C))[j]? = some k → ps'[j]? = ps[k]?) Exit.ret a' w' := by
  obtain ⟨hs3, hd3, ps3, c3, v3, m3⟩ := H
  have ht : a'.tmps.getD 2 undef = .bool b := by
    have := v3
    simp only [slotVs, List.map_cons, List.map_nil, VL, V] at this
    obtain ⟨_, _, h1, rfl, _⟩ := this
    injection h1 with h1 _
  refine ⟨hd3, a'.tmps.getD 2 undef, results_tmp (t := 2) (by kernel_rfl) _ _ _, _, [], rfl, cfg_nil (gok_any c3.g), ?_, ⟨⟨m3.stp.ext, fun k hk => (own_nil k hk).elim, fun k hk => (live_nil k hk).elim⟩, fun k x p hk => by simp at hk⟩, fun j k hj => ?_⟩
  · rw [ht, hb]; simp only [oneOrTup, V]
  · rw [show pers [AV.agg [.slw 0, .slw 1]] (bs0 O C) = [] from rfl] at hj
    simp at hj
theorem okJn : FnOk (E0 B) 21 sJn := by
  refine ⟨fnAt_mk (fn := Try.f21) Try.func21 (by kernel_rfl) (by kernel_rfl), fun vs bs out hsel w cargs ps hc hv => ?_⟩
  unfold sJn at hsel
  split at hsel
  rotate_left
  · simp [T.sel] at hsel
  rename_i O C
  rcases T.node_sel hsel with ⟨hg, h2⟩ | ⟨_, h2⟩
  rotate_left
  · simp [T.sel] at h2
  obtain ⟨hn, hC⟩ := of_decide_eq_true hg
  simp only [T.sel, Option.some.injEq] at h2
  subst h2
  have hcl : cargs.length = 1 := hv.length
  have H0 : Hr (E0 B) 143 [(0, 34)] [.agg [.slw 0, .slw 1]] (bs0 O C) w (bs0 O C) ps { tmps := cargs.toArray ++ Array.replicate (Try.f21.ntmps - cargs.toArray.size) undef, defers := [] } w :=
    Hr.start (fn := Try.f21) hc hv (by kernel_rfl) (by omega) (by rw [hcl]; rfl)
  refine calls_of_wp Try.func21 (show Try.f21.body = some jC by kernel_rfl) ?_
  rw [jC_eq]
  refine wp_seq ?_
  refine (H0.pick [((0, 34), some 0), ((1, 0), none), ((2, 0), none)] rfl).run cx0 (noL_ok _) (mo := []) (tk := []) (t0 O C) fun a1 w1 H1 _ _ => ?_
  refine wp_seq ?_
  refine Hr.made (H1.pick [((1, 0), some 1)] rfl) cx0 (noL_ok _) [] [] [] (f1 hn) bs0_own fun a2 w2 A val H2 => ?_
  refine wp_seq (wp_seq ?_)
  refine (H2.pick [((1, 0), some 0), ((21, 32), none), ((22, 0), none), ((23, 0), none)] rfl).run cx0 (noL_ok _) [] [] (t2 O C) (by kernel_rfl) fun a3 w3 H3 => ?_
  have H3' : J B w ps O C sl1 (vs1 C.length (0 : Nat)) (bsC O C) 0 A (I1 C 0) (fun _ _ => none) val a3 w3 := by rw [I1_zero]; exact H3
  refine wp_block (wp_loop_rounds (C.length + 1) (loop1 hC (fun hf bs a' w' HF => ?_) (fun ht a4 w4 D H4 => ?_) C.length 0 (by omega) (fun i hi => by omega) a3 w3 _ H3'))
  · refine ended (b := false) ?_ HF
    unfold jnN; rw [hf]; rfl
  refine wp_seq (wp_seq ?_)
  refine (H4.pick [((1, 0), some 0), ((113, 31), none), ((114, 0), none), ((115, 0), none)] rfl).run cx0 (noL_ok _) [] [] (t12r O C) (by kernel_rfl) fun a5 w5 H5 => ?_
  refine wp_block (wp_loop_rounds (O.length + 1) (loop2 hn hC (fun hf bs a' w' HF => ?_) (fun ho a6 w6 H6 => ?_) O.length 0 (by omega) (fun i hi => by omega) a5 w5 H5))
  · refine ended (b := false) ?_ HF
    unfold jnN; rw [hf, Bool.and_false]
  show r19.wp _ _ _ _
  refine (H6.pick [((1, 0), some 0)] rfl).out cx0 (noL_ok _) (mo := [(2, 0)]) (tk := []) (t19r O C) (by simp) fun a7 w7 H7 _ _ => ?_
  refine ended (b := true) ?_ H7
  unfold jnN; rw [ht, ho]; rfl
end Go.Proofs.Ytdckpbeioemopaa.Jo
