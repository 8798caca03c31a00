/-
  ExprsBinds: that the law answers true.
-/
import Derived.Test.YthfieonkfailkaaGreatDoorPrsLawI
namespace Go.Proofs.YthfieonkfailkaaGreatDoor
open Go.Am Go
set_option maxRecDepth 100000
variable {B : Nat → Option Obj}
theorem str_fin : ∀ k : Fin 20, 7 ≤ k.val → strN k.val = bnd k.val := by decide +kernel
theorem strN_is {k : Int} (h1 : 7 ≤ k) (h2 : k ≤ 19) : strN k = bnd k := by
  have := str_fin ⟨k.toNat, by omega⟩ (by simp only; omega)
  have e : ((k.toNat : Nat) : Int) = k := by omega
  simp only [e] at this
  exact this
theorem opI_is {k : Int} (h1 : 7 ≤ k) (h2 : k ≤ 19) : (0 ≤ u8 (k - 7) ∧ u8 (k - 7) < 13) ∧ opI k = opT k := by
  obtain ⟨o1, o2, o3⟩ := op_txt ⟨k.toNat, by omega⟩ (by simp only; omega)
  have e : ((k.toNat : Nat) : Int) = k := by omega
  simp only [e] at o1 o2 o3
  exact ⟨⟨o1, o2⟩, o3⟩
def triS (a b c : List UInt8) (f s : Int) : List UInt8 := [40] ++ (a ++ ([41, 32] ++ (opT f ++ ([32, 40] ++ (b ++ ([41, 32] ++ (opT s ++ ([32, 40] ++ (c ++ [41])))))))))
theorem bdS_is {a b c : List UInt8} {f s : Int} (ha : a.length ≤ 300) (hb : b.length ≤ 300) (hc : c.length ≤ 300) (f1 : 7 ≤ f) (f2 : f ≤ 19) (s1 : 7 ≤ s) (s2 : s ≤ 19) (K : List UInt8 → Option Out) : bdS a b c f s K = K (triS a b c f s) := by
  obtain ⟨⟨p1, p2⟩, p3⟩ := opI_is f1 f2
  obtain ⟨⟨q1, q2⟩, q3⟩ := opI_is s1 s2
  have hif : ∀ z : Option Out, inb' (u8 (f - 7)) sgnL.length z = z := fun z => inb_in p1 p2 z
  have his : ∀ z : Option Out, inb' (u8 (s - 7)) sgnL.length z = z := fun z => inb_in q1 q2 z
  have hlf := opT_len f
  have hls := opT_len s
  unfold bdS triS
  simp only [hif, his, p3, q3]
  rw [catO_in, catO_in, catO_in, catO_in, catO_in, catO_in, catO_in, catO_in, catO_in, catO_in]
  · simp only [List.append_assoc]
  all_goals (simp only [List.length_append, List.length_cons, List.length_nil]; omega)
theorem three_txt (k1 k2 : Int) (x y z : Ex) : pcsS (threeP k1 k2 x y z) = triS (x.txt true) (y.txt true) (z.txt true) k1 k2 := by
  simp [threeP, brB, brk, pcsS, pcsS_app, Ex.txt, triS]
theorem three_len (k1 k2 : Int) {x y z : Ex} (hx : x.size ≤ 8) (hy : y.size ≤ 8) (hz : z.size ≤ 8) : (threeP k1 k2 x y z).length ≤ 100 := by
  have h1 := pcs_len true x [] 0
  have h2 := pcs_len true y [] 0
  have h3 := pcs_len true z [] 0
  simp only [threeP, brB, brk, cond_true, List.length_append, List.length_cons, List.length_nil]
  omega
theorem nodG_is {k : Int} (k1 : 7 ≤ k) (k2 : k ≤ 19) {a b : Ex} (ha : a.ok = true) (hb : b.ok = true) (sa : a.size ≤ 20) (sb : b.size ≤ 20) (da : a.depth ≤ 12) (db : b.depth ≤ 12) (K : List Nod → Option Out) : nodG k (a.flat 0) (b.flat 0) K = K ((Ex.bin k 0 a b).flat 0) ∧ (Ex.bin k 0 a b).ok = true := by
  have hok : (Ex.bin k 0 a b).ok = true := by
    simp only [Ex.ok, Bool.and_eq_true, ha, hb, and_true, decide_eq_true_eq]; omega
  have hc := chk_of hok (by simp only [Ex.size]; omega) (by simp only [Ex.depth]; omega)
  refine ⟨?_, hok⟩
  unfold nodG
  rw [biL_is hb (by omega) (by omega), hc, chk_of ha (by omega) (by omega), chk_of hb (by omega) (by omega), decide_eq_true (show 7 ≤ k ∧ k ≤ 19 ∧ (0 : Int) ≤ 0 ∧ (0 : Int) ≤ 400 by omega)]; rfl
theorem smG_is {e e' : Ex} (h : e.ok = true) (h' : e'.ok = true) (hs : e.size ≤ 60) (hd : e.depth ≤ 20) (hs' : e'.size ≤ 60) (hd' : e'.depth ≤ 20) (hst : e.st = e'.st) (K : Option Out) : smG (e.flat 0) (e'.flat 0) K = K := by
  obtain ⟨m1, m2⟩ := sm_st h h' hs hd hs' hd'
  unfold smG
  rw [m1, m2, decide_eq_true hst]; rfl
theorem getD_mid (a : List Tok) (t : Tok) (b : List Tok) : (a ++ t :: b).getD a.length default = t := by
  rw [List.getD_eq_getElem?_getD, List.getElem?_append_right (Nat.le_refl _), Nat.sub_self]; rfl
theorem z_gr {L : List Tok} {e' : Ex} (hv : L.all okV = true) (hn : L.length ≤ 200) (hg : Gr (.E 1) e' L) (hs : e'.size ≤ 60) (hd : e'.depth ≤ 20) : zE L 0 = 0 ∧ zN L 0 = L.length ∧ zX L 0 = e'.flat 0 := by
  have hp := pE_gr (s := 1) (rest := []) hg (by omega) (by omega) hs hd rfl (n := 1500) (by rw [List.append_nil]; omega)
  rw [List.append_nil] at hp
  have hz : zR 0 L = .ok e' [] := hp
  obtain ⟨z1, z2, z3⟩ := z_ok hv hn (Int.le_refl 0) (by omega)
  rw [hz] at z1 z2 z3
  exact ⟨z1, by rw [z2]; show (L.length : Int) - (([] : List Tok).length : Int) = _; simp, z3⟩
theorem bdL_is {x y z : Ex} (hx : x.ok = true ∧ x.rng = true) (hy : y.ok = true ∧ y.rng = true) (hz : z.ok = true ∧ z.rng = true) (sx : x.size ≤ 8) (sy : y.size ≤ 8) (sz : z.size ≤ 8) {f s : Int} (f1 : 7 ≤ f) (f2 : f ≤ 19) (s1 : 7 ≤ s) (s2 : s ≤ 19) {L : List Tok} (hv : L.all okV = true) (hn : L.length ≤ 200) (hsh : shortT L = true) (h : Three f s x y z L) :
    zE L 0 = 0 ∧ bdL (x.flat 0) (y.flat 0) (z.flat 0) f s L = rb true := by
  have dx := x.depth_le
  have dy := y.depth_le
  have dz := z.depth_le
  unfold bdL
  rw [strN_is f1 f2, strN_is s1 s2]
  by_cases h3 : bnd f = 3 ∧ bnd s = 3
  · obtain ⟨e', e1, e2⟩ := three_cmp f1 f2 s1 s2 h h3.1 h3.2 sx sy (n := 1500) (by omega)
    obtain ⟨t1, t2⟩ := size_of_st e1
    have hz : zR 0 L = .ok e' (h.t2 :: h.zs) := e2
    obtain ⟨z1, z2, z3⟩ := z_ok hv hn (Int.le_refl 0) (by omega)
    rw [hz] at z1 z2 z3
    have hgood := pE_good (k := 1500) (s := 1) (r := L) (okV_tk hsh hv) (by omega) (by omega) (by rw [e2]; rfl)
    rw [e2] at hgood
    obtain ⟨n1, n2⟩ := nodG_is f1 f2 hx.1 hy.1 (by omega) (by omega) (by omega) (by omega) (fun Z => smG (zX L 0) Z (bif decide (zN L 0 < (L.length : Int)) then inb' (zN L 0) L.length (inb' (u8 (s - 7)) sgnL.length (bif decide ((L.getD (zN L 0).toNat default).text = opI s) then rb true else rb false)) else rb false))
    have hlen : L.length = (h.xs ++ h.t1 :: h.ys).length + (h.zs.length + 1) := by
      have := congrArg List.length h.e
      simp at this
      simp; omega
    have hL : L = (h.xs ++ h.t1 :: h.ys) ++ h.t2 :: h.zs := h.e.trans (by simp)
    have hzn : zN L 0 = ((h.xs ++ h.t1 :: h.ys).length : Int) := by
      rw [z2]
      show (L.length : Int) - ((h.zs.length + 1 : Nat) : Int) = _
      omega
    have hget : L.getD (h.xs ++ h.t1 :: h.ys).length default = h.t2 := (congrArg (fun l => l.getD (h.xs ++ h.t1 :: h.ys).length default) hL).trans (getD_mid _ _ _)
    obtain ⟨⟨q1, q2⟩, q3⟩ := opI_is s1 s2
    have his : ∀ z : Option Out, inb' (u8 (s - 7)) sgnL.length z = z := fun z => inb_in q1 q2 z
    refine ⟨z1, ?_⟩
    rw [decide_eq_true (show ((bnd f : Nat) : Int) = 3 by omega), decide_eq_true (show ((bnd s : Nat) : Int) = 3 by omega), cond_true, cond_true]
    unfold bdC
    rw [n1]
    show smG (zX L 0) _ _ = _
    rw [z3]
    show smG (e'.flat 0) _ _ = _
    rw [smG_is hgood.1 n2 (by rw [t1]; simp only [Ex.size]; omega) (by rw [t2]; simp only [Ex.depth]; omega) (by simp only [Ex.size]; omega) (by simp only [Ex.depth]; omega) e1,
      hzn, decide_eq_true (show ((h.xs ++ h.t1 :: h.ys).length : Int) < (L.length : Int) by omega), cond_true, inb'_is (by omega), his, Int.toNat_natCast, hget, q3, h.o2, decide_eq_true rfl]; rfl
  · have hord : (bif decide (((bnd f : Nat) : Int) = 3) then (bif decide (((bnd s : Nat) : Int) = 3) then bdC (x.flat 0) (y.flat 0) f s L else bdO (x.flat 0) (y.flat 0) (z.flat 0) f s L) else bdO (x.flat 0) (y.flat 0) (z.flat 0) f s L) = bdO (x.flat 0) (y.flat 0) (z.flat 0) f s L := by
      by_cases hf : bnd f = 3
      · rw [decide_eq_true (show ((bnd f : Nat) : Int) = 3 by omega), decide_eq_false (show ¬ ((bnd s : Nat) : Int) = 3 from fun hh => h3 ⟨hf, by omega⟩)]; rfl
      · rw [decide_eq_false (show ¬ ((bnd f : Nat) : Int) = 3 by omega)]; rfl
    have key : zE L 0 = 0 ∧ bdO (x.flat 0) (y.flat 0) (z.flat 0) f s L = rb true := by
      unfold bdO
      rw [strN_is f1 f2, strN_is s1 s2]
      by_cases hs : bnd s ≤ bnd f
      · obtain ⟨e', e1, e2⟩ := three_left f1 f2 s1 s2 h hs h3
        obtain ⟨t1, t2⟩ := size_of_st e1
        simp only [Ex.size, Ex.depth] at t1 t2
        obtain ⟨z1, z2, z3⟩ := z_gr hv hn e2 (by omega) (by omega)
        refine ⟨z1, ?_⟩
        rw [decide_eq_true (show ((bnd s : Nat) : Int) ≤ ((bnd f : Nat) : Int) by omega), cond_true]
        obtain ⟨n1, n2⟩ := nodG_is f1 f2 hx.1 hy.1 (by omega) (by omega) (by omega) (by omega) (fun Z1 => nodG s Z1 (z.flat 0) fun W => smG (zX L 0) W (bif decide (zN L 0 = (L.length : Int)) then rb true else rb false))
        obtain ⟨m1, m2⟩ := nodG_is s1 s2 n2 hz.1 (by simp only [Ex.size]; omega) (by omega) (by simp only [Ex.depth]; omega) (by omega) (fun W => smG (zX L 0) W (bif decide (zN L 0 = (L.length : Int)) then rb true else rb false))
        rw [n1]
        refine m1.trans ?_
        show smG (zX L 0) _ _ = _
        rw [z3, smG_is (gr_okV e2 hv) m2 (by omega) (by omega) (by simp only [Ex.size]; omega) (by simp only [Ex.depth]; omega) e1, z2, decide_eq_true rfl]; rfl
      · obtain ⟨e', e1, e2⟩ := three_right f1 f2 s1 s2 h (by omega)
        obtain ⟨t1, t2⟩ := size_of_st e1
        simp only [Ex.size, Ex.depth] at t1 t2
        obtain ⟨z1, z2, z3⟩ := z_gr hv hn e2 (by omega) (by omega)
        refine ⟨z1, ?_⟩
        rw [decide_eq_false (show ¬ ((bnd s : Nat) : Int) ≤ ((bnd f : Nat) : Int) by omega), cond_false]
        obtain ⟨n1, n2⟩ := nodG_is s1 s2 hy.1 hz.1 (by omega) (by omega) (by omega) (by omega) (fun Z1 => nodG f (x.flat 0) Z1 fun W => smG (zX L 0) W (bif decide (zN L 0 = (L.length : Int)) then rb true else rb false))
        obtain ⟨m1, m2⟩ := nodG_is f1 f2 hx.1 n2 (by omega) (by simp only [Ex.size]; omega) (by omega) (by simp only [Ex.depth]; omega) (fun W => smG (zX L 0) W (bif decide (zN L 0 = (L.length : Int)) then rb true else rb false))
        rw [n1]
        refine m1.trans ?_
        show smG (zX L 0) _ _ = _
        rw [z3, smG_is (gr_okV e2 hv) m2 (by omega) (by omega) (by simp only [Ex.size]; omega) (by simp only [Ex.depth]; omega) e1, z2, decide_eq_true rfl]; rfl
    exact ⟨key.1, hord.trans key.2⟩
theorem sz_of {e : Ex} (h : (e.flat 0).length ≤ 8) : e.size ≤ 8 := by rwa [Ex.flat_len] at h
theorem binds_true {X Y Z : List Nod} {f s : Int} (hX : rngX X = true) (hY : rngX Y = true) (hZ : rngX Z = true) : runT B libI Tryz.f7 [.slw 0, .slw 1, .slw 2, .int .u8 f, .int .u8 s] [ndb X, ndb Y, ndb Z] = rb true := by
  refine (tBinds X Y Z f s).trans ?_
  have step : ∀ {b : Bool} {K : Option Out}, (b = false → K = rb true) → bdG b K = rb true := fun {b K} h => by
    cases b with
    | true => rfl
    | false => exact h rfl
  refine step fun x8 => step fun y8 => step fun z8 => step fun hx => step fun hy => step fun hz => step fun f1 => step fun f2 => step fun s1 => step fun s2 => ?_
  have x8 := of_decide_eq_false x8
  have y8 := of_decide_eq_false y8
  have z8 := of_decide_eq_false z8
  have f1 := of_decide_eq_false f1
  have f2 := of_decide_eq_false f2
  have s1 := of_decide_eq_false s1
  have s2 := of_decide_eq_false s2
  have hx : chkN X = 0 := by simpa using hx
  have hy : chkN Y = 0 := by simpa using hy
  have hz : chkN Z = 0 := by simpa using hz
  unfold txG
  rw [hX, hY, hZ, hx, hy, hz]
  obtain ⟨x, ox, rfl, _, _⟩ := chkN_tree hx
  obtain ⟨y, oy, rfl, _, _⟩ := chkN_tree hy
  obtain ⟨z, oz, rfl, _, _⟩ := chkN_tree hz
  rw [rng_flat] at hX hY hZ
  have sx := sz_of (e := x) (by omega)
  have sy := sz_of (e := y) (by omega)
  have sz := sz_of (e := z) (by omega)
  have bx := pcsS_bound true x 0 hX
  have bY := pcsS_bound true y 0 hY
  have bz := pcsS_bound true z 0 hZ
  rw [(txS_is ox hx).1, (txS_is oy hy).1, (txS_is oz hz).1]
  show bdS _ _ _ _ _ _ = _
  rw [bdS_is (by unfold Ex.txt; omega) (by unfold Ex.txt; omega) (by unfold Ex.txt; omega) (by omega) (by omega) (by omega) (by omega), ← three_txt]
  unfold bdT
  by_cases h4 : 400 < ((pcsS (threeP f s x y z)).length : Int)
  · rw [decide_eq_true h4]; rfl
  · have hl := three_len f s sx sy sz
    obtain ⟨l1, l2, l3, l4, l5⟩ := lexd (pcOk_three (k1 := f) (k2 := s) (by omega) (by omega) (by omega) (by omega) ⟨ox, hX⟩ ⟨oy, hY⟩ ⟨oz, hZ⟩) (by omega) (by omega)
    obtain ⟨h⟩ := three_of ⟨ox, hX⟩ ⟨oy, hY⟩ ⟨oz, hZ⟩ (pcsT_kt (threeP f s x y z) 0)
    obtain ⟨r1, r2⟩ := bdL_is ⟨ox, hX⟩ ⟨oy, hY⟩ ⟨oz, hZ⟩ sx sy sz (by omega) (by omega) (by omega) (by omega) l4 l5 l3 h
    rw [decide_eq_false h4, l1, l2, l3, r1]
    exact r2
def sBinds (_ : Nat → Option Obj) : FSpec
  | [.slw 0, .slw 1, .slw 2, .int .u8 _, .int .u8 _], [⟨false, .nodes X⟩, ⟨false, .nodes Y⟩, ⟨false, .nodes Z⟩] => .node (rngX X && (rngX Y && rngX Z)) (.leaf ⟨[.bool true], []⟩) .bad
  | _, _ => .bad
theorem sBinds_sel {X Y Z : List Nod} {f s : Int} (h : ∀ x ∈ X, nodWf x) (h1 : ∀ x ∈ Y, nodWf x) (h2 : ∀ x ∈ Z, nodWf x) : (sBinds B [.slw 0, .slw 1, .slw 2, .int .u8 f, .int .u8 s] [⟨false, .nodes X⟩, ⟨false, .nodes Y⟩, ⟨false, .nodes Z⟩]).sel = some ⟨[.bool true], []⟩ := by
  show (bif rngX X && (rngX Y && rngX Z) then _ else _) = _
  rw [rng_of h, rng_of h1, rng_of h2]; rfl
theorem okBinds (hB : Laid B) : FnOk (E0 B) 7 (sBinds B) := by
  refine fnT (libI_ok hB) Tryz.func7 (by kernel_rfl) (by kernel_rfl) fun vs bs r h => ?_
  unfold sBinds at h
  split at h
  · rename_i X Y Z
    rcases T.node_sel h with ⟨hr, h2⟩ | ⟨_, h2⟩
    · simp only [T.sel, Option.some.injEq] at h2; subst h2
      simp only [Bool.and_eq_true] at hr
      exact binds_true hr.1 hr.2.1 hr.2.2
    · simp [T.sel] at h2
  · simp [T.sel] at h
end Go.Proofs.YthfieonkfailkaaGreatDoor
