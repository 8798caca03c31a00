/-
  Expressions: plain words: of two operators the one whose line comes later binds first.
-/
import Derived.Test.YthfieonkfailkaaGreatDoorExA
namespace Go.Am
open Go.Lib
theorem gr_bin {k : Int} (k1 : 7 ≤ k) (k2 : k ≤ 19) {t : Tok} (t1 : t.kind ≠ 1) (t2 : t.text = opT k) {a b : Ex} {xs ys : List Tok} (a3 : Gr (lvl (leftL k)) a xs) (b3 : Gr (lvl (lineK k + 1)) b ys) : Gr (lvl (lineK k)) (.bin k t.pos a b) (xs ++ t :: ys) := by
  obtain ⟨o1, o2, _, o4, _⟩ := op_of k1 k2
  have hk : opK t.text = k := by rw [t2, o1]
  have hop : t.op = true := by unfold Tok.op; rw [hk, decide_eq_false t1, decide_eq_false (show ¬ k = 0 by omega)]; rfl
  have hbd : bnd (opK t.text) = bnd k := by rw [hk]
  have main : Gr (lvl (lineK k)) (.bin (opK t.text) t.pos a b) (xs ++ t :: ys) := by
    rcases o4 with h | h | h | h | h | h
    · rw [h] at o2 b3
      have hl : leftL k = 7 := by unfold leftL; rw [h]; rfl
      rw [hl] at a3
      rw [h]
      exact .bin 6 t a b xs ys (by omega) hop (hbd.trans o2) a3 b3
    · rw [h] at o2 b3
      have hl : leftL k = 6 := by unfold leftL; rw [h]; rfl
      rw [hl] at a3
      rw [h]
      exact .bin 5 t a b xs ys (by omega) hop (hbd.trans o2) a3 (.up 5 _ _ (.inr (.inr (.inr rfl))) b3)
    · rw [h] at o2 b3
      have hl : leftL k = 5 := by unfold leftL; rw [h]; rfl
      rw [hl] at a3
      rw [h]
      exact .bin 4 t a b xs ys (by omega) hop (hbd.trans o2) a3 (.up 4 _ _ (.inr (.inr (.inl rfl))) b3)
    · rw [h] at o2 b3
      have hl : leftL k = 5 := by unfold leftL; rw [h]; rfl
      rw [hl] at a3
      rw [h]
      exact .cmp t a b xs ys hop (hbd.trans o2) (.up 3 _ _ (.inr (.inl rfl)) a3) (.up 3 _ _ (.inr (.inl rfl)) b3)
    · rw [h] at o2 b3
      have hl : leftL k = 2 := by unfold leftL; rw [h]; rfl
      rw [hl] at a3
      rw [h]
      exact .bin 2 t a b xs ys (by omega) hop (hbd.trans o2) a3 b3
    · rw [h] at o2 b3
      have hl : leftL k = 1 := by unfold leftL; rw [h]; rfl
      rw [hl] at a3
      rw [h]
      exact .bin 1 t a b xs ys (by omega) hop (hbd.trans o2) a3 (.up 1 _ _ (.inl rfl) b3)
  rwa [hk] at main
/-- an expression in brackets -/
def brB (g : List UInt8) (e : Ex) : List Pc := brk true g fun g => e.pcs true g 0
theorem gr_brB {g : List UInt8} {e : Ex} (h : e.ok = true) (hr : e.rng = true) {ts : List Tok} (ht : ts.map Tok.kt = (brB g e).map Pc.kt) : ∃ e', e'.st = e.st ∧ Gr .P e' ts :=
  gr_brk (e := e) (n := 1) (least := 9) (by omega) (by omega) (by omega) rfl (fun g => pcs_gap true e g 0) (fun ts ht => gr_pcs true e [] 0 ts h hr (by omega) ht) ht
theorem pcOk_brB {g : List UInt8} {e : Ex} (h : e.ok = true) (hr : e.rng = true) (hg : g.all (fun c => decide (kd c = 1)) = true) {rest : List Pc} (hn : nice rest = true) (hrest : pcOk rest = true) : pcOk (brB g e ++ rest) = true :=
  pcOk_brk hg hn hrest fun g rest hg hn hr' => pcOk_ex true e g 0 rest h hr hg hn hr'
def threeP (k1 k2 : Int) (x y z : Ex) : List Pc := brB [] x ++ (⟨[32], opTk k1, opT k1⟩ :: (brB [32] y ++ (⟨[32], opTk k2, opT k2⟩ :: (brB [32] z ++ []))))
theorem adj_gap (p p' : Pc) (h : p'.g = [32]) : adj p p' = true := by
  unfold adj
  rw [h]; simp
theorem hd_brB (e : Ex) (rest : List Pc) : ∀ p' r, brB [32] e ++ rest = p' :: r → p'.g = [32] := fun p' r h => by
  unfold brB brk at h
  simp only [cond_true, List.cons_append, List.cons.injEq] at h
  rw [← h.1]
theorem pcOk_three {k1 k2 : Int} (a1 : 7 ≤ k1) (a2 : k1 ≤ 19) (b1 : 7 ≤ k2) (b2 : k2 ≤ 19) {x y z : Ex} (hx : x.ok = true ∧ x.rng = true) (hy : y.ok = true ∧ y.rng = true) (hz : z.ok = true ∧ z.rng = true) : pcOk (threeP k1 k2 x y z) = true := by
  obtain ⟨_, _, _, _, p5⟩ := op_of a1 a2
  obtain ⟨_, _, _, _, q5⟩ := op_of b1 b2
  unfold threeP
  refine pcOk_brB hx.1 hx.2 rfl (by simp [nice]) (pcOk_cons rfl p5 (fun p' r h => adj_gap _ _ (hd_brB y _ p' r h)) (pcOk_brB hy.1 hy.2 rfl (by simp [nice]) (pcOk_cons rfl q5 (fun p' r h => adj_gap _ _ (hd_brB z _ p' r h)) (pcOk_brB hz.1 hz.2 rfl rfl rfl))))
structure Three (k1 k2 : Int) (x y z : Ex) (ts : List Tok) where
  xs : List Tok
  t1 : Tok
  ys : List Tok
  t2 : Tok
  zs : List Tok
  x' : Ex
  y' : Ex
  z' : Ex
  e : ts = xs ++ t1 :: (ys ++ t2 :: zs)
  hx : x'.st = x.st
  hy : y'.st = y.st
  hz : z'.st = z.st
  gx : Gr .P x' xs
  gy : Gr .P y' ys
  gz : Gr .P z' zs
  c1 : t1.kind = opTk k1
  o1 : t1.text = opT k1
  c2 : t2.kind = opTk k2
  o2 : t2.text = opT k2
theorem three_of {k1 k2 : Int} {x y z : Ex} (hx : x.ok = true ∧ x.rng = true) (hy : y.ok = true ∧ y.rng = true) (hz : z.ok = true ∧ z.rng = true) {ts : List Tok} (h : ts.map Tok.kt = (threeP k1 k2 x y z).map Pc.kt) : Nonempty (Three k1 k2 x y z ts) := by
  unfold threeP at h
  simp only [List.map_append, List.map_cons, List.append_nil] at h
  obtain ⟨xs, r1, rfl, h1, h2⟩ := split_kt h
  obtain ⟨t1, r2, rfl, c1, c2, h3⟩ := cons_kt h2
  obtain ⟨ys, r3, rfl, h4, h5⟩ := split_kt h3
  obtain ⟨t2, zs, rfl, d1, d2, h6⟩ := cons_kt h5
  obtain ⟨x', x1, x2⟩ := gr_brB hx.1 hx.2 h1
  obtain ⟨y', y1, y2⟩ := gr_brB hy.1 hy.2 h4
  obtain ⟨z', z1, z2⟩ := gr_brB hz.1 hz.2 h6
  exact ⟨⟨xs, t1, ys, t2, zs, x', y', z', rfl, x1, y1, z1, x2, y2, z2, c1, c2, d1, d2⟩⟩
theorem lines_fin : ∀ a b : Fin 20, (!decide (7 ≤ a.val) || (!decide (7 ≤ b.val) || ((!decide (bnd b.val ≤ bnd a.val) || ((decide (bnd a.val = 3) && decide (bnd b.val = 3)) || decide (leftL b.val ≤ lineK a.val))) && ((!decide (bnd a.val < bnd b.val) || decide (lineK a.val + 1 ≤ lineK b.val)) && (decide (leftL a.val ≤ 9) && decide (lineK a.val + 1 ≤ 9)))))) = true := by decide +kernel
theorem lines {a b : Int} (a1 : 7 ≤ a) (a2 : a ≤ 19) (b1 : 7 ≤ b) (b2 : b ≤ 19) : (bnd b ≤ bnd a → ¬ (bnd a = 3 ∧ bnd b = 3) → leftL b ≤ lineK a) ∧ (bnd a < bnd b → lineK a + 1 ≤ lineK b) ∧ leftL a ≤ 9 ∧ lineK a + 1 ≤ 9 := by
  have := lines_fin ⟨a.toNat, by omega⟩ ⟨b.toNat, by omega⟩
  have ea : ((a.toNat : Nat) : Int) = a := by omega
  have eb : ((b.toNat : Nat) : Int) = b := by omega
  simp only [ea, eb] at this
  rw [decide_eq_true (show 7 ≤ a.toNat by omega), decide_eq_true (show 7 ≤ b.toNat by omega)] at this
  simp only [Bool.not_true, Bool.false_or, Bool.and_eq_true, Bool.or_eq_true, Bool.not_eq_true', decide_eq_true_eq, decide_eq_false_iff_not] at this
  obtain ⟨h1, h2, h3, h4⟩ := this
  exact ⟨fun h h' => (h1.resolve_left fun hn => hn h).resolve_left h', fun h => h2.resolve_left fun hn => hn h, h3, h4⟩
theorem opTk_ne (k : Int) : opTk k ≠ 1 := by unfold opTk; cases decide (k ≤ 17) <;> decide
section
variable {k1 k2 : Int} (a1 : 7 ≤ k1) (a2 : k1 ≤ 19) (b1 : 7 ≤ k2) (b2 : k2 ≤ 19) {x y z : Ex} {ts : List Tok}
include a1 a2 b1 b2
theorem three_left (h : Three k1 k2 x y z ts) (hs : bnd k2 ≤ bnd k1) (h3 : ¬ (bnd k1 = 3 ∧ bnd k2 = 3)) : ∃ e', e'.st = (Ex.bin k2 0 (.bin k1 0 x y) z).st ∧ Gr (.E 1) e' ts := by
  obtain ⟨l1, _, l3, l4⟩ := lines a1 a2 b1 b2
  obtain ⟨_, _, m3, m4⟩ := lines b1 b2 a1 a2
  have hin : Gr (lvl (lineK k1)) (.bin k1 h.t1.pos h.x' h.y') (h.xs ++ h.t1 :: h.ys) := gr_bin a1 a2 (by rw [h.c1]; exact opTk_ne _) h.o1 (gr_down (n := 9) (Nat.le_refl _) l3 h.gx) (gr_down (n := 9) (Nat.le_refl _) l4 h.gy)
  have hout : Gr (lvl (lineK k2)) (.bin k2 h.t2.pos (.bin k1 h.t1.pos h.x' h.y') h.z') ((h.xs ++ h.t1 :: h.ys) ++ h.t2 :: h.zs) := gr_bin b1 b2 (by rw [h.c2]; exact opTk_ne _) h.o2 (gr_down (by omega) (l1 hs h3) hin) (gr_down (n := 9) (Nat.le_refl _) m4 h.gz)
  refine ⟨_, ?_, by
    have := gr_down (m := 1) (by omega) lineK_pos hout
    rw [List.append_assoc, List.cons_append] at this
    rw [h.e]
    exact this⟩
  simp [Ex.st, h.hx, h.hy, h.hz]
theorem three_right (h : Three k1 k2 x y z ts) (hs : bnd k1 < bnd k2) : ∃ e', e'.st = (Ex.bin k1 0 x (.bin k2 0 y z)).st ∧ Gr (.E 1) e' ts := by
  obtain ⟨_, l2, l3, l4⟩ := lines a1 a2 b1 b2
  obtain ⟨_, _, m3, m4⟩ := lines b1 b2 a1 a2
  have hin : Gr (lvl (lineK k2)) (.bin k2 h.t2.pos h.y' h.z') (h.ys ++ h.t2 :: h.zs) := gr_bin b1 b2 (by rw [h.c2]; exact opTk_ne _) h.o2 (gr_down (n := 9) (Nat.le_refl _) m3 h.gy) (gr_down (n := 9) (Nat.le_refl _) m4 h.gz)
  have hout : Gr (lvl (lineK k1)) (.bin k1 h.t1.pos h.x' (.bin k2 h.t2.pos h.y' h.z')) (h.xs ++ h.t1 :: (h.ys ++ h.t2 :: h.zs)) := gr_bin a1 a2 (by rw [h.c1]; exact opTk_ne _) h.o1 (gr_down (n := 9) (Nat.le_refl _) l3 h.gx) (gr_down (by omega) (l2 hs) hin)
  refine ⟨_, ?_, by
    have := gr_down (m := 1) (by omega) lineK_pos hout
    rw [h.e]
    exact this⟩
  simp [Ex.st, h.hx, h.hy, h.hz]
theorem three_cmp (h : Three k1 k2 x y z ts) (h1 : bnd k1 = 3) (h2 : bnd k2 = 3) (sx : x.size ≤ 8) (sy : y.size ≤ 8) {n : Nat} (hn : 7 * ts.length + 11 ≤ n) : ∃ e', e'.st = (Ex.bin k1 0 x y).st ∧ pE n 1 ts = .ok e' (h.t2 :: h.zs) := by
  obtain ⟨m, rfl⟩ : ∃ m, n = m + 3 := ⟨n - 3, by omega⟩
  obtain ⟨p1, _, _, _, _⟩ := op_of a1 a2
  obtain ⟨q1, _, _, _, _⟩ := op_of b1 b2
  have w1 : opK h.t1.text = k1 := by rw [h.o1, p1]
  have w2 : opK h.t2.text = k2 := by rw [h.o2, q1]
  have c1 : h.t1.op = true := by unfold Tok.op; rw [w1, decide_eq_false (by rw [h.c1]; exact opTk_ne _), decide_eq_false (show ¬ k1 = 0 by omega)]; rfl
  obtain ⟨sx1, sx2⟩ := size_of_st h.hx
  obtain ⟨sy1, sy2⟩ := size_of_st h.hy
  have dx := x.depth_le
  have dy := y.depth_le
  have hlen : ts.length = h.xs.length + (h.ys.length + (h.zs.length + 1) + 1) := by
    have := congrArg List.length h.e
    simpa using this
  have gx : Gr (.E 4) h.x' h.xs := gr_down (n := 9) (m := 5) (Nat.le_refl _) (by omega) h.gx
  have gy : Gr (.E 4) h.y' h.ys := gr_down (n := 9) (m := 5) (Nat.le_refl _) (by omega) h.gy
  have e1 : pE m 4 (h.xs ++ h.t1 :: (h.ys ++ h.t2 :: h.zs)) = .ok h.x' (h.t1 :: (h.ys ++ h.t2 :: h.zs)) := pE_gr gx (by omega) (by omega) (by omega) (by omega) (by rw [stop_cons, w1, h1]; simp) (by rw [← h.e]; omega)
  have e2 : pE m 4 (h.ys ++ h.t2 :: h.zs) = .ok h.y' (h.t2 :: h.zs) := pE_gr gy (by omega) (by omega) (by omega) (by omega) (by rw [stop_cons, w2, h2]; simp) (by simp only [List.length_append, List.length_cons]; omega)
  have hno : (h.t2.op && decide (bnd (opK h.t2.text) = 2)) = false ∧ (h.t2.op && decide (bnd (opK h.t2.text) = 1)) = false := by
    rw [w2, h2]; simp
  have hsz : (Ex.bin k1 h.t1.pos h.x' h.y').size ≤ 60 := by simp only [Ex.size]; omega
  have hdp : (Ex.bin k1 h.t1.pos h.x' h.y').depth ≤ 20 := by simp only [Ex.depth]; omega
  have f3 : pE (m + 1) 3 ts = .ok (.bin k1 h.t1.pos h.x' h.y') (h.t2 :: h.zs) := by
    refine (congrArg (fun r => (pOp (pE m) 3 r).then (fun l r' => pLoop (pE m) 3 (r'.length + 1) l r')) h.e).trans ?_
    show (pE m 4 (h.xs ++ h.t1 :: (h.ys ++ h.t2 :: h.zs))).then (fun l r' => pLoop (pE m) 3 (r'.length + 1) l r') = _
    rw [e1]
    show pLoop (pE m) 3 ((h.t1 :: (h.ys ++ h.t2 :: h.zs)).length + 1) h.x' (h.t1 :: (h.ys ++ h.t2 :: h.zs)) = _
    rw [pLoop_cons, c1, w1, h1]
    show (pE m 4 (h.ys ++ h.t2 :: h.zs)).then _ = _
    rw [e2]
    show (node1 (.bin k1 h.t1.pos h.x' h.y') _ (h.t2 :: h.zs)).then _ = _
    rw [node1_ok hsz hdp]; rfl
  have hsg : sgnN notT ts = 0 := by
    obtain ⟨t, q, hq, hh⟩ := gr_hd h.gx
    have : ts = t :: (q ++ h.t1 :: (h.ys ++ h.t2 :: h.zs)) := h.e.trans (by rw [hq]; rfl)
    refine (congrArg (sgnN notT) this).trans ?_
    unfold sgnN
    simp only [hdOk, Bool.and_eq_true, Bool.not_eq_true'] at hh
    rw [hh.2]; rfl
  have f2 : pE (m + 2) 2 ts = .ok (.bin k1 h.t1.pos h.x' h.y') (h.t2 :: h.zs) := by
    show (pOp (pE (m + 1)) 2 ts).then (fun l r' => pLoop (pE (m + 1)) 2 (r'.length + 1) l r') = _
    rw [pOp_2, hsg]
    show (pE (m + 1) 3 ts).then _ = _
    rw [f3]
    show pLoop (pE (m + 1)) 2 ((h.t2 :: h.zs).length + 1) _ (h.t2 :: h.zs) = _
    rw [pLoop_cons, hno.1]; rfl
  refine ⟨.bin k1 h.t1.pos h.x' h.y', by simp [Ex.st, h.hx, h.hy], ?_⟩
  show (pOp (pE (m + 2)) 1 ts).then (fun l r' => pLoop (pE (m + 2)) 1 (r'.length + 1) l r') = _
  show (pE (m + 2) 2 ts).then (fun l r' => pLoop (pE (m + 2)) 1 (r'.length + 1) l r') = _
  rw [f2]
  show pLoop (pE (m + 2)) 1 ((h.t2 :: h.zs).length + 1) _ (h.t2 :: h.zs) = _
  rw [pLoop_cons, hno.2]; rfl
end
end Go.Am
