/-
  Texts put together: ExFew, ExFew2.
-/
import Derived.Test.YthfieonkfailkaaGreatDoorExA
/-
  Expressions: plain words: how many brackets there have to be.
-/
namespace Go.Am
open Go.Lib
def nbr : List Tok → Nat
  | [] => 0
  | t :: r => (bif t.is [40] then 1 else 0) + nbr r
theorem nbr_app : ∀ a b : List Tok, nbr (a ++ b) = nbr a + nbr b
  | [], b => by simp [nbr]
  | t :: a, b => by simp only [List.cons_append, nbr, nbr_app a b]; omega
def b1 (b : Bool) : Nat := bif b then 1 else 0
/-- how many pairs of brackets there are where there are as few as there have to be -/
def Ex.bks (n : Nat) : Ex → Nat
  | .leaf .. => 0
  | .un k _ e => b1 (decide (lineK k < n)) + e.bks (bif decide (k = 5) then 8 else 3)
  | .bin k _ a b => b1 (decide (lineK k < n)) + (a.bks (leftL k) + b.bks (lineK k + 1))
theorem b1_le (b : Bool) : b1 b ≤ 1 := by cases b <;> decide
theorem b1_mono {x n m : Nat} (h : n ≤ m) : b1 (decide (x < n)) ≤ b1 (decide (x < m)) := by
  unfold b1
  by_cases h1 : x < n
  · rw [decide_eq_true h1, decide_eq_true (show x < m by omega)]; exact Nat.le_refl _
  · rw [decide_eq_false h1]; exact Nat.zero_le _
theorem bks_mono {n m : Nat} (h : n ≤ m) : ∀ e : Ex, e.bks n ≤ e.bks m
  | .leaf .. => Nat.le_refl _
  | .un k _ e => by simp only [Ex.bks]; have := b1_mono (x := lineK k) h; omega
  | .bin k _ a b => by simp only [Ex.bks]; have := b1_mono (x := lineK k) h; omega
theorem bks_one (n m : Nat) : ∀ e : Ex, e.bks n ≤ e.bks m + 1
  | .leaf .. => by simp [Ex.bks]
  | .un k _ e => by simp only [Ex.bks]; have := b1_le (decide (lineK k < n)); omega
  | .bin k _ a b => by simp only [Ex.bks]; have := b1_le (decide (lineK k < n)); omega
theorem bks_st : ∀ (e : Ex) (n : Nat), e.st.bks n = e.bks n
  | .leaf .., _ => rfl
  | .un k _ e, n => by simp only [Ex.st, Ex.bks, bks_st e]
  | .bin k _ a b, n => by simp only [Ex.st, Ex.bks, bks_st a, bks_st b]
def lnE (s : Nat) : Nat := bif decide (s ≤ 2) then s else s + 1
def lnO (s : Nat) : Nat := bif decide (s = 1) then 2 else bif decide (s = 2) then 3 else s + 2
def Lv.ln : Lv → Nat
  | .P => 9
  | .O s => lnO s
  | .E s => lnE s
theorem lnEO (s : Nat) : lnE s ≤ lnO s := by
  unfold lnE lnO
  by_cases h1 : s = 1
  · subst h1; decide
  · by_cases h2 : s = 2
    · subst h2; decide
    · rw [decide_eq_false h1, decide_eq_false h2]
      cases decide (s ≤ 2) <;> simp
theorem op_line {t : List UInt8} (h : opK t ≠ 0) : lineK (opK t) = lnE (bnd (opK t)) ∧ (bnd (opK t) ≠ 3 → leftL (opK t) = lnE (bnd (opK t))) ∧ (bnd (opK t) = 3 → leftL (opK t) = 5 ∧ lineK (opK t) = 4) ∧ lineK (opK t) + 1 = lnO (bnd (opK t)) := by
  have key : ∀ k : Fin 20, 7 ≤ k.val → lineK k.val = lnE (bnd k.val) ∧ (bnd k.val ≠ 3 → leftL k.val = lnE (bnd k.val)) ∧ (bnd k.val = 3 → leftL k.val = 5 ∧ lineK k.val = 4) ∧ lineK k.val + 1 = lnO (bnd k.val) := by decide +kernel
  have hr := opK_rng h
  have := key ⟨(opK t).toNat, by omega⟩ (by simp only; omega)
  simp only at this
  rwa [Int.toNat_of_nonneg (by omega)] at this
theorem nbr_par {o c : Tok} {ts : List Tok} (ho : o.is [40] = true) : nbr ts + 1 ≤ nbr (o :: (ts ++ [c])) := by
  simp only [nbr, nbr_app, ho, cond_true]; omega
/-- there have to be so many -/
theorem gr_few : ∀ {lv : Lv} {e : Ex} {ts : List Tok}, Gr lv e ts → e.bks lv.ln ≤ nbr ts := by
  intro lv e ts h
  induction h with
  | num t h => exact Nat.zero_le _
  | fld t h hf => exact Nat.zero_le _
  | par o c e ts ho hc _ ih =>
    have h1 := bks_one 9 1 e
    have h2 := nbr_par (c := c) (ts := ts) ho
    have ih : e.bks 1 ≤ nbr ts := ih
    show e.bks 9 ≤ _
    omega
  | neg t e ts _ _ ih =>
    have ih : e.bks 8 ≤ nbr ts := ih
    show b1 (decide (lineK 5 < 8)) + e.bks 8 ≤ (bif t.is [40] then 1 else 0) + nbr ts
    have : b1 (decide (lineK 5 < 8)) = 0 := by decide
    omega
  | pos e ts _ ih => exact Nat.le_trans (bks_mono (by decide) e) ih
  | inv t e ts _ _ ih =>
    have ih : e.bks 3 ≤ nbr ts := ih
    show b1 (decide (lineK 6 < 3)) + e.bks 3 ≤ (bif t.is [40] then 1 else 0) + nbr ts
    have : b1 (decide (lineK 6 < 3)) = 0 := by decide
    omega
  | pos2 e ts _ ih => exact Nat.le_trans (bks_mono (by decide) e) ih
  | up s e ts hs _ ih =>
    refine Nat.le_trans (bks_mono ?_ e) ih
    rcases hs with rfl | rfl | rfl | rfl <;> decide
  | one s e ts _ ih => exact Nat.le_trans (bks_mono (lnEO s) e) ih
  | bin s t a b xs ys h3 ho hb _ _ ih1 ih2 =>
    have ho' : opK t.text ≠ 0 := by unfold Tok.op at ho; simp at ho; exact ho.2
    obtain ⟨l1, l2, _, l4⟩ := op_line ho'
    rw [hb] at l1 l2 l4
    have ih1 : a.bks (lnE s) ≤ nbr xs := ih1
    have ih2 : b.bks (lnO s) ≤ nbr ys := ih2
    show b1 (decide (lineK (opK t.text) < lnE s)) + (a.bks (leftL (opK t.text)) + b.bks (lineK (opK t.text) + 1)) ≤ nbr (xs ++ t :: ys)
    have h0 : b1 (decide (lineK (opK t.text) < lnE s)) = 0 := by rw [l1, decide_eq_false (Nat.lt_irrefl _)]; rfl
    rw [h0, l2 h3, l4, nbr_app]
    simp only [nbr]
    omega
  | cmp t a b xs ys ho hb _ _ ih1 ih2 =>
    have ho' : opK t.text ≠ 0 := by unfold Tok.op at ho; simp at ho; exact ho.2
    obtain ⟨_, _, l3, _⟩ := op_line ho'
    obtain ⟨l3, l4⟩ := l3 hb
    have ih1 : a.bks 5 ≤ nbr xs := ih1
    have ih2 : b.bks 5 ≤ nbr ys := ih2
    show b1 (decide (lineK (opK t.text) < 4)) + (a.bks (leftL (opK t.text)) + b.bks (lineK (opK t.text) + 1)) ≤ nbr (xs ++ t :: ys)
    have h0 : b1 (decide (lineK (opK t.text) < 4)) = 0 := by rw [l4]; decide
    have h5 : lineK (opK t.text) + 1 = 5 := by omega
    rw [h0, l3, h5, nbr_app]
    simp only [nbr]
    omega
/-- the writing has just so many -/
def pnb : List Pc → Nat
  | [] => 0
  | p :: r => (bif decide (p.t = [40]) then 1 else 0) + pnb r
theorem pnb_app : ∀ a b : List Pc, pnb (a ++ b) = pnb a + pnb b
  | [], b => by simp [pnb]
  | t :: a, b => by simp only [List.cons_append, pnb, pnb_app a b]; omega
theorem pnb_brk (b : Bool) (g : List UInt8) (f : List UInt8 → List Pc) {n : Nat} (h : ∀ g, pnb (f g) = n) : pnb (brk b g f) = b1 b + n := by
  unfold brk b1
  cases b
  · simp [h]
  · simp [pnb, pnb_app, h]
end Go.Am
/-
  Expressions: plain words: a pair of brackets that is taken out of what is written with as few as there have to be.
-/
namespace Go.Am
open Go.Lib
theorem lx_tailB {tg : List UInt8} (htg : tg.all (fun c => decide (kd c = 1)) = true) : ∀ (l : List Pc) (a : Int) (k : Nat), pcOk l = true → l.length + k ≤ 200 → lx (pcsS l ++ tg) a k = ⟨pcsT a l, a + (pcsS l ++ tg).length, 0⟩
  | [], a, k, _, _ => by
    have := lx_skip tg (blanks_of htg) [] a k
    rw [List.append_nil, lx_nil] at this
    rw [pcsS, List.nil_append, this]
    simp [pcsT]
  | p :: r, a, k, h, hk => by
    unfold pcOk at h
    simp only [Bool.and_eq_true] at h
    obtain ⟨⟨h1, h2⟩, h3, h4⟩ := h
    have h2 := of_decide_eq_true h2
    rw [pcsS, List.append_assoc, List.append_assoc, lx_skip p.g (blanks_of h1)]
    have hsep : sepB p.k p.t (pcsS r ++ tg) = true := by
      cases r with
      | nil =>
        cases tg with
        | nil => rfl
        | cons c q =>
          have := sep_adj (p := p) (p' := ⟨c :: q, 3, []⟩) (q := []) h2 htg (by simp [adj])
          simpa [pcsS] using this
      | cons p' r =>
        unfold pcOk at h4
        simp only [Bool.and_eq_true] at h4
        have := sep_adj (q := pcsS r ++ tg) h2 h4.1.1 h3
        simpa [pcsS] using this
    obtain ⟨g1, g2⟩ := tk_sep h2 hsep
    obtain ⟨c, x, g3, g4, _, _⟩ := valid_tok h2
    have hT : tkT (p.t ++ (pcsS r ++ tg)) = p.t := by unfold tkT; rw [g1, List.take_left]
    have hF : tkF (p.t ++ (pcsS r ++ tg)) = 0 := by unfold tkF; rw [g2, hT]; exact h2
    have hlx : lx (p.t ++ (pcsS r ++ tg)) (a + p.g.length) k = (lx ((p.t ++ (pcsS r ++ tg)).drop (tkN (p.t ++ (pcsS r ++ tg)))) (a + p.g.length + (tkN (p.t ++ (pcsS r ++ tg)) : Int)) (k + 1)).cons ⟨tkK (p.t ++ (pcsS r ++ tg)), tkT (p.t ++ (pcsS r ++ tg)), a + p.g.length⟩ := by
      rw [g3, List.cons_append] at hF ⊢
      exact lx_tok g4 (by simp at hk; omega) hF
    rw [hlx, g1, g2, hT, List.drop_left, lx_tailB htg r _ _ h4 (by simp at hk; omega)]
    simp only [LexO.cons, pcsT, List.length_append]
    congr 1
    omega
/-! glued -/
def glu (G : List UInt8) : List Pc × List UInt8 → List Pc × List UInt8
  | ([], tg) => ([], G ++ tg)
  | (x :: r, tg) => ({ x with g := G ++ x.g } :: r, tg)
def ptx (x : List Pc × List UInt8) : List UInt8 := pcsS x.1 ++ x.2
theorem glu_tx (G : List UInt8) : ∀ x, ptx (glu G x) = G ++ ptx x
  | ([], _) => by simp [glu, ptx, pcsS]
  | (_ :: _, _) => by simp [glu, ptx, pcsS]
theorem glu_len (G : List UInt8) : ∀ x, (glu G x).1.length = x.1.length
  | ([], _) => rfl
  | (_ :: _, _) => rfl
theorem glu_pnb (G : List UInt8) : ∀ x, pnb (glu G x).1 = pnb x.1
  | ([], _) => rfl
  | (_ :: _, _) => rfl
theorem glu_gap {G : List UInt8} (hG : G ≠ []) : ∀ x p r, (glu G x).1 = p :: r → p.g ≠ []
  | ([], _), _, _, h => by simp [glu] at h
  | (x :: r, _), p, r', h => by
    simp only [glu, List.cons.injEq] at h
    rw [← h.1]
    simp [hG]
theorem glu_ok {G : List UInt8} (hb : G.all (fun c => decide (kd c = 1)) = true) : ∀ x, pcOk x.1 = true → x.2.all (fun c => decide (kd c = 1)) = true → pcOk (glu G x).1 = true ∧ (glu G x).2.all (fun c => decide (kd c = 1)) = true
  | ([], tg), _, ht => ⟨rfl, by show (G ++ tg).all _ = true; rw [List.all_append, hb]; exact ht⟩
  | (x :: r, tg), h, ht => by
    refine ⟨?_, ht⟩
    show pcOk ({ x with g := G ++ x.g } :: r) = true
    have h : pcOk (x :: r) = true := h
    unfold pcOk at h ⊢
    simp only [Bool.and_eq_true] at h ⊢
    refine ⟨⟨by rw [List.all_append, hb]; exact h.1.1, h.1.2⟩, ?_, h.2.2⟩
    cases r with
    | nil => rfl
    | cons y q => exact h.2.1
theorem pcOk_split : ∀ {a b : List Pc}, pcOk (a ++ b) = true → pcOk a = true ∧ pcOk b = true
  | [], b, h => ⟨rfl, h⟩
  | p :: a, b, h => by
    rw [List.cons_append] at h
    unfold pcOk at h
    simp only [Bool.and_eq_true] at h
    obtain ⟨h1, h2, h3⟩ := h
    obtain ⟨h4, h5⟩ := pcOk_split h3
    refine ⟨?_, h5⟩
    unfold pcOk
    simp only [Bool.and_eq_true]
    refine ⟨h1, ?_, h4⟩
    cases a with
    | nil => rfl
    | cons y q => exact h2
theorem pcOk_join : ∀ {a b : List Pc}, pcOk a = true → pcOk b = true → (∀ p r, b = p :: r → p.g ≠ []) → pcOk (a ++ b) = true
  | [], b, _, h, _ => h
  | p :: a, b, ha, hb, hg => by
    unfold pcOk at ha
    simp only [Bool.and_eq_true] at ha
    obtain ⟨h1, h2, h3⟩ := ha
    rw [List.cons_append]
    unfold pcOk
    simp only [Bool.and_eq_true]
    refine ⟨h1, ?_, pcOk_join h3 hb hg⟩
    cases a with
    | nil =>
      cases b with
      | nil => rfl
      | cons y q =>
        have := hg y q rfl
        show adj p y = true
        unfold adj
        simp [this]
    | cons y q => exact h2
/-! pieces without brackets -/
def noB (t : List UInt8) : Bool := t.all fun c => !decide (c = 40) && !decide (c = 41)
def gdP (p : Pc) : Bool := p.g.all (fun c => decide (c = 32)) && (decide (p.t = [40]) || (decide (p.t = [41]) || noB p.t))
theorem noB_itoa {n : Int} (hr : Rng n) (h0 : 0 ≤ n) : noB (itoa n) = true := by
  have h : rdE (itoa n) = 0 := (read_pos hr h0 0).1
  have hd : (itoa n).all isDig = true := by
    unfold rdE at h
    cases hq : (itoa n).all isDig with
    | true => rfl
    | false => rw [hq] at h; simp at h
  refine List.all_eq_true.2 fun c hc => ?_
  have := dig_nat (List.all_eq_true.1 hd c hc)
  have e1 : c ≠ 40 := fun e => by rw [e] at this; simp at this
  have e2 : c ≠ 41 := fun e => by rw [e] at this; simp at this
  simp [e1, e2]
theorem noB_op (k : Int) : noB (opT k) = true := by
  unfold opT
  cases decide (k = 7) <;> cases decide (k = 8) <;> cases decide (k = 9) <;> cases decide (k = 10) <;> cases decide (k = 11) <;> cases decide (k = 12) <;> cases decide (k = 13) <;> cases decide (k = 14) <;> cases decide (k = 15) <;> cases decide (k = 16) <;> cases decide (k = 17) <;> cases decide (k = 18) <;> decide
theorem noB_fld (k : Int) : noB (fldT k) = true := by
  unfold fldT
  cases decide (k = 2) <;> cases decide (k = 3) <;> decide
theorem noB_ne {t : List UInt8} (h : noB t = true) : t ≠ [40] ∧ t ≠ [41] := by
  constructor <;> intro e <;> rw [e] at h <;> revert h <;> decide
def dpc : List Pc → Int
  | [] => 0
  | p :: r => (bif decide (p.t = [40]) then 1 else bif decide (p.t = [41]) then -1 else 0) + dpc r
theorem dpc_app : ∀ a b : List Pc, dpc (a ++ b) = dpc a + dpc b
  | [], b => by simp [dpc]
  | p :: a, b => by simp only [List.cons_append, dpc, dpc_app a b]; omega
structure BalP (l : List Pc) : Prop where
  pre : ∀ n, 0 ≤ dpc (l.take n)
  tot : dpc l = 0
theorem BalP.app {a b : List Pc} (ha : BalP a) (hb : BalP b) : BalP (a ++ b) := by
  refine ⟨fun n => ?_, by rw [dpc_app, ha.tot, hb.tot]; rfl⟩
  rw [List.take_append, dpc_app]
  have := ha.pre n
  have := hb.pre (n - a.length)
  omega
theorem BalP.one {p : Pc} (h : noB p.t = true) : BalP [p] := by
  obtain ⟨h1, h2⟩ := noB_ne h
  refine ⟨fun n => ?_, by simp [dpc, h1, h2]⟩
  cases n <;> simp [dpc, h1, h2]
theorem BalP.inb {b : Bool} {g : List UInt8} {f : List UInt8 → List Pc} (h : ∀ g, BalP (f g)) : BalP (brk b g f) := by
  unfold brk
  cases b with
  | false => exact h g
  | true =>
    have hf := h []
    refine ⟨fun n => ?_, ?_⟩
    · cases n with
      | zero => simp [dpc]
      | succ n =>
        show 0 ≤ dpc ((⟨g, 3, [40]⟩ :: (f [] ++ [⟨[], 3, [41]⟩])).take (n + 1))
        rw [List.take_succ_cons, List.take_append]
        show 0 ≤ 1 + dpc ((f []).take n ++ ([⟨[], 3, [41]⟩] : List Pc).take (n - (f []).length))
        rw [dpc_app]
        have h1 := hf.pre n
        have h2 : -1 ≤ dpc (([⟨[], 3, [41]⟩] : List Pc).take (n - (f []).length)) := by
          cases n - (f []).length with
          | zero => exact (by decide : (-1 : Int) ≤ 0)
          | succ m => simp [dpc]
        omega
    · show 1 + dpc (f [] ++ [⟨[], 3, [41]⟩]) = 0
      rw [dpc_app, hf.tot]; rfl
theorem bal_pcs : ∀ (e : Ex) (g : List UInt8) (n : Nat), e.ok = true → e.rng = true → BalP (e.pcs false g n)
  | .leaf k a p, g, n, ho, hr => by
    have ho := of_decide_eq_true ho
    have hr : Rng a := of_decide_eq_true hr
    unfold Ex.pcs
    cases decide (k = 1)
    · exact BalP.one (noB_fld k)
    · exact BalP.one (noB_itoa hr ho.2.2.1)
  | .un k p e, g, n, ho, hr => by
    obtain ⟨_, _, ho⟩ := Ex.ok_un ho
    have hr : e.rng = true := hr
    unfold Ex.pcs
    refine BalP.inb fun g => ?_
    cases decide (k = 5)
    · exact (BalP.one (p := ⟨g, 2, notT⟩) (show noB notT = true by decide)).app (bal_pcs e _ _ ho hr)
    · exact (BalP.one (p := ⟨g, 3, [45]⟩) (show noB [45] = true by decide)).app (bal_pcs e _ _ ho hr)
  | .bin k p a b, g, n, ho, hr => by
    obtain ⟨_, _, oa, ob⟩ := Ex.ok_bin ho
    have hr : (a.rng && b.rng) = true := hr
    rw [Bool.and_eq_true] at hr
    unfold Ex.pcs
    refine BalP.inb fun g => (bal_pcs a _ _ oa hr.1).app ((BalP.one (p := ⟨[32], opTk k, opT k⟩) (noB_op k)).app (bal_pcs b _ _ ob hr.2))
theorem gd_brk {b : Bool} {g : List UInt8} (hg : g.all (fun c => decide (c = 32)) = true) {f : List UInt8 → List Pc} (h : ∀ g, g.all (fun c => decide (c = 32)) = true → (f g).all gdP = true) : (brk b g f).all gdP = true := by
  unfold brk
  cases b with
  | false => exact h g hg
  | true =>
    show (⟨g, 3, [40]⟩ :: (f [] ++ [⟨[], 3, [41]⟩])).all gdP = true
    rw [List.all_cons, List.all_append, h [] rfl]
    unfold gdP
    rw [hg]; rfl
theorem gdP_of {g t : List UInt8} {k : Int} (hg : g.all (fun c => decide (c = 32)) = true) (h : noB t = true) : gdP ⟨g, k, t⟩ = true := by
  unfold gdP
  rw [hg, h]; simp
theorem gd_pcs : ∀ (e : Ex) (g : List UInt8) (n : Nat), e.ok = true → e.rng = true → g.all (fun c => decide (c = 32)) = true → (e.pcs false g n).all gdP = true
  | .leaf k a p, g, n, ho, hr, hg => by
    have ho := of_decide_eq_true ho
    have hr : Rng a := of_decide_eq_true hr
    unfold Ex.pcs
    cases decide (k = 1)
    · show ([⟨g, 2, fldT k⟩] : List Pc).all gdP = true
      rw [List.all_cons, gdP_of hg (noB_fld k)]; rfl
    · show ([⟨g, 1, itoa a⟩] : List Pc).all gdP = true
      rw [List.all_cons, gdP_of hg (noB_itoa hr ho.2.2.1)]; rfl
  | .un k p e, g, n, ho, hr, hg => by
    obtain ⟨_, _, ho⟩ := Ex.ok_un ho
    have hr : e.rng = true := hr
    unfold Ex.pcs
    refine gd_brk hg fun g hg => ?_
    cases decide (k = 5)
    · show (⟨g, 2, notT⟩ :: e.pcs false [32] (subL false 3)).all gdP = true
      rw [List.all_cons, gdP_of hg (by decide), gd_pcs e _ _ ho hr rfl]; rfl
    · show (⟨g, 3, [45]⟩ :: e.pcs false (bif false then [32] else []) (subL false 8)).all gdP = true
      rw [List.all_cons, gdP_of hg (by decide), gd_pcs e _ _ ho hr rfl]; rfl
  | .bin k p a b, g, n, ho, hr, hg => by
    obtain ⟨_, _, oa, ob⟩ := Ex.ok_bin ho
    have hr : (a.rng && b.rng) = true := hr
    rw [Bool.and_eq_true] at hr
    unfold Ex.pcs
    refine gd_brk hg fun g hg => ?_
    rw [List.all_append, List.all_cons, gd_pcs a _ _ oa hr.1 hg, gdP_of rfl (noB_op k), gd_pcs b _ _ ob hr.2 rfl]; rfl
theorem pnb_one {p : Pc} (h : noB p.t = true) (r : List Pc) : pnb (p :: r) = pnb r := by
  simp [pnb, (noB_ne h).1]
theorem pnb_pcs : ∀ (e : Ex) (g : List UInt8) (n : Nat), e.ok = true → e.rng = true → pnb (e.pcs false g n) = e.bks n
  | .leaf k a p, g, n, ho, hr => by
    have ho := of_decide_eq_true ho
    have hr : Rng a := of_decide_eq_true hr
    unfold Ex.pcs
    cases decide (k = 1)
    · exact pnb_one (p := ⟨g, 2, fldT k⟩) (noB_fld k) []
    · exact pnb_one (p := ⟨g, 1, itoa a⟩) (noB_itoa hr ho.2.2.1) []
  | .un k p e, g, n, ho, hr => by
    obtain ⟨_, _, ho⟩ := Ex.ok_un ho
    have hr : e.rng = true := hr
    unfold Ex.pcs Ex.bks
    refine pnb_brk _ g _ fun g => ?_
    cases decide (k = 5)
    · exact (pnb_one (p := ⟨g, 2, notT⟩) (show noB notT = true by decide) _).trans (pnb_pcs e _ _ ho hr)
    · exact (pnb_one (p := ⟨g, 3, [45]⟩) (show noB [45] = true by decide) _).trans (pnb_pcs e _ _ ho hr)
  | .bin k p a b, g, n, ho, hr => by
    obtain ⟨_, _, oa, ob⟩ := Ex.ok_bin ho
    have hr : (a.rng && b.rng) = true := hr
    rw [Bool.and_eq_true] at hr
    unfold Ex.pcs Ex.bks
    refine pnb_brk _ g _ fun g => ?_
    rw [pnb_app, pnb_pcs a _ _ oa hr.1, pnb_one (p := ⟨[32], opTk k, opT k⟩) (noB_op k), pnb_pcs b _ _ ob hr.2]; rfl
theorem nbr_pnb : ∀ (l : List Pc) (a : Int), nbr (pcsT a l) ≤ pnb l
  | [], _ => Nat.le_refl _
  | p :: r, a => by
    have ih := nbr_pnb r (a + p.g.length + p.t.length)
    simp only [pcsT, nbr, pnb]
    have : (bif (Tok.mk p.k p.t (a + p.g.length)).is [40] then 1 else 0) ≤ (bif decide (p.t = [40]) then 1 else 0) := by
      unfold Tok.is
      cases hd : decide (p.t = [40]) <;> cases decide (p.k = 1) <;> simp
    omega
/-- a bracket among the bytes is one among the pieces -/
theorem op_split : ∀ (l : List Pc) (j : Nat), l.all gdP = true → (pcsS l)[j]? = some 40 → ∃ l1 p l2, l = l1 ++ p :: l2 ∧ p.t = [40] ∧ j = (pcsS l1).length + p.g.length
  | [], j, _, h => by simp [pcsS] at h
  | p :: r, j, hg, h => by
    rw [List.all_cons, Bool.and_eq_true] at hg
    have hp := hg.1
    unfold gdP at hp
    rw [Bool.and_eq_true] at hp
    rw [pcsS] at h
    rcases Nat.lt_or_ge j p.g.length with h1 | h1
    · rw [List.getElem?_append_left h1] at h
      have hm := List.mem_of_getElem? h
      have := of_decide_eq_true (List.all_eq_true.1 hp.1 _ hm)
      exact absurd this (by decide)
    · rw [List.getElem?_append_right h1] at h
      rcases Nat.lt_or_ge (j - p.g.length) p.t.length with h2 | h2
      · rw [List.getElem?_append_left h2] at h
        have hm := List.mem_of_getElem? h
        have hq := hp.2
        simp only [Bool.or_eq_true, decide_eq_true_eq] at hq
        rcases hq with hq | hq | hq
        · refine ⟨[], p, r, rfl, hq, ?_⟩
          rw [hq] at h2
          simp [pcsS] at h2 ⊢
          omega
        · rw [hq] at hm; simp at hm
        · have := List.all_eq_true.1 hq _ hm
          exact absurd this (by decide)
      · rw [List.getElem?_append_right h2] at h
        obtain ⟨l1, q, l2, e1, e2, e3⟩ := op_split r _ hg.2 h
        refine ⟨p :: l1, q, l2, by rw [e1]; rfl, e2, ?_⟩
        simp only [pcsS, List.length_append]
        omega
end Go.Am
