/-
  Texts put together: ExCount, ExCount2.
-/
import Derived.Test.YthfieonkfailkaaGreatDoorExA
import Derived.Test.YthfieonkfailkaaGreatDoorPureA
/-
  Expressions: plain words: each token is that of one node, or a bracket.
-/
namespace Go.Am
def brkT (t : Tok) : Bool := decide (t.kind = 3) && (decide (t.text = [40]) || decide (t.text = [41]))
def nonb (ts : List Tok) : List Tok := ts.filter fun t => !brkT t
/-- how many brackets are open; none if there are too many to the right -/
def balT : Int → List Tok → Option Int
  | d, [] => some d
  | d, t :: r => bif brkT t then (bif decide (t.text = [40]) then balT (d + 1) r else bif decide (d - 1 < 0) then none else balT (d - 1) r) else balT d r
theorem balT_app : ∀ (a b : List Tok) (d d' : Int), balT d a = some d' → balT d (a ++ b) = balT d' b
  | [], b, d, d', h => by cases h; rfl
  | t :: a, b, d, d', h => by
    unfold balT at h
    rw [List.cons_append, balT]
    cases h1 : brkT t with
    | false => rw [h1] at h; exact balT_app a b d d' h
    | true =>
      rw [h1, cond_true] at h
      rw [cond_true]
      cases h2 : decide (t.text = [40]) with
      | true => rw [h2] at h; exact balT_app a b _ d' h
      | false =>
        rw [h2, cond_false] at h
        rw [cond_false]
        cases h3 : decide (d - 1 < 0) with
        | true => rw [h3] at h; cases h
        | false => rw [h3] at h; exact balT_app a b _ d' h
def Ex.poss : Ex → List Int
  | .leaf _ _ p => [p]
  | .un _ p e => e.poss ++ [p]
  | .bin _ p a b => a.poss ++ (b.poss ++ [p])
theorem poss_flat : ∀ (e : Ex) (o : Int), (e.flat o).map Nod.pos = e.poss
  | .leaf .., _ => rfl
  | .un _ _ e, o => by simp [Ex.flat, Ex.poss, poss_flat e]
  | .bin _ _ a b, o => by simp [Ex.flat, Ex.poss, poss_flat a, poss_flat b]
/-- brackets are symbols -/
def symB (t : Tok) : Bool := decide (t.kind = 3) || !(decide (t.text = [40]) || decide (t.text = [41]))
theorem brk_is {t : Tok} (h : symB t = true) : brkT t = (decide (t.text = [40]) || decide (t.text = [41])) := by
  unfold symB at h
  unfold brkT
  cases h1 : decide (t.kind = 3) with
  | true => rfl
  | false => rw [h1, Bool.false_or, Bool.not_eq_true'] at h; rw [h]; rfl
theorem nonb_app (a b : List Tok) : nonb (a ++ b) = nonb a ++ nonb b := List.filter_append ..
structure Cnt (e : Ex) (ts : List Tok) : Prop where
  p : List.Perm ((nonb ts).map Tok.pos) e.poss
  b : ∀ d, 0 ≤ d → balT d ts = some d
theorem no_brk {t : Tok} (h1 : t.text ≠ [40]) (h2 : t.text ≠ [41]) : brkT t = false := by
  unfold brkT
  rw [decide_eq_false h1, decide_eq_false h2]; simp
theorem cnt_one {t : Tok} (h : brkT t = false) : nonb [t] = [t] ∧ ∀ d, balT d [t] = some d := by
  constructor
  · simp [nonb, h]
  · intro d; simp [balT, h]
theorem cnt_cons {t : Tok} (h : brkT t = false) (ts : List Tok) : nonb (t :: ts) = t :: nonb ts ∧ ∀ d, balT d (t :: ts) = balT d ts := by
  constructor
  · simp [nonb, h]
  · intro d; simp [balT, h]
theorem gr_cnt : ∀ {lv : Lv} {e : Ex} {ts : List Tok}, Gr lv e ts → ts.all symB = true → Cnt e ts := by
  intro lv e ts h
  induction h with
  | num t h =>
    intro _
    have hb : brkT t = false := by unfold brkT; rw [decide_eq_false (by omega)]; rfl
    obtain ⟨h1, h2⟩ := cnt_one hb
    exact ⟨by rw [h1]; exact List.Perm.refl _, fun d _ => h2 d⟩
  | fld t h hf =>
    intro _
    have hb : brkT t = false := no_brk (fun e => hf (by rw [e]; rfl)) (fun e => hf (by rw [e]; rfl))
    obtain ⟨h1, h2⟩ := cnt_one hb
    exact ⟨by rw [h1]; exact List.Perm.refl _, fun d _ => h2 d⟩
  | par o c e ts ho hc _ ih =>
    intro hs
    simp only [List.all_cons, List.all_append, List.all_nil, Bool.and_eq_true, Bool.and_true] at hs
    obtain ⟨s1, s2, s3⟩ := hs
    have o1 : o.text = [40] := by unfold Tok.is at ho; simp at ho; exact ho.2
    have c1 : c.text = [41] := by unfold Tok.is at hc; simp at hc; exact hc.2
    have bo : brkT o = true := by rw [brk_is s1, o1]; decide
    have bc : brkT c = true := by rw [brk_is s3, c1]; decide
    obtain ⟨i1, i2⟩ := ih s2
    constructor
    · have : nonb (o :: (ts ++ [c])) = nonb ts := by simp [nonb, bo, bc]
      rw [this]; exact i1
    · intro d hd
      unfold balT
      rw [bo, cond_true, decide_eq_true o1, cond_true, balT_app ts [c] (d + 1) (d + 1) (i2 (d + 1) (by omega))]
      unfold balT
      rw [bc, cond_true, decide_eq_false (show ¬ c.text = [40] from by rw [c1]; decide), cond_false, decide_eq_false (show ¬ d + 1 - 1 < 0 by omega), cond_false]
      unfold balT
      rw [show d + 1 - 1 = d by omega]
  | neg t e ts ht _ ih =>
    intro hs
    simp only [List.all_cons, Bool.and_eq_true] at hs
    obtain ⟨i1, i2⟩ := ih hs.2
    have t1 : t.text = [45] := by unfold Tok.is at ht; simp at ht; exact ht.2
    obtain ⟨h1, h2⟩ := cnt_cons (no_brk (t := t) (by rw [t1]; decide) (by rw [t1]; decide)) ts
    refine ⟨?_, fun d hd => by rw [h2]; exact i2 d hd⟩
    rw [h1, List.map_cons, Ex.poss]
    exact (List.Perm.cons _ i1).trans (List.perm_append_singleton _ _).symm
  | pos e ts _ ih => exact ih
  | inv t e ts ht _ ih =>
    intro hs
    simp only [List.all_cons, Bool.and_eq_true] at hs
    obtain ⟨i1, i2⟩ := ih hs.2
    have t1 : t.text = notT := by unfold Tok.is at ht; simp at ht; exact ht.2
    obtain ⟨h1, h2⟩ := cnt_cons (no_brk (t := t) (by rw [t1]; decide) (by rw [t1]; decide)) ts
    refine ⟨?_, fun d hd => by rw [h2]; exact i2 d hd⟩
    rw [h1, List.map_cons, Ex.poss]
    exact (List.Perm.cons _ i1).trans (List.perm_append_singleton _ _).symm
  | pos2 e ts _ ih => exact ih
  | up s e ts _ _ ih => exact ih
  | one s e ts _ ih => exact ih
  | bin s t a b xs ys _ ho _ _ _ ih1 ih2 =>
    intro hs
    simp only [List.all_append, List.all_cons, Bool.and_eq_true] at hs
    have ho : opK t.text ≠ 0 := by unfold Tok.op at ho; simp at ho; exact ho.2
    obtain ⟨i1, i2⟩ := ih1 hs.1
    obtain ⟨j1, j2⟩ := ih2 hs.2.2
    obtain ⟨h1, h2⟩ := cnt_cons (no_brk (t := t) (fun e => ho (by rw [e]; rfl)) (fun e => ho (by rw [e]; rfl))) ys
    refine ⟨?_, fun d hd => by rw [balT_app xs _ d d (i2 d hd), h2]; exact j2 d hd⟩
    rw [nonb_app, h1, List.map_append, List.map_cons, Ex.poss]
    exact List.Perm.append i1 ((List.Perm.cons _ j1).trans (List.perm_append_singleton _ _).symm)
  | cmp t a b xs ys ho _ _ _ ih1 ih2 =>
    intro hs
    simp only [List.all_append, List.all_cons, Bool.and_eq_true] at hs
    have ho : opK t.text ≠ 0 := by unfold Tok.op at ho; simp at ho; exact ho.2
    obtain ⟨i1, i2⟩ := ih1 hs.1
    obtain ⟨j1, j2⟩ := ih2 hs.2.2
    obtain ⟨h1, h2⟩ := cnt_cons (no_brk (t := t) (fun e => ho (by rw [e]; rfl)) (fun e => ho (by rw [e]; rfl))) ys
    refine ⟨?_, fun d hd => by rw [balT_app xs _ d d (i2 d hd), h2]; exact j2 d hd⟩
    rw [nonb_app, h1, List.map_append, List.map_cons, Ex.poss]
    exact List.Perm.append i1 ((List.Perm.cons _ j1).trans (List.perm_append_singleton _ _).symm)
end Go.Am
/-
  Expressions: plain words: a parser goes only on; tallies.
-/
namespace Go.Am
def PR.le (m : Nat) : PR → Prop
  | .ok _ r => r.length ≤ m
  | .bad _ n => n ≤ m
  | .out => True
theorem then_len {x : PR} {f : Ex → List Tok → PR} {m : Nat} (hx : x.le m) (hf : ∀ e r, r.length ≤ m → (f e r).le m) : (x.then f).le m := by
  cases x with
  | ok e r => exact hf e r hx
  | bad e n => exact hx
  | out => exact hx
theorem node1_len {e : Ex} {n m : Nat} {r : List Tok} (hn : n ≤ m) (hr : r.length ≤ m) : (node1 e n r).le m := by
  unfold node1
  cases decide (60 < e.size) with
  | true => exact hn
  | false =>
    cases decide (20 < e.depth) with
    | true => exact hn
    | false => exact hr
theorem PR.le.mono {m m' : Nat} (h : m ≤ m') : ∀ {x : PR}, x.le m → x.le m'
  | .ok .., hx => Nat.le_trans hx h
  | .bad .., hx => Nat.le_trans hx h
  | .out, _ => trivial
theorem shut_len (e : Ex) (r : List Tok) : (shutP e r).le r.length := by
  cases r with
  | nil => exact Nat.le_refl 0
  | cons c q =>
    rw [shut_cons]
    cases c.is [41] with
    | true => exact Nat.le_succ _
    | false => exact Nat.le_refl _
theorem prim_len {rec : Nat → List Tok → PR} (hrec : ∀ s r, (rec s r).le r.length) (r : List Tok) : (pPrim rec r).le r.length := by
  cases r with
  | nil => exact Nat.le_refl 0
  | cons t q =>
    rw [pPrim_cons]
    cases decide (t.kind = 1) with
    | true => exact Nat.le_succ _
    | false =>
      cases !decide (fldK t.text = 0) with
      | true => exact Nat.le_succ _
      | false =>
        cases decide (t.text = [40]) with
        | false => exact Nat.le_refl _
        | true => exact (then_len (hrec 1 q) fun e r hr => (shut_len e r).mono hr).mono (Nat.le_succ _)
theorem unW_len {k : Int} {M : Nat} : ∀ (m : Nat) (r : List Tok) (x : PR), r.length ≤ M → x.le M → (unW k m r x).le M
  | 0, _, _, _, hx => hx
  | _ + 1, [], _, _, hx => hx
  | m + 1, _ :: q, x, hr, hx => by
    unfold unW
    have hq : q.length + 1 ≤ M := hr
    exact then_len (unW_len m q x (by omega) hx) fun e r h => node1_len hq h
theorem op_len {rec : Nat → List Tok → PR} (hrec : ∀ s r, (rec s r).le r.length) (s : Nat) (r : List Tok) : (pOp rec s r).le r.length := by
  unfold pOp pFront
  have hd : ∀ k, (r.drop k).length ≤ r.length := fun k => by rw [List.length_drop]; omega
  cases decide (s = 2 ∨ s = 6) with
  | false => exact hrec _ _
  | true =>
    cases decide (s ≤ 2) with
    | true => exact unW_len _ _ _ (Nat.le_refl _) ((hrec 3 _).mono (hd _))
    | false => exact unW_len _ _ _ (Nat.le_refl _) ((prim_len hrec _).mono (hd _))
theorem loop_len {rec : Nat → List Tok → PR} (hrec : ∀ s r, (rec s r).le r.length) {s : Nat} : ∀ (m : Nat) (l : Ex) (r : List Tok), (pLoop rec s m l r).le r.length
  | 0, _, _ => trivial
  | _ + 1, _, [] => Nat.le_refl 0
  | m + 1, l, t :: q => by
    rw [pLoop_cons]
    cases (t.op && decide (bnd (opK t.text) = s)) with
    | false => exact Nat.le_refl _
    | true =>
      refine then_len ((op_len hrec s q).mono (Nat.le_succ _)) fun e r hr => then_len (node1_len (Nat.le_refl _) hr) fun e r hr => ?_
      cases decide (s = 3) with
      | true => exact hr
      | false => exact (loop_len hrec m e r).mono hr
theorem pE_len : ∀ (k s : Nat) (r : List Tok), (pE k s r).le r.length
  | 0, _, _ => trivial
  | k + 1, s, r => by
    unfold pE
    exact then_len (op_len (fun s r => pE_len k s r) s r) fun l r' hr => (loop_len (fun s r => pE_len k s r) _ l r').mono hr
/-! tallies -/
def bmp (c : Int) : List Int → List Int → List Int
  | A, [] => A
  | A, p :: r => bmp c (A.set p.toNat (A.getD p.toNat 0 + c)) r
def tal (P Q : List Int) : List Int := (List.range 401).map fun (k : Nat) => (P.count (k : Int) : Int) - (Q.count (k : Int) : Int)
theorem tal_len (P Q : List Int) : (tal P Q).length = 401 := by simp [tal]
theorem tal_get (P Q : List Int) {k : Nat} (hk : k < 401) : (tal P Q).getD k 0 = (P.count (k : Int) : Int) - (Q.count (k : Int) : Int) := by
  simp [tal, List.getD, hk]
theorem tal_ext {A : List Int} {P Q : List Int} (hl : A.length = 401) (h : ∀ k, k < 401 → A.getD k 0 = (P.count (k : Int) : Int) - (Q.count (k : Int) : Int)) : A = tal P Q := by
  refine List.ext_getElem (by rw [hl, tal_len]) fun k h1 h2 => ?_
  have h3 := h k (by omega)
  have h4 := tal_get P Q (k := k) (by omega)
  simp only [List.getD, List.getElem?_eq_getElem h1, List.getElem?_eq_getElem h2, Option.getD_some] at h3 h4
  rw [h3, h4]
theorem getD_setI (A : List Int) (i k : Nat) (v : Int) (hi : i < A.length) : (A.set i v).getD k 0 = if i = k then v else A.getD k 0 := by
  by_cases h : i = k
  · subst h; simp [List.getD, hi]
  · simp [List.getD, h]
theorem tal_inc (P Q : List Int) {p : Int} (h0 : 0 ≤ p) (h1 : p ≤ 400) : (tal P Q).set p.toNat ((tal P Q).getD p.toNat 0 + 1) = tal (p :: P) Q := by
  refine tal_ext (by simp [tal_len]) fun k hk => ?_
  rw [getD_setI _ _ _ _ (by rw [tal_len]; omega)]
  by_cases h : p.toNat = k
  · have hp : p = (k : Int) := by omega
    subst hp
    rw [if_pos h, h, tal_get P Q hk, List.count_cons_self]; omega
  · rw [if_neg h, tal_get P Q hk, List.count_cons_of_ne (by omega)]
theorem tal_dec (P Q : List Int) {p : Int} (h0 : 0 ≤ p) (h1 : p ≤ 400) : (tal P Q).set p.toNat ((tal P Q).getD p.toNat 0 + -1) = tal P (p :: Q) := by
  refine tal_ext (by simp [tal_len]) fun k hk => ?_
  rw [getD_setI _ _ _ _ (by rw [tal_len]; omega)]
  by_cases h : p.toNat = k
  · have hp : p = (k : Int) := by omega
    subst hp
    rw [if_pos h, h, tal_get P Q hk, List.count_cons_self]; omega
  · rw [if_neg h, tal_get P Q hk, List.count_cons_of_ne (by omega)]
def inP (P : List Int) : Bool := P.all fun p => decide (0 ≤ p ∧ p ≤ 400)
theorem inP_cons {p : Int} {r : List Int} (h : inP (p :: r) = true) : (0 ≤ p ∧ p ≤ 400) ∧ inP r = true := by
  unfold inP at h ⊢
  rw [List.all_cons, Bool.and_eq_true] at h
  exact ⟨of_decide_eq_true h.1, h.2⟩
theorem bmp_inc : ∀ (r P Q : List Int), inP r = true → bmp 1 (tal P Q) r = tal (r.reverse ++ P) Q
  | [], _, _, _ => rfl
  | p :: r, P, Q, h => by
    obtain ⟨⟨h0, h1⟩, h2⟩ := inP_cons h
    unfold bmp
    rw [tal_inc P Q h0 h1, bmp_inc r _ _ h2]
    simp
theorem bmp_dec : ∀ (r P Q : List Int), inP r = true → bmp (-1) (tal P Q) r = tal P (r.reverse ++ Q)
  | [], _, _, _ => rfl
  | p :: r, P, Q, h => by
    obtain ⟨⟨h0, h1⟩, h2⟩ := inP_cons h
    unfold bmp
    rw [tal_dec P Q h0 h1, bmp_dec r _ _ h2]
    simp
theorem tal_nil : tal [] [] = List.replicate 401 0 := by decide +kernel
theorem tal_perm {P Q : List Int} (h : List.Perm P Q) : tal P Q = List.replicate 401 0 := by
  rw [← tal_nil]
  refine (tal_ext (by rw [tal_len]) fun k hk => ?_).symm
  rw [tal_get [] [] hk, h.count_eq]
  simp
/-- all tallied and untallied -/
theorem bmp_zero {P Q : List Int} (h : List.Perm P Q) (hP : inP P = true) (hQ : inP Q = true) : bmp (-1) (bmp 1 (List.replicate 401 0) P) Q = List.replicate 401 0 := by
  rw [← tal_nil, bmp_inc P _ _ hP, bmp_dec Q _ _ hQ, List.append_nil, List.append_nil, tal_nil]
  exact tal_perm ((List.reverse_perm P).trans (h.trans (List.reverse_perm Q).symm))
def smA (c : Int) (A : List Int) : Bool := A.all fun a => decide (-c ≤ a ∧ a ≤ c)
theorem smA_get {c : Int} {A : List Int} (hc : 0 ≤ c) (h : smA c A = true) (k : Nat) : -c ≤ A.getD k 0 ∧ A.getD k 0 ≤ c := by
  rcases Nat.lt_or_ge k A.length with hk | hk
  · have : A.getD k 0 = A[k] := by simp [List.getD, hk]
    rw [this]
    exact of_decide_eq_true (List.all_eq_true.1 h _ (List.getElem_mem hk))
  · have : A.getD k 0 = 0 := by simp [List.getD, hk]
    rw [this]; omega
theorem smA_set {c : Int} {A : List Int} (hc : 0 ≤ c) (h : smA c A = true) (k : Nat) {d : Int} (hd : -1 ≤ d ∧ d ≤ 1) : smA (c + 1) (A.set k (A.getD k 0 + d)) = true := by
  refine List.all_eq_true.2 fun a ha => decide_eq_true ?_
  have hk := smA_get hc h k
  rcases List.mem_or_eq_of_mem_set ha with h1 | rfl
  · have := of_decide_eq_true (List.all_eq_true.1 h a h1); omega
  · omega
theorem bmp_len (c : Int) : ∀ (r A : List Int), (bmp c A r).length = A.length
  | [], _ => rfl
  | p :: r, A => by unfold bmp; rw [bmp_len c r]; simp
theorem bmp_sm {d : Int} (hd : -1 ≤ d ∧ d ≤ 1) : ∀ (r A : List Int) (c : Int), 0 ≤ c → smA c A = true → smA (c + r.length) (bmp d A r) = true
  | [], A, c, _, h => by rw [show c + (([] : List Int).length : Int) = c by simp]; exact h
  | p :: r, A, c, hc, h => by
    unfold bmp
    have := bmp_sm hd r _ (c + 1) (by omega) (smA_set hc h p.toNat hd)
    rwa [show c + ((p :: r).length : Int) = c + 1 + r.length by simp; omega]
/-- brackets are symbols -/
theorem symB_of {t : Tok} (h : tokE t.kind t.text = 0) : symB t = true := by
  unfold symB
  cases h3 : decide (t.kind = 3) with
  | true => rfl
  | false =>
    have h3 := of_decide_eq_false h3
    rw [Bool.false_or, Bool.not_eq_true', Bool.or_eq_false_iff, decide_eq_false_iff_not, decide_eq_false_iff_not]
    have key : ∀ x : List UInt8, x = [40] ∨ x = [41] → t.text ≠ x := by
      intro x hx e
      rw [e] at h
      unfold tokE at h
      rw [decide_eq_false h3] at h
      cases h1 : decide (t.kind = 1) with
      | true =>
        rw [h1, cond_true] at h
        rcases hx with rfl | rfl <;> exact absurd h (by decide +kernel)
      | false =>
        cases h2 : decide (t.kind = 2) with
        | true =>
          rw [h1, h2, cond_false, cond_true] at h
          rcases hx with rfl | rfl <;> exact absurd h (by decide +kernel)
        | false => rw [h1, h2] at h; cases h
    exact ⟨key _ (.inl rfl), key _ (.inr rfl)⟩
end Go.Am
