/-
  Texts put together: ExPure, ExParse, ExParse2, ExGood, ExLex, ExPrint, ExPrint2, ExSame, ExText.
-/
import Derived.Test.YtdckpbeioemopabGreatDoorPureA
import Derived.Test.YtdckpbeioemopabGreatDoorLibA
namespace Go.Am
inductive Ex where
  | leaf (k n p : Int)
  | un (k p : Int) (e : Ex)
  | bin (k p : Int) (a b : Ex)
  deriving Inhabited, DecidableEq
def Ex.size : Ex → Nat
  | .leaf .. => 1
  | .un _ _ e => e.size + 1
  | .bin _ _ a b => a.size + b.size + 1
def Ex.depth : Ex → Nat
  | .leaf .. => 1
  | .un _ _ e => e.depth + 1
  | .bin _ _ a b => max a.depth b.depth + 1
def Ex.flat (o : Int) : Ex → List Nod
  | .leaf k n p => [⟨k, n, 0, 0, p⟩]
  | .un k p e => e.flat o ++ [⟨k, 0, o + e.size - 1, 0, p⟩]
  | .bin k p a b => a.flat o ++ (b.flat (o + a.size) ++ [⟨k, 0, o + a.size - 1, o + a.size + b.size - 1, p⟩])
def Ex.ok : Ex → Bool
  | .leaf k n p => decide (1 ≤ k ∧ k ≤ 4 ∧ 0 ≤ n ∧ (k = 1 ∨ n = 0) ∧ 0 ≤ p ∧ p ≤ 400)
  | .un k p e => decide (5 ≤ k ∧ k ≤ 6 ∧ 0 ≤ p ∧ p ≤ 400) && e.ok
  | .bin k p a b => decide (7 ≤ k ∧ k ≤ 19 ∧ 0 ≤ p ∧ p ≤ 400) && (a.ok && b.ok)
theorem Ex.size_pos : ∀ e : Ex, 1 ≤ e.size
  | .leaf .. => Nat.le_refl _
  | .un .. => by simp [Ex.size]
  | .bin .. => by simp [Ex.size]
theorem Ex.depth_pos : ∀ e : Ex, 1 ≤ e.depth
  | .leaf .. => Nat.le_refl _
  | .un .. => by simp [Ex.depth]
  | .bin .. => by simp [Ex.depth]
theorem Ex.flat_len : ∀ (e : Ex) (o : Int), (e.flat o).length = e.size
  | .leaf .., _ => rfl
  | .un _ _ e, o => by simp [Ex.flat, Ex.size, e.flat_len]
  | .bin _ _ a b, o => by simp [Ex.flat, Ex.size, a.flat_len, b.flat_len]; omega
def Ex.top (o : Int) (e : Ex) : Top := ⟨o + e.size - 1, e.size, e.depth⟩
def Ex.tops (o : Int) : Ex → List Top
  | .leaf .. => [⟨o, 1, 1⟩]
  | .un k p e => e.tops o ++ [(Ex.un k p e).top o]
  | .bin k p a b => a.tops o ++ (b.tops (o + a.size) ++ [(Ex.bin k p a b).top o])
theorem topsN_flat : ∀ (e : Ex) (i : Int) (r : List Nod) (S A : List Top), e.ok = true → topsN i (e.flat i ++ r) S A = topsN (i + e.size) r (e.top i :: S) (A ++ e.tops i)
  | .leaf k n p, i, r, S, A, h => by
    have h := of_decide_eq_true h
    show topsN i (⟨k, n, 0, 0, p⟩ :: r) S A = _
    rw [topsN]
    have hs : stepN i ⟨k, n, 0, 0, p⟩ S = some (⟨i, 1, 1⟩, S) := by
      have ho : okN ⟨k, n, 0, 0, p⟩ 0 0 = true := by unfold okN; exact decide_eq_true ⟨rfl, rfl, h.2.2.2.2.1, h.2.2.2.2.2, h.2.2.1, h.2.2.2.1⟩
      unfold stepN knOk
      simp only
      rw [ho, decide_eq_true (show 1 ≤ k by omega), decide_eq_true (show k ≤ 19 by omega), decide_eq_true (show k ≤ 4 by omega)]
      rfl
    rw [hs]
    simp [Ex.size, Ex.top, Ex.tops, Ex.depth]
  | .un k p e, i, r, S, A, h => by
    unfold Ex.ok at h
    rw [Bool.and_eq_true] at h
    have h1 := of_decide_eq_true h.1
    rw [Ex.flat, List.append_assoc, topsN_flat e i _ S A h.2, List.singleton_append, topsN]
    have hs : stepN (i + e.size) ⟨k, 0, i + e.size - 1, 0, p⟩ (e.top i :: S) = some ((Ex.un k p e).top i, S) := by
      have ho : okN ⟨k, 0, i + e.size - 1, 0, p⟩ (e.top i).pos 0 = true := by unfold okN; exact decide_eq_true ⟨rfl, rfl, h1.2.2.1, h1.2.2.2, Int.le_refl _, .inr rfl⟩
      unfold stepN knOk
      simp only
      rw [ho, decide_eq_true (show 1 ≤ k by omega), decide_eq_true (show k ≤ 19 by omega), decide_eq_false (show ¬ k ≤ 4 by omega), decide_eq_true (show k ≤ 6 by omega)]
      simp only [Bool.and_self, cond_true, cond_false, Ex.top, Ex.size, Ex.depth]
      congr 3 <;> omega
    rw [hs]
    simp only [Ex.size, Ex.tops, List.append_assoc]
    congr 1
    omega
  | .bin k p a b, i, r, S, A, h => by
    unfold Ex.ok at h
    rw [Bool.and_eq_true, Bool.and_eq_true] at h
    have h1 := of_decide_eq_true h.1
    rw [Ex.flat, List.append_assoc, List.append_assoc, topsN_flat a i _ S A h.2.1, topsN_flat b _ _ _ _ h.2.2, List.singleton_append, topsN]
    have hs : stepN (i + a.size + b.size) ⟨k, 0, i + a.size - 1, i + a.size + b.size - 1, p⟩ (b.top (i + a.size) :: a.top i :: S) = some ((Ex.bin k p a b).top i, S) := by
      have ho : okN ⟨k, 0, i + a.size - 1, i + a.size + b.size - 1, p⟩ (a.top i).pos (b.top (i + a.size)).pos = true := by unfold okN; exact decide_eq_true ⟨rfl, rfl, h1.2.2.1, h1.2.2.2, Int.le_refl _, .inr rfl⟩
      unfold stepN knOk
      simp only
      rw [ho, decide_eq_true (show 1 ≤ k by omega), decide_eq_true (show k ≤ 19 by omega), decide_eq_false (show ¬ k ≤ 4 by omega), decide_eq_false (show ¬ k ≤ 6 by omega)]
      simp only [Bool.and_self, cond_true, cond_false, Ex.top, Ex.size, Ex.depth]
      congr 3 <;> omega
    rw [hs]
    simp only [Ex.size, Ex.tops, List.append_assoc]
    congr 1
    omega
theorem Ex.tops_last : ∀ (e : Ex) (i : Int), ∃ l, e.tops i = l ++ [e.top i]
  | .leaf .., i => ⟨[], by simp [Ex.tops, Ex.top, Ex.size, Ex.depth]⟩
  | .un k p e, i => ⟨_, rfl⟩
  | .bin k p a b, i => ⟨a.tops i ++ b.tops (i + a.size), by simp [Ex.tops]⟩
def szF : List Ex → Nat
  | [] => 0
  | e :: fs => szF fs + e.size
def flatF : List Ex → List Nod
  | [] => []
  | e :: fs => flatF fs ++ e.flat (szF fs)
def topF : List Ex → List Top
  | [] => []
  | e :: fs => e.top (szF fs) :: topF fs
theorem stepN_forest {x : Nod} {t : Top} {S' : List Top} : ∀ (fs : List Ex), fs.all Ex.ok = true → stepN (szF fs) x (topF fs) = some (t, S') →
    ∃ fs', fs'.all Ex.ok = true ∧ t :: S' = topF fs' ∧ flatF fs' = flatF fs ++ [x] ∧ szF fs' = szF fs + 1 := by
  intro fs hok hs
  unfold stepN at hs
  cases hk : knOk x.kind with
  | false => rw [hk] at hs; cases hs
  | true =>
    rw [hk, cond_true] at hs
    unfold knOk at hk
    simp only [Bool.and_eq_true, decide_eq_true_eq] at hk
    cases h4 : decide (x.kind ≤ 4) with
    | true =>
      rw [h4, cond_true] at hs
      cases ho : okN x 0 0 with
      | false => rw [ho] at hs; cases hs
      | true =>
        rw [ho] at hs
        cases hs
        obtain ⟨o1, o2, o3, o4, o5, o6⟩ := of_decide_eq_true ho
        have h4 := of_decide_eq_true h4
        refine ⟨.leaf x.kind x.n x.pos :: fs, ?_, ?_, ?_, rfl⟩
        · simp only [List.all_cons, Bool.and_eq_true]
          exact ⟨decide_eq_true ⟨hk.1, h4, o5, o6, o3, o4⟩, hok⟩
        · simp only [topF, Ex.top, Ex.size, Ex.depth]
          congr 2
          omega
        · simp only [flatF, Ex.flat]
          congr 2
          cases x; simp_all
    | false =>
      rw [h4, cond_false] at hs
      cases h6 : decide (x.kind ≤ 6) with
      | true =>
        rw [h6, cond_true] at hs
        cases fs with
        | nil => cases hs
        | cons e fs =>
          simp only [topF] at hs
          cases ho : okN x (e.top (szF fs)).pos 0 with
          | false => rw [ho] at hs; cases hs
          | true =>
            rw [ho] at hs
            cases hs
            obtain ⟨o1, o2, o3, o4, o5, o6⟩ := of_decide_eq_true ho
            have h4 := of_decide_eq_false h4
            have h6 := of_decide_eq_true h6
            simp only [List.all_cons, Bool.and_eq_true] at hok
            refine ⟨.un x.kind x.pos e :: fs, ?_, ?_, ?_, rfl⟩
            · simp only [List.all_cons, Bool.and_eq_true]
              exact ⟨by unfold Ex.ok; rw [Bool.and_eq_true]; exact ⟨decide_eq_true ⟨by omega, h6, o3, o4⟩, hok.1⟩, hok.2⟩
            · simp only [topF, Ex.top, Ex.size, Ex.depth, szF]
              congr 2 <;> omega
            · simp only [flatF, Ex.flat, List.append_assoc]
              congr 3
              simp only [Ex.top] at o1
              cases x; simp_all
              omega
      | false =>
        rw [h6, cond_false] at hs
        match fs, hok, hs with
        | [], _, hs => cases hs
        | [_], _, hs => cases hs
        | b :: a :: fs, hok, hs =>
          simp only [topF] at hs
          cases ho : okN x (a.top (szF fs)).pos (b.top (szF (a :: fs))).pos with
          | false => rw [ho] at hs; cases hs
          | true =>
            rw [ho] at hs
            cases hs
            obtain ⟨o1, o2, o3, o4, o5, o6⟩ := of_decide_eq_true ho
            have h6 := of_decide_eq_false h6
            simp only [List.all_cons, Bool.and_eq_true] at hok
            refine ⟨.bin x.kind x.pos a b :: fs, ?_, ?_, ?_, ?_⟩
            · simp only [List.all_cons, Bool.and_eq_true]
              exact ⟨by unfold Ex.ok; rw [Bool.and_eq_true, Bool.and_eq_true]; exact ⟨decide_eq_true ⟨by omega, hk.2, o3, o4⟩, hok.2.1, hok.1⟩, hok.2.2⟩
            · simp only [topF, Ex.top, Ex.size, Ex.depth, szF]
              congr 2 <;> omega
            · simp only [flatF, Ex.flat, List.append_assoc, szF]
              simp only [Ex.top, szF] at o1 o2
              rw [show ((szF fs + a.size : Nat) : Int) = (szF fs : Int) + a.size from by omega]
              congr 4
              cases x; simp_all
              omega
            · simp only [szF, Ex.size]; omega
theorem topsN_forest : ∀ (l : List Nod) (fs : List Ex) (A : List Top), fs.all Ex.ok = true → (topsN (szF fs) l (topF fs) A).2 = true → ∃ e : Ex, e.ok = true ∧ flatF fs ++ l = e.flat 0
  | [], fs, A, hok, h => by
    unfold topsN at h
    have h : (topF fs).length = 1 := of_decide_eq_true h
    match fs, h with
    | [e], _ =>
      simp only [List.all_cons, List.all_nil, Bool.and_true] at hok
      exact ⟨e, hok, by simp [flatF, szF]⟩
  | x :: l, fs, A, hok, h => by
    unfold topsN at h
    cases hs : stepN (szF fs) x (topF fs) with
    | none => rw [hs] at h; cases h
    | some r =>
      obtain ⟨t, S'⟩ := r
      rw [hs] at h
      simp only at h
      obtain ⟨fs', h1, h2, h3, h4⟩ := stepN_forest fs hok hs
      rw [h2, show ((szF fs : Nat) : Int) + 1 = ((szF fs' : Nat) : Int) from by omega] at h
      obtain ⟨e, g1, g2⟩ := topsN_forest l fs' _ h1 h
      exact ⟨e, g1, by rw [← g2, h3]; simp⟩
theorem topsN_whole {e : Ex} (h : e.ok = true) : topsN 0 (e.flat 0) [] [] = (e.tops 0, true) := by
  have := topsN_flat e 0 [] [] [] h
  rw [List.append_nil] at this
  rw [this]
  simp [topsN]
theorem lastT_tops (e : Ex) : lastT (e.tops 0) = e.top 0 := by
  obtain ⟨l, hl⟩ := e.tops_last 0
  rw [hl]
  simp [lastT, List.getD]
theorem chkN_flat {e : Ex} (h : e.ok = true) : chkN (e.flat 0) = bif decide (60 < e.size) then 4 else bif decide (20 < e.depth) then 34 else 0 := by
  unfold chkN
  rw [topsN_whole h, Ex.flat_len, lastT_tops]
  have : decide (20 < (e.top 0).depth) = decide (20 < e.depth) := by
    have hd : (e.top 0).depth = (e.depth : Int) := rfl
    by_cases h : 20 < e.depth
    · rw [decide_eq_true h]; exact decide_eq_true (by rw [hd]; omega)
    · rw [decide_eq_false h]; exact decide_eq_false (by rw [hd]; omega)
  rw [this]
  rfl
theorem chkN_tree {L : List Nod} (h : chkN L = 0) : ∃ e : Ex, e.ok = true ∧ L = e.flat 0 ∧ e.size ≤ 60 ∧ e.depth ≤ 20 := by
  have h0 := h
  unfold chkN at h
  cases h6 : decide (60 < L.length) with
  | true => rw [h6] at h; cases h
  | false =>
    rw [h6, cond_false] at h
    cases ht : (topsN 0 L [] []).2 with
    | false => rw [ht] at h; cases h
    | true =>
      obtain ⟨e, h1, h2⟩ := topsN_forest L [] [] rfl ht
      have h2 : L = e.flat 0 := h2
      subst h2
      rw [chkN_flat h1] at h0
      refine ⟨e, h1, rfl, ?_, ?_⟩
      · have := of_decide_eq_false h6
        rw [Ex.flat_len] at this
        omega
      · cases hs : decide (60 < e.size) with
        | true => rw [hs] at h0; cases h0
        | false =>
          cases hd : decide (20 < e.depth) with
          | true => rw [hs, hd] at h0; cases h0
          | false => have := of_decide_eq_false hd; omega
structure NodAt (i : Int) (x : Nod) : Prop where
  k1 : 1 ≤ x.kind
  k2 : x.kind ≤ 19
  n0 : 0 ≤ x.n
  nk : x.kind = 1 ∨ x.n = 0
  p0 : 0 ≤ x.pos
  p1 : x.pos ≤ 400
  a0 : 0 ≤ x.a
  b0 : 0 ≤ x.b
  az : x.kind ≤ 4 → x.a = 0
  bz : x.kind ≤ 6 → x.b = 0
  ai : 4 < x.kind → x.a < i
  bi : 6 < x.kind → x.b < i
theorem chk_len {L : List Nod} (h : chkN L = 0) : 1 ≤ L.length ∧ L.length ≤ 60 := by
  obtain ⟨e, h1, rfl, h2, _⟩ := chkN_tree h
  rw [Ex.flat_len]
  exact ⟨e.size_pos, h2⟩
end Go.Am
namespace Go.Am
inductive PR where
  | ok (e : Ex) (r : List Tok)
  | bad (err : Int) (n : Nat)
  | out
def notT : List UInt8 := [110, 111, 116]
def opK (t : List UInt8) : Int :=
  bif decide (t = [42]) then 7 else bif decide (t = [43]) then 8 else bif decide (t = [45]) then 9 else bif decide (t = [60, 60]) then 10 else bif decide (t = [62, 62]) then 11 else bif decide (t = [60]) then 12 else
  bif decide (t = [60, 61]) then 13 else bif decide (t = [62]) then 14 else bif decide (t = [62, 61]) then 15 else bif decide (t = [61]) then 16 else bif decide (t = [33, 61]) then 17 else bif decide (t = [97, 110, 100]) then 18 else
  bif decide (t = [111, 114]) then 19 else 0
def bnd (k : Int) : Nat := bif decide (k = 7) then 6 else bif decide (k ≤ 9) then 5 else bif decide (k ≤ 11) then 4 else bif decide (k ≤ 17) then 3 else bif decide (k = 18) then 2 else 1
def fldK (t : List UInt8) : Int := bif decide (t = [107]) then 2 else bif decide (t = [116]) then 3 else bif decide (t = [118]) then 4 else 0
def Tok.is (s : List UInt8) (t : Tok) : Bool := !decide (t.kind = 1) && decide (t.text = s)
def Tok.op (t : Tok) : Bool := !decide (t.kind = 1) && !decide (opK t.text = 0)
def node1 (e : Ex) (n : Nat) (r : List Tok) : PR := bif decide (60 < e.size) then .bad 4 n else bif decide (20 < e.depth) then .bad 34 n else .ok e r
def shutP (e : Ex) : List Tok → PR
  | [] => .bad 12 0
  | c :: q => bif c.is [41] then .ok e q else .bad 12 (q.length + 1)
def PR.then (x : PR) (f : Ex → List Tok → PR) : PR := match x with
  | .ok e r => f e r
  | y => y
def pPrim (rec : Nat → List Tok → PR) : List Tok → PR
  | [] => .bad 12 0
  | t :: q => bif decide (t.kind = 1) then .ok (.leaf 1 (rdN t.text) t.pos) q
    else bif !decide (fldK t.text = 0) then .ok (.leaf (fldK t.text) 0 t.pos) q
    else bif decide (t.text = [40]) then (rec 1 q).then shutP
    else .bad 12 (q.length + 1)
def sgnN (s : List UInt8) : List Tok → Nat
  | [] => 0
  | t :: q => bif t.is s then sgnN s q + 1 else 0
def unW (k : Int) : Nat → List Tok → PR → PR
  | 0, _, x => x
  | m + 1, t :: q, x => (unW k m q x).then fun e r => node1 (.un k t.pos e) (q.length + 1) r
  | _ + 1, [], x => x
def pFront (rec : Nat → List Tok → PR) (s : Nat) (r : List Tok) : PR :=
  bif decide (s ≤ 2) then unW 6 (sgnN notT r) r (rec 3 (r.drop (sgnN notT r))) else unW 5 (sgnN [45] r) r (pPrim rec (r.drop (sgnN [45] r)))
def pOp (rec : Nat → List Tok → PR) (s : Nat) (r : List Tok) : PR := bif decide (s = 2 ∨ s = 6) then pFront rec s r else rec (s + 1) r
def pLoop (rec : Nat → List Tok → PR) (s : Nat) : Nat → Ex → List Tok → PR
  | 0, _, _ => .out
  | _ + 1, l, [] => .ok l []
  | m + 1, l, t :: q => bif t.op && decide (bnd (opK t.text) = s) then
      (pOp rec s q).then fun e q' => (node1 (.bin (opK t.text) t.pos l e) (q.length + 1) q').then fun l' q' => bif decide (s = 3) then .ok l' q' else pLoop rec s m l' q'
    else .ok l (t :: q)
def pE : Nat → Nat → List Tok → PR
  | 0, _, _ => .out
  | n + 1, s, r => (pOp (pE n) s r).then fun l r' => pLoop (pE n) s (r'.length + 1) l r'
inductive Lv where
  | P
  | O (s : Nat)
  | E (s : Nat)
inductive Gr : Lv → Ex → List Tok → Prop
  | num (t : Tok) : t.kind = 1 → Gr .P (.leaf 1 (rdN t.text) t.pos) [t]
  | fld (t : Tok) : t.kind ≠ 1 → fldK t.text ≠ 0 → Gr .P (.leaf (fldK t.text) 0 t.pos) [t]
  | par (o c : Tok) (e : Ex) (ts : List Tok) : o.is [40] = true → c.is [41] = true → Gr (.E 1) e ts → Gr .P e (o :: (ts ++ [c]))
  | neg (t : Tok) (e : Ex) (ts : List Tok) : t.is [45] = true → Gr (.O 6) e ts → Gr (.O 6) (.un 5 t.pos e) (t :: ts)
  | pos (e : Ex) (ts : List Tok) : Gr .P e ts → Gr (.O 6) e ts
  | inv (t : Tok) (e : Ex) (ts : List Tok) : t.is notT = true → Gr (.O 2) e ts → Gr (.O 2) (.un 6 t.pos e) (t :: ts)
  | pos2 (e : Ex) (ts : List Tok) : Gr (.E 3) e ts → Gr (.O 2) e ts
  | up (s : Nat) (e : Ex) (ts : List Tok) : s = 1 ∨ s = 3 ∨ s = 4 ∨ s = 5 → Gr (.E (s + 1)) e ts → Gr (.O s) e ts
  | one (s : Nat) (e : Ex) (ts : List Tok) : Gr (.O s) e ts → Gr (.E s) e ts
  | bin (s : Nat) (t : Tok) (a b : Ex) (xs ys : List Tok) : s ≠ 3 → t.op = true → bnd (opK t.text) = s → Gr (.E s) a xs → Gr (.O s) b ys → Gr (.E s) (.bin (opK t.text) t.pos a b) (xs ++ t :: ys)
  | cmp (t : Tok) (a b : Ex) (xs ys : List Tok) : t.op = true → bnd (opK t.text) = 3 → Gr (.O 3) a xs → Gr (.O 3) b ys → Gr (.E 3) (.bin (opK t.text) t.pos a b) (xs ++ t :: ys)
def stopB (n : Nat) : List Tok → Bool
  | [] => true
  | t :: _ => !(t.op && decide (n ≤ bnd (opK t.text)))
theorem pPrim_cons (rec : Nat → List Tok → PR) (t : Tok) (q : List Tok) : pPrim rec (t :: q) = bif decide (t.kind = 1) then .ok (.leaf 1 (rdN t.text) t.pos) q
    else bif !decide (fldK t.text = 0) then .ok (.leaf (fldK t.text) 0 t.pos) q else bif decide (t.text = [40]) then (rec 1 q).then shutP else .bad 12 (q.length + 1) := rfl
theorem shut_cons (e : Ex) (c : Tok) (q : List Tok) : shutP e (c :: q) = bif c.is [41] then .ok e q else .bad 12 (q.length + 1) := rfl
theorem pLoop_cons (rec : Nat → List Tok → PR) (s m : Nat) (l : Ex) (t : Tok) (q : List Tok) : pLoop rec s (m + 1) l (t :: q) = bif t.op && decide (bnd (opK t.text) = s) then
      (pOp rec s q).then fun e q' => (node1 (.bin (opK t.text) t.pos l e) (q.length + 1) q').then fun l' q' => bif decide (s = 3) then .ok l' q' else pLoop rec s m l' q'
    else .ok l (t :: q) := rfl
theorem stop_cons (n : Nat) (t : Tok) (r : List Tok) : stopB n (t :: r) = !(t.op && decide (n ≤ bnd (opK t.text))) := rfl
theorem pOp_6 (rec : Nat → List Tok → PR) (r : List Tok) : pOp rec 6 r = unW 5 (sgnN [45] r) r (pPrim rec (r.drop (sgnN [45] r))) := rfl
theorem pOp_2 (rec : Nat → List Tok → PR) (r : List Tok) : pOp rec 2 r = unW 6 (sgnN notT r) r (rec 3 (r.drop (sgnN notT r))) := rfl
theorem stop_mono {n m : Nat} (h : n ≤ m) : ∀ {r : List Tok}, stopB n r = true → stopB m r = true
  | [], _ => rfl
  | t :: r, hr => by
    rw [stop_cons] at hr ⊢
    cases ho : t.op with
    | false => rfl
    | true =>
      rw [ho, Bool.true_and, Bool.not_eq_true', decide_eq_false_iff_not] at hr
      rw [Bool.true_and, decide_eq_false (by omega)]; rfl
theorem pLoop_stop {rec : Nat → List Tok → PR} {s m : Nat} {e : Ex} : ∀ {r : List Tok}, stopB s r = true → r.length < m → pLoop rec s m e r = .ok e r
  | [], _, hm => by
    cases m with
    | zero => omega
    | succ m => rfl
  | t :: r, h, hm => by
    cases m with
    | zero => omega
    | succ m =>
      unfold pLoop
      rw [stop_cons] at h
      cases ho : t.op with
      | false => rfl
      | true =>
        rw [ho, Bool.true_and, Bool.not_eq_true', decide_eq_false_iff_not] at h
        rw [Bool.true_and, decide_eq_false (by omega)]; rfl
def hdOk : Lv → Tok → Bool
  | .P, t => !t.is [45] && !t.is notT
  | .O s, t => !decide (3 ≤ s) || !t.is notT
  | .E s, t => !decide (3 ≤ s) || !t.is notT
theorem is_ne {s u : List UInt8} (h : s ≠ u) {t : Tok} (ht : t.is s = true) : t.is u = false := by
  unfold Tok.is at ht ⊢
  rw [Bool.and_eq_true] at ht
  have := of_decide_eq_true ht.2
  rw [this, decide_eq_false h, Bool.and_false]
theorem gr_hd : ∀ {lv : Lv} {e : Ex} {ts : List Tok}, Gr lv e ts → ∃ t q, ts = t :: q ∧ hdOk lv t = true := by
  intro lv e ts h
  induction h with
  | num t h => exact ⟨t, [], rfl, by simp [hdOk, Tok.is, h]⟩
  | fld t h hf =>
    refine ⟨t, [], rfl, ?_⟩
    have h1 : t.text ≠ [45] := fun e => hf (by rw [e]; rfl)
    have h2 : t.text ≠ notT := fun e => hf (by rw [e]; rfl)
    simp [hdOk, Tok.is, h1, h2]
  | par o c e ts ho hc _ _ => exact ⟨o, _, rfl, by simp [hdOk, is_ne (s := [40]) (u := [45]) (by decide) ho, is_ne (s := [40]) (u := notT) (by decide) ho]⟩
  | neg t e ts ht _ _ => exact ⟨t, ts, rfl, by simp [hdOk, is_ne (s := [45]) (u := notT) (by decide) ht]⟩
  | pos e ts _ ih =>
    obtain ⟨t, q, h1, h2⟩ := ih
    refine ⟨t, q, h1, ?_⟩
    simp only [hdOk, Bool.and_eq_true] at h2 ⊢
    rw [h2.2]; rfl
  | inv t e ts ht _ _ => exact ⟨t, ts, rfl, rfl⟩
  | pos2 e ts _ ih =>
    obtain ⟨t, q, h1, _⟩ := ih
    exact ⟨t, q, h1, rfl⟩
  | up s e ts hs _ ih =>
    obtain ⟨t, q, h1, h2⟩ := ih
    refine ⟨t, q, h1, ?_⟩
    simp only [hdOk] at h2 ⊢
    rcases hs with rfl | rfl | rfl | rfl
    · rfl
    · exact h2
    · exact h2
    · exact h2
  | one s e ts _ ih => exact ih
  | bin s t a b xs ys _ _ _ _ _ ih _ =>
    obtain ⟨t', q, h1, h2⟩ := ih
    exact ⟨t', q ++ t :: ys, by rw [h1]; rfl, h2⟩
  | cmp t a b xs ys _ _ _ _ ih _ =>
    obtain ⟨t', q, h1, h2⟩ := ih
    exact ⟨t', q ++ t :: ys, by rw [h1]; rfl, h2⟩
theorem gr_pos {lv : Lv} {e : Ex} {ts : List Tok} (h : Gr lv e ts) : 0 < ts.length := by
  obtain ⟨t, q, rfl, _⟩ := gr_hd h
  simp
theorem node1_ok {e : Ex} (h1 : e.size ≤ 60) (h2 : e.depth ≤ 20) (n : Nat) (r : List Tok) : node1 e n r = .ok e r := by
  unfold node1
  rw [decide_eq_false (by omega), decide_eq_false (by omega)]; rfl
def Cpl : Lv → Ex → List Tok → Prop
  | .P, e, ts => ∃ N, ∀ n, N ≤ n → ∀ rest, pPrim (pE n) (ts ++ rest) = .ok e rest
  | .O s, e, ts => ∃ N, ∀ n, N ≤ n → ∀ rest, stopB (s + 1) rest = true → pOp (pE n) s (ts ++ rest) = .ok e rest
  | .E s, e, ts => ∃ N, ∀ n, N ≤ n → ∀ rest, stopB (s + 1) rest = true → (∃ m, rest.length < m ∧ pE (n + 1) s (ts ++ rest) = pLoop (pE n) s m e rest) ∨ (s = 3 ∧ pE (n + 1) s (ts ++ rest) = .ok e rest)
theorem Cpl.e {s : Nat} {e : Ex} {ts : List Tok} (h : Cpl (.E s) e ts) : ∃ N, ∀ n, N ≤ n → ∀ rest, stopB s rest = true → pE n s (ts ++ rest) = .ok e rest := by
  obtain ⟨N, h⟩ := h
  refine ⟨N + 1, fun n hn rest hr => ?_⟩
  obtain ⟨k, rfl⟩ : ∃ k, n = k + 1 := ⟨n - 1, by omega⟩
  rcases h k (by omega) rest (stop_mono (by omega) hr) with ⟨m, h1, h2⟩ | ⟨_, h2⟩
  · rw [h2, pLoop_stop hr h1]
  · exact h2
theorem gr_complete : ∀ {lv : Lv} {e : Ex} {ts : List Tok}, Gr lv e ts → e.size ≤ 60 → e.depth ≤ 20 → Cpl lv e ts := by
  intro lv e ts h
  induction h with
  | num t h =>
    intro _ _
    exact ⟨0, fun n _ rest => by simp [pPrim, h]⟩
  | fld t h hf =>
    intro _ _
    exact ⟨0, fun n _ rest => by simp [pPrim, h, hf]⟩
  | par o c e ts ho hc _ ih =>
    intro h1 h2
    obtain ⟨N, hN⟩ := (ih h1 h2).e
    refine ⟨N, fun n hn rest => ?_⟩
    unfold Tok.is at ho
    simp only [Bool.and_eq_true, Bool.not_eq_true', decide_eq_false_iff_not, decide_eq_true_eq] at ho
    have hs : stopB 1 (c :: rest) = true := by
      rw [stop_cons]
      unfold Tok.op
      have hc' := hc
      unfold Tok.is at hc'
      simp only [Bool.and_eq_true, decide_eq_true_eq] at hc'
      rw [hc'.2]; simp [opK]
    have := hN n hn (c :: rest) hs
    have e1 : o :: (ts ++ [c]) ++ rest = o :: (ts ++ c :: rest) := by simp
    rw [e1, pPrim, decide_eq_false ho.1, ho.2, this]
    simp only [PR.then, shutP, hc]
    rfl
  | neg t e ts ht _ ih =>
    intro h1 h2
    simp only [Ex.size, Ex.depth] at h1 h2
    obtain ⟨N, hN⟩ := ih (by omega) (by omega)
    refine ⟨N, fun n hn rest hr => ?_⟩
    have := hN n hn rest hr
    rw [pOp_6] at this ⊢
    rw [List.cons_append]
    have hsg : sgnN [45] (t :: (ts ++ rest)) = sgnN [45] (ts ++ rest) + 1 := by rw [sgnN, ht]; rfl
    rw [hsg, List.drop_succ_cons, unW, this]
    exact node1_ok (by simp only [Ex.size]; omega) (by simp only [Ex.depth]; omega) _ _
  | pos e ts hg ih =>
    intro h1 h2
    obtain ⟨N, hN⟩ := ih h1 h2
    refine ⟨N, fun n hn rest _ => ?_⟩
    obtain ⟨t, q, h3, h4⟩ := gr_hd hg
    simp only [hdOk, Bool.and_eq_true, Bool.not_eq_true'] at h4
    have hsg : sgnN [45] (ts ++ rest) = 0 := by rw [h3, List.cons_append, sgnN, h4.1]; rfl
    rw [pOp_6, hsg, List.drop_zero, unW]
    exact hN n hn rest
  | inv t e ts ht _ ih =>
    intro h1 h2
    simp only [Ex.size, Ex.depth] at h1 h2
    obtain ⟨N, hN⟩ := ih (by omega) (by omega)
    refine ⟨N, fun n hn rest hr => ?_⟩
    have := hN n hn rest hr
    rw [pOp_2] at this ⊢
    rw [List.cons_append]
    have hsg : sgnN notT (t :: (ts ++ rest)) = sgnN notT (ts ++ rest) + 1 := by rw [sgnN, ht]; rfl
    rw [hsg, List.drop_succ_cons, unW, this]
    exact node1_ok (by simp only [Ex.size]; omega) (by simp only [Ex.depth]; omega) _ _
  | pos2 e ts hg ih =>
    intro h1 h2
    obtain ⟨N, hN⟩ := (ih h1 h2).e
    refine ⟨N, fun n hn rest hr => ?_⟩
    obtain ⟨t, q, h3, h4⟩ := gr_hd hg
    simp only [hdOk, show decide (3 ≤ 3) = true from rfl, Bool.not_true, Bool.false_or, Bool.not_eq_true'] at h4
    have hsg : sgnN notT (ts ++ rest) = 0 := by rw [h3, List.cons_append, sgnN, h4]; rfl
    rw [pOp_2, hsg, List.drop_zero, unW]
    exact hN n hn rest hr
  | up s e ts hs _ ih =>
    intro h1 h2
    obtain ⟨N, hN⟩ := (ih h1 h2).e
    refine ⟨N, fun n hn rest hr => ?_⟩
    unfold pOp
    rw [decide_eq_false (by omega)]
    exact hN n hn rest hr
  | one s e ts _ ih =>
    intro h1 h2
    obtain ⟨N, hN⟩ := ih h1 h2
    refine ⟨N, fun n hn rest hr => .inl ⟨rest.length + 1, by omega, ?_⟩⟩
    rw [pE, hN n hn rest hr]; rfl
  | bin s t a b xs ys hs ht hb _ _ iha ihb =>
    intro h1 h2
    simp only [Ex.size, Ex.depth] at h1 h2
    obtain ⟨N, hN⟩ := iha (by omega) (by omega)
    obtain ⟨M, hM⟩ := ihb (by omega) (by omega)
    refine ⟨N + M, fun n hn rest hr => .inl ?_⟩
    have hst : stopB (s + 1) (t :: (ys ++ rest)) = true := by rw [stop_cons, ht, hb, decide_eq_false (by omega)]; rfl
    rcases hN n (by omega) (t :: (ys ++ rest)) hst with ⟨m, g1, g2⟩ | ⟨g1, _⟩
    · obtain ⟨k, rfl⟩ : ∃ k, m = k + 1 := ⟨m - 1, by omega⟩
      refine ⟨k, by simp at g1; omega, ?_⟩
      rw [List.append_assoc, List.cons_append, g2, pLoop, ht, hb, decide_eq_true rfl, Bool.true_and, cond_true, hM n (by omega) rest hr]
      simp only [PR.then]
      rw [node1_ok (by simp only [Ex.size]; omega) (by simp only [Ex.depth]; omega)]
      simp only
      rw [decide_eq_false hs]; rfl
    · exact (hs g1).elim
  | cmp t a b xs ys ht hb _ _ iha ihb =>
    intro h1 h2
    simp only [Ex.size, Ex.depth] at h1 h2
    obtain ⟨N, hN⟩ := iha (by omega) (by omega)
    obtain ⟨M, hM⟩ := ihb (by omega) (by omega)
    refine ⟨N + M, fun n hn rest hr => .inr ⟨rfl, ?_⟩⟩
    have hst : stopB (3 + 1) (t :: (ys ++ rest)) = true := by rw [stop_cons, ht, hb, decide_eq_false (by omega)]; rfl
    rw [List.append_assoc, List.cons_append, pE, hN n (by omega) (t :: (ys ++ rest)) hst]
    simp only [PR.then]
    rw [pLoop, ht, hb, decide_eq_true rfl, Bool.true_and, cond_true, hM n (by omega) rest hr]
    simp only [PR.then]
    rw [node1_ok (by simp only [Ex.size]; omega) (by simp only [Ex.depth]; omega)]
    rfl
end Go.Am
namespace Go.Am
structure Snd (lv : Lv) (e : Ex) (r r' : List Tok) : Prop where
  of : ∃ p, r = p ++ r' ∧ Gr lv e p
  size : e.size ≤ 60
  depth : e.depth ≤ 20
theorem then_ok {x : PR} {f : Ex → List Tok → PR} {e : Ex} {r : List Tok} (h : x.then f = .ok e r) : ∃ e0 r0, x = .ok e0 r0 ∧ f e0 r0 = .ok e r := by
  cases x with
  | ok e0 r0 => exact ⟨e0, r0, rfl, h⟩
  | bad => cases h
  | out => cases h
theorem node1_inv {e e' : Ex} {n : Nat} {r r' : List Tok} (h : node1 e n r = .ok e' r') : e' = e ∧ r' = r ∧ e.size ≤ 60 ∧ e.depth ≤ 20 := by
  unfold node1 at h
  cases h1 : decide (60 < e.size) with
  | true => rw [h1] at h; cases h
  | false =>
    cases h2 : decide (20 < e.depth) with
    | true => rw [h1, h2] at h; cases h
    | false =>
      rw [h1, h2] at h
      cases h
      have := of_decide_eq_false h1
      have := of_decide_eq_false h2
      exact ⟨rfl, rfl, by omega, by omega⟩
theorem prim_sound {rec : Nat → List Tok → PR} (hrec : ∀ s r e r', rec s r = .ok e r' → 1 ≤ s → s ≤ 6 → Snd (.E s) e r r') {r : List Tok} {e : Ex} {r' : List Tok} (h : pPrim rec r = .ok e r') : Snd .P e r r' := by
  cases r with
  | nil => cases h
  | cons t q =>
    rw [pPrim_cons] at h
    cases h1 : decide (t.kind = 1) with
    | true =>
      rw [h1] at h
      cases h
      exact ⟨⟨[t], rfl, .num t (of_decide_eq_true h1)⟩, by simp [Ex.size], by simp [Ex.depth]⟩
    | false =>
      rw [h1, cond_false] at h
      have h1 := of_decide_eq_false h1
      cases h2 : decide (fldK t.text = 0) with
      | false =>
        rw [h2] at h
        cases h
        exact ⟨⟨[t], rfl, .fld t h1 (of_decide_eq_false h2)⟩, by simp [Ex.size], by simp [Ex.depth]⟩
      | true =>
        rw [h2, Bool.not_true, cond_false] at h
        cases h3 : decide (t.text = [40]) with
        | false => rw [h3] at h; cases h
        | true =>
          rw [h3, cond_true] at h
          obtain ⟨e0, r0, h4, h5⟩ := then_ok h
          obtain ⟨⟨p, hp, hg⟩, hs, hd⟩ := hrec 1 q e0 r0 h4 (by omega) (by omega)
          cases r0 with
          | nil => cases h5
          | cons c r0 =>
            rw [shut_cons] at h5
            cases hc : c.is [41] with
            | false => rw [hc] at h5; cases h5
            | true =>
              rw [hc] at h5
              cases h5
              refine ⟨⟨t :: (p ++ [c]), by rw [hp]; simp, .par t c e p ?_ hc hg⟩, hs, hd⟩
              unfold Tok.is
              rw [decide_eq_false h1, h3]; rfl
theorem unW_sound {lv : Lv} {k : Int} {s : List UInt8} (hw : ∀ (t : Tok) e p, t.is s = true → Gr lv e p → Gr lv (.un k t.pos e) (t :: p)) : ∀ (r : List Tok) (x : PR) (e : Ex) (r' : List Tok),
    (∀ e0 r0, x = .ok e0 r0 → Snd lv e0 (r.drop (sgnN s r)) r0) → unW k (sgnN s r) r x = .ok e r' → Snd lv e r r'
  | [], x, e, r', hx, h => by
    have h : x = .ok e r' := h
    exact hx e r' h
  | t :: q, x, e, r', hx, h => by
    cases ht : t.is s with
    | false =>
      have hs : sgnN s (t :: q) = 0 := by rw [sgnN, ht]; rfl
      rw [hs] at h hx
      have h : x = .ok e r' := h
      exact hx e r' h
    | true =>
      have hs : sgnN s (t :: q) = sgnN s q + 1 := by rw [sgnN, ht]; rfl
      rw [hs] at h hx
      unfold unW at h
      obtain ⟨e0, r0, h1, h2⟩ := then_ok h
      obtain ⟨rfl, rfl, g1, g2⟩ := node1_inv h2
      obtain ⟨⟨p, hp, hg⟩, _, _⟩ := unW_sound hw q x e0 r' (fun e1 r1 h => hx e1 r1 h) h1
      exact ⟨⟨t :: p, by rw [hp]; rfl, hw t e0 p ht hg⟩, g1, g2⟩
theorem op_sound {rec : Nat → List Tok → PR} (hrec : ∀ s r e r', rec s r = .ok e r' → 1 ≤ s → s ≤ 6 → Snd (.E s) e r r') {s : Nat} (h1 : 1 ≤ s) (h6 : s ≤ 6) {r : List Tok} {e : Ex} {r' : List Tok} (h : pOp rec s r = .ok e r') : Snd (.O s) e r r' := by
  unfold pOp at h
  by_cases hs : s = 2 ∨ s = 6
  · rw [decide_eq_true hs, cond_true] at h
    unfold pFront at h
    rcases hs with rfl | rfl
    · rw [decide_eq_true (show 2 ≤ 2 by omega), cond_true] at h
      refine unW_sound (fun t e p ht hg => .inv t e p ht hg) r _ e r' (fun e0 r0 h0 => ?_) h
      obtain ⟨⟨p, hp, hg⟩, g1, g2⟩ := hrec 3 _ _ _ h0 (by omega) (by omega)
      exact ⟨⟨p, hp, .pos2 _ _ hg⟩, g1, g2⟩
    · rw [decide_eq_false (show ¬ 6 ≤ 2 by omega), cond_false] at h
      refine unW_sound (fun t e p ht hg => .neg t e p ht hg) r _ e r' (fun e0 r0 h0 => ?_) h
      obtain ⟨⟨p, hp, hg⟩, g1, g2⟩ := prim_sound hrec h0
      exact ⟨⟨p, hp, .pos _ _ hg⟩, g1, g2⟩
  · rw [decide_eq_false hs, cond_false] at h
    obtain ⟨⟨p, hp, hg⟩, g1, g2⟩ := hrec (s + 1) _ _ _ h (by omega) (by omega)
    exact ⟨⟨p, hp, .up s e p (by omega) hg⟩, g1, g2⟩
theorem loop_sound {rec : Nat → List Tok → PR} (hrec : ∀ s r e r', rec s r = .ok e r' → 1 ≤ s → s ≤ 6 → Snd (.E s) e r r') {s : Nat} (h1 : 1 ≤ s) (h6 : s ≤ 6) : ∀ (m : Nat) (l : Ex) (pre r : List Tok) (e : Ex) (r' : List Tok),
    Gr (.E s) l pre → (s = 3 → Gr (.O 3) l pre) → l.size ≤ 60 → l.depth ≤ 20 → pLoop rec s m l r = .ok e r' → ∃ q, r = q ++ r' ∧ Gr (.E s) e (pre ++ q) ∧ e.size ≤ 60 ∧ e.depth ≤ 20
  | 0, _, _, _, _, _, _, _, _, _, h => by cases h
  | m + 1, l, pre, [], e, r', hg, _, hs, hd, h => by
    cases h
    exact ⟨[], rfl, by simpa using hg, hs, hd⟩
  | m + 1, l, pre, t :: q, e, r', hg, h3, hs, hd, h => by
    rw [pLoop_cons] at h
    cases hc : (t.op && decide (bnd (opK t.text) = s)) with
    | false =>
      rw [hc] at h
      cases h
      exact ⟨[], rfl, by simpa using hg, hs, hd⟩
    | true =>
      rw [hc, cond_true] at h
      rw [Bool.and_eq_true, decide_eq_true_eq] at hc
      obtain ⟨e0, r0, g1, g2⟩ := then_ok h
      obtain ⟨⟨p, hp, hg0⟩, _, _⟩ := op_sound hrec h1 h6 g1
      obtain ⟨e1, r1, g3, g4⟩ := then_ok g2
      obtain ⟨rfl, rfl, k1, k2⟩ := node1_inv g3
      by_cases hs3 : s = 3
      · subst hs3
        rw [decide_eq_true rfl, cond_true] at g4
        cases g4
        exact ⟨t :: p, by rw [hp]; rfl, .cmp t l e0 pre p hc.1 hc.2 (h3 rfl) hg0, k1, k2⟩
      · rw [decide_eq_false hs3, cond_false] at g4
        obtain ⟨q2, hq2, hg2, k3, k4⟩ := loop_sound hrec h1 h6 m _ (pre ++ t :: p) r1 e r' (.bin s t l e0 pre p hs3 hc.1 hc.2 hg hg0) (fun h => (hs3 h).elim) k1 k2 g4
        exact ⟨t :: p ++ q2, by rw [hp, hq2]; simp, by simpa using hg2, k3, k4⟩
theorem pE_sound : ∀ (n s : Nat) (r : List Tok) (e : Ex) (r' : List Tok), pE n s r = .ok e r' → 1 ≤ s → s ≤ 6 → Snd (.E s) e r r'
  | 0, _, _, _, _, h, _, _ => by cases h
  | n + 1, s, r, e, r', h, h1, h6 => by
    unfold pE at h
    obtain ⟨e0, r0, g1, g2⟩ := then_ok h
    have hrec := fun s r e r' => pE_sound n s r e r'
    obtain ⟨⟨p, hp, hg⟩, k1, k2⟩ := op_sound hrec h1 h6 g1
    obtain ⟨q, hq, hg2, k3, k4⟩ := loop_sound hrec h1 h6 _ e0 p r0 e r' (.one s _ _ hg) (fun h => h ▸ hg) k1 k2 g2
    exact ⟨⟨p ++ q, by rw [hp, hq]; simp, hg2⟩, k3, k4⟩
theorem Snd.less {lv : Lv} {e : Ex} {r r' : List Tok} (h : Snd lv e r r') : r'.length < r.length := by
  obtain ⟨p, hp, hg⟩ := h.of
  have := gr_pos hg
  rw [hp, List.length_append]; omega
theorem then_in {x : PR} {f : Ex → List Tok → PR} (hx : x ≠ .out) (hf : ∀ e r, x = .ok e r → f e r ≠ .out) : x.then f ≠ .out := by
  cases x with
  | ok e r => exact hf e r rfl
  | bad => intro h; cases h
  | out => exact (hx rfl).elim
theorem node1_in (e : Ex) (n : Nat) (r : List Tok) : node1 e n r ≠ .out := by
  unfold node1
  cases decide (60 < e.size) <;> cases decide (20 < e.depth) <;> intro h <;> cases h
theorem shut_in (e : Ex) (r : List Tok) : shutP e r ≠ .out := by
  cases r with
  | nil => intro h; cases h
  | cons c q =>
    rw [shut_cons]
    cases c.is [41] <;> intro h <;> cases h
theorem unW_in (k : Int) : ∀ (m : Nat) (r : List Tok) (x : PR), x ≠ .out → unW k m r x ≠ .out
  | 0, _, _, hx => hx
  | _ + 1, [], _, hx => hx
  | m + 1, _ :: q, x, hx => then_in (unW_in k m q x hx) fun _ _ _ => node1_in _ _ _
theorem prim_in {rec : Nat → List Tok → PR} {r : List Tok} (hrec : ∀ q : List Tok, q.length < r.length → rec 1 q ≠ .out) : pPrim rec r ≠ .out := by
  cases r with
  | nil => intro h; cases h
  | cons t q =>
    rw [pPrim_cons]
    cases decide (t.kind = 1) with
    | true => intro h; cases h
    | false =>
      cases decide (fldK t.text = 0) with
      | false => intro h; cases h
      | true =>
        cases decide (t.text = [40]) with
        | false => intro h; cases h
        | true => exact then_in (hrec q (by simp)) fun e r _ => shut_in e r
theorem op_in {n : Nat} (hn : ∀ s r, 1 ≤ s → s ≤ 6 → 7 * r.length + 8 ≤ n + s → pE n s r ≠ .out) {s : Nat} (h1 : 1 ≤ s) (h6 : s ≤ 6) {r : List Tok} (hb : 7 * r.length + 8 ≤ n + 1 + s) : pOp (pE n) s r ≠ .out := by
  unfold pOp
  by_cases hs : s = 2 ∨ s = 6
  · rw [decide_eq_true hs, cond_true]
    unfold pFront
    rcases hs with rfl | rfl
    · rw [decide_eq_true (show 2 ≤ 2 by omega), cond_true]
      refine unW_in _ _ _ _ (hn 3 _ (by omega) (by omega) ?_)
      rw [List.length_drop]; omega
    · rw [decide_eq_false (show ¬ 6 ≤ 2 by omega), cond_false]
      refine unW_in _ _ _ _ (prim_in fun q hq => hn 1 q (by omega) (by omega) ?_)
      rw [List.length_drop] at hq; omega
  · rw [decide_eq_false hs, cond_false]
    exact hn (s + 1) r (by omega) (by omega) (by omega)
theorem loop_in {n : Nat} (hn : ∀ s r, 1 ≤ s → s ≤ 6 → 7 * r.length + 8 ≤ n + s → pE n s r ≠ .out) {s : Nat} (h1 : 1 ≤ s) (h6 : s ≤ 6) : ∀ (m : Nat) (l : Ex) (r : List Tok), r.length < m → 7 * r.length + 8 ≤ n + 1 + s → pLoop (pE n) s m l r ≠ .out
  | 0, _, _, hm, _ => by omega
  | m + 1, l, [], _, _ => by intro h; cases h
  | m + 1, l, t :: q, hm, hb => by
    rw [pLoop_cons]
    simp only [List.length_cons] at hm hb
    cases (t.op && decide (bnd (opK t.text) = s)) with
    | false => intro h; cases h
    | true =>
      refine then_in (op_in hn h1 h6 (by omega)) fun e q' hq => then_in (node1_in _ _ _) fun l' q2 h2 => ?_
      obtain ⟨rfl, rfl, _, _⟩ := node1_inv h2
      have hl := (op_sound (fun s r e r' => pE_sound n s r e r') h1 h6 hq).less
      cases decide (s = 3) with
      | true => intro h; cases h
      | false => exact loop_in hn h1 h6 m _ q2 (by omega) (by omega)
theorem pE_in : ∀ (n s : Nat) (r : List Tok), 1 ≤ s → s ≤ 6 → 7 * r.length + 8 ≤ n + s → pE n s r ≠ .out
  | 0, s, r, h1, h6, hb => by omega
  | n + 1, s, r, h1, h6, hb => by
    have hn := fun s r => pE_in n s r
    refine then_in (op_in hn h1 h6 hb) fun e r' hr => ?_
    have hl := (op_sound (fun s r e r' => pE_sound n s r e r') h1 h6 hr).less
    exact loop_in hn h1 h6 _ _ _ (by omega) (by omega)
def Le (rec rec' : Nat → List Tok → PR) : Prop := ∀ s r, rec s r ≠ .out → rec' s r = rec s r
theorem then_le {x y : PR} {f g : Ex → List Tok → PR} (hx : x ≠ .out → y = x) (hf : ∀ e r, x = .ok e r → f e r ≠ .out → g e r = f e r) (h : x.then f ≠ .out) : y.then g = x.then f := by
  cases x with
  | ok e r =>
    rw [hx (fun h => by cases h)]
    exact hf e r rfl h
  | bad => rw [hx (fun h => by cases h)]; rfl
  | out => exact (h rfl).elim
theorem unW_le (k : Int) : ∀ (m : Nat) (r : List Tok) (x y : PR), (x ≠ .out → y = x) → unW k m r x ≠ .out → unW k m r y = unW k m r x
  | 0, _, _, _, hx, h => hx h
  | _ + 1, [], _, _, hx, h => hx h
  | m + 1, _ :: q, x, y, hx, h => then_le (fun h' => unW_le k m q x y hx h') (fun _ _ _ _ => rfl) h
theorem prim_le {rec rec' : Nat → List Tok → PR} (hr : Le rec rec') {r : List Tok} (h : pPrim rec r ≠ .out) : pPrim rec' r = pPrim rec r := by
  cases r with
  | nil => rfl
  | cons t q =>
    rw [pPrim_cons] at h ⊢
    rw [pPrim_cons]
    cases h1 : decide (t.kind = 1) with
    | true => rfl
    | false =>
      cases h2 : decide (fldK t.text = 0) with
      | false => rfl
      | true =>
        cases h3 : decide (t.text = [40]) with
        | false => rfl
        | true =>
          rw [h1, h2, h3] at h
          exact then_le (hr 1 q) (fun _ _ _ _ => rfl) h
theorem op_le {rec rec' : Nat → List Tok → PR} (hr : Le rec rec') {s : Nat} {r : List Tok} (h : pOp rec s r ≠ .out) : pOp rec' s r = pOp rec s r := by
  unfold pOp at h ⊢
  cases hs : decide (s = 2 ∨ s = 6) with
  | false => rw [hs] at h; exact hr _ _ h
  | true =>
    rw [hs, cond_true] at h
    rw [cond_true, cond_true]
    unfold pFront at h ⊢
    cases h2 : decide (s ≤ 2) with
    | true => rw [h2] at h; exact unW_le _ _ _ _ _ (hr _ _) h
    | false => rw [h2] at h; exact unW_le _ _ _ _ _ (prim_le hr) h
theorem loop_le {rec rec' : Nat → List Tok → PR} (hr : Le rec rec') {s : Nat} : ∀ (m : Nat) (l : Ex) (r : List Tok), pLoop rec s m l r ≠ .out → pLoop rec' s m l r = pLoop rec s m l r
  | 0, _, _, h => (h rfl).elim
  | m + 1, l, [], _ => rfl
  | m + 1, l, t :: q, h => by
    rw [pLoop_cons] at h ⊢
    rw [pLoop_cons]
    cases hc : (t.op && decide (bnd (opK t.text) = s)) with
    | false => rfl
    | true =>
      rw [hc, cond_true] at h
      refine then_le (op_le hr) (fun e q' _ h' => then_le (fun _ => rfl) (fun l' q2 _ h2 => ?_) h') h
      cases h3 : decide (s = 3) with
      | true => rfl
      | false =>
        rw [h3] at h2
        exact loop_le hr m l' q2 h2
theorem pE_le : ∀ n, Le (pE n) (pE (n + 1))
  | 0, _, _, h => (h rfl).elim
  | n + 1, _, _, h => then_le (op_le (pE_le n)) (fun _ _ _ h' => loop_le (pE_le n) _ _ _ h') h
theorem pE_more {n s : Nat} {r : List Tok} (h : pE n s r ≠ .out) : ∀ k, pE (n + k) s r = pE n s r
  | 0 => rfl
  | k + 1 => by
    have ih := pE_more h k
    rw [← ih] at h ⊢
    exact pE_le (n + k) s r h
theorem pE_same {n m s : Nat} {r : List Tok} (hn : pE n s r ≠ .out) (hm : pE m s r ≠ .out) : pE n s r = pE m s r := by
  rcases Nat.le_total n m with h | h
  · obtain ⟨k, rfl⟩ : ∃ k, m = n + k := ⟨m - n, by omega⟩
    exact (pE_more hn k).symm
  · obtain ⟨k, rfl⟩ : ∃ k, n = m + k := ⟨n - m, by omega⟩
    exact pE_more hm k
theorem pE_gr {s : Nat} {e : Ex} {ts rest : List Tok} (h : Gr (.E s) e ts) (h1 : 1 ≤ s) (h6 : s ≤ 6) (hs : e.size ≤ 60) (hd : e.depth ≤ 20) (hr : stopB s rest = true) {n : Nat} (hn : 7 * (ts ++ rest).length + 8 ≤ n + s) : pE n s (ts ++ rest) = .ok e rest := by
  obtain ⟨N, hN⟩ := (gr_complete h hs hd).e
  have hb := hN N (Nat.le_refl _) rest hr
  rw [← hb]
  exact pE_same (pE_in n s _ h1 h6 hn) (by rw [hb]; intro h; cases h)
end Go.Am
namespace Go.Am
theorem cond_or {P : Int → Prop} {c : Bool} {a b : Int} (h1 : P a) (h2 : P b) : P (bif c then a else b) := by cases c; exact h2; exact h1
theorem opK_or (t : List UInt8) : (fun v : Int => v = 0 ∨ (7 ≤ v ∧ v ≤ 19)) (opK t) := by
  unfold opK
  repeat (refine cond_or (P := fun v : Int => v = 0 ∨ (7 ≤ v ∧ v ≤ 19)) (.inr ⟨by decide, by decide⟩) ?_)
  exact .inl rfl
theorem opK_rng {t : List UInt8} (h : opK t ≠ 0) : 7 ≤ opK t ∧ opK t ≤ 19 := (opK_or t).resolve_left h
theorem fldK_or (t : List UInt8) : (fun v : Int => v = 0 ∨ (2 ≤ v ∧ v ≤ 4)) (fldK t) := by
  unfold fldK
  repeat (refine cond_or (P := fun v : Int => v = 0 ∨ (2 ≤ v ∧ v ≤ 4)) (.inr ⟨by decide, by decide⟩) ?_)
  exact .inl rfl
theorem fldK_rng {t : List UInt8} (h : fldK t ≠ 0) : 2 ≤ fldK t ∧ fldK t ≤ 4 := (fldK_or t).resolve_left h
theorem gr_ok (hrd : ∀ s, 0 ≤ rdN s) : ∀ {lv : Lv} {e : Ex} {ts : List Tok}, Gr lv e ts → (∀ t ∈ ts, 0 ≤ t.pos ∧ t.pos ≤ 400) → e.ok = true := by
  intro lv e ts h
  induction h with
  | num t h =>
    intro hp
    have := hp t (by simp)
    have := hrd t.text
    simp only [Ex.ok, decide_eq_true_eq]
    exact ⟨by decide, by decide, this, by simp, by omega, by omega⟩
  | fld t h hf =>
    intro hp
    have := hp t (by simp)
    have := fldK_rng hf
    simp only [Ex.ok, decide_eq_true_eq]
    exact ⟨by omega, by omega, by decide, by simp, by omega, by omega⟩
  | par o c e ts _ _ _ ih => exact fun hp => ih fun t ht => hp t (by simp [ht])
  | neg t e ts _ _ ih =>
    intro hp
    have := hp t (by simp)
    simp only [Ex.ok, Bool.and_eq_true, decide_eq_true_eq]
    exact ⟨by omega, ih fun t ht => hp t (by simp [ht])⟩
  | pos e ts _ ih => exact ih
  | inv t e ts _ _ ih =>
    intro hp
    have := hp t (by simp)
    simp only [Ex.ok, Bool.and_eq_true, decide_eq_true_eq]
    exact ⟨by omega, ih fun t ht => hp t (by simp [ht])⟩
  | pos2 e ts _ ih => exact ih
  | up s e ts _ _ ih => exact ih
  | one s e ts _ ih => exact ih
  | bin s t a b xs ys _ ho _ _ _ ih1 ih2 =>
    intro hp
    have := hp t (by simp)
    have ho : opK t.text ≠ 0 := by unfold Tok.op at ho; simp at ho; exact ho.2
    have := opK_rng ho
    simp only [Ex.ok, Bool.and_eq_true, decide_eq_true_eq]
    exact ⟨by omega, ih1 fun t ht => hp t (by simp [ht]), ih2 fun t ht => hp t (by simp [ht])⟩
  | cmp t a b xs ys ho _ _ _ ih1 ih2 =>
    intro hp
    have := hp t (by simp)
    have ho : opK t.text ≠ 0 := by unfold Tok.op at ho; simp at ho; exact ho.2
    have := opK_rng ho
    simp only [Ex.ok, Bool.and_eq_true, decide_eq_true_eq]
    exact ⟨by omega, ih1 fun t ht => hp t (by simp [ht]), ih2 fun t ht => hp t (by simp [ht])⟩
theorem then_err {x : PR} {f : Ex → List Tok → PR} (hx : ∀ e n, x = .bad e n → e ≠ 0) (hf : ∀ e r er n, f e r = .bad er n → er ≠ 0) {er : Int} {n : Nat} (h : x.then f = .bad er n) : er ≠ 0 := by
  cases x with
  | ok e r => exact hf e r er n h
  | bad e m => exact hx er n (by simpa [PR.then] using h)
  | out => cases h
theorem node1_err {e : Ex} {m : Nat} {r : List Tok} {er : Int} {n : Nat} (h : node1 e m r = .bad er n) : er ≠ 0 := by
  unfold node1 at h
  cases h1 : decide (60 < e.size) <;> cases h2 : decide (20 < e.depth) <;> rw [h1, h2] at h <;> simp at h <;> omega
theorem shut_err {e : Ex} {r : List Tok} {er : Int} {n : Nat} (h : shutP e r = .bad er n) : er ≠ 0 := by
  cases r with
  | nil => injection h with h; omega
  | cons c q =>
    rw [shut_cons] at h
    cases hc : c.is [41] <;> rw [hc] at h <;> simp at h; omega
theorem prim_err {rec : Nat → List Tok → PR} (hrec : ∀ s r e n, rec s r = .bad e n → e ≠ 0) {r : List Tok} {er : Int} {n : Nat} (h : pPrim rec r = .bad er n) : er ≠ 0 := by
  cases r with
  | nil => injection h with h; omega
  | cons t q =>
    rw [pPrim_cons] at h
    cases h1 : decide (t.kind = 1) <;> rw [h1] at h
    · cases h2 : !decide (fldK t.text = 0) <;> rw [h2] at h
      · cases h3 : decide (t.text = [40]) <;> rw [h3] at h
        · simp at h; omega
        · exact then_err (hrec 1 q) (fun e r er n h => shut_err h) h
      · cases h
    · cases h
theorem unW_err {k : Int} : ∀ (m : Nat) (r : List Tok) (x : PR), (∀ e n, x = .bad e n → e ≠ 0) → ∀ {er : Int} {n : Nat}, unW k m r x = .bad er n → er ≠ 0
  | 0, _, _, hx, er, n, h => hx er n h
  | _ + 1, [], _, hx, er, n, h => hx er n h
  | m + 1, _ :: q, x, hx, _, _, h => then_err (fun _ _ h => unW_err m q x hx h) (fun _ _ _ _ h => node1_err h) h
theorem op_err {rec : Nat → List Tok → PR} (hrec : ∀ s r e n, rec s r = .bad e n → e ≠ 0) {s : Nat} {r : List Tok} {er : Int} {n : Nat} (h : pOp rec s r = .bad er n) : er ≠ 0 := by
  unfold pOp pFront at h
  cases h1 : decide (s = 2 ∨ s = 6) <;> rw [h1] at h
  · exact hrec _ _ _ _ h
  · cases h2 : decide (s ≤ 2) <;> rw [h2] at h
    · exact unW_err _ _ _ (fun _ _ h => prim_err hrec h) h
    · exact unW_err _ _ _ (fun _ _ h => hrec _ _ _ _ h) h
theorem loop_err {rec : Nat → List Tok → PR} (hrec : ∀ s r e n, rec s r = .bad e n → e ≠ 0) {s : Nat} : ∀ (m : Nat) (l : Ex) (r : List Tok) {er : Int} {n : Nat}, pLoop rec s m l r = .bad er n → er ≠ 0
  | 0, _, _, _, _, h => by cases h
  | _ + 1, _, [], _, _, h => by cases h
  | m + 1, l, t :: q, er, n, h => by
    rw [pLoop_cons] at h
    cases h1 : (t.op && decide (bnd (opK t.text) = s)) <;> rw [h1] at h
    · cases h
    · refine then_err (fun e n h => op_err hrec h) (fun e r er n h => then_err (fun _ _ h => node1_err h) (fun e r er n h => ?_) h) h
      cases h2 : decide (s = 3) <;> rw [h2] at h
      · exact loop_err hrec m _ _ h
      · cases h
theorem pE_err : ∀ (k s : Nat) (r : List Tok) (e : Int) (n : Nat), pE k s r = .bad e n → e ≠ 0
  | 0, _, _, _, _, h => by cases h
  | k + 1, s, r, e, n, h => by
    unfold pE at h
    exact then_err (fun e n h => op_err (fun s r e n h => pE_err k s r e n h) h) (fun l r' er n h => loop_err (fun s r e n h => pE_err k s r e n h) _ _ _ h) h
end Go.Am
namespace Go.Am
structure Pc where
  g : List UInt8
  k : Int
  t : List UInt8
def Pc.kt (p : Pc) : Int × List UInt8 := (p.k, p.t)
def pcsS : List Pc → List UInt8
  | [] => []
  | p :: r => p.g ++ (p.t ++ pcsS r)
def pcsT (a : Int) : List Pc → List Tok
  | [] => []
  | p :: r => ⟨p.k, p.t, a + p.g.length⟩ :: pcsT (a + p.g.length + p.t.length) r
theorem pcsS_app : ∀ a b : List Pc, pcsS (a ++ b) = pcsS a ++ pcsS b
  | [], _ => rfl
  | p :: a, b => by simp [pcsS, pcsS_app a b]
theorem pcsT_kt : ∀ (l : List Pc) (a : Int), (pcsT a l).map Tok.kt = l.map Pc.kt
  | [], _ => rfl
  | p :: r, a => by simp [pcsT, Tok.kt, Pc.kt, pcsT_kt r]
def sepB (k : Int) (t : List UInt8) : List UInt8 → Bool
  | [] => true
  | c :: _ => bif decide (k = 1) then !decide (kd c = 2) else bif decide (k = 2) then !decide (kd c = 3) else match t with
    | [a] => !decide (sym0 [a, c] = 2)
    | _ => true
theorem sep_cons (k : Int) (t : List UInt8) (c : UInt8) (q : List UInt8) : sepB k t (c :: q) = bif decide (k = 1) then !decide (kd c = 2) else bif decide (k = 2) then !decide (kd c = 3) else match t with
    | [a] => !decide (sym0 [a, c] = 2)
    | _ => true := rfl
theorem runK_app {k : Int} {q : List UInt8} (hq : runK k q = 0) : ∀ t : List UInt8, runK k t = t.length → runK k (t ++ q) = t.length
  | [], _ => hq
  | c :: t, h => by
    rw [List.cons_append, runK_cons]
    rw [runK_cons] at h
    cases hc : decide (kd c = k) with
    | false => rw [hc] at h; simp at h
    | true =>
      rw [hc, cond_true, List.length_cons] at h
      rw [cond_true, runK_app hq t (by omega), List.length_cons]
theorem runK_hd {k : Int} : ∀ {q : List UInt8}, (∀ c r, q = c :: r → kd c ≠ k) → runK k q = 0
  | [], _ => rfl
  | c :: r, h => by rw [runK_cons, decide_eq_false (h c r rfl)]; rfl
theorem tk_sep {k : Int} {t q : List UInt8} (ht : tokE k t = 0) (hs : sepB k t q = true) : tkN (t ++ q) = t.length ∧ tkK (t ++ q) = k := by
  obtain ⟨a, r, rfl, _, h1, h2⟩ := valid_tok ht
  have hc : c0 (a :: r ++ q) = c0 (a :: r) := rfl
  have hk : tkK (a :: r ++ q) = tkK (a :: r) := by unfold tkK; rw [hc]
  refine ⟨?_, hk.trans h1⟩
  unfold tkN at h2 ⊢
  rw [hc]
  unfold tkK at h1
  cases g1 : decide (kindN (c0 (a :: r)) = 2) with
  | true =>
    rw [g1] at h1 h2
    simp only [cond_true] at h1 h2 ⊢
    refine runK_app (runK_hd fun c x e => ?_) _ h2
    subst e
    rw [sep_cons] at hs
    rw [decide_eq_true h1.symm] at hs
    simpa using hs
  | false =>
    rw [g1] at h1 h2
    simp only [cond_false] at h1 h2 ⊢
    cases g2 : decide (kindN (c0 (a :: r)) = 3) with
    | true =>
      rw [g2] at h1 h2
      simp only [cond_true] at h1 h2 ⊢
      refine runK_app (runK_hd fun c x e => ?_) _ h2
      subst e
      rw [sep_cons] at hs
      rw [decide_eq_false (show ¬ k = 1 by omega), decide_eq_true h1.symm] at hs
      simpa using hs
    | false =>
      rw [g2] at h1 h2
      simp only [cond_false] at h1 h2 ⊢
      cases q with
      | nil => rw [List.append_nil]; exact h2
      | cons c x =>
        rw [sep_cons] at hs
        rw [decide_eq_false (show ¬ k = 1 by omega), decide_eq_false (show ¬ k = 2 by omega)] at hs
        match r, h2, hs with
        | [], h2, hs =>
          have hs : ¬ sym0 [a, c] = 2 := by simpa using hs
          have : sym0 (a :: c :: x) ≠ 2 := by rw [sym_two]; exact hs
          show (sym0 (a :: c :: x)).toNat = _
          rw [sym_not2 a (c :: x) this]; exact h2
        | [b], h2, _ =>
          show (sym0 (a :: b :: c :: x)).toNat = _
          rw [sym_two]; exact h2
        | b :: d :: y, h2, _ =>
          rcases sym_rng (a :: b :: d :: y) with h | h | h <;> rw [h] at h2 <;> simp at h2
def adj (p p' : Pc) : Bool := decide (p.t = [40]) || (decide (p.t = [45]) || (decide (p'.t = [41]) || !decide (p'.g = [])))
def pcOk : List Pc → Bool
  | [] => true
  | p :: r => (p.g.all (fun c => decide (kd c = 1)) && decide (tokE p.k p.t = 0)) && ((match r with | [] => true | p' :: _ => adj p p') && pcOk r)
theorem sym_40 : ∀ c : Fin 256, sym0 [40, UInt8.ofNat c.val] ≠ 2 := by decide +kernel
theorem sym_45 : ∀ c : Fin 256, sym0 [45, UInt8.ofNat c.val] ≠ 2 := by decide +kernel
theorem sym_41 : ∀ c : Fin 256, sym0 [UInt8.ofNat c.val, 41] ≠ 2 := by decide +kernel
theorem byte_fin {P : UInt8 → Prop} (h : ∀ c : Fin 256, P (UInt8.ofNat c.val)) (c : UInt8) : P c := by
  have := h ⟨c.toNat, c.toNat_lt⟩
  simpa using this
theorem k_of {t : List UInt8} {k : Int} {a : UInt8} (h : tokE k t = 0) (e : t = [a]) (ha : kd a = 4) : ¬ k = 1 ∧ ¬ k = 2 := by
  obtain ⟨c, r, h1, _, h2, _⟩ := valid_tok h
  subst e
  cases h1
  unfold tkK at h2
  have : kindN (c0 [a]) = 4 := ha
  rw [this] at h2
  have h2 : (3 : Int) = k := h2
  omega
theorem sep_adj {p p' : Pc} {q : List UInt8} (h : tokE p.k p.t = 0) (hg : p'.g.all (fun c => decide (kd c = 1)) = true) (ha : adj p p' = true) : sepB p.k p.t (p'.g ++ (p'.t ++ q)) = true := by
  unfold adj at ha
  simp only [Bool.or_eq_true, decide_eq_true_eq, Bool.not_eq_true', decide_eq_false_iff_not] at ha
  have one : ∀ a : UInt8, p.t = [a] → kd a = 4 → (∀ c, sym0 [a, c] ≠ 2) → ∀ q, sepB p.k p.t q = true := fun a e hk hs q => by
    obtain ⟨k1, k2⟩ := k_of h e hk
    cases q with
    | nil => rfl
    | cons c q =>
      rw [sep_cons]
      rw [decide_eq_false k1, decide_eq_false k2, e]
      simp [hs c]
  rcases ha with e | e | e | e
  · exact one 40 e rfl (byte_fin sym_40) _
  · exact one 45 e rfl (byte_fin sym_45) _
  · by_cases hn : p'.g = []
    · rw [hn, e]
      show sepB p.k p.t (41 :: q) = true
      rw [sep_cons]
      rw [show kd 41 = 4 from rfl]
      cases decide (p.k = 1) with
      | true => rfl
      | false =>
        cases decide (p.k = 2) with
        | true => rfl
        | false =>
          simp only [cond_false]
          split
          · rename_i a _
            simp [byte_fin (P := fun a => sym0 [a, 41] ≠ 2) sym_41 a]
          · rfl
    · match hp : p'.g, hn with
      | c :: g, _ =>
        rw [hp, List.all_cons, Bool.and_eq_true] at hg
        have hc := of_decide_eq_true hg.1
        rw [List.cons_append]
        rw [sep_cons]
        rw [hc]
        cases decide (p.k = 1) with
        | true => rfl
        | false =>
          cases decide (p.k = 2) with
          | true => rfl
          | false =>
            simp only [cond_false]
            split
            · rename_i a _
              have : sym0 [a, c] ≠ 2 := fun e => by have := sym_pair e; unfold kd at hc; omega
              simp [this]
            · rfl
  · match hp : p'.g, e with
    | c :: g, _ =>
      rw [hp, List.all_cons, Bool.and_eq_true] at hg
      have hc := of_decide_eq_true hg.1
      rw [List.cons_append]
      rw [sep_cons]
      rw [hc]
      cases decide (p.k = 1) with
      | true => rfl
      | false =>
        cases decide (p.k = 2) with
        | true => rfl
        | false =>
          simp only [cond_false]
          split
          · rename_i a _
            have : sym0 [a, c] ≠ 2 := fun e => by have := sym_pair e; unfold kd at hc; omega
            simp [this]
          · rfl
theorem blanks_of {g : List UInt8} (h : g.all (fun c => decide (kd c = 1)) = true) : blanks g := fun c hc => of_decide_eq_true (List.all_eq_true.1 h c hc)
theorem lx_pcs : ∀ (l : List Pc) (a : Int) (k : Nat), pcOk l = true → l.length + k ≤ 200 → lx (pcsS l) a k = ⟨pcsT a l, a + (pcsS l).length, 0⟩
  | [], a, k, _, _ => by rw [pcsS, lx_nil]; simp [pcsT]
  | p :: r, a, k, h, hk => by
    unfold pcOk at h
    simp only [Bool.and_eq_true] at h
    obtain ⟨⟨h1, h2⟩, h3, h4⟩ := h
    have h2 := of_decide_eq_true h2
    rw [pcsS, lx_skip p.g (blanks_of h1)]
    have hsep : sepB p.k p.t (pcsS r) = true := by
      cases r with
      | nil => rfl
      | cons p' r =>
        unfold pcOk at h4
        simp only [Bool.and_eq_true] at h4
        exact sep_adj h2 h4.1.1 h3
    obtain ⟨g1, g2⟩ := tk_sep h2 hsep
    obtain ⟨c, x, g3, g4, _, _⟩ := valid_tok h2
    have hT : tkT (p.t ++ pcsS r) = p.t := by unfold tkT; rw [g1, List.take_left]
    have hF : tkF (p.t ++ pcsS r) = 0 := by unfold tkF; rw [g2, hT]; exact h2
    have hlx : lx (p.t ++ pcsS r) (a + p.g.length) k = (lx ((p.t ++ pcsS r).drop (tkN (p.t ++ pcsS r))) (a + p.g.length + (tkN (p.t ++ pcsS r) : Int)) (k + 1)).cons ⟨tkK (p.t ++ pcsS r), tkT (p.t ++ pcsS r), a + p.g.length⟩ := by
      rw [g3, List.cons_append] at hF ⊢
      exact lx_tok g4 (by simp at hk; omega) hF
    rw [hlx, g1, g2, hT, List.drop_left, lx_pcs r _ _ h4 (by simp at hk; omega)]
    simp only [LexO.cons, pcsT, List.length_append]
    congr 1
    omega
end Go.Am
namespace Go.Am
open Go.Lib
def lineK (k : Int) : Nat := bif decide (k ≤ 4) then 9 else bif decide (k = 5) then 8 else bif decide (k = 6) then 3 else bif decide (k = 7) then 7 else bif decide (k ≤ 9) then 6 else bif decide (k ≤ 11) then 5 else bif decide (k ≤ 17) then 4 else bif decide (k = 18) then 2 else 1
def opT (k : Int) : List UInt8 :=
  bif decide (k = 7) then [42] else bif decide (k = 8) then [43] else bif decide (k = 9) then [45] else bif decide (k = 10) then [60, 60] else bif decide (k = 11) then [62, 62] else bif decide (k = 12) then [60] else
  bif decide (k = 13) then [60, 61] else bif decide (k = 14) then [62] else bif decide (k = 15) then [62, 61] else bif decide (k = 16) then [61] else bif decide (k = 17) then [33, 61] else bif decide (k = 18) then [97, 110, 100] else [111, 114]
def opTk (k : Int) : Int := bif decide (k ≤ 17) then 3 else 2
def fldT (k : Int) : List UInt8 := bif decide (k = 2) then [107] else bif decide (k = 3) then [116] else [118]
def subL (full : Bool) (n : Nat) : Nat := bif full then 9 else n
def leftL (k : Int) : Nat := bif decide (lineK k = 4) then 5 else lineK k
def brk (b : Bool) (g : List UInt8) (f : List UInt8 → List Pc) : List Pc := bif b then ⟨g, 3, [40]⟩ :: (f [] ++ [⟨[], 3, [41]⟩]) else f g
def Ex.pcs (full : Bool) (g : List UInt8) (least : Nat) : Ex → List Pc
  | .leaf k n _ => bif decide (k = 1) then [⟨g, 1, itoa n⟩] else [⟨g, 2, fldT k⟩]
  | .un k _ e => brk (decide (lineK k < least)) g fun g => bif decide (k = 5) then ⟨g, 3, [45]⟩ :: e.pcs full (bif full then [32] else []) (subL full 8) else ⟨g, 2, notT⟩ :: e.pcs full [32] (subL full 3)
  | .bin k _ a b => brk (decide (lineK k < least)) g fun g => a.pcs full g (subL full (leftL k)) ++ ⟨[32], opTk k, opT k⟩ :: b.pcs full [32] (subL full (lineK k + 1))
def Ex.st : Ex → Ex
  | .leaf k n _ => .leaf k n 0
  | .un k _ e => .un k 0 e.st
  | .bin k _ a b => .bin k 0 a.st b.st
theorem Ex.st_size : ∀ e : Ex, e.st.size = e.size
  | .leaf .. => rfl
  | .un _ _ e => by simp [Ex.st, Ex.size, e.st_size]
  | .bin _ _ a b => by simp [Ex.st, Ex.size, a.st_size, b.st_size]
theorem Ex.st_depth : ∀ e : Ex, e.st.depth = e.depth
  | .leaf .. => rfl
  | .un _ _ e => by simp [Ex.st, Ex.depth, e.st_depth]
  | .bin _ _ a b => by simp [Ex.st, Ex.depth, a.st_depth, b.st_depth]
theorem size_of_st {e e' : Ex} (h : e'.st = e.st) : e'.size = e.size ∧ e'.depth = e.depth := by
  rw [← e.st_size, ← e.st_depth, ← e'.st_size, ← e'.st_depth, h]; exact ⟨rfl, rfl⟩
def lvl (n : Nat) : Lv := match n with
  | 0 => .E 1 | 1 => .E 1 | 2 => .E 2 | 3 => .O 2 | 4 => .E 3 | 5 => .E 4 | 6 => .E 5 | 7 => .E 6 | 8 => .O 6 | _ => .P
theorem gr_down {e : Ex} {ts : List Tok} : ∀ {n m : Nat}, n ≤ 9 → m ≤ n → Gr (lvl n) e ts → Gr (lvl m) e ts := by
  have step : ∀ n, n < 9 → Gr (lvl (n + 1)) e ts → Gr (lvl n) e ts := by
    intro n hn h
    match n, hn, h with
    | 0, _, h => exact h
    | 1, _, h => exact .one 1 e ts (.up 1 e ts (.inl rfl) h)
    | 2, _, h => exact .one 2 e ts h
    | 3, _, h => exact .pos2 e ts h
    | 4, _, h => exact .one 3 e ts (.up 3 e ts (.inr (.inl rfl)) h)
    | 5, _, h => exact .one 4 e ts (.up 4 e ts (.inr (.inr (.inl rfl))) h)
    | 6, _, h => exact .one 5 e ts (.up 5 e ts (.inr (.inr (.inr rfl))) h)
    | 7, _, h => exact .one 6 e ts h
    | 8, _, h => exact .pos e ts h
  intro n m hn hm h
  induction n with
  | zero => have : m = 0 := by omega
            subst this; exact h
  | succ n ih =>
    rcases Nat.eq_or_lt_of_le hm with rfl | hlt
    · exact h
    · exact ih (by omega) (by omega) (step n (by omega) h)
theorem split_kt {a b : List (Int × List UInt8)} {ts : List Tok} (h : ts.map Tok.kt = a ++ b) : ∃ xs ys, ts = xs ++ ys ∧ xs.map Tok.kt = a ∧ ys.map Tok.kt = b := by
  refine ⟨ts.take a.length, ts.drop a.length, (List.take_append_drop _ _).symm, ?_, ?_⟩
  · rw [List.map_take, h, List.take_left]
  · rw [List.map_drop, h, List.drop_left]
theorem cons_kt {k : Int} {t : List UInt8} {b : List (Int × List UInt8)} {ts : List Tok} (h : ts.map Tok.kt = (k, t) :: b) : ∃ x ys, ts = x :: ys ∧ x.kind = k ∧ x.text = t ∧ ys.map Tok.kt = b := by
  cases ts with
  | nil => cases h
  | cons x ys =>
    simp only [List.map_cons, Tok.kt] at h
    injection h with h1 h2
    injection h1 with h3 h4
    exact ⟨x, ys, rfl, h3, h4, h2⟩
theorem op_fin : ∀ k : Fin 20, 7 ≤ k.val → opK (opT k.val) = k.val ∧ bnd k.val = (match lineK k.val with | 7 => 6 | 6 => 5 | 5 => 4 | 4 => 3 | 2 => 2 | _ => 1) ∧ opTk k.val ≠ 1 ∧ (lineK k.val = 7 ∨ lineK k.val = 6 ∨ lineK k.val = 5 ∨ lineK k.val = 4 ∨ lineK k.val = 2 ∨ lineK k.val = 1) ∧ tokE (opTk k.val) (opT k.val) = 0 := by decide +kernel
theorem op_of {k : Int} (h1 : 7 ≤ k) (h2 : k ≤ 19) : opK (opT k) = k ∧ bnd k = (match lineK k with | 7 => 6 | 6 => 5 | 5 => 4 | 4 => 3 | 2 => 2 | _ => 1) ∧ opTk k ≠ 1 ∧ (lineK k = 7 ∨ lineK k = 6 ∨ lineK k = 5 ∨ lineK k = 4 ∨ lineK k = 2 ∨ lineK k = 1) ∧ tokE (opTk k) (opT k) = 0 := by
  have := op_fin ⟨k.toNat, by omega⟩ (by simp only; omega)
  have e : ((k.toNat : Nat) : Int) = k := by omega
  simp only [e] at this
  exact this
theorem fld_of {k : Int} (h1 : 2 ≤ k) (h2 : k ≤ 4) : fldK (fldT k) = k ∧ tokE 2 (fldT k) = 0 ∧ fldK (fldT k) ≠ 0 := by
  have : k = 2 ∨ k = 3 ∨ k = 4 := by omega
  rcases this with rfl | rfl | rfl <;> decide +kernel
theorem Ex.ok_un {k p : Int} {e : Ex} (h : (Ex.un k p e).ok = true) : 5 ≤ k ∧ k ≤ 6 ∧ e.ok = true := by
  unfold Ex.ok at h
  rw [Bool.and_eq_true] at h
  have := of_decide_eq_true h.1
  exact ⟨this.1, this.2.1, h.2⟩
theorem Ex.ok_bin {k p : Int} {a b : Ex} (h : (Ex.bin k p a b).ok = true) : 7 ≤ k ∧ k ≤ 19 ∧ a.ok = true ∧ b.ok = true := by
  unfold Ex.ok at h
  rw [Bool.and_eq_true, Bool.and_eq_true] at h
  have := of_decide_eq_true h.1
  exact ⟨this.1, this.2.1, h.2.1, h.2.2⟩
def Ex.rng : Ex → Bool
  | .leaf _ n _ => decide (Rng n)
  | .un _ _ e => e.rng
  | .bin _ _ a b => a.rng && b.rng
theorem Ex.ok_st : ∀ {e : Ex}, e.ok = true → e.st.ok = true
  | .leaf k n p, h => by
    have h := of_decide_eq_true h
    exact decide_eq_true ⟨h.1, h.2.1, h.2.2.1, h.2.2.2.1, Int.le_refl _, by omega⟩
  | .un k p e, h => by
    obtain ⟨h1, h2, h3⟩ := Ex.ok_un h
    unfold Ex.st Ex.ok
    rw [Bool.and_eq_true]
    exact ⟨decide_eq_true ⟨h1, h2, Int.le_refl _, by omega⟩, Ex.ok_st h3⟩
  | .bin k p a b, h => by
    obtain ⟨h1, h2, h3, h4⟩ := Ex.ok_bin h
    unfold Ex.st Ex.ok
    rw [Bool.and_eq_true, Bool.and_eq_true]
    exact ⟨decide_eq_true ⟨h1, h2, Int.le_refl _, by omega⟩, Ex.ok_st h3, Ex.ok_st h4⟩
theorem gr_brk {e : Ex} {b : Bool} {least n : Nat} (hn : n ≤ 9) (h0 : 1 ≤ n) (hl : least ≤ 9) (hb : b = decide (n < least)) {g : List UInt8} {f : List UInt8 → List Pc} (hf : ∀ g, (f g).map Pc.kt = (f []).map Pc.kt)
    (h : ∀ ts : List Tok, ts.map Tok.kt = (f []).map Pc.kt → ∃ e', e'.st = e.st ∧ Gr (lvl n) e' ts) {ts : List Tok} (ht : ts.map Tok.kt = (brk b g f).map Pc.kt) : ∃ e', e'.st = e.st ∧ Gr (lvl least) e' ts := by
  unfold brk at ht
  cases b with
  | true =>
    simp only [cond_true, List.map_cons, List.map_append, List.map_nil] at ht
    obtain ⟨o, ys, rfl, o1, o2, h1⟩ := cons_kt ht
    obtain ⟨xs, zs, rfl, h2, h3⟩ := split_kt h1
    obtain ⟨c, ws, rfl, c1, c2, h4⟩ := cons_kt h3
    have : ws = [] := by simpa using h4
    subst this
    obtain ⟨e', g1, g2⟩ := h xs h2
    refine ⟨e', g1, gr_down (n := 9) (Nat.le_refl _) hl (.par o c e' xs ?_ ?_ (gr_down (n := n) (m := 1) hn h0 g2))⟩
    · unfold Tok.is; rw [o1, o2]; rfl
    · unfold Tok.is; rw [c1, c2]; rfl
  | false =>
    rw [cond_false, hf] at ht
    obtain ⟨e', g1, g2⟩ := h ts ht
    have := of_decide_eq_false hb.symm
    exact ⟨e', g1, gr_down hn (by omega) g2⟩
theorem pcs_gap (full : Bool) : ∀ (e : Ex) (g : List UInt8) (n : Nat), (e.pcs full g n).map Pc.kt = (e.pcs full [] n).map Pc.kt
  | .leaf k _ _, g, n => by unfold Ex.pcs; cases decide (k = 1) <;> rfl
  | .un k _ e, g, n => by
    unfold Ex.pcs brk
    cases decide (lineK k < n) <;> cases decide (k = 5) <;> rfl
  | .bin k _ a b, g, n => by
    unfold Ex.pcs brk
    cases decide (lineK k < n)
    · simp only [cond_false, List.map_append, List.map_cons]
      rw [pcs_gap full a g]
    · rfl
theorem lineK_le (k : Int) : lineK k ≤ 9 := by
  unfold lineK
  cases decide (k ≤ 4) <;> cases decide (k = 5) <;> cases decide (k = 6) <;> cases decide (k = 7) <;> cases decide (k ≤ 9) <;> cases decide (k ≤ 11) <;> cases decide (k ≤ 17) <;> cases decide (k = 18) <;> decide
theorem subL_le (full : Bool) {n : Nat} (h : n ≤ 9) : subL full n ≤ 9 := by unfold subL; cases full <;> simp [h]
theorem subL_ge (full : Bool) {n : Nat} (h : n ≤ 9) : n ≤ subL full n := by unfold subL; cases full <;> simp [h]
theorem lineK_pos {k : Int} : 1 ≤ lineK k := by
  unfold lineK
  cases decide (k ≤ 4) <;> cases decide (k = 5) <;> cases decide (k = 6) <;> cases decide (k = 7) <;> cases decide (k ≤ 9) <;> cases decide (k ≤ 11) <;> cases decide (k ≤ 17) <;> cases decide (k = 18) <;> decide
theorem gr_pcs (full : Bool) : ∀ (e : Ex) (g : List UInt8) (least : Nat) (ts : List Tok), e.ok = true → e.rng = true → least ≤ 9 → ts.map Tok.kt = (e.pcs full g least).map Pc.kt → ∃ e', e'.st = e.st ∧ Gr (lvl least) e' ts
  | .leaf k n p, g, least, ts, hok, hr, hl, ht => by
    have hok := of_decide_eq_true hok
    have hrn : Rng n := of_decide_eq_true hr
    unfold Ex.pcs at ht
    by_cases h1 : k = 1
    · subst h1
      rw [decide_eq_true rfl] at ht
      obtain ⟨t, ys, rfl, t1, t2, h2⟩ := cons_kt ht
      have : ys = [] := by simpa using h2
      subst this
      have hv := (read_pos hrn hok.2.2.1 0).2
      have hv : rdN (itoa n) = n := hv
      refine ⟨.leaf 1 (rdN t.text) t.pos, by rw [t2, hv]; rfl, gr_down (n := 9) (Nat.le_refl _) hl (.num t t1)⟩
    · rw [decide_eq_false h1] at ht
      obtain ⟨t, ys, rfl, t1, t2, h2⟩ := cons_kt ht
      have : ys = [] := by simpa using h2
      subst this
      obtain ⟨f1, _, f2⟩ := fld_of (k := k) (by omega) (by omega)
      have hn : n = 0 := by omega
      refine ⟨.leaf (fldK t.text) 0 t.pos, by rw [t2, f1, hn]; rfl, gr_down (n := 9) (Nat.le_refl _) hl (.fld t (by rw [t1]; show ¬ (2 : Int) = 1; decide) (by rw [t2]; exact f2))⟩
  | .un k p e, g, least, ts, hok, hr, hl, ht => by
    obtain ⟨k1, k2, hok'⟩ := Ex.ok_un hok
    have hr : e.rng = true := hr
    unfold Ex.pcs at ht
    by_cases h5 : k = 5
    · subst h5
      refine gr_brk (e := .un 5 p e) (n := 8) (by omega) (by omega) hl rfl (fun g => rfl) (fun ts ht => ?_) ht
      have ht : ts.map Tok.kt = (3, [45]) :: (e.pcs full (bif full then [32] else []) (subL full 8)).map Pc.kt := ht
      obtain ⟨t, ys, rfl, t1, t2, h2⟩ := cons_kt ht
      obtain ⟨e', g1, g2⟩ := gr_pcs full e _ _ ys hok' hr (subL_le full (by omega)) h2
      exact ⟨.un 5 t.pos e', by simp [Ex.st, g1], .neg t e' ys (by unfold Tok.is; rw [t1, t2]; rfl) (gr_down (m := 8) (subL_le full (by omega)) (subL_ge full (by omega)) g2)⟩
    · have h6 : k = 6 := by omega
      subst h6
      refine gr_brk (e := .un 6 p e) (n := 3) (by omega) (by omega) hl rfl (fun g => rfl) (fun ts ht => ?_) ht
      have ht : ts.map Tok.kt = (2, notT) :: (e.pcs full [32] (subL full 3)).map Pc.kt := ht
      obtain ⟨t, ys, rfl, t1, t2, h2⟩ := cons_kt ht
      obtain ⟨e', g1, g2⟩ := gr_pcs full e _ _ ys hok' hr (subL_le full (by omega)) h2
      exact ⟨.un 6 t.pos e', by simp [Ex.st, g1], .inv t e' ys (by unfold Tok.is; rw [t1, t2]; rfl) (gr_down (m := 3) (subL_le full (by omega)) (subL_ge full (by omega)) g2)⟩
  | .bin k p a b, g, least, ts, hok, hr, hl, ht => by
    obtain ⟨k1, k2, oka, okb⟩ := Ex.ok_bin hok
    unfold Ex.rng at hr
    rw [Bool.and_eq_true] at hr
    obtain ⟨o1, o2, o3, o4, _⟩ := op_of k1 k2
    unfold Ex.pcs at ht
    refine gr_brk (e := .bin k p a b) (n := lineK k) (lineK_le k) lineK_pos hl rfl (fun g => by simp only [List.map_append, List.map_cons]; rw [pcs_gap full a g]) (fun ts ht => ?_) ht
    simp only [List.map_append, List.map_cons] at ht
    obtain ⟨xs, zs, rfl, h2, h3⟩ := split_kt ht
    obtain ⟨t, ys, rfl, t1, t2, h4⟩ := cons_kt h3
    have hleft : leftL k ≤ 9 := by unfold leftL; cases decide (lineK k = 4) with | true => exact (by omega : 5 ≤ 9) | false => exact lineK_le k
    have hright : lineK k + 1 ≤ 9 := by omega
    obtain ⟨a', a1, a2⟩ := gr_pcs full a _ _ xs oka hr.1 (subL_le full hleft) h2
    obtain ⟨b', b1, b2⟩ := gr_pcs full b _ _ ys okb hr.2 (subL_le full hright) h4
    have a3 := gr_down (m := leftL k) (subL_le full hleft) (subL_ge full hleft) a2
    have b3 := gr_down (m := lineK k + 1) (subL_le full hright) (subL_ge full hright) b2
    have hop : t.op = true := by unfold Tok.op; rw [t1, t2, o1, decide_eq_false o3, decide_eq_false (show ¬ k = 0 by omega)]; rfl
    have hbd : bnd (opK t.text) = bnd k := by rw [t2, o1]
    have hk : opK t.text = k := by rw [t2, o1]
    refine ⟨.bin (opK t.text) t.pos a' b', by simp [Ex.st, a1, b1, hk], ?_⟩
    rcases o4 with h | h | h | h | h | h
    · rw [h] at o2 b3
      have hl : leftL k = 7 := by unfold leftL; rw [h]; rfl
      rw [hl] at a3
      rw [h]
      exact .bin 6 t a' b' xs ys (by omega) hop (hbd.trans o2) a3 b3
    · rw [h] at o2 b3
      have hl : leftL k = 6 := by unfold leftL; rw [h]; rfl
      rw [hl] at a3
      rw [h]
      exact .bin 5 t a' b' xs ys (by omega) hop (hbd.trans o2) a3 (.up 5 _ _ (.inr (.inr (.inr rfl))) b3)
    · rw [h] at o2 b3
      have hl : leftL k = 5 := by unfold leftL; rw [h]; rfl
      rw [hl] at a3
      rw [h]
      exact .bin 4 t a' b' xs ys (by omega) hop (hbd.trans o2) a3 (.up 4 _ _ (.inr (.inr (.inl rfl))) b3)
    · rw [h] at o2 b3
      have hl : leftL k = 5 := by unfold leftL; rw [h]; rfl
      rw [hl] at a3
      rw [h]
      exact .cmp t a' b' xs ys hop (hbd.trans o2) (.up 3 _ _ (.inr (.inl rfl)) a3) (.up 3 _ _ (.inr (.inl rfl)) b3)
    · rw [h] at o2 b3
      have hl : leftL k = 2 := by unfold leftL; rw [h]; rfl
      rw [hl] at a3
      rw [h]
      exact .bin 2 t a' b' xs ys (by omega) hop (hbd.trans o2) a3 b3
    · rw [h] at o2 b3
      have hl : leftL k = 1 := by unfold leftL; rw [h]; rfl
      rw [hl] at a3
      rw [h]
      exact .bin 1 t a' b' xs ys (by omega) hop (hbd.trans o2) a3 (.up 1 _ _ (.inl rfl) b3)
end Go.Am
namespace Go.Am
open Go.Lib
def nice : List Pc → Bool
  | [] => true
  | p :: _ => decide (p.t = [41]) || !decide (p.g = [])
theorem adj_nice (p : Pc) {l : List Pc} (h : nice l = true) : ∀ p' r, l = p' :: r → adj p p' = true := fun p' r e => by
  subst e
  have h : (decide (p'.t = [41]) || !decide (p'.g = [])) = true := h
  unfold adj
  rw [h, Bool.or_true, Bool.or_true]
theorem pcOk_cons {p : Pc} {l : List Pc} (hg : p.g.all (fun c => decide (kd c = 1)) = true) (ht : tokE p.k p.t = 0) (ha : ∀ p' r, l = p' :: r → adj p p' = true) (hl : pcOk l = true) : pcOk (p :: l) = true := by
  unfold pcOk
  rw [hg, decide_eq_true ht, hl]
  cases l with
  | nil => rfl
  | cons p' r => simp [ha p' r rfl]
theorem pcs_hd (full : Bool) : ∀ (e : Ex) (g : List UInt8) (n : Nat), ∃ p r, e.pcs full g n = p :: r ∧ p.g = g
  | .leaf k _ _, g, n => by unfold Ex.pcs; cases decide (k = 1) <;> exact ⟨_, _, rfl, rfl⟩
  | .un k _ e, g, n => by unfold Ex.pcs brk; cases decide (lineK k < n) <;> cases decide (k = 5) <;> exact ⟨_, _, rfl, rfl⟩
  | .bin k _ a b, g, n => by
    unfold Ex.pcs brk
    cases decide (lineK k < n)
    · obtain ⟨p, r, h1, h2⟩ := pcs_hd full a g (subL full (leftL k))
      simp only [cond_false]
      exact ⟨p, _, by rw [h1]; rfl, h2⟩
    · exact ⟨_, _, rfl, rfl⟩
theorem pcOk_brk {b : Bool} {g : List UInt8} {f : List UInt8 → List Pc} {rest : List Pc} (hg : g.all (fun c => decide (kd c = 1)) = true) (hn : nice rest = true) (hr : pcOk rest = true)
    (h : ∀ g rest, g.all (fun c => decide (kd c = 1)) = true → nice rest = true → pcOk rest = true → pcOk (f g ++ rest) = true) : pcOk (brk b g f ++ rest) = true := by
  unfold brk
  cases b with
  | false => exact h g rest hg hn hr
  | true =>
    simp only [cond_true, List.cons_append, List.append_assoc, List.nil_append]
    refine pcOk_cons hg rfl (fun p' r _ => rfl) (h [] _ rfl rfl (pcOk_cons rfl rfl (adj_nice _ hn) hr))
theorem pcOk_ex (full : Bool) : ∀ (e : Ex) (g : List UInt8) (least : Nat) (rest : List Pc), e.ok = true → e.rng = true → g.all (fun c => decide (kd c = 1)) = true → nice rest = true → pcOk rest = true → pcOk (e.pcs full g least ++ rest) = true
  | .leaf k n p, g, least, rest, hok, hr, hg, hn, hrest => by
    have hok := of_decide_eq_true hok
    have hr := of_decide_eq_true hr
    unfold Ex.pcs
    by_cases h1 : k = 1
    · rw [decide_eq_true h1]
      exact pcOk_cons hg (read_pos hr hok.2.2.1 0).1 (adj_nice _ hn) hrest
    · rw [decide_eq_false h1]
      exact pcOk_cons hg (fld_of (k := k) (by omega) (by omega)).2.1 (adj_nice _ hn) hrest
  | .un k p e, g, least, rest, hok, hr, hg, hn, hrest => by
    obtain ⟨k1, k2, hok⟩ := Ex.ok_un hok
    have hr : e.rng = true := hr
    unfold Ex.pcs
    refine pcOk_brk hg hn hrest fun g rest hg hn hrest => ?_
    cases decide (k = 5) with
    | true => exact pcOk_cons hg rfl (fun p' r _ => rfl) (pcOk_ex full e _ _ rest hok hr (by cases full <;> rfl) hn hrest)
    | false =>
      refine pcOk_cons hg (by show tokE 2 notT = 0; decide +kernel) (fun p' r h => ?_) (pcOk_ex full e _ _ rest hok hr rfl hn hrest)
      obtain ⟨q, s, h1, h2⟩ := pcs_hd full e [32] (subL full 3)
      rw [h1] at h
      cases h
      unfold adj
      rw [h2]; simp
  | .bin k p a b, g, least, rest, hok, hr, hg, hn, hrest => by
    obtain ⟨k1, k2, oka, okb⟩ := Ex.ok_bin hok
    unfold Ex.rng at hr
    rw [Bool.and_eq_true] at hr
    obtain ⟨_, _, _, _, o5⟩ := op_of k1 k2
    unfold Ex.pcs
    refine pcOk_brk hg hn hrest fun g rest hg hn hrest => ?_
    rw [List.append_assoc, List.cons_append]
    refine pcOk_ex full a _ _ _ oka hr.1 hg (by simp [nice]) (pcOk_cons rfl o5 (fun p' r h => ?_) (pcOk_ex full b _ _ rest okb hr.2 rfl hn hrest))
    obtain ⟨q, s, h1, h2⟩ := pcs_hd full b [32] (subL full (lineK k + 1))
    rw [h1] at h
    cases h
    unfold adj
    rw [h2]; simp
theorem brk_len {b : Bool} {g : List UInt8} {f : List UInt8 → List Pc} {n : Nat} (h : ∀ g, (f g).length ≤ n) : (brk b g f).length ≤ n + 2 := by
  unfold brk
  have h1 := h g
  have h2 := h []
  cases b <;> simp <;> omega
theorem pcs_len (full : Bool) : ∀ (e : Ex) (g : List UInt8) (n : Nat), (e.pcs full g n).length + 2 ≤ 3 * e.size
  | .leaf k _ _, g, n => by unfold Ex.pcs; cases decide (k = 1) <;> simp [Ex.size]
  | .un k _ e, g, n => by
    unfold Ex.pcs
    have hp := e.size_pos
    have := brk_len (b := decide (lineK k < n)) (g := g) (f := fun g => bif decide (k = 5) then ⟨g, 3, [45]⟩ :: e.pcs full (bif full then [32] else []) (subL full 8) else ⟨g, 2, notT⟩ :: e.pcs full [32] (subL full 3)) (n := 3 * e.size - 2 + 1) fun g => by
      have h1 := pcs_len full e (bif full then [32] else []) (subL full 8)
      have h2 := pcs_len full e [32] (subL full 3)
      cases decide (k = 5) <;> simp <;> omega
    simp only [Ex.size]
    omega
  | .bin k _ a b, g, n => by
    unfold Ex.pcs
    have hp := a.size_pos
    have hq := b.size_pos
    have := brk_len (b := decide (lineK k < n)) (g := g) (f := fun g => a.pcs full g (subL full (leftL k)) ++ ⟨[32], opTk k, opT k⟩ :: b.pcs full [32] (subL full (lineK k + 1))) (n := 3 * a.size - 2 + (3 * b.size - 2) + 1) fun g => by
      have h1 := pcs_len full a g (subL full (leftL k))
      have h2 := pcs_len full b [32] (subL full (lineK k + 1))
      simp only [List.length_append, List.length_cons]
      omega
    simp only [Ex.size]
    omega
def Ex.txt (full : Bool) (e : Ex) : List UInt8 := pcsS (e.pcs full [] 0)
end Go.Am
namespace Go.Am
def eqN (x y : Nod) : Bool := decide (x.kind = y.kind ∧ x.n = y.n ∧ x.a = y.a ∧ x.b = y.b)
def Nod.st (x : Nod) : Nod := { x with pos := 0 }
theorem eqN_is (x y : Nod) : eqN x y = decide (x.st = y.st) := by
  unfold eqN Nod.st
  congr 1
  exact propext ⟨fun ⟨h1, h2, h3, h4⟩ => by simp [h1, h2, h3, h4], fun h => by injection h with h1 h2 h3 h4; exact ⟨h1, h2, h3, h4⟩⟩
theorem all2_st : ∀ l m : List Nod, all2 eqN l m = decide (l.map Nod.st = m.map Nod.st)
  | [], [] => rfl
  | x :: l, y :: m => by
    show (eqN x y && all2 eqN l m) = _
    rw [eqN_is, all2_st l m]
    by_cases h1 : x.st = y.st <;> by_cases h2 : l.map Nod.st = m.map Nod.st <;> simp [h1, h2]
  | [], _ :: _ => rfl
  | _ :: _, [] => rfl
theorem flat_st : ∀ (e : Ex) (o : Int), (e.flat o).map Nod.st = e.st.flat o
  | .leaf .., _ => rfl
  | .un _ _ e, o => by simp [Ex.flat, Ex.st, flat_st e, Nod.st, Ex.st_size]
  | .bin _ _ a b, o => by simp [Ex.flat, Ex.st, flat_st a, flat_st b, Nod.st, Ex.st_size]
theorem flat_inj : ∀ (e e' : Ex) (o : Int), e.ok = true → e'.ok = true → e.flat o = e'.flat o → e = e'
  | .leaf k n p, .leaf k' n' p', o, _, _, h => by
    simp only [Ex.flat, List.cons.injEq, Nod.mk.injEq] at h
    obtain ⟨⟨h1, h2, _, _, h3⟩, _⟩ := h
    subst h1; subst h2; subst h3; rfl
  | .leaf k n p, .un k' p' e, o, _, _, h => by
    have := congrArg List.length h
    have hp := e.size_pos
    simp [Ex.flat_len, Ex.size] at this
    omega
  | .leaf k n p, .bin k' p' a b, o, _, _, h => by
    have := congrArg List.length h
    have hp := a.size_pos
    simp [Ex.flat_len, Ex.size] at this
    omega
  | .un k' p' e, .leaf k n p, o, _, _, h => by
    have := congrArg List.length h
    have hp := e.size_pos
    simp [Ex.flat_len, Ex.size] at this
    omega
  | .bin k' p' a b, .leaf k n p, o, _, _, h => by
    have := congrArg List.length h
    have hp := a.size_pos
    simp [Ex.flat_len, Ex.size] at this
    omega
  | .un k p e, .un k' p' e', o, ho, ho', h => by
    obtain ⟨_, _, h1⟩ := Ex.ok_un ho
    obtain ⟨_, _, h2⟩ := Ex.ok_un ho'
    simp only [Ex.flat] at h
    obtain ⟨h3, h4⟩ := List.append_inj' h rfl
    simp only [List.cons.injEq, Nod.mk.injEq] at h4
    rw [flat_inj e e' o h1 h2 h3, h4.1.1, h4.1.2.2.2.2]
  | .un k p e, .bin k' p' a b, o, ho, ho', h => by
    obtain ⟨_, h1, _⟩ := Ex.ok_un ho
    obtain ⟨h2, _, _, _⟩ := Ex.ok_bin ho'
    simp only [Ex.flat] at h
    rw [← List.append_assoc] at h
    obtain ⟨_, h4⟩ := List.append_inj' h rfl
    simp only [List.cons.injEq, Nod.mk.injEq] at h4
    omega
  | .bin k' p' a b, .un k p e, o, ho', ho, h => by
    obtain ⟨_, h1, _⟩ := Ex.ok_un ho
    obtain ⟨h2, _, _, _⟩ := Ex.ok_bin ho'
    simp only [Ex.flat] at h
    rw [← List.append_assoc] at h
    obtain ⟨_, h4⟩ := List.append_inj' h rfl
    simp only [List.cons.injEq, Nod.mk.injEq] at h4
    omega
  | .bin k p a b, .bin k' p' a' b', o, ho, ho', h => by
    obtain ⟨_, _, h1, h2⟩ := Ex.ok_bin ho
    obtain ⟨_, _, h3, h4⟩ := Ex.ok_bin ho'
    simp only [Ex.flat] at h
    rw [← List.append_assoc, ← List.append_assoc] at h
    obtain ⟨h5, h6⟩ := List.append_inj' h rfl
    simp only [List.cons.injEq, Nod.mk.injEq] at h6
    have hs : a.size = a'.size := by omega
    obtain ⟨h7, h8⟩ := List.append_inj h5 (by rw [Ex.flat_len, Ex.flat_len, hs])
    rw [← hs] at h8
    rw [flat_inj a a' o h1 h3 h7, flat_inj b b' _ h2 h4 h8, h6.1.1, h6.1.2.2.2.2]
theorem same_is {e e' : Ex} (h : e.ok = true) (h' : e'.ok = true) : all2 eqN (e.flat 0) (e'.flat 0) = decide (e.st = e'.st) := by
  rw [all2_st, flat_st, flat_st]
  congr 1
  exact propext ⟨fun hf => flat_inj _ _ 0 (Ex.ok_st h) (Ex.ok_st h') hf, fun hf => by rw [hf]⟩
end Go.Am
namespace Go.Am
open Go.Lib
def nodA (X : List Nod) (i : Int) : Nod := X.getD i.toNat default
def brT (p : Bool) (s : List UInt8) : List UInt8 := bif p then [40] ++ (s ++ [41]) else s
def txN : Nat → List Nod → Int → Bool → List UInt8
  | 0, _, _, _ => []
  | n + 1, X, i, p => bif decide ((nodA X i).kind = 1) then itoa (nodA X i).n else bif decide ((nodA X i).kind ≤ 4) then fldT (nodA X i).kind else
    brT p (bif decide ((nodA X i).kind = 5) then [45, 32] ++ txN n X (nodA X i).a true else bif decide ((nodA X i).kind = 6) then [110, 111, 116, 32] ++ txN n X (nodA X i).a true else
      txN n X (nodA X i).a true ++ ([32] ++ (opT (nodA X i).kind ++ ([32] ++ txN n X (nodA X i).b true))))
def okX : Nat → List Nod → Int → Bool
  | 0, _, _ => false
  | n + 1, X, i => decide (0 ≤ i ∧ i < (X.length : Int) ∧ 1 ≤ (nodA X i).kind ∧ (nodA X i).kind ≤ 19) && (bif decide ((nodA X i).kind ≤ 4) then true else bif decide ((nodA X i).kind ≤ 6) then okX n X (nodA X i).a else okX n X (nodA X i).a && okX n X (nodA X i).b)
theorem pcs_gapS (full : Bool) : ∀ (e : Ex) (g : List UInt8) (n : Nat), pcsS (e.pcs full g n) = g ++ pcsS (e.pcs full [] n)
  | .leaf k _ _, g, n => by unfold Ex.pcs; cases decide (k = 1) <;> simp [pcsS]
  | .un k _ e, g, n => by
    unfold Ex.pcs brk
    cases decide (lineK k < n) <;> cases decide (k = 5) <;> simp [pcsS]
  | .bin k _ a b, g, n => by
    unfold Ex.pcs brk
    cases decide (lineK k < n)
    · simp only [cond_false, pcsS_app]
      rw [pcs_gapS full a g, List.append_assoc]
    · simp [pcsS]
theorem nodA_mid (pre : List Nod) (x : Nod) (post : List Nod) : nodA (pre ++ x :: post) (pre.length : Int) = x := by
  unfold nodA
  rw [Int.toNat_natCast, List.getD_eq_getElem?_getD, List.getElem?_append_right (Nat.le_refl _), Nat.sub_self]; rfl
theorem pcsS_brk (b : Bool) (f : List UInt8 → List Pc) : pcsS (brk b [] f) = brT b (pcsS (f [])) := by
  unfold brk brT
  cases b
  · rfl
  · simp [pcsS, pcsS_app]
theorem line_un {k : Int} (k1 : 5 ≤ k) (k2 : k ≤ 6) (p : Bool) : decide (lineK k < (bif p then 9 else 0)) = p := by
  have : k = 5 ∨ k = 6 := by omega
  rcases this with rfl | rfl <;> cases p <;> decide
theorem line_bin {k : Int} (k1 : 7 ≤ k) (k2 : k ≤ 19) (p : Bool) : decide (lineK k < (bif p then 9 else 0)) = p := by
  have : lineK k < 9 := by
    unfold lineK
    rw [decide_eq_false (show ¬ k ≤ 4 by omega), decide_eq_false (show ¬ k = 5 by omega), decide_eq_false (show ¬ k = 6 by omega)]
    cases decide (k = 7) <;> cases decide (k ≤ 9) <;> cases decide (k ≤ 11) <;> cases decide (k ≤ 17) <;> cases decide (k = 18) <;> decide
  cases p
  · exact decide_eq_false (by simp)
  · exact decide_eq_true this
theorem brT_len (b : Bool) (s : List UInt8) : (brT b s).length ≤ s.length + 2 := by
  unfold brT
  cases b <;> simp
theorem opT_len (k : Int) : (opT k).length ≤ 3 := by
  unfold opT
  cases decide (k = 7) <;> cases decide (k = 8) <;> cases decide (k = 9) <;> cases decide (k = 10) <;> cases decide (k = 11) <;> cases decide (k = 12) <;> cases decide (k = 13) <;> cases decide (k = 14) <;> cases decide (k = 15) <;> cases decide (k = 16) <;> cases decide (k = 17) <;> cases decide (k = 18) <;> decide
theorem fldT_len (k : Int) : (fldT k).length = 1 := by
  unfold fldT
  cases decide (k = 2) <;> cases decide (k = 3) <;> rfl
theorem pcsS_bound (full : Bool) : ∀ (e : Ex) (n : Nat), e.rng = true → (pcsS (e.pcs full [] n)).length ≤ 30 * e.size
  | .leaf k n p, _, hr => by
    have hr : Rng n := of_decide_eq_true hr
    have := itoa_len hr
    have := fldT_len k
    unfold Ex.pcs
    cases decide (k = 1) <;> simp [pcsS, Ex.size] <;> omega
  | .un k p e, n, hr => by
    have hr : e.rng = true := hr
    unfold Ex.pcs
    rw [pcsS_brk]
    refine Nat.le_trans (brT_len _ _) ?_
    have i1 := pcsS_bound full e (subL full 8) hr
    have i2 := pcsS_bound full e (subL full 3) hr
    have h32 : (pcsS (e.pcs full [32] (subL full 3))).length = (pcsS (e.pcs full [] (subL full 3))).length + 1 := by rw [pcs_gapS]; simp
    have h33 : (pcsS (e.pcs full (bif full then [32] else []) (subL full 8))).length ≤ (pcsS (e.pcs full [] (subL full 8))).length + 1 := by rw [pcs_gapS]; cases full <;> simp
    cases decide (k = 5) <;> simp only [cond_true, cond_false, pcsS, List.nil_append, List.length_append, List.length_cons, List.length_nil, notT, Ex.size] <;> omega
  | .bin k p a b, n, hr => by
    have hr : (a.rng && b.rng) = true := hr
    rw [Bool.and_eq_true] at hr
    unfold Ex.pcs
    rw [pcsS_brk]
    refine Nat.le_trans (brT_len _ _) ?_
    have i1 := pcsS_bound full a (subL full (leftL k)) hr.1
    have i2 := pcsS_bound full b (subL full (lineK k + 1)) hr.2
    have h32 : (pcsS (b.pcs full [32] (subL full (lineK k + 1)))).length = (pcsS (b.pcs full [] (subL full (lineK k + 1)))).length + 1 := by rw [pcs_gapS]; simp
    have := opT_len k
    simp only [pcsS_app, pcsS, List.length_append, List.length_cons, List.length_nil, Ex.size, h32]
    omega
theorem txN_flat : ∀ (e : Ex) (n : Nat) (pre post : List Nod) (p : Bool), e.ok = true → e.depth ≤ n →
    txN n (pre ++ (e.flat pre.length ++ post)) ((pre.length : Int) + e.size - 1) p = pcsS (e.pcs true [] (bif p then 9 else 0)) ∧ okX n (pre ++ (e.flat pre.length ++ post)) ((pre.length : Int) + e.size - 1) = true
  | e, 0, _, _, _, _, h => by have := e.depth_pos; omega
  | .leaf k m q, n + 1, pre, post, p, hok, _ => by
    have hok := of_decide_eq_true hok
    have hx : nodA (pre ++ ((Ex.leaf k m q).flat pre.length ++ post)) ((pre.length : Int) + (Ex.leaf k m q).size - 1) = ⟨k, m, 0, 0, q⟩ := by
      rw [show (pre.length : Int) + (Ex.leaf k m q).size - 1 = (pre.length : Int) from by simp [Ex.size]]
      exact nodA_mid pre _ post
    constructor
    · unfold txN Ex.pcs
      rw [hx]
      by_cases h1 : k = 1
      · rw [decide_eq_true h1]; simp [pcsS]
      · rw [decide_eq_false h1, decide_eq_true (show k ≤ 4 by omega)]; simp [pcsS]
    · unfold okX
      rw [hx, decide_eq_true (show k ≤ 4 by omega)]
      simp only [cond_true, Bool.and_true, decide_eq_true_eq, List.length_append, Ex.flat_len, Ex.size]
      omega
  | .un k q e, n + 1, pre, post, p, hok, hd => by
    obtain ⟨k1, k2, ho⟩ := Ex.ok_un hok
    have hp := e.size_pos
    have hl : pre ++ ((Ex.un k q e).flat pre.length ++ post) = pre ++ (e.flat pre.length ++ (⟨k, 0, (pre.length : Int) + e.size - 1, 0, q⟩ :: post)) := by simp [Ex.flat]
    have hx : nodA (pre ++ (e.flat pre.length ++ (⟨k, 0, (pre.length : Int) + e.size - 1, 0, q⟩ :: post))) ((pre.length : Int) + (Ex.un k q e).size - 1) = ⟨k, 0, (pre.length : Int) + e.size - 1, 0, q⟩ := by
      have := nodA_mid (pre ++ e.flat pre.length) ⟨k, 0, (pre.length : Int) + e.size - 1, 0, q⟩ post
      rw [List.append_assoc, List.length_append, Ex.flat_len] at this
      rw [show (pre.length : Int) + (Ex.un k q e).size - 1 = ((pre.length + e.size : Nat) : Int) from by simp only [Ex.size]; omega]
      exact this
    obtain ⟨i1, i2⟩ := txN_flat e n pre (⟨k, 0, (pre.length : Int) + e.size - 1, 0, q⟩ :: post) true ho (by simp only [Ex.depth] at hd; omega)
    rw [hl]
    constructor
    · unfold txN Ex.pcs
      rw [hx]
      simp only
      rw [decide_eq_false (show ¬ k = 1 by omega), decide_eq_false (show ¬ k ≤ 4 by omega), line_un k1 k2, pcsS_brk, cond_false, cond_false, i1]
      by_cases h5 : k = 5
      · rw [decide_eq_true h5]
        simp [pcsS, pcs_gapS true e [32], subL]
      · rw [decide_eq_false h5, decide_eq_true (show k = 6 by omega)]
        simp [pcsS, pcs_gapS true e [32], subL, notT]
    · unfold okX
      rw [hx]
      simp only
      rw [decide_eq_false (show ¬ k ≤ 4 by omega), decide_eq_true k2, i2]
      simp only [cond_true, cond_false, Bool.and_true, decide_eq_true_eq, List.length_append, Ex.flat_len, Ex.size, List.length_cons]
      omega
  | .bin k q a b, n + 1, pre, post, p, hok, hd => by
    obtain ⟨k1, k2, oa, ob⟩ := Ex.ok_bin hok
    have hp := a.size_pos
    have hq := b.size_pos
    simp only [Ex.depth] at hd
    have hl : pre ++ ((Ex.bin k q a b).flat pre.length ++ post) = pre ++ (a.flat pre.length ++ (b.flat ((pre.length : Int) + a.size) ++ (⟨k, 0, (pre.length : Int) + a.size - 1, (pre.length : Int) + a.size + b.size - 1, q⟩ :: post))) := by simp [Ex.flat]
    have hx : nodA (pre ++ (a.flat pre.length ++ (b.flat ((pre.length : Int) + a.size) ++ (⟨k, 0, (pre.length : Int) + a.size - 1, (pre.length : Int) + a.size + b.size - 1, q⟩ :: post)))) ((pre.length : Int) + (Ex.bin k q a b).size - 1) = ⟨k, 0, (pre.length : Int) + a.size - 1, (pre.length : Int) + a.size + b.size - 1, q⟩ := by
      have := nodA_mid (pre ++ (a.flat pre.length ++ b.flat ((pre.length : Int) + a.size))) ⟨k, 0, (pre.length : Int) + a.size - 1, (pre.length : Int) + a.size + b.size - 1, q⟩ post
      rw [List.append_assoc, List.append_assoc, List.length_append, List.length_append, Ex.flat_len, Ex.flat_len] at this
      rw [show (pre.length : Int) + (Ex.bin k q a b).size - 1 = ((pre.length + (a.size + b.size) : Nat) : Int) from by simp only [Ex.size]; omega]
      exact this
    obtain ⟨i1, i2⟩ := txN_flat a n pre (b.flat ((pre.length : Int) + a.size) ++ (⟨k, 0, (pre.length : Int) + a.size - 1, (pre.length : Int) + a.size + b.size - 1, q⟩ :: post)) true oa (by omega)
    obtain ⟨j1, j2⟩ := txN_flat b n (pre ++ a.flat pre.length) (⟨k, 0, (pre.length : Int) + a.size - 1, (pre.length : Int) + a.size + b.size - 1, q⟩ :: post) true ob (by omega)
    rw [List.length_append, Ex.flat_len, Int.natCast_add, List.append_assoc] at j1 j2
    rw [hl]
    constructor
    · unfold txN Ex.pcs
      rw [hx]
      simp only
      rw [decide_eq_false (show ¬ k = 1 by omega), decide_eq_false (show ¬ k ≤ 4 by omega), decide_eq_false (show ¬ k = 5 by omega), decide_eq_false (show ¬ k = 6 by omega), line_bin k1 k2, pcsS_brk, cond_false, cond_false, cond_false, cond_false, i1, j1]
      simp [pcsS, pcsS_app, pcs_gapS true b [32], subL]
    · unfold okX
      rw [hx]
      simp only
      rw [decide_eq_false (show ¬ k ≤ 4 by omega), decide_eq_false (show ¬ k ≤ 6 by omega), i2, j2]
      simp only [cond_false, Bool.and_true, decide_eq_true_eq, List.length_append, Ex.flat_len, Ex.size, List.length_cons]
      omega
end Go.Am
