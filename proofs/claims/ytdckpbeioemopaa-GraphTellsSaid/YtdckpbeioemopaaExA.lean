/-
  Texts put together: ExPure, ExParse, ExParse2, ExGood, ExLex, ExPrint, ExPrint2, ExSame, ExText.
-/
import Derived.Test.YtdckpbeioemopaaPureA
import Derived.Test.YtdckpbeioemopaaLibA
namespace Go.Am
inductive Ex where
  | leaf (k n p : Int)
  | un (k p : Int) (e : Ex)
  | bin (k p : Int) (a b : Ex)
  deriving Inhabited, DecidableEq
def Ex.size : Ex → Nat
  | .leaf .. => 1
  | .un _ _ e => e.size + 1
  | .bin _ _ a b => a.size + b.size + 1
def Ex.depth : Ex → Nat
  | .leaf .. => 1
  | .un _ _ e => e.depth + 1
  | .bin _ _ a b => max a.depth b.depth + 1
def Ex.flat (o : Int) : Ex → List Nod
  | .leaf k n p => [⟨k, n, 0, 0, p⟩]
  | .un k p e => e.flat o ++ [⟨k, 0, o + e.size - 1, 0, p⟩]
  | .bin k p a b => a.flat o ++ (b.flat (o + a.size) ++ [⟨k, 0, o + a.size - 1, o + a.size + b.size - 1, p⟩])
def Ex.ok : Ex → Bool
  | .leaf k n p => decide (1 ≤ k ∧ k ≤ 4 ∧ 0 ≤ n ∧ (k = 1 ∨ n = 0) ∧ 0 ≤ p ∧ p ≤ 400)
  | .un k p e => decide (5 ≤ k ∧ k ≤ 6 ∧ 0 ≤ p ∧ p ≤ 400) && e.ok
  | .bin k p a b => decide (7 ≤ k ∧ k ≤ 19 ∧ 0 ≤ p ∧ p ≤ 400) && (a.ok && b.ok)
theorem Ex.size_pos : ∀ e : Ex, 1 ≤ e.size
  | .leaf .. => Nat.le_refl _
  | .un .. => by simp [Ex.size]
  | .bin .. => by simp [Ex.size]
theorem Ex.flat_len : ∀ (e : Ex) (o : Int), (e.flat o).length = e.size
  | .leaf .., _ => rfl
  | .un _ _ e, o => by simp [Ex.flat, Ex.size, e.flat_len]
  | .bin _ _ a b, o => by simp [Ex.flat, Ex.size, a.flat_len, b.flat_len]; omega
def Ex.top (o : Int) (e : Ex) : Top := ⟨o + e.size - 1, e.size, e.depth⟩
def Ex.tops (o : Int) : Ex → List Top
  | .leaf .. => [⟨o, 1, 1⟩]
  | .un k p e => e.tops o ++ [(Ex.un k p e).top o]
  | .bin k p a b => a.tops o ++ (b.tops (o + a.size) ++ [(Ex.bin k p a b).top o])
theorem topsN_flat : ∀ (e : Ex) (i : Int) (r : List Nod) (S A : List Top), e.ok = true → topsN i (e.flat i ++ r) S A = topsN (i + e.size) r (e.top i :: S) (A ++ e.tops i)
  | .leaf k n p, i, r, S, A, h => by
    have h := of_decide_eq_true h
    show topsN i (⟨k, n, 0, 0, p⟩ :: r) S A = _
    rw [topsN]
    have hs : stepN i ⟨k, n, 0, 0, p⟩ S = some (⟨i, 1, 1⟩, S) := by
      have ho : okN ⟨k, n, 0, 0, p⟩ 0 0 = true := by unfold okN; exact decide_eq_true ⟨rfl, rfl, h.2.2.2.2.1, h.2.2.2.2.2, h.2.2.1, h.2.2.2.1⟩
      unfold stepN knOk
      simp only
      rw [ho, decide_eq_true (show 1 ≤ k by omega), decide_eq_true (show k ≤ 19 by omega), decide_eq_true (show k ≤ 4 by omega)]
      rfl
    rw [hs]
    simp [Ex.size, Ex.top, Ex.tops, Ex.depth]
  | .un k p e, i, r, S, A, h => by
    unfold Ex.ok at h
    rw [Bool.and_eq_true] at h
    have h1 := of_decide_eq_true h.1
    rw [Ex.flat, List.append_assoc, topsN_flat e i _ S A h.2, List.singleton_append, topsN]
    have hs : stepN (i + e.size) ⟨k, 0, i + e.size - 1, 0, p⟩ (e.top i :: S) = some ((Ex.un k p e).top i, S) := by
      have ho : okN ⟨k, 0, i + e.size - 1, 0, p⟩ (e.top i).pos 0 = true := by unfold okN; exact decide_eq_true ⟨rfl, rfl, h1.2.2.1, h1.2.2.2, Int.le_refl _, .inr rfl⟩
      unfold stepN knOk
      simp only
      rw [ho, decide_eq_true (show 1 ≤ k by omega), decide_eq_true (show k ≤ 19 by omega), decide_eq_false (show ¬ k ≤ 4 by omega), decide_eq_true (show k ≤ 6 by omega)]
      simp only [Bool.and_self, cond_true, cond_false, Ex.top, Ex.size, Ex.depth]
      congr 3 <;> omega
    rw [hs]
    simp only [Ex.size, Ex.tops, List.append_assoc]
    congr 1
    omega
  | .bin k p a b, i, r, S, A, h => by
    unfold Ex.ok at h
    rw [Bool.and_eq_true, Bool.and_eq_true] at h
    have h1 := of_decide_eq_true h.1
    rw [Ex.flat, List.append_assoc, List.append_assoc, topsN_flat a i _ S A h.2.1, topsN_flat b _ _ _ _ h.2.2, List.singleton_append, topsN]
    have hs : stepN (i + a.size + b.size) ⟨k, 0, i + a.size - 1, i + a.size + b.size - 1, p⟩ (b.top (i + a.size) :: a.top i :: S) = some ((Ex.bin k p a b).top i, S) := by
      have ho : okN ⟨k, 0, i + a.size - 1, i + a.size + b.size - 1, p⟩ (a.top i).pos (b.top (i + a.size)).pos = true := by unfold okN; exact decide_eq_true ⟨rfl, rfl, h1.2.2.1, h1.2.2.2, Int.le_refl _, .inr rfl⟩
      unfold stepN knOk
      simp only
      rw [ho, decide_eq_true (show 1 ≤ k by omega), decide_eq_true (show k ≤ 19 by omega), decide_eq_false (show ¬ k ≤ 4 by omega), decide_eq_false (show ¬ k ≤ 6 by omega)]
      simp only [Bool.and_self, cond_true, cond_false, Ex.top, Ex.size, Ex.depth]
      congr 3 <;> omega
    rw [hs]
    simp only [Ex.size, Ex.tops, List.append_assoc]
    congr 1
    omega
theorem Ex.tops_last : ∀ (e : Ex) (i : Int), ∃ l, e.tops i = l ++ [e.top i]
  | .leaf .., i => ⟨[], by simp [Ex.tops, Ex.top, Ex.size, Ex.depth]⟩
  | .un k p e, i => ⟨_, rfl⟩
  | .bin k p a b, i => ⟨a.tops i ++ b.tops (i + a.size), by simp [Ex.tops]⟩
def szF : List Ex → Nat
  | [] => 0
  | e :: fs => szF fs + e.size
def flatF : List Ex → List Nod
  | [] => []
  | e :: fs => flatF fs ++ e.flat (szF fs)
def topF : List Ex → List Top
  | [] => []
  | e :: fs => e.top (szF fs) :: topF fs
theorem stepN_forest {x : Nod} {t : Top} {S' : List Top} : ∀ (fs : List Ex), fs.all Ex.ok = true → stepN (szF fs) x (topF fs) = some (t, S') →
    ∃ fs', fs'.all Ex.ok = true ∧ t :: S' = topF fs' ∧ flatF fs' = flatF fs ++ [x] ∧ szF fs' = szF fs + 1 := by
  intro fs hok hs
  unfold stepN at hs
  cases hk : knOk x.kind with
  | false => rw [hk] at hs; cases hs
  | true =>
    rw [hk, cond_true] at hs
    unfold knOk at hk
    simp only [Bool.and_eq_true, decide_eq_true_eq] at hk
    cases h4 : decide (x.kind ≤ 4) with
    | true =>
      rw [h4, cond_true] at hs
      cases ho : okN x 0 0 with
      | false => rw [ho] at hs; cases hs
      | true =>
        rw [ho] at hs
        cases hs
        obtain ⟨o1, o2, o3, o4, o5, o6⟩ := of_decide_eq_true ho
        have h4 := of_decide_eq_true h4
        refine ⟨.leaf x.kind x.n x.pos :: fs, ?_, ?_, ?_, rfl⟩
        · simp only [List.all_cons, Bool.and_eq_true]
          exact ⟨decide_eq_true ⟨hk.1, h4, o5, o6, o3, o4⟩, hok⟩
        · simp only [topF, Ex.top, Ex.size, Ex.depth]
          congr 2
          omega
        · simp only [flatF, Ex.flat]
          congr 2
          cases x; simp_all
    | false =>
      rw [h4, cond_false] at hs
      cases h6 : decide (x.kind ≤ 6) with
      | true =>
        rw [h6, cond_true] at hs
        cases fs with
        | nil => cases hs
        | cons e fs =>
          simp only [topF] at hs
          cases ho : okN x (e.top (szF fs)).pos 0 with
          | false => rw [ho] at hs; cases hs
          | true =>
            rw [ho] at hs
            cases hs
            obtain ⟨o1, o2, o3, o4, o5, o6⟩ := of_decide_eq_true ho
            have h4 := of_decide_eq_false h4
            have h6 := of_decide_eq_true h6
            simp only [List.all_cons, Bool.and_eq_true] at hok
            refine ⟨.un x.kind x.pos e :: fs, ?_, ?_, ?_, rfl⟩
            · simp only [List.all_cons, Bool.and_eq_true]
              exact ⟨by unfold Ex.ok; rw [Bool.and_eq_true]; exact ⟨decide_eq_true ⟨by omega, h6, o3, o4⟩, hok.1⟩, hok.2⟩
            · simp only [topF, Ex.top, Ex.size, Ex.depth, szF]
              congr 2 <;> omega
            · simp only [flatF, Ex.flat, List.append_assoc]
              congr 3
              simp only [Ex.top] at o1
              cases x; simp_all
              omega
      | false =>
        rw [h6, cond_false] at hs
        match fs, hok, hs with
        | [], _, hs => cases hs
        | [_], _, hs => cases hs
        | b :: a :: fs, hok, hs =>
          simp only [topF] at hs
          cases ho : okN x (a.top (szF fs)).pos (b.top (szF (a :: fs))).pos with
          | false => rw [ho] at hs; cases hs
          | true =>
            rw [ho] at hs
            cases hs
            obtain ⟨o1, o2, o3, o4, o5, o6⟩ := of_decide_eq_true ho
            have h6 := of_decide_eq_false h6
            simp only [List.all_cons, Bool.and_eq_true] at hok
            refine ⟨.bin x.kind x.pos a b :: fs, ?_, ?_, ?_, ?_⟩
            · simp only [List.all_cons, Bool.and_eq_true]
              exact ⟨by unfold Ex.ok; rw [Bool.and_eq_true, Bool.and_eq_true]; exact ⟨decide_eq_true ⟨by omega, hk.2, o3, o4⟩, hok.2.1, hok.1⟩, hok.2.2⟩
            · simp only [topF, Ex.top, Ex.size, Ex.depth, szF]
              congr 2 <;> omega
            · simp only [flatF, Ex.flat, List.append_assoc, szF]
              simp only [Ex.top, szF] at o1 o2
              rw [show ((szF fs + a.size : Nat) : Int) = (szF fs : Int) + a.size from by omega]
              congr 4
              cases x; simp_all
              omega
            · simp only [szF, Ex.size]; omega
theorem topsN_forest : ∀ (l : List Nod) (fs : List Ex) (A : List Top), fs.all Ex.ok = true → (topsN (szF fs) l (topF fs) A).2 = true → ∃ e : Ex, e.ok = true ∧ flatF fs ++ l = e.flat 0
  | [], fs, A, hok, h => by
    unfold topsN at h
    have h : (topF fs).length = 1 := of_decide_eq_true h
    match fs, h with
    | [e], _ =>
      simp only [List.all_cons, List.all_nil, Bool.and_true] at hok
      exact ⟨e, hok, by simp [flatF, szF]⟩
  | x :: l, fs, A, hok, h => by
    unfold topsN at h
    cases hs : stepN (szF fs) x (topF fs) with
    | none => rw [hs] at h; cases h
    | some r =>
      obtain ⟨t, S'⟩ := r
      rw [hs] at h
      simp only at h
      obtain ⟨fs', h1, h2, h3, h4⟩ := stepN_forest fs hok hs
      rw [h2, show ((szF fs : Nat) : Int) + 1 = ((szF fs' : Nat) : Int) from by omega] at h
      obtain ⟨e, g1, g2⟩ := topsN_forest l fs' _ h1 h
      exact ⟨e, g1, by rw [← g2, h3]; simp⟩
theorem topsN_whole {e : Ex} (h : e.ok = true) : topsN 0 (e.flat 0) [] [] = (e.tops 0, true) := by
  have := topsN_flat e 0 [] [] [] h
  rw [List.append_nil] at this
  rw [this]
  simp [topsN]
theorem lastT_tops (e : Ex) : lastT (e.tops 0) = e.top 0 := by
  obtain ⟨l, hl⟩ := e.tops_last 0
  rw [hl]
  simp [lastT, List.getD]
theorem chkN_flat {e : Ex} (h : e.ok = true) : chkN (e.flat 0) = bif decide (60 < e.size) then 4 else bif decide (20 < e.depth) then 34 else 0 := by
  unfold chkN
  rw [topsN_whole h, Ex.flat_len, lastT_tops]
  have : decide (20 < (e.top 0).depth) = decide (20 < e.depth) := by
    have hd : (e.top 0).depth = (e.depth : Int) := rfl
    by_cases h : 20 < e.depth
    · rw [decide_eq_true h]; exact decide_eq_true (by rw [hd]; omega)
    · rw [decide_eq_false h]; exact decide_eq_false (by rw [hd]; omega)
  rw [this]
  rfl
theorem chkN_tree {L : List Nod} (h : chkN L = 0) : ∃ e : Ex, e.ok = true ∧ L = e.flat 0 ∧ e.size ≤ 60 ∧ e.depth ≤ 20 := by
  have h0 := h
  unfold chkN at h
  cases h6 : decide (60 < L.length) with
  | true => rw [h6] at h; cases h
  | false =>
    rw [h6, cond_false] at h
    cases ht : (topsN 0 L [] []).2 with
    | false => rw [ht] at h; cases h
    | true =>
      obtain ⟨e, h1, h2⟩ := topsN_forest L [] [] rfl ht
      have h2 : L = e.flat 0 := h2
      subst h2
      rw [chkN_flat h1] at h0
      refine ⟨e, h1, rfl, ?_, ?_⟩
      · have := of_decide_eq_false h6
        rw [Ex.flat_len] at this
        omega
      · cases hs : decide (60 < e.size) with
        | true => rw [hs] at h0; cases h0
        | false =>
          cases hd : decide (20 < e.depth) with
          | true => rw [hs, hd] at h0; cases h0
          | false => have := of_decide_eq_false hd; omega
structure NodAt (i : Int) (x : Nod) : Prop where
  k1 : 1 ≤ x.kind
  k2 : x.kind ≤ 19
  n0 : 0 ≤ x.n
  nk : x.kind = 1 ∨ x.n = 0
  p0 : 0 ≤ x.pos
  p1 : x.pos ≤ 400
  a0 : 0 ≤ x.a
  b0 : 0 ≤ x.b
  az : x.kind ≤ 4 → x.a = 0
  bz : x.kind ≤ 6 → x.b = 0
  ai : 4 < x.kind → x.a < i
  bi : 6 < x.kind → x.b < i
theorem flat_at : ∀ (e : Ex) (o : Int), 0 ≤ o → e.ok = true → ∀ (j : Nat) (x : Nod), (e.flat o)[j]? = some x → NodAt (o + j) x
  | .leaf k n p, o, h0, h, j, x, hj => by
    have h := of_decide_eq_true h
    cases j with
    | zero =>
      simp only [Ex.flat, List.getElem?_cons_zero, Option.some.injEq] at hj
      subst hj
      exact ⟨by simp only; omega, by simp only; omega, by simp only; omega, by simp only; omega, by simp only; omega, by simp only; omega, Int.le_refl _, Int.le_refl _, fun _ => rfl, fun _ => rfl, fun hk => by simp only at hk; omega, fun hk => by simp only at hk; omega⟩
    | succ j => simp [Ex.flat] at hj
  | .un k p e, o, h0, h, j, x, hj => by
    unfold Ex.ok at h
    rw [Bool.and_eq_true] at h
    have h1 := of_decide_eq_true h.1
    have hp := e.size_pos
    rw [Ex.flat] at hj
    rcases Nat.lt_or_ge j e.size with hl | hl
    · rw [List.getElem?_append_left (by rw [Ex.flat_len]; exact hl)] at hj
      exact flat_at e o h0 h.2 j x hj
    · rw [List.getElem?_append_right (by rw [Ex.flat_len]; exact hl), Ex.flat_len] at hj
      have : j - e.size = 0 := by
        rcases Nat.eq_zero_or_pos (j - e.size) with h | h
        · exact h
        · rw [List.getElem?_eq_none (by simp; omega)] at hj; cases hj
      rw [this] at hj
      simp only [List.getElem?_cons_zero, Option.some.injEq] at hj
      subst hj
      exact ⟨by simp only; omega, by simp only; omega, Int.le_refl _, .inr rfl, by simp only; omega, by simp only; omega, by simp only; omega, Int.le_refl _, fun hk => by simp only at hk; omega, fun _ => rfl, fun _ => by simp only; omega, fun hk => by simp only at hk; omega⟩
  | .bin k p a b, o, h0, h, j, x, hj => by
    unfold Ex.ok at h
    rw [Bool.and_eq_true, Bool.and_eq_true] at h
    have h1 := of_decide_eq_true h.1
    have hp := a.size_pos
    have hq := b.size_pos
    rw [Ex.flat] at hj
    rcases Nat.lt_or_ge j a.size with hl | hl
    · rw [List.getElem?_append_left (by rw [Ex.flat_len]; exact hl)] at hj
      exact flat_at a o h0 h.2.1 j x hj
    · rw [List.getElem?_append_right (by rw [Ex.flat_len]; exact hl), Ex.flat_len] at hj
      rcases Nat.lt_or_ge (j - a.size) b.size with hm | hm
      · rw [List.getElem?_append_left (by rw [Ex.flat_len]; exact hm)] at hj
        have := flat_at b (o + a.size) (by omega) h.2.2 _ x hj
        rwa [show o + a.size + ((j - a.size : Nat) : Int) = o + j from by omega] at this
      · rw [List.getElem?_append_right (by rw [Ex.flat_len]; exact hm), Ex.flat_len] at hj
        have : j - a.size - b.size = 0 := by
          rcases Nat.eq_zero_or_pos (j - a.size - b.size) with h | h
          · exact h
          · rw [List.getElem?_eq_none (by simp; omega)] at hj; cases hj
        rw [this] at hj
        simp only [List.getElem?_cons_zero, Option.some.injEq] at hj
        subst hj
        exact ⟨by simp only; omega, by simp only; omega, Int.le_refl _, .inr rfl, by simp only; omega, by simp only; omega, by simp only; omega, by simp only; omega, fun hk => by simp only at hk; omega, fun hk => by simp only at hk; omega, fun _ => by simp only; omega, fun _ => by simp only; omega⟩
theorem chk_at {L : List Nod} (h : chkN L = 0) (j : Nat) (x : Nod) (hj : L[j]? = some x) : NodAt j x := by
  obtain ⟨e, h1, rfl, _, _⟩ := chkN_tree h
  have := flat_at e 0 (Int.le_refl _) h1 j x hj
  rwa [Int.zero_add] at this
theorem chk_len {L : List Nod} (h : chkN L = 0) : 1 ≤ L.length ∧ L.length ≤ 60 := by
  obtain ⟨e, h1, rfl, h2, _⟩ := chkN_tree h
  rw [Ex.flat_len]
  exact ⟨e.size_pos, h2⟩
end Go.Am
namespace Go.Am
inductive PR where
  | ok (e : Ex) (r : List Tok)
  | bad (err : Int) (n : Nat)
  | out
def notT : List UInt8 := [110, 111, 116]
def opK (t : List UInt8) : Int :=
  bif decide (t = [42]) then 7 else bif decide (t = [43]) then 8 else bif decide (t = [45]) then 9 else bif decide (t = [60, 60]) then 10 else bif decide (t = [62, 62]) then 11 else bif decide (t = [60]) then 12 else
  bif decide (t = [60, 61]) then 13 else bif decide (t = [62]) then 14 else bif decide (t = [62, 61]) then 15 else bif decide (t = [61]) then 16 else bif decide (t = [33, 61]) then 17 else bif decide (t = [97, 110, 100]) then 18 else
  bif decide (t = [111, 114]) then 19 else 0
def bnd (k : Int) : Nat := bif decide (k = 7) then 6 else bif decide (k ≤ 9) then 5 else bif decide (k ≤ 11) then 4 else bif decide (k ≤ 17) then 3 else bif decide (k = 18) then 2 else 1
def fldK (t : List UInt8) : Int := bif decide (t = [107]) then 2 else bif decide (t = [116]) then 3 else bif decide (t = [118]) then 4 else 0
def Tok.is (s : List UInt8) (t : Tok) : Bool := !decide (t.kind = 1) && decide (t.text = s)
def Tok.op (t : Tok) : Bool := !decide (t.kind = 1) && !decide (opK t.text = 0)
def PR.then (x : PR) (f : Ex → List Tok → PR) : PR := match x with
  | .ok e r => f e r
  | y => y
inductive Lv where
  | P
  | O (s : Nat)
  | E (s : Nat)
inductive Gr : Lv → Ex → List Tok → Prop
  | num (t : Tok) : t.kind = 1 → Gr .P (.leaf 1 (rdN t.text) t.pos) [t]
  | fld (t : Tok) : t.kind ≠ 1 → fldK t.text ≠ 0 → Gr .P (.leaf (fldK t.text) 0 t.pos) [t]
  | par (o c : Tok) (e : Ex) (ts : List Tok) : o.is [40] = true → c.is [41] = true → Gr (.E 1) e ts → Gr .P e (o :: (ts ++ [c]))
  | neg (t : Tok) (e : Ex) (ts : List Tok) : t.is [45] = true → Gr (.O 6) e ts → Gr (.O 6) (.un 5 t.pos e) (t :: ts)
  | pos (e : Ex) (ts : List Tok) : Gr .P e ts → Gr (.O 6) e ts
  | inv (t : Tok) (e : Ex) (ts : List Tok) : t.is notT = true → Gr (.O 2) e ts → Gr (.O 2) (.un 6 t.pos e) (t :: ts)
  | pos2 (e : Ex) (ts : List Tok) : Gr (.E 3) e ts → Gr (.O 2) e ts
  | up (s : Nat) (e : Ex) (ts : List Tok) : s = 1 ∨ s = 3 ∨ s = 4 ∨ s = 5 → Gr (.E (s + 1)) e ts → Gr (.O s) e ts
  | one (s : Nat) (e : Ex) (ts : List Tok) : Gr (.O s) e ts → Gr (.E s) e ts
  | bin (s : Nat) (t : Tok) (a b : Ex) (xs ys : List Tok) : s ≠ 3 → t.op = true → bnd (opK t.text) = s → Gr (.E s) a xs → Gr (.O s) b ys → Gr (.E s) (.bin (opK t.text) t.pos a b) (xs ++ t :: ys)
  | cmp (t : Tok) (a b : Ex) (xs ys : List Tok) : t.op = true → bnd (opK t.text) = 3 → Gr (.O 3) a xs → Gr (.O 3) b ys → Gr (.E 3) (.bin (opK t.text) t.pos a b) (xs ++ t :: ys)
end Go.Am
namespace Go.Am
structure Snd (lv : Lv) (e : Ex) (r r' : List Tok) : Prop where
  of : ∃ p, r = p ++ r' ∧ Gr lv e p
  size : e.size ≤ 60
  depth : e.depth ≤ 20
end Go.Am
namespace Go.Am
end Go.Am
namespace Go.Am
structure Pc where
  g : List UInt8
  k : Int
  t : List UInt8
def pcsS : List Pc → List UInt8
  | [] => []
  | p :: r => p.g ++ (p.t ++ pcsS r)
def pcsT (a : Int) : List Pc → List Tok
  | [] => []
  | p :: r => ⟨p.k, p.t, a + p.g.length⟩ :: pcsT (a + p.g.length + p.t.length) r
end Go.Am
namespace Go.Am
open Go.Lib
def lineK (k : Int) : Nat := bif decide (k ≤ 4) then 9 else bif decide (k = 5) then 8 else bif decide (k = 6) then 3 else bif decide (k = 7) then 7 else bif decide (k ≤ 9) then 6 else bif decide (k ≤ 11) then 5 else bif decide (k ≤ 17) then 4 else bif decide (k = 18) then 2 else 1
def opT (k : Int) : List UInt8 :=
  bif decide (k = 7) then [42] else bif decide (k = 8) then [43] else bif decide (k = 9) then [45] else bif decide (k = 10) then [60, 60] else bif decide (k = 11) then [62, 62] else bif decide (k = 12) then [60] else
  bif decide (k = 13) then [60, 61] else bif decide (k = 14) then [62] else bif decide (k = 15) then [62, 61] else bif decide (k = 16) then [61] else bif decide (k = 17) then [33, 61] else bif decide (k = 18) then [97, 110, 100] else [111, 114]
def opTk (k : Int) : Int := bif decide (k ≤ 17) then 3 else 2
def fldT (k : Int) : List UInt8 := bif decide (k = 2) then [107] else bif decide (k = 3) then [116] else [118]
def subL (full : Bool) (n : Nat) : Nat := bif full then 9 else n
def leftL (k : Int) : Nat := bif decide (lineK k = 4) then 5 else lineK k
def brk (b : Bool) (g : List UInt8) (f : List UInt8 → List Pc) : List Pc := bif b then ⟨g, 3, [40]⟩ :: (f [] ++ [⟨[], 3, [41]⟩]) else f g
def Ex.pcs (full : Bool) (g : List UInt8) (least : Nat) : Ex → List Pc
  | .leaf k n _ => bif decide (k = 1) then [⟨g, 1, itoa n⟩] else [⟨g, 2, fldT k⟩]
  | .un k _ e => brk (decide (lineK k < least)) g fun g => bif decide (k = 5) then ⟨g, 3, [45]⟩ :: e.pcs full (bif full then [32] else []) (subL full 8) else ⟨g, 2, notT⟩ :: e.pcs full [32] (subL full 3)
  | .bin k _ a b => brk (decide (lineK k < least)) g fun g => a.pcs full g (subL full (leftL k)) ++ ⟨[32], opTk k, opT k⟩ :: b.pcs full [32] (subL full (lineK k + 1))
def Ex.st : Ex → Ex
  | .leaf k n _ => .leaf k n 0
  | .un k _ e => .un k 0 e.st
  | .bin k _ a b => .bin k 0 a.st b.st
def Ex.rng : Ex → Bool
  | .leaf _ n _ => decide (Rng n)
  | .un _ _ e => e.rng
  | .bin _ _ a b => a.rng && b.rng
end Go.Am
namespace Go.Am
open Go.Lib
def Ex.txt (full : Bool) (e : Ex) : List UInt8 := pcsS (e.pcs full [] 0)
end Go.Am
namespace Go.Am
def eqN (x y : Nod) : Bool := decide (x.kind = y.kind ∧ x.n = y.n ∧ x.a = y.a ∧ x.b = y.b)
def Nod.st (x : Nod) : Nod := { x with pos := 0 }
end Go.Am
namespace Go.Am
open Go.Lib
def nodA (X : List Nod) (i : Int) : Nod := X.getD i.toNat default
def brT (p : Bool) (s : List UInt8) : List UInt8 := bif p then [40] ++ (s ++ [41]) else s
def okX : Nat → List Nod → Int → Bool
  | 0, _, _ => false
  | n + 1, X, i => decide (0 ≤ i ∧ i < (X.length : Int) ∧ 1 ≤ (nodA X i).kind ∧ (nodA X i).kind ≤ 19) && (bif decide ((nodA X i).kind ≤ 4) then true else bif decide ((nodA X i).kind ≤ 6) then okX n X (nodA X i).a else okX n X (nodA X i).a && okX n X (nodA X i).b)
end Go.Am
