/-
  Texts put together: ExPure, ExParse, ExParse2, ExGood, ExLex, ExPrint, ExPrint2, ExSame, ExText, ExCount, ExCount2, ExNn.
-/
import Derived.Test.YtdckpbeioemopabGreatDoorPureA
import Derived.Test.YtdckpbeioemopabGreatDoorLibA
namespace Go.Am
inductive Ex where
  | leaf (k n p : Int)
  | un (k p : Int) (e : Ex)
  | bin (k p : Int) (a b : Ex)
  deriving Inhabited, DecidableEq
def Ex.size : Ex → Nat
  | .leaf .. => 1
  | .un _ _ e => e.size + 1
  | .bin _ _ a b => a.size + b.size + 1
def Ex.depth : Ex → Nat
  | .leaf .. => 1
  | .un _ _ e => e.depth + 1
  | .bin _ _ a b => max a.depth b.depth + 1
def Ex.flat (o : Int) : Ex → List Nod
  | .leaf k n p => [⟨k, n, 0, 0, p⟩]
  | .un k p e => e.flat o ++ [⟨k, 0, o + e.size - 1, 0, p⟩]
  | .bin k p a b => a.flat o ++ (b.flat (o + a.size) ++ [⟨k, 0, o + a.size - 1, o + a.size + b.size - 1, p⟩])
def Ex.ok : Ex → Bool
  | .leaf k n p => decide (1 ≤ k ∧ k ≤ 4 ∧ 0 ≤ n ∧ (k = 1 ∨ n = 0) ∧ 0 ≤ p ∧ p ≤ 400)
  | .un k p e => decide (5 ≤ k ∧ k ≤ 6 ∧ 0 ≤ p ∧ p ≤ 400) && e.ok
  | .bin k p a b => decide (7 ≤ k ∧ k ≤ 19 ∧ 0 ≤ p ∧ p ≤ 400) && (a.ok && b.ok)
theorem Ex.size_pos : ∀ e : Ex, 1 ≤ e.size
  | .leaf .. => Nat.le_refl _
  | .un .. => by simp [Ex.size]
  | .bin .. => by simp [Ex.size]
theorem Ex.flat_len : ∀ (e : Ex) (o : Int), (e.flat o).length = e.size
  | .leaf .., _ => rfl
  | .un _ _ e, o => by simp [Ex.flat, Ex.size, e.flat_len]
  | .bin _ _ a b, o => by simp [Ex.flat, Ex.size, a.flat_len, b.flat_len]; omega
def Ex.top (o : Int) (e : Ex) : Top := ⟨o + e.size - 1, e.size, e.depth⟩
def Ex.tops (o : Int) : Ex → List Top
  | .leaf .. => [⟨o, 1, 1⟩]
  | .un k p e => e.tops o ++ [(Ex.un k p e).top o]
  | .bin k p a b => a.tops o ++ (b.tops (o + a.size) ++ [(Ex.bin k p a b).top o])
theorem topsN_flat : ∀ (e : Ex) (i : Int) (r : List Nod) (S A : List Top), e.ok = true → topsN i (e.flat i ++ r) S A = topsN (i + e.size) r (e.top i :: S) (A ++ e.tops i)
  | .leaf k n p, i, r, S, A, h => by
    have h := of_decide_eq_true h
    show topsN i (⟨k, n, 0, 0, p⟩ :: r) S A = _
    rw [topsN]
    have hs : stepN i ⟨k, n, 0, 0, p⟩ S = some (⟨i, 1, 1⟩, S) := by
      have ho : okN ⟨k, n, 0, 0, p⟩ 0 0 = true := by unfold okN; exact decide_eq_true ⟨rfl, rfl, h.2.2.2.2.1, h.2.2.2.2.2, h.2.2.1, h.2.2.2.1⟩
      unfold stepN knOk
      simp only
      rw [ho, decide_eq_true (show 1 ≤ k by omega), decide_eq_true (show k ≤ 19 by omega), decide_eq_true (show k ≤ 4 by omega)]
      rfl
    rw [hs]
    simp [Ex.size, Ex.top, Ex.tops, Ex.depth]
  | .un k p e, i, r, S, A, h => by
    unfold Ex.ok at h
    rw [Bool.and_eq_true] at h
    have h1 := of_decide_eq_true h.1
    rw [Ex.flat, List.append_assoc, topsN_flat e i _ S A h.2, List.singleton_append, topsN]
    have hs : stepN (i + e.size) ⟨k, 0, i + e.size - 1, 0, p⟩ (e.top i :: S) = some ((Ex.un k p e).top i, S) := by
      have ho : okN ⟨k, 0, i + e.size - 1, 0, p⟩ (e.top i).pos 0 = true := by unfold okN; exact decide_eq_true ⟨rfl, rfl, h1.2.2.1, h1.2.2.2, Int.le_refl _, .inr rfl⟩
      unfold stepN knOk
      simp only
      rw [ho, decide_eq_true (show 1 ≤ k by omega), decide_eq_true (show k ≤ 19 by omega), decide_eq_false (show ¬ k ≤ 4 by omega), decide_eq_true (show k ≤ 6 by omega)]
      simp only [Bool.and_self, cond_true, cond_false, Ex.top, Ex.size, Ex.depth]
      congr 3 <;> omega
    rw [hs]
    simp only [Ex.size, Ex.tops, List.append_assoc]
    congr 1
    omega
  | .bin k p a b, i, r, S, A, h => by
    unfold Ex.ok at h
    rw [Bool.and_eq_true, Bool.and_eq_true] at h
    have h1 := of_decide_eq_true h.1
    rw [Ex.flat, List.append_assoc, List.append_assoc, topsN_flat a i _ S A h.2.1, topsN_flat b _ _ _ _ h.2.2, List.singleton_append, topsN]
    have hs : stepN (i + a.size + b.size) ⟨k, 0, i + a.size - 1, i + a.size + b.size - 1, p⟩ (b.top (i + a.size) :: a.top i :: S) = some ((Ex.bin k p a b).top i, S) := by
      have ho : okN ⟨k, 0, i + a.size - 1, i + a.size + b.size - 1, p⟩ (a.top i).pos (b.top (i + a.size)).pos = true := by unfold okN; exact decide_eq_true ⟨rfl, rfl, h1.2.2.1, h1.2.2.2, Int.le_refl _, .inr rfl⟩
      unfold stepN knOk
      simp only
      rw [ho, decide_eq_true (show 1 ≤ k by omega), decide_eq_true (show k ≤ 19 by omega), decide_eq_false (show ¬ k ≤ 4 by omega), decide_eq_false (show ¬ k ≤ 6 by omega)]
      simp only [Bool.and_self, cond_true, cond_false, Ex.top, Ex.size, Ex.depth]
      congr 3 <;> omega
    rw [hs]
    simp only [Ex.size, Ex.tops, List.append_assoc]
    congr 1
    omega
theorem Ex.tops_last : ∀ (e : Ex) (i : Int), ∃ l, e.tops i = l ++ [e.top i]
  | .leaf .., i => ⟨[], by simp [Ex.tops, Ex.top, Ex.size, Ex.depth]⟩
  | .un k p e, i => ⟨_, rfl⟩
  | .bin k p a b, i => ⟨a.tops i ++ b.tops (i + a.size), by simp [Ex.tops]⟩
def szF : List Ex → Nat
  | [] => 0
  | e :: fs => szF fs + e.size
def flatF : List Ex → List Nod
  | [] => []
  | e :: fs => flatF fs ++ e.flat (szF fs)
def topF : List Ex → List Top
  | [] => []
  | e :: fs => e.top (szF fs) :: topF fs
theorem stepN_forest {x : Nod} {t : Top} {S' : List Top} : ∀ (fs : List Ex), fs.all Ex.ok = true → stepN (szF fs) x (topF fs) = some (t, S') →
    ∃ fs', fs'.all Ex.ok = true ∧ t :: S' = topF fs' ∧ flatF fs' = flatF fs ++ [x] ∧ szF fs' = szF fs + 1 := by
  intro fs hok hs
  unfold stepN at hs
  cases hk : knOk x.kind with
  | false => rw [hk] at hs; cases hs
  | true =>
    rw [hk, cond_true] at hs
    unfold knOk at hk
    simp only [Bool.and_eq_true, decide_eq_true_eq] at hk
    cases h4 : decide (x.kind ≤ 4) with
    | true =>
      rw [h4, cond_true] at hs
      cases ho : okN x 0 0 with
      | false => rw [ho] at hs; cases hs
      | true =>
        rw [ho] at hs
        cases hs
        obtain ⟨o1, o2, o3, o4, o5, o6⟩ := of_decide_eq_true ho
        have h4 := of_decide_eq_true h4
        refine ⟨.leaf x.kind x.n x.pos :: fs, ?_, ?_, ?_, rfl⟩
        · simp only [List.all_cons, Bool.and_eq_true]
          exact ⟨decide_eq_true ⟨hk.1, h4, o5, o6, o3, o4⟩, hok⟩
        · simp only [topF, Ex.top, Ex.size, Ex.depth]
          congr 2
          omega
        · simp only [flatF, Ex.flat]
          congr 2
          cases x; simp_all
    | false =>
      rw [h4, cond_false] at hs
      cases h6 : decide (x.kind ≤ 6) with
      | true =>
        rw [h6, cond_true] at hs
        cases fs with
        | nil => cases hs
        | cons e fs =>
          simp only [topF] at hs
          cases ho : okN x (e.top (szF fs)).pos 0 with
          | false => rw [ho] at hs; cases hs
          | true =>
            rw [ho] at hs
            cases hs
            obtain ⟨o1, o2, o3, o4, o5, o6⟩ := of_decide_eq_true ho
            have h4 := of_decide_eq_false h4
            have h6 := of_decide_eq_true h6
            simp only [List.all_cons, Bool.and_eq_true] at hok
            refine ⟨.un x.kind x.pos e :: fs, ?_, ?_, ?_, rfl⟩
            · simp only [List.all_cons, Bool.and_eq_true]
              exact ⟨by unfold Ex.ok; rw [Bool.and_eq_true]; exact ⟨decide_eq_true ⟨by omega, h6, o3, o4⟩, hok.1⟩, hok.2⟩
            · simp only [topF, Ex.top, Ex.size, Ex.depth, szF]
              congr 2 <;> omega
            · simp only [flatF, Ex.flat, List.append_assoc]
              congr 3
              simp only [Ex.top] at o1
              cases x; simp_all
              omega
      | false =>
        rw [h6, cond_false] at hs
        match fs, hok, hs with
        | [], _, hs => cases hs
        | [_], _, hs => cases hs
        | b :: a :: fs, hok, hs =>
          simp only [topF] at hs
          cases ho : okN x (a.top (szF fs)).pos (b.top (szF (a :: fs))).pos with
          | false => rw [ho] at hs; cases hs
          | true =>
            rw [ho] at hs
            cases hs
            obtain ⟨o1, o2, o3, o4, o5, o6⟩ := of_decide_eq_true ho
            have h6 := of_decide_eq_false h6
            simp only [List.all_cons, Bool.and_eq_true] at hok
            refine ⟨.bin x.kind x.pos a b :: fs, ?_, ?_, ?_, ?_⟩
            · simp only [List.all_cons, Bool.and_eq_true]
              exact ⟨by unfold Ex.ok; rw [Bool.and_eq_true, Bool.and_eq_true]; exact ⟨decide_eq_true ⟨by omega, hk.2, o3, o4⟩, hok.2.1, hok.1⟩, hok.2.2⟩
            · simp only [topF, Ex.top, Ex.size, Ex.depth, szF]
              congr 2 <;> omega
            · simp only [flatF, Ex.flat, List.append_assoc, szF]
              simp only [Ex.top, szF] at o1 o2
              rw [show ((szF fs + a.size : Nat) : Int) = (szF fs : Int) + a.size from by omega]
              congr 4
              cases x; simp_all
              omega
            · simp only [szF, Ex.size]; omega
theorem topsN_forest : ∀ (l : List Nod) (fs : List Ex) (A : List Top), fs.all Ex.ok = true → (topsN (szF fs) l (topF fs) A).2 = true → ∃ e : Ex, e.ok = true ∧ flatF fs ++ l = e.flat 0
  | [], fs, A, hok, h => by
    unfold topsN at h
    have h : (topF fs).length = 1 := of_decide_eq_true h
    match fs, h with
    | [e], _ =>
      simp only [List.all_cons, List.all_nil, Bool.and_true] at hok
      exact ⟨e, hok, by simp [flatF, szF]⟩
  | x :: l, fs, A, hok, h => by
    unfold topsN at h
    cases hs : stepN (szF fs) x (topF fs) with
    | none => rw [hs] at h; cases h
    | some r =>
      obtain ⟨t, S'⟩ := r
      rw [hs] at h
      simp only at h
      obtain ⟨fs', h1, h2, h3, h4⟩ := stepN_forest fs hok hs
      rw [h2, show ((szF fs : Nat) : Int) + 1 = ((szF fs' : Nat) : Int) from by omega] at h
      obtain ⟨e, g1, g2⟩ := topsN_forest l fs' _ h1 h
      exact ⟨e, g1, by rw [← g2, h3]; simp⟩
theorem topsN_whole {e : Ex} (h : e.ok = true) : topsN 0 (e.flat 0) [] [] = (e.tops 0, true) := by
  have := topsN_flat e 0 [] [] [] h
  rw [List.append_nil] at this
  rw [this]
  simp [topsN]
theorem lastT_tops (e : Ex) : lastT (e.tops 0) = e.top 0 := by
  obtain ⟨l, hl⟩ := e.tops_last 0
  rw [hl]
  simp [lastT, List.getD]
theorem chkN_flat {e : Ex} (h : e.ok = true) : chkN (e.flat 0) = bif decide (60 < e.size) then 4 else bif decide (20 < e.depth) then 34 else 0 := by
  unfold chkN
  rw [topsN_whole h, Ex.flat_len, lastT_tops]
  have : decide (20 < (e.top 0).depth) = decide (20 < e.depth) := by
    have hd : (e.top 0).depth = (e.depth : Int) := rfl
    by_cases h : 20 < e.depth
    · rw [decide_eq_true h]; exact decide_eq_true (by rw [hd]; omega)
    · rw [decide_eq_false h]; exact decide_eq_false (by rw [hd]; omega)
  rw [this]
  rfl
theorem chkN_tree {L : List Nod} (h : chkN L = 0) : ∃ e : Ex, e.ok = true ∧ L = e.flat 0 ∧ e.size ≤ 60 ∧ e.depth ≤ 20 := by
  have h0 := h
  unfold chkN at h
  cases h6 : decide (60 < L.length) with
  | true => rw [h6] at h; cases h
  | false =>
    rw [h6, cond_false] at h
    cases ht : (topsN 0 L [] []).2 with
    | false => rw [ht] at h; cases h
    | true =>
      obtain ⟨e, h1, h2⟩ := topsN_forest L [] [] rfl ht
      have h2 : L = e.flat 0 := h2
      subst h2
      rw [chkN_flat h1] at h0
      refine ⟨e, h1, rfl, ?_, ?_⟩
      · have := of_decide_eq_false h6
        rw [Ex.flat_len] at this
        omega
      · cases hs : decide (60 < e.size) with
        | true => rw [hs] at h0; cases h0
        | false =>
          cases hd : decide (20 < e.depth) with
          | true => rw [hs, hd] at h0; cases h0
          | false => have := of_decide_eq_false hd; omega
structure NodAt (i : Int) (x : Nod) : Prop where
  k1 : 1 ≤ x.kind
  k2 : x.kind ≤ 19
  n0 : 0 ≤ x.n
  nk : x.kind = 1 ∨ x.n = 0
  p0 : 0 ≤ x.pos
  p1 : x.pos ≤ 400
  a0 : 0 ≤ x.a
  b0 : 0 ≤ x.b
  az : x.kind ≤ 4 → x.a = 0
  bz : x.kind ≤ 6 → x.b = 0
  ai : 4 < x.kind → x.a < i
  bi : 6 < x.kind → x.b < i
theorem flat_at : ∀ (e : Ex) (o : Int), 0 ≤ o → e.ok = true → ∀ (j : Nat) (x : Nod), (e.flat o)[j]? = some x → NodAt (o + j) x
  | .leaf k n p, o, h0, h, j, x, hj => by
    have h := of_decide_eq_true h
    cases j with
    | zero =>
      simp only [Ex.flat, List.getElem?_cons_zero, Option.some.injEq] at hj
      subst hj
      exact ⟨by simp only; omega, by simp only; omega, by simp only; omega, by simp only; omega, by simp only; omega, by simp only; omega, Int.le_refl _, Int.le_refl _, fun _ => rfl, fun _ => rfl, fun hk => by simp only at hk; omega, fun hk => by simp only at hk; omega⟩
    | succ j => simp [Ex.flat] at hj
  | .un k p e, o, h0, h, j, x, hj => by
    unfold Ex.ok at h
    rw [Bool.and_eq_true] at h
    have h1 := of_decide_eq_true h.1
    have hp := e.size_pos
    rw [Ex.flat] at hj
    rcases Nat.lt_or_ge j e.size with hl | hl
    · rw [List.getElem?_append_left (by rw [Ex.flat_len]; exact hl)] at hj
      exact flat_at e o h0 h.2 j x hj
    · rw [List.getElem?_append_right (by rw [Ex.flat_len]; exact hl), Ex.flat_len] at hj
      have : j - e.size = 0 := by
        rcases Nat.eq_zero_or_pos (j - e.size) with h | h
        · exact h
        · rw [List.getElem?_eq_none (by simp; omega)] at hj; cases hj
      rw [this] at hj
      simp only [List.getElem?_cons_zero, Option.some.injEq] at hj
      subst hj
      exact ⟨by simp only; omega, by simp only; omega, Int.le_refl _, .inr rfl, by simp only; omega, by simp only; omega, by simp only; omega, Int.le_refl _, fun hk => by simp only at hk; omega, fun _ => rfl, fun _ => by simp only; omega, fun hk => by simp only at hk; omega⟩
  | .bin k p a b, o, h0, h, j, x, hj => by
    unfold Ex.ok at h
    rw [Bool.and_eq_true, Bool.and_eq_true] at h
    have h1 := of_decide_eq_true h.1
    have hp := a.size_pos
    have hq := b.size_pos
    rw [Ex.flat] at hj
    rcases Nat.lt_or_ge j a.size with hl | hl
    · rw [List.getElem?_append_left (by rw [Ex.flat_len]; exact hl)] at hj
      exact flat_at a o h0 h.2.1 j x hj
    · rw [List.getElem?_append_right (by rw [Ex.flat_len]; exact hl), Ex.flat_len] at hj
      rcases Nat.lt_or_ge (j - a.size) b.size with hm | hm
      · rw [List.getElem?_append_left (by rw [Ex.flat_len]; exact hm)] at hj
        have := flat_at b (o + a.size) (by omega) h.2.2 _ x hj
        rwa [show o + a.size + ((j - a.size : Nat) : Int) = o + j from by omega] at this
      · rw [List.getElem?_append_right (by rw [Ex.flat_len]; exact hm), Ex.flat_len] at hj
        have : j - a.size - b.size = 0 := by
          rcases Nat.eq_zero_or_pos (j - a.size - b.size) with h | h
          · exact h
          · rw [List.getElem?_eq_none (by simp; omega)] at hj; cases hj
        rw [this] at hj
        simp only [List.getElem?_cons_zero, Option.some.injEq] at hj
        subst hj
        exact ⟨by simp only; omega, by simp only; omega, Int.le_refl _, .inr rfl, by simp only; omega, by simp only; omega, by simp only; omega, by simp only; omega, fun hk => by simp only at hk; omega, fun hk => by simp only at hk; omega, fun _ => by simp only; omega, fun _ => by simp only; omega⟩
theorem chk_at {L : List Nod} (h : chkN L = 0) (j : Nat) (x : Nod) (hj : L[j]? = some x) : NodAt j x := by
  obtain ⟨e, h1, rfl, _, _⟩ := chkN_tree h
  have := flat_at e 0 (Int.le_refl _) h1 j x hj
  rwa [Int.zero_add] at this
theorem chk_len {L : List Nod} (h : chkN L = 0) : 1 ≤ L.length ∧ L.length ≤ 60 := by
  obtain ⟨e, h1, rfl, h2, _⟩ := chkN_tree h
  rw [Ex.flat_len]
  exact ⟨e.size_pos, h2⟩
end Go.Am
namespace Go.Am
inductive PR where
  | ok (e : Ex) (r : List Tok)
  | bad (err : Int) (n : Nat)
  | out
def notT : List UInt8 := [110, 111, 116]
def opK (t : List UInt8) : Int :=
  bif decide (t = [42]) then 7 else bif decide (t = [43]) then 8 else bif decide (t = [45]) then 9 else bif decide (t = [60, 60]) then 10 else bif decide (t = [62, 62]) then 11 else bif decide (t = [60]) then 12 else
  bif decide (t = [60, 61]) then 13 else bif decide (t = [62]) then 14 else bif decide (t = [62, 61]) then 15 else bif decide (t = [61]) then 16 else bif decide (t = [33, 61]) then 17 else bif decide (t = [97, 110, 100]) then 18 else
  bif decide (t = [111, 114]) then 19 else 0
def bnd (k : Int) : Nat := bif decide (k = 7) then 6 else bif decide (k ≤ 9) then 5 else bif decide (k ≤ 11) then 4 else bif decide (k ≤ 17) then 3 else bif decide (k = 18) then 2 else 1
def fldK (t : List UInt8) : Int := bif decide (t = [107]) then 2 else bif decide (t = [116]) then 3 else bif decide (t = [118]) then 4 else 0
def Tok.is (s : List UInt8) (t : Tok) : Bool := !decide (t.kind = 1) && decide (t.text = s)
def Tok.op (t : Tok) : Bool := !decide (t.kind = 1) && !decide (opK t.text = 0)
def node1 (e : Ex) (n : Nat) (r : List Tok) : PR := bif decide (60 < e.size) then .bad 4 n else bif decide (20 < e.depth) then .bad 34 n else .ok e r
def shutP (e : Ex) : List Tok → PR
  | [] => .bad 12 0
  | c :: q => bif c.is [41] then .ok e q else .bad 12 (q.length + 1)
def PR.then (x : PR) (f : Ex → List Tok → PR) : PR := match x with
  | .ok e r => f e r
  | y => y
def pPrim (rec : Nat → List Tok → PR) : List Tok → PR
  | [] => .bad 12 0
  | t :: q => bif decide (t.kind = 1) then .ok (.leaf 1 (rdN t.text) t.pos) q
    else bif !decide (fldK t.text = 0) then .ok (.leaf (fldK t.text) 0 t.pos) q
    else bif decide (t.text = [40]) then (rec 1 q).then shutP
    else .bad 12 (q.length + 1)
def sgnN (s : List UInt8) : List Tok → Nat
  | [] => 0
  | t :: q => bif t.is s then sgnN s q + 1 else 0
def unW (k : Int) : Nat → List Tok → PR → PR
  | 0, _, x => x
  | m + 1, t :: q, x => (unW k m q x).then fun e r => node1 (.un k t.pos e) (q.length + 1) r
  | _ + 1, [], x => x
def pFront (rec : Nat → List Tok → PR) (s : Nat) (r : List Tok) : PR :=
  bif decide (s ≤ 2) then unW 6 (sgnN notT r) r (rec 3 (r.drop (sgnN notT r))) else unW 5 (sgnN [45] r) r (pPrim rec (r.drop (sgnN [45] r)))
def pOp (rec : Nat → List Tok → PR) (s : Nat) (r : List Tok) : PR := bif decide (s = 2 ∨ s = 6) then pFront rec s r else rec (s + 1) r
def pLoop (rec : Nat → List Tok → PR) (s : Nat) : Nat → Ex → List Tok → PR
  | 0, _, _ => .out
  | _ + 1, l, [] => .ok l []
  | m + 1, l, t :: q => bif t.op && decide (bnd (opK t.text) = s) then
      (pOp rec s q).then fun e q' => (node1 (.bin (opK t.text) t.pos l e) (q.length + 1) q').then fun l' q' => bif decide (s = 3) then .ok l' q' else pLoop rec s m l' q'
    else .ok l (t :: q)
def pE : Nat → Nat → List Tok → PR
  | 0, _, _ => .out
  | n + 1, s, r => (pOp (pE n) s r).then fun l r' => pLoop (pE n) s (r'.length + 1) l r'
inductive Lv where
  | P
  | O (s : Nat)
  | E (s : Nat)
inductive Gr : Lv → Ex → List Tok → Prop
  | num (t : Tok) : t.kind = 1 → Gr .P (.leaf 1 (rdN t.text) t.pos) [t]
  | fld (t : Tok) : t.kind ≠ 1 → fldK t.text ≠ 0 → Gr .P (.leaf (fldK t.text) 0 t.pos) [t]
  | par (o c : Tok) (e : Ex) (ts : List Tok) : o.is [40] = true → c.is [41] = true → Gr (.E 1) e ts → Gr .P e (o :: (ts ++ [c]))
  | neg (t : Tok) (e : Ex) (ts : List Tok) : t.is [45] = true → Gr (.O 6) e ts → Gr (.O 6) (.un 5 t.pos e) (t :: ts)
  | pos (e : Ex) (ts : List Tok) : Gr .P e ts → Gr (.O 6) e ts
  | inv (t : Tok) (e : Ex) (ts : List Tok) : t.is notT = true → Gr (.O 2) e ts → Gr (.O 2) (.un 6 t.pos e) (t :: ts)
  | pos2 (e : Ex) (ts : List Tok) : Gr (.E 3) e ts → Gr (.O 2) e ts
  | up (s : Nat) (e : Ex) (ts : List Tok) : s = 1 ∨ s = 3 ∨ s = 4 ∨ s = 5 → Gr (.E (s + 1)) e ts → Gr (.O s) e ts
  | one (s : Nat) (e : Ex) (ts : List Tok) : Gr (.O s) e ts → Gr (.E s) e ts
  | bin (s : Nat) (t : Tok) (a b : Ex) (xs ys : List Tok) : s ≠ 3 → t.op = true → bnd (opK t.text) = s → Gr (.E s) a xs → Gr (.O s) b ys → Gr (.E s) (.bin (opK t.text) t.pos a b) (xs ++ t :: ys)
  | cmp (t : Tok) (a b : Ex) (xs ys : List Tok) : t.op = true → bnd (opK t.text) = 3 → Gr (.O 3) a xs → Gr (.O 3) b ys → Gr (.E 3) (.bin (opK t.text) t.pos a b) (xs ++ t :: ys)
theorem pPrim_cons (rec : Nat → List Tok → PR) (t : Tok) (q : List Tok) : pPrim rec (t :: q) = bif decide (t.kind = 1) then .ok (.leaf 1 (rdN t.text) t.pos) q
    else bif !decide (fldK t.text = 0) then .ok (.leaf (fldK t.text) 0 t.pos) q else bif decide (t.text = [40]) then (rec 1 q).then shutP else .bad 12 (q.length + 1) := rfl
theorem shut_cons (e : Ex) (c : Tok) (q : List Tok) : shutP e (c :: q) = bif c.is [41] then .ok e q else .bad 12 (q.length + 1) := rfl
theorem pLoop_cons (rec : Nat → List Tok → PR) (s m : Nat) (l : Ex) (t : Tok) (q : List Tok) : pLoop rec s (m + 1) l (t :: q) = bif t.op && decide (bnd (opK t.text) = s) then
      (pOp rec s q).then fun e q' => (node1 (.bin (opK t.text) t.pos l e) (q.length + 1) q').then fun l' q' => bif decide (s = 3) then .ok l' q' else pLoop rec s m l' q'
    else .ok l (t :: q) := rfl
theorem pOp_6 (rec : Nat → List Tok → PR) (r : List Tok) : pOp rec 6 r = unW 5 (sgnN [45] r) r (pPrim rec (r.drop (sgnN [45] r))) := rfl
theorem pOp_2 (rec : Nat → List Tok → PR) (r : List Tok) : pOp rec 2 r = unW 6 (sgnN notT r) r (rec 3 (r.drop (sgnN notT r))) := rfl
def hdOk : Lv → Tok → Bool
  | .P, t => !t.is [45] && !t.is notT
  | .O s, t => !decide (3 ≤ s) || !t.is notT
  | .E s, t => !decide (3 ≤ s) || !t.is notT
theorem is_ne {s u : List UInt8} (h : s ≠ u) {t : Tok} (ht : t.is s = true) : t.is u = false := by
  unfold Tok.is at ht ⊢
  rw [Bool.and_eq_true] at ht
  have := of_decide_eq_true ht.2
  rw [this, decide_eq_false h, Bool.and_false]
theorem gr_hd : ∀ {lv : Lv} {e : Ex} {ts : List Tok}, Gr lv e ts → ∃ t q, ts = t :: q ∧ hdOk lv t = true := by
  intro lv e ts h
  induction h with
  | num t h => exact ⟨t, [], rfl, by simp [hdOk, Tok.is, h]⟩
  | fld t h hf =>
    refine ⟨t, [], rfl, ?_⟩
    have h1 : t.text ≠ [45] := fun e => hf (by rw [e]; rfl)
    have h2 : t.text ≠ notT := fun e => hf (by rw [e]; rfl)
    simp [hdOk, Tok.is, h1, h2]
  | par o c e ts ho hc _ _ => exact ⟨o, _, rfl, by simp [hdOk, is_ne (s := [40]) (u := [45]) (by decide) ho, is_ne (s := [40]) (u := notT) (by decide) ho]⟩
  | neg t e ts ht _ _ => exact ⟨t, ts, rfl, by simp [hdOk, is_ne (s := [45]) (u := notT) (by decide) ht]⟩
  | pos e ts _ ih =>
    obtain ⟨t, q, h1, h2⟩ := ih
    refine ⟨t, q, h1, ?_⟩
    simp only [hdOk, Bool.and_eq_true] at h2 ⊢
    rw [h2.2]; rfl
  | inv t e ts ht _ _ => exact ⟨t, ts, rfl, rfl⟩
  | pos2 e ts _ ih =>
    obtain ⟨t, q, h1, _⟩ := ih
    exact ⟨t, q, h1, rfl⟩
  | up s e ts hs _ ih =>
    obtain ⟨t, q, h1, h2⟩ := ih
    refine ⟨t, q, h1, ?_⟩
    simp only [hdOk] at h2 ⊢
    rcases hs with rfl | rfl | rfl | rfl
    · rfl
    · exact h2
    · exact h2
    · exact h2
  | one s e ts _ ih => exact ih
  | bin s t a b xs ys _ _ _ _ _ ih _ =>
    obtain ⟨t', q, h1, h2⟩ := ih
    exact ⟨t', q ++ t :: ys, by rw [h1]; rfl, h2⟩
  | cmp t a b xs ys _ _ _ _ ih _ =>
    obtain ⟨t', q, h1, h2⟩ := ih
    exact ⟨t', q ++ t :: ys, by rw [h1]; rfl, h2⟩
theorem gr_pos {lv : Lv} {e : Ex} {ts : List Tok} (h : Gr lv e ts) : 0 < ts.length := by
  obtain ⟨t, q, rfl, _⟩ := gr_hd h
  simp
end Go.Am
namespace Go.Am
structure Snd (lv : Lv) (e : Ex) (r r' : List Tok) : Prop where
  of : ∃ p, r = p ++ r' ∧ Gr lv e p
  size : e.size ≤ 60
  depth : e.depth ≤ 20
theorem then_ok {x : PR} {f : Ex → List Tok → PR} {e : Ex} {r : List Tok} (h : x.then f = .ok e r) : ∃ e0 r0, x = .ok e0 r0 ∧ f e0 r0 = .ok e r := by
  cases x with
  | ok e0 r0 => exact ⟨e0, r0, rfl, h⟩
  | bad => cases h
  | out => cases h
theorem node1_inv {e e' : Ex} {n : Nat} {r r' : List Tok} (h : node1 e n r = .ok e' r') : e' = e ∧ r' = r ∧ e.size ≤ 60 ∧ e.depth ≤ 20 := by
  unfold node1 at h
  cases h1 : decide (60 < e.size) with
  | true => rw [h1] at h; cases h
  | false =>
    cases h2 : decide (20 < e.depth) with
    | true => rw [h1, h2] at h; cases h
    | false =>
      rw [h1, h2] at h
      cases h
      have := of_decide_eq_false h1
      have := of_decide_eq_false h2
      exact ⟨rfl, rfl, by omega, by omega⟩
theorem prim_sound {rec : Nat → List Tok → PR} (hrec : ∀ s r e r', rec s r = .ok e r' → 1 ≤ s → s ≤ 6 → Snd (.E s) e r r') {r : List Tok} {e : Ex} {r' : List Tok} (h : pPrim rec r = .ok e r') : Snd .P e r r' := by
  cases r with
  | nil => cases h
  | cons t q =>
    rw [pPrim_cons] at h
    cases h1 : decide (t.kind = 1) with
    | true =>
      rw [h1] at h
      cases h
      exact ⟨⟨[t], rfl, .num t (of_decide_eq_true h1)⟩, by simp [Ex.size], by simp [Ex.depth]⟩
    | false =>
      rw [h1, cond_false] at h
      have h1 := of_decide_eq_false h1
      cases h2 : decide (fldK t.text = 0) with
      | false =>
        rw [h2] at h
        cases h
        exact ⟨⟨[t], rfl, .fld t h1 (of_decide_eq_false h2)⟩, by simp [Ex.size], by simp [Ex.depth]⟩
      | true =>
        rw [h2, Bool.not_true, cond_false] at h
        cases h3 : decide (t.text = [40]) with
        | false => rw [h3] at h; cases h
        | true =>
          rw [h3, cond_true] at h
          obtain ⟨e0, r0, h4, h5⟩ := then_ok h
          obtain ⟨⟨p, hp, hg⟩, hs, hd⟩ := hrec 1 q e0 r0 h4 (by omega) (by omega)
          cases r0 with
          | nil => cases h5
          | cons c r0 =>
            rw [shut_cons] at h5
            cases hc : c.is [41] with
            | false => rw [hc] at h5; cases h5
            | true =>
              rw [hc] at h5
              cases h5
              refine ⟨⟨t :: (p ++ [c]), by rw [hp]; simp, .par t c e p ?_ hc hg⟩, hs, hd⟩
              unfold Tok.is
              rw [decide_eq_false h1, h3]; rfl
theorem unW_sound {lv : Lv} {k : Int} {s : List UInt8} (hw : ∀ (t : Tok) e p, t.is s = true → Gr lv e p → Gr lv (.un k t.pos e) (t :: p)) : ∀ (r : List Tok) (x : PR) (e : Ex) (r' : List Tok),
    (∀ e0 r0, x = .ok e0 r0 → Snd lv e0 (r.drop (sgnN s r)) r0) → unW k (sgnN s r) r x = .ok e r' → Snd lv e r r'
  | [], x, e, r', hx, h => by
    have h : x = .ok e r' := h
    exact hx e r' h
  | t :: q, x, e, r', hx, h => by
    cases ht : t.is s with
    | false =>
      have hs : sgnN s (t :: q) = 0 := by rw [sgnN, ht]; rfl
      rw [hs] at h hx
      have h : x = .ok e r' := h
      exact hx e r' h
    | true =>
      have hs : sgnN s (t :: q) = sgnN s q + 1 := by rw [sgnN, ht]; rfl
      rw [hs] at h hx
      unfold unW at h
      obtain ⟨e0, r0, h1, h2⟩ := then_ok h
      obtain ⟨rfl, rfl, g1, g2⟩ := node1_inv h2
      obtain ⟨⟨p, hp, hg⟩, _, _⟩ := unW_sound hw q x e0 r' (fun e1 r1 h => hx e1 r1 h) h1
      exact ⟨⟨t :: p, by rw [hp]; rfl, hw t e0 p ht hg⟩, g1, g2⟩
theorem op_sound {rec : Nat → List Tok → PR} (hrec : ∀ s r e r', rec s r = .ok e r' → 1 ≤ s → s ≤ 6 → Snd (.E s) e r r') {s : Nat} (h1 : 1 ≤ s) (h6 : s ≤ 6) {r : List Tok} {e : Ex} {r' : List Tok} (h : pOp rec s r = .ok e r') : Snd (.O s) e r r' := by
  unfold pOp at h
  by_cases hs : s = 2 ∨ s = 6
  · rw [decide_eq_true hs, cond_true] at h
    unfold pFront at h
    rcases hs with rfl | rfl
    · rw [decide_eq_true (show 2 ≤ 2 by omega), cond_true] at h
      refine unW_sound (fun t e p ht hg => .inv t e p ht hg) r _ e r' (fun e0 r0 h0 => ?_) h
      obtain ⟨⟨p, hp, hg⟩, g1, g2⟩ := hrec 3 _ _ _ h0 (by omega) (by omega)
      exact ⟨⟨p, hp, .pos2 _ _ hg⟩, g1, g2⟩
    · rw [decide_eq_false (show ¬ 6 ≤ 2 by omega), cond_false] at h
      refine unW_sound (fun t e p ht hg => .neg t e p ht hg) r _ e r' (fun e0 r0 h0 => ?_) h
      obtain ⟨⟨p, hp, hg⟩, g1, g2⟩ := prim_sound hrec h0
      exact ⟨⟨p, hp, .pos _ _ hg⟩, g1, g2⟩
  · rw [decide_eq_false hs, cond_false] at h
    obtain ⟨⟨p, hp, hg⟩, g1, g2⟩ := hrec (s + 1) _ _ _ h (by omega) (by omega)
    exact ⟨⟨p, hp, .up s e p (by omega) hg⟩, g1, g2⟩
theorem loop_sound {rec : Nat → List Tok → PR} (hrec : ∀ s r e r', rec s r = .ok e r' → 1 ≤ s → s ≤ 6 → Snd (.E s) e r r') {s : Nat} (h1 : 1 ≤ s) (h6 : s ≤ 6) : ∀ (m : Nat) (l : Ex) (pre r : List Tok) (e : Ex) (r' : List Tok),
    Gr (.E s) l pre → (s = 3 → Gr (.O 3) l pre) → l.size ≤ 60 → l.depth ≤ 20 → pLoop rec s m l r = .ok e r' → ∃ q, r = q ++ r' ∧ Gr (.E s) e (pre ++ q) ∧ e.size ≤ 60 ∧ e.depth ≤ 20
  | 0, _, _, _, _, _, _, _, _, _, h => by cases h
  | m + 1, l, pre, [], e, r', hg, _, hs, hd, h => by
    cases h
    exact ⟨[], rfl, by simpa using hg, hs, hd⟩
  | m + 1, l, pre, t :: q, e, r', hg, h3, hs, hd, h => by
    rw [pLoop_cons] at h
    cases hc : (t.op && decide (bnd (opK t.text) = s)) with
    | false =>
      rw [hc] at h
      cases h
      exact ⟨[], rfl, by simpa using hg, hs, hd⟩
    | true =>
      rw [hc, cond_true] at h
      rw [Bool.and_eq_true, decide_eq_true_eq] at hc
      obtain ⟨e0, r0, g1, g2⟩ := then_ok h
      obtain ⟨⟨p, hp, hg0⟩, _, _⟩ := op_sound hrec h1 h6 g1
      obtain ⟨e1, r1, g3, g4⟩ := then_ok g2
      obtain ⟨rfl, rfl, k1, k2⟩ := node1_inv g3
      by_cases hs3 : s = 3
      · subst hs3
        rw [decide_eq_true rfl, cond_true] at g4
        cases g4
        exact ⟨t :: p, by rw [hp]; rfl, .cmp t l e0 pre p hc.1 hc.2 (h3 rfl) hg0, k1, k2⟩
      · rw [decide_eq_false hs3, cond_false] at g4
        obtain ⟨q2, hq2, hg2, k3, k4⟩ := loop_sound hrec h1 h6 m _ (pre ++ t :: p) r1 e r' (.bin s t l e0 pre p hs3 hc.1 hc.2 hg hg0) (fun h => (hs3 h).elim) k1 k2 g4
        exact ⟨t :: p ++ q2, by rw [hp, hq2]; simp, by simpa using hg2, k3, k4⟩
theorem pE_sound : ∀ (n s : Nat) (r : List Tok) (e : Ex) (r' : List Tok), pE n s r = .ok e r' → 1 ≤ s → s ≤ 6 → Snd (.E s) e r r'
  | 0, _, _, _, _, h, _, _ => by cases h
  | n + 1, s, r, e, r', h, h1, h6 => by
    unfold pE at h
    obtain ⟨e0, r0, g1, g2⟩ := then_ok h
    have hrec := fun s r e r' => pE_sound n s r e r'
    obtain ⟨⟨p, hp, hg⟩, k1, k2⟩ := op_sound hrec h1 h6 g1
    obtain ⟨q, hq, hg2, k3, k4⟩ := loop_sound hrec h1 h6 _ e0 p r0 e r' (.one s _ _ hg) (fun h => h ▸ hg) k1 k2 g2
    exact ⟨⟨p ++ q, by rw [hp, hq]; simp, hg2⟩, k3, k4⟩
theorem Snd.less {lv : Lv} {e : Ex} {r r' : List Tok} (h : Snd lv e r r') : r'.length < r.length := by
  obtain ⟨p, hp, hg⟩ := h.of
  have := gr_pos hg
  rw [hp, List.length_append]; omega
theorem then_in {x : PR} {f : Ex → List Tok → PR} (hx : x ≠ .out) (hf : ∀ e r, x = .ok e r → f e r ≠ .out) : x.then f ≠ .out := by
  cases x with
  | ok e r => exact hf e r rfl
  | bad => intro h; cases h
  | out => exact (hx rfl).elim
theorem node1_in (e : Ex) (n : Nat) (r : List Tok) : node1 e n r ≠ .out := by
  unfold node1
  cases decide (60 < e.size) <;> cases decide (20 < e.depth) <;> intro h <;> cases h
theorem shut_in (e : Ex) (r : List Tok) : shutP e r ≠ .out := by
  cases r with
  | nil => intro h; cases h
  | cons c q =>
    rw [shut_cons]
    cases c.is [41] <;> intro h <;> cases h
theorem unW_in (k : Int) : ∀ (m : Nat) (r : List Tok) (x : PR), x ≠ .out → unW k m r x ≠ .out
  | 0, _, _, hx => hx
  | _ + 1, [], _, hx => hx
  | m + 1, _ :: q, x, hx => then_in (unW_in k m q x hx) fun _ _ _ => node1_in _ _ _
theorem prim_in {rec : Nat → List Tok → PR} {r : List Tok} (hrec : ∀ q : List Tok, q.length < r.length → rec 1 q ≠ .out) : pPrim rec r ≠ .out := by
  cases r with
  | nil => intro h; cases h
  | cons t q =>
    rw [pPrim_cons]
    cases decide (t.kind = 1) with
    | true => intro h; cases h
    | false =>
      cases decide (fldK t.text = 0) with
      | false => intro h; cases h
      | true =>
        cases decide (t.text = [40]) with
        | false => intro h; cases h
        | true => exact then_in (hrec q (by simp)) fun e r _ => shut_in e r
theorem op_in {n : Nat} (hn : ∀ s r, 1 ≤ s → s ≤ 6 → 7 * r.length + 8 ≤ n + s → pE n s r ≠ .out) {s : Nat} (h1 : 1 ≤ s) (h6 : s ≤ 6) {r : List Tok} (hb : 7 * r.length + 8 ≤ n + 1 + s) : pOp (pE n) s r ≠ .out := by
  unfold pOp
  by_cases hs : s = 2 ∨ s = 6
  · rw [decide_eq_true hs, cond_true]
    unfold pFront
    rcases hs with rfl | rfl
    · rw [decide_eq_true (show 2 ≤ 2 by omega), cond_true]
      refine unW_in _ _ _ _ (hn 3 _ (by omega) (by omega) ?_)
      rw [List.length_drop]; omega
    · rw [decide_eq_false (show ¬ 6 ≤ 2 by omega), cond_false]
      refine unW_in _ _ _ _ (prim_in fun q hq => hn 1 q (by omega) (by omega) ?_)
      rw [List.length_drop] at hq; omega
  · rw [decide_eq_false hs, cond_false]
    exact hn (s + 1) r (by omega) (by omega) (by omega)
theorem loop_in {n : Nat} (hn : ∀ s r, 1 ≤ s → s ≤ 6 → 7 * r.length + 8 ≤ n + s → pE n s r ≠ .out) {s : Nat} (h1 : 1 ≤ s) (h6 : s ≤ 6) : ∀ (m : Nat) (l : Ex) (r : List Tok), r.length < m → 7 * r.length + 8 ≤ n + 1 + s → pLoop (pE n) s m l r ≠ .out
  | 0, _, _, hm, _ => by omega
  | m + 1, l, [], _, _ => by intro h; cases h
  | m + 1, l, t :: q, hm, hb => by
    rw [pLoop_cons]
    simp only [List.length_cons] at hm hb
    cases (t.op && decide (bnd (opK t.text) = s)) with
    | false => intro h; cases h
    | true =>
      refine then_in (op_in hn h1 h6 (by omega)) fun e q' hq => then_in (node1_in _ _ _) fun l' q2 h2 => ?_
      obtain ⟨rfl, rfl, _, _⟩ := node1_inv h2
      have hl := (op_sound (fun s r e r' => pE_sound n s r e r') h1 h6 hq).less
      cases decide (s = 3) with
      | true => intro h; cases h
      | false => exact loop_in hn h1 h6 m _ q2 (by omega) (by omega)
theorem pE_in : ∀ (n s : Nat) (r : List Tok), 1 ≤ s → s ≤ 6 → 7 * r.length + 8 ≤ n + s → pE n s r ≠ .out
  | 0, s, r, h1, h6, hb => by omega
  | n + 1, s, r, h1, h6, hb => by
    have hn := fun s r => pE_in n s r
    refine then_in (op_in hn h1 h6 hb) fun e r' hr => ?_
    have hl := (op_sound (fun s r e r' => pE_sound n s r e r') h1 h6 hr).less
    exact loop_in hn h1 h6 _ _ _ (by omega) (by omega)
end Go.Am
namespace Go.Am
theorem cond_or {P : Int → Prop} {c : Bool} {a b : Int} (h1 : P a) (h2 : P b) : P (bif c then a else b) := by cases c; exact h2; exact h1
theorem opK_or (t : List UInt8) : (fun v : Int => v = 0 ∨ (7 ≤ v ∧ v ≤ 19)) (opK t) := by
  unfold opK
  repeat (refine cond_or (P := fun v : Int => v = 0 ∨ (7 ≤ v ∧ v ≤ 19)) (.inr ⟨by decide, by decide⟩) ?_)
  exact .inl rfl
theorem opK_rng {t : List UInt8} (h : opK t ≠ 0) : 7 ≤ opK t ∧ opK t ≤ 19 := (opK_or t).resolve_left h
theorem fldK_or (t : List UInt8) : (fun v : Int => v = 0 ∨ (2 ≤ v ∧ v ≤ 4)) (fldK t) := by
  unfold fldK
  repeat (refine cond_or (P := fun v : Int => v = 0 ∨ (2 ≤ v ∧ v ≤ 4)) (.inr ⟨by decide, by decide⟩) ?_)
  exact .inl rfl
theorem fldK_rng {t : List UInt8} (h : fldK t ≠ 0) : 2 ≤ fldK t ∧ fldK t ≤ 4 := (fldK_or t).resolve_left h
theorem gr_ok (hrd : ∀ s, 0 ≤ rdN s) : ∀ {lv : Lv} {e : Ex} {ts : List Tok}, Gr lv e ts → (∀ t ∈ ts, 0 ≤ t.pos ∧ t.pos ≤ 400) → e.ok = true := by
  intro lv e ts h
  induction h with
  | num t h =>
    intro hp
    have := hp t (by simp)
    have := hrd t.text
    simp only [Ex.ok, decide_eq_true_eq]
    exact ⟨by decide, by decide, this, by simp, by omega, by omega⟩
  | fld t h hf =>
    intro hp
    have := hp t (by simp)
    have := fldK_rng hf
    simp only [Ex.ok, decide_eq_true_eq]
    exact ⟨by omega, by omega, by decide, by simp, by omega, by omega⟩
  | par o c e ts _ _ _ ih => exact fun hp => ih fun t ht => hp t (by simp [ht])
  | neg t e ts _ _ ih =>
    intro hp
    have := hp t (by simp)
    simp only [Ex.ok, Bool.and_eq_true, decide_eq_true_eq]
    exact ⟨by omega, ih fun t ht => hp t (by simp [ht])⟩
  | pos e ts _ ih => exact ih
  | inv t e ts _ _ ih =>
    intro hp
    have := hp t (by simp)
    simp only [Ex.ok, Bool.and_eq_true, decide_eq_true_eq]
    exact ⟨by omega, ih fun t ht => hp t (by simp [ht])⟩
  | pos2 e ts _ ih => exact ih
  | up s e ts _ _ ih => exact ih
  | one s e ts _ ih => exact ih
  | bin s t a b xs ys _ ho _ _ _ ih1 ih2 =>
    intro hp
    have := hp t (by simp)
    have ho : opK t.text ≠ 0 := by unfold Tok.op at ho; simp at ho; exact ho.2
    have := opK_rng ho
    simp only [Ex.ok, Bool.and_eq_true, decide_eq_true_eq]
    exact ⟨by omega, ih1 fun t ht => hp t (by simp [ht]), ih2 fun t ht => hp t (by simp [ht])⟩
  | cmp t a b xs ys ho _ _ _ ih1 ih2 =>
    intro hp
    have := hp t (by simp)
    have ho : opK t.text ≠ 0 := by unfold Tok.op at ho; simp at ho; exact ho.2
    have := opK_rng ho
    simp only [Ex.ok, Bool.and_eq_true, decide_eq_true_eq]
    exact ⟨by omega, ih1 fun t ht => hp t (by simp [ht]), ih2 fun t ht => hp t (by simp [ht])⟩
theorem then_err {x : PR} {f : Ex → List Tok → PR} (hx : ∀ e n, x = .bad e n → e ≠ 0) (hf : ∀ e r er n, f e r = .bad er n → er ≠ 0) {er : Int} {n : Nat} (h : x.then f = .bad er n) : er ≠ 0 := by
  cases x with
  | ok e r => exact hf e r er n h
  | bad e m => exact hx er n (by simpa [PR.then] using h)
  | out => cases h
theorem node1_err {e : Ex} {m : Nat} {r : List Tok} {er : Int} {n : Nat} (h : node1 e m r = .bad er n) : er ≠ 0 := by
  unfold node1 at h
  cases h1 : decide (60 < e.size) <;> cases h2 : decide (20 < e.depth) <;> rw [h1, h2] at h <;> simp at h <;> omega
theorem shut_err {e : Ex} {r : List Tok} {er : Int} {n : Nat} (h : shutP e r = .bad er n) : er ≠ 0 := by
  cases r with
  | nil => injection h with h; omega
  | cons c q =>
    rw [shut_cons] at h
    cases hc : c.is [41] <;> rw [hc] at h <;> simp at h; omega
theorem prim_err {rec : Nat → List Tok → PR} (hrec : ∀ s r e n, rec s r = .bad e n → e ≠ 0) {r : List Tok} {er : Int} {n : Nat} (h : pPrim rec r = .bad er n) : er ≠ 0 := by
  cases r with
  | nil => injection h with h; omega
  | cons t q =>
    rw [pPrim_cons] at h
    cases h1 : decide (t.kind = 1) <;> rw [h1] at h
    · cases h2 : !decide (fldK t.text = 0) <;> rw [h2] at h
      · cases h3 : decide (t.text = [40]) <;> rw [h3] at h
        · simp at h; omega
        · exact then_err (hrec 1 q) (fun e r er n h => shut_err h) h
      · cases h
    · cases h
theorem unW_err {k : Int} : ∀ (m : Nat) (r : List Tok) (x : PR), (∀ e n, x = .bad e n → e ≠ 0) → ∀ {er : Int} {n : Nat}, unW k m r x = .bad er n → er ≠ 0
  | 0, _, _, hx, er, n, h => hx er n h
  | _ + 1, [], _, hx, er, n, h => hx er n h
  | m + 1, _ :: q, x, hx, _, _, h => then_err (fun _ _ h => unW_err m q x hx h) (fun _ _ _ _ h => node1_err h) h
theorem op_err {rec : Nat → List Tok → PR} (hrec : ∀ s r e n, rec s r = .bad e n → e ≠ 0) {s : Nat} {r : List Tok} {er : Int} {n : Nat} (h : pOp rec s r = .bad er n) : er ≠ 0 := by
  unfold pOp pFront at h
  cases h1 : decide (s = 2 ∨ s = 6) <;> rw [h1] at h
  · exact hrec _ _ _ _ h
  · cases h2 : decide (s ≤ 2) <;> rw [h2] at h
    · exact unW_err _ _ _ (fun _ _ h => prim_err hrec h) h
    · exact unW_err _ _ _ (fun _ _ h => hrec _ _ _ _ h) h
theorem loop_err {rec : Nat → List Tok → PR} (hrec : ∀ s r e n, rec s r = .bad e n → e ≠ 0) {s : Nat} : ∀ (m : Nat) (l : Ex) (r : List Tok) {er : Int} {n : Nat}, pLoop rec s m l r = .bad er n → er ≠ 0
  | 0, _, _, _, _, h => by cases h
  | _ + 1, _, [], _, _, h => by cases h
  | m + 1, l, t :: q, er, n, h => by
    rw [pLoop_cons] at h
    cases h1 : (t.op && decide (bnd (opK t.text) = s)) <;> rw [h1] at h
    · cases h
    · refine then_err (fun e n h => op_err hrec h) (fun e r er n h => then_err (fun _ _ h => node1_err h) (fun e r er n h => ?_) h) h
      cases h2 : decide (s = 3) <;> rw [h2] at h
      · exact loop_err hrec m _ _ h
      · cases h
theorem pE_err : ∀ (k s : Nat) (r : List Tok) (e : Int) (n : Nat), pE k s r = .bad e n → e ≠ 0
  | 0, _, _, _, _, h => by cases h
  | k + 1, s, r, e, n, h => by
    unfold pE at h
    exact then_err (fun e n h => op_err (fun s r e n h => pE_err k s r e n h) h) (fun l r' er n h => loop_err (fun s r e n h => pE_err k s r e n h) _ _ _ h) h
end Go.Am
namespace Go.Am
structure Pc where
  g : List UInt8
  k : Int
  t : List UInt8
def pcsS : List Pc → List UInt8
  | [] => []
  | p :: r => p.g ++ (p.t ++ pcsS r)
def pcsT (a : Int) : List Pc → List Tok
  | [] => []
  | p :: r => ⟨p.k, p.t, a + p.g.length⟩ :: pcsT (a + p.g.length + p.t.length) r
end Go.Am
namespace Go.Am
open Go.Lib
def lineK (k : Int) : Nat := bif decide (k ≤ 4) then 9 else bif decide (k = 5) then 8 else bif decide (k = 6) then 3 else bif decide (k = 7) then 7 else bif decide (k ≤ 9) then 6 else bif decide (k ≤ 11) then 5 else bif decide (k ≤ 17) then 4 else bif decide (k = 18) then 2 else 1
def opT (k : Int) : List UInt8 :=
  bif decide (k = 7) then [42] else bif decide (k = 8) then [43] else bif decide (k = 9) then [45] else bif decide (k = 10) then [60, 60] else bif decide (k = 11) then [62, 62] else bif decide (k = 12) then [60] else
  bif decide (k = 13) then [60, 61] else bif decide (k = 14) then [62] else bif decide (k = 15) then [62, 61] else bif decide (k = 16) then [61] else bif decide (k = 17) then [33, 61] else bif decide (k = 18) then [97, 110, 100] else [111, 114]
def opTk (k : Int) : Int := bif decide (k ≤ 17) then 3 else 2
def fldT (k : Int) : List UInt8 := bif decide (k = 2) then [107] else bif decide (k = 3) then [116] else [118]
def subL (full : Bool) (n : Nat) : Nat := bif full then 9 else n
def leftL (k : Int) : Nat := bif decide (lineK k = 4) then 5 else lineK k
def brk (b : Bool) (g : List UInt8) (f : List UInt8 → List Pc) : List Pc := bif b then ⟨g, 3, [40]⟩ :: (f [] ++ [⟨[], 3, [41]⟩]) else f g
def Ex.pcs (full : Bool) (g : List UInt8) (least : Nat) : Ex → List Pc
  | .leaf k n _ => bif decide (k = 1) then [⟨g, 1, itoa n⟩] else [⟨g, 2, fldT k⟩]
  | .un k _ e => brk (decide (lineK k < least)) g fun g => bif decide (k = 5) then ⟨g, 3, [45]⟩ :: e.pcs full (bif full then [32] else []) (subL full 8) else ⟨g, 2, notT⟩ :: e.pcs full [32] (subL full 3)
  | .bin k _ a b => brk (decide (lineK k < least)) g fun g => a.pcs full g (subL full (leftL k)) ++ ⟨[32], opTk k, opT k⟩ :: b.pcs full [32] (subL full (lineK k + 1))
def Ex.st : Ex → Ex
  | .leaf k n _ => .leaf k n 0
  | .un k _ e => .un k 0 e.st
  | .bin k _ a b => .bin k 0 a.st b.st
end Go.Am
namespace Go.Am
open Go.Lib
def Ex.txt (full : Bool) (e : Ex) : List UInt8 := pcsS (e.pcs full [] 0)
end Go.Am
namespace Go.Am
def eqN (x y : Nod) : Bool := decide (x.kind = y.kind ∧ x.n = y.n ∧ x.a = y.a ∧ x.b = y.b)
def Nod.st (x : Nod) : Nod := { x with pos := 0 }
end Go.Am
namespace Go.Am
open Go.Lib
def nodA (X : List Nod) (i : Int) : Nod := X.getD i.toNat default
def brT (p : Bool) (s : List UInt8) : List UInt8 := bif p then [40] ++ (s ++ [41]) else s
def txN : Nat → List Nod → Int → Bool → List UInt8
  | 0, _, _, _ => []
  | n + 1, X, i, p => bif decide ((nodA X i).kind = 1) then itoa (nodA X i).n else bif decide ((nodA X i).kind ≤ 4) then fldT (nodA X i).kind else
    brT p (bif decide ((nodA X i).kind = 5) then [45, 32] ++ txN n X (nodA X i).a true else bif decide ((nodA X i).kind = 6) then [110, 111, 116, 32] ++ txN n X (nodA X i).a true else
      txN n X (nodA X i).a true ++ ([32] ++ (opT (nodA X i).kind ++ ([32] ++ txN n X (nodA X i).b true))))
def okX : Nat → List Nod → Int → Bool
  | 0, _, _ => false
  | n + 1, X, i => decide (0 ≤ i ∧ i < (X.length : Int) ∧ 1 ≤ (nodA X i).kind ∧ (nodA X i).kind ≤ 19) && (bif decide ((nodA X i).kind ≤ 4) then true else bif decide ((nodA X i).kind ≤ 6) then okX n X (nodA X i).a else okX n X (nodA X i).a && okX n X (nodA X i).b)
end Go.Am
namespace Go.Am
def brkT (t : Tok) : Bool := decide (t.kind = 3) && (decide (t.text = [40]) || decide (t.text = [41]))
def nonb (ts : List Tok) : List Tok := ts.filter fun t => !brkT t
def balT : Int → List Tok → Option Int
  | d, [] => some d
  | d, t :: r => bif brkT t then (bif decide (t.text = [40]) then balT (d + 1) r else bif decide (d - 1 < 0) then none else balT (d - 1) r) else balT d r
theorem balT_app : ∀ (a b : List Tok) (d d' : Int), balT d a = some d' → balT d (a ++ b) = balT d' b
  | [], b, d, d', h => by cases h; rfl
  | t :: a, b, d, d', h => by
    unfold balT at h
    rw [List.cons_append, balT]
    cases h1 : brkT t with
    | false => rw [h1] at h; exact balT_app a b d d' h
    | true =>
      rw [h1, cond_true] at h
      rw [cond_true]
      cases h2 : decide (t.text = [40]) with
      | true => rw [h2] at h; exact balT_app a b _ d' h
      | false =>
        rw [h2, cond_false] at h
        rw [cond_false]
        cases h3 : decide (d - 1 < 0) with
        | true => rw [h3] at h; cases h
        | false => rw [h3] at h; exact balT_app a b _ d' h
def Ex.poss : Ex → List Int
  | .leaf _ _ p => [p]
  | .un _ p e => e.poss ++ [p]
  | .bin _ p a b => a.poss ++ (b.poss ++ [p])
theorem poss_flat : ∀ (e : Ex) (o : Int), (e.flat o).map Nod.pos = e.poss
  | .leaf .., _ => rfl
  | .un _ _ e, o => by simp [Ex.flat, Ex.poss, poss_flat e]
  | .bin _ _ a b, o => by simp [Ex.flat, Ex.poss, poss_flat a, poss_flat b]
def symB (t : Tok) : Bool := decide (t.kind = 3) || !(decide (t.text = [40]) || decide (t.text = [41]))
theorem brk_is {t : Tok} (h : symB t = true) : brkT t = (decide (t.text = [40]) || decide (t.text = [41])) := by
  unfold symB at h
  unfold brkT
  cases h1 : decide (t.kind = 3) with
  | true => rfl
  | false => rw [h1, Bool.false_or, Bool.not_eq_true'] at h; rw [h]; rfl
theorem nonb_app (a b : List Tok) : nonb (a ++ b) = nonb a ++ nonb b := List.filter_append ..
structure Cnt (e : Ex) (ts : List Tok) : Prop where
  p : List.Perm ((nonb ts).map Tok.pos) e.poss
  b : ∀ d, 0 ≤ d → balT d ts = some d
theorem no_brk {t : Tok} (h1 : t.text ≠ [40]) (h2 : t.text ≠ [41]) : brkT t = false := by
  unfold brkT
  rw [decide_eq_false h1, decide_eq_false h2]; simp
theorem cnt_one {t : Tok} (h : brkT t = false) : nonb [t] = [t] ∧ ∀ d, balT d [t] = some d := by
  constructor
  · simp [nonb, h]
  · intro d; simp [balT, h]
theorem cnt_cons {t : Tok} (h : brkT t = false) (ts : List Tok) : nonb (t :: ts) = t :: nonb ts ∧ ∀ d, balT d (t :: ts) = balT d ts := by
  constructor
  · simp [nonb, h]
  · intro d; simp [balT, h]
theorem gr_cnt : ∀ {lv : Lv} {e : Ex} {ts : List Tok}, Gr lv e ts → ts.all symB = true → Cnt e ts := by
  intro lv e ts h
  induction h with
  | num t h =>
    intro _
    have hb : brkT t = false := by unfold brkT; rw [decide_eq_false (by omega)]; rfl
    obtain ⟨h1, h2⟩ := cnt_one hb
    exact ⟨by rw [h1]; exact List.Perm.refl _, fun d _ => h2 d⟩
  | fld t h hf =>
    intro _
    have hb : brkT t = false := no_brk (fun e => hf (by rw [e]; rfl)) (fun e => hf (by rw [e]; rfl))
    obtain ⟨h1, h2⟩ := cnt_one hb
    exact ⟨by rw [h1]; exact List.Perm.refl _, fun d _ => h2 d⟩
  | par o c e ts ho hc _ ih =>
    intro hs
    simp only [List.all_cons, List.all_append, List.all_nil, Bool.and_eq_true, Bool.and_true] at hs
    obtain ⟨s1, s2, s3⟩ := hs
    have o1 : o.text = [40] := by unfold Tok.is at ho; simp at ho; exact ho.2
    have c1 : c.text = [41] := by unfold Tok.is at hc; simp at hc; exact hc.2
    have bo : brkT o = true := by rw [brk_is s1, o1]; decide
    have bc : brkT c = true := by rw [brk_is s3, c1]; decide
    obtain ⟨i1, i2⟩ := ih s2
    constructor
    · have : nonb (o :: (ts ++ [c])) = nonb ts := by simp [nonb, bo, bc]
      rw [this]; exact i1
    · intro d hd
      unfold balT
      rw [bo, cond_true, decide_eq_true o1, cond_true, balT_app ts [c] (d + 1) (d + 1) (i2 (d + 1) (by omega))]
      unfold balT
      rw [bc, cond_true, decide_eq_false (show ¬ c.text = [40] from by rw [c1]; decide), cond_false, decide_eq_false (show ¬ d + 1 - 1 < 0 by omega), cond_false]
      unfold balT
      rw [show d + 1 - 1 = d by omega]
  | neg t e ts ht _ ih =>
    intro hs
    simp only [List.all_cons, Bool.and_eq_true] at hs
    obtain ⟨i1, i2⟩ := ih hs.2
    have t1 : t.text = [45] := by unfold Tok.is at ht; simp at ht; exact ht.2
    obtain ⟨h1, h2⟩ := cnt_cons (no_brk (t := t) (by rw [t1]; decide) (by rw [t1]; decide)) ts
    refine ⟨?_, fun d hd => by rw [h2]; exact i2 d hd⟩
    rw [h1, List.map_cons, Ex.poss]
    exact (List.Perm.cons _ i1).trans (List.perm_append_singleton _ _).symm
  | pos e ts _ ih => exact ih
  | inv t e ts ht _ ih =>
    intro hs
    simp only [List.all_cons, Bool.and_eq_true] at hs
    obtain ⟨i1, i2⟩ := ih hs.2
    have t1 : t.text = notT := by unfold Tok.is at ht; simp at ht; exact ht.2
    obtain ⟨h1, h2⟩ := cnt_cons (no_brk (t := t) (by rw [t1]; decide) (by rw [t1]; decide)) ts
    refine ⟨?_, fun d hd => by rw [h2]; exact i2 d hd⟩
    rw [h1, List.map_cons, Ex.poss]
    exact (List.Perm.cons _ i1).trans (List.perm_append_singleton _ _).symm
  | pos2 e ts _ ih => exact ih
  | up s e ts _ _ ih => exact ih
  | one s e ts _ ih => exact ih
  | bin s t a b xs ys _ ho _ _ _ ih1 ih2 =>
    intro hs
    simp only [List.all_append, List.all_cons, Bool.and_eq_true] at hs
    have ho : opK t.text ≠ 0 := by unfold Tok.op at ho; simp at ho; exact ho.2
    obtain ⟨i1, i2⟩ := ih1 hs.1
    obtain ⟨j1, j2⟩ := ih2 hs.2.2
    obtain ⟨h1, h2⟩ := cnt_cons (no_brk (t := t) (fun e => ho (by rw [e]; rfl)) (fun e => ho (by rw [e]; rfl))) ys
    refine ⟨?_, fun d hd => by rw [balT_app xs _ d d (i2 d hd), h2]; exact j2 d hd⟩
    rw [nonb_app, h1, List.map_append, List.map_cons, Ex.poss]
    exact List.Perm.append i1 ((List.Perm.cons _ j1).trans (List.perm_append_singleton _ _).symm)
  | cmp t a b xs ys ho _ _ _ ih1 ih2 =>
    intro hs
    simp only [List.all_append, List.all_cons, Bool.and_eq_true] at hs
    have ho : opK t.text ≠ 0 := by unfold Tok.op at ho; simp at ho; exact ho.2
    obtain ⟨i1, i2⟩ := ih1 hs.1
    obtain ⟨j1, j2⟩ := ih2 hs.2.2
    obtain ⟨h1, h2⟩ := cnt_cons (no_brk (t := t) (fun e => ho (by rw [e]; rfl)) (fun e => ho (by rw [e]; rfl))) ys
    refine ⟨?_, fun d hd => by rw [balT_app xs _ d d (i2 d hd), h2]; exact j2 d hd⟩
    rw [nonb_app, h1, List.map_append, List.map_cons, Ex.poss]
    exact List.Perm.append i1 ((List.Perm.cons _ j1).trans (List.perm_append_singleton _ _).symm)
end Go.Am
namespace Go.Am
def PR.le (m : Nat) : PR → Prop
  | .ok _ r => r.length ≤ m
  | .bad _ n => n ≤ m
  | .out => True
theorem then_len {x : PR} {f : Ex → List Tok → PR} {m : Nat} (hx : x.le m) (hf : ∀ e r, r.length ≤ m → (f e r).le m) : (x.then f).le m := by
  cases x with
  | ok e r => exact hf e r hx
  | bad e n => exact hx
  | out => exact hx
theorem node1_len {e : Ex} {n m : Nat} {r : List Tok} (hn : n ≤ m) (hr : r.length ≤ m) : (node1 e n r).le m := by
  unfold node1
  cases decide (60 < e.size) with
  | true => exact hn
  | false =>
    cases decide (20 < e.depth) with
    | true => exact hn
    | false => exact hr
theorem PR.le.mono {m m' : Nat} (h : m ≤ m') : ∀ {x : PR}, x.le m → x.le m'
  | .ok .., hx => Nat.le_trans hx h
  | .bad .., hx => Nat.le_trans hx h
  | .out, _ => trivial
theorem shut_len (e : Ex) (r : List Tok) : (shutP e r).le r.length := by
  cases r with
  | nil => exact Nat.le_refl 0
  | cons c q =>
    rw [shut_cons]
    cases c.is [41] with
    | true => exact Nat.le_succ _
    | false => exact Nat.le_refl _
theorem prim_len {rec : Nat → List Tok → PR} (hrec : ∀ s r, (rec s r).le r.length) (r : List Tok) : (pPrim rec r).le r.length := by
  cases r with
  | nil => exact Nat.le_refl 0
  | cons t q =>
    rw [pPrim_cons]
    cases decide (t.kind = 1) with
    | true => exact Nat.le_succ _
    | false =>
      cases !decide (fldK t.text = 0) with
      | true => exact Nat.le_succ _
      | false =>
        cases decide (t.text = [40]) with
        | false => exact Nat.le_refl _
        | true => exact (then_len (hrec 1 q) fun e r hr => (shut_len e r).mono hr).mono (Nat.le_succ _)
theorem unW_len {k : Int} {M : Nat} : ∀ (m : Nat) (r : List Tok) (x : PR), r.length ≤ M → x.le M → (unW k m r x).le M
  | 0, _, _, _, hx => hx
  | _ + 1, [], _, _, hx => hx
  | m + 1, _ :: q, x, hr, hx => by
    unfold unW
    have hq : q.length + 1 ≤ M := hr
    exact then_len (unW_len m q x (by omega) hx) fun e r h => node1_len hq h
theorem op_len {rec : Nat → List Tok → PR} (hrec : ∀ s r, (rec s r).le r.length) (s : Nat) (r : List Tok) : (pOp rec s r).le r.length := by
  unfold pOp pFront
  have hd : ∀ k, (r.drop k).length ≤ r.length := fun k => by rw [List.length_drop]; omega
  cases decide (s = 2 ∨ s = 6) with
  | false => exact hrec _ _
  | true =>
    cases decide (s ≤ 2) with
    | true => exact unW_len _ _ _ (Nat.le_refl _) ((hrec 3 _).mono (hd _))
    | false => exact unW_len _ _ _ (Nat.le_refl _) ((prim_len hrec _).mono (hd _))
theorem loop_len {rec : Nat → List Tok → PR} (hrec : ∀ s r, (rec s r).le r.length) {s : Nat} : ∀ (m : Nat) (l : Ex) (r : List Tok), (pLoop rec s m l r).le r.length
  | 0, _, _ => trivial
  | _ + 1, _, [] => Nat.le_refl 0
  | m + 1, l, t :: q => by
    rw [pLoop_cons]
    cases (t.op && decide (bnd (opK t.text) = s)) with
    | false => exact Nat.le_refl _
    | true =>
      refine then_len ((op_len hrec s q).mono (Nat.le_succ _)) fun e r hr => then_len (node1_len (Nat.le_refl _) hr) fun e r hr => ?_
      cases decide (s = 3) with
      | true => exact hr
      | false => exact (loop_len hrec m e r).mono hr
theorem pE_len : ∀ (k s : Nat) (r : List Tok), (pE k s r).le r.length
  | 0, _, _ => trivial
  | k + 1, s, r => by
    unfold pE
    exact then_len (op_len (fun s r => pE_len k s r) s r) fun l r' hr => (loop_len (fun s r => pE_len k s r) _ l r').mono hr
def inP (P : List Int) : Bool := P.all fun p => decide (0 ≤ p ∧ p ≤ 400)
theorem symB_of {t : Tok} (h : tokE t.kind t.text = 0) : symB t = true := by
  unfold symB
  cases h3 : decide (t.kind = 3) with
  | true => rfl
  | false =>
    have h3 := of_decide_eq_false h3
    rw [Bool.false_or, Bool.not_eq_true', Bool.or_eq_false_iff, decide_eq_false_iff_not, decide_eq_false_iff_not]
    have key : ∀ x : List UInt8, x = [40] ∨ x = [41] → t.text ≠ x := by
      intro x hx e
      rw [e] at h
      unfold tokE at h
      rw [decide_eq_false h3] at h
      cases h1 : decide (t.kind = 1) with
      | true =>
        rw [h1, cond_true] at h
        rcases hx with rfl | rfl <;> exact absurd h (by decide +kernel)
      | false =>
        cases h2 : decide (t.kind = 2) with
        | true =>
          rw [h1, h2, cond_false, cond_true] at h
          rcases hx with rfl | rfl <;> exact absurd h (by decide +kernel)
        | false => rw [h1, h2] at h; cases h
    exact ⟨key _ (.inl rfl), key _ (.inr rfl)⟩
end Go.Am
namespace Go.Am
theorem then_nn {x : PR} {f : Ex → List Tok → PR} (hx : ∀ e n, x = .bad e n → 0 ≤ e) (hf : ∀ e r er n, f e r = .bad er n → 0 ≤ er) {er : Int} {n : Nat} (h : x.then f = .bad er n) : 0 ≤ er := by
  cases x with
  | ok e r => exact hf e r er n h
  | bad e m => exact hx er n (by simpa [PR.then] using h)
  | out => cases h
theorem node1_nn {e : Ex} {m : Nat} {r : List Tok} {er : Int} {n : Nat} (h : node1 e m r = .bad er n) : 0 ≤ er := by
  unfold node1 at h
  cases h1 : decide (60 < e.size) <;> cases h2 : decide (20 < e.depth) <;> rw [h1, h2] at h <;> simp at h <;> omega
theorem shut_nn {e : Ex} {r : List Tok} {er : Int} {n : Nat} (h : shutP e r = .bad er n) : 0 ≤ er := by
  cases r with
  | nil => injection h with h; omega
  | cons c q =>
    rw [shut_cons] at h
    cases hc : c.is [41] <;> rw [hc] at h <;> simp at h; omega
theorem prim_nn {rec : Nat → List Tok → PR} (hrec : ∀ s r e n, rec s r = .bad e n → 0 ≤ e) {r : List Tok} {er : Int} {n : Nat} (h : pPrim rec r = .bad er n) : 0 ≤ er := by
  cases r with
  | nil => injection h with h; omega
  | cons t q =>
    rw [pPrim_cons] at h
    cases h1 : decide (t.kind = 1) <;> rw [h1] at h
    · cases h2 : !decide (fldK t.text = 0) <;> rw [h2] at h
      · cases h3 : decide (t.text = [40]) <;> rw [h3] at h
        · simp at h; omega
        · exact then_nn (hrec 1 q) (fun e r er n h => shut_nn h) h
      · cases h
    · cases h
theorem unW_nn {k : Int} : ∀ (m : Nat) (r : List Tok) (x : PR), (∀ e n, x = .bad e n → 0 ≤ e) → ∀ {er : Int} {n : Nat}, unW k m r x = .bad er n → 0 ≤ er
  | 0, _, _, hx, er, n, h => hx er n h
  | _ + 1, [], _, hx, er, n, h => hx er n h
  | m + 1, _ :: q, x, hx, _, _, h => then_nn (fun _ _ h => unW_nn m q x hx h) (fun _ _ _ _ h => node1_nn h) h
theorem op_nn {rec : Nat → List Tok → PR} (hrec : ∀ s r e n, rec s r = .bad e n → 0 ≤ e) {s : Nat} {r : List Tok} {er : Int} {n : Nat} (h : pOp rec s r = .bad er n) : 0 ≤ er := by
  unfold pOp pFront at h
  cases h1 : decide (s = 2 ∨ s = 6) <;> rw [h1] at h
  · exact hrec _ _ _ _ h
  · cases h2 : decide (s ≤ 2) <;> rw [h2] at h
    · exact unW_nn _ _ _ (fun _ _ h => prim_nn hrec h) h
    · exact unW_nn _ _ _ (fun _ _ h => hrec _ _ _ _ h) h
theorem loop_nn {rec : Nat → List Tok → PR} (hrec : ∀ s r e n, rec s r = .bad e n → 0 ≤ e) {s : Nat} : ∀ (m : Nat) (l : Ex) (r : List Tok) {er : Int} {n : Nat}, pLoop rec s m l r = .bad er n → 0 ≤ er
  | 0, _, _, _, _, h => by cases h
  | _ + 1, _, [], _, _, h => by cases h
  | m + 1, l, t :: q, er, n, h => by
    rw [pLoop_cons] at h
    cases h1 : (t.op && decide (bnd (opK t.text) = s)) <;> rw [h1] at h
    · cases h
    · refine then_nn (fun e n h => op_nn hrec h) (fun e r er n h => then_nn (fun _ _ h => node1_nn h) (fun e r er n h => ?_) h) h
      cases h2 : decide (s = 3) <;> rw [h2] at h
      · exact loop_nn hrec m _ _ h
      · cases h
theorem pE_nn : ∀ (k s : Nat) (r : List Tok) (e : Int) (n : Nat), pE k s r = .bad e n → 0 ≤ e
  | 0, _, _, _, _, h => by cases h
  | k + 1, s, r, e, n, h => by
    unfold pE at h
    exact then_nn (fun e n h => op_nn (fun s r e n h => pE_nn k s r e n h) h) (fun l r' er n h => loop_nn (fun s r e n h => pE_nn k s r e n h) _ _ _ h) h
end Go.Am
