/-
  Lexer: plain laws of all tokens of a text.
-/
import Derived.Test.YtielnommkhfghaaDoorLexPure
namespace Go.Am
theorem lexR_nil (n : Nat) (a : Int) (k : Nat) : lexR (n + 1) [] a k = ⟨[], a, 0⟩ := rfl
theorem lexR_blank {n k : Nat} {c : UInt8} {r : List UInt8} {a : Int} (h : kd c = 1) : lexR (n + 1) (c :: r) a k = lexR n r (a + 1) k := by
  show (bif decide (kd c = 1) then _ else _) = _
  rw [decide_eq_true h]; rfl
theorem lexR_many {n k : Nat} {c : UInt8} {r : List UInt8} {a : Int} (h : kd c ≠ 1) (hk : k = 200) : lexR (n + 1) (c :: r) a k = ⟨[], a, 4⟩ := by
  show (bif decide (kd c = 1) then _ else bif decide (k = 200) then _ else _) = _
  rw [decide_eq_false h, decide_eq_true hk]; rfl
theorem lexR_tok {n k : Nat} {c : UInt8} {r : List UInt8} {a : Int} (h : kd c ≠ 1) (hk : k ≠ 200) (hf : tkF (c :: r) = 0) :
    lexR (n + 1) (c :: r) a k = (lexR n ((c :: r).drop (tkN (c :: r))) (a + (tkN (c :: r) : Int)) (k + 1)).cons ⟨tkK (c :: r), tkT (c :: r), a⟩ := by
  show (bif decide (kd c = 1) then _ else bif decide (k = 200) then _ else bif decide (tkF (c :: r) = 0) then _ else _) = _
  rw [decide_eq_false h, decide_eq_false hk, decide_eq_true hf]; rfl
theorem lexR_bad {n k : Nat} {c : UInt8} {r : List UInt8} {a : Int} (h : kd c ≠ 1) (hk : k ≠ 200) (hf : tkF (c :: r) ≠ 0) : lexR (n + 1) (c :: r) a k = ⟨[], a, tkF (c :: r)⟩ := by
  show (bif decide (kd c = 1) then _ else bif decide (k = 200) then _ else bif decide (tkF (c :: r) = 0) then _ else _) = _
  rw [decide_eq_false h, decide_eq_false hk, decide_eq_false hf]; rfl
theorem drop_lt {c : UInt8} {r : List UInt8} (hf : tkF (c :: r) = 0) : ((c :: r).drop (tkN (c :: r))).length ≤ r.length := by
  have := tkN_pos hf
  rw [List.length_drop, List.length_cons]; omega
theorem lexR_fuel : ∀ (n m : Nat) (r : List UInt8) (a : Int) (k : Nat), r.length < n → r.length < m → lexR n r a k = lexR m r a k
  | 0, _, _, _, _, h, _ => by omega
  | _, 0, _, _, _, _, h => by omega
  | n + 1, m + 1, [], _, _, _, _ => rfl
  | n + 1, m + 1, c :: r, a, k, h1, h2 => by
    simp only [List.length_cons] at h1 h2
    by_cases hb : kd c = 1
    · rw [lexR_blank hb, lexR_blank hb, lexR_fuel n m r _ _ (by omega) (by omega)]
    by_cases hk : k = 200
    · rw [lexR_many hb hk, lexR_many hb hk]
    by_cases hf : tkF (c :: r) = 0
    · have := drop_lt hf
      rw [lexR_tok hb hk hf, lexR_tok hb hk hf, lexR_fuel n m _ _ _ (by omega) (by omega)]
    · rw [lexR_bad hb hk hf, lexR_bad hb hk hf]
/-- all tokens of what is left, without fuel -/
def lx (r : List UInt8) (a : Int) (k : Nat) : LexO := lexR (r.length + 1) r a k
theorem lx_nil (a : Int) (k : Nat) : lx [] a k = ⟨[], a, 0⟩ := rfl
theorem lx_blank {k : Nat} {c : UInt8} {r : List UInt8} {a : Int} (h : kd c = 1) : lx (c :: r) a k = lx r (a + 1) k := lexR_blank h
theorem lx_many {k : Nat} {c : UInt8} {r : List UInt8} {a : Int} (h : kd c ≠ 1) (hk : k = 200) : lx (c :: r) a k = ⟨[], a, 4⟩ := lexR_many h hk
theorem lx_bad {k : Nat} {c : UInt8} {r : List UInt8} {a : Int} (h : kd c ≠ 1) (hk : k ≠ 200) (hf : tkF (c :: r) ≠ 0) : lx (c :: r) a k = ⟨[], a, tkF (c :: r)⟩ := lexR_bad h hk hf
theorem lx_tok {k : Nat} {c : UInt8} {r : List UInt8} {a : Int} (h : kd c ≠ 1) (hk : k ≠ 200) (hf : tkF (c :: r) = 0) :
    lx (c :: r) a k = (lx ((c :: r).drop (tkN (c :: r))) (a + (tkN (c :: r) : Int)) (k + 1)).cons ⟨tkK (c :: r), tkT (c :: r), a⟩ := by
  have hd := drop_lt hf
  unfold lx
  rw [lexR_tok h hk hf, lexR_fuel _ (((c :: r).drop (tkN (c :: r))).length + 1) _ _ _ (by simp only [List.length_cons]; omega) (by omega)]
theorem lx_ind {P : List UInt8 → Int → Nat → Prop} (nil : ∀ a k, P [] a k) (blank : ∀ c r a k, kd c = 1 → P r (a + 1) k → P (c :: r) a k) (many : ∀ c r a, kd c ≠ 1 → P (c :: r) a 200)
    (bad : ∀ c r a k, kd c ≠ 1 → k ≠ 200 → tkF (c :: r) ≠ 0 → P (c :: r) a k)
    (tok : ∀ c r a k, kd c ≠ 1 → k ≠ 200 → tkF (c :: r) = 0 → P ((c :: r).drop (tkN (c :: r))) (a + (tkN (c :: r) : Int)) (k + 1) → P (c :: r) a k) : ∀ r a k, P r a k := by
  suffices h : ∀ (n : Nat) (r : List UInt8), r.length ≤ n → ∀ a k, P r a k from fun r => h r.length r (Nat.le_refl _)
  intro n
  induction n with
  | zero =>
    intro r hr a k
    have : r = [] := List.eq_nil_of_length_eq_zero (by omega)
    subst this; exact nil a k
  | succ n ih =>
    intro r hr a k
    cases r with
    | nil => exact nil a k
    | cons c r =>
      simp only [List.length_cons] at hr
      by_cases hb : kd c = 1
      · exact blank c r a k hb (ih r (by omega) _ _)
      by_cases hk : k = 200
      · subst hk; exact many c r a hb
      by_cases hf : tkF (c :: r) = 0
      · have := drop_lt hf
        exact tok c r a k hb hk hf (ih _ (by omega) _ _)
      · exact bad c r a k hb hk hf
/-! somewhere else -/
def Tok.at (d : Int) (t : Tok) : Tok := ⟨t.kind, t.text, t.pos + d⟩
theorem lx_shift (d : Int) : ∀ r a k, lx r (a + d) k = ⟨(lx r a k).l.map (Tok.at d), (lx r a k).n + d, (lx r a k).e⟩ := by
  refine lx_ind ?_ ?_ ?_ ?_ ?_
  · intro a k; rfl
  · intro c r a k h ih
    rw [lx_blank h, lx_blank h, ← ih]
    congr 1; omega
  · intro c r a h
    rw [lx_many h rfl, lx_many h rfl]; rfl
  · intro c r a k h hk hf
    rw [lx_bad h hk hf, lx_bad h hk hf]; rfl
  · intro c r a k h hk hf ih
    rw [lx_tok h hk hf, lx_tok h hk hf, show a + d + (tkN (c :: r) : Int) = a + (tkN (c :: r) : Int) + d from by omega, ih]
    rfl
def blanks (g : List UInt8) : Prop := ∀ c ∈ g, kd c = 1
theorem blankHd_of {g q : List UInt8} (hg : blanks g) (h : g ≠ []) : blankHd (g ++ q) := by
  cases g with
  | nil => exact (h rfl).elim
  | cons c g =>
    intro d r hd
    cases hd
    exact hg c (List.mem_cons_self ..)
theorem blankHd_of' {g : List UInt8} (hg : blanks g) : blankHd g := by
  cases g with
  | nil => exact blankHd_nil
  | cons c g => intro d r hd; cases hd; exact hg c (List.mem_cons_self ..)
theorem lx_skip : ∀ (g : List UInt8), blanks g → ∀ r a k, lx (g ++ r) a k = lx r (a + (g.length : Int)) k
  | [], _, r, a, k => by simp
  | c :: g, h, r, a, k => by
    rw [List.cons_append, lx_blank (h c (List.mem_cons_self ..)), lx_skip g (fun x hx => h x (List.mem_cons_of_mem _ hx))]
    congr 1; simp; omega
theorem tok_tail {c : UInt8} {r g : List UInt8} (hg : blankHd g) : tkN (c :: r ++ g) = tkN (c :: r) ∧ tkK (c :: r ++ g) = tkK (c :: r) ∧ tkT (c :: r ++ g) = tkT (c :: r) := by
  have := tkN_local (p := c :: r) (q := []) (q' := g) (by simp) hg (by rw [List.append_nil]; exact tkN_le _)
  rw [List.append_nil] at this; exact this
theorem lx_tail {g : List UInt8} (hg : blanks g) : ∀ r a k, (lx (r ++ g) a k).l = (lx r a k).l ∧ (lx (r ++ g) a k).e = (lx r a k).e ∧ ((lx r a k).e ≠ 0 → (lx (r ++ g) a k).n = (lx r a k).n) := by
  have hh := blankHd_of' hg
  refine lx_ind ?_ ?_ ?_ ?_ ?_
  · intro a k
    have := lx_skip g hg [] a k
    rw [List.append_nil] at this
    rw [List.nil_append, this, lx_nil, lx_nil]
    exact ⟨rfl, rfl, fun h => (h rfl).elim⟩
  · intro c r a k h ih
    rw [List.cons_append, lx_blank h, lx_blank h]; exact ih
  · intro c r a h
    rw [List.cons_append, lx_many h rfl, lx_many h rfl]
    exact ⟨rfl, rfl, fun _ => rfl⟩
  · intro c r a k h hk hf
    obtain ⟨t1, t2, t3⟩ := tok_tail (c := c) (r := r) hh
    have hf' : tkF (c :: (r ++ g)) = tkF (c :: r) := by
      unfold tkF
      rw [← List.cons_append, t2, t3]
    rw [List.cons_append, lx_bad h hk (by rw [hf']; exact hf), lx_bad h hk hf, hf']
    exact ⟨rfl, rfl, fun _ => rfl⟩
  · intro c r a k h hk hf ih
    obtain ⟨t1, t2, t3⟩ := tok_tail (c := c) (r := r) hh
    have hf' : tkF (c :: (r ++ g)) = tkF (c :: r) := by
      unfold tkF
      rw [← List.cons_append, t2, t3]
    have e := tkN_le (c :: r)
    rw [List.cons_append, lx_tok h hk (by rw [hf']; exact hf), lx_tok h hk hf, ← List.cons_append, t1, t2, t3, List.drop_append_of_le_length e]
    simp only [LexO.cons]
    exact ⟨by rw [ih.1], ih.2.1, ih.2.2⟩
theorem lx_pos : ∀ r a k, ∀ t ∈ (lx r a k).l, a ≤ t.pos ∧ t.pos + (t.text.length : Int) ≤ a + (r.length : Int) := by
  refine lx_ind ?_ ?_ ?_ ?_ ?_
  · intro a k t ht; cases ht
  · intro c r a k h ih t ht
    rw [lx_blank h] at ht
    have := ih t ht
    simp only [List.length_cons]; omega
  · intro c r a h t ht
    rw [lx_many h rfl] at ht; cases ht
  · intro c r a k h hk hf t ht
    rw [lx_bad h hk hf] at ht; cases ht
  · intro c r a k h hk hf ih t ht
    rw [lx_tok h hk hf] at ht
    have e := tkN_le (c :: r)
    rcases List.mem_cons.1 ht with rfl | ht
    · simp only [tkT_len]; omega
    · have := ih t ht
      rw [List.length_drop] at this
      omega
theorem lx_count : ∀ r a k, k ≤ 200 → (lx r a k).l.length + k ≤ 200 := by
  refine lx_ind ?_ ?_ ?_ ?_ ?_
  · intro a k hk; simp [lx_nil]; exact hk
  · intro c r a k h ih; rw [lx_blank h]; exact ih
  · intro c r a h hk; rw [lx_many h rfl]; simp
  · intro c r a k h hk hf h2; rw [lx_bad h hk hf]; simp; omega
  · intro c r a k h hk hf ih h2
    rw [lx_tok h hk hf]
    have := ih (by omega)
    simp only [LexO.cons, List.length_cons]; omega
theorem lx_end : ∀ r a k, (lx r a k).e = 0 → (lx r a k).n = a + (r.length : Int) := by
  refine lx_ind ?_ ?_ ?_ ?_ ?_
  · intro a k _; simp [lx_nil]
  · intro c r a k h ih he
    rw [lx_blank h] at he ⊢
    rw [ih he, List.length_cons]; omega
  · intro c r a h he; rw [lx_many h rfl] at he; cases he
  · intro c r a k h hk hf he; rw [lx_bad h hk hf] at he; exact (hf he).elim
  · intro c r a k h hk hf ih he
    have e := tkN_le (c :: r)
    rw [lx_tok h hk hf] at he ⊢
    simp only [LexO.cons] at he ⊢
    rw [ih he, List.length_drop]; omega
def Tok.kt (t : Tok) : Int × List UInt8 := (t.kind, t.text)
theorem kt_at (d : Int) (l : List Tok) : (l.map (Tok.at d)).map Tok.kt = l.map Tok.kt := by simp [Tok.at, Tok.kt, Function.comp_def]
/-- blanks in front of a token -/
theorem lx_insert {g : List UInt8} (hg : blanks g) : ∀ s a k, ∀ p q, s = p ++ q → (∃ t ∈ (lx s a k).l, t.pos = a + (p.length : Int)) → (lx s a k).e = 0 →
    (lx (p ++ (g ++ q)) a k).e = 0 ∧ (lx (p ++ (g ++ q)) a k).l.map Tok.kt = (lx s a k).l.map Tok.kt := by
  by_cases hn : g = []
  · subst hn
    intro s a k p q hs _ he
    rw [List.nil_append, ← hs]; exact ⟨he, rfl⟩
  have base : ∀ q a k, (lx q a k).e = 0 → (lx (g ++ q) a k).e = 0 ∧ (lx (g ++ q) a k).l.map Tok.kt = (lx q a k).l.map Tok.kt := fun q a k he => by
    rw [lx_skip g hg, lx_shift]
    exact ⟨he, kt_at _ _⟩
  refine lx_ind ?_ ?_ ?_ ?_ ?_
  · intro a k p q hs ⟨t, ht, _⟩ _; cases ht
  · intro c r a k h ih p q hs ht he
    cases p with
    | nil =>
      rw [List.nil_append] at hs ⊢
      rw [hs] at he ⊢
      exact base q a k he
    | cons d p =>
      rw [List.cons_append, List.cons.injEq] at hs
      obtain ⟨rfl, hs⟩ := hs
      rw [List.cons_append]
      rw [lx_blank h] at ht he ⊢
      rw [lx_blank h]
      refine ih p q hs ?_ he
      obtain ⟨t, h1, h2⟩ := ht
      exact ⟨t, h1, by rw [h2, List.length_cons]; omega⟩
  · intro c r a h p q hs _ he; rw [lx_many h rfl] at he; cases he
  · intro c r a k h hk hf p q hs _ he; rw [lx_bad h hk hf] at he; exact (hf he).elim
  · intro c r a k h hk hf ih p q hs ht he
    cases p with
    | nil =>
      rw [List.nil_append] at hs ⊢
      rw [hs] at he ⊢
      exact base q a k he
    | cons d p =>
      obtain ⟨t, h1, h2⟩ := ht
      rw [lx_tok h hk hf] at h1 he
      have hle : tkN (c :: r) ≤ (d :: p).length ∧ t ∈ (lx ((c :: r).drop (tkN (c :: r))) (a + (tkN (c :: r) : Int)) (k + 1)).l := by
        rcases List.mem_cons.1 h1 with rfl | h1
        · simp at h2; omega
        · have := (lx_pos _ _ _ t h1).1
          exact ⟨by omega, h1⟩
      have hd : c = d := by
        rw [List.cons_append, List.cons.injEq] at hs; exact hs.1
      subst hd
      have hl := tkN_local (p := c :: p) (q := q) (q' := g ++ q) (by simp) (blankHd_of hg hn) (by rw [← hs]; exact hle.1)
      rw [← hs] at hl
      obtain ⟨l1, l2, l3⟩ := hl
      have hf' : tkF (c :: (p ++ (g ++ q))) = 0 := by
        have : tkF (c :: p ++ (g ++ q)) = tkF (c :: r) := by unfold tkF; rw [l2, l3]
        exact this.trans hf
      have hdr : (c :: r).drop (tkN (c :: r)) = (c :: p).drop (tkN (c :: r)) ++ q := by
        rw [hs, List.drop_append_of_le_length (by rw [← hs]; exact hle.1)]
      rw [List.cons_append, lx_tok h hk hf', lx_tok h hk hf]
      rw [← List.cons_append, l1, l2, l3, List.drop_append_of_le_length hle.1]
      have := ih ((c :: p).drop (tkN (c :: r))) q hdr ⟨t, hle.2, by rw [h2, List.length_drop]; omega⟩ he
      simp only [LexO.cons, List.map_cons]
      exact ⟨this.1, by rw [this.2]⟩
/-- where an error is -/
theorem lx_error : ∀ s a k, (lx s a k).e ≠ 0 → ∃ p q, s = p ++ q ∧ (lx s a k).n = a + (p.length : Int) ∧ (∃ c x, q = c :: x ∧ kd c ≠ 1) ∧ ((lx s a k).e = 4 ∨ tkF q = (lx s a k).e) ∧ (lx p a k).e = 0 ∧ (lx p a k).n = a + (p.length : Int) := by
  refine lx_ind ?_ ?_ ?_ ?_ ?_
  · intro a k he; exact (he rfl).elim
  · intro c r a k h ih he
    rw [lx_blank h] at he ⊢
    obtain ⟨p, q, h1, h2, h3, h4, h5, h6⟩ := ih he
    refine ⟨c :: p, q, by rw [h1]; rfl, ?_, h3, h4, ?_, ?_⟩
    · rw [h2, List.length_cons]; omega
    · rw [lx_blank h]; exact h5
    · rw [lx_blank h, h6, List.length_cons]; omega
  · intro c r a h _
    rw [lx_many h rfl]
    exact ⟨[], c :: r, rfl, by simp, ⟨c, r, rfl, h⟩, .inl rfl, rfl, by simp [lx_nil]⟩
  · intro c r a k h hk hf _
    rw [lx_bad h hk hf]
    exact ⟨[], c :: r, rfl, by simp, ⟨c, r, rfl, h⟩, .inr rfl, rfl, by simp [lx_nil]⟩
  · intro c r a k h hk hf ih he
    have e := tkN_le (c :: r)
    have e0 := tkN_pos hf
    rw [lx_tok h hk hf] at he ⊢
    simp only [LexO.cons] at he ⊢
    obtain ⟨p, q, h1, h2, h3, h4, h5, h6⟩ := ih he
    have hs : c :: r = (c :: r).take (tkN (c :: r)) ++ p ++ q := by
      rw [List.append_assoc, ← h1, List.take_append_drop]
    have hlen : ((c :: r).take (tkN (c :: r))).length = tkN (c :: r) := tkT_len _
    obtain ⟨p', hp'⟩ : ∃ p', (c :: r).take (tkN (c :: r)) = c :: p' := by
      cases hn : tkN (c :: r) with
      | zero => omega
      | succ n => exact ⟨_, rfl⟩
    have hl := tkN_local (p := (c :: r).take (tkN (c :: r)) ++ p) (q := q) (q' := []) (by rw [hp']; simp) blankHd_nil (by rw [← hs, List.length_append, hlen]; omega)
    rw [← hs, List.append_nil] at hl
    obtain ⟨l1, l2, l3⟩ := hl
    refine ⟨(c :: r).take (tkN (c :: r)) ++ p, q, hs, ?_, h3, h4, ?_⟩
    · rw [h2, List.length_append, hlen]; omega
    · have hf' : tkF ((c :: r).take (tkN (c :: r)) ++ p) = 0 := by unfold tkF; rw [l2, l3]; exact hf
      have hdr : ((c :: r).take (tkN (c :: r)) ++ p).drop (tkN ((c :: r).take (tkN (c :: r)) ++ p)) = p := by
        rw [l1, List.drop_append_of_le_length (by omega), List.drop_of_length_le (by omega)]; rfl
      have htok : lx ((c :: r).take (tkN (c :: r)) ++ p) a k = (lx p (a + (tkN (c :: r) : Int)) (k + 1)).cons ⟨tkK (c :: r), tkT (c :: r), a⟩ := by
        have := lx_tok (r := p' ++ p) (a := a) (c := c) h hk (by rw [← List.cons_append, ← hp']; exact hf')
        rw [← List.cons_append, ← hp', hdr, l1, l2, l3] at this
        exact this
      rw [htok]
      simp only [LexO.cons]
      exact ⟨h5, by rw [h6, List.length_append, hlen]; omega⟩
/-! tokens and gaps -/
def gap (s : List UInt8) (a b : Int) : Prop := ∀ k : Int, a ≤ k → k < b → kd (s.getD k.toNat 0) = 1
def covS (s : List UInt8) : Int → List Tok → Prop
  | a, [] => a ≤ (s.length : Int) ∧ gap s a (s.length : Int)
  | a, t :: l => a ≤ t.pos ∧ gap s a t.pos ∧ t.pos + (t.text.length : Int) ≤ (s.length : Int) ∧ cut s t.pos (t.pos + (t.text.length : Int)) = t.text ∧ tokE t.kind t.text = 0 ∧ covS s (t.pos + (t.text.length : Int)) l
theorem lx_cov (s : List UInt8) : ∀ r a k, ∀ z : Int, 0 ≤ z → z ≤ a → a ≤ (s.length : Int) → s.drop a.toNat = r → gap s z a → (lx r a k).e = 0 → covS s z (lx r a k).l := by
  refine lx_ind ?_ ?_ ?_ ?_ ?_
  · intro a k z h0 h1 h2 h3 h4 _
    have : (s.length : Int) ≤ a := by have := List.drop_eq_nil_iff.1 h3; omega
    have : a = (s.length : Int) := by omega
    rw [lx_nil]
    exact ⟨by omega, this ▸ h4⟩
  · intro c r a k h ih z h0 h1 h2 h3 h4 he
    rw [lx_blank h] at he ⊢
    have hlt : a.toNat < s.length := by
      rcases Nat.lt_or_ge a.toNat s.length with h5 | h5
      · exact h5
      · rw [List.drop_eq_nil_of_le h5] at h3; cases h3
    rw [List.drop_eq_getElem_cons hlt] at h3
    obtain ⟨hc, hr⟩ := List.cons.inj h3
    refine ih z h0 (by omega) (by omega) (by rw [show (a + 1).toNat = a.toNat + 1 from by omega]; exact hr) (fun k hk1 hk2 => ?_) he
    by_cases hka : k = a
    · subst hka
      rw [show s.getD k.toNat 0 = c from by simp [List.getD, hlt, hc]]; exact h
    · exact h4 k hk1 (by omega)
  · intro c r a h z _ _ _ _ _ he; rw [lx_many h rfl] at he; cases he
  · intro c r a k h hk hf z _ _ _ _ _ he; rw [lx_bad h hk hf] at he; exact (hf he).elim
  · intro c r a k h hk hf ih z h0 h1 h2 h3 h4 he
    rw [lx_tok h hk hf] at he ⊢
    simp only [LexO.cons] at he ⊢
    have e := tkN_le (c :: r)
    have hlen : ((c :: r).length : Int) = (s.length : Int) - a := by rw [← h3]; exact drop_len s (by omega) h2
    refine ⟨h1, h4, ?_, ?_, hf, ?_⟩
    · simp only [tkT_len]; omega
    · simp only [tkT_len]
      rw [cut_is s (by omega) (by omega), h3]
      show _ = List.take _ _
      congr 1; omega
    · simp only [tkT_len]
      refine ih _ (by omega) (Int.le_refl _) (by omega) ?_ (fun k hk1 hk2 => by omega) he
      rw [show (a + (tkN (c :: r) : Int)).toNat = a.toNat + tkN (c :: r) from by omega, ← List.drop_drop, h3]
/-! tokens joined -/
def joinT : List (List UInt8) → List UInt8
  | [] => []
  | [t] => t
  | t :: u :: r => t ++ 32 :: joinT (u :: r)
theorem word_kd : wordList.all (fun w => decide (kindN (c0 w) = 3) && decide (runK 3 w = w.length)) = true := by decide +kernel
theorem run_digs : ∀ t : List UInt8, t.all isDig = true → runK 2 t = t.length
  | [], _ => rfl
  | c :: r, h => by
    simp only [List.all_cons, Bool.and_eq_true] at h
    unfold runK
    rw [kd_dig h.1, run_digs r h.2]; rfl
where
  kd_dig {c : UInt8} (h : isDig c = true) : decide (kd c = 2) = true := by
    have hn := dig_nat h
    refine decide_eq_true ?_
    unfold kd kindN
    rw [decide_eq_false (show ¬ (c.toNat : Int) = 32 from by omega), decide_eq_false (show ¬ (c.toNat : Int) = 10 from by omega), decide_eq_true (show (48 : Int) ≤ (c.toNat : Int) from by omega), decide_eq_true (show (c.toNat : Int) ≤ 57 from by omega)]; rfl
theorem valid_tok {k : Int} {t : List UInt8} (h : tokE k t = 0) : ∃ c r, t = c :: r ∧ kd c ≠ 1 ∧ tkK t = k ∧ tkN t = t.length := by
  have hne : t ≠ [] := fun h0 => tokE_nil k (h0 ▸ h)
  obtain ⟨c, r, rfl⟩ : ∃ c r, t = c :: r := by
    cases t with
    | nil => exact (hne rfl).elim
    | cons c r => exact ⟨c, r, rfl⟩
  refine ⟨c, r, rfl, ?_⟩
  unfold tokE at h
  have hc0 : kindN (c0 (c :: r)) = kd c := rfl
  by_cases h1 : k = 1
  · rw [decide_eq_true h1, cond_true] at h
    have hd : (c :: r).all isDig = true := by
      cases hd : (c :: r).all isDig with
      | true => rfl
      | false => unfold rdE at h; rw [hd] at h; simp at h
    have hk : kd c = 2 := by
      have := run_digs.kd_dig (c := c) (by simp only [List.all_cons, Bool.and_eq_true] at hd; exact hd.1)
      exact of_decide_eq_true this
    refine ⟨by omega, ?_, ?_⟩
    · unfold tkK; rw [hc0, hk, h1]; rfl
    · unfold tkN; rw [hc0, hk]; exact run_digs _ hd
  rw [decide_eq_false h1, cond_false] at h
  by_cases h2 : k = 2
  · rw [decide_eq_true h2, cond_true] at h
    have hw : isWord (c :: r) = true := by
      cases hw : isWord (c :: r) with
      | true => rfl
      | false => rw [hw] at h; cases h
    have := List.all_eq_true.1 word_kd _ (List.contains_iff_mem.1 hw)
    simp only [Bool.and_eq_true, decide_eq_true_eq] at this
    have hk : kd c = 3 := this.1
    refine ⟨by omega, ?_, ?_⟩
    · unfold tkK; rw [hc0, hk, h2]; rfl
    · unfold tkN; rw [hc0, hk]; exact this.2
  rw [decide_eq_false h2, cond_false] at h
  by_cases h3 : k = 3
  · rw [decide_eq_true h3, cond_true] at h
    have hs : 0 < sym0 (c :: r) ∧ sym0 (c :: r) = ((c :: r).length : Int) := by
      by_cases h4 : 0 < sym0 (c :: r)
      · by_cases h5 : sym0 (c :: r) = ((c :: r).length : Int)
        · exact ⟨h4, h5⟩
        · rw [decide_eq_false h5, Bool.and_false] at h; cases h
      · rw [decide_eq_false h4] at h; cases h
    have hk : kd c = 4 := (sym_kind (s := c :: r) (by omega)).2
    refine ⟨by omega, ?_, ?_⟩
    · unfold tkK; rw [hc0, hk, h3]; rfl
    · unfold tkN; rw [hc0, hk]
      show (sym0 (c :: r)).toNat = _
      omega
  · rw [decide_eq_false h3] at h; cases h
theorem lx_join : ∀ (l : List Tok) (a : Int) (k : Nat), (∀ t ∈ l, tokE t.kind t.text = 0) → l.length + k ≤ 200 → (lx (joinT (l.map (·.text))) a k).e = 0 ∧ (lx (joinT (l.map (·.text))) a k).l.map Tok.kt = l.map Tok.kt
  | [], a, k, _, _ => ⟨rfl, rfl⟩
  | [t], a, k, h, hk => by
    obtain ⟨c, r, ht, h1, h2, h3⟩ := valid_tok (h t (List.mem_cons_self ..))
    have hf : tkF t.text = 0 := by
      unfold tkF tkT
      rw [h2, h3, List.take_of_length_le (Nat.le_refl _)]; exact h t (List.mem_cons_self ..)
    simp only [List.length_cons, List.length_nil] at hk
    show (lx t.text a k).e = 0 ∧ _
    simp only [List.map_cons, List.map_nil, joinT]
    have := lx_tok (r := r) (a := a) h1 (show k ≠ 200 from by omega) (by rw [← ht]; exact hf)
    rw [← ht, h3, List.drop_of_length_le (Nat.le_refl _), lx_nil] at this
    rw [this]
    refine ⟨rfl, ?_⟩
    simp only [LexO.cons, List.map_cons, List.map_nil, Tok.kt, h2, tkT, h3, List.take_of_length_le (Nat.le_refl _)]
  | t :: u :: l, a, k, h, hk => by
    obtain ⟨c, r, ht, h1, h2, h3⟩ := valid_tok (h t (List.mem_cons_self ..))
    have hf : tkF t.text = 0 := by
      unfold tkF tkT
      rw [h2, h3, List.take_of_length_le (Nat.le_refl _)]; exact h t (List.mem_cons_self ..)
    simp only [List.length_cons] at hk
    have ih := lx_join (u :: l) (a + (t.text.length : Int) + 1) (k + 1) (fun x hx => h x (List.mem_cons_of_mem _ hx)) (by simp only [List.length_cons]; omega)
    have hb : blankHd (32 :: joinT ((u :: l).map (·.text))) := by
      intro d x hd
      cases hd; decide
    have hl := tkN_local (p := t.text) (q := []) (q' := 32 :: joinT ((u :: l).map (·.text))) (by rw [ht]; simp) hb (by rw [List.append_nil]; exact tkN_le _)
    rw [List.append_nil, h2, h3] at hl
    obtain ⟨l1, l2, l3⟩ := hl
    have e : joinT ((t :: u :: l).map (·.text)) = t.text ++ 32 :: joinT ((u :: l).map (·.text)) := rfl
    have hf' : tkF (t.text ++ 32 :: joinT ((u :: l).map (·.text))) = 0 := by
      have : tkF (t.text ++ 32 :: joinT ((u :: l).map (·.text))) = tkF t.text := by unfold tkF; rw [l2, l3, h2]
      exact this.trans hf
    rw [e]
    have := lx_tok (r := r ++ 32 :: joinT ((u :: l).map (·.text))) (a := a) h1 (show k ≠ 200 from by omega) (by rw [← List.cons_append, ← ht]; exact hf')
    rw [← List.cons_append, ← ht, l1, l2, l3, List.drop_left, lx_blank (by decide)] at this
    rw [this]
    simp only [LexO.cons, List.map_cons] at ih ⊢
    refine ⟨ih.1, ?_⟩
    rw [ih.2]
    simp only [Tok.kt, tkT, h3, List.take_of_length_le (Nat.le_refl _)]
end Go.Am
