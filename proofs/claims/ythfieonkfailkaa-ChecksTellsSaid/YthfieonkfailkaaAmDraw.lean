/-
  AM: a region whose order is drawn: each operation is told with only what must run before it, so it does not matter which order is taken.
-/
import Derived.Test.YthfieonkfailkaaAmRun
import Derived.Test.YthfieonkfailkaaAmMono
namespace Go.Am

section ov
variable {β : Type} {b : Nat}
theorem ov_off {u : List (Nat × β)} : ∀ {f : Nat → β}, (∀ p ∈ u, p.1 ≠ b) → ov f u b = f b := by
  induction u with
  | nil => intro f _; rfl
  | cons p r ih =>
    intro f h
    simp only [ov]
    rw [ih fun q hq => h q (List.mem_cons_of_mem _ hq), updF_other _ _ _ (Ne.symm (h p (List.mem_cons_self ..)))]
theorem updF_congr {f g : Nat → β} (k : Nat) (v : β) (h : f b = g b) : updF f k v b = updF g k v b := by
  by_cases e : b = k
  · subst e; rw [updF_same, updF_same]
  · rw [updF_other _ _ _ e, updF_other _ _ _ e, h]
theorem ov_congr {u : List (Nat × β)} : ∀ {f g : Nat → β}, f b = g b → ov f u b = ov g u b := by
  induction u with
  | nil => intro f g h; exact h
  | cons p r ih => intro f g h; simp only [ov]; exact ih (updF_congr _ _ h)
theorem ov_on {u : List (Nat × β)} : ∀ {f g : Nat → β}, (∃ p ∈ u, p.1 = b) → ov f u b = ov g u b := by
  induction u with
  | nil => intro f g ⟨p, hp, _⟩; cases hp
  | cons q r ih =>
    intro f g ⟨p, hp, e⟩
    simp only [ov]
    by_cases hq : q.1 = b
    · refine ov_congr ?_
      subst hq; rw [updF_same, updF_same]
    · rcases List.mem_cons.1 hp with rfl | hp
      · exact (hq e).elim
      · exact ih ⟨p, hp, e⟩
theorem ovAll_congr {P P' : Nat → Bool} {rs : List (Nat × List (Nat × β))} : ∀ {f g : Nat → β}, (∀ x ∈ rs, (∃ p ∈ x.2, p.1 = b) → P x.1 = P' x.1) → f b = g b → ovAll P rs f b = ovAll P' rs g b := by
  induction rs with
  | nil => intro f g _ h; exact h
  | cons x r ih =>
    intro f g h e
    simp only [ovAll]
    refine ih (fun y hy => h y (List.mem_cons_of_mem _ hy)) ?_
    by_cases hx : ∃ p ∈ x.2, p.1 = b
    · rw [h x (List.mem_cons_self ..) hx]
      cases P' x.1 with
      | true => exact ov_congr e
      | false => exact e
    · have hx' : ∀ p ∈ x.2, p.1 ≠ b := fun p hp e => hx ⟨p, hp, e⟩
      cases P x.1 <;> cases P' x.1 <;> simp only [cond_true, cond_false]
      · exact e
      · rw [ov_off hx']; exact e
      · rw [ov_off hx']; exact e
      · rw [ov_off hx', ov_off hx']; exact e
theorem ovAll_append (P : Nat → Bool) (xs ys : List (Nat × List (Nat × β))) : ∀ f : Nat → β, ovAll P (xs ++ ys) f = ovAll P ys (ovAll P xs f) := by
  induction xs with
  | nil => intro f; rfl
  | cons x r ih => intro f; simp only [List.cons_append, ovAll]; exact ih _
theorem ovAll_none {P : Nat → Bool} : ∀ {rs : List (Nat × List (Nat × β))} {f : Nat → β}, (∀ x ∈ rs, P x.1 = false) → ovAll P rs f = f
  | [], _, _ => rfl
  | x :: r, f, h => by
    simp only [ovAll]
    rw [h x (List.mem_cons_self ..), cond_false]
    exact ovAll_none fun y hy => h y (List.mem_cons_of_mem _ hy)
theorem ovAll_insert {P P' : Nat → Bool} {pre post : List (Nat × List (Nat × β))} {x : Nat × List (Nat × β)} {f : Nat → β} (hk : P x.1 = false) (hk' : P' x.1 = true) (hP : ∀ k, k ≠ x.1 → P' k = P k)
    (hpre : ∀ y ∈ pre, y.1 ≠ x.1) (hpost : ∀ y ∈ post, y.1 ≠ x.1) (hd : ∀ y ∈ post, P y.1 = true → ∀ p ∈ y.2, ∀ q ∈ x.2, p.1 ≠ q.1) :
    ovAll P' (pre ++ x :: post) f b = ov (ovAll P (pre ++ x :: post) f) x.2 b := by
  rw [ovAll_append, ovAll_append]
  simp only [ovAll, hk, hk', cond_true, cond_false]
  have e0 : ovAll P' pre f b = ovAll P pre f b := ovAll_congr (fun y hy _ => hP _ (hpre y hy)) rfl
  by_cases hb : ∃ q ∈ x.2, q.1 = b
  · rw [ov_on (f := ovAll P post (ovAll P pre f)) (g := ovAll P pre f) hb]
    obtain ⟨q, hq, e⟩ := hb
    have e1 : ovAll P' post (ov (ovAll P' pre f) x.2) b = ovAll (fun _ => false) post (ov (ovAll P' pre f) x.2) b := ovAll_congr (fun y hy ⟨p, hp, e'⟩ => by
      rw [hP _ (hpost y hy)]
      cases hPy : P y.1 with
      | false => rfl
      | true => exact (hd y hy hPy p hp q hq (e'.trans e.symm)).elim) rfl
    rw [e1, ovAll_none (fun _ _ => rfl)]
    exact ov_on ⟨q, hq, e⟩
  · have hb' : ∀ p ∈ x.2, p.1 ≠ b := fun p hp e => hb ⟨p, hp, e⟩
    rw [ov_off hb']
    exact ovAll_congr (fun y hy _ => hP _ (hpost y hy)) (by rw [ov_off hb']; exact e0)
theorem updW_ov (h : Heap) (W : Upd) : updW h W = ov h W := by
  induction W generalizing h with
  | nil => rfl
  | cons p r ih => obtain ⟨b, x⟩ := p; simp only [updW, ov]; exact ih _
end ov

theorem memb_iff {l : List Nat} {k : Nat} : memb l k = true ↔ k ∈ l := by
  unfold memb
  rw [List.any_eq_true]
  exact ⟨fun ⟨x, hx, e⟩ => by rw [Nat.eq_of_beq_eq_true e]; exact hx, fun h => ⟨k, h, Nat.beq_refl k⟩⟩
theorem memb_false {l : List Nat} {k : Nat} (h : k ∉ l) : memb l k = false := by
  cases hm : memb l k with
  | false => rfl
  | true => exact (h (memb_iff.1 hm)).elim

/-! what must run before -/
theorem mem_uniq {d : Nat} : ∀ {l : List Nat}, d ∈ uniq l → d ∈ l
  | [], h => by simp [uniq] at h
  | x :: r, h => by
    unfold uniq at h
    simp only at h
    cases hm : memb (uniq r) x with
    | true => rw [hm, cond_true] at h; exact List.mem_cons_of_mem _ (mem_uniq h)
    | false =>
      rw [hm, cond_false] at h
      rcases List.mem_cons.1 h with rfl | h
      · exact List.mem_cons_self ..
      · exact List.mem_cons_of_mem _ (mem_uniq h)
theorem depsGo_prefix : ∀ (l : List Oper) (acc : List (List Nat)), ∃ t, depsGo l acc = acc ++ t
  | [], acc => ⟨[], by simp [depsGo]⟩
  | o :: r, acc => by
    obtain ⟨t, ht⟩ := depsGo_prefix r (acc ++ [uniq ((edgesOf o).flatMap fun d => d :: acc.getD d [])])
    exact ⟨_ :: t, by simp only [depsGo]; rw [ht, List.append_assoc]; rfl⟩
theorem depsGo_spec : ∀ (l : List Oper) (acc : List (List Nat)) (i : Nat) (o : Oper), l[i]? = some o →
    (depsGo l acc).getD (acc.length + i) [] = uniq ((edgesOf o).flatMap fun d => d :: ((depsGo l acc).take (acc.length + i)).getD d [])
  | [], acc, i, o, h => by simp at h
  | o' :: r, acc, 0, o, h => by
    simp at h; subst h
    simp only [depsGo, Nat.add_zero]
    obtain ⟨t, ht⟩ := depsGo_prefix r (acc ++ [uniq ((edgesOf o').flatMap fun d => d :: acc.getD d [])])
    rw [ht, List.append_assoc]
    simp
  | o' :: r, acc, i + 1, o, h => by
    have := depsGo_spec r (acc ++ [uniq ((edgesOf o').flatMap fun d => d :: acc.getD d [])]) i o (by simpa using h)
    simp only [List.length_append, List.length_cons, List.length_nil, Nat.zero_add] at this
    simp only [depsGo]
    rw [show acc.length + (i + 1) = acc.length + 1 + i from by omega]
    exact this

section
variable {E : Env} {C : CallR} {ops : Array Oper} {st : AState} {fin : List DRes}

theorem deps_mem {k : Nat} {o : Oper} (ho : ops[k]? = some o) (he : ∀ e ∈ edgesOf o, e < k) {d : Nat} (hd : d ∈ (depsGo ops.toList []).getD k []) :
    ∃ e ∈ edgesOf o, d = e ∨ d ∈ (depsGo ops.toList []).getD e [] := by
  have := depsGo_spec ops.toList [] k o (by simpa using ho)
  simp only [List.length_nil, Nat.zero_add] at this
  rw [this] at hd
  replace hd := mem_uniq hd
  rw [List.mem_flatMap] at hd
  obtain ⟨e, hee, hd⟩ := hd
  refine ⟨e, hee, ?_⟩
  rcases List.mem_cons.1 hd with h | h
  · exact .inl h
  · right
    have hlt := he e hee
    rw [List.getD_eq_getElem?_getD, List.getElem?_take, if_pos hlt, ← List.getD_eq_getElem?_getD] at h
    exact h

/-- what is known of an operation's outcome -/
structure OneOk (E : Env) (C : CallR) (ops : Array Oper) (st : AState) (fin : List DRes) (k : Nat) (o : Oper) (r : DRes) : Prop where
  op : ops[k]? = some o
  hk : r.k = k
  dst : r.dst = o.dst
  fits : drawFits ops.toList (depsGo ops.toList []) ((depsGo ops.toList []).getD k []) st o k r.W (fin.take k) = true
  run : ((o.guard = none ∨ ∃ j b d, o.guard = some (j, b) ∧ guardTmp ops j = some d ∧ drawT ops.toList (depsGo ops.toList []) k st (fin.take k) d = .bool b) ∧
      (exR E C o (drawId st.τ k) (ev { st with t := drawT ops.toList (depsGo ops.toList []) k st (fin.take k), h := globH st.h }) (drawH ((depsGo ops.toList []).getD k []) st (fin.take k))).sel = some (r.v, r.W)) ∨
    (((∃ j b d, o.guard = some (j, b) ∧ guardTmp ops j = some d ∧ drawT ops.toList (depsGo ops.toList []) k st (fin.take k) d = .bool (!b)) ∨ (∃ j b d, o.guard = some (j, b) ∧ guardTmp ops j = some d ∧ drawT ops.toList (depsGo ops.toList []) k st (fin.take k) d = .tup [])) ∧ r.v = .tup [] ∧ r.W = [])

theorem drawOne_ok {k : Nat} {r : DRes} (h : (drawOne E C ops (depsGo ops.toList []) st k (fin.take k)).sel = some r) : ∃ o, OneOk E C ops st fin k o r := by
  unfold drawOne at h
  split at h
  · simp [T.sel] at h
  rename_i o ho
  refine ⟨o, ?_⟩
  simp only at h
  -- the two ways
  have go : ((exR E C o (drawId st.τ k) (ev { st with t := drawT ops.toList (depsGo ops.toList []) k st (fin.take k), h := globH st.h }) (drawH ((depsGo ops.toList []).getD k []) st (fin.take k))).bind fun r => bif drawFits ops.toList (depsGo ops.toList []) ((depsGo ops.toList []).getD k []) st o k r.2 (fin.take k) then T.leaf ⟨k, o.dst, r.1, r.2⟩ else .bad).sel = some r →
      r.k = k ∧ r.dst = o.dst ∧ drawFits ops.toList (depsGo ops.toList []) ((depsGo ops.toList []).getD k []) st o k r.W (fin.take k) = true ∧
      (exR E C o (drawId st.τ k) (ev { st with t := drawT ops.toList (depsGo ops.toList []) k st (fin.take k), h := globH st.h }) (drawH ((depsGo ops.toList []).getD k []) st (fin.take k))).sel = some (r.v, r.W) := by
    intro h
    obtain ⟨⟨v, W⟩, h1, h2⟩ := T.bind_sel _ _ _ h
    simp only at h2
    cases hf : drawFits ops.toList (depsGo ops.toList []) ((depsGo ops.toList []).getD k []) st o k W (fin.take k) with
    | false => rw [hf] at h2; simp [T.sel] at h2
    | true =>
      rw [hf] at h2
      simp only [cond_true, T.sel, Option.some.injEq] at h2
      subst h2
      exact ⟨rfl, rfl, hf, h1⟩
  have skip : (bif drawFits ops.toList (depsGo ops.toList []) ((depsGo ops.toList []).getD k []) st o k [] (fin.take k) then T.leaf (⟨k, o.dst, .tup [], []⟩ : DRes) else .bad).sel = some r →
      r.k = k ∧ r.dst = o.dst ∧ drawFits ops.toList (depsGo ops.toList []) ((depsGo ops.toList []).getD k []) st o k r.W (fin.take k) = true ∧ r.v = .tup [] ∧ r.W = [] := by
    intro h
    cases hf : drawFits ops.toList (depsGo ops.toList []) ((depsGo ops.toList []).getD k []) st o k [] (fin.take k) with
    | false => rw [hf] at h; simp [T.sel] at h
    | true =>
      rw [hf] at h
      simp only [cond_true, T.sel, Option.some.injEq] at h
      subst h
      exact ⟨rfl, rfl, hf, rfl, rfl⟩
  split at h
  · rename_i hg
    obtain ⟨h1, h2, h3, h4⟩ := go h
    exact ⟨ho, h1, h2, h3, .inl ⟨.inl hg, h4⟩⟩
  · rename_i j want hg
    split at h
    · simp [T.sel] at h
    rename_i d hd
    split at h
    · rename_i b hb
      cases want with
      | true =>
        simp only at h
        rcases T.node_sel h with ⟨rfl, h⟩ | ⟨rfl, h⟩
        · obtain ⟨h1, h2, h3, h4⟩ := go h
          exact ⟨ho, h1, h2, h3, .inl ⟨.inr ⟨j, true, d, hg, hd, hb⟩, h4⟩⟩
        · obtain ⟨h1, h2, h3, h4, h5⟩ := skip h
          exact ⟨ho, h1, h2, h3, .inr ⟨.inl ⟨j, true, d, hg, hd, hb⟩, h4, h5⟩⟩
      | false =>
        simp only at h
        rcases T.node_sel h with ⟨rfl, h⟩ | ⟨rfl, h⟩
        · obtain ⟨h1, h2, h3, h4, h5⟩ := skip h
          exact ⟨ho, h1, h2, h3, .inr ⟨.inl ⟨j, false, d, hg, hd, hb⟩, h4, h5⟩⟩
        · obtain ⟨h1, h2, h3, h4⟩ := go h
          exact ⟨ho, h1, h2, h3, .inl ⟨.inr ⟨j, false, d, hg, hd, hb⟩, h4⟩⟩
    · rename_i hb
      obtain ⟨h1, h2, h3, h4, h5⟩ := skip h
      exact ⟨ho, h1, h2, h3, .inr ⟨.inr ⟨j, want, d, hg, hd, hb⟩, h4, h5⟩⟩
    · simp [T.sel] at h

theorem T.sel_bind {α β : Type} (x : T α) (f g : α → T β) (h : ∀ a, (f a).sel = (g a).sel) : (x.bind f).sel = (x.bind g).sel := by
  induction x with
  | bad => rfl
  | leaf a => exact h a
  | node b x y ihx ihy => simp only [T.bind, T.sel, ihx, ihy]
theorem guardT_sel {β : Type} (j : Nat) (f : List DRes → T β) : ∀ (rs pre : List DRes), (guardT j f pre rs).sel = (f (pre ++ rs)).sel
  | [], pre => by simp [guardT]
  | r :: rs, pre => by
    unfold guardT
    cases Nat.beq r.k j with
    | false => rw [cond_false, guardT_sel j f rs (pre ++ [r])]; simp
    | true =>
      rw [cond_true]
      obtain ⟨k, d, v, W⟩ := r
      cases v with
      | bool b => cases b <;> rfl
      | _ => rfl
theorem drawGo2_sel {E : Env} {C : CallR} {ops : Array Oper} {ds : List (List Nat)} {st : AState} : ∀ (l : List Nat) (rs : List DRes), (drawGo2 E C ops ds st l rs).sel = (drawGo E C ops ds st l rs).sel
  | [], rs => rfl
  | k :: l, rs => by
    have key : ∀ rs, ((drawOne E C ops ds st k rs).bind fun r => drawGo2 E C ops ds st l (rs ++ [r])).sel = (drawGo E C ops ds st (k :: l) rs).sel := fun rs =>
      T.sel_bind _ _ _ fun r => drawGo2_sel l (rs ++ [r])
    unfold drawGo2
    split
    · rw [guardT_sel]; simp only [List.nil_append]; exact key rs
    · exact key rs
theorem drawGo_ok : ∀ (l : List Nat) (rs fin : List DRes), (drawGo E C ops (depsGo ops.toList []) st l rs).sel = some fin → ∃ rest, fin = rs ++ rest ∧ rest.length = l.length ∧
    ∀ i k, l[i]? = some k → ∃ r, rest[i]? = some r ∧ (drawOne E C ops (depsGo ops.toList []) st k (fin.take (rs.length + i))).sel = some r
  | [], rs, fin, h => by
    simp only [drawGo, T.sel, Option.some.injEq] at h
    subst h
    exact ⟨[], by simp, rfl, fun i k e => by simp at e⟩
  | k :: l, rs, fin, h => by
    unfold drawGo at h
    obtain ⟨r, h1, h2⟩ := T.bind_sel _ _ _ h
    obtain ⟨rest, e1, e2, e3⟩ := drawGo_ok l (rs ++ [r]) fin h2
    refine ⟨r :: rest, by rw [e1]; simp, by simp [e2], fun i k' e => ?_⟩
    cases i with
    | zero =>
      simp at e; subst e
      refine ⟨r, rfl, ?_⟩
      rw [e1, Nat.add_zero, List.append_assoc, List.take_left']
      · exact h1
      · rfl
    | succ i =>
      obtain ⟨r', h3, h4⟩ := e3 i k' (by simpa using e)
      refine ⟨r', by simpa using h3, ?_⟩
      rw [show rs.length + (i + 1) = (rs ++ [r]).length + i from by simp; omega]
      exact h4

/-- all outcomes -/
structure AllOk (E : Env) (C : CallR) (ops : Array Oper) (st : AState) (fin : List DRes) : Prop where
  len : fin.length = ops.size
  one : ∀ k, k < ops.size → ∃ o r, fin[k]? = some r ∧ OneOk E C ops st fin k o r
structure Fits (ops : Array Oper) (st : AState) (fin : List DRes) (k : Nat) (o : Oper) (W : Upd) : Prop where
  c1 : ∀ r ∈ fin.take k, r.k ∈ (depsGo ops.toList []).getD k [] ∨ sameDst r.dst o.dst = false
  c2 : ∀ r ∈ fin.take k, r.k ∈ (depsGo ops.toList []).getD k [] ∨ ∀ p ∈ r.W, ∀ q ∈ W, p.1 ≠ q.1
  c3 : ∀ r ∈ fin.take k, ∀ p ∈ r.W, inRange (drawId st.τ k) p.1 = false
  c4 : (∀ p ∈ W, inRange (drawId st.τ k) p.1 = true) ∨ ∀ r ∈ fin.take k, r.k ∈ (depsGo ops.toList []).getD k [] ∨ ∃ q, ops[r.k]? = some q ∧ (heapFree q.op = true ∨ ∃ b, readsAt ops.toList (depsGo ops.toList []) st (fin.take k) q r.k = some b ∧ ∀ p ∈ W, b ≠ p.1)
  c5 : ∀ d, o.dst = some d → d < st.n
  c6 : ∀ e ∈ edgesOf o, e < k
  c7 : ∀ p ∈ W, p.1 < globBase
theorem hasName_false {W : Upd} {b : Nat} (h : hasName W b = false) : ∀ q ∈ W, b ≠ q.1 := by
  intro q hq e
  unfold hasName at h
  rw [List.any_eq_false] at h
  exact h q hq (by rw [e]; exact Nat.beq_refl _)
theorem hasName_true {W : Upd} {b : Nat} (h : ∃ q ∈ W, q.1 = b) : hasName W b = true := by
  obtain ⟨q, hq, e⟩ := h
  unfold hasName
  rw [List.any_eq_true]
  exact ⟨q, hq, by rw [e]; exact Nat.beq_refl _⟩
theorem OneOk.fit {k : Nat} {o : Oper} {r : DRes} (h : OneOk E C ops st fin k o r) : Fits ops st fin k o r.W := by
  have hf := h.fits
  unfold drawFits at hf
  simp only [Bool.and_eq_true] at hf
  obtain ⟨⟨⟨⟨⟨⟨h1, h2⟩, h3⟩, h4⟩, h5⟩, h6⟩, h7⟩ := hf
  rw [List.all_eq_true] at h1 h2 h3 h6 h7
  refine ⟨fun r hr => ?_, fun r hr => ?_, fun r hr p hp => ?_, ?_, fun d hd => ?_, fun e he => lt_of_blt (h6 e he), fun p hp => lt_of_blt (h7 p hp)⟩
  · have := h1 r hr
    simp only [Bool.or_eq_true, Bool.not_eq_true'] at this
    exact this.imp memb_iff.1 id
  · have := h2 r hr
    simp only [Bool.or_eq_true, List.all_eq_true, Bool.not_eq_true'] at this
    exact this.imp memb_iff.1 fun h p hp q hq => hasName_false (h p hp) q hq
  · have := h3 r hr
    rw [List.all_eq_true] at this
    simpa using this p hp
  · simp only [Bool.or_eq_true, List.all_eq_true] at h4
    refine h4.imp id fun h r hr => (h r hr).imp memb_iff.1 fun h => ?_
    split at h
    · rename_i q hq
      refine ⟨q, by simpa using hq, ?_⟩
      unfold freeOf at h
      rw [Bool.or_eq_true] at h
      refine h.imp id fun h => ?_
      split at h
      · rename_i b hb
        exact ⟨b, hb, hasName_false (by simpa using h)⟩
      · cases h
    · cases h
  · rw [hd] at h5; exact lt_of_blt h5

theorem SatH.sub {ρ : Rho} {h h' : Heap} {w : World} (hs : SatH ρ h w) (hl : HLe h' h) : SatH ρ h' w :=
  ⟨fun c x hc => hs.pos c x (hl _ _ hc), fun c x hc => hs.wf c x (hl _ _ hc), fun c x p hc => hs.cells c x p (hl _ _ hc),
   fun c x p hc => hs.own c x p (hl _ _ hc), fun c x p c' x' p' hc ho hp h0 hc' => hs.apart c x p c' x' p' (hl _ _ hc) ho hp h0 (hl _ _ hc')⟩

def dst (st : AState) (fin : List DRes) (D : Nat → Bool) : AState := { st with t := ovAll D (fin.map DRes.tu) st.t, h := ovAll D (fin.map DRes.hu) st.h }
structure Inv (E : Env) (ops : Array Oper) (st : AState) (fin : List DRes) (D : Nat → Bool) (ρ0 ρ : Rho) (a0 a : Act) (w0 w : World) : Prop where
  rs : RSat E ρ (dst st fin D) a w (fun j => D j = true)
  stp : Stp (ownB ρ0 st.h) (ownB ρ (dst st fin D).h) w0 w
  keeps : Keeps (opsDst ops (List.range ops.size)) a0 a
  lt : ∀ k, D k = true → k < ops.size
  closed : ∀ k, D k = true → ∀ d ∈ (depsGo ops.toList []).getD k [], D d = true
  le : ρ0.le ρ

theorem AllOk.key (ha : AllOk E C ops st fin) {i : Nat} {y : DRes} (h : fin[i]? = some y) : y.k = i ∧ i < ops.size := by
  have hi : i < ops.size := by rw [← ha.len]; exact (List.getElem?_eq_some_iff.1 h).1
  obtain ⟨o, r, h1, h2⟩ := ha.one i hi
  rw [h] at h1; cases h1
  exact ⟨h2.hk, hi⟩
theorem AllOk.take (ha : AllOk E C ops st fin) {k : Nat} {y : DRes} (h : y ∈ fin.take k) : y.k < k ∧ fin[y.k]? = some y := by
  obtain ⟨i, hi⟩ := List.mem_iff_getElem?.1 h
  rw [List.getElem?_take] at hi
  split at hi
  · rename_i hlt
    have := (ha.key hi).1
    rw [this]; exact ⟨hlt, hi⟩
  · cases hi
theorem AllOk.drop (ha : AllOk E C ops st fin) {k : Nat} {y : DRes} (h : y ∈ fin.drop k) : k ≤ y.k ∧ fin[y.k]? = some y := by
  obtain ⟨i, hi⟩ := List.mem_iff_getElem?.1 h
  rw [List.getElem?_drop] at hi
  have := (ha.key hi).1
  rw [this]; exact ⟨Nat.le_add_right _ _, hi⟩
theorem mem_take_of {k j : Nat} {y : DRes} (h : fin[j]? = some y) (hj : j < k) : y ∈ fin.take k :=
  List.mem_iff_getElem?.2 ⟨j, by rw [List.getElem?_take, if_pos hj]; exact h⟩
theorem AllOk.deps_lt (ha : AllOk E C ops st fin) : ∀ k, k < ops.size → ∀ d ∈ (depsGo ops.toList []).getD k [], d < k := by
  intro k
  induction k using Nat.strongRecOn with
  | _ k ih =>
    intro hk d hd
    obtain ⟨o, r, _, h2⟩ := ha.one k hk
    obtain ⟨e, he, h3⟩ := deps_mem h2.op h2.fit.c6 hd
    have hlt := h2.fit.c6 e he
    rcases h3 with rfl | h3
    · exact hlt
    · have := ih e hlt (by omega) d h3; omega

theorem inRange_iff {id b : Nat} : inRange id b = true ↔ id ≤ b ∧ b < id + 64 := by
  unfold inRange
  rw [Bool.and_eq_true]
  exact ⟨fun ⟨h1, h2⟩ => ⟨Nat.le_of_ble_eq_true h1, lt_of_blt h2⟩, fun ⟨h1, h2⟩ => ⟨Nat.ble_eq_true_of_le h1, Nat.ble_eq_true_of_le h2⟩⟩

section step
variable {D : Nat → Bool} {ρ0 ρ : Rho} {a0 a : Act} {w0 w : World} {k : Nat} {o : Oper} {r : DRes}

/-- what a later operation, done already, leaves to an earlier one -/
theorem later (ha : AllOk E C ops st fin) (hi : Inv E ops st fin D ρ0 ρ a0 a w0 w) (hr : fin[k]? = some r) (ho : ops[k]? = some o) (hnk : D k = false) {y : DRes} (hy : fin[y.k]? = some y) (hlt : k < y.k) (hD : D y.k = true) :
    sameDst r.dst y.dst = false ∧ (∀ p ∈ y.W, ∀ q ∈ r.W, p.1 ≠ q.1) ∧ ((∀ q ∈ y.W, inRange (drawId st.τ y.k) q.1 = true) ∨ heapFree o.op = true ∨ ∃ b, readsAt ops.toList (depsGo ops.toList []) st fin o k = some b ∧ ∀ p ∈ y.W, b ≠ p.1) ∧ ∀ z ∈ fin.take y.k, ∀ p ∈ z.W, inRange (drawId st.τ y.k) p.1 = false := by
  obtain ⟨oj, y', h1, one⟩ := ha.one y.k (hi.lt _ hD)
  rw [hy] at h1; cases h1
  have hf := one.fit
  have hrk := (ha.key hr).1
  have hm : r ∈ fin.take y.k := mem_take_of hr hlt
  have hnd : r.k ∉ (depsGo ops.toList []).getD y.k [] := fun h => by
    have := hi.closed _ hD _ h
    rw [hrk, hnk] at this; cases this
  refine ⟨?_, fun p hp q hq e => ?_, ?_, hf.c3⟩
  · rw [one.dst]; exact (hf.c1 r hm).resolve_left hnd
  · exact (hf.c2 r hm).resolve_left hnd q hq p hp e.symm
  · refine hf.c4.imp id fun h => ?_
    obtain ⟨q, hq, hq2⟩ := (h r hm).resolve_left hnd
    rw [hrk, ho] at hq; cases hq
    refine hq2.imp id fun ⟨b, hb, h⟩ => ⟨b, ?_, h⟩
    rw [← hb, hrk]
    unfold readsAt
    rw [List.take_take, Nat.min_eq_left (by omega)]

theorem sliceR_rd {b0 : Nat} {h h' : Heap} {t : TypeId} {x : AV} {lo hi : Option AV} {r : AV × Upd} (hx : rdOf x = some b0) (hh : ∀ y, h b0 = some y → h' b0 = some y) (he : (sliceR E h t x lo hi).sel = some r) : (sliceR E h' t x lo hi).sel = some r := by
  cases x with
  | slw b =>
    cases hx
    cases hb : h b0 with
    | none => simp only [sliceR, slLen, hb, Option.map_none] at he; repeat' split at he; all_goals simp_all [T.sel]
    | some y => simp only [sliceR, slLen, slAt, hb, hh y hb] at he ⊢; exact he
  | sl b i n =>
    cases hx
    cases hb : h b0 with
    | none => simp only [sliceR, slLen, slAt, hb] at he; repeat' split at he; all_goals simp_all [T.sel]
    | some y => simp only [sliceR, slLen, slAt, hb, hh y hb] at he ⊢; exact he
  | ptr b i j => exact he
  | str s => exact he
  | int k n => exact he
  | _ => cases hx
theorem indexAddrR_rd {b0 : Nat} {h h' : Heap} {t : TypeId} {x ix : AV} {r : AV × Upd} (hx : rdOf x = some b0) (hh : ∀ y, h b0 = some y → h' b0 = some y) (he : (indexAddrR E h t x ix).sel = some r) : (indexAddrR E h' t x ix).sel = some r := by
  cases x with
  | slw b =>
    cases hx
    cases hb : h b0 with
    | none => simp only [indexAddrR, slLen, hb, Option.map_none] at he; repeat' split at he; all_goals simp_all [T.sel]
    | some y => simp only [indexAddrR, slLen, slAt, hb, hh y hb] at he ⊢; exact he
  | sl b i n =>
    cases hx
    cases hb : h b0 with
    | none => simp only [indexAddrR, slLen, slAt, hb] at he; repeat' split at he; all_goals simp_all [T.sel]
    | some y => simp only [indexAddrR, slLen, slAt, hb, hh y hb] at he ⊢; exact he
  | ptr b i j => exact he
  | str s => exact he
  | int k n => exact he
  | _ => cases hx
theorem bytesR_rd {b0 : Nat} {h h' : Heap} {x : AV} {r : AV × Upd} (hx : rdOf x = some b0) (hh : ∀ y, h b0 = some y → h' b0 = some y) (he : (bytesR h x).sel = some r) : (bytesR h' x).sel = some r := by
  cases x with
  | slw b =>
    cases hx
    cases hb : h b0 with
    | none => simp only [bytesR, datOf, hb, Option.map_none] at he; simp [T.sel] at he
    | some y => simp only [bytesR, datOf, hb, hh y hb] at he ⊢; exact he
  | sl b i n =>
    cases hx
    cases hb : h b0 with
    | none => simp only [bytesR, datOf, hb, Option.map_none] at he; simp [T.sel] at he
    | some y => simp only [bytesR, datOf, hb, hh y hb] at he ⊢; exact he
  | ptr b i j => exact he
  | str s => exact he
  | int k n => exact he
  | _ => cases hx
theorem exR_load {C : CallR} {id b0 : Nat} {v : AV} {W : Upd} {h h' : Heap} (hrd : readsAt ops.toList (depsGo ops.toList []) st fin o k = some b0) (hh : ∀ x, h b0 = some x → h' b0 = some x)
    (hex : (exR E C o id (ev { st with t := drawT ops.toList (depsGo ops.toList []) k st (fin.take k), h := globH st.h }) h).sel = some (v, W)) :
    (exR E C o id (ev { st with t := drawT ops.toList (depsGo ops.toList []) k st (fin.take k), h := globH st.h }) h').sel = some (v, W) := by
  unfold readsAt at hrd
  split at hrd
  · rename_i t a hop
    split at hrd
    · rename_i b i j hev
      cases hrd
      unfold exR at hex ⊢
      rw [hop] at hex ⊢
      simp only [hev, loadR] at hex ⊢
      cases hb : h b0 with
      | none => rw [hb] at hex; simp [T.sel] at hex
      | some x => rw [hb] at hex; rw [hh x hb]; exact hex
    · cases hrd
  · rename_i hop
    unfold exR at hex ⊢
    rw [hop] at hex ⊢
    exact sliceR_rd hrd hh hex
  · rename_i hop
    unfold exR at hex ⊢
    rw [hop] at hex ⊢
    exact indexAddrR_rd hrd hh hex
  · rename_i hop
    unfold exR at hex ⊢
    rw [hop] at hex ⊢
    simp only at hex ⊢
    split at hex
    · exact hex
    · exact hex
    · split at hex
      · exact bytesR_rd hrd hh hex
      · simp [T.sel] at hex
    · simp [T.sel] at hex
  · cases hrd
theorem sees_h (ha : AllOk E C ops st fin) (hi : Inv E ops st fin D ρ0 ρ a0 a w0 w) (hst : ∀ b x, st.h b = some x → b < st.τ * 262144 ∨ globBase ≤ b) (hτ : st.τ < 1000000) (hn : ops.size ≤ 4096)
    (hr : fin[k]? = some r) (ho : ops[k]? = some o) (hnk : D k = false) (hdk : ∀ d ∈ (depsGo ops.toList []).getD k [], D d = true) (hfree : ¬ heapFree o.op = true) {b : Nat} {x : Blk} (hb : drawH ((depsGo ops.toList []).getD k []) st (fin.take k) b = some x)
    (hrd : ∀ b', readsAt ops.toList (depsGo ops.toList []) st fin o k = some b' → b' = b) : (dst st fin D).h b = some x := by
  unfold drawH at hb
  cases hany : ((fin.take k).any fun r => !memb ((depsGo ops.toList []).getD k []) r.k && hasName r.W b) with
  | true => rw [hany] at hb; cases hb
  | false =>
    rw [hany, cond_false] at hb
    rw [List.any_eq_false] at hany
    have hex : ∀ y ∈ fin.take k, (∃ p ∈ y.W, p.1 = b) → memb ((depsGo ops.toList []).getD k []) y.k = true := by
      intro y hy hp
      cases hm : memb ((depsGo ops.toList []).getD k []) y.k with
      | true => rfl
      | false => exact (hany y hy (by rw [hm, hasName_true hp]; rfl)).elim
    show ovAll D (fin.map DRes.hu) st.h b = some x
    rw [← List.take_append_drop k fin, List.map_append, ovAll_append]
    have e1 : ovAll D ((fin.take k).map DRes.hu) st.h b = some x := by
      rw [← hb]
      refine ovAll_congr (fun z hz hp => ?_) rfl
      obtain ⟨y, hy, rfl⟩ := List.mem_map.1 hz
      have hm := hex y hy hp
      show D y.k = memb _ y.k
      rw [hm]; exact hdk _ (memb_iff.1 hm)
    rw [ovAll_congr (P' := fun _ => false) (g := ovAll D ((fin.take k).map DRes.hu) st.h) (fun z hz hp => ?_) rfl, ovAll_none (fun _ _ => rfl)]
    · exact e1
    · obtain ⟨y, hy, rfl⟩ := List.mem_map.1 hz
      obtain ⟨hky, hfy⟩ := ha.drop hy
      show D y.k = false
      cases hDy : D y.k with
      | false => rfl
      | true =>
        exfalso
        have hne : y.k ≠ k := fun e => by rw [e, hnk] at hDy; cases hDy
        obtain ⟨_, _, l3, l4⟩ := later ha hi hr ho hnk hfy (by omega) hDy
        rcases l3 with l3 | l3
        · obtain ⟨p, hp, e⟩ := hp
          have hin := l3 p hp
          rw [e] at hin
          -- no earlier operation names it, so the region's heap knew it
          have e2 : ovAll (memb ((depsGo ops.toList []).getD k [])) ((fin.take k).map DRes.hu) st.h b = st.h b := by
            refine (ovAll_congr (P' := fun _ => false) (g := st.h) (fun z hz hzp => ?_) rfl).trans (congrFun (ovAll_none (fun _ _ => rfl)) b)
            obtain ⟨p', hp', e'⟩ := hzp
            obtain ⟨z', hz', rfl⟩ := List.mem_map.1 hz
            have hlt := (ha.take hz').1
            have := l4 z' (mem_take_of (ha.take hz').2 (by omega)) p' hp'
            rw [e', hin] at this; cases this
          rw [e2] at hb
          have hylt := (ha.key hfy).2
          rw [inRange_iff] at hin
          unfold drawId at hin
          rcases hst b x hb with h | h
          · omega
          · simp only [globBase] at h; omega
        · rcases l3 with l3 | ⟨b', hb', l3⟩
          · exact hfree l3
          · obtain ⟨p, hp, e⟩ := hp
            exact l3 p hp ((hrd b' hb').trans e.symm)

theorem sees_t (ha : AllOk E C ops st fin) (hi : Inv E ops st fin D ρ0 ρ a0 a w0 w) (hk : k < ops.size) (hnk : D k = false) (hdk : ∀ d ∈ (depsGo ops.toList []).getD k [], D d = true) (i : Nat) :
    V ρ (drawT ops.toList (depsGo ops.toList []) k st (fin.take k) i) (a.tmps.getD i undef) := by
  unfold drawT
  cases hany : (ops.toList.zipIdx.any fun p => (match p.1.dst with | some d => Nat.beq d i | none => false) && (!memb ((depsGo ops.toList []).getD k []) p.2 && !memb ((depsGo ops.toList []).getD p.2 []) k)) with
  | true => rw [cond_true]; simp [V]
  | false =>
    rw [cond_false]
    rw [List.any_eq_false] at hany
    have hex : ∀ j y, fin[j]? = some y → y.dst = some i → memb ((depsGo ops.toList []).getD k []) j = true ∨ memb ((depsGo ops.toList []).getD j []) k = true := by
      intro j y hy hd
      obtain ⟨hyk, hj⟩ := ha.key hy
      obtain ⟨oj, y', h1, one⟩ := ha.one j hj
      rw [hy] at h1; cases h1
      cases hm : memb ((depsGo ops.toList []).getD k []) j with
      | true => exact .inl rfl
      | false =>
        cases hm2 : memb ((depsGo ops.toList []).getD j []) k with
        | true => exact .inr rfl
        | false =>
          refine (hany (oj, j) ?_ ?_).elim
          · rw [List.mem_zipIdx_iff_getElem?]
            simpa using one.op
          · have : oj.dst = some i := by rw [← one.dst]; exact hd
            simp only [this]
            rw [hm, hm2, Nat.beq_refl]; rfl
    have e : ovAll (memb ((depsGo ops.toList []).getD k [])) ((fin.take k).map DRes.tu) st.t i = (dst st fin D).t i := by
      show _ = ovAll D (fin.map DRes.tu) st.t i
      have hd : ∀ y : DRes, (∃ p ∈ y.tu.2, p.1 = i) → y.dst = some i := by
        intro y hp
        obtain ⟨p, hp, e⟩ := hp
        unfold DRes.tu at hp
        cases hyd : y.dst with
        | none => rw [hyd] at hp; cases hp
        | some d => rw [hyd] at hp; simp only [List.mem_singleton] at hp; subst hp; rw [← e]
      rw [← List.take_append_drop k fin, List.map_append, ovAll_append]
      have e1 : ovAll (memb ((depsGo ops.toList []).getD k [])) ((fin.take k).map DRes.tu) st.t i = ovAll D ((fin.take k).map DRes.tu) st.t i := by
        refine ovAll_congr (fun z hz hp => ?_) rfl
        obtain ⟨y, hy, rfl⟩ := List.mem_map.1 hz
        show memb _ y.k = D y.k
        rcases hex y.k y (ha.take hy).2 (hd y hp) with hm | hm
        · rw [hm]; exact (hdk _ (memb_iff.1 hm)).symm
        · have h1 := (ha.take hy).1
          have h2 := ha.deps_lt y.k (by omega) _ (memb_iff.1 hm)
          omega
      have e2 : ovAll D ((fin.drop k).map DRes.tu) (ovAll D ((fin.take k).map DRes.tu) st.t) i = ovAll D ((fin.take k).map DRes.tu) st.t i := by
        refine (ovAll_congr (P' := fun _ => false) (fun z hz hp => ?_) rfl).trans (congrFun (ovAll_none (fun _ _ => rfl)) i)
        obtain ⟨y, hy, rfl⟩ := List.mem_map.1 hz
        obtain ⟨hky, hfy⟩ := ha.drop hy
        rcases hex y.k y hfy (hd y hp) with hm | hm
        · have := ha.deps_lt k hk _ (memb_iff.1 hm)
          omega
        · show D y.k = false
          cases hD : D y.k with
          | false => rfl
          | true =>
            have := hi.closed y.k hD k (memb_iff.1 hm)
            rw [hnk] at this; cases this
      rw [List.take_append_drop, e1]
      exact e2.symm
    rw [e]
    exact hi.rs.t i

/-- one operation more is done -/
theorem insert_eq (ha : AllOk E C ops st fin) (hi : Inv E ops st fin D ρ0 ρ a0 a w0 w) (hr : fin[k]? = some r) (ho : ops[k]? = some o) (hnk : D k = false) :
    (dst st fin (fun j => D j || Nat.beq j k)).h = updW (dst st fin D).h r.W ∧
    ∀ i, (dst st fin (fun j => D j || Nat.beq j k)).t i = (match r.dst with | some d => if i = d then r.v else (dst st fin D).t i | none => (dst st fin D).t i) := by
  have hrk := (ha.key hr).1
  have hsplit : fin = fin.take k ++ r :: fin.drop (k + 1) := by
    have h1 := (List.getElem?_eq_some_iff.1 hr).1
    have h2 := (List.getElem?_eq_some_iff.1 hr).2
    rw [← h2, ← List.drop_eq_getElem_cons h1, List.take_append_drop]
  have hP : ∀ j, j ≠ k → (D j || Nat.beq j k) = D j := by
    intro j hj
    have : Nat.beq j k = false := by
      cases hb : Nat.beq j k with
      | false => rfl
      | true => exact (hj (Nat.eq_of_beq_eq_true hb)).elim
    rw [this, Bool.or_false]
  have hP1 : (D k || Nat.beq k k) = true := by rw [Nat.beq_refl, Bool.or_true]
  have hpre : ∀ y ∈ fin.take k, y.k ≠ k := fun y hy => by have := (ha.take hy).1; omega
  have hpost : ∀ y ∈ fin.drop (k + 1), y.k ≠ k := fun y hy => by have := (ha.drop hy).1; omega
  constructor
  · funext b
    show ovAll _ (fin.map DRes.hu) st.h b = _
    rw [updW_ov]
    show _ = ov (ovAll D (fin.map DRes.hu) st.h) r.W b
    rw [hsplit, List.map_append, List.map_cons]
    refine ovAll_insert (x := r.hu) (by show D r.k = false; rw [hrk]; exact hnk) (by show (D r.k || Nat.beq r.k k) = true; rw [hrk]; exact hP1) (fun j hj => hP j (by rw [← hrk]; exact hj)) ?_ ?_ ?_
    · intro z hz
      obtain ⟨y, hy, rfl⟩ := List.mem_map.1 hz
      show y.k ≠ r.k
      rw [hrk]; exact hpre y hy
    · intro z hz
      obtain ⟨y, hy, rfl⟩ := List.mem_map.1 hz
      show y.k ≠ r.k
      rw [hrk]; exact hpost y hy
    · intro z hz hD p hp q hq
      obtain ⟨y, hy, rfl⟩ := List.mem_map.1 hz
      obtain ⟨h1, h2⟩ := ha.drop hy
      exact (later ha hi hr ho hnk h2 (by omega) hD).2.1 p hp q hq
  · intro i
    have e : ovAll (fun j => D j || Nat.beq j k) (fin.map DRes.tu) st.t i = ov (ovAll D (fin.map DRes.tu) st.t) r.tu.2 i := by
      rw [hsplit, List.map_append, List.map_cons]
      refine ovAll_insert (x := r.tu) (by show D r.k = false; rw [hrk]; exact hnk) (by show (D r.k || Nat.beq r.k k) = true; rw [hrk]; exact hP1) (fun j hj => hP j (by rw [← hrk]; exact hj)) ?_ ?_ ?_
      · intro z hz
        obtain ⟨y, hy, rfl⟩ := List.mem_map.1 hz
        show y.k ≠ r.k
        rw [hrk]; exact hpre y hy
      · intro z hz
        obtain ⟨y, hy, rfl⟩ := List.mem_map.1 hz
        show y.k ≠ r.k
        rw [hrk]; exact hpost y hy
      · intro z hz hD p hp q hq
        obtain ⟨y, hy, rfl⟩ := List.mem_map.1 hz
        obtain ⟨h1, h2⟩ := ha.drop hy
        have hs := (later ha hi hr ho hnk h2 (by omega) hD).1
        unfold DRes.tu at hp hq
        cases hd1 : y.dst with
        | none => rw [hd1] at hp; cases hp
        | some d1 =>
          cases hd2 : r.dst with
          | none => rw [hd2] at hq; cases hq
          | some d2 =>
            rw [hd1] at hp; rw [hd2] at hq
            simp only [List.mem_singleton] at hp hq
            subst hp; subst hq
            rw [hd1, hd2] at hs
            simp only [sameDst] at hs
            intro e
            simp only at e
            rw [e, Nat.beq_refl] at hs; cases hs
    show ovAll (fun j => D j || Nat.beq j k) (fin.map DRes.tu) st.t i = _
    rw [e]
    unfold DRes.tu
    cases r.dst with
    | none => rfl
    | some d =>
      simp only [ov]
      by_cases hid : i = d
      · subst hid; rw [updF_same, if_pos rfl]
      · rw [updF_other _ _ _ hid, if_neg hid]; rfl

theorem opsDst_mem {l : List Nat} (hl : k ∈ l) (ho : ops[k]? = some o) {d : Nat} (hd : o.dst = some d) : d ∈ opsDst ops l := by
  induction l with
  | nil => cases hl
  | cons x l ih =>
    rcases List.mem_cons.1 hl with rfl | hl
    · simp only [opsDst, ho, Option.bind_some, hd]; exact List.mem_cons_self ..
    · simp only [opsDst]
      cases (ops[x]?).bind (·.dst) with
      | none => exact ih hl
      | some e => exact List.mem_cons_of_mem _ (ih hl)

theorem draw_step (hC : CallOk E C) (hM : CallMono C) (ha : AllOk E C ops st fin) (hst : ∀ b x, st.h b = some x → b < st.τ * 262144 ∨ globBase ≤ b) (hτ : st.τ < 1000000) (hn : ops.size ≤ 4096)
    (hi : Inv E ops st fin D ρ0 ρ a0 a w0 w) (hk : k < ops.size) (hnk : D k = false) (hready : ∀ o, ops[k]? = some o → ∀ e ∈ edgesOf o, D e = true) {K : Act → World → Prop} {Q : Exit → Act → World → Prop}
    (hK : ∀ ρ' a' w', Inv E ops st fin (fun j => D j || Nat.beq j k) ρ0 ρ' a0 a' w0 w' → K a' w') : wpOp E.P ops Q k K a w := by
  obtain ⟨o, r, hr, one⟩ := ha.one k hk
  have hf := one.fit
  have hdk : ∀ d ∈ (depsGo ops.toList []).getD k [], D d = true := by
    intro d hd
    obtain ⟨e, he, h⟩ := deps_mem one.op hf.c6 hd
    have := hready o one.op e he
    rcases h with rfl | h
    · exact this
    · exact hi.closed e this d h
  obtain ⟨hh, ht⟩ := insert_eq ha hi hr one.op hnk
  have hlt' : ∀ j, (D j || Nat.beq j k) = true → j < ops.size := by
    intro j hj
    rcases Bool.or_eq_true_iff.1 hj with h | h
    · exact hi.lt j h
    · rw [Nat.eq_of_beq_eq_true h]; exact hk
  have hcl' : ∀ j, (D j || Nat.beq j k) = true → ∀ d ∈ (depsGo ops.toList []).getD j [], (D d || Nat.beq d k) = true := by
    intro j hj d hd
    rcases Bool.or_eq_true_iff.1 hj with h | h
    · rw [hi.closed j h d hd]; rfl
    · rw [Nat.eq_of_beq_eq_true h] at hd; rw [hdk d hd]; rfl
  -- the state that the operation sees
  have hglob : HLe (globH st.h) (dst st fin D).h := by
    intro b x hb
    unfold globH at hb
    cases hbb : Nat.ble globBase b with
    | false => rw [hbb] at hb; cases hb
    | true =>
      rw [hbb, cond_true] at hb
      have hge := Nat.le_of_ble_eq_true hbb
      show ovAll D (fin.map DRes.hu) st.h b = some x
      rw [← hb]
      refine (ovAll_congr (P' := fun _ => false) (g := st.h) (fun z hz hp => ?_) rfl).trans (congrFun (ovAll_none (fun _ _ => rfl)) b)
      obtain ⟨y, hy, rfl⟩ := List.mem_map.1 hz
      obtain ⟨p, hp, e⟩ := hp
      obtain ⟨i, hi'⟩ := List.mem_iff_getElem?.1 hy
      obtain ⟨oi, yi, h1, onei⟩ := ha.one i (ha.key hi').2
      rw [hi'] at h1; cases h1
      have := onei.fit.c7 p hp
      omega
  have hsk : RSat E ρ { st with t := drawT ops.toList (depsGo ops.toList []) k st (fin.take k), h := globH st.h } a w (fun j => D j = true) :=
    ⟨hi.rs.h.sub hglob, ⟨hi.rs.g.laid, hi.rs.g.size, hi.rs.g.base, fun j ⟨b, x, p, hb, h⟩ => hi.rs.g.own j ⟨b, x, p, hglob _ _ hb, h⟩⟩, hi.rs.size, sees_t ha hi hk hnk hdk, hi.rs.dom, hi.rs.glob⟩
  have hid : ∀ b, drawId st.τ k ≤ b → b < drawId st.τ k + 64 → ρ b = none := by
    intro b hb1 hb2
    cases hρ : ρ b with
    | none => rfl
    | some p =>
      exfalso
      rcases hi.rs.dom b (by rw [hρ]; simp) with h | h | ⟨j, hj, h5, h6⟩
      · simp only [drawId] at hb1; simp only [dst] at h; omega
      · simp only [drawId, globBase] at hb2 h; omega
      · have hjlt := hi.lt j hj
        have : k ≠ j := fun e => by rw [← e, hnk] at hj; cases hj
        simp only [drawId] at hb1 hb2
        simp only [dst, idOf] at h5 h6
        omega
  have hkeep : ∀ v, Keeps (opsDst ops (List.range ops.size)) a0 (a.put o.dst v) := fun v =>
    (hi.keeps.trans (Keeps.put a o.dst v)).mono fun d hd => by
      rcases List.mem_append.1 hd with h | h
      · exact h
      · cases hod : o.dst with
        | none => rw [hod] at h; cases h
        | some d' =>
          rw [hod] at h
          simp only [Option.toList_some, List.mem_singleton] at h
          subst h
          exact opsDst_mem (List.mem_range.2 hk) one.op hod
  have htmp : ∀ (ρ' : Rho) (cv : Value), ρ.le ρ' → V ρ' r.v cv → ∀ i, V ρ' ((dst st fin (fun j => D j || Nat.beq j k)).t i) ((a.put o.dst cv).tmps.getD i undef) := by
    intro ρ' cv hle hv i
    rw [ht i, getD_put, one.dst]
    cases hod : o.dst with
    | none => exact V.mono hle _ _ (hi.rs.t i)
    | some d =>
      have hd5 := hf.c5 d hod
      have hsz : a.tmps.size = st.n := hi.rs.size
      simp only
      by_cases e : i = d
      · rw [if_pos e, if_pos ⟨by rw [hsz]; exact hd5, e⟩]; exact hv
      · rw [if_neg e, if_neg fun h => e h.2]; exact V.mono hle _ _ (hi.rs.t i)
  unfold wpOp
  rw [one.op]
  simp only
  have hwant : ∀ j b d (v : Bool), o.guard = some (j, b) → guardTmp ops j = some d → drawT ops.toList (depsGo ops.toList []) k st (fin.take k) d = .bool v → Region.wanted o (yielded ops a.tmps) = (v == b) := by
    intro j b d v hg hgt hb
    have hy := yielded_V hsk hgt hb
    simp only [Region.wanted, hg, hy]
    cases v <;> cases b <;> rfl
  rcases one.run with ⟨hg, hex⟩ | ⟨hskip, hv, hW⟩
  · have hw : Region.wanted o (yielded ops a.tmps) = true := by
      rcases hg with hg | ⟨j, b, d, hg, hgt, hb⟩
      · simp [Region.wanted, hg]
      · rw [hwant j b d b hg hgt hb]; cases b <;> rfl
    rw [if_pos hw]
    left
    have hex' : (exR E C o (drawId st.τ k) (ev { st with t := drawT ops.toList (depsGo ops.toList []) k st (fin.take k), h := globH st.h }) (dst st fin D).h).sel = some (r.v, r.W) := by
      by_cases hfree : heapFree o.op = true
      · rw [exR_free o hfree _ _ _ (drawH ((depsGo ops.toList []).getD k []) st (fin.take k))]; exact hex
      · cases hrd : readsAt ops.toList (depsGo ops.toList []) st fin o k with
        | none => exact exR_mono hM (fun b x hb => sees_h ha hi hst hτ hn hr one.op hnk hdk hfree hb fun b' h => by rw [hrd] at h; cases h) o _ _ _ hex
        | some b0 => exact exR_load hrd (fun x hb => sees_h ha hi hst hτ hn hr one.op hnk hdk hfree hb fun b' h => by rw [hrd] at h; exact (Option.some.inj h).symm) hex
    have hok := exR_ok hC hi.rs.h hi.rs.g hid o (fun x => hsk.ev x) hex'
    refine hok a K Q rfl fun cv w' ρ' g1 g2 g3 g4 g5 => hK ρ' _ w' ?_
    have g4' : Stp (ownB ρ (dst st fin D).h) (ownB ρ' (dst st fin (fun j => D j || Nat.beq j k)).h) w w' := by rw [hh]; exact g4
    refine ⟨⟨by rw [hh]; exact g3, hi.rs.g.step g4', ?_, htmp ρ' cv g1 g2, fun b hb => ?_, ?_⟩, hi.stp.trans g4', hkeep cv, hlt', hcl', hi.le.trans g1⟩
    · have := hi.rs.size; rw [(Keeps.put a o.dst cv).size]; exact this
    · cases hρ : ρ b with
      | none =>
        have := g5 b hb hρ
        refine .inr (.inr ⟨k, ?_, this⟩)
        show (D k || Nat.beq k k) = true
        rw [Nat.beq_refl, Bool.or_true]
      | some p =>
        rcases hi.rs.dom b (by rw [hρ]; simp) with h | h | ⟨j, hj, h5⟩
        · exact .inl h
        · exact .inr (.inl h)
        · refine .inr (.inr ⟨j, ?_, h5⟩)
          show (D j || Nat.beq j k) = true
          rw [hj]; rfl
    · intro g p hp
      cases hρ : ρ (globBase + g) with
      | none =>
        exfalso
        have := g5 (globBase + g) (by rw [hp]; simp) hρ
        simp only [drawId, globBase] at this; omega
      | some q =>
        have := g1 _ _ hρ
        rw [hp] at this; cases this
        exact hi.rs.glob g p hρ
  · have hw : Region.wanted o (yielded ops a.tmps) = false := by
      rcases hskip with ⟨j, b, d, hg, hgt, hb⟩ | ⟨j, b, d, hg, hgt, hb⟩
      · rw [hwant j b d (!b) hg hgt hb]; cases b <;> rfl
      · have hy := yielded_tup hsk hgt hb
        simp only [Region.wanted, hg, hy]; cases b <;> rfl
    rw [if_neg (by rw [hw]; simp)]
    rw [hW] at hh
    refine hK ρ _ w ⟨⟨by rw [hh]; exact hi.rs.h, by rw [hh]; exact hi.rs.g, ?_, htmp ρ undef (Rho.le.refl _) (by rw [hv]; exact undef_tup _), fun b hb => ?_, hi.rs.glob⟩, by rw [hh]; exact hi.stp, hkeep undef, hlt', hcl', hi.le⟩
    · have := hi.rs.size; rw [(Keeps.put a o.dst undef).size]; exact this
    · rcases hi.rs.dom b hb with h | h | ⟨j, hj, h5⟩
      · exact .inl h
      · exact .inr (.inl h)
      · refine .inr (.inr ⟨j, ?_, h5⟩)
        show (D j || Nat.beq j k) = true
        rw [hj]; rfl
end step

/-- how many have not run yet -/
def left (n : Nat) (listed : Array Bool) : Nat := ((List.range n).filter fun i => !listed.getD i true).length
theorem filter_less (l : List Nat) (p : Nat → Bool) (k : Nat) (hk : k ∈ l) (hp : p k = true) : (l.filter fun i => p i && !Nat.beq i k).length < (l.filter p).length := by
  induction l with
  | nil => cases hk
  | cons x l ih =>
    have hle : (l.filter fun i => p i && !Nat.beq i k).length ≤ (l.filter p).length := by
      clear ih hk
      induction l with
      | nil => simp
      | cons y l ih2 =>
        simp only [List.filter_cons]
        cases hpy : p y <;> cases hyk : Nat.beq y k <;> simp <;> omega
    simp only [List.filter_cons]
    by_cases hx : x = k
    · subst hx
      rw [hp, Nat.beq_refl]
      simp; omega
    · have hxk : Nat.beq x k = false := by
        cases hb : Nat.beq x k with
        | false => rfl
        | true => exact (hx (Nat.eq_of_beq_eq_true hb)).elim
      have := ih ((List.mem_cons.1 hk).resolve_left (Ne.symm hx))
      rw [hxk]
      cases p x <;> simp <;> omega

theorem draw_any (hC : CallOk E C) (hM : CallMono C) (ha : AllOk E C ops st fin) (hst : ∀ b x, st.h b = some x → b < st.τ * 262144 ∨ globBase ≤ b) (hτ : st.τ < 1000000) (hn : ops.size ≤ 4096)
    {ρ0 : Rho} {a0 : Act} {w0 : World} {Q : Exit → Act → World → Prop}
    (hQ : ∀ ρ' a' w', Inv E ops st fin (fun j => decide (j < ops.size)) ρ0 ρ' a0 a' w0 w' → Q .normal a' w') :
    ∀ (fuel : Nat) (listed : Array Bool) (ρ : Rho) (a : Act) (w : World), listed.size = ops.size → left ops.size listed ≤ fuel → Inv E ops st fin (fun j => listed.getD j false) ρ0 ρ a0 a w0 w → wpAny E.P .any ops Q fuel listed a w := by
  -- when nothing is ready, all has run
  have done : ∀ (listed : Array Bool) (ρ : Rho) (a : Act) (w : World), listed.size = ops.size → Inv E ops st fin (fun j => listed.getD j false) ρ0 ρ a0 a w0 w → Region.ready .any ops listed = [] → Q .normal a w := by
    intro listed ρ a w hsz hi hr
    have hall : ∀ j, j < ops.size → listed.getD j false = true := by
      intro j
      induction j using Nat.strongRecOn with
      | _ j ih =>
        intro hj
        cases hl : listed.getD j false with
        | true => rfl
        | false =>
          exfalso
          obtain ⟨o, r, hrr, one⟩ := ha.one j hj
          have hmem : j ∈ Region.ready .any ops listed := by
            unfold Region.ready
            rw [List.mem_filter]
            refine ⟨List.mem_range.2 hj, ?_⟩
            have h1 : listed.getD j true = false := by
              rw [Array.getD_eq_getD_getElem?] at hl ⊢
              have : j < listed.size := by omega
              simp [this] at hl ⊢; exact hl
            rw [h1, one.op]
            simp only [Option.map_some, Option.getD_some, Bool.not_false, Bool.true_and]
            rw [Array.all_eq_true']
            intro e he
            cases hb : Region.binds .any e with
            | false => rfl
            | true =>
              have hmem : e.on ∈ edgesOf o := by
                unfold edgesOf
                rw [List.mem_filterMap]
                exact ⟨e, by simpa using he, by rw [hb]; rfl⟩
              have hlt := one.fit.c6 _ hmem
              rw [ih e.on hlt (by omega)]; rfl
          rw [hr] at hmem; cases hmem
    refine hQ ρ a w ?_
    have e : (fun j => listed.getD j false) = (fun j => decide (j < ops.size)) := by
      funext j
      by_cases hj : j < ops.size
      · rw [hall j hj]; simp [hj]
      · rw [Array.getD_eq_getD_getElem?]
        have : ¬ j < listed.size := by omega
        simp [this, hj]
    rw [← e]; exact hi
  intro fuel
  induction fuel with
  | zero =>
    intro listed ρ a w hsz hl hi
    have hr : Region.ready .any ops listed = [] := by
      unfold Region.ready
      rw [List.filter_eq_nil_iff]
      intro j hj
      have h0 : (List.range ops.size).filter (fun i => !listed.getD i true) = [] := List.eq_nil_of_length_eq_zero (by unfold left at hl; omega)
      rw [List.filter_eq_nil_iff] at h0
      have := h0 j hj
      simp only [Bool.not_eq_true] at this
      rw [this]; simp
    exact ⟨hr, done listed ρ a w hsz hi hr⟩
  | succ fuel ih =>
    intro listed ρ a w hsz hl hi
    refine ⟨done listed ρ a w hsz hi, fun k hk => ?_⟩
    unfold Region.ready at hk
    rw [List.mem_filter] at hk
    obtain ⟨hk1, hk2⟩ := hk
    have hkn := List.mem_range.1 hk1
    rw [Bool.and_eq_true] at hk2
    have hkl : listed.getD k true = false := by simpa using hk2.1
    have hnk : listed.getD k false = false := by
      rw [Array.getD_eq_getD_getElem?] at hkl ⊢
      have : k < listed.size := by omega
      simp [this] at hkl ⊢; exact hkl
    refine draw_step hC hM ha hst hτ hn hi hkn hnk (fun o ho e he => ?_) fun ρ' a' w' hi' => ?_
    · have h3 := hk2.2
      rw [ho] at h3
      simp only [Option.map_some, Option.getD_some] at h3
      rw [Array.all_eq_true'] at h3
      unfold edgesOf at he
      rw [List.mem_filterMap] at he
      obtain ⟨x, hx, hx2⟩ := he
      cases hb : Region.binds .any x with
      | false => rw [hb] at hx2; cases hx2
      | true =>
        rw [hb, cond_true, Option.some.injEq] at hx2
        have := h3 x (by simpa using hx)
        rw [hb] at this
        rw [← hx2]
        simpa using this
    · have e : (fun j => (listed.setIfInBounds k true).getD j false) = (fun j => listed.getD j false || Nat.beq j k) := by
        funext j
        rw [Array.getD_eq_getD_getElem?, Array.getD_eq_getD_getElem?]
        by_cases hj : j = k
        · subst hj
          have : j < listed.size := by omega
          simp [this]
        · have hb : Nat.beq j k = false := by
            cases hb : Nat.beq j k with
            | false => rfl
            | true => exact (hj (Nat.eq_of_beq_eq_true hb)).elim
          rw [Array.getElem?_setIfInBounds_ne (Ne.symm hj), hb, Bool.or_false]
      refine ih _ ρ' a' w' (by simpa using hsz) ?_ (by rw [e]; exact hi')
      have : left ops.size (listed.setIfInBounds k true) < left ops.size listed := by
        unfold left
        have := filter_less (List.range ops.size) (fun i => !listed.getD i true) k hk1 (by rw [hkl]; rfl)
        refine Nat.lt_of_le_of_lt (Nat.le_of_eq ?_) this
        congr 1
        refine List.filter_congr fun j hj => ?_
        rw [Array.getD_eq_getD_getElem?, Array.getD_eq_getD_getElem?]
        by_cases hjk : j = k
        · subst hjk
          have : j < listed.size := by omega
          simp [this]
        · have hb : Nat.beq j k = false := by
            cases hb : Nat.beq j k with
            | false => rfl
            | true => exact (hjk (Nat.eq_of_beq_eq_true hb)).elim
          rw [Array.getElem?_setIfInBounds_ne (Ne.symm hjk), hb]; simp
      omega

/-- a region whose order is drawn -/
theorem draw_ok (hC : CallOk E C) (hM : CallMono C) {st1 : AState} {id : Nat} (h : (drawAll E C ops st).sel = some st1) (hn : ops.size ≤ 4096) (hτ : st.τ < 1000000) {ρ : Rho} {a : Act} {w : World} (hs : Sat E ρ st a w) {Q : Exit → Act → World → Prop}
    (hQ : ∀ ρ' a' w', Sat E ρ' { st1 with τ := st1.τ + 1 } a' w' → Stp (ownB ρ st.h) (ownB ρ' st1.h) w w' → ρ.le ρ' → Keeps (opsDst ops (List.range ops.size)) a a' → Q .normal a' w') : (Code.region id ops true).wp E.P Q a w := by
  unfold drawAll at h
  cases hm : E.P.follows .mixedOrders with
  | false => rw [hm] at h; simp [T.sel] at h
  | true =>
    rw [hm, cond_true] at h
    obtain ⟨fin, h1, h2⟩ := T.bind_sel _ _ _ h
    rw [drawGo2_sel] at h1
    simp only [T.sel, Option.some.injEq] at h2
    obtain ⟨rest, e1, e2, e3⟩ := drawGo_ok _ _ _ h1
    simp only [List.nil_append] at e1
    subst e1
    have hlen : fin.length = ops.size := by rw [e2, List.length_range]
    have ha : AllOk E C ops st fin := ⟨hlen, fun k hk => by
      obtain ⟨r, h3, h4⟩ := e3 k k (by rw [List.getElem?_range hk])
      rw [List.length_nil, Nat.zero_add] at h4
      obtain ⟨o, one⟩ := drawOne_ok h4
      exact ⟨o, r, h3, one⟩⟩
    have hst : ∀ b x, st.h b = some x → b < st.τ * 262144 ∨ globBase ≤ b := fun b x hb => by
      obtain ⟨p, hp, _⟩ := hs.h.pos b x hb
      exact hs.dom b (by rw [hp]; simp)
    have hnone : ∀ j, (Array.replicate ops.size false).getD j false = false := by
      intro j
      rw [Array.getD_eq_getD_getElem?]
      by_cases hj : j < ops.size <;> simp [hj]
    have e0 : (fun j => (Array.replicate ops.size false).getD j false) = (fun _ => false) := funext hnone
    have hd0 : dst st fin (fun _ => false) = st := by
      unfold dst
      rw [ovAll_none (fun _ _ => rfl), ovAll_none (fun _ _ => rfl)]
    refine wp_region_any hm ?_
    refine draw_any hC hM ha hst hτ hn (ρ0 := ρ) (a0 := a) (w0 := w) (fun ρ' a' w' hi => ?_) ops.size _ ρ a w.drew (by simp) ?_ ?_
    · have hall : dst st fin (fun j => decide (j < ops.size)) = dst st fin (fun _ => true) := by
        unfold dst
        congr 1
        · funext i
          refine ovAll_congr (fun z hz _ => ?_) rfl
          obtain ⟨y, hy, rfl⟩ := List.mem_map.1 hz
          obtain ⟨i', hi'⟩ := List.mem_iff_getElem?.1 hy
          have := ha.key hi'
          show decide (y.k < ops.size) = true
          rw [this.1]; simp [this.2]
        · funext i
          refine ovAll_congr (fun z hz _ => ?_) rfl
          obtain ⟨y, hy, rfl⟩ := List.mem_map.1 hz
          obtain ⟨i', hi'⟩ := List.mem_iff_getElem?.1 hy
          have := ha.key hi'
          show decide (y.k < ops.size) = true
          rw [this.1]; simp [this.2]
      have hst1 : dst st fin (fun j => decide (j < ops.size)) = st1 := by rw [hall]; exact h2
      have hrs := hi.rs
      have hstp := hi.stp
      rw [hst1] at hrs hstp
      refine hQ ρ' a' w' (hrs.sat fun j hj => by have := of_decide_eq_true hj; omega) hstp hi.le hi.keeps
    · unfold left
      exact Nat.le_trans (List.length_filter_le _ _) (by simp)
    · rw [e0]
      refine ⟨?_, ?_, Keeps.refl _ _, fun k hk => by simp at hk, fun k hk => by simp at hk, Rho.le.refl _⟩
      · rw [hd0]
        exact (hs.rsat.drew).monoD fun j h => h.elim
      · rw [hd0]
        exact ⟨Ext.drew _ _, fun _ h => .inl h⟩
end
end Go.Am
