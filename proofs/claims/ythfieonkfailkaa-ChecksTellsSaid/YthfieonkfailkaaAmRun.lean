import Derived.Test.YthfieonkfailkaaAmOps9
import Derived.Orders
namespace Go.Am
section
variable {E : Env} {C : CallR}

/-- the names that operation i of a region may give -/
def idOf (τ i : Nat) : Nat := (τ * 4096 + i) * 64
/-- within a region: as Sat, with the names of the operations that are done -/
structure RSat (E : Env) (ρ : Rho) (st : AState) (a : Act) (w : World) (D : Nat → Prop) : Prop where
  h : SatH ρ st.h w
  g : GOk E (ownB ρ st.h) w
  size : a.tmps.size = st.n
  t : ∀ i, V ρ (st.t i) (a.tmps.getD i undef)
  dom : ∀ b, ρ b ≠ none → b < st.τ * 262144 ∨ globBase ≤ b ∨ ∃ i, D i ∧ idOf st.τ i ≤ b ∧ b < idOf st.τ i + 64
  glob : ∀ g p, ρ (globBase + g) = some p → p.block = g ∧ p.off = 0
theorem Sat.rsat {ρ : Rho} {st : AState} {a : Act} {w : World} (h : Sat E ρ st a w) : RSat E ρ st a w (fun _ => False) :=
  ⟨h.h, h.g, h.size, h.t, fun b hb => (h.dom b hb).elim .inl fun h => .inr (.inl h), h.glob⟩
theorem RSat.drew {ρ : Rho} {st : AState} {a : Act} {w : World} {D : Nat → Prop} (h : RSat E ρ st a w D) : RSat E ρ st a w.drew D :=
  ⟨h.h.drew, h.g.step ⟨Ext.drew _ _, fun _ h => .inl h⟩, h.size, h.t, h.dom, h.glob⟩
theorem RSat.ev {ρ : Rho} {st : AState} {a : Act} {w : World} {D : Nat → Prop} (h : RSat E ρ st a w D) (o : Operand) : V ρ (Am.ev st o) (a.eval o) := by
  cases o with
  | tmp t => exact h.t t
  | const v => exact ofVal_V ρ v
  | global g =>
    simp only [Am.ev, Act.eval]
    split
    · rename_i x hx
      obtain ⟨p, hp, _⟩ := h.h.pos _ x hx
      obtain ⟨hb, ho⟩ := h.glob g p hp
      simp only [V]
      exact ⟨p, hp, by simp [Pos.addr, hb, ho]⟩
    · simp [V]
  | func f => simp [Am.ev, Act.eval, V, VL]

theorem put_t (st : AState) (d : Option Tmp) (v : AV) (i : Nat) : (st.put d v).t i = (match d with | some d => if d < st.n ∧ i = d then v else st.t i | none => st.t i) := by
  cases d with
  | none => rfl
  | some d =>
    simp only [AState.put]
    cases hlt : Nat.blt d st.n with
    | false =>
      have : ¬ d < st.n := by
        intro h
        have := Nat.ble_eq_true_of_le (show d + 1 ≤ st.n from h)
        rw [show Nat.ble (d + 1) st.n = Nat.blt d st.n from rfl, hlt] at this; cases this
      simp [this]
    | true =>
      have : d < st.n := Nat.le_of_ble_eq_true hlt
      simp only [cond_true]
      by_cases e : i = d
      · subst e; simp [updF_same, this]
      · rw [updF_other _ _ _ e]; simp [e]
theorem put_h (st : AState) (d : Option Tmp) (v : AV) : (st.put d v).h = st.h := by
  cases d with
  | none => rfl
  | some d => simp only [AState.put]; cases Nat.blt d st.n <;> rfl
theorem put_n (st : AState) (d : Option Tmp) (v : AV) : (st.put d v).n = st.n := by
  cases d with
  | none => rfl
  | some d => simp only [AState.put]; cases Nat.blt d st.n <;> rfl
theorem put_τ (st : AState) (d : Option Tmp) (v : AV) : (st.put d v).τ = st.τ := by
  cases d with
  | none => rfl
  | some d => simp only [AState.put]; cases Nat.blt d st.n <;> rfl

theorem getD_put (a : Act) (d : Option Tmp) (v : Value) (i : Nat) : (a.put d v).tmps.getD i undef = (match d with | some d => if d < a.tmps.size ∧ i = d then v else a.tmps.getD i undef | none => a.tmps.getD i undef) := by
  cases d with
  | none => rfl
  | some d =>
    simp only [Act.put, Array.getD_eq_getD_getElem?]
    by_cases e : i = d
    · subst e
      by_cases h : i < a.tmps.size
      · simp [h]
      · simp [h]
    · rw [Array.getElem?_setIfInBounds_ne (Ne.symm e)]; simp [e]

theorem RSat.put {ρ : Rho} {st : AState} {a : Act} {w : World} {D : Nat → Prop} (h : RSat E ρ st a w D) (d : Option Tmp) {v : AV} {cv : Value} (hv : V ρ v cv) : RSat E ρ (st.put d v) (a.put d cv) w D where
  h := by rw [put_h]; exact h.h
  g := by rw [put_h]; exact h.g
  size := by rw [put_n, ← h.size]; cases d <;> simp [Act.put]
  t i := by
    rw [put_t, getD_put, h.size]
    cases d with
    | none => exact h.t i
    | some d =>
      simp only
      split
      · exact hv
      · exact h.t i
  dom b hb := by rw [put_τ]; exact h.dom b hb
  glob := h.glob
/-- a slot's value, told anew -/
theorem RSat.tell {ρ : Rho} {st : AState} {a : Act} {w : World} {D : Nat → Prop} (h : RSat E ρ st a w D) (d : Tmp) {v : AV} (hv : ∀ cv, V ρ (st.t d) cv → V ρ v cv) : RSat E ρ (st.put (some d) v) a w D where
  h := by rw [put_h]; exact h.h
  g := by rw [put_h]; exact h.g
  size := by rw [put_n]; exact h.size
  t i := by
    rw [put_t]
    simp only
    split
    · rename_i e; rw [e.2]; exact hv _ (h.t d)
    · exact h.t i
  dom b hb := by rw [put_τ]; exact h.dom b hb
  glob := h.glob

/-- slots outside D are as they were -/
structure Keeps (D : List Nat) (a a' : Act) : Prop where
  size : a'.tmps.size = a.tmps.size
  at' : ∀ i, i ∉ D → a'.tmps.getD i undef = a.tmps.getD i undef
  d : a'.defers = a.defers
theorem Keeps.refl (D : List Nat) (a : Act) : Keeps D a a := ⟨rfl, fun _ _ => rfl, rfl⟩
theorem Keeps.trans {D D' : List Nat} {a b c : Act} (h : Keeps D a b) (h' : Keeps D' b c) : Keeps (D ++ D') a c := ⟨h'.size.trans h.size, fun i hi => by
  rw [List.mem_append] at hi
  exact (h'.at' i fun h => hi (.inr h)).trans (h.at' i fun h => hi (.inl h)), h'.d.trans h.d⟩
theorem Keeps.mono {D D' : List Nat} {a b : Act} (h : Keeps D a b) (hd : ∀ i ∈ D, i ∈ D') : Keeps D' a b := ⟨h.size, fun i hi => h.at' i fun h => hi (hd i h), h.d⟩
theorem Keeps.put (a : Act) (d : Option Tmp) (v : Value) : Keeps d.toList a (a.put d v) := ⟨by cases d <;> simp [Act.put], fun i hi => by
  rw [getD_put]
  cases d with
  | none => rfl
  | some d =>
    simp only [Option.toList_some, List.mem_singleton] at hi
    simp only
    rw [if_neg (fun h => hi h.2)], by cases d <;> rfl⟩
theorem opsDst_cons {ops : Array Oper} {i : Nat} {r : List Nat} {o : Oper} (ho : ops[i]? = some o) : opsDst ops (i :: r) = o.dst.toList ++ opsDst ops r := by
  simp only [opsDst, ho, Option.bind_some]
  cases o.dst <;> rfl

theorem yielded_V {ρ : Rho} {st : AState} {a : Act} {w : World} {D : Nat → Prop} (h : RSat E ρ st a w D) {ops : Array Oper} {j d : Nat} (hg : guardTmp ops j = some d) {b : Bool} (hb : st.t d = .bool b) : yielded ops a.tmps j = some b := by
  unfold yielded
  rw [show (ops[j]?).bind (·.dst) = some d from hg]
  have := h.t d
  rw [hb] at this
  simp only [V] at this
  simp only [Option.bind_some]
  by_cases hlt : d < a.tmps.size
  · have e : a.tmps.getD d undef = a.tmps[d] := by simp [hlt]
    rw [e] at this
    simp [hlt, this]
  · have e : a.tmps.getD d undef = undef := by simp [hlt]
    rw [e] at this
    simp [undef] at this

theorem yielded_tup {ρ : Rho} {st : AState} {a : Act} {w : World} {D : Nat → Prop} (h : RSat E ρ st a w D) {ops : Array Oper} {j d : Nat} (hg : guardTmp ops j = some d) (hb : st.t d = .tup []) : yielded ops a.tmps j = none := by
  unfold yielded
  rw [show (ops[j]?).bind (·.dst) = some d from hg]
  have := h.t d
  rw [hb] at this
  simp only [V] at this
  obtain ⟨vs, hv, _⟩ := this
  simp only [Option.bind_some]
  by_cases hlt : d < a.tmps.size
  · have e : a.tmps.getD d undef = a.tmps[d] := by simp [hlt]
    rw [e] at hv
    simp [hlt, hv]
  · simp [hlt]
theorem undef_tup (ρ : Rho) : V ρ (.tup []) undef := by simp only [V]; exact ⟨#[], rfl, by simp [VL]⟩
theorem T.bind_sel {α β : Type} (x : T α) (f : α → T β) (r : β) (h : (x.bind f).sel = some r) : ∃ a, x.sel = some a ∧ (f a).sel = some r := by
  induction x with
  | bad => simp [T.bind, T.sel] at h
  | leaf a => exact ⟨a, rfl, h⟩
  | node b x y ihx ihy =>
    simp only [T.bind, T.sel] at h ⊢
    cases b with
    | true => simp only [cond_true] at h ⊢; exact ihx h
    | false => simp only [cond_false] at h ⊢; exact ihy h
theorem T.node_sel {α : Type} {b : Bool} {x y : T α} {r : α} (h : (T.node b x y).sel = some r) : (b = true ∧ x.sel = some r) ∨ (b = false ∧ y.sel = some r) := by
  cases b with
  | true => exact .inl ⟨rfl, h⟩
  | false => exact .inr ⟨rfl, h⟩

theorem ownB_put (ρ : Rho) (st : AState) (d : Option Tmp) (v : AV) : ownB ρ (st.put d v).h = ownB ρ st.h := by rw [put_h]

theorem glob_updW {h : Heap} (W : Upd) (hW : ∀ b x, (b, x) ∈ W → b < globBase) (g : Nat) : updW h W (globBase + g) = h (globBase + g) := by
  induction W generalizing h with
  | nil => rfl
  | cons p r ih =>
    obtain ⟨b, x⟩ := p
    simp only [updW]
    rw [ih (fun b x hm => hW b x (List.mem_cons_of_mem _ hm))]
    have := hW b x (List.mem_cons_self ..)
    exact updF_other _ _ _ (by omega)

/-- one operation, run -/
theorem step1_ok (hC : CallOk E C) {o : Oper} {i : Nat} {st st' : AState} (hsel : (step1 E C o i st).sel = some st') {ρ : Rho} {a : Act} {w : World} {D : Nat → Prop} (hs : RSat E ρ st a w D) (hi : ¬ D i) (hiD : ∀ j, D j → j < 4096) (hi4 : i < 4096) (hτ : st.τ < 1000000)
    {next : Act → World → Prop} {Q : Exit → Act → World → Prop}
    (hnext : ∀ ρ' a' w', RSat E ρ' st' a' w' (fun j => D j ∨ j = i) → Stp (ownB ρ st.h) (ownB ρ' st'.h) w w' → ρ.le ρ' → Keeps o.dst.toList a a' → next a' w') : o.wp E.P a w next Q := by
  unfold step1 at hsel
  obtain ⟨⟨v, W⟩, h1, h2⟩ := T.bind_sel _ _ _ hsel
  simp only [T.sel, Option.some.injEq] at h2
  subst h2
  have hid : ∀ b, (idBase st + i) * 64 ≤ b → b < (idBase st + i) * 64 + 64 → ρ b = none := by
    intro b hb1 hb2
    cases hρ : ρ b with
    | none => rfl
    | some p =>
      exfalso
      rcases hs.dom b (by rw [hρ]; simp) with h | h | ⟨j, hj, h5, h6⟩
      · simp only [idBase] at hb1; omega
      · simp only [idBase, globBase] at hb2 h; omega
      · have := hiD j hj
        have : i ≠ j := fun e => hi (e ▸ hj)
        simp only [idBase, idOf] at hb1 hb2 h5 h6; omega
  have hok := exR_ok hC hs.h hs.g hid o (fun x => hs.ev x) h1
  refine hok a next Q rfl fun cv w' ρ' g1 g2 g3 g4 g5 => ?_
  have hglob : ∀ g p, ρ' (globBase + g) = some p → p.block = g ∧ p.off = 0 := by
    intro g p hp
    cases hρ : ρ (globBase + g) with
    | none =>
      exfalso
      have := g5 (globBase + g) (by rw [hp]; simp) hρ
      simp only [idBase, globBase] at this; omega
    | some q =>
      have := g1 _ _ hρ
      rw [hp] at this; cases this
      exact hs.glob g p hρ
  refine hnext ρ' _ w' ?_ (by rw [put_h]; exact g4) g1 (Keeps.put a o.dst cv)
  have base : RSat E ρ' { st with h := updW st.h W } a w' (fun j => D j ∨ j = i) :=
    ⟨g3, hs.g.step g4, hs.size, fun j => V.mono g1 _ _ (hs.t j), fun b hb => by
      cases hρ : ρ b with
      | none =>
        have := g5 b hb hρ
        exact .inr (.inr ⟨i, .inr rfl, this⟩)
      | some p =>
        rcases hs.dom b (by rw [hρ]; simp) with h | h | ⟨j, hj, h5⟩
        · exact .inl h
        · exact .inr (.inl h)
        · exact .inr (.inr ⟨j, .inl hj, h5⟩), hglob⟩
  exact base.put o.dst g2
theorem RSat.monoD {ρ : Rho} {st : AState} {a : Act} {w : World} {D D' : Nat → Prop} (h : RSat E ρ st a w D) (hD : ∀ j, D j → D' j) : RSat E ρ st a w D' :=
  ⟨h.h, h.g, h.size, h.t, fun b hb => by
    rcases h.dom b hb with h | h | ⟨i, hi, h5⟩
    · exact .inl h
    · exact .inr (.inl h)
    · exact .inr (.inr ⟨i, hD i hi, h5⟩), h.glob⟩

theorem step1_τ {o : Oper} {i : Nat} {st st' : AState} (hsel : (step1 E C o i st).sel = some st') : st'.τ = st.τ := by
  unfold step1 at hsel
  obtain ⟨⟨v, W⟩, h1, h2⟩ := T.bind_sel _ _ _ hsel
  simp only [T.sel, Option.some.injEq] at h2
  subst h2; rw [put_τ]

theorem ops_ok (hC : CallOk E C) (ops : Array Oper) : ∀ (l : List Nat) (st st' : AState), (opsT E C ops l st).sel = some st' → ∀ (ρ : Rho) (a : Act) (w : World) (D : Nat → Prop), RSat E ρ st a w D → l.Nodup → (∀ i ∈ l, ¬ D i) →
    (∀ j, D j → j < 4096) → (∀ i ∈ l, i < 4096) → st.τ < 1000000 → ∀ (Q : Exit → Act → World → Prop), (∀ ρ' a' w', RSat E ρ' st' a' w' (fun j => D j ∨ j ∈ l) → Stp (ownB ρ st.h) (ownB ρ' st'.h) w w' → ρ.le ρ' → Keeps (opsDst ops l) a a' → Q .normal a' w') → wpOps E.P ops Q l a w
  | [], st, st', hsel, ρ, a, w, D, hs, _, _, _, _, _, Q, hQ => by
    simp only [opsT, T.sel, Option.some.injEq] at hsel
    subst hsel
    exact hQ ρ a w (hs.monoD fun j h => .inl h) (Stp.refl _ _) (Rho.le.refl _) (Keeps.refl _ _)
  | i :: rest, st, st', hsel, ρ, a, w, D, hs, hnd, hl, hD, h4, hτ, Q, hQ => by
    have hnd' := List.nodup_cons.1 hnd
    have hi : ¬ D i := hl i (List.mem_cons_self ..)
    have hi4 : i < 4096 := h4 i (List.mem_cons_self ..)
    -- what follows, behind the operation that has been done
    have after : ∀ {st1 : AState}, st1.τ = st.τ → (opsT E C ops rest st1).sel = some st' → ∀ ρ1 a1 w1, RSat E ρ1 st1 a1 w1 (fun j => D j ∨ j = i) → Stp (ownB ρ st.h) (ownB ρ1 st1.h) w w1 → ρ.le ρ1 → Keeps (((ops[i]?).bind (·.dst)).toList) a a1 → wpOps E.P ops Q rest a1 w1 := by
      intro st1 hτ1 hrest ρ1 a1 w1 hs1 hst1 hle1 hk1
      refine ops_ok hC ops rest st1 st' hrest ρ1 a1 w1 _ hs1 hnd'.2 (fun j hj h => ?_) (fun j h => ?_) (fun j hj => h4 j (List.mem_cons_of_mem _ hj)) (by rw [hτ1]; exact hτ) Q fun ρ' a' w' h5 h6 hle h7 => hQ ρ' a' w' (h5.monoD fun j h => ?_) (hst1.trans h6) (hle1.trans hle) ((hk1.trans h7).mono fun j hj => by
        simp only [opsDst]
        cases hd : (ops[i]?).bind (·.dst) <;> simp_all)
      · rcases h with h | h
        · exact hl j (List.mem_cons_of_mem _ hj) h
        · exact hnd'.1 (h ▸ hj)
      · rcases h with h | h
        · exact hD j h
        · omega
      · rcases h with (h | h) | h
        · exact .inl h
        · exact .inr (by rw [h]; exact List.mem_cons_self ..)
        · exact .inr (List.mem_cons_of_mem _ h)
    rw [wpOps_cons]
    unfold opsT at hsel
    unfold wpOp
    cases ho : ops[i]? with
    | none => simp only [ho] at hsel; simp [T.sel] at hsel
    | some o =>
      simp only [ho] at hsel ⊢
      -- the operation, run from a state that tells more
      have doit : ∀ {stx : AState}, stx.τ = st.τ → stx.h = st.h → RSat E ρ stx a w D → ((step1 E C o i stx).bind fun st => opsT E C ops rest st).sel = some st' → o.wp E.P a w (wpOps E.P ops Q rest) Q := by
        intro stx hτx hhx hsx hselx
        obtain ⟨st1, h1, h2⟩ := T.bind_sel _ _ _ hselx
        refine step1_ok hC h1 hsx hi hD hi4 (by rw [hτx]; exact hτ) fun ρ1 a1 w1 g1 g2 gle g3 => ?_
        exact after (by rw [step1_τ h1, hτx]) h2 ρ1 a1 w1 g1 (by rw [hhx] at g2; exact g2) gle (by simpa [ho] using g3)
      cases hg : o.guard with
      | none =>
        simp only [hg] at hsel
        rw [if_pos (by simp [Region.wanted, hg])]
        exact .inl (doit rfl rfl hs hsel)
      | some jw =>
        obtain ⟨j, want⟩ := jw
        simp only [hg] at hsel
        cases hgt : guardTmp ops j with
        | none => simp only [hgt] at hsel; simp [T.sel] at hsel
        | some d =>
          simp only [hgt] at hsel
          cases hb : st.t d with
          | bool b =>
            simp only [hb] at hsel
            have hy := yielded_V hs hgt hb
            have hw : Region.wanted o (yielded ops a.tmps) = (b == want) := by
              simp only [Region.wanted, hg, hy]
              cases b <;> cases want <;> rfl
            have htell : RSat E ρ (st.put (some d) (.bool b)) a w D := hs.tell d fun cv hcv => by rw [hb] at hcv; exact hcv
            have skip : (opsT E C ops rest ((st.put (some d) (.bool b)).put o.dst (.tup []))).sel = some st' → wpOps E.P ops Q rest (a.put o.dst undef) w := fun hsk =>
              after (by rw [put_τ, put_τ]) hsk ρ _ w ((htell.put o.dst (undef_tup _)).monoD fun j h => .inl h) (by rw [put_h, put_h]; exact Stp.refl _ _) (Rho.le.refl _) (by simpa [ho] using Keeps.put a o.dst undef)
            cases want with
            | true =>
              simp only at hsel
              rcases T.node_sel hsel with ⟨rfl, hsel⟩ | ⟨rfl, hsel⟩
              · rw [if_pos (by rw [hw]; rfl)]
                exact .inl (doit (put_τ ..) (put_h ..) htell hsel)
              · rw [if_neg (by rw [hw]; simp)]
                exact skip hsel
            | false =>
              simp only at hsel
              rcases T.node_sel hsel with ⟨rfl, hsel⟩ | ⟨rfl, hsel⟩
              · rw [if_neg (by rw [hw]; simp)]
                exact skip hsel
              · rw [if_pos (by rw [hw]; rfl)]
                exact .inl (doit (put_τ ..) (put_h ..) htell hsel)
          | tup vs =>
            cases vs with
            | nil =>
              simp only [hb] at hsel
              have hy := yielded_tup hs hgt hb
              have hw : Region.wanted o (yielded ops a.tmps) = false := by simp only [Region.wanted, hg, hy]; cases want <;> rfl
              rw [if_neg (by rw [hw]; simp)]
              exact after (by rw [put_τ]) hsel ρ _ w ((hs.put o.dst (undef_tup _)).monoD fun j h => .inl h) (by rw [put_h]; exact Stp.refl _ _) (Rho.le.refl _) (by simpa [ho] using Keeps.put a o.dst undef)
            | cons => simp only [hb] at hsel; simp [T.sel] at hsel
          | _ => simp only [hb] at hsel; simp [T.sel] at hsel

theorem lt_of_blt {a b : Nat} (h : Nat.blt a b = true) : a < b := Nat.le_of_ble_eq_true h
theorem dom_le {b τ : Nat} (h : b < τ * 262144) : b < (τ + 1) * 262144 := Nat.lt_of_lt_of_le h (Nat.mul_le_mul_right _ (Nat.le_succ _))
theorem dom_id {b τ i : Nat} (hi : i < 4096) (h : b < idOf τ i + 64) : b < (τ + 1) * 262144 := by
  unfold idOf at h
  rw [Nat.add_mul, Nat.one_mul]
  omega
theorem RSat.sat {ρ : Rho} {st : AState} {a : Act} {w : World} {D : Nat → Prop} (h : RSat E ρ st a w D) (hD : ∀ j, D j → j < 4096) : Sat E ρ { st with τ := st.τ + 1 } a w :=
  ⟨h.h, h.g, h.size, h.t, fun b hb => by
    rcases h.dom b hb with h1 | h1 | ⟨i, hi, h5, h6⟩
    · exact .inl (dom_le h1)
    · exact .inr h1
    · have := hD i hi
      exact .inl (dom_id this h6), h.glob⟩


end
end Go.Am
