/-
  AM: loops by contract: what a loop takes, changes and gives, told without addresses.
-/
import Derived.Test.YtbccnahpdmaocaaAmFn2
import Derived.LoopN
namespace Go.Am
section
variable {E : Env} {ρ : Rho} {h : Heap} {w w' : World}

def Live (p : Pos) : Prop := 0 < p.len ∧ 0 < p.stride
def ownP (ps : List Pos) (k : Nat) : Prop := ∃ p ∈ ps, 0 < p.cap ∧ p.block = k

/-! readings, carried to another world -/
theorem RdD.block_lt {d : Dat} {p : Pos} (hd : RdD w d p) (hl : Live p) : p.block < w.heap.size := by
  have h0 : 0 < d.len := by rw [← hd.len]; exact hl.1
  have hw := (hd.wf 0 h0).1
  have hs : 0 < d.stride := by rw [← hd.stride]; exact hl.2
  have hj : 0 < (d.row 0).length := by omega
  obtain ⟨c, hc, _⟩ := hd.cells 0 h0 0 _ (List.getElem?_eq_getElem hj)
  exact World.block_lt_of_cell? w _ hc
theorem RdD.world {d : Dat} {p : Pos} (hd : RdD w d p) (hk : Live p → p.block < w.heap.size → w'.heap[p.block]? = w.heap[p.block]?) : RdD w' d p := by
  refine ⟨hd.stride, hd.len, hd.cap, hd.max, hd.wf, fun i hi j av hav => ?_⟩
  obtain ⟨c, hc, hv⟩ := hd.cells i hi j av hav
  refine ⟨c, ?_, hv⟩
  have hlen : 0 < p.len := by rw [hd.len]; omega
  have hst : 0 < p.stride := by
    rw [hd.stride, ← (hd.wf i hi).1]
    have := (List.getElem?_eq_some_iff.1 hav).1; omega
  have := hk ⟨hlen, hst⟩ (World.block_lt_of_cell? w _ hc)
  unfold World.cell? at hc ⊢
  simp only [Pos.addr] at hc ⊢
  rw [this]; exact hc
theorem RdC.world {x : RC} {v : Value} {ps : List Pos} (h : RdC w x v ps) (hk : ∀ p ∈ ps, Live p → p.block < w.heap.size → w'.heap[p.block]? = w.heap[p.block]?) : RdC w' x v ps := by
  cases x <;> simp only [RdC] at h ⊢
  case sl d =>
    obtain ⟨p, rfl, hd, hs⟩ := h
    exact ⟨p, rfl, hd.world (hk p (List.mem_cons_self ..)), hs⟩
  all_goals exact h
theorem RdCs.world : ∀ {xs : List RC} {vs : List Value} {ps : List Pos}, RdCs w xs vs ps → (∀ p ∈ ps, Live p → p.block < w.heap.size → w'.heap[p.block]? = w.heap[p.block]?) → RdCs w' xs vs ps
  | [], _, _, h, _ => h
  | x :: r, _, _, h, hk => by
    obtain ⟨v, us, p, q, rfl, rfl, h1, h2⟩ := h
    exact ⟨v, us, p, q, rfl, rfl, h1.world fun z hz => hk z (List.mem_append_left _ hz), h2.world fun z hz => hk z (List.mem_append_right _ hz)⟩
theorem RdA.world {x : RA} {v : Value} {ps : List Pos} (h : RdA w x v ps) (hk : ∀ p ∈ ps, Live p → p.block < w.heap.size → w'.heap[p.block]? = w.heap[p.block]?) : RdA w' x v ps := by
  cases x with
  | c x => exact RdC.world h hk
  | agg l => obtain ⟨vs, rfl, hl⟩ := h; exact ⟨vs, rfl, hl.world hk⟩
theorem RdAs.world : ∀ {xs : List RA} {vs : List Value} {ps : List Pos}, RdAs w xs vs ps → (∀ p ∈ ps, Live p → p.block < w.heap.size → w'.heap[p.block]? = w.heap[p.block]?) → RdAs w' xs vs ps
  | [], _, _, h, _ => h
  | x :: r, _, _, h, hk => by
    obtain ⟨v, us, p, q, rfl, rfl, h1, h2⟩ := h
    exact ⟨v, us, p, q, rfl, rfl, h1.world fun z hz => hk z (List.mem_append_left _ hz), h2.world fun z hz => hk z (List.mem_append_right _ hz)⟩
theorem RdAs.block_lt : ∀ {xs : List RA} {vs : List Value} {ps : List Pos}, RdAs w xs vs ps → ∀ p ∈ ps, Live p → p.block < w.heap.size := by
  have hC : ∀ {x : RC} {v : Value} {ps : List Pos}, RdC w x v ps → ∀ p ∈ ps, Live p → p.block < w.heap.size := by
    intro x v ps h
    cases x <;> simp only [RdC] at h
    case sl d =>
      obtain ⟨q, rfl, hd, _⟩ := h
      intro p hp; simp at hp; subst hp; exact hd.block_lt
    case any => subst h; intro p hp; cases hp
    all_goals (obtain ⟨_, rfl⟩ := h; intro p hp; cases hp)
  have hCs : ∀ {xs : List RC} {vs : List Value} {ps : List Pos}, RdCs w xs vs ps → ∀ p ∈ ps, Live p → p.block < w.heap.size := by
    intro xs
    induction xs with
    | nil => intro vs ps h; obtain ⟨_, rfl⟩ := h; intro p hp; cases hp
    | cons x r ih =>
      intro vs ps h
      obtain ⟨v, us, p, q, rfl, rfl, h1, h2⟩ := h
      intro z hz
      rcases List.mem_append.1 hz with hz | hz
      · exact hC h1 z hz
      · exact ih h2 z hz
  intro xs
  induction xs with
  | nil => intro vs ps h; obtain ⟨_, rfl⟩ := h; intro p hp; cases hp
  | cons x r ih =>
    intro vs ps h
    obtain ⟨v, us, p, q, rfl, rfl, h1, h2⟩ := h
    intro z hz
    rcases List.mem_append.1 hz with hz | hz
    · cases x with
      | c x => exact hC h1 z hz
      | agg l => obtain ⟨vs, rfl, hl⟩ := h1; exact hCs hl z hz
    · exact ih h2 z hz

theorem RdAs.cap_le : ∀ {xs : List RA} {vs : List Value} {ps : List Pos}, RdAs w xs vs ps → ∀ p ∈ ps, p.len ≤ p.cap := by
  have hC : ∀ {x : RC} {v : Value} {ps : List Pos}, RdC w x v ps → ∀ p ∈ ps, p.len ≤ p.cap := by
    intro x v ps h
    cases x <;> simp only [RdC] at h
    case sl d =>
      obtain ⟨q, rfl, hd, _⟩ := h
      intro p hp; simp at hp; subst hp; exact hd.cap
    case any => subst h; intro p hp; cases hp
    all_goals (obtain ⟨_, rfl⟩ := h; intro p hp; cases hp)
  have hCs : ∀ {xs : List RC} {vs : List Value} {ps : List Pos}, RdCs w xs vs ps → ∀ p ∈ ps, p.len ≤ p.cap := by
    intro xs
    induction xs with
    | nil => intro vs ps h; obtain ⟨_, rfl⟩ := h; intro p hp; cases hp
    | cons x r ih =>
      intro vs ps h
      obtain ⟨v, us, p, q, rfl, rfl, h1, h2⟩ := h
      intro z hz
      rcases List.mem_append.1 hz with hz | hz
      · exact hC h1 z hz
      · exact ih h2 z hz
  intro xs
  induction xs with
  | nil => intro vs ps h; obtain ⟨_, rfl⟩ := h; intro p hp; cases hp
  | cons x r ih =>
    intro vs ps h
    obtain ⟨v, us, p, q, rfl, rfl, h1, h2⟩ := h
    intro z hz
    rcases List.mem_append.1 hz with hz | hz
    · cases x with
      | c x => exact hC h1 z hz
      | agg l => obtain ⟨vs, rfl, hl⟩ := h1; exact hCs hl z hz
    · exact ih h2 z hz
theorem Win.live {p q : Pos} (h : Win p q) (hl : Live q) : Live p := ⟨h.len hl.1, by rw [← h.stride]; exact hl.2⟩
theorem expC_some {t : TypeId} {a : AV} {x : RC} {bs : List Nat} (he : expC E h t a = some (x, bs)) : ∀ b ∈ bs, ∃ y, h b = some y := by
  unfold expC at he
  split at he
  all_goals first
    | (simp only [Option.some.injEq, Prod.mk.injEq] at he; obtain ⟨rfl, rfl⟩ := he; intro b hb; cases hb)
    | skip
  · split at he
    · simp only [Option.some.injEq, Prod.mk.injEq] at he; obtain ⟨rfl, rfl⟩ := he; intro b hb; cases hb
    · cases he
  · split at he
    · rename_i y hy
      cases hpl : y.dat.plain with
      | false => simp [hpl] at he
      | true =>
        simp only [hpl, cond_true, Option.some.injEq, Prod.mk.injEq] at he
        obtain ⟨rfl, rfl⟩ := he
        intro b hb; simp at hb; subst hb; exact ⟨y, hy⟩
    · cases he
  · split at he
    · rename_i y hy
      cases hpl : y.dat.plain with
      | false => simp [hpl] at he
      | true =>
        simp only [hpl, cond_true, Option.some.injEq, Prod.mk.injEq] at he
        obtain ⟨rfl, rfl⟩ := he
        intro b hb; simp at hb; subst hb; exact ⟨y, hy⟩
    · cases he
  · cases he
theorem expCs_some : ∀ {ts : List TypeId} {as : List AV} {xs : List RC} {bs : List Nat}, expCs E h ts as = some (xs, bs) → ∀ b ∈ bs, ∃ y, h b = some y
  | _, [], _, _, he => by simp only [expCs, Option.some.injEq, Prod.mk.injEq] at he; obtain ⟨rfl, rfl⟩ := he; intro b hb; cases hb
  | [], a :: as, xs, bs, he => by simp [expCs] at he
  | t :: ts, a :: as, xs, bs, he => by
    unfold expCs at he
    split at he
    · rename_i x ps hx
      split at he
      · rename_i ys qs hy
        cases he
        intro b hb
        rcases List.mem_append.1 hb with hb | hb
        · exact expC_some hx b hb
        · exact expCs_some hy b hb
      · cases he
    · cases he
theorem expA_some {t : TypeId} {a : AV} {x : RA} {bs : List Nat} (he : expA E h t a = some (x, bs)) : ∀ b ∈ bs, ∃ y, h b = some y := by
  unfold expA at he
  split at he
  · split at he
    · rename_i xs ps hx; cases he; exact expCs_some hx
    · cases he
  · split at he
    · rename_i xs ps hx; cases he; exact expC_some hx
    · cases he
theorem expAs_some : ∀ {ts : List TypeId} {as : List AV} {xs : List RA} {bs : List Nat}, expAs E h ts as = some (xs, bs) → ∀ b ∈ bs, ∃ y, h b = some y
  | [], [], _, _, he => by simp only [expAs, Option.some.injEq, Prod.mk.injEq] at he; obtain ⟨rfl, rfl⟩ := he; intro b hb; cases hb
  | [], a :: as, xs, bs, he => by simp [expAs] at he
  | t :: ts, [], xs, bs, he => by simp [expAs] at he
  | t :: ts, a :: as, xs, bs, he => by
    unfold expAs at he
    split at he
    · rename_i x ps hx
      split at he
      · rename_i ys qs hy
        cases he
        intro b hb
        rcases List.mem_append.1 hb with hb | hb
        · exact expA_some hx b hb
        · exact expAs_some hy b hb
      · cases he
    · cases he

/-- the values of slots -/
def slotVs (a : Act) (l : List (Nat × TypeId)) : List Value := l.map fun p => a.tmps.getD p.1 undef
theorem slot_VL {t : Nat → AV} {a : Act} (ht : ∀ i, V ρ (t i) (a.tmps.getD i undef)) : ∀ l : List (Nat × TypeId), VL ρ (l.map fun p => t p.1) (slotVs a l)
  | [] => by simp [slotVs, VL]
  | p :: l => by
    simp only [slotVs, List.map_cons, VL]
    exact ⟨_, _, rfl, ht p.1, slot_VL ht l⟩
theorem putAll_V {a : Act} : ∀ (l : List (Nat × TypeId)) (as : List AV) (t : Nat → AV), (∀ i, V ρ (t i) (a.tmps.getD i undef)) → VL ρ as (slotVs a l) → ∀ i, V ρ (putAll l as t i) (a.tmps.getD i undef)
  | [], as, t, ht, _ => ht
  | p :: l, [], t, ht, _ => ht
  | p :: l, x :: as, t, ht, hv => by
    simp only [slotVs, List.map_cons, VL] at hv
    obtain ⟨v, r, e, h1, h2⟩ := hv
    cases e
    simp only [putAll]
    refine putAll_V l as _ (fun i => ?_) h2
    by_cases e : i = p.1
    · subst e; rw [updF_same]; exact h1
    · rw [updF_other _ _ _ e]; exact ht i

/-- what lies behind a loop's slots: the changing values (own), the constant ones -/
structure Holds (E : Env) (w : World) (a : Act) (mv cs : List (Nat × TypeId)) (m c : List RA) (mps cps : List Pos) : Prop where
  rm : RdAs w m (slotVs a mv) mps
  rc : RdAs w c (slotVs a cs) cps
  own : OwnPs E.ng w mps
  apart : ∀ p ∈ mps, 0 < p.cap → ∀ q ∈ cps, Live q → p.block ≠ q.block
  g : GOk E (fun _ => False) w
  d : a.defers = []
def toSlots (sg : LSig) : AExit → List (Nat × TypeId)
  | .normal => sg.mv
  | _ => sg.mo
/-- a piece of code leads from what lies behind the slots to another such -/
def DSem (E : Env) (n : Nat) (sg : LSig) (k : Code) (m c : List RA) (e : AExit) (y : List RA) : Prop :=
  ∀ (a : Act) (w : World) (mps cps : List Pos), a.tmps.size = n → Holds E w a sg.mv sg.cs m c mps cps → ∀ (Q : Exit → Act → World → Prop),
    (∀ a' w' mps', a'.tmps.size = n → Holds E w' a' (toSlots sg e) sg.cs y c mps' cps → Stp (ownP mps) (ownP mps') w w' → Keeps (writes k) a a' → Q (toExit e) a' w') → k.wp E.P Q a w

theorem Keeps.slots {D : List Nat} {a a' : Act} (hk : Keeps D a a') (l : List (Nat × TypeId)) (hl : ∀ p ∈ l, p.1 ∉ D) : slotVs a' l = slotVs a l := by
  simp only [slotVs]
  exact List.map_congr_left fun p hp => hk.at' p.1 (hl p hp)

/-- the constant part is there still -/
theorem Holds.keep {a a' : Act} {mv cs : List (Nat × TypeId)} {m c : List RA} {mps cps mps' : List Pos} (hh : Holds E w a mv cs m c mps cps) (hst : Stp (ownP mps) (ownP mps') w w') {D : List Nat} (hk : Keeps D a a') (hD : ∀ p ∈ cs, p.1 ∉ D) :
    RdAs w' c (slotVs a' cs) cps ∧ (∀ p ∈ mps', 0 < p.cap → ∀ q ∈ cps, Live q → p.block ≠ q.block) := by
  have hlt := hh.rc.block_lt
  refine ⟨?_, fun p hp h0 q hq hl e => ?_⟩
  · rw [hk.slots cs hD]
    exact hh.rc.world fun q hq hl hlt => hst.ext.block _ hlt fun ⟨p, hp, h0, e⟩ => hh.apart p hp h0 q hq hl e
  · rcases hst.sub p.block ⟨p, hp, h0, rfl⟩ with ⟨r, hr, h1, e2⟩ | h5
    · exact hh.apart r hr h1 q hq hl (e2.trans e)
    · have := hlt q hq hl; omega

theorem gok_none {O : Nat → Prop} (hg : GOk E O w) : GOk E (fun _ => False) w := ⟨hg.laid, hg.size, fun _ h => h.elim⟩

theorem expOwn_ok {st : AState} (hs : SatH ρ st.h w) (hg : GOk E (ownB ρ st.h) w) {a : Act} (ht : ∀ i, V ρ (st.t i) (a.tmps.getD i undef)) {l : List (Nat × TypeId)} {y : List RA} (he : (expOwn E st l).sel = some y) :
    ∃ ps, RdAs w y (slotVs a l) ps ∧ OwnPs E.ng w ps ∧ ∀ k, ownP ps k → ownB ρ st.h k := by
  unfold expOwn at he
  split at he
  · rename_i xs bs hx
    cases hob : (ownAll st.h bs && nodupB bs) with
    | false => simp [hob, T.sel] at he
    | true =>
      simp only [hob, cond_true, T.sel, Option.some.injEq] at he
      subst he
      simp only [Bool.and_eq_true] at hob
      obtain ⟨ps, h1, h2⟩ := expAs_read hs hx (slot_VL ht l)
      refine ⟨ps, h1, leads_own hs h2 hob.1 hob.2 _ hg.own, ?_⟩
      rintro k ⟨p, hp, h0, rfl⟩
      obtain ⟨qs, rfl, rfl, hq⟩ := h2
      obtain ⟨x, hx', rfl⟩ := List.mem_map.1 hp
      rcases hq x hx' with ⟨_, h3⟩ | ⟨b, p, h3, h4, h5⟩
      · omega
      · obtain ⟨u, hu, hu2⟩ := ownAll_get hob.1 b (List.mem_filterMap.2 ⟨x, hx', h3⟩)
        exact ⟨b, u, p, hu, hu2, h4, Nat.lt_of_lt_of_le h0 h5.cap, h5.block.symm⟩
  · simp [T.sel] at he

/-- from the slots to the machine's state -/
theorem loop_sat {a : Act} {sg : LSig} {m c : List RA} {mps cps : List Pos} (hh : Holds E w a sg.mv sg.cs m c mps cps) (hlen : (impAs 0 c).2.length + (impAs (impAs 0 c).2.length m).2.length ≤ 1000) :
    ∃ ρ : Rho, Sat E ρ (loopSt E a.tmps.size sg m c) a w ∧ ∀ k, ownB ρ (loopSt E a.tmps.size sg m c).h k → ownP mps k := by
  obtain ⟨hdc, hvc⟩ := impAs_V hh.rc 0
  obtain ⟨hdm, hvm⟩ := impAs_V hh.rm (impAs 0 c).2.length
  -- the constant part
  have hcl : cps.length = (impAs 0 c).2.length := hdc.length
  have hbl : ∀ k, k < 1000 → Nat.ble globBase k = false := by
    intro k hk
    cases hb : Nat.ble globBase k with
    | false => rfl
    | true => have := Nat.le_of_ble_eq_true hb; simp only [globBase] at this; omega
  have hnm : Named (startRho E cps) 0 cps := by
    intro k p hk
    have hk' := (List.getElem?_eq_some_iff.1 hk).1
    unfold startRho
    rw [Nat.zero_add, hbl k (by omega), cond_false]; exact hk
  have hown : ∀ b x, startH E (impAs 0 c).2 b = some x → x.own = false ∧ ∃ p, startRho E cps b = some p ∧ RdD w x.dat p ∧ (p ∈ cps ∨ p.block < E.ng) := by
    intro b x hx
    unfold startH at hx
    unfold startRho
    cases hb : Nat.ble globBase b with
    | true =>
      rw [hb] at hx
      simp only [cond_true, Option.map_eq_some_iff] at hx
      obtain ⟨d, hd', rfl⟩ := hx
      exact ⟨rfl, globPos (b - globBase) d, by simp [hd'], (hh.g.laid _ d hd').2, .inr (hh.g.laid _ d hd').1⟩
    | false =>
      rw [hb] at hx
      simp only [cond_false, Option.map_eq_some_iff] at hx
      obtain ⟨d, hd', rfl⟩ := hx
      obtain ⟨p, hp, hrd⟩ := hdc.get b d hd'
      exact ⟨rfl, p, by simp [hp], hrd, .inl (List.mem_of_getElem? hp)⟩
  have hs0 : SatH (startRho E cps) (startH E (impAs 0 c).2) w := by
    refine ⟨?_, ?_, ?_, ?_, ?_⟩
    · intro b x hx
      obtain ⟨_, p, hp, hrd, _⟩ := hown b x hx
      exact ⟨p, hp, hrd.stride, hrd.len, hrd.cap, hrd.max⟩
    · intro b x hx
      obtain ⟨_, p, hp, hrd, _⟩ := hown b x hx
      exact hrd.wf
    · intro b x p hx hp i hi j av hav
      obtain ⟨_, p', hp', hrd, _⟩ := hown b x hx
      rw [hp] at hp'; cases hp'
      obtain ⟨c, hc, hv⟩ := hrd.cells i hi j av hav
      exact ⟨c, hc, V.mono (fun _ _ h => by cases h) _ _ hv⟩
    · intro b x p hx ho
      obtain ⟨h3, _⟩ := hown b x hx
      rw [h3] at ho; cases ho
    · intro b x p b' x' p' hx ho
      obtain ⟨h3, _⟩ := hown b x hx
      rw [h3] at ho; cases ho
  have hno : ∀ k, ¬ ownB (startRho E cps) (startH E (impAs 0 c).2) k := by
    rintro k ⟨b, x, p, hb, ho, _⟩
    obtain ⟨h3, _⟩ := hown b x hb
    rw [h3] at ho; cases ho
  obtain ⟨ρ', g1, g2, g3, g4, g5⟩ := addAll E.ng (impAs (impAs 0 c).2.length m).2 mps (impAs 0 c).2.length (startRho E cps) _ hs0 hdm hh.own (fun k hk => (hno k hk).elim)
    (fun b y q hb hq hl => by
      obtain ⟨h3, p, hp, hrd, h4⟩ := hown b y hb
      rw [hq] at hp; cases hp
      rcases hl with ⟨ho, _⟩ | hl
      · rw [h3] at ho; cases ho
      · rcases h4 with h4 | h4
        · exact .inr fun r hr h0 => hh.apart r hr h0 q h4 hl
        · exact .inl h4)
    (fun k hk => by
      unfold startRho
      rw [hbl _ (by omega), cond_false]
      exact List.getElem?_eq_none (by omega))
  have hO : ∀ k, ownB ρ' (loopSt E a.tmps.size sg m c).h k → ownP mps k := fun k hk => (g4 k hk).elim (fun h => (hno k h).elim) id
  refine ⟨ρ', ⟨g3, ⟨hh.g.laid, hh.g.size, fun k hk => ?_⟩, rfl, ?_, hh.d, ?_, ?_⟩, hO⟩
  · obtain ⟨p, hp, h0, rfl⟩ := hO k hk
    exact (hh.own.1 p hp h0).1
  · refine putAll_V _ _ _ (putAll_V _ _ _ (fun i => by simp [V]) (hvc ρ' fun k p hk => g1 _ _ (hnm k p hk))) (hvm ρ' g2)
  · intro b hb
    simp only [loopSt]
    cases hρ : startRho E cps b with
    | none =>
      have := g5 b hb hρ
      left; omega
    | some p =>
      cases hbb : Nat.ble globBase b with
      | true => exact .inr (Nat.le_of_ble_eq_true hbb)
      | false =>
        left
        unfold startRho at hρ
        rw [hbb, cond_false] at hρ
        have := (List.getElem?_eq_some_iff.1 hρ).1
        omega
  · intro g p hp
    have hbb : Nat.ble globBase (globBase + g) = true := Nat.ble_eq_true_of_le (Nat.le_add_right _ _)
    cases hρ : startRho E cps (globBase + g) with
    | none =>
      have := g5 (globBase + g) (by rw [hp]; simp) hρ
      simp only [globBase] at this; omega
    | some q =>
      have := g1 _ _ hρ
      rw [hp] at this; cases this
      unfold startRho at hρ
      rw [hbb, cond_true] at hρ
      simp only [Option.map_eq_some_iff] at hρ
      obtain ⟨d, _, rfl⟩ := hρ
      simp [globPos]

variable {C : CallR} {L : LoopR}
/-- one turn -/
theorem turn_ok (hC : CallOk E C) {body : Code} (hL : LoopsOk E L body) {n : Nat} {sg : LSig} (hcs : ∀ p ∈ sg.cs, p.1 ∉ writes body) {m c : List RA} {e : AExit} {y : List RA} (h : (turn E C L n sg body m c).sel = some (e, y)) : DSem E n sg body m c e y := by
  intro a w mps cps hn hh Q hQ
  unfold turn at h
  cases hc : Nat.ble ((impAs 0 c).2.length + (impAs (impAs 0 c).2.length m).2.length) 1000 with
  | false => simp [hc, T.sel] at h
  | true =>
    simp only [hc, cond_true] at h
    obtain ⟨⟨e1, st1⟩, h1, h2⟩ := T.bind_sel _ _ _ h
    subst hn
    obtain ⟨ρ, hsat, hO⟩ := loop_sat hh (Nat.le_of_ble_eq_true hc)
    refine run_ok hC body hL _ e1 st1 h1 ρ a w hsat Q fun ρ' a' w' hs' hst hk => ?_
    have h3 : e1 = e ∧ (expOwn E st1 (toSlots sg e)).sel = some y := by
      cases e1 <;> (simp only at h2; obtain ⟨z, h3, h4⟩ := T.bind_sel _ _ _ h2; simp only [T.sel, Option.some.injEq, Prod.mk.injEq] at h4; obtain ⟨rfl, rfl⟩ := h4; exact ⟨rfl, h3⟩)
    obtain ⟨rfl, h3⟩ := h3
    obtain ⟨mps', h4, h5, h6⟩ := expOwn_ok hs'.h hs'.g hs'.t h3
    have hst' : Stp (ownP mps) (ownP mps') w w' := ⟨hst.ext.mono fun k _ => hO k, fun k hk => (hst.sub k (h6 k hk)).imp_left (hO k)⟩
    obtain ⟨h7, h8⟩ := hh.keep hst' hk hcs
    exact hQ a' w' mps' hk.size ⟨h4, h7, h5, h8, gok_none hs'.g, hs'.d⟩ hst' hk
/-- many turns -/
theorem turns_ok (hC : CallOk E C) {body : Code} (hL : LoopsOk E L body) {n : Nat} {sg : LSig} (hcs : ∀ p ∈ sg.cs, p.1 ∉ writes body) : ∀ (k : Nat) {m c : List RA} {e : AExit} {y : List RA}, (turns E C L n sg body k m c).sel = some (e, y) → e ≠ .normal ∧
    ∀ (a : Act) (w : World) (mps cps : List Pos), a.tmps.size = n → Holds E w a sg.mv sg.cs m c mps cps → ∀ (Q : Exit → Act → World → Prop),
    (∀ a' w' mps', a'.tmps.size = n → Holds E w' a' (toSlots sg e) sg.cs y c mps' cps → Stp (ownP mps) (ownP mps') w w' → Keeps (writes body) a a' → Q (toExit e) a' w') → Code.rounds E.P body Q k a w
  | 0, _, _, _, _, h => by simp [turns, T.sel] at h
  | k + 1, m, c, e, y, h => by
    unfold turns at h
    obtain ⟨⟨e1, m1⟩, h1, h2⟩ := T.bind_sel _ _ _ h
    have ht := turn_ok hC hL hcs h1
    cases e1 with
    | normal =>
      simp only at h2
      obtain ⟨h3, h4⟩ := turns_ok hC hL hcs k h2
      refine ⟨h3, fun a w mps cps hn hh Q hQ => ?_⟩
      rw [rounds_succ]
      refine ht a w mps cps hn hh _ fun a1 w1 mps1 hn1 hh1 hst1 hk1 => ?_
      show Code.rounds E.P body Q k a1 w1
      exact h4 a1 w1 mps1 cps hn1 hh1 Q fun a2 w2 mps2 hn2 hh2 hst2 hk2 => hQ a2 w2 mps2 hn2 hh2 (hst1.trans hst2) ((hk1.trans hk2).mono fun i hi => (List.mem_append.1 hi).elim id id)
    | exit id =>
      simp only [T.sel, Option.some.injEq, Prod.mk.injEq] at h2
      obtain ⟨rfl, rfl⟩ := h2
      refine ⟨by simp, fun a w mps cps hn hh Q hQ => ?_⟩
      rw [rounds_succ]
      exact ht a w mps cps hn hh _ fun a1 w1 mps1 hn1 hh1 hst1 hk1 => hQ a1 w1 mps1 hn1 hh1 hst1 hk1
    | ret =>
      simp only [T.sel, Option.some.injEq, Prod.mk.injEq] at h2
      obtain ⟨rfl, rfl⟩ := h2
      refine ⟨by simp, fun a w mps cps hn hh Q hQ => ?_⟩
      rw [rounds_succ]
      exact ht a w mps cps hn hh _ fun a1 w1 mps1 hn1 hh1 hst1 hk1 => hQ a1 w1 mps1 hn1 hh1 hst1 hk1
/-- what is known of a loop -/
def LoopOk (E : Env) (n : Nat) (sg : LSig) (body : Code) (s : LSpec) : Prop :=
  (∀ p ∈ sg.cs, p.1 ∉ writes body) ∧ ∀ m c e y, (s m c).sel = some (e, y) → e ≠ .normal ∧ DSem E n sg (.loop body) m c e y
theorem loop_turns (hC : CallOk E C) {body : Code} (hL : LoopsOk E L body) {n : Nat} {sg : LSig} (hcs : ∀ p ∈ sg.cs, p.1 ∉ writes body) {s : LSpec}
    (hs : ∀ m c e y, (s m c).sel = some (e, y) → ∃ k, (turns E C L n sg body k m c).sel = some (e, y)) : LoopOk E n sg body s := by
  refine ⟨hcs, fun m c e y h => ?_⟩
  obtain ⟨k, hk⟩ := hs m c e y h
  obtain ⟨h1, h2⟩ := turns_ok hC hL hcs k hk
  exact ⟨h1, fun a w mps cps hn hh Q hQ => wp_loop_rounds k (h2 a w mps cps hn hh Q hQ)⟩

theorem dropAll_some {h : Heap} {bs : List Nat} {b : Nat} {x : Blk} (hx : dropAll h bs b = some x) : h b = some x ∧ b ∉ bs := by
  unfold dropAll at hx
  cases hb : bs.any (Nat.beq b) with
  | true => rw [hb] at hx; cases hx
  | false =>
    rw [hb] at hx
    refine ⟨hx, fun hm => ?_⟩
    rw [List.any_eq_false] at hb
    exact hb b hm (Nat.beq_refl b)
theorem SatH.dropAll (hs : SatH ρ h w) (bs : List Nat) : SatH ρ (dropAll h bs) w :=
  ⟨fun c x hc => hs.pos c x (dropAll_some hc).1, fun c x hc => hs.wf c x (dropAll_some hc).1, fun c x p hc => hs.cells c x p (dropAll_some hc).1,
   fun c x p hc => hs.own c x p (dropAll_some hc).1, fun c x p c' x' p' hc ho hp h0 hc' => hs.apart c x p c' x' p' (dropAll_some hc).1 ho hp h0 (dropAll_some hc').1⟩

theorem anyOn_V {a a' : Act} {D : List Nat} (hk : Keeps D a a') {t : Nat → AV} (ht : ∀ i, V ρ (t i) (a.tmps.getD i undef)) (i : Nat) : V ρ (anyOn D t i) (a'.tmps.getD i undef) := by
  unfold anyOn
  cases hi : D.any (Nat.beq i) with
  | true => simp [V]
  | false =>
    rw [cond_false, hk.at' i fun hm => ?_]
    · exact ht i
    · rw [List.any_eq_false] at hi
      exact hi i hm (Nat.beq_refl i)

/-- a loop, met -/
theorem useL_ok {sg : LSig} {body : Code} {s : LSpec} {st st' : AState} {e : AExit} (hl : LoopOk E st.n sg body s) (h : (useL E sg s (writes body) st).sel = some (e, st')) : CSem E (.loop body) st e st' := by
  intro ρ a w hsat Q hQ
  unfold useL at h
  split at h
  rotate_left
  · simp [T.sel] at h
  rename_i ms mb cs cb hm hc
  cases hcond : (ownAll st.h mb && nodupB mb && disj mb cb && Nat.blt st.τ 1000000) with
  | false => simp [hcond, T.sel] at h
  | true =>
    simp only [hcond, cond_true] at h
    simp only [Bool.and_eq_true] at hcond
    obtain ⟨⟨⟨hoa, hnd⟩, hdj⟩, hτ⟩ := hcond
    have hτ : st.τ < 1000000 := lt_of_blt hτ
    obtain ⟨⟨e1, y⟩, h1, h2⟩ := T.bind_sel _ _ _ h
    simp only at h2
    cases himp : impAs (st.τ * 262144) y with
    | mk as ds =>
    rw [himp] at h2
    simp only at h2
    cases hble : Nat.ble ds.length 64 with
    | false => simp [hble, T.sel] at h2
    | true =>
      simp only [hble, cond_true, T.sel, Option.some.injEq, Prod.mk.injEq] at h2
      obtain ⟨rfl, rfl⟩ := h2
      have hlen := Nat.le_of_ble_eq_true hble
      obtain ⟨mps, hrm, hlm⟩ := expAs_read hsat.h hm (slot_VL hsat.t sg.mv)
      obtain ⟨cps, hrc, hlc⟩ := expAs_read hsat.h hc (slot_VL hsat.t sg.cs)
      have hownP : OwnPs E.ng w mps := leads_own hsat.h hlm hoa hnd _ hsat.g.own
      -- where the changing places lie
      have hmp : ∀ p ∈ mps, 0 < p.cap → ∃ b x q, b ∈ mb ∧ st.h b = some x ∧ x.own = true ∧ ρ b = some q ∧ 0 < q.cap ∧ p.block = q.block := by
        intro p hp h0
        obtain ⟨qs, rfl, rfl, hq⟩ := hlm
        obtain ⟨x, hx', rfl⟩ := List.mem_map.1 hp
        rcases hq x hx' with ⟨_, h3⟩ | ⟨b, q, h3, h4, h5⟩
        · omega
        · have hb := List.mem_filterMap.2 ⟨x, hx', h3⟩
          obtain ⟨u, hu, hu2⟩ := ownAll_get hoa b hb
          exact ⟨b, u, q, hb, hu, hu2, h4, Nat.lt_of_lt_of_le h0 h5.cap, h5.block⟩
      have hO : ∀ k, ownP mps k → ownB ρ st.h k := by
        rintro k ⟨p, hp, h0, rfl⟩
        obtain ⟨b, x, q, _, h3, h4, h5, h6, h7⟩ := hmp p hp h0
        exact ⟨b, x, q, h3, h4, h5, h6, h7.symm⟩
      have hapart : ∀ p ∈ mps, 0 < p.cap → ∀ q ∈ cps, Live q → p.block ≠ q.block := by
        intro p hp h0 q hq hlv
        obtain ⟨b, x, r, hb, h3, h4, h5, h6, h7⟩ := hmp p hp h0
        obtain ⟨qs, rfl, rfl, hqs⟩ := hlc
        obtain ⟨z, hz, rfl⟩ := List.mem_map.1 hq
        rcases hqs z hz with ⟨_, h8⟩ | ⟨b', q', h8, h9, h10⟩
        · have := hrc.cap_le z.1 hq; have := hlv.1; omega
        · have hb' := List.mem_filterMap.2 ⟨z, hz, h8⟩
          have hne : b ≠ b' := by
            rintro rfl
            simp only [disj, List.all_eq_true, Bool.not_eq_true', List.any_eq_false] at hdj
            exact hdj b hb b hb' (Nat.beq_refl b)
          obtain ⟨y', hy'⟩ := expAs_some hc b' hb'
          rw [h7, h10.block]
          exact hsat.h.apart b x r b' y' q' h3 h4 h5 h6 hy' h9 hne (.inr (h10.live hlv))
      have hh : Holds E w a sg.mv sg.cs ms cs mps cps := ⟨hrm, hrc, hownP, hapart, gok_none hsat.g, hsat.d⟩
      obtain ⟨hne, hsem⟩ := hl.2 ms cs e1 y h1
      refine hsem a w mps cps hsat.size hh Q fun a' w' mps' hn' hh' hst hk => ?_
      have hslots : toSlots sg e1 = sg.mo := by cases e1; exact (hne rfl).elim; rfl; rfl
      rw [hslots] at hh'
      -- what remains of the heap
      have hrest : ∀ b x q, dropAll st.h mb b = some x → ρ b = some q → ((x.own = true ∧ 0 < q.cap) ∨ Live q) → q.block < w.heap.size ∧ ¬ ownP mps q.block := by
        intro b x q hb hq hlv
        obtain ⟨hb1, hb2⟩ := dropAll_some hb
        refine ⟨hsat.h.lt hb1 hq hlv, ?_⟩
        rintro ⟨p, hp, h0, e⟩
        obtain ⟨b', x', r, h3, h4, h5, h6, h7, h8⟩ := hmp p hp h0
        refine hsat.h.apart b' x' r b x q h4 h5 h6 h7 hb1 hq (fun e => hb2 (e ▸ h3)) hlv ?_
        rw [← h8]; exact e
      have hs1 : SatH ρ (dropAll st.h mb) w' := (hsat.h.dropAll mb).world fun b x q hb hq hlv hlt => hst.ext.block _ hlt (hrest b x q hb hq hlv).2
      have hnew : ∀ p ∈ mps', 0 < p.cap → ∀ k, k < w.heap.size → ¬ ownP mps k → p.block ≠ k := by
        intro p hp h0 k hk hnk e
        rcases hst.sub p.block ⟨p, hp, h0, rfl⟩ with h3 | h3
        · exact hnk (e ▸ h3)
        · omega
      obtain ⟨hdm, hvm⟩ := impAs_V hh'.rm (st.τ * 262144)
      rw [himp] at hdm hvm
      have hownb : ∀ k, ownB ρ (dropAll st.h mb) k → ownB ρ st.h k := fun k ⟨b, x, q, hb, h3⟩ => ⟨b, x, q, (dropAll_some hb).1, h3⟩
      obtain ⟨ρ', g1, g2, g3, g4, g5⟩ := addAll E.ng ds mps' (st.τ * 262144) ρ _ hs1 hdm hh'.own
        (fun k ⟨b, x, q, hb, ho, hq, h0, hk⟩ => .inr fun p hp h0' => by
          have := hrest b x q hb hq (.inl ⟨ho, h0⟩)
          rw [← hk]; exact hnew p hp h0' _ this.1 this.2)
        (fun b x q hb hq hlv => .inr fun p hp h0' => by
          have := hrest b x q hb hq hlv
          exact hnew p hp h0' _ this.1 this.2)
        (fun k hk => by
          cases hρ : ρ (st.τ * 262144 + k) with
          | none => rfl
          | some p =>
            exfalso
            rcases hsat.dom (st.τ * 262144 + k) (by rw [hρ]; simp) with h | h
            · omega
            · simp only [globBase] at h; omega)
      have hst' : Stp (ownB ρ st.h) (ownB ρ' (updW (dropAll st.h mb) (updsOf true (st.τ * 262144) ds))) w w' := by
        refine ⟨hst.ext.mono fun k _ => hO k, fun k hk => ?_⟩
        rcases g4 k hk with h3 | h3
        · exact .inl (hownb k h3)
        · rcases hst.sub k h3 with h4 | h4
          · exact .inl (hO k h4)
          · exact .inr h4
      refine hQ ρ' a' w' ⟨g3, ?_, hn', ?_, hh'.d, ?_, ?_⟩ hst' hk
      · exact hsat.g.step hst'
      · exact putAll_V _ _ _ (anyOn_V hk fun i => V.mono g1 _ _ (hsat.t i)) (hvm ρ' g2) |> fun h => h
      · intro b hb
        cases hρ : ρ b with
        | none =>
          have := g5 b hb hρ
          left
          simp only
          rw [Nat.add_mul, Nat.one_mul]; omega
        | some p =>
          rcases hsat.dom b (by rw [hρ]; simp) with h | h
          · exact .inl (dom_le h)
          · exact .inr h
      · intro g p hp
        cases hρ : ρ (globBase + g) with
        | none =>
          have := g5 (globBase + g) (by rw [hp]; simp) hρ
          simp only [globBase] at this; omega
        | some q =>
          have := g1 _ _ hρ
          rw [hp] at this; cases this
          exact hsat.glob g p hρ
end
end Go.Am
