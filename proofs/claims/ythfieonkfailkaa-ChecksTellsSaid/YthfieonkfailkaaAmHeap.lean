import Derived.Test.YthfieonkfailkaaAmOps4
namespace Go.Am

theorem updF_same {α : Type} (f : Nat → α) (k : Nat) (v : α) : updF f k v k = v := by simp [updF]
theorem updF_other {α : Type} (f : Nat → α) (k : Nat) (v : α) {x : Nat} (h : x ≠ k) : updF f k v x = f x := by
  have : Nat.beq x k = false := by rw [← Bool.not_eq_true]; intro e; exact h (Nat.eq_of_beq_eq_true e)
  simp [updF, this]

section
variable {ρ : Rho} {h : Heap} {w : World}

theorem SatH.drop (hs : SatH ρ h w) (b : Nat) : SatH ρ (updF h b none) w := by
  have key : ∀ c x, updF h b none c = some x → h c = some x := by
    intro c x hc
    by_cases e : c = b
    · subst e; rw [updF_same] at hc; cases hc
    · rwa [updF_other _ _ _ e] at hc
  exact ⟨fun c x hc => hs.pos c x (key c x hc), fun c x hc => hs.wf c x (key c x hc), fun c x p hc => hs.cells c x p (key c x hc),
    fun c x p hc => hs.own c x p (key c x hc), fun c x p c' x' p' hc ho hp h0 hc' => hs.apart c x p c' x' p' (key c x hc) ho hp h0 (key c' x' hc')⟩

theorem ownB_drop {k b : Nat} (hk : ownB ρ (updF h b none) k) : ownB ρ h k := by
  obtain ⟨c, x, p, hc, r⟩ := hk
  by_cases e : c = b
  · subst e; rw [updF_same] at hc; cases hc
  · rw [updF_other _ _ _ e] at hc; exact ⟨c, x, p, hc, r⟩

/-- worlds that differ only in blocks that nothing is read from -/
theorem SatH.world {w' : World} (hs : SatH ρ h w) (hw : ∀ b x p, h b = some x → ρ b = some p → ((x.own = true ∧ 0 < p.cap) ∨ (0 < p.len ∧ 0 < p.stride)) → p.block < w.heap.size → w'.heap[p.block]? = w.heap[p.block]?) : SatH ρ h w' where
  pos := hs.pos
  wf := hs.wf
  cells b x p hb hp i hi j av hav := by
    obtain ⟨c, hc, hv⟩ := hs.cells b x p hb hp i hi j av hav
    refine ⟨c, ?_, hv⟩
    have hlt : p.block < w.heap.size := World.block_lt_of_cell? w _ hc
    obtain ⟨p', hp', h1, h2, _⟩ := hs.pos b x hb
    rw [hp] at hp'; cases hp'
    have hl := (hs.wf b x hb i hi).1
    have hj : j < (x.dat.row i).length := (List.getElem?_eq_some_iff.1 hav).1
    have := hw b x p hb hp (.inr ⟨by omega, by omega⟩) hlt
    rw [World.cell?_of_block this]; exact hc
  own b x p hb ho hp h0 := by
    obtain ⟨cs, e, hcs, hsz⟩ := hs.own b x p hb ho hp h0
    have hlt : p.block < w.heap.size := (Array.getElem?_eq_some_iff.1 hcs).1
    rw [hw b x p hb hp (.inl ⟨ho, h0⟩) hlt]
    exact ⟨cs, e, hcs, hsz⟩
  apart := hs.apart

theorem SatH.drew (hs : SatH ρ h w) : SatH ρ h w.drew := hs.world fun _ _ _ _ _ _ _ => rfl

/-- a new name for a place that no other name's -/
theorem SatH.add (hs : SatH ρ h w) {id : Nat} (hid : ρ id = none) (p : Pos) (x : Blk) (h1 : p.stride = x.dat.stride) (h2 : p.len = x.dat.len) (h3 : p.len ≤ p.cap) (h4 : p.cap ≤ maxLen) (hwf : x.dat.WF)
    (hc : ∀ i, i < x.dat.len → ∀ j av, (x.dat.row i)[j]? = some av → ∃ c, w.cell? (p.addr i j) = some c ∧ V ρ av c)
    (ho : x.own = true → 0 < p.cap → ∃ cs e, w.heap[p.block]? = some (.cells cs e (0, 0)) ∧ p.off + p.cap * p.stride ≤ cs.size ∧ MarkOk x.dat p cs e)
    (ha : ∀ b y q, h b = some y → ρ b = some q → (y.own = true ∧ 0 < q.cap) ∨ (x.own = true ∧ 0 < p.cap ∧ 0 < q.len ∧ 0 < q.stride) → ((x.own = true ∧ 0 < p.cap) ∨ (0 < p.len ∧ 0 < p.stride)) → q.block ≠ p.block) :
    ρ.le (updF ρ id (some p)) ∧ SatH (updF ρ id (some p)) (updF h id (some x)) w ∧ (∀ k, ownB (updF ρ id (some p)) (updF h id (some x)) k → ownB ρ h k ∨ (x.own = true ∧ 0 < p.cap ∧ k = p.block)) ∧
      (∀ b, updF ρ id (some p) b ≠ none → ρ b = none → b = id) := by
  have hle : ρ.le (updF ρ id (some p)) := fun b q hq => by
    by_cases e : b = id
    · subst e; rw [hid] at hq; cases hq
    · rw [updF_other _ _ _ e]; exact hq
  have hno : h id = none := by
    cases hh : h id with
    | none => rfl
    | some y => obtain ⟨q, hq, _⟩ := hs.pos id y hh; rw [hid] at hq; cases hq
  refine ⟨hle, ⟨?_, ?_, ?_, ?_, ?_⟩, ?_, ?_⟩
  · intro b y hb
    by_cases e : b = id
    · subst e; rw [updF_same] at hb; cases hb; exact ⟨p, updF_same _ _ _, h1, h2, h3, h4⟩
    · rw [updF_other _ _ _ e] at hb; rw [updF_other _ _ _ e]; exact hs.pos b y hb
  · intro b y hb
    by_cases e : b = id
    · subst e; rw [updF_same] at hb; cases hb; exact hwf
    · rw [updF_other _ _ _ e] at hb; exact hs.wf b y hb
  · intro b y q hb hq i hi j av hav
    by_cases e : b = id
    · subst e; rw [updF_same] at hb hq; cases hb; cases hq
      obtain ⟨c, h5, h6⟩ := hc i hi j av hav
      exact ⟨c, h5, V.mono hle _ _ h6⟩
    · rw [updF_other _ _ _ e] at hb hq
      obtain ⟨c, h5, h6⟩ := hs.cells b y q hb hq i hi j av hav
      exact ⟨c, h5, V.mono hle _ _ h6⟩
  · intro b y q hb hown hq h0
    by_cases e : b = id
    · subst e; rw [updF_same] at hb hq; cases hb; cases hq; exact ho hown h0
    · rw [updF_other _ _ _ e] at hb hq; exact hs.own b y q hb hown hq h0
  · intro b y q b' y' q' hb hown hq h0 hb' hq' hne hl
    by_cases e : b = id
    · subst e; rw [updF_same] at hb hq; cases hb; cases hq
      rw [updF_other _ _ _ (Ne.symm hne)] at hb' hq'
      have := ha b' y' q' hb' hq' (by rcases hl with hl | hl; exact .inl hl; exact .inr ⟨hown, h0, hl⟩) (.inl ⟨hown, h0⟩)
      exact fun e => this e.symm
    · rw [updF_other _ _ _ e] at hb hq
      by_cases e' : b' = id
      · subst e'; rw [updF_same] at hb' hq'; cases hb'; cases hq'
        exact ha b y q hb hq (.inl ⟨hown, h0⟩) hl
      · rw [updF_other _ _ _ e'] at hb' hq'
        exact hs.apart b y q b' y' q' hb hown hq h0 hb' hq' hne hl
  · rintro k ⟨b, y, q, hb, hown, hq, h0, rfl⟩
    by_cases e : b = id
    · subst e; rw [updF_same] at hb hq; cases hb; cases hq; exact .inr ⟨hown, h0, rfl⟩
    · rw [updF_other _ _ _ e] at hb hq; exact .inl ⟨b, y, q, hb, hown, hq, h0, rfl⟩
  · intro b hb hn
    by_cases e : b = id
    · exact e
    · rw [updF_other _ _ _ e] at hb; exact (hb hn).elim

theorem heap_lt {w : World} {k : Nat} {o : Obj} (h : w.heap[k]? = some o) : k < w.heap.size := (Array.getElem?_eq_some_iff.1 h).1

/-- every place that is read, or owned, lies in the heap -/
theorem SatH.lt (hs : SatH ρ h w) {b : Nat} {x : Blk} {p : Pos} (hb : h b = some x) (hp : ρ b = some p) (hl : (x.own = true ∧ 0 < p.cap) ∨ (0 < p.len ∧ 0 < p.stride)) : p.block < w.heap.size := by
  rcases hl with ⟨ho, h0⟩ | ⟨h0, h1⟩
  · obtain ⟨cs, e, hcs, _⟩ := hs.own b x p hb ho hp h0
    exact heap_lt hcs
  · obtain ⟨p', hp', e1, e2, _⟩ := hs.pos b x hb
    rw [hp] at hp'; cases hp'
    have hw := (hs.wf b x hb 0 (by omega)).1
    have hj : 0 < (x.dat.row 0).length := by omega
    obtain ⟨c, hc, _⟩ := hs.cells b x p hb hp 0 (by omega) 0 _ (List.getElem?_eq_getElem hj)
    exact World.block_lt_of_cell? w _ hc

theorem frozen_alloc (w : World) (c : Array Value) (t : TypeId) (a : Addr) : (w.alloc (.cells c t)).frozen? a = w.frozen? a := by
  by_cases h : a.block = w.heap.size
  · have e1 : (w.alloc (.cells c t)).heap[a.block]? = some (.cells c t) := by rw [h]; exact heap_alloc_new w _
    have e2 : w.heap[a.block]? = none := by rw [h]; simp
    simp [World.frozen?, e1, e2]
  · by_cases h2 : a.block < w.heap.size
    · have e1 : (w.alloc (.cells c t)).heap[a.block]? = w.heap[a.block]? := heap_alloc_old w _ _ h2
      simp [World.frozen?, e1]
    · have e1 : (w.alloc (.cells c t)).heap[a.block]? = none := by
        rw [Array.getElem?_eq_none_iff]
        have : (w.alloc (.cells c t)).heap.size = w.heap.size + 1 := by simp
        omega
      have e2 : w.heap[a.block]? = none := by rw [Array.getElem?_eq_none_iff]; omega
      simp [World.frozen?, e1, e2]
theorem frozen_setRow (w : World) (g : Nat) (cs : Array Value) (a : Addr) : (w.setRow g cs).frozen? a = w.frozen? a := by
  simp only [World.frozen?, World.setRow, Array.getElem?_modify]
  by_cases e : g = a.block
  · subst e
    simp only [if_true]
    cases w.heap[a.block]? with
    | none => rfl
    | some o => cases o <;> rfl
  · simp [e]
/-- a new block of the model's, under a new name -/
theorem SatH.alloc (hs : SatH ρ h w) {id : Nat} (hid : ρ id = none) (d : Dat) (cs : Array Value) (e : TypeId) (cap : Nat) (hcap : d.len ≤ cap) (hm : cap ≤ maxLen) (hwf : d.WF)
    (hcs : cap * d.stride ≤ cs.size) (hc : ∀ i, i < d.len → ∀ j av, (d.row i)[j]? = some av → ∃ c, cs[i * d.stride + j]? = some c ∧ V ρ av c) (hmk : ∀ T, d.mark = some T → e = T ∧ (d.isGen = true → cs.size = d.stride)) :
    let p : Pos := ⟨w.heap.size, 0, d.stride, d.len, cap⟩
    ρ.le (updF ρ id (some p)) ∧ SatH (updF ρ id (some p)) (updF h id (some ⟨true, d⟩)) (w.alloc (.cells cs e)) ∧
      Stp (ownB ρ h) (ownB (updF ρ id (some p)) (updF h id (some ⟨true, d⟩))) w (w.alloc (.cells cs e)) ∧ (∀ b, updF ρ id (some p) b ≠ none → ρ b = none → b = id) := by
  intro p
  have hs' : SatH ρ h (w.alloc (.cells cs e)) := hs.world fun b x q hb hq hl hlt => heap_alloc_old w _ _ hlt
  have hnew := heap_alloc_new w (.cells cs e)
  have := hs'.add hid p ⟨true, d⟩ rfl rfl hcap hm hwf
    (fun i hi j av hav => by
      obtain ⟨c, h1, h2⟩ := hc i hi j av hav
      refine ⟨c, ?_, h2⟩
      rw [show p.addr i j = ⟨w.heap.size, i * d.stride + j, none⟩ from by simp [Pos.addr, p]]
      rw [World.cell?_alloc_new]; exact h1)
    (fun _ _ => ⟨cs, e, hnew, by simpa [p] using hcs, fun T hT => ⟨(hmk T hT).1, rfl, (hmk T hT).2⟩⟩)
    (fun b y q hb hq hl _ => by
      have : q.block < w.heap.size := hs.lt hb hq (by rcases hl with h | h; exact .inl h; exact .inr ⟨h.2.2.1, h.2.2.2⟩)
      simp only [p]; omega)
  obtain ⟨h1, h2, h3, h4⟩ := this
  refine ⟨h1, h2, ⟨⟨rfl, rfl, rfl, by simp, fun k hk _ => heap_alloc_old w _ _ hk, fun a _ _ => frozen_alloc w cs e a⟩, fun k hk => ?_⟩, h4⟩
  rcases h3 k hk with h5 | ⟨_, _, h5⟩
  · exact .inl h5
  · exact .inr (by simp [p] at h5; omega)

/-- an own block's row is written: its name's gone, the others stay -/
theorem SatH.row_gone (hs : SatH ρ h w) {b : Nat} {x : Blk} {p : Pos} (hb : h b = some x) (ho : x.own = true) (hp : ρ b = some p) (h0 : 0 < p.cap) (cs : Array Value) :
    SatH ρ (updF h b none) (w.setRow p.block cs) := by
  refine (hs.drop b).world fun c y q hc hq hl hlt => setRow_other w p.block q.block cs ?_
  by_cases e : c = b
  · subst e; rw [updF_same] at hc; cases hc
  · rw [updF_other _ _ _ e] at hc
    exact fun e2 => hs.apart b x p c y q hb ho hp h0 hc hq (Ne.symm e) hl e2.symm
end
end Go.Am
