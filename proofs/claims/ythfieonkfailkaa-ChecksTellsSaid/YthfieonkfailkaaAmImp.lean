/-
  AM3: what a call gives back becomes the state's.
-/
import Derived.Test.YthfieonkfailkaaAmExp2
namespace Go.Am

/-- from what was told to what is told: only what was given away has changed -/
structure Mv (w : World) (bs : List Blk) (ps : List Pos) (w' : World) (bs' : List Blk) (ps' : List Pos) : Prop where
  stp : Stp (ownB (psRho ps) (blkH bs)) (ownB (psRho ps') (blkH bs')) w w'
  src : ∀ (k : Nat) x p, bs'[k]? = some x → ps'[k]? = some p → ((x.own = true ∧ 0 < p.cap) ∨ Live p) → w.heap.size ≤ p.block ∨ ∃ (k0 : Nat) (x0 : Blk) (p0 : Pos), bs[k0]? = some x0 ∧ ps[k0]? = some p0 ∧ ((x0.own = true ∧ 0 < p0.cap) ∨ Live p0) ∧ p0.block = p.block

section
variable {E : Env} {ρ ρ' : Rho} {h : Heap} {w w' : World}

mutual
theorem V.ren {f : Nat → Nat} (hf : ∀ k p, ρ k = some p → ρ' (f k) = some p) : ∀ (a : AV) (v : Value), V ρ a v → V ρ' (renA f a) v
  | .any, _, h => by simp [renA, V]
  | .bool _, _, h => by simpa only [renA, V] using h
  | .int .., _, h => by simpa only [renA, V] using h
  | .str _, _, h => by simpa only [renA, V] using h
  | .nilp, _, h => by simpa only [renA, V] using h
  | .nils, _, h => by simpa only [renA, V] using h
  | .nilf, _, h => by simpa only [renA, V] using h
  | .nili, _, h => by simpa only [renA, V] using h
  | .ptr .., _, h => by
    simp only [renA, V] at h ⊢; obtain ⟨p, hp, e⟩ := h; exact ⟨p, hf _ _ hp, e⟩
  | .slw _, _, h => by
    simp only [renA, V] at h ⊢; obtain ⟨p, hp, e⟩ := h; exact ⟨p, hf _ _ hp, e⟩
  | .sl .., _, h => by
    simp only [renA, V] at h ⊢; obtain ⟨p, hp, e⟩ := h; exact ⟨p, hf _ _ hp, e⟩
  | .fn _ us cs, _, h => by
    simp only [renA, V] at h ⊢; obtain ⟨fs, vs, e, h1, h2⟩ := h; exact ⟨fs, vs, e, VL.ren hf us _ h1, VL.ren hf cs _ h2⟩
  | .iface _ x, _, h => by
    simp only [renA, V] at h ⊢; obtain ⟨y, e, h1⟩ := h; exact ⟨y, e, V.ren hf x _ h1⟩
  | .agg cs, _, h => by
    simp only [renA, V] at h ⊢; obtain ⟨vs, e, h1⟩ := h; exact ⟨vs, e, VL.ren hf cs _ h1⟩
  | .tup cs, _, h => by
    simp only [renA, V] at h ⊢; obtain ⟨vs, e, h1⟩ := h; exact ⟨vs, e, VL.ren hf cs _ h1⟩
theorem VL.ren {f : Nat → Nat} (hf : ∀ k p, ρ k = some p → ρ' (f k) = some p) : ∀ (as : List AV) (vs : List Value), VL ρ as vs → VL ρ' (renL f as) vs
  | [], _, h => by simpa only [renL, VL] using h
  | a :: as, _, h => by
    simp only [renL, VL] at h ⊢; obtain ⟨v, r, e, h1, h2⟩ := h; exact ⟨v, r, e, V.ren hf a _ h1, VL.ren hf as _ h2⟩
end
theorem renL_len (f : Nat → Nat) (as : List AV) : (renL f as).length = as.length := by
  induction as with
  | nil => rfl
  | cons a as ih => simp [renL, ih]
theorem renA_cell (f : Nat → Nat) (a : AV) : (renA f a).isCell = a.isCell := by cases a <;> rfl
theorem renL_cells (f : Nat → Nat) (as : List AV) : (renL f as).all AV.isCell = as.all AV.isCell := by
  induction as with
  | nil => rfl
  | cons a as ih => simp [renL, renA_cell, ih]
theorem oneOrTup_ren (f : Nat → Nat) (l : List AV) : oneOrTup (renL f l) = renA f (oneOrTup l) := by
  cases l with
  | nil => simp [oneOrTup, renL, renA]
  | cons a r => cases r <;> simp [oneOrTup, renL, renA]
theorem renD_len (f : Nat → Nat) (d : Dat) : (renD f d).len = d.len := by cases d <;> simp [renD, Dat.len]
theorem renD_stride (f : Nat → Nat) (d : Dat) : (renD f d).stride = d.stride := by cases d <;> rfl
theorem renD_mark (f : Nat → Nat) (d : Dat) : (renD f d).mark = d.mark := by cases d <;> rfl
theorem renD_gen (f : Nat → Nat) (d : Dat) : (renD f d).isGen = d.isGen := by cases d <;> rfl
theorem renD_row (f : Nat → Nat) (d : Dat) (i : Nat) (hg : ∃ s l, d = .gen s l) : (renD f d).row i = renL f (d.row i) := by
  obtain ⟨s, l, rfl⟩ := hg
  simp only [renD, Dat.row, List.getD, List.getElem?_map]
  cases l[i]? <;> rfl
theorem RdP.ren {f : Nat → Nat} (hf : ∀ k p, ρ k = some p → ρ' (f k) = some p) {d : Dat} {p : Pos} (hd : RdP ρ w d p) : RdP ρ' w (renD f d) p := by
  by_cases hg : ∃ s l, d = .gen s l
  · refine ⟨by rw [renD_stride]; exact hd.stride, by rw [renD_len]; exact hd.len, hd.cap, hd.max, fun i hi => ?_, fun i hi j av hav => ?_⟩
    · rw [renD_len] at hi
      rw [renD_row f d i hg, renL_len, renL_cells, renD_stride]; exact hd.wf i hi
    · rw [renD_len] at hi
      rw [renD_row f d i hg] at hav
      obtain ⟨vs, h1, h2⟩ := hd.row hi
      obtain ⟨c, hc, hv⟩ := (VL.ren hf _ _ h2).get hav
      exact ⟨c, h1 j c hc, hv⟩
  · have hg' : ∀ s l, d ≠ .gen s l := fun s l e => hg ⟨s, l, e⟩
    have : renD f d = d := by cases d <;> first | rfl | exact (hg' _ _ rfl).elim
    rw [this]
    exact hd.mono fun i hi j av hav c hv => V_scalar (Dat.row_scalar hg' hav) hv

/-! updates -/
theorem updW_append (h : Heap) (U W : Upd) : updW h (U ++ W) = updW (updW h U) W := by
  induction U generalizing h with
  | nil => rfl
  | cons p r ih => obtain ⟨b, x⟩ := p; simp only [List.cons_append, updW]; exact ih _
theorem updW_get : ∀ (W : Upd) (h : Heap) (b : Nat), (b, updW h W b) ∈ W ∨ ((∀ z, (b, z) ∉ W) ∧ updW h W b = h b)
  | [], h, b => .inr ⟨fun z hz => (by cases hz), rfl⟩
  | (c, x) :: r, h, b => by
    simp only [updW]
    rcases updW_get r (updF h c x) b with h1 | ⟨h1, h2⟩
    · exact .inl (List.mem_cons_of_mem _ h1)
    · by_cases e : b = c
      · subst e
        left
        rw [h2, updF_same]
        exact List.mem_cons_self ..
      · right
        refine ⟨fun z hz => ?_, by rw [h2, updF_other _ _ _ e]⟩
        rcases List.mem_cons.1 hz with h3 | h3
        · cases h3; exact e rfl
        · exact h1 z h3
theorem mem_dropOwn {es : List Ent} {b : Nat} {z : Option Blk} (hm : (b, z) ∈ dropOwn es) : z = none := by
  induction es with
  | nil => cases hm
  | cons e r ih =>
    unfold dropOwn at hm
    split at hm
    · cases ho : e.blk.own with
      | true =>
        rw [ho, cond_true] at hm
        rcases List.mem_cons.1 hm with h1 | h1
        · cases h1; rfl
        · exact ih h1
      | false => rw [ho, cond_false] at hm; exact ih hm
    · exact ih hm
theorem dropOwn_mem {es : List Ent} {e : Ent} (he : e ∈ es) (ho : e.blk.own = true) {b : Nat} (hb : e.src = some b) : (b, none) ∈ dropOwn es := by
  induction es with
  | nil => cases he
  | cons x r ih =>
    unfold dropOwn
    rcases List.mem_cons.1 he with rfl | he
    · rw [hb]; simp only; rw [ho, cond_true]; exact List.mem_cons_self ..
    · split
      · cases x.blk.own
        · exact ih he
        · exact List.mem_cons_of_mem _ (ih he)
      · exact ih he
theorem mem_demote {es : List Ent} {b : Nat} {z : Option Blk} (hm : (b, z) ∈ demote h es) : ∃ x, h b = some x ∧ z = some ⟨false, x.dat⟩ := by
  induction es with
  | nil => cases hm
  | cons e r ih =>
    unfold demote at hm
    split at hm
    · cases ho : e.blk.own with
      | true => rw [ho, cond_true] at hm; exact ih hm
      | false =>
        rw [ho, cond_false] at hm
        split at hm
        · rename_i x hx
          rcases List.mem_cons.1 hm with h1 | h1
          · cases h1; exact ⟨x, hx, rfl⟩
          · exact ih h1
        · exact ih hm
    · exact ih hm
theorem demote_mem {es : List Ent} {e : Ent} (he : e ∈ es) (ho : e.blk.own = false) {b : Nat} (hb : e.src = some b) {x : Blk} (hx : h b = some x) : (b, some ⟨false, x.dat⟩) ∈ demote h es := by
  induction es with
  | nil => cases he
  | cons y r ih =>
    unfold demote
    rcases List.mem_cons.1 he with rfl | he
    · rw [hb]; simp only; rw [ho, cond_false, hx]; exact List.mem_cons_self ..
    · split
      · cases y.blk.own
        · simp only [cond_false]
          split
          · exact List.mem_cons_of_mem _ (ih he)
          · exact ih he
        · exact ih he
      · exact ih he
theorem mem_backUpd {f : Nat → Nat} : ∀ {bs : List Blk} {k b : Nat} {z : Option Blk}, (b, z) ∈ backUpd f k bs → ∃ (j : Nat) (x : Blk), bs[j]? = some x ∧ b = f (k + j) ∧ z = some (renB f x)
  | [], _, _, _, hm => by cases hm
  | x :: r, k, b, z, hm => by
    unfold backUpd at hm
    rcases List.mem_cons.1 hm with h1 | h1
    · cases h1; exact ⟨0, x, rfl, rfl, rfl⟩
    · obtain ⟨j, y, h2, h3, h4⟩ := mem_backUpd h1
      exact ⟨j + 1, y, by simpa using h2, by rw [h3]; congr 1; omega, h4⟩
theorem persOk_get {es : List Ent} : ∀ {P : List Nat}, persOk es P = true → ∀ (j : Nat) k, P[j]? = some k → ∃ e b, es[k]? = some e ∧ e.box = true ∧ e.blk.own = true ∧ e.src = some b
  | [], _, j, k, hj => by simp at hj
  | x :: r, hp, j, k, hj => by
    simp only [persOk, Bool.and_eq_true] at hp
    cases j with
    | zero =>
      simp at hj; subst hj
      have := hp.1.1
      split at this
      · rename_i e he
        simp only [Bool.and_eq_true] at this
        cases hs : e.src with
        | none => rw [hs] at this; simp at this
        | some b => exact ⟨e, b, he, this.1.1, this.1.2, hs⟩
      · cases this
    | succ j => exact persOk_get hp.2 j k (by simpa using hj)

/-- what comes back -/
theorem import_ok (hs : SatH ρ h w) {vs : List AV} {cvs : List Value} {bs : List Blk} {es : List Ent} {ps : List Pos} (hx : ExpOk E ρ h w vs cvs bs es ps)
    {P : List Nat} (hP : persOk es P = true) {bs' : List Blk} {ps' : List Pos} (hc : CfgOk E w' bs' ps') (hm : Mv w bs ps w' bs' ps') (hsame : ∀ (j : Nat) k, P[j]? = some k → ps'[j]? = ps[k]?)
    {id m : Nat} (hid : ∀ b, id ≤ b → b < id + m → ρ b = none) (hlen : bs'.length ≤ m) :
    ∃ ρ', ρ.le ρ' ∧ SatH ρ' (updW h (importOut h es P id bs')) w' ∧ Stp (ownB ρ h) (ownB ρ' (updW h (importOut h es P id bs'))) w w' ∧ (∀ b, ρ' b ≠ none → ρ b = none → id ≤ b ∧ b < id + m) ∧
      ∀ a v, V (psRho ps') a v → V ρ' (renA (backN es P id) a) v := by
  have hpl := hc.len
  let ρ' : Rho := fun b => if id + P.length ≤ b ∧ b < id + ps'.length then ps'[b - id]? else ρ b
  have hle : ρ.le ρ' := fun b p hb => by
    show (if _ then _ else _) = _
    rw [if_neg]
    · exact hb
    · rintro ⟨h1, h2⟩
      have := hid b (by omega) (by omega)
      rw [hb] at this; cases this
  have hf : ∀ k p, psRho ps' k = some p → ρ' (backN es P id k) = some p := fun k p hk => by
    have hk' : ps'[k]? = some p := hk
    unfold backN
    split
    · rename_i j hj
      obtain ⟨e, b, e1, e2, e3, e4⟩ := persOk_get hP k j hj
      obtain ⟨q, x, f1, f2, f3, f4, q', f5, _, f6⟩ := hx.ent j e e1
      rw [f4] at f5; cases f5
      rw [e4] at f6
      obtain ⟨y, r, g1, g2, _, _, _, _, g3⟩ := f6
      have := g3.1 e2; subst this
      have hsrc : srcOf es j = b := by unfold srcOf; rw [e1]; simp [e4]
      rw [hsrc]
      have := hsame k j hj
      rw [hk', f1] at this
      cases this
      exact hle _ _ g2
    · rename_i hj
      have hkP : P.length ≤ k := by simpa using hj
      have hkl := (List.getElem?_eq_some_iff.1 hk').1
      show (if _ then _ else _) = _
      rw [if_pos ⟨by omega, by omega⟩, show id + k - id = k from by omega]; exact hk'
  -- where a block of the new state is from
  have horg : ∀ b y, updW h (importOut h es P id bs') b = some y →
      (∃ (j : Nat) (x : Blk) (p : Pos), bs'[j]? = some x ∧ ps'[j]? = some p ∧ b = backN es P id j ∧ y = renB (backN es P id) x ∧ ρ' b = some p) ∨
      (∃ (x : Blk) (p : Pos), h b = some x ∧ y.dat = x.dat ∧ (y.own = true → x.own = true) ∧ ρ b = some p ∧ ρ' b = some p ∧ (∀ e ∈ es, e.blk.own = true → e.src ≠ some b) ∧ ((∃ z ∈ bs', z.own = false) → y.own = true → ∀ e ∈ es, e.src ≠ some b)) := by
    intro b y hb
    unfold importOut at hb
    rw [updW_append, updW_append] at hb
    rcases updW_get (backUpd (backN es P id) 0 bs') (updW (updW h (bif bs'.all (·.own) then [] else demote h es)) (dropOwn es)) b with h1 | ⟨h1, h2⟩
    · rw [hb] at h1
      obtain ⟨j, x, e1, e2, e3⟩ := mem_backUpd h1
      rw [Nat.zero_add] at e2
      cases e3
      have hj := (List.getElem?_eq_some_iff.1 e1).1
      have hp : ps'[j]? = some (ps'[j]'(by omega)) := List.getElem?_eq_getElem _
      exact .inl ⟨j, x, _, e1, hp, e2, rfl, by rw [e2]; exact hf j _ hp⟩
    · right
      rw [h2] at hb
      rcases updW_get (dropOwn es) (updW h (bif bs'.all (·.own) then [] else demote h es)) b with h3 | ⟨h3, h4⟩
      · rw [hb] at h3; have := mem_dropOwn h3; cases this
      · rw [h4] at hb
        have hno : ∀ e ∈ es, e.blk.own = true → e.src ≠ some b := fun e he ho hsrc => h3 none (dropOwn_mem he ho hsrc)
        rcases updW_get (bif bs'.all (·.own) then [] else demote h es) h b with h5 | ⟨h5, h6⟩
        · rw [hb] at h5
          cases ha : bs'.all (·.own) with
          | true => rw [ha, cond_true] at h5; cases h5
          | false =>
            rw [ha, cond_false] at h5
            obtain ⟨x, e1, e2⟩ := mem_demote h5
            cases e2
            obtain ⟨p, hp, _⟩ := hs.pos b x e1
            exact ⟨x, p, e1, rfl, fun h => (by cases h), hp, hle _ _ hp, hno, fun _ h => (by cases h)⟩
        · rw [h6] at hb
          obtain ⟨p, hp, _⟩ := hs.pos b y hb
          refine ⟨y, p, hb, rfl, fun h => h, hp, hle _ _ hp, hno, fun ⟨z, hz, hz2⟩ ho e he hsrc => ?_⟩
          cases heo : e.blk.own with
          | true => exact hno e he heo hsrc
          | false =>
            have hall : bs'.all (·.own) = false := by
              rw [List.all_eq_false]; exact ⟨z, hz, by rw [hz2]; simp⟩
            refine h5 (some ⟨false, y.dat⟩) ?_
            rw [hall, cond_false]
            exact demote_mem he heo hsrc hb
  -- a told place's block
  have hname : ∀ (k : Nat) x p, bs[k]? = some x → ps[k]? = some p → ((x.own = true ∧ 0 < p.cap) ∨ Live p) → ∃ e b y q, es[k]? = some e ∧ e.src = some b ∧ h b = some y ∧ ρ b = some q ∧ p.block = q.block ∧ ((y.own = true ∧ 0 < q.cap ∧ e.blk.own = true) ∨ Live q) ∧ (x.own = e.blk.own) := by
    intro k x p hk hp hl
    have hke : k < es.length := by rw [← hx.ents]; exact (List.getElem?_eq_some_iff.1 hk).1
    obtain ⟨p', x', f1, f2, f3, f4, q', f5, frd, f6⟩ := hx.ent k _ (List.getElem?_eq_getElem hke)
    rw [hk] at f2; cases f2
    rw [hp] at f1; cases f1
    rw [f4] at f5; cases f5
    have hcap : 0 < p.cap := by
      rcases hl with hl | hl
      · exact hl.2
      · have := hl.1; have := frd.cap; omega
    cases hsr : (es[k]).src with
    | none => rw [hsr] at f6; simp only at f6; omega
    | some b =>
      rw [hsr] at f6
      obtain ⟨y, q, g1, g2, g3, g4, g5, g6, _⟩ := f6
      refine ⟨_, b, y, q, List.getElem?_eq_getElem hke, hsr, g1, g2, g3, ?_, f3⟩
      rcases hl with hl | hl
      · have ho : (es[k]).blk.own = true := by rw [← f3]; exact hl.1
        obtain ⟨y', hy', ho'⟩ := hx.own _ (List.getElem_mem hke) ho b hsr
        rw [g1] at hy'; cases hy'
        exact .inl ⟨ho', by omega, ho⟩
      · exact .inr (g6 hl)
  have hsubown : ∀ k, ownB (psRho ps) (blkH bs) k → ∃ e b y q, e ∈ es ∧ e.blk.own = true ∧ e.src = some b ∧ h b = some y ∧ y.own = true ∧ ρ b = some q ∧ 0 < q.cap ∧ q.block = k := by
    rintro k ⟨b, x, p, hb, ho, hp, h0, rfl⟩
    obtain ⟨e, c, y, q, e1, e2, e3, e4, e5, e6, e7⟩ := hname b x p hb hp (.inl ⟨ho, h0⟩)
    have heo : e.blk.own = true := by rw [← e7]; exact ho
    obtain ⟨y', hy', ho'⟩ := hx.own e (List.mem_of_getElem? e1) heo c e2
    rw [e3] at hy'; cases hy'
    refine ⟨e, c, y, q, List.mem_of_getElem? e1, heo, e2, e3, ho', e4, ?_, e5.symm⟩
    rcases e6 with e6 | e6
    · exact e6.2.1
    · obtain ⟨q', hq', _, _, h3, _⟩ := hs.pos c y e3
      rw [e4] at hq'; cases hq'
      have := e6.1; omega
  -- an old live place is where it was
  have hkeep : ∀ b x p, h b = some x → ρ b = some p → (∀ e ∈ es, e.blk.own = true → e.src ≠ some b) → ((x.own = true ∧ 0 < p.cap) ∨ Live p) → w'.heap[p.block]? = w.heap[p.block]? := by
    intro b x p hb hp hno hl
    refine hm.stp.ext.block _ (hs.lt hb hp hl) fun hO => ?_
    obtain ⟨e, c, y, q, e1, e2, e3, e4, e5, e6, e7, e8⟩ := hsubown _ hO
    have hne : c ≠ b := fun e => hno _ e1 e2 (by rw [e3, e])
    exact hs.apart c y q b x p e4 e5 e6 e7 hb hp hne hl e8
  -- a live place that came back, and an old one
  have hcross : ∀ (j : Nat) x p b x0 p0 (y0 : Blk), bs'[j]? = some x → ps'[j]? = some p → ((x.own = true ∧ 0 < p.cap) ∨ Live p) → h b = some x0 → ρ b = some p0 → (y0.own = true → x0.own = true) → (∀ e ∈ es, e.blk.own = true → e.src ≠ some b) →
      ((∃ z ∈ bs', z.own = false) → y0.own = true → ∀ e ∈ es, e.src ≠ some b) → (((x.own = true ∧ 0 < p.cap) ∧ ((y0.own = true ∧ 0 < p0.cap) ∨ Live p0)) ∨ (y0.own = true ∧ 0 < p0.cap)) → p.block ≠ p0.block := by
    intro j x p b x0 p0 y0 hj hp hl hb hp0 hyx hno hno2 hcl
    have hl0 : (x0.own = true ∧ 0 < p0.cap) ∨ Live p0 := by
      rcases hcl with ⟨_, h1 | h1⟩ | h1
      · exact .inl ⟨hyx h1.1, h1.2⟩
      · exact .inr h1
      · exact .inl ⟨hyx h1.1, h1.2⟩
    have hlt := hs.lt hb hp0 hl0
    rcases hm.src j x p hj hp hl with h1 | ⟨k0, x1, p1, h1, h2, h3, h4⟩
    · omega
    · obtain ⟨e, c, y, q, e1, e2, e3, e4, e5, e6, e7⟩ := hname k0 x1 p1 h1 h2 h3
      have hqcap : 0 < q.cap := by
        rcases e6 with e6 | e6
        · exact e6.2.1
        · obtain ⟨q', hq', _, _, h3, _⟩ := hs.pos c y e3
          rw [e4] at hq'; cases hq'
          have := e6.1; omega
      rw [← h4, e5]
      by_cases hxo : x.own = true ∧ 0 < p.cap
      · -- an own block came back: it was given away, or is new
        rcases hm.stp.sub p.block ⟨j, x, p, hj, hxo.1, hp, hxo.2, rfl⟩ with h5 | h5
        · obtain ⟨e', c', y', q', f1, f2, f3, f4, f5, f6, f7, f8⟩ := hsubown _ h5
          have hne : c' ≠ b := fun e => hno _ f1 f2 (by rw [f3, e])
          have := hs.apart c' y' q' b x0 p0 f4 f5 f6 f7 hb hp0 hne hl0
          rw [f8, ← h4, e5] at this; exact this
        · omega
      · have hy0 : y0.own = true ∧ 0 < p0.cap := by
          rcases hcl with h5 | h5
          · exact (hxo h5.1).elim
          · exact h5
        cases heo : e.blk.own with
        | true =>
          have hne : c ≠ b := fun h => hno e (List.mem_of_getElem? e1) heo (by rw [e2, h])
          obtain ⟨y', hy', ho'⟩ := hx.own e (List.mem_of_getElem? e1) heo c e2
          rw [e3] at hy'; cases hy'
          exact hs.apart c y q b x0 p0 e3 ho' e4 hqcap hb hp0 hne hl0
        | false =>
          by_cases hz : ∃ z ∈ bs', z.own = false
          · have hne : b ≠ c := fun h => hno2 hz hy0.1 e (List.mem_of_getElem? e1) (by rw [e2, h])
            have := hs.apart b x0 p0 c y q hb (hyx hy0.1) hp0 hy0.2 e3 e4 hne (by
              rcases e6 with e6 | e6
              · exact .inl ⟨e6.1, e6.2.1⟩
              · exact .inr e6)
            exact this.symm
          · exfalso
            have hxo' : x.own = true := by
              cases hxx : x.own with
              | true => rfl
              | false => exact (hz ⟨x, List.mem_of_getElem? hj, hxx⟩).elim
            have hpc : 0 < p.cap := by
              rcases hl with hl | hl
              · exact hl.2
              · obtain ⟨p', hp', _, _, h6, _⟩ := hc.sat.pos j x hj
                rw [show psRho ps' j = some p from hp] at hp'; cases hp'
                have := hl.1; omega
            exact hxo ⟨hxo', hpc⟩
  have hrd : ∀ (j : Nat) x p, bs'[j]? = some x → ps'[j]? = some p → RdP ρ' w' (renB (backN es P id) x).dat p := fun j x p hj hp => (hc.sat.rdP (b := j) hj hp).ren hf
  refine ⟨ρ', hle, ⟨fun b y hb => ?_, fun b y hb => ?_, fun b y p hb hp => ?_, fun b y p hb ho hp h0 => ?_, fun b y p b' y' p' hb ho hp h0 hb' hp' hne hl => ?_⟩, ⟨hm.stp.ext.mono fun k _ hk => ?_, ?_⟩, fun b hb hn => ?_, fun a v hv => V.ren hf a v hv⟩
  · rcases horg b y hb with ⟨j, x, p, e1, e2, e3, rfl, e4⟩ | ⟨x, p, e1, e2, e3, e4, e5, _⟩
    · have := hrd j x p e1 e2
      exact ⟨p, e4, this.stride, this.len, this.cap, this.max⟩
    · obtain ⟨q, hq, h1⟩ := hs.pos b x e1
      rw [e4] at hq; cases hq
      exact ⟨p, e5, by rw [e2]; exact h1⟩
  · rcases horg b y hb with ⟨j, x, p, e1, e2, e3, rfl, e4⟩ | ⟨x, p, e1, e2, e3, e4, e5, _⟩
    · exact (hrd j x p e1 e2).wf
    · rw [e2]; exact hs.wf b x e1
  · rcases horg b y hb with ⟨j, x, q, e1, e2, e3, rfl, e4⟩ | ⟨x, q, e1, e2, e3, e4, e5, e6, _⟩
    · rw [e4] at hp; cases hp
      exact (hrd j x p e1 e2).cells
    · rw [e5] at hp; cases hp
      intro i hi j av hav
      rw [e2] at hi hav
      obtain ⟨c, hcc, hv⟩ := hs.cells b x p e1 e4 i hi j av hav
      refine ⟨c, ?_, V.mono hle _ _ hv⟩
      have hwf := (hs.wf b x e1 i hi).1
      obtain ⟨q, hq, h1, h2, _⟩ := hs.pos b x e1
      rw [e4] at hq; cases hq
      have hj := (List.getElem?_eq_some_iff.1 hav).1
      have := hkeep b x p e1 e4 e6 (.inr ⟨by omega, by omega⟩)
      rw [World.cell?_of_block this]; exact hcc
  · rcases horg b y hb with ⟨j, x, q, e1, e2, e3, rfl, e4⟩ | ⟨x, q, e1, e2, e3, e4, e5, e6, _⟩
    · rw [e4] at hp; cases hp
      obtain ⟨cs, e, h1, h2, h3⟩ := hc.sat.own j x p e1 ho e2 h0
      exact ⟨cs, e, h1, h2, fun T hT => by
        have := h3 T (by rw [← renD_mark (backN es P id) x.dat]; exact hT)
        exact ⟨this.1, this.2.1, fun hg => (this.2.2 (by rw [← renD_gen (backN es P id) x.dat]; exact hg)).trans (renD_stride (backN es P id) x.dat).symm⟩⟩
    · rw [e5] at hp; cases hp
      obtain ⟨cs, e, h1, h2⟩ := hs.own b x p e1 (e3 ho) e4 h0
      exact ⟨cs, e, by rw [hkeep b x p e1 e4 e6 (.inl ⟨e3 ho, h0⟩)]; exact h1, by rw [e2]; exact h2⟩
  · rcases horg b y hb with ⟨j, x, q, e1, e2, e3, rfl, e4⟩ | ⟨x, q, e1, e2, e3, e4, e5, e6, e7⟩
    · rw [e4] at hp; cases hp
      rcases horg b' y' hb' with ⟨j', x', q', f1, f2, f3, rfl, f4⟩ | ⟨x', q', f1, f2, f3, f4, f5, f6, f7⟩
      · rw [f4] at hp'; cases hp'
        refine hc.sat.apart j x p j' x' p' e1 ho e2 h0 f1 f2 (fun e => hne ?_) hl
        rw [e3, f3, e]
      · rw [f5] at hp'; cases hp'
        exact hcross j x p b' x' p' y' e1 e2 (.inl ⟨ho, h0⟩) f1 f4 f3 f6 f7 (.inl ⟨⟨ho, h0⟩, hl⟩)
    · rw [e5] at hp; cases hp
      rcases horg b' y' hb' with ⟨j', x', q', f1, f2, f3, rfl, f4⟩ | ⟨x', q', f1, f2, f3, f4, f5, f6, f7⟩
      · rw [f4] at hp'; cases hp'
        exact (hcross j' x' p' b x p y f1 f2 hl e1 e4 e3 e6 e7 (.inr ⟨ho, h0⟩)).symm
      · rw [f5] at hp'; cases hp'
        exact hs.apart b x p b' x' p' e1 (e3 ho) e4 h0 f1 f4 hne (hl.imp (fun h => ⟨f3 h.1, h.2⟩) fun h => h)
  · obtain ⟨e, c, y, q, _, _, _, f1, f2, f3, f4, f5⟩ := hsubown k hk
    exact ⟨c, y, q, f1, f2, f3, f4, f5⟩
  · rintro k ⟨b, y, p, hb, ho, hp, h0, rfl⟩
    rcases horg b y hb with ⟨j, x, q, e1, e2, e3, rfl, e4⟩ | ⟨x, q, e1, e2, e3, e4, e5, e6, e7⟩
    · rw [e4] at hp; cases hp
      rcases hm.stp.sub p.block ⟨j, x, p, e1, ho, e2, h0, rfl⟩ with h5 | h5
      · obtain ⟨e, c, y, q, _, _, _, f1, f2, f3, f4, f5⟩ := hsubown _ h5
        exact .inl ⟨c, y, q, f1, f2, f3, f4, f5⟩
      · exact .inr h5
    · rw [e5] at hp; cases hp
      exact .inl ⟨b, x, p, e1, e3 ho, e4, h0, rfl⟩
  · have hb' : (if id + P.length ≤ b ∧ b < id + ps'.length then ps'[b - id]? else ρ b) ≠ none := hb
    split at hb'
    · rename_i h1; omega
    · exact (hb' hn).elim
end
end Go.Am
