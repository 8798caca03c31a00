/-
  AM3: what is told of a state: the blocks, numbered anew, are true of its world.
-/
import Derived.Test.YthfieonkfailkaaAmExp
namespace Go.Am
section
variable {E : Env} {ρ ρ' : Rho} {h : Heap} {w : World} {fl : Fl}

theorem V_scalar {a : AV} (ha : a.isScalar = true) {v : Value} (hv : V ρ a v) : V ρ' a v := by
  cases a <;> simp only [AV.isScalar, Bool.false_eq_true] at ha <;> simpa only [V] using hv
theorem Dat.row_scalar {d : Dat} (hd : ∀ s l, d ≠ .gen s l) {i j : Nat} {av : AV} (h : (d.row i)[j]? = some av) : av.isScalar = true := by
  cases d with
  | gen s l => exact (hd s l rfl).elim
  | _ =>
    simp only [Dat.row, Tok.enc, Nod.enc, Top.enc, Sgn.enc, Opr.enc, Chn.enc] at h
    have hm := List.mem_of_getElem? h
    simp only [List.mem_cons, List.mem_nil_iff, or_false] at hm
    rcases hm with rfl | rfl | rfl | rfl | rfl <;> rfl
theorem VL.choose {ρ : Rho} : ∀ {as : List AV} {P : Nat → Value → Prop}, (∀ (j : Nat) av, as[j]? = some av → ∃ c, P j c ∧ V ρ av c) → ∃ vs : List Value, (∀ (j : Nat) c, vs[j]? = some c → P j c) ∧ VL ρ as vs
  | [], P, _ => ⟨[], fun j c hj => by simp at hj, by simp [VL]⟩
  | a :: as, P, h => by
    obtain ⟨c, hc, hv⟩ := h 0 a rfl
    obtain ⟨vs, h1, h2⟩ := VL.choose (as := as) (P := fun j => P (j + 1)) fun j av hj => h (j + 1) av (by simpa using hj)
    refine ⟨c :: vs, fun j d hj => ?_, ?_⟩
    · cases j with
      | zero => simp at hj; subst hj; exact hc
      | succ j => exact h1 j d (by simpa using hj)
    · simp only [VL]; exact ⟨c, vs, rfl, hv, h2⟩
theorem RdP.row {d : Dat} {p : Pos} (hd : RdP ρ w d p) {i : Nat} (hi : i < d.len) : ∃ vs : List Value, (∀ (j : Nat) c, vs[j]? = some c → w.cell? (p.addr i j) = some c) ∧ VL ρ (d.row i) vs :=
  VL.choose (P := fun j c => w.cell? (p.addr i j) = some c) fun j av hj => hd.cells i hi j av hj

theorem getD_succ {α : Type} (x : α) (r : List α) (i : Nat) (d : α) : (x :: r).getD (i + 1) d = r.getD i d := by simp [List.getD]
theorem visRows_ok (hs : SatH ρ h w) {tys : List TypeId} : ∀ (rows : List (List AV)) (es : List Ent) (rows' : List (List AV)) (es' : List Ent), visRows E h fl tys rows es = some (rows', es') → BoxAll ρ h w es →
    (∀ i, i < rows.length → ∃ vs, VL ρ (rows.getD i []) vs) →
    Vis ρ h w es es' ∧ rows'.length = rows.length ∧ ∀ i, i < rows.length → ∀ vs, VL ρ (rows.getD i []) vs → (∀ ρ', Agree ρ ρ' es' → VL ρ' (rows'.getD i []) vs) ∧ ((rows.getD i []).all AV.isCell = true → (rows'.getD i []).all AV.isCell = true)
  | [], es, rows', es', he, hall, _ => by
    simp only [visRows, Option.some.injEq, Prod.mk.injEq] at he
    obtain ⟨rfl, rfl⟩ := he
    exact ⟨Vis.refl _, rfl, fun i hi => by simp at hi⟩
  | r :: rs, es, rows', es', he, hall, hex => by
    unfold visRows at he
    split at he
    · rename_i r1 es1 h1
      split at he
      · rename_i rs1 es2 h2
        cases he
        obtain ⟨vs0, hv0⟩ := hex 0 (by simp)
        obtain ⟨v1, a1, c1⟩ := visL_ok hs _ _ _ _ _ _ h1 vs0 hv0 hall
        obtain ⟨v2, l2, a2⟩ := visRows_ok hs rs es1 rs1 es' h2 (v1.all hall) fun i hi => by
          obtain ⟨vs, hv⟩ := hex (i + 1) (by simpa using hi)
          exact ⟨vs, by rwa [getD_succ] at hv⟩
        refine ⟨v1.trans v2, by simp [l2], fun i hi vs hv => ?_⟩
        cases i with
        | zero =>
          obtain ⟨_, b1, d1⟩ := visL_ok hs _ _ _ _ _ _ h1 vs hv hall
          exact ⟨fun ρ' ha => b1 ρ' (ha.pre v2.pre), d1⟩
        | succ i =>
          rw [getD_succ] at hv ⊢
          rw [getD_succ]
          exact a2 i (by simpa using hi) vs hv
      · cases he
    · cases he

theorem visD_ok (hs : SatH ρ h w) {d d' : Dat} {es es' : List Ent} (he : visD E h fl d es = some (d', es')) (hall : BoxAll ρ h w es) {p : Pos} (hd : RdP ρ w d p) :
    Vis ρ h w es es' ∧ ∀ ρ', Agree ρ ρ' es' → RdP ρ' w d' p := by
  by_cases hg : ∃ s l, d = .gen s l
  · obtain ⟨tys, rows, rfl⟩ := hg
    unfold visD at he
    split at he
    · rename_i t2 r2 heq
      cases heq
      split at he
      · rename_i rows1 es1 h1
        cases he
        have hrow : ∀ i, i < rows.length → ∃ vs : List Value, (∀ (j : Nat) c, vs[j]? = some c → w.cell? (p.addr i j) = some c) ∧ VL ρ (rows.getD i []) vs := fun i hi => hd.row (i := i) hi
        obtain ⟨v1, l1, a1⟩ := visRows_ok hs _ _ _ _ h1 hall fun i hi => by obtain ⟨vs, _, hv⟩ := hrow i hi; exact ⟨vs, hv⟩
        refine ⟨v1, fun ρ' ha => ⟨hd.stride, by rw [hd.len]; exact l1.symm, hd.cap, hd.max, fun i hi => ?_, fun i hi j av hav => ?_⟩⟩
        · have hi' : i < rows.length := by rw [← l1]; exact hi
          obtain ⟨vs, _, hv⟩ := hrow i hi'
          obtain ⟨b1, c1⟩ := a1 i hi' vs hv
          have hwf := hd.wf i hi'
          refine ⟨?_, c1 hwf.2⟩
          have e1 := (b1 ρ' ha).length
          have e2 := hv.length
          show (rows1.getD i []).length = wid tys
          have e3 : (rows.getD i []).length = wid tys := hwf.1
          omega
        · have hi' : i < rows.length := by rw [← l1]; exact hi
          obtain ⟨vs, hc, hv⟩ := hrow i hi'
          obtain ⟨b1, _⟩ := a1 i hi' vs hv
          obtain ⟨c, hc1, hc2⟩ := (b1 ρ' ha).get hav
          exact ⟨c, hc j c hc1, hc2⟩
      · cases he
    · rename_i hn
      exact (hn tys rows rfl).elim
  · have hg' : ∀ s l, d ≠ .gen s l := fun s l e => hg ⟨s, l, e⟩
    have : visD E h fl d es = some (d, es) := by
      cases d <;> first | rfl | exact (hg' _ _ rfl).elim
    rw [this] at he
    cases he
    exact ⟨Vis.refl _, fun ρ' _ => hd.mono fun i hi j av hav c hv => V_scalar (Dat.row_scalar hg' hav) hv⟩

theorem visD_mark {d d' : Dat} {es es' : List Ent} (he : visD E h fl d es = some (d', es')) : d'.mark = d.mark := by
  unfold visD at he
  split at he
  · split at he
    · cases he; rfl
    · cases he
  · cases he; rfl
theorem visD_gen {d d' : Dat} {es es' : List Ent} (he : visD E h fl d es = some (d', es')) : d'.isGen = d.isGen := by
  unfold visD at he
  split at he
  · split at he
    · cases he; rfl
    · cases he
  · cases he; rfl
theorem visGo_ok (hs : SatH ρ h w) : ∀ (f k : Nat) (es : List Ent) (bs : List Blk) (es' : List Ent), visGo E h fl f k es = some (bs, es') → BoxAll ρ h w es → k ≤ es.length →
    Vis ρ h w es es' ∧ k + bs.length = es'.length ∧ ∀ (i : Nat) e, es'[k + i]? = some e → ∃ x, bs[i]? = some x ∧ x.own = e.blk.own ∧ (x.dat.mark = e.blk.dat.mark ∧ x.dat.isGen = e.blk.dat.isGen) ∧ ∀ p, place ρ e = some p → ∀ ρ', Agree ρ ρ' es' → RdP ρ' w x.dat p
  | 0, k, es, bs, es', he, _, _ => by simp [visGo] at he
  | f + 1, k, es, bs, es', he, hall, hk => by
    unfold visGo at he
    split at he
    · rename_i hn
      cases he
      have : es.length ≤ k := by simpa using hn
      refine ⟨Vis.refl _, by simp; omega, fun i e hi => ?_⟩
      have := (List.getElem?_eq_some_iff.1 hi).1; omega
    · rename_i e hek
      split at he
      · rename_i d es1 h1
        split at he
        · rename_i bs1 es2 h2
          cases he
          have hem := List.mem_of_getElem? hek
          obtain ⟨p, hp, hrd, _⟩ := hall e hem
          obtain ⟨v1, a1⟩ := visD_ok hs h1 hall hrd
          have hlt := (List.getElem?_eq_some_iff.1 hek).1
          obtain ⟨v2, l2, a2⟩ := visGo_ok hs f (k + 1) es1 bs1 es' h2 (v1.all hall) (by
            have := v1.pre.length_le; omega)
          refine ⟨v1.trans v2, by simp only [List.length_cons]; omega, fun i e' hi => ?_⟩
          cases i with
          | zero =>
            obtain ⟨t, ht⟩ := (v1.trans v2).pre
            have : es'[k]? = some e := by rw [← ht, List.getElem?_append_left hlt]; exact hek
            rw [Nat.add_zero, this] at hi; cases hi
            refine ⟨_, rfl, rfl, ⟨visD_mark h1, visD_gen h1⟩, fun p' hp' ρ' ha => ?_⟩
            rw [hp] at hp'; cases hp'
            exact a1 ρ' (ha.pre v2.pre)
          | succ i =>
            obtain ⟨x, hx, r⟩ := a2 i e' (by rw [show k + 1 + i = k + (i + 1) from by omega]; exact hi)
            exact ⟨x, by simpa using hx, r⟩
        · cases he
      · cases he

def psRho (ps : List Pos) : Rho := fun b => ps[b]?
/-- what is told is true of a world -/
structure CfgOk (E : Env) (w : World) (bs : List Blk) (ps : List Pos) : Prop where
  sat : SatH (psRho ps) (blkH bs) w
  g : GOk E (ownB (psRho ps) (blkH bs)) w
  len : ps.length = bs.length
  few : bs.length ≤ 1000

theorem entsOk_some : ∀ {l : List Ent}, entsOk h l = true → ∀ e ∈ l, ∀ b, e.src = some b → ∃ y, h b = some y ∧ (e.blk.own = true → y.own = true)
  | [], _, e, he, _, _ => by cases he
  | x :: r, hk, e, he, b, hb => by
    simp only [entsOk, Bool.and_eq_true] at hk
    rcases List.mem_cons.1 he with rfl | he
    · have := hk.1.1
      rw [hb] at this
      simp only at this
      cases hy : h b with
      | none => rw [hy] at this; cases this
      | some y =>
        rw [hy] at this
        refine ⟨y, rfl, fun ho => ?_⟩
        rw [ho] at this; simpa using this
    · exact entsOk_some hk.2 e he b hb
theorem entsOk_own {l : List Ent} (hk : entsOk h l = true) (e : Ent) (he : e ∈ l) (ho : e.blk.own = true) (b : Nat) (hb : e.src = some b) : ∃ y, h b = some y ∧ y.own = true := by
  obtain ⟨y, h1, h2⟩ := entsOk_some hk e he b hb
  exact ⟨y, h1, h2 ho⟩
theorem entsOk_pw : ∀ {l : List Ent}, entsOk h l = true → ∀ (i j : Nat) a b x y, i ≠ j → l[i]? = some a → l[j]? = some b → (a.blk.own = true ∨ b.blk.own = true) → a.src = some x → b.src = some y → x ≠ y
  | [], _, i, j, a, b, x, y, _, e, _, _, _, _ => by simp at e
  | z :: r, hk, i, j, a, b, x, y, hij, e1, e2, ho, hx, hy => by
    simp only [entsOk, Bool.and_eq_true, List.all_eq_true, Bool.not_eq_true'] at hk
    have key : ∀ {u v : Ent} {x y : Nat}, clashE u v = false → (u.blk.own = true ∨ v.blk.own = true) → u.src = some x → v.src = some y → x ≠ y := by
      intro u v x y hc ho hx hy
      unfold clashE at hc
      rw [hx, hy] at hc
      simp only [Bool.and_eq_false_iff, Bool.or_eq_false_iff] at hc
      rintro rfl
      rcases hc with ⟨h1, h2⟩ | hc
      · rw [h1, h2] at ho; simp at ho
      · rw [Nat.beq_refl] at hc; cases hc
    cases i with
    | zero =>
      cases j with
      | zero => exact (hij rfl).elim
      | succ j =>
        simp at e1; subst e1
        exact key (hk.1.2 b (List.mem_of_getElem? (by simpa using e2))) ho hx hy
    | succ i =>
      cases j with
      | zero =>
        simp at e2; subst e2
        exact (key (hk.1.2 a (List.mem_of_getElem? (by simpa using e1))) ho.symm hy hx).symm
      | succ j => exact entsOk_pw hk.2 i j a b x y (by omega) (by simpa using e1) (by simpa using e2) ho hx hy

/-- what is told, all of it -/
structure ExpOk (E : Env) (ρ : Rho) (h : Heap) (w : World) (vs : List AV) (cvs : List Value) (bs : List Blk) (es : List Ent) (ps : List Pos) : Prop where
  cfg : CfgOk E w bs ps
  vals : VL (psRho ps) vs cvs
  ents : bs.length = es.length
  ent : ∀ (k : Nat) e, es[k]? = some e → ∃ p x, ps[k]? = some p ∧ bs[k]? = some x ∧ x.own = e.blk.own ∧ place ρ e = some p ∧ EntRd ρ h w e
  own : ∀ e ∈ es, e.blk.own = true → ∀ b, e.src = some b → ∃ y, h b = some y ∧ y.own = true
  pw : ∀ (i j : Nat) a b x y, i ≠ j → es[i]? = some a → es[j]? = some b → (a.blk.own = true ∨ b.blk.own = true) → a.src = some x → b.src = some y → x ≠ y

theorem expAll_ok (hs : SatH ρ h w) (hg : GOk E (ownB ρ h) w) {ts : List TypeId} {as vs : List AV} {bs : List Blk} {es : List Ent} (he : expAll E h fl ts as = some (vs, bs, es)) {cvs : List Value} (hv : VL ρ as cvs) :
    ∃ ps, ExpOk E ρ h w vs cvs bs es ps := by
  unfold expAll at he
  split at he
  · rename_i vs1 es1 h1
    split at he
    · rename_i bs1 es2 h2
      cases hk : (entsOk h es2 && Nat.ble bs1.length 1000) with
      | false => simp [hk] at he
      | true =>
        rw [hk, cond_true] at he
        cases he
        simp only [Bool.and_eq_true] at hk
        obtain ⟨hk, hfew⟩ := hk
        obtain ⟨v1, a1, _⟩ := visL_ok hs _ _ _ _ _ _ h1 cvs hv (fun e he => by cases he)
        have hall1 := v1.all (fun e he => by cases he)
        obtain ⟨v2, l2, a2⟩ := visGo_ok hs _ _ _ _ _ h2 hall1 (Nat.zero_le _)
        have hall := v2.all hall1
        have hex : ∀ e ∈ es, ∃ p, place ρ e = some p := fun e he => by obtain ⟨p, hp, _⟩ := hall e he; exact ⟨p, hp⟩
        let ps : List Pos := es.map fun e => (place ρ e).getD ⟨0, 0, 0, 0, 0⟩
        have hps : ∀ (k : Nat) e, es[k]? = some e → ∃ p, place ρ e = some p ∧ ps[k]? = some p := fun k e hk => by
          obtain ⟨p, hp⟩ := hex e (List.mem_of_getElem? hk)
          exact ⟨p, hp, by simp [ps, hk, hp]⟩
        have hag : Agree ρ (psRho ps) es := hps
        have hent : ∀ (k : Nat) e, es[k]? = some e → ∃ p x, ps[k]? = some p ∧ bs[k]? = some x ∧ x.own = e.blk.own ∧ place ρ e = some p ∧ EntRd ρ h w e ∧ RdP (psRho ps) w x.dat p ∧ x.dat.mark = e.blk.dat.mark ∧ x.dat.isGen = e.blk.dat.isGen := fun k e hk => by
          obtain ⟨p, hp, hpk⟩ := hps k e hk
          obtain ⟨x, hx, ho, hmk, hrd⟩ := a2 k e (by rw [Nat.zero_add]; exact hk)
          exact ⟨p, x, hpk, hx, ho, hp, hall e (List.mem_of_getElem? hk), hrd p hp _ hag, hmk⟩
        have hblk : ∀ (k : Nat) x, bs[k]? = some x → ∃ e, es[k]? = some e := fun k x hx => by
          have := (List.getElem?_eq_some_iff.1 hx).1
          exact ⟨es[k]'(by omega), List.getElem?_eq_getElem _⟩
        -- an own block's, or a live place's, name
        have hsrc : ∀ e, EntRd ρ h w e → ∀ p, place ρ e = some p → 0 < p.cap ∨ Live p → ∃ b x q, e.src = some b ∧ h b = some x ∧ ρ b = some q ∧ p.block = q.block ∧ p.off + p.cap * p.stride ≤ q.off + q.cap * q.stride ∧ p.cap ≤ q.cap ∧ (Live p → Live q) := fun e hr p hp hl => by
          obtain ⟨p', hp', hrd, hm⟩ := hr
          rw [hp] at hp'; cases hp'
          have hc : 0 < p.cap := by
            rcases hl with hl | hl
            · exact hl
            · have := hl.1; have := hrd.cap; omega
          cases hsr : e.src with
          | none => rw [hsr] at hm; simp only at hm; omega
          | some b =>
            rw [hsr] at hm
            obtain ⟨x, q, e1, e2, e3, e4, e5, e6, _⟩ := hm
            exact ⟨b, x, q, rfl, e1, e2, e3, e4, e5, e6⟩
        have hownb : ∀ (k : Nat) (e : Ent) (p : Pos) (x : Blk), es[k]? = some e → place ρ e = some p → x.own = e.blk.own → EntRd ρ h w e → x.own = true → 0 < p.cap → ∃ b y q, e.src = some b ∧ h b = some y ∧ y.own = true ∧ ρ b = some q ∧ p.block = q.block ∧ p.off + p.cap * p.stride ≤ q.off + q.cap * q.stride ∧ 0 < q.cap := by
          intro k e p x hke hp hxo hr ho h0
          obtain ⟨b, x', q, e1, e2, e3, e4, e5, e6, _⟩ := hsrc e hr p hp (.inl h0)
          obtain ⟨y, hy, hyo⟩ := entsOk_own hk e (List.mem_of_getElem? hke) (by rw [← hxo]; exact ho) b e1
          exact ⟨b, y, q, e1, hy, hyo, e3, e4, e5, by omega⟩
        refine ⟨ps, ⟨⟨?_, ?_, by simp [ps]; omega, Nat.le_of_ble_eq_true hfew⟩, a1 _ (hag.pre v2.pre), by omega, fun k e hk => by
          obtain ⟨p, x, c1, c2, c3, c4, c5, _⟩ := hent k e hk
          exact ⟨p, x, c1, c2, c3, c4, c5⟩, fun e he ho b hb => entsOk_own hk e he ho b hb, fun i j a b x y => entsOk_pw hk i j a b x y⟩⟩
        · refine ⟨fun b x hb => ?_, fun b x hb => ?_, fun b x p hb hp => ?_, fun b x p hb ho hp h0 => ?_, fun b x p b' x' p' hb ho hp h0 hb' hp' hne hl => ?_⟩
          · obtain ⟨e, he⟩ := hblk b x hb
            obtain ⟨p, x', c1, c2, _, _, _, c6, _⟩ := hent b e he
            rw [show bs[b]? = some x from hb] at c2; cases c2
            exact ⟨p, c1, c6.stride, c6.len, c6.cap, c6.max⟩
          · obtain ⟨e, he⟩ := hblk b x hb
            obtain ⟨p, x', c1, c2, _, _, _, c6, _⟩ := hent b e he
            rw [show bs[b]? = some x from hb] at c2; cases c2
            exact c6.wf
          · obtain ⟨e, he⟩ := hblk b x hb
            obtain ⟨p', x', c1, c2, _, _, _, c6, _⟩ := hent b e he
            rw [show bs[b]? = some x from hb] at c2; cases c2
            rw [show ps[b]? = some p from hp] at c1; cases c1
            exact c6.cells
          · obtain ⟨e, he⟩ := hblk b x hb
            obtain ⟨p', x', c1, c2, c3, c4, c5, c6, c7, c8⟩ := hent b e he
            rw [show bs[b]? = some x from hb] at c2; cases c2
            rw [show ps[b]? = some p from hp] at c1; cases c1
            obtain ⟨n, y, q, d1, d2, d3, d4, d5, d6, d7⟩ := hownb b e p x he c4 c3 c5 ho h0
            obtain ⟨cs, ty, hcs, hsz, hmk⟩ := hs.own n y q d2 d3 d4 d7
            refine ⟨cs, ty, by rw [d5]; exact hcs, Nat.le_trans d6 hsz, fun T hT => ?_⟩
            obtain ⟨p9, hp9, hrd9, hm9⟩ := c5
            rw [c4] at hp9; cases hp9
            rw [d1] at hm9
            obtain ⟨y9, q9, i1, i2, _, _, _, _, _, i8⟩ := hm9
            rw [d2] at i1; cases i1
            rw [d4] at i2; cases i2
            obtain ⟨rfl, hmT, i9⟩ := i8 T (by rw [← c7]; exact hT)
            obtain ⟨m1, m2, m3⟩ := hmk T hmT
            obtain ⟨_, e9, s1, _⟩ := hs.pos n y d2
            rw [d4] at e9; cases e9
            refine ⟨m1, m2, fun hg => ?_⟩
            have hgen : y.dat.isGen = true := by rw [← i9, ← c8]; exact hg
            rw [m3 hgen, ← s1, c6.stride]
          · obtain ⟨e, he⟩ := hblk b x hb
            obtain ⟨p1, x1, c1, c2, c3, c4, c5, c6, _⟩ := hent b e he
            rw [show bs[b]? = some x from hb] at c2; cases c2
            rw [show ps[b]? = some p from hp] at c1; cases c1
            obtain ⟨e', he'⟩ := hblk b' x' hb'
            obtain ⟨p2, x2, f1, f2, f3, f4, f5, f6, _⟩ := hent b' e' he'
            rw [show bs[b']? = some x' from hb'] at f2; cases f2
            rw [show ps[b']? = some p' from hp'] at f1; cases f1
            obtain ⟨n, y, q, d1, d2, d3, d4, d5, d6, d7⟩ := hownb b e p x he c4 c3 c5 ho h0
            obtain ⟨n', y', q', g1, g2, g3, g4, g5, g6, g7⟩ := hsrc e' f5 p' f4 (hl.elim (fun h => .inl h.2) (fun h => .inr h))
            have hnn : n ≠ n' := entsOk_pw hk b b' e e' n n' hne he he' (.inl (by rw [← c3]; exact ho)) d1 g1
            rw [d5, g4]
            refine hs.apart n y q n' y' q' d2 d3 d4 d7 g2 g3 hnn ?_
            rcases hl with hl | hl
            · obtain ⟨n2, y2, q2, i1, i2, i3, i4, _, _, i7⟩ := hownb b' e' p' x' he' f4 f3 f5 hl.1 hl.2
              rw [g1] at i1; cases i1
              rw [g2] at i2; cases i2
              rw [g3] at i4; cases i4
              exact .inl ⟨i3, i7⟩
            · exact .inr (g7 hl)
        · refine ⟨hg.laid, hg.size, hg.base, ?_⟩
          rintro k ⟨b, x, p, hb, ho, hp, h0, rfl⟩
          obtain ⟨e, he⟩ := hblk b x hb
          obtain ⟨p', x', c1, c2, c3, c4, c5, c6, c7⟩ := hent b e he
          rw [show bs[b]? = some x from hb] at c2; cases c2
          rw [show ps[b]? = some p from hp] at c1; cases c1
          obtain ⟨n, y, q, d1, d2, d3, d4, d5, d6, d7⟩ := hownb b e p x he c4 c3 c5 ho h0
          rw [d5]
          exact hg.own _ ⟨n, y, q, d2, d3, d4, d7, rfl⟩
    · cases he
  · cases he
end
end Go.Am
