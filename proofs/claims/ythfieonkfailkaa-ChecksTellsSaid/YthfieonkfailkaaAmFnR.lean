/-
  AM3: a function by its text keeps its contract.
-/
import Derived.Test.YthfieonkfailkaaAmFn3
namespace Go.Am

mutual
theorem persA_mem {bs : List Blk} : ∀ (a : AV) (acc : List Nat), (∀ k ∈ acc, ∃ x, bs[k]? = some x ∧ x.own = true) → ∀ k ∈ persA bs a acc, ∃ x, bs[k]? = some x ∧ x.own = true
  | .ptr k _ _, acc, ha, j, hj => by
    unfold persA at hj
    split at hj
    · rename_i x hx
      cases hc : (x.own && !memb acc k) with
      | true =>
        rw [hc, cond_true] at hj
        simp only [Bool.and_eq_true] at hc
        rcases List.mem_append.1 hj with h | h
        · exact ha j h
        · simp only [List.mem_singleton] at h; subst h; exact ⟨x, hx, hc.1⟩
      | false => rw [hc, cond_false] at hj; exact ha j hj
    · exact ha j hj
  | .fn _ us cs, acc, ha, j, hj => by
    unfold persA at hj
    exact persL_mem cs _ (persL_mem us acc ha) j hj
  | .iface _ x, acc, ha, j, hj => by unfold persA at hj; exact persA_mem x acc ha j hj
  | .agg cs, acc, ha, j, hj => by unfold persA at hj; exact persL_mem cs acc ha j hj
  | .any, acc, ha, j, hj => by simp only [persA] at hj; exact ha j hj
  | .bool _, acc, ha, j, hj => by simp only [persA] at hj; exact ha j hj
  | .int .., acc, ha, j, hj => by simp only [persA] at hj; exact ha j hj
  | .str _, acc, ha, j, hj => by simp only [persA] at hj; exact ha j hj
  | .nilp, acc, ha, j, hj => by simp only [persA] at hj; exact ha j hj
  | .nils, acc, ha, j, hj => by simp only [persA] at hj; exact ha j hj
  | .slw _, acc, ha, j, hj => by simp only [persA] at hj; exact ha j hj
  | .sl .., acc, ha, j, hj => by simp only [persA] at hj; exact ha j hj
  | .nilf, acc, ha, j, hj => by simp only [persA] at hj; exact ha j hj
  | .nili, acc, ha, j, hj => by simp only [persA] at hj; exact ha j hj
  | .tup _, acc, ha, j, hj => by simp only [persA] at hj; exact ha j hj
theorem persL_mem {bs : List Blk} : ∀ (as : List AV) (acc : List Nat), (∀ k ∈ acc, ∃ x, bs[k]? = some x ∧ x.own = true) → ∀ k ∈ persL bs as acc, ∃ x, bs[k]? = some x ∧ x.own = true
  | [], acc, ha, j, hj => by simp only [persL] at hj; exact ha j hj
  | a :: r, acc, ha, j, hj => by unfold persL at hj; exact persL_mem r _ (persA_mem a acc ha) j hj
end
theorem pers_mem {vs : List AV} {bs : List Blk} {k : Nat} (hk : k ∈ pers vs bs) : ∃ x, bs[k]? = some x ∧ x.own = true := persL_mem vs [] (fun _ h => by cases h) k hk

/-- where the told values of a call lie -/
def startRho (E : Env) (ps : List Pos) : Rho := fun b =>
  bif Nat.ble globBase b then (E.glob (b - globBase)).map (globPos (b - globBase)) else ps[b]?

section
variable {E : Env} {ρ : Rho} {h : Heap} {w w' : World}

theorem ExpOk.name {vs : List AV} {cvs : List Value} {bs : List Blk} {es : List Ent} {ps : List Pos} (hx : ExpOk E ρ h w vs cvs bs es ps) (k : Nat) (x : Blk) (p : Pos) (hk : bs[k]? = some x) (hp : ps[k]? = some p) (hl : (x.own = true ∧ 0 < p.cap) ∨ Live p) :
    ∃ e b y q, es[k]? = some e ∧ e.src = some b ∧ h b = some y ∧ ρ b = some q ∧ p.block = q.block ∧ 0 < q.cap ∧ (Live p → Live q) ∧ (e.blk.own = true → y.own = true) ∧ x.own = e.blk.own := by
  have hke : k < es.length := by rw [← hx.ents]; exact (List.getElem?_eq_some_iff.1 hk).1
  obtain ⟨p', x', f1, f2, f3, f4, q', f5, frd, f6⟩ := hx.ent k _ (List.getElem?_eq_getElem hke)
  rw [hk] at f2; cases f2
  rw [hp] at f1; cases f1
  rw [f4] at f5; cases f5
  have hcap : 0 < p.cap := by
    rcases hl with hl | hl
    · exact hl.2
    · have := hl.1; have := frd.cap; omega
  cases hsr : (es[k]).src with
  | none => rw [hsr] at f6; simp only at f6; omega
  | some b =>
    rw [hsr] at f6
    obtain ⟨y, q, g1, g2, g3, g4, g5, g6, _⟩ := f6
    exact ⟨_, b, y, q, List.getElem?_eq_getElem hke, hsr, g1, g2, g3, by omega, g6, fun ho => by
      obtain ⟨y', hy', ho'⟩ := hx.own _ (List.getElem_mem hke) ho b hsr
      rw [g1] at hy'; cases hy'; exact ho', f3⟩

theorem glob_false {E : Env} {bs : List Blk} {ps : List Pos} (hc : CfgOk E w bs ps) {b : Nat} {p : Pos} (hb : ps[b]? = some p) : Nat.ble globBase b = false := by
  have := (List.getElem?_eq_some_iff.1 hb).1
  have := hc.len; have := hc.few
  cases hbb : Nat.ble globBase b with
  | false => rfl
  | true => have := Nat.le_of_ble_eq_true hbb; simp only [globBase] at this; omega
theorem startRho_get {bs : List Blk} {ps : List Pos} (hc : CfgOk E w bs ps) {b : Nat} {p : Pos} (hb : ps[b]? = some p) : startRho E ps b = some p := by
  unfold startRho; rw [glob_false hc hb, cond_false]; exact hb
theorem listT_get : ∀ (l : List AV) (i : Nat), listT l i = (l[i]?).getD .any
  | [], i => by simp [listT]
  | v :: r, 0 => by simp [listT]
  | v :: r, i + 1 => by simp [listT, listT_get r i]

/-- the heap in which a run begins -/
theorem start_satH {bs : List Blk} {ps : List Pos} (hc : CfgOk E w bs ps) :
    SatH (startRho E ps) (startH E bs) w ∧ (∀ k, ownB (startRho E ps) (startH E bs) k → ownB (psRho ps) (blkH bs) k) ∧ (∀ k, ownB (psRho ps) (blkH bs) k → ownB (startRho E ps) (startH E bs) k) ∧ (psRho ps).le (startRho E ps) := by
  have hle : (psRho ps).le (startRho E ps) := fun b p hb => startRho_get hc hb
  -- each block: told, or a package's
  have horg : ∀ b x, startH E bs b = some x → (bs[b]? = some x ∧ ∃ p, ps[b]? = some p ∧ startRho E ps b = some p) ∨ (∃ g d, b = globBase + g ∧ E.glob g = some d ∧ x = ⟨false, d⟩ ∧ startRho E ps b = some (globPos g d)) := by
    intro b x hb
    unfold startH at hb
    cases hbb : Nat.ble globBase b with
    | true =>
      right
      rw [hbb, cond_true, Option.map_eq_some_iff] at hb
      obtain ⟨d, hd, rfl⟩ := hb
      have := Nat.le_of_ble_eq_true hbb
      exact ⟨b - globBase, d, by omega, hd, rfl, by unfold startRho; rw [hbb, cond_true, hd]; rfl⟩
    | false =>
      left
      rw [hbb, cond_false] at hb
      have hlt := (List.getElem?_eq_some_iff.1 hb).1
      have hp : ps[b]? = some (ps[b]'(by have := hc.len; omega)) := List.getElem?_eq_getElem _
      exact ⟨hb, _, hp, startRho_get hc hp⟩
  have hown : ∀ k, ownB (startRho E ps) (startH E bs) k → ownB (psRho ps) (blkH bs) k := by
    rintro k ⟨b, x, p, hb, ho, hp, h0, rfl⟩
    rcases horg b x hb with ⟨h1, q, h2, h3⟩ | ⟨g, d, rfl, h1, rfl, h2⟩
    · rw [h3] at hp; cases hp
      exact ⟨b, x, p, h1, ho, h2, h0, rfl⟩
    · cases ho
  refine ⟨⟨fun b x hb => ?_, fun b x hb => ?_, fun b x p hb hp => ?_, fun b x p hb ho hp h0 => ?_, fun b x p b' x' p' hb ho hp h0 hb' hp' hne hl => ?_⟩, hown, ?_, hle⟩
  · rcases horg b x hb with ⟨h1, q, h2, h3⟩ | ⟨g, d, rfl, h1, rfl, h2⟩
    · obtain ⟨p, hp, r⟩ := hc.sat.pos b x h1
      exact ⟨p, hle _ _ hp, r⟩
    · have := (hc.g.laid g d h1).2
      exact ⟨_, h2, this.stride, this.len, this.cap, this.max⟩
  · rcases horg b x hb with ⟨h1, q, h2, h3⟩ | ⟨g, d, rfl, h1, rfl, h2⟩
    · exact hc.sat.wf b x h1
    · exact (hc.g.laid g d h1).2.wf
  · rcases horg b x hb with ⟨h1, q, h2, h3⟩ | ⟨g, d, rfl, h1, rfl, h2⟩
    · rw [h3] at hp; cases hp
      intro i hi j av hav
      obtain ⟨c, hcc, hv⟩ := hc.sat.cells b x p h1 h2 i hi j av hav
      exact ⟨c, hcc, V.mono hle _ _ hv⟩
    · rw [h2] at hp; cases hp
      intro i hi j av hav
      obtain ⟨c, hcc, hv⟩ := (hc.g.laid g d h1).2.cells i hi j av hav
      exact ⟨c, hcc, V.mono (fun _ _ h => by cases h) _ _ hv⟩
  · rcases horg b x hb with ⟨h1, q, h2, h3⟩ | ⟨g, d, rfl, h1, rfl, h2⟩
    · rw [h3] at hp; cases hp
      exact hc.sat.own b x p h1 ho h2 h0
    · cases ho
  · rcases horg b x hb with ⟨h1, q, h2, h3⟩ | ⟨g, d, rfl, h1, rfl, h2⟩
    · rw [h3] at hp; cases hp
      rcases horg b' x' hb' with ⟨f1, q', f2, f3⟩ | ⟨g, d, rfl, f1, rfl, f2⟩
      · rw [f3] at hp'; cases hp'
        exact hc.sat.apart b x p b' x' p' h1 ho h2 h0 f1 f2 hne hl
      · rw [f2] at hp'; cases hp'
        have := hc.g.own _ ⟨b, x, p, h1, ho, h2, h0, rfl⟩
        have := (hc.g.laid g d f1).1
        simp only [globPos]; omega
    · cases ho
  · rintro k ⟨b, x, p, hb, ho, hp, h0, rfl⟩
    refine ⟨b, x, p, ?_, ho, hle _ _ hp, h0, rfl⟩
    unfold startH
    rw [glob_false hc hp, cond_false]; exact hb

/-- what is told at the end of a run that began with told values -/
theorem expEnd_ok {n : Nat} {P : List Nat} {bs : List Blk} {ps : List Pos} (hc : CfgOk E w bs ps) (hn : n = bs.length) (hP : ∀ k ∈ P, ∃ x, bs[k]? = some x ∧ x.own = true)
    (hs : SatH ρ h w') (hg : GOk E (ownB ρ h) w') (hle : (startRho E ps).le ρ) (hst : Stp (ownB (startRho E ps) (startH E bs)) (ownB ρ h) w w') {ts : List TypeId} {l : List AV} {out : Out} (he : (expEnd E h n P ts l).sel = some out) {cvs : List Value} (hv : VL ρ l cvs) :
    ∃ ps', CfgOk E w' out.blks ps' ∧ VL (psRho ps') out.vals cvs ∧ Mv w bs ps w' out.blks ps' ∧ ∀ (j : Nat) k, P[j]? = some k → ps'[j]? = ps[k]? := by
  obtain ⟨_, hs1, hs2, hle0⟩ := start_satH hc
  have hpsn : ∀ k ∈ P, ∃ p, ps[k]? = some p := fun k hk => by
    obtain ⟨x, hx, _⟩ := hP k hk
    have := (List.getElem?_eq_some_iff.1 hx).1
    exact ⟨ps[k]'(by have := hc.len; omega), List.getElem?_eq_getElem _⟩
  have hptr : ∃ pv : List Value, VL ρ (ptrs P) pv := by
    clear he
    induction P with
    | nil => exact ⟨[], by simp [ptrs, VL]⟩
    | cons k P ih =>
      obtain ⟨pv, h1⟩ := ih (fun k hk => hP k (List.mem_cons_of_mem _ hk)) fun k hk => hpsn k (List.mem_cons_of_mem _ hk)
      obtain ⟨p, hp⟩ := hpsn k (List.mem_cons_self ..)
      refine ⟨.pointer (some (p.addr 0 0)) :: pv, ?_⟩
      simp only [ptrs, List.map_cons, VL]
      exact ⟨_, pv, rfl, by simp only [V]; exact ⟨p, hle _ _ (startRho_get hc hp), rfl⟩, h1⟩
  obtain ⟨pv, hpv⟩ := hptr
  unfold expEnd at he
  split at he
  · rename_i vs bs' es hx
    cases hk : (sameBoxes P es && oldConst n es) with
    | false => rw [hk] at he; simp [T.sel] at he
    | true =>
      rw [hk, cond_true] at he
      simp only [T.sel, Option.some.injEq] at he
      subst he
      simp only [Bool.and_eq_true] at hk
      obtain ⟨hk1, hk2⟩ := hk
      obtain ⟨ps', hxo⟩ := expAll_ok hs hg hx (hpv.append hv)
      refine ⟨ps', hxo.cfg, ?_, ⟨⟨hst.ext.mono fun k _ hk => hs1 k hk, ?_⟩, ?_⟩, ?_⟩
      · have hpl : pv.length = P.length := by rw [hpv.length]; simp [ptrs]
        have := hxo.vals.drop P.length
        rwa [← hpl, List.drop_left, hpl] at this
      · rintro k ⟨b, x, p, hb, ho, hp, h0, rfl⟩
        obtain ⟨e, c, y, q, e1, e2, e3, e4, e5, e6, _, e8, e9⟩ := hxo.name b x p hb hp (.inl ⟨ho, h0⟩)
        have : ownB ρ h p.block := ⟨c, y, q, e3, e8 (by rw [← e9]; exact ho), e4, e6, e5.symm⟩
        rcases hst.sub _ this with h1 | h1
        · exact .inl (hs1 _ h1)
        · exact .inr h1
      · intro k x p hb hp hl
        obtain ⟨e, c, y, q, e1, e2, e3, e4, e5, e6, e7, e8, e9⟩ := hxo.name k x p hb hp hl
        cases ho : e.blk.own with
        | true =>
          have : ownB ρ h p.block := ⟨c, y, q, e3, e8 ho, e4, e6, e5.symm⟩
          rcases hst.sub _ this with h1 | h1
          · obtain ⟨b0, x0, p0, g1, g2, g3, g4, g5⟩ := hs1 _ h1
            exact .inr ⟨b0, x0, p0, g1, g3, .inl ⟨g2, g4⟩, g5⟩
          · exact .inl h1
        | false =>
          right
          have hlp : Live p := by
            rcases hl with hl | hl
            · have := hl.1; rw [e9, ho] at this; cases this
            · exact hl
          have hcn : c < n := by
            unfold oldConst at hk2
            rw [List.all_eq_true] at hk2
            have := hk2 e (List.mem_of_getElem? e1)
            rw [ho, e2] at this
            simp only [Bool.false_or] at this
            exact lt_of_blt this
          obtain ⟨pc, hpc⟩ : ∃ pc, ps[c]? = some pc := ⟨ps[c]'(by have := hc.len; omega), List.getElem?_eq_getElem _⟩
          have hq := hle _ _ (startRho_get hc hpc)
          rw [e4] at hq
          cases hq
          exact ⟨c, bs[c]'(by omega), _, List.getElem?_eq_getElem _, hpc, .inr (e7 hlp), e5.symm⟩
      · have hsb : ∀ (P : List Nat) (es : List Ent), sameBoxes P es = true → ∀ (j : Nat) k, P[j]? = some k → ∃ e, es[j]? = some e ∧ e.box = true ∧ e.src = some k := by
          intro P
          induction P with
          | nil => intro es _ j k hj; simp at hj
          | cons z P ih =>
            intro es hsb j k hj
            cases es with
            | nil => simp [sameBoxes] at hsb
            | cons e es =>
              simp only [sameBoxes, Bool.and_eq_true] at hsb
              cases j with
              | zero =>
                simp at hj; subst hj
                refine ⟨e, rfl, hsb.1.1, ?_⟩
                have := hsb.1.2
                unfold srcIs at this
                split at this
                · rename_i c hc'; rw [hc', Nat.eq_of_beq_eq_true this]
                · cases this
              | succ j => exact ih es hsb.2 j k (by simpa using hj)
        intro j k hj
        obtain ⟨e, e1, e2, e3⟩ := hsb P es hk1 j k hj
        obtain ⟨p, x, f1, f2, f3, f4, q', f5, f6, f7⟩ := hxo.ent j e e1
        rw [f4] at f5; cases f5
        rw [e3] at f7
        obtain ⟨y, r, g1, g2, _, _, _, _, g3⟩ := f7
        have := g3.1 e2; subst this
        obtain ⟨p0, hp0⟩ := hpsn k (List.mem_of_getElem? hj)
        have := hle _ _ (startRho_get hc hp0)
        rw [g2] at this; cases this
        rw [f1, hp0]
  · simp [T.sel] at he

theorem start_sat {bs : List Blk} {ps : List Pos} (hc : CfgOk E w bs ps) {fn : Func} {vs : List AV} {cargs : List Value} (hv : VL (psRho ps) vs cargs) (h1 : vs.length ≤ fn.ntmps) :
    Sat E (startRho E ps) (startSt E fn vs bs) { tmps := cargs.toArray ++ Array.replicate (fn.ntmps - cargs.toArray.size) undef, defers := [] } w := by
  obtain ⟨hsat, hs1, hs2, hle⟩ := start_satH hc
  have hcl : cargs.length = vs.length := hv.length
  refine ⟨hsat, ⟨hc.g.laid, hc.g.size, hc.g.base, fun k hk => hc.g.own k (hs1 k hk)⟩, ?_, ?_, ?_, ?_⟩
  · simp [startSt]; omega
  · intro i
    simp only [startSt]
    rw [listT_get]
    cases hi : vs[i]? with
    | none => simp [V]
    | some a =>
      obtain ⟨v, hvv, hV⟩ := hv.get hi
      have hlt := (List.getElem?_eq_some_iff.1 hvv).1
      have : (cargs.toArray ++ Array.replicate (fn.ntmps - cargs.toArray.size) undef).getD i undef = v := by
        rw [Array.getD_eq_getD_getElem?, Array.getElem?_append_left (by simpa using hlt)]
        simp [hvv]
      rw [this]; exact V.mono hle _ _ hV
  · intro b hb
    simp only [startSt]
    cases hbb : Nat.ble globBase b with
    | true => exact .inr (Nat.le_of_ble_eq_true hbb)
    | false =>
      left
      unfold startRho at hb
      rw [hbb, cond_false] at hb
      have : b < ps.length := by
        rcases Nat.lt_or_ge b ps.length with h | h
        · exact h
        · rw [List.getElem?_eq_none h] at hb; exact (hb rfl).elim
      have := hc.len; have := hc.few
      omega
  · intro g p hp
    unfold startRho at hp
    have hbb : Nat.ble globBase (globBase + g) = true := Nat.ble_eq_true_of_le (Nat.le_add_right _ _)
    rw [hbb, cond_true] at hp
    simp only [Option.map_eq_some_iff] at hp
    obtain ⟨d, _, rfl⟩ := hp
    simp [globPos]

theorem resultsR_ok (hs : SatH ρ h w) {st : AState} (hh : st.h = h) {tmps : Array Value} (ht : ∀ i, V ρ (st.t i) (tmps.getD i undef)) : ∀ (rs : List ResultVar) (l : List AV), (resultsR E st rs).sel = some l →
    ∃ vs : List Value, (rs.mapM fun
      | .tmp t => pure (tmps.getD t undef)
      | .cell a t => do loadVar t (← asAddr (tmps.getD a undef)) : Sem (List Value)).run E.P w = .ok vs w ∧ VL ρ l vs
  | [], l, hsel => by
    simp only [resultsR, T.sel, Option.some.injEq] at hsel
    subst hsel
    exact ⟨[], by simp, by simp [VL]⟩
  | .tmp t :: r, l, hsel => by
    unfold resultsR at hsel
    obtain ⟨l', h1, h2⟩ := T.bind_sel _ _ _ hsel
    simp only [T.sel, Option.some.injEq] at h2
    subst h2
    obtain ⟨vs, hr, hv⟩ := resultsR_ok hs hh ht r l' h1
    refine ⟨tmps.getD t undef :: vs, ?_, ?_⟩
    · rw [List.mapM_cons]
      simp only [Sem.run_bind, Sem.run_pure, Result.andThen_ok, hr]
    · simp only [VL]; exact ⟨_, vs, rfl, ht t, hv⟩
  | .cell a t :: r, l, hsel => by
    unfold resultsR at hsel
    obtain ⟨⟨v, W⟩, h0, h1'⟩ := T.bind_sel _ _ _ hsel
    obtain ⟨l', h1, h2⟩ := T.bind_sel _ _ _ h1'
    simp only [T.sel, Option.some.injEq] at h2
    subst h2
    obtain ⟨vs, hr, hv⟩ := resultsR_ok hs hh ht r l' h1
    rw [hh] at h0
    obtain ⟨_, cv, hcv, hV⟩ := loadR_pure hs t _ (ht a) v W h0
    refine ⟨cv :: vs, ?_, ?_⟩
    · rw [List.mapM_cons]
      have : (do loadVar t (← asAddr (tmps.getD a undef)) : Sem Value).run E.P w = .ok cv w := by
        have hVa := ht a
        unfold loadR at h0
        split at h0
        · rename_i b i j he
          rw [he] at hVa
          simp only [V] at hVa
          obtain ⟨p, _, hpa⟩ := hVa
          rw [hpa] at hcv ⊢
          simpa [asAddr, Instr.loadAt, Instr.sureAddr] using hcv
        · simp [T.sel] at h0
      simp only [Sem.run_bind] at this ⊢
      simp only [this, Result.andThen_ok, Sem.run_pure, hr]
    · simp only [VL]; exact ⟨_, vs, rfl, hV, hv⟩
theorem oneOrTup_V {xs : List AV} {vs : List Value} (hv : VL ρ xs vs) : V ρ (oneOrTup xs) (if h : vs.toArray.size = 1 then vs.toArray[0] else .tuple vs.toArray) := by
  cases xs with
  | nil => simp only [VL] at hv; subst hv; simp [oneOrTup, V, VL]
  | cons x r =>
    cases r with
    | nil =>
      simp only [VL] at hv
      obtain ⟨v, us, rfl, h1, rfl⟩ := hv
      simpa [oneOrTup] using h1
    | cons y r =>
      have h' := hv
      simp only [VL] at hv
      obtain ⟨v, us, rfl, h1, v2, us2, rfl, h3, h4⟩ := hv
      simp only [oneOrTup, V]
      exact ⟨(v :: v2 :: us2).toArray, by simp, by simpa using h'⟩

/-- a function by its text -/
theorem fnRun_ok {C : CallR} {L : LoopR} {f : FuncId} {fn : Func} {c : Code} (hat : FnAt E.P f fn c) (hC : CG E C) (hL : LoopsOk E L c) {s : FSpec}
    (hspec : ∀ vs bs r, (s vs bs).sel = some r → (fnRun E C L fn c vs bs).sel = some r) : FnOk E f s := by
  refine ⟨⟨fn, c, hat⟩, fun vs bs out hsel w cargs ps hcfg hv => ?_⟩
  have hrun := hspec vs bs out hsel
  unfold fnRun at hrun
  cases hc : (Nat.ble vs.length fn.ntmps && Nat.ble bs.length 1000) with
  | false => simp [hc, T.sel] at hrun
  | true =>
    simp only [hc, cond_true] at hrun
    simp only [Bool.and_eq_true] at hc
    have hsat := start_sat hcfg (fn := fn) hv (Nat.le_of_ble_eq_true hc.1)
    obtain ⟨⟨e, st'⟩, h1, h2⟩ := T.bind_sel _ _ _ hrun
    have hcs := run_ok hC c hL _ e st' h1
    refine calls_of_wp hat.func hat.body (hcs _ _ w hsat _ fun ρ' a' w' hs' hst hle hkd => ?_)
    have key : a'.defers = [] ∧ ∃ v, (results fn a'.tmps).run E.P w' = .ok v w' ∧ ∃ cv ps', Ending.returned v = .returned cv ∧ CfgOk E w' out.blks ps' ∧ V (psRho ps') (oneOrTup out.vals) cv ∧ Mv w bs ps w' out.blks ps' ∧ ∀ (j : Nat) k, (pers vs bs)[j]? = some k → ps'[j]? = ps[k]? := by
      unfold endR at h2
      have h3 : ((resultsR E st' fn.results.toList).bind fun l => expEnd E st'.h bs.length (pers vs bs) fn.resultTypes.toList l).sel = some out := by
        cases e with
        | exit id => simp [T.sel] at h2
        | normal => exact h2
        | ret => exact h2
      obtain ⟨l, h4, h5⟩ := T.bind_sel _ _ _ h3
      obtain ⟨cvs, h6, h7⟩ := resultsR_ok hs'.h rfl hs'.t _ l h4
      obtain ⟨ps', g1, g2, g3, g4⟩ := expEnd_ok hcfg rfl (fun k hk => pers_mem hk) hs'.h hs'.g hle hst h5 h7
      refine ⟨hkd.d, (if h : cvs.toArray.size = 1 then cvs.toArray[0] else .tuple cvs.toArray), ?_, _, ps', rfl, g1, oneOrTup_V g2, g3, g4⟩
      unfold results
      rw [Array.mapM_eq_mapM_toList, map_eq_pure_bind]
      simp only [Sem.run_bind, Sem.run_pure]
      exact congrArg (fun r : Result (List Value) => (r.andThen fun a w' => Result.ok a.toArray w').andThen fun a w' => Result.ok (if h : a.size = 1 then a[0] else Value.tuple a) w') h6
    cases e with
    | exit id => simp [endR, T.sel] at h2
    | normal => exact key
    | ret => exact key
end
end Go.Am
