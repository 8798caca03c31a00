/-
  AM3: loops by contract.
-/
import Derived.Test.YthfieonkfailkaaAmFnR
import Derived.LoopN
namespace Go.Am

theorem Mv.trans {w1 w2 w3 : World} {b1 b2 b3 : List Blk} {p1 p2 p3 : List Pos} (h : Mv w1 b1 p1 w2 b2 p2) (h' : Mv w2 b2 p2 w3 b3 p3) : Mv w1 b1 p1 w3 b3 p3 where
  stp := h.stp.trans h'.stp
  src k x p hk hp hl := by
    rcases h'.src k x p hk hp hl with h1 | ⟨k0, x0, p0, h1, h2, h3, h4⟩
    · exact .inl (Nat.le_trans h.stp.ext.size h1)
    · rcases h.src k0 x0 p0 h1 h2 h3 with h5 | ⟨k1, x1, q1, h5, h6, h7, h8⟩
      · exact .inl (by rw [← h4]; exact h5)
      · exact .inr ⟨k1, x1, q1, h5, h6, h7, h8.trans h4⟩

section
variable {E : Env} {C : CallR} {L : LoopR} {ρ : Rho} {h : Heap} {w w' : World}

def slotVs (a : Act) (l : List (Nat × TypeId)) : List Value := l.map fun p => a.tmps.getD p.1 undef
theorem slot_VL {t : Nat → AV} {a : Act} (ht : ∀ i, V ρ (t i) (a.tmps.getD i undef)) : ∀ l : List (Nat × TypeId), VL ρ (l.map fun p => t p.1) (slotVs a l)
  | [] => by simp [slotVs, VL]
  | p :: l => by
    simp only [slotVs, List.map_cons, VL]
    exact ⟨_, _, rfl, ht p.1, slot_VL ht l⟩
theorem putAll_V {a : Act} : ∀ (l : List (Nat × TypeId)) (as : List AV) (t : Nat → AV), (∀ i, V ρ (t i) (a.tmps.getD i undef)) → VL ρ as (slotVs a l) → ∀ i, V ρ (putAll l as t i) (a.tmps.getD i undef)
  | [], as, t, ht, _, i => by cases as <;> exact ht i
  | p :: l, [], t, ht, hv, i => by simp [slotVs, VL] at hv
  | p :: l, b :: as, t, ht, hv, i => by
    simp only [slotVs, List.map_cons, VL] at hv
    obtain ⟨v, r, e, h1, h2⟩ := hv
    cases e
    simp only [putAll]
    refine putAll_V l as _ (fun j => ?_) h2 i
    by_cases e : j = p.1
    · subst e; rw [updF_same]; exact h1
    · rw [updF_other _ _ _ e]; exact ht j

/-- what is told between two turns -/
theorem expTurn_ok {n : Nat} {P : List Nat} {bs : List Blk} {ps : List Pos} (hc : CfgOk E w bs ps) (hn : n = bs.length) (hP : ∀ k ∈ P, ∃ x, bs[k]? = some x ∧ x.own = true)
    (hs : SatH ρ h w') (hg : GOk E (ownB ρ h) w') (hle : (startRho E ps).le ρ) (hst : Stp (ownB (startRho E ps) (startH E bs)) (ownB ρ h) w w') {take : List Nat} {ts : List TypeId} {l : List AV} {out : Out} (he : (expTurn E h n P take ts l).sel = some out) {cvs : List Value} (hv : VL ρ l cvs) :
    ∃ ps', CfgOk E w' out.blks ps' ∧ VL (psRho ps') out.vals cvs ∧ Mv w bs ps w' out.blks ps' ∧ P.length = (pers out.vals out.blks).length ∧ ∀ (j : Nat) k k', P[j]? = some k → (pers out.vals out.blks)[j]? = some k' → ps'[k']? = ps[k]? := by
  obtain ⟨_, hs1, hs2, hle0⟩ := start_satH hc
  have hpsn : ∀ k ∈ P, ∃ p, ps[k]? = some p := fun k hk => by
    obtain ⟨x, hx, _⟩ := hP k hk
    have := (List.getElem?_eq_some_iff.1 hx).1
    exact ⟨ps[k]'(by have := hc.len; omega), List.getElem?_eq_getElem _⟩
  unfold expTurn at he
  split at he
  · rename_i vs bs' es hx
    cases hk : (srcList P (pers vs bs') es && oldConst n es) with
    | false => rw [hk] at he; simp [T.sel] at he
    | true =>
      rw [hk, cond_true] at he
      simp only [T.sel, Option.some.injEq] at he
      subst he
      simp only [Bool.and_eq_true] at hk
      obtain ⟨hk1, hk2⟩ := hk
      obtain ⟨ps', hxo⟩ := expAll_ok hs hg hx hv
      have hsl : ∀ (P P' : List Nat), srcList P P' es = true → P.length = P'.length ∧ ∀ (j : Nat) k k', P[j]? = some k → P'[j]? = some k' → ∃ e, es[k']? = some e ∧ e.box = true ∧ e.src = some k := by
        intro P
        induction P with
        | nil =>
          intro P' h
          cases P' with
          | nil => exact ⟨rfl, fun j k k' hj => by simp at hj⟩
          | cons => simp [srcList] at h
        | cons z P ih =>
          intro P' h
          cases P' with
          | nil => simp [srcList] at h
          | cons z' P' =>
            simp only [srcList, Bool.and_eq_true] at h
            obtain ⟨h1, h2⟩ := ih P' h.2
            refine ⟨by simp [h1], fun j k k' hj hj' => ?_⟩
            cases j with
            | zero =>
              simp at hj hj'; subst hj; subst hj'
              have := h.1
              split at this
              · rename_i e he
                simp only [Bool.and_eq_true] at this
                refine ⟨e, he, this.1, ?_⟩
                have := this.2
                unfold srcIs at this
                split at this
                · rename_i c hc'; rw [hc', Nat.eq_of_beq_eq_true this]
                · cases this
              · cases this
            | succ j => exact h2 j k k' (by simpa using hj) (by simpa using hj')
      obtain ⟨hlen, hget⟩ := hsl _ _ hk1
      refine ⟨ps', hxo.cfg, hxo.vals, ⟨⟨hst.ext.mono fun k _ hk => hs1 k hk, ?_⟩, ?_⟩, hlen, ?_⟩
      · rintro k ⟨b, x, p, hb, ho, hp, h0, rfl⟩
        obtain ⟨e, c, y, q, e1, e2, e3, e4, e5, e6, _, e8, e9⟩ := hxo.name b x p hb hp (.inl ⟨ho, h0⟩)
        have : ownB ρ h p.block := ⟨c, y, q, e3, e8 (by rw [← e9]; exact ho), e4, e6, e5.symm⟩
        rcases hst.sub _ this with h1 | h1
        · exact .inl (hs1 _ h1)
        · exact .inr h1
      · intro k x p hb hp hl
        obtain ⟨e, c, y, q, e1, e2, e3, e4, e5, e6, e7, e8, e9⟩ := hxo.name k x p hb hp hl
        cases ho : e.blk.own with
        | true =>
          have : ownB ρ h p.block := ⟨c, y, q, e3, e8 ho, e4, e6, e5.symm⟩
          rcases hst.sub _ this with h1 | h1
          · obtain ⟨b0, x0, p0, g1, g2, g3, g4, g5⟩ := hs1 _ h1
            exact .inr ⟨b0, x0, p0, g1, g3, .inl ⟨g2, g4⟩, g5⟩
          · exact .inl h1
        | false =>
          right
          have hlp : Live p := by
            rcases hl with hl | hl
            · have := hl.1; rw [e9, ho] at this; cases this
            · exact hl
          have hcn : c < n := by
            unfold oldConst at hk2
            rw [List.all_eq_true] at hk2
            have := hk2 e (List.mem_of_getElem? e1)
            rw [ho, e2] at this
            simp only [Bool.false_or] at this
            exact lt_of_blt this
          obtain ⟨pc, hpc⟩ : ∃ pc, ps[c]? = some pc := ⟨ps[c]'(by have := hc.len; omega), List.getElem?_eq_getElem _⟩
          have hq := hle _ _ (startRho_get hc hpc)
          rw [e4] at hq
          cases hq
          exact ⟨c, bs[c]'(by omega), _, List.getElem?_eq_getElem _, hpc, .inr (e7 hlp), e5.symm⟩
      · intro j k k' hj hj'
        obtain ⟨e, e1, e2, e3⟩ := hget j k k' hj hj'
        obtain ⟨p, x, f1, f2, f3, f4, q', f5, f6, f7⟩ := hxo.ent k' e e1
        rw [f4] at f5; cases f5
        rw [e3] at f7
        obtain ⟨y, r, g1, g2, _, _, _, _, g3⟩ := f7
        have := g3.1 e2; subst this
        obtain ⟨p0, hp0⟩ := hpsn k (List.mem_of_getElem? hj)
        have := hle _ _ (startRho_get hc hp0)
        rw [g2] at this; cases this
        rw [f1, hp0]
  · simp [T.sel] at he

theorem loop_sat {bs : List Blk} {ps : List Pos} (hc : CfgOk E w bs ps) {n : Nat} {sg : LSig} {vs : List AV} {a : Act} (hn : a.tmps.size = n) (hv : VL (psRho ps) vs (slotVs a (sg.cs ++ sg.mv))) :
    Sat E (startRho E ps) (loopSt E n sg vs bs) a w := by
  have hsat0 := start_sat hc (fn := { (default : Func) with ntmps := 0 }) (vs := []) (cargs := []) (by simp [VL]) (Nat.le_refl _)
  obtain ⟨hsat, hs1, hs2, hle⟩ := start_satH hc
  exact ⟨hsat, hsat0.g, hn, putAll_V _ _ _ (fun i => by simp [V]) (VL.mono hle _ _ hv), hsat0.dom, hsat0.glob⟩

def toSlots (sg : LSig) : AExit → List (Nat × TypeId)
  | .normal => sg.cs ++ sg.mv
  | _ => sg.mo
def SameB (e : AExit) (vs : List AV) (bs : List Blk) (ps : List Pos) (o : Out) (ps' : List Pos) : Prop :=
  match e with
  | .normal => (pers vs bs).length = (pers o.vals o.blks).length ∧ ∀ (j : Nat) k k', (pers vs bs)[j]? = some k → (pers o.vals o.blks)[j]? = some k' → ps'[k']? = ps[k]?
  | _ => ∀ (j : Nat) k, (pers vs bs)[j]? = some k → ps'[j]? = ps[k]?
/-- one turn, or many -/
def DSem (E : Env) (n : Nat) (sg : LSig) (body : Code) (W : (Exit → Act → World → Prop) → Act → World → Prop) (vs : List AV) (bs : List Blk) (e : AExit) (o : Out) : Prop :=
  ∀ (a : Act) (w : World) (ps : List Pos), a.tmps.size = n → CfgOk E w bs ps → VL (psRho ps) vs (slotVs a (sg.cs ++ sg.mv)) → ∀ (Q : Exit → Act → World → Prop),
    (∀ a' w' ps', a'.tmps.size = n → CfgOk E w' o.blks ps' → VL (psRho ps') o.vals (slotVs a' (toSlots sg e)) → Mv w bs ps w' o.blks ps' → SameB e vs bs ps o ps' → Keeps (writes body) a a' → Q (toExit e) a' w') → W Q a w

theorem turn_ok (hC : CG E C) {body : Code} (hL : LoopsOk E L body) {n : Nat} {sg : LSig} {vs : List AV} {bs : List Blk} {e : AExit} {o : Out} (h : (turn E C L n sg body vs bs).sel = some (e, o)) :
    DSem E n sg body (fun Q a w => body.wp E.P Q a w) vs bs e o := by
  unfold turn at h
  cases hc : (Nat.ble bs.length 1000 && Nat.beq vs.length (sg.cs ++ sg.mv).length) with
  | false => rw [hc] at h; simp [T.sel] at h
  | true =>
    rw [hc, cond_true] at h
    obtain ⟨⟨e1, st1⟩, h1, h2⟩ := T.bind_sel _ _ _ h
    intro a w ps hn hcfg hv Q hQ
    have hsat := loop_sat hcfg hn hv
    refine run_ok hC body hL _ e1 st1 h1 _ a w hsat Q fun ρ' a' w' hs' hst hle hk => ?_
    have hend : ∀ {e2 : AExit} {o2 : Out}, e2 ≠ .normal → ((expEnd E st1.h bs.length (pers vs bs) (slotTys sg.mo) (slotAVs st1 sg.mo)).bind fun o => T.leaf (e2, o)).sel = some (e, o) → e1 = e2 → Q (toExit e1) a' w' := by
      intro e2 o2 hne hsel heq
      obtain ⟨o3, h3, h4⟩ := T.bind_sel _ _ _ hsel
      simp only [T.sel, Option.some.injEq, Prod.mk.injEq] at h4
      obtain ⟨rfl, rfl⟩ := h4
      subst heq
      obtain ⟨ps', g1, g2, g3, g4⟩ := expEnd_ok hcfg rfl (fun k hk => pers_mem hk) hs'.h hs'.g hle hst h3 (slot_VL hs'.t sg.mo)
      refine hQ a' w' ps' (hk.size.trans hn) g1 ?_ g3 ?_ hk
      · cases e1 <;> first | exact (hne rfl).elim | exact g2
      · cases e1 <;> first | exact (hne rfl).elim | exact g4
    cases e1 with
    | normal =>
      simp only at h2
      obtain ⟨o3, h3, h4⟩ := T.bind_sel _ _ _ h2
      simp only [T.sel, Option.some.injEq, Prod.mk.injEq] at h4
      obtain ⟨rfl, rfl⟩ := h4
      obtain ⟨ps', g1, g2, g3, g4, g5⟩ := expTurn_ok hcfg rfl (fun k hk => pers_mem hk) hs'.h hs'.g hle hst h3 (slot_VL hs'.t (sg.cs ++ sg.mv))
      exact hQ a' w' ps' (hk.size.trans hn) g1 g2 g3 ⟨g4, g5⟩ hk
    | exit id => exact hend (o2 := o) (by simp) h2 rfl
    | ret => exact hend (o2 := o) (by simp) h2 rfl
theorem SameB.trans {e : AExit} {vs vs1 : List AV} {bs bs1 : List Blk} {ps ps1 ps2 : List Pos} {o : Out} (h : SameB .normal vs bs ps ⟨vs1, bs1⟩ ps1) (h' : SameB e vs1 bs1 ps1 o ps2) : SameB e vs bs ps o ps2 := by
  obtain ⟨hl, hg⟩ := h
  have mid : ∀ (j : Nat) k, (pers vs bs)[j]? = some k → ∃ k1, (pers vs1 bs1)[j]? = some k1 ∧ ps1[k1]? = ps[k]? := fun j k hj => by
    have := (List.getElem?_eq_some_iff.1 hj).1
    have h1 : (pers vs1 bs1)[j]? = some ((pers vs1 bs1)[j]'(by simp only at hl; omega)) := List.getElem?_eq_getElem _
    exact ⟨_, h1, hg j k _ hj h1⟩
  cases e with
  | normal =>
    refine ⟨hl.trans h'.1, fun j k k' hj hj' => ?_⟩
    obtain ⟨k1, h1, h2⟩ := mid j k hj
    rw [h'.2 j k1 k' h1 hj', h2]
  | exit id =>
    intro j k hj
    obtain ⟨k1, h1, h2⟩ := mid j k hj
    rw [h' j k1 h1, h2]
  | ret =>
    intro j k hj
    obtain ⟨k1, h1, h2⟩ := mid j k hj
    rw [h' j k1 h1, h2]
/-- many turns -/
theorem turns_ok (hC : CG E C) {body : Code} (hL : LoopsOk E L body) {n : Nat} {sg : LSig} : ∀ (k : Nat) {vs : List AV} {bs : List Blk} {e : AExit} {o : Out}, (turns E C L n sg body k vs bs).sel = some (e, o) → e ≠ .normal ∧
    DSem E n sg body (fun Q a w => Code.rounds E.P body Q k a w) vs bs e o
  | 0, _, _, _, _, h => by simp [turns, T.sel] at h
  | k + 1, vs, bs, e, o, h => by
    unfold turns at h
    obtain ⟨⟨e1, o1⟩, h1, h2⟩ := T.bind_sel _ _ _ h
    have ht := turn_ok hC hL h1
    cases e1 with
    | normal =>
      simp only at h2
      obtain ⟨h3, h4⟩ := turns_ok hC hL k h2
      refine ⟨h3, fun a w ps hn hc hv Q hQ => ?_⟩
      show Code.rounds E.P body Q (k + 1) a w
      rw [rounds_succ]
      refine ht a w ps hn hc hv _ fun a1 w1 ps1 hn1 hc1 hv1 hm1 hb1 hk1 => ?_
      show Code.rounds E.P body Q k a1 w1
      exact h4 a1 w1 ps1 hn1 hc1 hv1 Q fun a2 w2 ps2 hn2 hc2 hv2 hm2 hb2 hk2 => hQ a2 w2 ps2 hn2 hc2 hv2 (hm1.trans hm2) (hb1.trans hb2) ((hk1.trans hk2).mono fun i hi => (List.mem_append.1 hi).elim (fun h => h) fun h => h)
    | exit id =>
      simp only [T.sel, Option.some.injEq, Prod.mk.injEq] at h2
      obtain ⟨rfl, rfl⟩ := h2
      refine ⟨by simp, fun a w ps hn hc hv Q hQ => ?_⟩
      show Code.rounds E.P body Q (k + 1) a w
      rw [rounds_succ]
      exact ht a w ps hn hc hv _ fun a1 w1 ps1 hn1 hc1 hv1 hm1 hb1 hk1 => hQ a1 w1 ps1 hn1 hc1 hv1 hm1 hb1 hk1
    | ret =>
      simp only [T.sel, Option.some.injEq, Prod.mk.injEq] at h2
      obtain ⟨rfl, rfl⟩ := h2
      refine ⟨by simp, fun a w ps hn hc hv Q hQ => ?_⟩
      show Code.rounds E.P body Q (k + 1) a w
      rw [rounds_succ]
      exact ht a w ps hn hc hv _ fun a1 w1 ps1 hn1 hc1 hv1 hm1 hb1 hk1 => hQ a1 w1 ps1 hn1 hc1 hv1 hm1 hb1 hk1
/-- what is known of a loop -/
def LoopOk (E : Env) (n : Nat) (sg : LSig) (body : Code) (s : LSpec) : Prop :=
  ∀ vs bs e o, (s vs bs).sel = some (e, o) → e ≠ .normal ∧ DSem E n sg body (fun Q a w => (Code.loop body).wp E.P Q a w) vs bs e o
theorem loop_turns (hC : CG E C) {body : Code} (hL : LoopsOk E L body) {n : Nat} {sg : LSig} {s : LSpec}
    (hs : ∀ vs bs e o, (s vs bs).sel = some (e, o) → ∃ k, (turns E C L n sg body k vs bs).sel = some (e, o)) : LoopOk E n sg body s := by
  intro vs bs e o h
  obtain ⟨k, hk⟩ := hs vs bs e o h
  obtain ⟨h1, h2⟩ := turns_ok hC hL k hk
  exact ⟨h1, fun a w ps hn hc hv Q hQ => wp_loop_rounds k (h2 a w ps hn hc hv Q hQ)⟩

theorem anyOn_V {a a' : Act} {D : List Nat} (hk : Keeps D a a') {t : Nat → AV} (ht : ∀ i, V ρ (t i) (a.tmps.getD i undef)) (i : Nat) : V ρ (anyOn D t i) (a'.tmps.getD i undef) := by
  unfold anyOn
  cases hi : D.any (Nat.beq i) with
  | true => simp [V]
  | false =>
    rw [cond_false, hk.at' i fun hm => ?_]
    · exact ht i
    · rw [List.any_eq_false] at hi
      exact hi i hm (Nat.beq_refl i)

/-- a loop, met -/
theorem useL_ok {sg : LSig} {body : Code} {s : LSpec} {st st' : AState} {e : AExit} (hl : LoopOk E st.n sg body s) (h : (useL E sg s (writes body) st).sel = some (e, st')) : CSem E (.loop body) st e st' := by
  intro ρ a w hsat Q hQ
  unfold useL at h
  split at h
  rotate_left
  · simp [T.sel] at h
  rename_i vs bs es hx
  cases hτ : Nat.blt st.τ 1000000 with
  | false => rw [hτ] at h; simp [T.sel] at h
  | true =>
    rw [hτ, cond_true] at h
    have hτ : st.τ < 1000000 := lt_of_blt hτ
    obtain ⟨⟨e1, o⟩, h1, h2⟩ := T.bind_sel _ _ _ h
    simp only at h2
    cases hc : (Nat.ble o.blks.length 64 && persOk es (pers vs bs)) with
    | false => rw [hc] at h2; simp [T.sel] at h2
    | true =>
      rw [hc, cond_true] at h2
      simp only [T.sel, Option.some.injEq, Prod.mk.injEq] at h2
      obtain ⟨rfl, rfl⟩ := h2
      simp only [Bool.and_eq_true] at hc
      obtain ⟨ps, hxo⟩ := expAll_ok hsat.h hsat.g hx (slot_VL hsat.t (sg.cs ++ sg.mv))
      obtain ⟨hne, hsem⟩ := hl vs bs e1 o h1
      refine hsem a w ps hsat.size hxo.cfg hxo.vals Q fun a' w' ps' hn' hcfg hv' hmv hsame hk => ?_
      have hslots : toSlots sg e1 = sg.mo := by cases e1; exact (hne rfl).elim; rfl; rfl
      rw [hslots] at hv'
      have hsame' : ∀ (j : Nat) k, (pers vs bs)[j]? = some k → ps'[j]? = ps[k]? := by cases e1; exact (hne rfl).elim; exact hsame; exact hsame
      have hid : ∀ b, st.τ * 262144 ≤ b → b < st.τ * 262144 + 64 → ρ b = none := by
        intro b hb1 hb2
        cases hρ : ρ b with
        | none => rfl
        | some p =>
          exfalso
          rcases hsat.dom b (by rw [hρ]; simp) with h | h
          · omega
          · simp only [globBase] at h; omega
      obtain ⟨ρ', g1, g2, g3, g4, g5⟩ := import_ok (id := st.τ * 262144) (m := 64) hsat.h hxo hc.2 hcfg hmv hsame' hid (Nat.le_of_ble_eq_true hc.1)
      refine hQ ρ' a' w' ⟨g2, hsat.g.step g3, hn', ?_, ?_, ?_⟩ g3 g1 hk
      · refine putAll_V _ _ _ (anyOn_V hk fun i => V.mono g1 _ _ (hsat.t i)) ?_
        have key : ∀ (f : Nat → Nat), (∀ a v, V (psRho ps') a v → V ρ' (renA f a) v) → ∀ (as : List AV) (vs : List Value), VL (psRho ps') as vs → VL ρ' (renL f as) vs := by
          intro f hf as
          induction as with
          | nil => intro vs hv; simpa only [renL, VL] using hv
          | cons a as ih =>
            intro vs hv
            simp only [renL, VL] at hv ⊢
            obtain ⟨v, r, e, h1, h2⟩ := hv
            exact ⟨v, r, e, hf _ _ h1, ih _ h2⟩
        exact key _ g5 _ _ hv'
      · intro b hb
        cases hρ : ρ b with
        | none =>
          have := g4 b hb hρ
          left
          simp only
          rw [Nat.add_mul, Nat.one_mul]; omega
        | some p =>
          rcases hsat.dom b (by rw [hρ]; simp) with h | h
          · exact .inl (dom_le h)
          · exact .inr h
      · intro g p hp
        cases hρ : ρ (globBase + g) with
        | none =>
          have := g4 (globBase + g) (by rw [hp]; simp) hρ
          simp only [globBase] at this; omega
        | some q =>
          have := g1 _ _ hρ
          rw [hp] at this; cases this
          exact hsat.glob g p hρ
end
end Go.Am
