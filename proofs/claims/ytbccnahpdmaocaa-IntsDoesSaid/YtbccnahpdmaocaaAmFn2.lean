/-
  AM: a function by its text keeps its contract.
-/
import Derived.Test.YtbccnahpdmaocaaAmFn
namespace Go.Am
section
variable {E : Env} {ρ : Rho} {h : Heap} {w : World}

theorem ownAll_get : ∀ {bs : List Nat}, ownAll h bs = true → ∀ b ∈ bs, ∃ x, h b = some x ∧ x.own = true
  | [], _, b, hb => by cases hb
  | c :: r, ho, b, hb => by
    simp only [ownAll, Bool.and_eq_true] at ho
    rcases List.mem_cons.1 hb with rfl | hb
    · cases hx : h b with
      | none => rw [hx] at ho; simp at ho
      | some x => rw [hx] at ho; exact ⟨x, rfl, ho.1⟩
    · exact ownAll_get ho.2 b hb
theorem nodupB_pw : ∀ {bs : List Nat}, nodupB bs = true → bs.Pairwise (· ≠ ·)
  | [], _ => .nil
  | c :: r, h => by
    simp only [nodupB, Bool.and_eq_true, Bool.not_eq_true', List.any_eq_false] at h
    refine .cons (fun b hb e => ?_) (nodupB_pw h.2)
    have := h.1 b hb
    simp [e] at this

/-- the places of a told value whose blocks are the state's own, and all different -/
theorem leads_own (hs : SatH ρ h w) : ∀ {ps : List Pos} {bs : List Nat}, Leads ρ ps bs → ownAll h bs = true → nodupB bs = true → ∀ base, (∀ k, ownB ρ h k → base ≤ k) → OwnPs base w ps := by
  intro ps bs ⟨qs, e1, e2, hq⟩ ho hn base hb
  subst e1; subst e2
  have one : ∀ x ∈ qs, 0 < x.1.cap → ∃ b p y, x.2 = some b ∧ ρ b = some p ∧ Win p x.1 ∧ h b = some y ∧ y.own = true ∧ 0 < p.cap := by
    intro x hx h0
    rcases hq x hx with ⟨_, h1⟩ | ⟨b, p, h1, h2, h3⟩
    · omega
    · obtain ⟨y, hy, hy2⟩ := ownAll_get ho b (List.mem_filterMap.2 ⟨x, hx, h1⟩)
      exact ⟨b, p, y, h1, h2, h3, hy, hy2, Nat.lt_of_lt_of_le h0 h3.cap⟩
  refine ⟨fun q hq' h0 => ?_, ?_⟩
  · obtain ⟨x, hx, rfl⟩ := List.mem_map.1 hq'
    obtain ⟨b, p, y, h1, h2, h3, h4, h5, h6⟩ := one x hx h0
    obtain ⟨cs, e, hcs, hsz⟩ := hs.own b y p h4 h5 h2 h6
    refine ⟨?_, cs, e, by rw [h3.block]; exact hcs, Nat.le_trans h3.room hsz⟩
    rw [h3.block]
    exact hb _ ⟨b, y, p, h4, h5, h2, h6, rfl⟩
  · rw [List.pairwise_map]
    have hpw := nodupB_pw hn
    rw [List.pairwise_filterMap] at hpw
    refine hpw.imp_of_mem fun {x y} hx hy hne h0 h0' => ?_
    obtain ⟨b, p, u, h1, h2, h3, h4, h5, h6⟩ := one x hx h0
    obtain ⟨b', p', u', g1, g2, g3, g4, g5, g6⟩ := one y hy h0'
    rw [h3.block, g3.block]
    exact hs.apart b u p b' u' p' h4 h5 h2 h6 g4 g2 (hne b h1 b' g1) (.inl ⟨g5, g6⟩)

theorem resultsR_ok (hs : SatH ρ h w) {st : AState} (hh : st.h = h) {tmps : Array Value} (ht : ∀ i, V ρ (st.t i) (tmps.getD i undef)) : ∀ (rs : List ResultVar) (l : List AV), (resultsR E st rs).sel = some l →
    ∃ vs : List Value, (rs.mapM fun
      | .tmp t => pure (tmps.getD t undef)
      | .cell a t => do loadVar t (← asAddr (tmps.getD a undef)) : Sem (List Value)).run E.P w = .ok vs w ∧ VL ρ l vs
  | [], l, hsel => by
    simp only [resultsR, T.sel, Option.some.injEq] at hsel
    subst hsel
    exact ⟨[], by simp, by simp [VL]⟩
  | .tmp t :: r, l, hsel => by
    unfold resultsR at hsel
    obtain ⟨l', h1, h2⟩ := T.bind_sel _ _ _ hsel
    simp only [T.sel, Option.some.injEq] at h2
    subst h2
    obtain ⟨vs, hr, hv⟩ := resultsR_ok hs hh ht r l' h1
    refine ⟨tmps.getD t undef :: vs, ?_, ?_⟩
    · rw [List.mapM_cons]
      simp only [Sem.run_bind, Sem.run_pure, Result.andThen_ok, hr]
    · simp only [VL]; exact ⟨_, vs, rfl, ht t, hv⟩
  | .cell a t :: r, l, hsel => by
    unfold resultsR at hsel
    obtain ⟨⟨v, W⟩, h0, h1'⟩ := T.bind_sel _ _ _ hsel
    obtain ⟨l', h1, h2⟩ := T.bind_sel _ _ _ h1'
    simp only [T.sel, Option.some.injEq] at h2
    subst h2
    obtain ⟨vs, hr, hv⟩ := resultsR_ok hs hh ht r l' h1
    rw [hh] at h0
    obtain ⟨_, cv, hcv, hV⟩ := loadR_pure hs t _ (ht a) v W h0
    refine ⟨cv :: vs, ?_, ?_⟩
    · rw [List.mapM_cons]
      have : (do loadVar t (← asAddr (tmps.getD a undef)) : Sem Value).run E.P w = .ok cv w := by
        have hVa := ht a
        unfold loadR at h0
        split at h0
        · rename_i b i j he
          rw [he] at hVa
          simp only [V] at hVa
          obtain ⟨p, _, hpa⟩ := hVa
          rw [hpa] at hcv ⊢
          simpa [asAddr, Instr.loadAt, Instr.sureAddr] using hcv
        · simp [T.sel] at h0
      simp only [Sem.run_bind] at this ⊢
      simp only [this, Result.andThen_ok, Sem.run_pure, hr]
    · simp only [VL]; exact ⟨_, vs, rfl, hV, hv⟩

/-- where the told values of a call lie -/
def startRho (E : Env) (ps : List Pos) : Rho := fun b =>
  bif Nat.ble globBase b then (E.glob (b - globBase)).map (globPos (b - globBase)) else ps[b]?
theorem RdDs.get {ds : List Dat} {ps : List Pos} (h : RdDs w ds ps) : ∀ (i : Nat) (d : Dat), ds[i]? = some d → ∃ p, ps[i]? = some p ∧ RdD w d p := by
  induction ds generalizing ps with
  | nil => intro i d e; simp at e
  | cons c r ih =>
    intro i d e
    obtain ⟨p, q, rfl, h1, h2⟩ := h
    cases i with
    | zero => simp at e; subst e; exact ⟨p, rfl, h1⟩
    | succ i => simp at e; simpa using ih h2 i d e

theorem listT_get : ∀ (l : List AV) (i : Nat), listT l i = (l[i]?).getD .any
  | [], i => by simp [listT]
  | v :: r, 0 => by simp [listT]
  | v :: r, i + 1 => by simp [listT, listT_get r i]

theorem start_sat (hg : GOk E (fun _ => False) w) {fn : Func} {ras : List RA} {cargs : List Value} {ps : List Pos} (hr : RdAs w ras cargs ps) (h1 : (impAs 0 ras).1.length ≤ fn.ntmps) (h2 : (impAs 0 ras).2.length ≤ 1000) :
    Sat E (startRho E ps) (startSt E fn ras) { tmps := cargs.toArray ++ Array.replicate (fn.ntmps - cargs.toArray.size) undef, defers := [] } w ∧ ∀ k, ¬ ownB (startRho E ps) (startSt E fn ras).h k := by
  obtain ⟨hd, hv⟩ := impAs_V hr 0
  have hlen : ps.length ≤ 1000 := by rw [hd.length]; exact h2
  have hnm : Named (startRho E ps) 0 ps := by
    intro k p hk
    have hk' := (List.getElem?_eq_some_iff.1 hk).1
    unfold startRho
    have : Nat.ble globBase (0 + k) = false := by
      cases hb : Nat.ble globBase (0 + k) with
      | false => rfl
      | true => have := Nat.le_of_ble_eq_true hb; simp only [globBase] at this; omega
    rw [this, cond_false, Nat.zero_add]; exact hk
  have hVL := hv _ hnm
  have hcl : cargs.length = (impAs 0 ras).1.length := hVL.length
  have hown : ∀ b x, startH E (impAs 0 ras).2 b = some x → x.own = false ∧ ∃ p, startRho E ps b = some p ∧ RdD w x.dat p := by
    intro b x hx
    unfold startH at hx
    unfold startRho
    cases hb : Nat.ble globBase b with
    | true =>
      rw [hb] at hx
      simp only [cond_true, Option.map_eq_some_iff] at hx
      obtain ⟨d, hd', rfl⟩ := hx
      refine ⟨rfl, globPos (b - globBase) d, by simp [hd'], (hg.laid _ d hd').2⟩
    | false =>
      rw [hb] at hx
      simp only [cond_false, Option.map_eq_some_iff] at hx
      obtain ⟨d, hd', rfl⟩ := hx
      obtain ⟨p, hp, hrd⟩ := hd.get b d hd'
      exact ⟨rfl, p, by simp [hp], hrd⟩
  have hno : ∀ k, ¬ ownB (startRho E ps) (startSt E fn ras).h k := by
    rintro k ⟨b, x, p, hb, ho, _⟩
    obtain ⟨h3, _⟩ := hown b x hb
    rw [h3] at ho; cases ho
  refine ⟨⟨⟨?_, ?_, ?_, ?_, ?_⟩, ⟨hg.laid, hg.size, fun k hk => (hno k hk).elim⟩, ?_, ?_, rfl, ?_, ?_⟩, hno⟩
  · intro b x hx
    obtain ⟨_, p, hp, hrd⟩ := hown b x hx
    exact ⟨p, hp, hrd.stride, hrd.len, hrd.cap, hrd.max⟩
  · intro b x hx
    obtain ⟨_, p, hp, hrd⟩ := hown b x hx
    exact hrd.wf
  · intro b x p hx hp i hi j av hav
    obtain ⟨_, p', hp', hrd⟩ := hown b x hx
    rw [hp] at hp'; cases hp'
    obtain ⟨c, hc, hv⟩ := hrd.cells i hi j av hav
    exact ⟨c, hc, V.mono (fun _ _ h => by cases h) _ _ hv⟩
  · intro b x p hx ho
    obtain ⟨h3, _⟩ := hown b x hx
    rw [h3] at ho; cases ho
  · intro b x p b' x' p' hx ho
    obtain ⟨h3, _⟩ := hown b x hx
    rw [h3] at ho; cases ho
  · simp [startSt]; omega
  · intro i
    simp only [startSt]
    rw [listT_get]
    cases hi : (impAs 0 ras).1[i]? with
    | none => simp [V]
    | some a =>
      obtain ⟨v, hvv, hV⟩ := hVL.get hi
      have hlt := (List.getElem?_eq_some_iff.1 hvv).1
      have : (cargs.toArray ++ Array.replicate (fn.ntmps - cargs.toArray.size) undef).getD i undef = v := by
        rw [Array.getD_eq_getD_getElem?, Array.getElem?_append_left (by simpa using hlt)]
        simp [hvv]
      rw [this]; exact hV
  · intro b hb
    simp only [startSt]
    cases hbb : Nat.ble globBase b with
    | true => exact .inr (Nat.le_of_ble_eq_true hbb)
    | false =>
      left
      unfold startRho at hb
      rw [hbb, cond_false] at hb
      have : b < ps.length := by
        rcases Nat.lt_or_ge b ps.length with h | h
        · exact h
        · rw [List.getElem?_eq_none h] at hb; exact (hb rfl).elim
      omega
  · intro g p hp
    unfold startRho at hp
    have hbb : Nat.ble globBase (globBase + g) = true := Nat.ble_eq_true_of_le (Nat.le_add_right _ _)
    rw [hbb, cond_true] at hp
    simp only [Option.map_eq_some_iff] at hp
    obtain ⟨d, _, rfl⟩ := hp
    simp [globPos]

theorem rdV_of {xs : List RA} {vs : List Value} {ps : List Pos} (h : RdAs w xs vs ps) : RdV w (oneOrTup xs) (if h : vs.toArray.size = 1 then vs.toArray[0] else .tuple vs.toArray) ps := by
  cases xs with
  | nil =>
    obtain ⟨rfl, rfl⟩ := h
    exact ⟨#[], rfl, rfl, rfl⟩
  | cons x r =>
    cases r with
    | nil =>
      obtain ⟨v, us, p, q, rfl, rfl, h1, rfl, rfl⟩ := h
      simpa [oneOrTup, RdV] using h1
    | cons y r =>
      have h' := h
      obtain ⟨v, us, p, q, rfl, rfl, h1, v2, us2, p2, q2, rfl, rfl, h3, h4⟩ := h
      simp only [oneOrTup, RdV]
      exact ⟨(v :: v2 :: us2).toArray, by simp, by simpa using h'⟩

/-- a function by its text -/
theorem fnRun_ok {C : CallR} {L : LoopR} {f : FuncId} {fn : Func} {c : Code} (hat : FnAt E.P f fn c) (hC : CallOk E C) (hL : LoopsOk E L c) {s : FSpec}
    (hspec : ∀ ras r, (s ras).sel = some r → (fnRun E C L fn c ras).sel = some r) : FnOk E f s := by
  refine ⟨⟨fn, c, hat⟩, fun ras r hsel w cargs ps hg hr => ?_⟩
  have hrun := hspec ras r hsel
  unfold fnRun at hrun
  cases hc : (Nat.ble (impAs 0 ras).1.length fn.ntmps && Nat.ble (impAs 0 ras).2.length 1000) with
  | false => simp [hc, T.sel] at hrun
  | true =>
    simp only [hc, cond_true] at hrun
    simp only [Bool.and_eq_true] at hc
    obtain ⟨hsat, hno⟩ := start_sat (fn := fn) hg hr (Nat.le_of_ble_eq_true hc.1) (Nat.le_of_ble_eq_true hc.2)
    obtain ⟨⟨e, st'⟩, h1, h2⟩ := T.bind_sel _ _ _ hrun
    have hcs := run_ok hC c hL _ e st' h1
    refine calls_of_wp hat.func hat.body (hcs _ _ w hsat _ fun ρ' a' w' hs' hst _ => ?_)
    have key : a'.defers = [] ∧ ∃ v, (results fn a'.tmps).run E.P w' = .ok v w' ∧ ∃ cv qs, Ending.returned v = .returned cv ∧ Ext (fun _ => False) w w' ∧ RdV w' r cv qs ∧ OwnPs w.heap.size w' qs := by
      unfold endR at h2
      have h3 : ((resultsR E st' fn.results.toList).bind fun l => match expAs E st'.h fn.resultTypes.toList l with
        | some (xs, ps) => bif ownAll st'.h ps && nodupB ps then T.leaf (oneOrTup xs) else .bad
        | none => .bad).sel = some r := by
        cases e with
        | exit id => simp [T.sel] at h2
        | normal => exact h2
        | ret => exact h2
      obtain ⟨l, h4, h5⟩ := T.bind_sel _ _ _ h3
      obtain ⟨vs, h6, h7⟩ := resultsR_ok hs'.h rfl hs'.t _ l h4
      cases hx : expAs E st'.h fn.resultTypes.toList l with
      | none => rw [hx] at h5; simp [T.sel] at h5
      | some xp =>
        obtain ⟨xs, bs⟩ := xp
        rw [hx] at h5
        simp only at h5
        cases hob : (ownAll st'.h bs && nodupB bs) with
        | false => simp [hob, T.sel] at h5
        | true =>
          simp only [hob, cond_true, T.sel, Option.some.injEq] at h5
          subst h5
          simp only [Bool.and_eq_true] at hob
          obtain ⟨qs, h8, h9⟩ := expAs_read hs'.h hx h7
          refine ⟨hs'.d, (if h : vs.toArray.size = 1 then vs.toArray[0] else .tuple vs.toArray), ?_, _, qs, rfl, ?_, rdV_of h8, ?_⟩
          · unfold results
            rw [Array.mapM_eq_mapM_toList, map_eq_pure_bind]
            simp only [Sem.run_bind, Sem.run_pure]
            exact congrArg (fun r : Result (List Value) => (r.andThen fun a w' => Result.ok a.toArray w').andThen fun a w' => Result.ok (if h : a.size = 1 then a[0] else Value.tuple a) w') h6
          · exact hst.ext.mono fun k _ hk => hno k hk
          · refine leads_own hs'.h h9 hob.1 hob.2 _ fun k hk => ?_
            rcases hst.sub k hk with h | h
            · exact (hno k h).elim
            · exact h
    cases e with
    | exit id => simp [endR, T.sel] at h2
    | normal => exact key
    | ret => exact key
end
end Go.Am
