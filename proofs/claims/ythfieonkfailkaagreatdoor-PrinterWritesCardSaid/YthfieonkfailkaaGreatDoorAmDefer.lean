/-
  AM3: a function that defers a call, told in pieces.
-/
import Derived.Test.YthfieonkfailkaaGreatDoorLibA
import Derived.Defers
namespace Go.Am
section
variable {E : Env} {ρ : Rho} {h : Heap} {w w' : World} {C : CallR} {L : LoopR}
/-- a function's contract, where it is called behind another's end -/
def FnOkD (E : Env) (f : FuncId) (s : FSpec) : Prop :=
  (∃ fn c, FnAt E.P f fn c) ∧
  ∀ (vs : List AV) (bs : List Blk) (out : Out), (s vs bs).sel = some out → ∀ (w : World) (cargs : List Value) (ps : List Pos) (u : FrameMode), CfgOk E w bs ps → VL (psRho ps) vs cargs →
    CallsD E.P f cargs.toArray u w fun e u' w' => u' = u ∧ ∃ cv ps', e = .returned cv ∧ CfgOk E w' out.blks ps' ∧ V (psRho ps') (oneOrTup out.vals) cv ∧ Mv w bs ps w' out.blks ps' ∧ ∀ (j : Nat) k, (pers vs bs)[j]? = some k → ps'[j]? = ps[k]?
theorem fnRun_okD {f : FuncId} {fn : Func} {c : Code} (hat : FnAt E.P f fn c) (hC : CG E C) (hL : LoopsOk E L c) {s : FSpec}
    (hspec : ∀ vs bs r, (s vs bs).sel = some r → (fnRun E C L fn c vs bs).sel = some r) : FnOkD E f s := by
  refine ⟨⟨fn, c, hat⟩, fun vs bs out hsel w cargs ps u hcfg hv => ?_⟩
  have hrun := hspec vs bs out hsel
  unfold fnRun at hrun
  cases hc : (Nat.ble vs.length fn.ntmps && Nat.ble bs.length 1000) with
  | false => simp [hc, T.sel] at hrun
  | true =>
    simp only [hc, cond_true] at hrun
    simp only [Bool.and_eq_true] at hc
    have hsat := start_sat hcfg (fn := fn) hv (Nat.le_of_ble_eq_true hc.1)
    obtain ⟨⟨e, st'⟩, h1, h2⟩ := T.bind_sel _ _ _ hrun
    have hcs := run_ok hC c hL _ e st' h1
    refine callsD_of_wp hat.func hat.body (hcs _ _ w hsat _ fun ρ' a' w' hs' hst hle hkd => ?_)
    have key : a'.defers = [] ∧ ∃ v, (results fn a'.tmps).run E.P w' = .ok v w' ∧ ∃ cv ps', Ending.returned v = .returned cv ∧ CfgOk E w' out.blks ps' ∧ V (psRho ps') (oneOrTup out.vals) cv ∧ Mv w bs ps w' out.blks ps' ∧ ∀ (j : Nat) k, (pers vs bs)[j]? = some k → ps'[j]? = ps[k]? := by
      unfold endR at h2
      have h3 : ((resultsR E st' fn.results.toList).bind fun l => expEnd E st'.h bs.length (pers vs bs) fn.resultTypes.toList l).sel = some out := by
        cases e with
        | exit id => simp [T.sel] at h2
        | normal => exact h2
        | ret => exact h2
      obtain ⟨l, h4, h5⟩ := T.bind_sel _ _ _ h3
      obtain ⟨cvs, h6, h7⟩ := resultsR_ok hs'.h rfl hs'.t _ l h4
      obtain ⟨ps', g1, g2, g3, g4⟩ := expEnd_ok hcfg rfl (fun k hk => pers_mem hk) hs'.h hs'.g hle hst h5 h7
      refine ⟨hkd.d, (if h : cvs.toArray.size = 1 then cvs.toArray[0] else .tuple cvs.toArray), ?_, _, ps', rfl, g1, oneOrTup_V g2, g3, g4⟩
      unfold results
      rw [Array.mapM_eq_mapM_toList, map_eq_pure_bind]
      simp only [Sem.run_bind, Sem.run_pure]
      exact congrArg (fun r : Result (List Value) => (r.andThen fun a w' => Result.ok a.toArray w').andThen fun a w' => Result.ok (if h : a.size = 1 then a[0] else Value.tuple a) w') h6
    cases e with
    | exit id => simp [endR, T.sel] at h2
    | normal => exact key
    | ret => exact key
theorem specC_callD {S : FuncId → Option (List Nat × FSpec)} {f : FuncId} {s : List Nat × FSpec} (hS : S f = some s) (hD : FnOkD E f s.2) {args : List AV} {id : Nat} {v : AV} {W : Upd} (hsel : (specC E S f args h id).sel = some (v, W))
    {cargs : List Value} (u : FrameMode) (hsat : SatH ρ h w) (hg : GOk E (ownB ρ h) w) (hargs : VL ρ args cargs) (hid : ∀ b, id ≤ b → b < id + 64 → ρ b = none) :
    CallsD E.P f cargs.toArray u w fun e u' w' => u' = u ∧ ∃ cv ρ', e = .returned cv ∧ ρ.le ρ' ∧ V ρ' v cv ∧ SatH ρ' (updW h W) w' ∧ Stp (domB ρ h) (domB ρ' (updW h W)) w w' ∧ (∀ b, ρ' b ≠ none → ρ b = none → id ≤ b ∧ b < id + 64) := by
  unfold specC at hsel
  rw [hS] at hsel
  simp only at hsel
  obtain ⟨⟨fn0, c, hat⟩, hcalls⟩ := hD
  split at hsel
  · simp [T.sel] at hsel
  · rename_i fn hfn
    have hff : fn0 = fn := by have := hat.func; rw [hfn] at this; exact (Option.some.inj this).symm
    subst hff
    split at hsel
    · simp [T.sel] at hsel
    · rename_i vs bs es hx
      obtain ⟨out, h1, h2⟩ := T.bind_sel _ _ _ hsel
      cases hc : (Nat.ble out.blks.length 64 && persOk es (pers vs bs)) with
      | false => rw [hc] at h2; simp [T.sel] at h2
      | true =>
        rw [hc, cond_true] at h2
        simp only [T.sel, Option.some.injEq, Prod.mk.injEq] at h2
        obtain ⟨rfl, rfl⟩ := h2
        simp only [Bool.and_eq_true] at hc
        obtain ⟨ps, hxo⟩ := expAll_ok hsat hg hx hargs
        refine (hcalls vs bs out h1 w cargs ps u hxo.cfg hxo.vals).mono fun e u' w' ⟨hu, cv, ps', he, hcfg, hcv, hmv, hsame⟩ => ⟨hu, ?_⟩
        obtain ⟨ρ', g1, g2, g3, g4, g5⟩ := import_ok (id := id) (m := 64) hsat hxo hc.2 hcfg hmv hsame (fun b h1 h2 => hid b h1 h2) (Nat.le_of_ble_eq_true hc.1)
        exact ⟨cv, ρ', he, g1, by rw [oneOrTup_ren]; exact g5 _ _ hcv, g2, g3, g4⟩
theorem Sat.set {st : AState} {a : Act} (hs : Sat E ρ st a w) {d : Nat} {v : Value} {av : AV} (hd : d < st.n) (hv : V ρ av v) (ds : List Deferred) :
    Sat E ρ { st with t := updF st.t d av } { tmps := a.tmps.setIfInBounds d v, defers := ds } w := by
  refine ⟨hs.h, hs.g, by simpa using hs.size, fun i => ?_, hs.dom, hs.glob⟩
  have hsz := hs.size
  by_cases e : i = d
  · subst e
    show V ρ (updF st.t i av i) _
    rw [updF_same]
    have : (a.tmps.setIfInBounds i v).getD i undef = v := by simp [Array.getD, Array.setIfInBounds, hsz, hd]
    rw [this]; exact hv
  · show V ρ (updF st.t d av i) _
    rw [updF_other _ _ _ e]
    have : (a.tmps.setIfInBounds d v).getD i undef = a.tmps.getD i undef := by
      simp only [Array.getD_eq_getD_getElem?]
      rw [Array.getElem?_setIfInBounds_ne (fun h => e h.symm)]
    rw [this]; exact hs.t i
/-- pieces of code; a condition that holds; a piece; the call that is deferred; the rest; the call -/
def deferT (E : Env) (L : LoopR) (S : FuncId → Option (List Nat × FSpec)) (fn : Func) (cs : List Code) (c : Nat) (x tail : Code) (s d : Nat) (fd : FuncId) (cav : AV) (vs : List AV) (bs : List Blk) : T Out :=
  bif Nat.ble vs.length fn.ntmps && Nat.ble bs.length 1000 then
    (runs E (specC E S) L cs (startSt E fn vs bs)).bind fun st => match st.t c with
      | .bool b => .node b ((run E (specC E S) L x st).bind fun r => match r.1 with
        | .normal => bif Nat.blt d r.2.n then (run E (specC E S) L tail { r.2 with t := updF r.2.t d (r.2.t s) }).bind fun r3 => match r3.1 with
          | .exit _ => .bad
          | _ => bif Nat.blt r3.2.τ 1000000 then (specC E S fd [r.2.t s, cav] r3.2.h (r3.2.τ * 262144)).bind fun q => expEnd E (updW r3.2.h q.2) bs.length (pers vs bs) [] [] else .bad
          else .bad
        | _ => .bad) .bad
      | _ => .bad
  else .bad
theorem defer_ok {S : FuncId → Option (List Nat × FSpec)} {f fd : FuncId} {fn : Func} {cs : List Code} {c s d id : Nat} {x y tail : Code} {ops : Array Oper} {cav : AV} {cv : Value}
    (hat : FnAt E.P f fn (nest (.cond (.tmp c) (.seq x (.region id ops false)) y) tail cs)) (hne : cs ≠ []) (hC : CG E (specC E S)) (hL : ∀ z ∈ cs, LoopsOk E L z) (hLx : LoopsOk E L x) (hLt : LoopsOk E L tail) (hres : fn.results = #[])
    {sd : List Nat × FSpec} (hS : S fd = some sd) (hD : FnOkD E fd sd.2) (hinv : ∀ (args : Array Value) (w : World), (invoke (.fn (.func fd) #[]) args).run E.P w = .ok (.enter fd args) w)
    (hops : ∀ (a : Act) (w : World) (Q : Exit → Act → World → Prop), d < a.tmps.size → Q .normal { tmps := a.tmps.setIfInBounds d (a.tmps.getD s undef), defers := ⟨.fn (.func fd) #[], #[a.tmps.getD s undef, cv]⟩ :: a.defers } w → (Code.region id ops false).wp E.P Q a w)
    (hcv : ∀ ρ, V ρ cav cv) {s' : FSpec} (hspec : ∀ vs bs r, (s' vs bs).sel = some r → (deferT E L S fn cs c x tail s d fd cav vs bs).sel = some r) : FnOk E f s' := by
  refine ⟨⟨fn, _, hat⟩, fun vs bs out hsel w cargs ps hcfg hv => ?_⟩
  have hrun := hspec vs bs out hsel
  unfold deferT at hrun
  cases hc : (Nat.ble vs.length fn.ntmps && Nat.ble bs.length 1000) with
  | false => simp [hc, T.sel] at hrun
  | true =>
    simp only [hc, cond_true] at hrun
    simp only [Bool.and_eq_true] at hc
    have hsat := start_sat hcfg (fn := fn) hv (Nat.le_of_ble_eq_true hc.1)
    obtain ⟨st1, h1, h2⟩ := T.bind_sel _ _ _ hrun
    refine calls_of_wp_defers hat.func hat.body ?_
    refine runs_ok hC cs hne hL _ st1 h1 _ _ w hsat fun ρ1 a1 w1 hs1 hst1 hle1 hsz1 hd1 => ?_
    have hv1 := hs1.t c
    cases hb : st1.t c with
    | bool b =>
      rw [hb] at h2 hv1
      simp only at h2
      rcases T.node_sel h2 with ⟨rfl, h3⟩ | ⟨_, h3⟩
      · simp only [V] at hv1
        refine wp_cond_true (by simpa [Act.eval] using hv1) ?_
        obtain ⟨⟨e2, st2⟩, h4, h5⟩ := T.bind_sel _ _ _ h3
        cases e2 with
        | exit _ => simp [T.sel] at h5
        | ret => simp [T.sel] at h5
        | normal =>
          simp only at h5
          cases hdn : Nat.blt d st2.n with
          | false => rw [hdn] at h5; simp [T.sel] at h5
          | true =>
            rw [hdn, cond_true] at h5
            have hdn := lt_of_blt hdn
            refine wp_seq (run_ok hC x hLx _ _ _ h4 _ _ _ hs1 _ fun ρ2 a2 w2 hs2 hst2 hle2 hk2 => ?_)
            refine hops a2 w2 _ (by rw [hs2.size]; exact hdn) ?_
            have hsv := hs2.t s
            have hs2' := hs2.set (d := d) hdn hsv (⟨.fn (.func fd) #[], #[a2.tmps.getD s undef, cv]⟩ :: a2.defers)
            obtain ⟨⟨e3, st3⟩, h6, h7⟩ := T.bind_sel _ _ _ h5
            refine run_ok hC tail hLt _ _ _ h6 _ _ _ hs2' _ fun ρ3 a3 w3 hs3 hst3 hle3 hk3 => ?_
            have h8 : (bif Nat.blt st3.τ 1000000 then (specC E S fd [st2.t s, cav] st3.h (st3.τ * 262144)).bind fun q => expEnd E (updW st3.h q.2) bs.length (pers vs bs) [] [] else .bad).sel = some out := by
              cases e3 with
              | exit _ => simp [T.sel] at h7
              | normal => exact h7
              | ret => exact h7
            have hds : a3.defers = [⟨.fn (.func fd) #[], #[a2.tmps.getD s undef, cv]⟩] := by
              rw [hk3.d]
              show _ :: a2.defers = _
              rw [hk2.d, hd1]
            have key : Leaves E.P fn a3.tmps (fun e w' => ∃ cv ps', e = .returned cv ∧ CfgOk E w' out.blks ps' ∧ V (psRho ps') (oneOrTup out.vals) cv ∧ Mv w bs ps w' out.blks ps' ∧ ∀ (j : Nat) k, (pers vs bs)[j]? = some k → ps'[j]? = ps[k]?) a3.defers .returning w3 := by
              rw [hds]
              cases hτ : Nat.blt st3.τ 1000000 with
              | false => rw [hτ] at h8; simp [T.sel] at h8
              | true =>
                rw [hτ, cond_true] at h8
                have hτ := lt_of_blt hτ
                obtain ⟨⟨v4, W4⟩, h9, h10⟩ := T.bind_sel _ _ _ h8
                have hid : ∀ b, st3.τ * 262144 ≤ b → b < st3.τ * 262144 + 64 → ρ3 b = none := by
                  intro b hb1 hb2
                  cases hρ : ρ3 b with
                  | none => rfl
                  | some p =>
                    exfalso
                    rcases hs3.dom b (by rw [hρ]; simp) with h | h
                    · omega
                    · simp only [globBase] at h; omega
                have hargs : VL ρ3 [st2.t s, cav] [a2.tmps.getD s undef, cv] := by
                  simp only [VL]
                  exact ⟨_, _, rfl, V.mono hle3 _ _ hsv, _, _, rfl, hcv _, rfl⟩
                have hcd := specC_callD hS hD h9 .returning hs3.h hs3.g hargs hid
                refine leaves_cons (by simp) (hinv _ _) (hcd.mono fun e u' w4 ⟨hu, cv4, ρ4, he, g1, g2, g3, g4, g5⟩ => ?_)
                subst hu; subst he
                obtain ⟨ps', k1, k2, k3, k4⟩ := expEnd_ok hcfg rfl (fun k hk => pers_mem hk) g3 (hs3.g.step g4) (((hle1.trans hle2).trans hle3).trans g1) (((hst1.trans hst2).trans hst3).trans g4) h10 (cvs := []) (by simp [VL])
                refine ⟨.tuple #[], ?_, _, ps', rfl, k1, ?_, k3, k4⟩
                · unfold results
                  rw [hres]
                  simp
                · have := oneOrTup_V k2
                  simpa using this
            cases e3 with
            | exit _ => simp [T.sel] at h7
            | normal => exact key
            | ret => exact key
      · simp [T.sel] at h3
    | _ => rw [hb] at h2; simp [T.sel] at h2
end
end Go.Am
