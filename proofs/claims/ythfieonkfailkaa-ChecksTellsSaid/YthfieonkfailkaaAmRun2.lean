/-
  AM: code: whatever the abstract run of a piece of code gives, the model's run gives.
-/
import Derived.Test.YthfieonkfailkaaAmDraw
import Derived.Scope
namespace Go.Am
section
variable {E : Env} {C : CallR}

def toExit : AExit → Exit
  | .normal => .normal
  | .exit id => .exit id
  | .ret => .ret
/-- a piece of code leads from one state to another -/
def CSem (E : Env) (c : Code) (st : AState) (e : AExit) (st' : AState) : Prop :=
  ∀ (ρ : Rho) (a : Act) (w : World), Sat E ρ st a w → ∀ (Q : Exit → Act → World → Prop), (∀ ρ' a' w', Sat E ρ' st' a' w' → Stp (ownB ρ st.h) (ownB ρ' st'.h) w w' → ρ.le ρ' → Keeps (writes c) a a' → Q (toExit e) a' w') → c.wp E.P Q a w
def LoopsOk (E : Env) (L : LoopR) : Code → Prop
  | .loop a => ∀ st e st', (L a st).sel = some (e, st') → CSem E (.loop a) st e st'
  | .scope a => LoopsOk E L a
  | .seq a b => LoopsOk E L a ∧ LoopsOk E L b
  | .cond _ a b => LoopsOk E L a ∧ LoopsOk E L b
  | .block _ a => LoopsOk E L a
  | _ => True

theorem litSt_same {st : AState} {c : Operand} {v : Bool} (h : Am.ev st c = .bool v) : litSt st c v = st := by
  unfold litSt
  split
  · rename_i d
    have h : st.t d = .bool v := h
    unfold AState.put
    simp only
    cases hb : Nat.blt d st.n with
    | false => rfl
    | true =>
      rw [cond_true]
      have : updF st.t d (.bool v) = st.t := by
        funext x
        unfold updF
        cases hx : Nat.beq x d with
        | false => rfl
        | true => rw [cond_true, Nat.eq_of_beq_eq_true hx, h]
      rw [this]
  · rfl


/-- what is asked of calls -/
structure CG (E : Env) (C : CallR) : Prop where
  ok : CallOk E C
  mono : CallMono C
theorem run_ok (hC : CG E C) {L : LoopR} : ∀ (c : Code), LoopsOk E L c → ∀ (st : AState) (e : AExit) (st' : AState), (run E C L c st).sel = some (e, st') → CSem E c st e st'
  | .skip, _, st, e, st', h => by
    simp only [run, T.sel, Option.some.injEq, Prod.mk.injEq] at h
    obtain ⟨rfl, rfl⟩ := h
    intro ρ a w hs Q hQ
    exact wp_skip (hQ ρ a w hs (Stp.refl _ _) (Rho.le.refl _) (Keeps.refl _ _))
  | .exit id, _, st, e, st', h => by
    simp only [run, T.sel, Option.some.injEq, Prod.mk.injEq] at h
    obtain ⟨rfl, rfl⟩ := h
    intro ρ a w hs Q hQ
    exact wp_exit (hQ ρ a w hs (Stp.refl _ _) (Rho.le.refl _) (Keeps.refl _ _))
  | .ret, _, st, e, st', h => by
    simp only [run, T.sel, Option.some.injEq, Prod.mk.injEq] at h
    obtain ⟨rfl, rfl⟩ := h
    intro ρ a w hs Q hQ
    exact wp_ret (hQ ρ a w hs (Stp.refl _ _) (Rho.le.refl _) (Keeps.refl _ _))
  | .region id ops draw, _, st, e, st', h => by
    unfold run at h
    cases hc : (Nat.ble ops.size 4096 && Nat.blt st.τ 1000000) with
    | false => simp only [hc, cond_false] at h; simp [T.sel] at h
    | true =>
      simp only [hc, cond_true] at h
      simp only [Bool.and_eq_true] at hc
      obtain ⟨h2, h3⟩ := hc
      have h2 := Nat.le_of_ble_eq_true h2
      have h3 : st.τ < 1000000 := lt_of_blt h3
      obtain ⟨st1, g1, g2⟩ := T.bind_sel _ _ _ h
      simp only [T.sel, Option.some.injEq, Prod.mk.injEq] at g2
      obtain ⟨rfl, rfl⟩ := g2
      intro ρ a w hs Q hQ
      cases draw with
      | true =>
        rw [cond_true] at g1
        exact draw_ok hC.ok hC.mono g1 h2 h3 hs hQ
      | false =>
      rw [cond_false] at g1
      refine wp_region ?_
      refine ops_ok hC.ok ops _ st st1 g1 ρ a w _ hs.rsat List.nodup_range (fun _ _ h => h) (fun _ h => h.elim) (fun i hi => by have := List.mem_range.1 hi; omega) h3 Q fun ρ' a' w' h5 h6 hle h7 => ?_
      exact hQ ρ' a' w' (h5.sat fun j hj => by rcases hj with h | h; exact h.elim; have := List.mem_range.1 h; omega) h6 hle h7
  | .seq x y, hL, st, e, st', h => by
    unfold run at h
    obtain ⟨⟨e1, st1⟩, g1, g2⟩ := T.bind_sel _ _ _ h
    have hx := run_ok hC x hL.1 st e1 st1 g1
    intro ρ a w hs Q hQ
    refine wp_seq (hx ρ a w hs _ fun ρ1 a1 w1 h5 h6 hle hk => ?_)
    cases e1 with
    | normal => exact run_ok hC y hL.2 st1 e st' g2 ρ1 a1 w1 h5 Q fun ρ2 a2 w2 h7 h8 hle2 hk2 => hQ ρ2 a2 w2 h7 (h6.trans h8) (hle.trans hle2) (hk.trans hk2)
    | exit id =>
      simp only [T.sel, Option.some.injEq, Prod.mk.injEq] at g2
      obtain ⟨rfl, rfl⟩ := g2
      exact hQ ρ1 a1 w1 h5 h6 hle (hk.mono fun i hi => List.mem_append_left _ hi)
    | ret =>
      simp only [T.sel, Option.some.injEq, Prod.mk.injEq] at g2
      obtain ⟨rfl, rfl⟩ := g2
      exact hQ ρ1 a1 w1 h5 h6 hle (hk.mono fun i hi => List.mem_append_left _ hi)
  | .cond c x y, hL, st, e, st', h => by
    unfold run at h
    intro ρ a w hs Q hQ
    have hv := hs.ev c
    cases hc : Am.ev st c with
    | bool b =>
      simp only [hc] at h
      rw [hc] at hv; simp only [V] at hv
      rcases T.node_sel h with ⟨rfl, h⟩ | ⟨rfl, h⟩ <;> rw [litSt_same hc] at h
      · exact wp_cond_true hv (run_ok hC x hL.1 st e st' h ρ a w hs Q fun ρ' a' w' h1 h2 hle h3 => hQ ρ' a' w' h1 h2 hle (h3.mono fun i hi => List.mem_append_left _ hi))
      · exact wp_cond_false hv (run_ok hC y hL.2 st e st' h ρ a w hs Q fun ρ' a' w' h1 h2 hle h3 => hQ ρ' a' w' h1 h2 hle (h3.mono fun i hi => List.mem_append_right _ hi))
    | _ => simp only [hc] at h; simp [T.sel] at h
  | .block id x, hL, st, e, st', h => by
    unfold run at h
    obtain ⟨⟨e1, st1⟩, g1, g2⟩ := T.bind_sel _ _ _ h
    have hx := run_ok hC x hL st e1 st1 g1
    intro ρ a w hs Q hQ
    refine wp_block (hx ρ a w hs _ fun ρ1 a1 w1 h5 h6 hle hk => ?_)
    cases e1 with
    | normal =>
      simp only [T.sel, Option.some.injEq, Prod.mk.injEq] at g2
      obtain ⟨rfl, rfl⟩ := g2
      exact hQ ρ1 a1 w1 h5 h6 hle hk
    | ret =>
      simp only [T.sel, Option.some.injEq, Prod.mk.injEq] at g2
      obtain ⟨rfl, rfl⟩ := g2
      exact hQ ρ1 a1 w1 h5 h6 hle hk
    | exit j =>
      simp only [toExit, Exit.inBlock]
      cases hj : Nat.beq j id with
      | true =>
        have := Nat.eq_of_beq_eq_true hj
        simp only [hj, cond_true, T.sel, Option.some.injEq, Prod.mk.injEq] at g2
        obtain ⟨rfl, rfl⟩ := g2
        rw [if_pos this]
        exact hQ ρ1 a1 w1 h5 h6 hle hk
      | false =>
        simp only [hj, cond_false, T.sel, Option.some.injEq, Prod.mk.injEq] at g2
        obtain ⟨rfl, rfl⟩ := g2
        rw [if_neg (by intro e; rw [e] at hj; simp at hj)]
        exact hQ ρ1 a1 w1 h5 h6 hle hk
  | .loop x, hL, st, e, st', h => hL st e st' h
  | .rangeFunc .., _, st, e, st', h => by simp [run, T.sel] at h
  | .scope x, hL, st, e, st', h => by
    unfold run at h
    have hx := run_ok hC x hL st e st' h
    intro ρ a w hs Q hQ
    refine wp_scope_straight (hx ρ a w hs _ fun ρ1 a1 w1 h5 h6 hle hk => ?_)
    cases e with
    | normal => exact hQ ρ1 a1 w1 h5 h6 hle hk
    | exit j => exact hQ ρ1 a1 w1 h5 h6 hle hk
    | ret => exact hQ ρ1 a1 w1 h5 h6 hle hk
  | .label l, _, st, e, st', h => by
    simp only [run, T.sel, Option.some.injEq, Prod.mk.injEq] at h
    obtain ⟨rfl, rfl⟩ := h
    intro ρ a w hs Q hQ
    exact wp_label (hQ ρ a w hs (Stp.refl _ _) (Rho.le.refl _) (Keeps.refl _ _))
  | .goto _, _, st, e, st', h => by simp [run, T.sel] at h
  | .refuse _, _, st, e, st', h => by simp [run, T.sel] at h
end
end Go.Am
