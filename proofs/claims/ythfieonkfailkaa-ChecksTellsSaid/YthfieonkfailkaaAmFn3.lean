/-
  AM3: functions by contract: what a contract says, and that calls by contract are sound.
-/
import Derived.Test.YthfieonkfailkaaAmImp
namespace Go.Am

structure FnAt (P : Program) (f : FuncId) (fn : Func) (c : Code) : Prop where
  func : P.funcs[f]? = some fn
  body : fn.body = some c
  name : fn.name ≠ "runtime.NumGoroutine"
/-- a function's contract holds -/
def FnOk (E : Env) (f : FuncId) (s : FSpec) : Prop :=
  (∃ fn c, FnAt E.P f fn c) ∧
  ∀ (vs : List AV) (bs : List Blk) (out : Out), (s vs bs).sel = some out → ∀ (w : World) (cargs : List Value) (ps : List Pos), CfgOk E w bs ps → VL (psRho ps) vs cargs →
    Calls E.P f cargs.toArray w fun e w' => ∃ cv ps', e = .returned cv ∧ CfgOk E w' out.blks ps' ∧ V (psRho ps') (oneOrTup out.vals) cv ∧ Mv w bs ps w' out.blks ps' ∧ ∀ (j : Nat) k, (pers vs bs)[j]? = some k → ps'[j]? = ps[k]?

section
variable {E : Env} {ρ : Rho} {h h' : Heap} {w : World}

theorem specC_call {S : FuncId → Option (List Nat × FSpec)} (hS : ∀ f s, S f = some s → FnOk E f s.2) : CallOk E (specC E S) := by
  intro f args h id v W hsel
  unfold specC at hsel
  split at hsel
  · simp [T.sel] at hsel
  · rename_i s hs
    obtain ⟨⟨fn0, c, hat⟩, hcalls⟩ := hS f s hs
    split at hsel
    · simp [T.sel] at hsel
    · rename_i fn hfn
      have hff : fn0 = fn := by have := hat.func; rw [hfn] at this; exact (Option.some.inj this).symm
      subst hff
      split at hsel
      · simp [T.sel] at hsel
      · rename_i vs bs es hx
        obtain ⟨out, h1, h2⟩ := T.bind_sel _ _ _ hsel
        cases hc : (Nat.ble out.blks.length 64 && persOk es (pers vs bs)) with
        | false => rw [hc] at h2; simp [T.sel] at h2
        | true =>
          rw [hc, cond_true] at h2
          simp only [T.sel, Option.some.injEq, Prod.mk.injEq] at h2
          obtain ⟨rfl, rfl⟩ := h2
          simp only [Bool.and_eq_true] at hc
          refine ⟨⟨fn0, hfn, by rw [hat.body]; rfl, hat.name⟩, fun ρ w cargs hsat hg hargs hid => ?_⟩
          obtain ⟨ps, hxo⟩ := expAll_ok hsat hg hx hargs
          refine (hcalls vs bs out h1 w cargs ps hxo.cfg hxo.vals).mono fun e w' ⟨cv, ps', he, hcfg, hcv, hmv, hsame⟩ => ?_
          obtain ⟨ρ', g1, g2, g3, g4, g5⟩ := import_ok (id := id) (m := 64) hsat hxo hc.2 hcfg hmv hsame (fun b h1 h2 => hid b h1 h2) (Nat.le_of_ble_eq_true hc.1)
          exact ⟨cv, ρ', he, g1, by rw [oneOrTup_ren]; exact g5 _ _ hcv, g2, g3, g4⟩

/-! a contract is monotone in the heap -/
mutual
theorem visA_mono {fl : Fl} (hl : HLe h h') : ∀ (g : Nat) (t : TypeId) (a : AV) (es : List Ent) (r : AV × List Ent), visA E h fl g t a es = some r → visA E h' fl g t a es = some r
  | 0, t, a, es, r, he => by simp [visA] at he
  | g + 1, t, a, es, r, he => by
    unfold visA at he ⊢
    split at he <;> first | exact he | skip
    · split at he
      · rename_i x hx; simp only [hl _ _ hx]
        cases hfl : fl es.length false x.own with
        | true =>
          rw [hfl, cond_true] at he
          rw [cond_true]
          exact he
        | false =>
          rw [hfl, cond_false] at he
          rw [cond_false]; exact he
      · cases he
    · split at he
      · rename_i x hx; simp only [hl _ _ hx]
        cases hfl : fl es.length false x.own with
        | true =>
          rw [hfl, cond_true] at he
          rw [cond_true]
          exact he
        | false =>
          rw [hfl, cond_false] at he
          rw [cond_false]; exact he
      · cases he
    · split at he
      · exact he
      · split at he
        · rename_i x hx; simp only [hl _ _ hx]; exact he
        · cases he
    · split at he
      · rename_i us es1 h1
        split at he
        · rename_i cs es2 h2
          simp only [visL_mono hl g _ _ _ _ h1, visL_mono hl g _ _ _ _ h2]; exact he
        · cases he
      · cases he
    · split at he
      · rename_i x es1 h1
        simp only [visA_mono hl g _ _ _ _ h1]; exact he
      · cases he
    · split at he
      · rename_i x es1 h1
        simp only [visL_mono hl g _ _ _ _ h1]; exact he
      · cases he
theorem visL_mono {fl : Fl} (hl : HLe h h') : ∀ (g : Nat) (ts : List TypeId) (as : List AV) (es : List Ent) (r : List AV × List Ent), visL E h fl g ts as es = some r → visL E h' fl g ts as es = some r
  | g, ts, [], es, r, he => by cases g <;> simpa only [visL] using he
  | 0, ts, a :: as, es, r, he => by simp [visL] at he
  | g + 1, ts, a :: as, es, r, he => by
    unfold visL at he ⊢
    split at he
    · rename_i a1 es1 h1
      split at he
      · rename_i as1 es2 h2
        simp only [visA_mono hl g _ _ _ _ h1, visL_mono hl g _ _ _ _ h2]; exact he
      · cases he
    · cases he
end
theorem visRows_mono {fl : Fl} (hl : HLe h h') {tys : List TypeId} : ∀ (rows : List (List AV)) (es : List Ent) (r : List (List AV) × List Ent), visRows E h fl tys rows es = some r → visRows E h' fl tys rows es = some r
  | [], es, r, he => he
  | x :: xs, es, r, he => by
    unfold visRows at he ⊢
    split at he
    · rename_i a1 es1 h1
      split at he
      · rename_i as1 es2 h2
        simp only [visL_mono hl _ _ _ _ _ h1, visRows_mono hl _ _ _ h2]; exact he
      · cases he
    · cases he
theorem visD_mono {fl : Fl} (hl : HLe h h') {d : Dat} {es : List Ent} {r : Dat × List Ent} (he : visD E h fl d es = some r) : visD E h' fl d es = some r := by
  cases d with
  | gen tys rows =>
    unfold visD at he ⊢
    simp only at he ⊢
    split at he
    · rename_i a1 es1 h1
      simp only [visRows_mono hl _ _ _ h1]; exact he
    · cases he
  | _ => exact he
theorem visGo_mono {fl : Fl} (hl : HLe h h') : ∀ (f k : Nat) (es : List Ent) (r : List Blk × List Ent), visGo E h fl f k es = some r → visGo E h' fl f k es = some r
  | 0, k, es, r, he => by simp [visGo] at he
  | f + 1, k, es, r, he => by
    unfold visGo at he ⊢
    split at he
    · exact he
    · split at he
      · rename_i d es1 h1
        split at he
        · rename_i bs1 es2 h2
          simp only [visD_mono hl h1, visGo_mono hl f _ _ _ h2]; exact he
        · cases he
      · cases he
theorem entsOk_mono (hl : HLe h h') : ∀ {es : List Ent}, entsOk h es = true → entsOk h' es = true
  | [], he => he
  | x :: r, he => by
    simp only [entsOk, Bool.and_eq_true] at he ⊢
    refine ⟨⟨?_, he.1.2⟩, entsOk_mono hl he.2⟩
    have := he.1.1
    split at this
    · split at this
      · rename_i y hy; rw [hl _ _ hy]; exact this
      · cases this
    · rfl
theorem demote_mono (hl : HLe h h') : ∀ {es : List Ent}, (∀ e ∈ es, ∀ b, e.src = some b → ∃ y, h b = some y) → demote h' es = demote h es
  | [], _ => rfl
  | e :: r, hs => by
    unfold demote
    have ih := demote_mono hl (es := r) fun e he => hs e (List.mem_cons_of_mem _ he)
    rw [ih]
    split
    · rename_i b hb
      obtain ⟨y, hy⟩ := hs e (List.mem_cons_self ..) b hb
      rw [hy, hl _ _ hy]
    · rfl
theorem expAll_mono {fl : Fl} (hl : HLe h h') {ts : List TypeId} {as : List AV} {r : List AV × List Blk × List Ent} (he : expAll E h fl ts as = some r) : expAll E h' fl ts as = some r := by
  unfold expAll at he ⊢
  split at he
  · rename_i vs es h1
    split at he
    · rename_i bs es2 h2
      simp only [visL_mono hl _ _ _ _ _ h1, visGo_mono hl _ _ _ _ h2]
      cases hk : (entsOk h es2 && Nat.ble bs.length 1000) with
      | false => simp [hk] at he
      | true =>
        simp only [Bool.and_eq_true] at hk
        simp only [entsOk_mono hl hk.1, hk.2]
        rw [hk.1, hk.2] at he; exact he
    · cases he
  · cases he
theorem expAll_some {fl : Fl} {ts : List TypeId} {as vs : List AV} {bs : List Blk} {es : List Ent} (he : expAll E h fl ts as = some (vs, bs, es)) : ∀ e ∈ es, ∀ b, e.src = some b → ∃ y, h b = some y := by
  unfold expAll at he
  split at he
  · split at he
    · rename_i vs1 es1 h1 bs2 es2 h2
      cases hk : (entsOk h es2 && Nat.ble bs2.length 1000) with
      | false => simp [hk] at he
      | true =>
        rw [hk, cond_true] at he
        cases he
        simp only [Bool.and_eq_true] at hk
        intro e he b hb
        obtain ⟨y, hy, _⟩ := entsOk_some hk.1 e he b hb
        exact ⟨y, hy⟩
    · cases he
  · cases he
theorem specC_mono (S : FuncId → Option (List Nat × FSpec)) : CallMono (specC E S) := by
  intro f args h h' id hl r hr
  unfold specC at hr ⊢
  split at hr
  · simp [T.sel] at hr
  · split at hr
    · simp [T.sel] at hr
    · split at hr
      · simp [T.sel] at hr
      · rename_i hx
        rw [expAll_mono hl hx]
        simp only
        have : ∀ P id bs, importOut h' _ P id bs = importOut h _ P id bs := fun P id bs => by
          unfold importOut
          rw [demote_mono hl (expAll_some hx)]
        simp only [this]
        exact hr
theorem specC_ok {S : FuncId → Option (List Nat × FSpec)} (hS : ∀ f s, S f = some s → FnOk E f s.2) : CG E (specC E S) := ⟨specC_call hS, specC_mono S⟩
end
end Go.Am
