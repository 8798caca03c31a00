/-
  AM3: how a program's functions are told: tables of contracts; loops by contract, or turn by turn; functions by their texts.
-/
import Derived.Test.YthfieonkfailkaaAmLoop3
namespace Go.Am

def bodyC (fn : Func) : Code := match fn.body with
  | some c => c
  | none => .skip
/-- the bodies of the loops of a piece of code -/
def loopsOf : Code → List Code
  | .seq a b => loopsOf a ++ loopsOf b
  | .cond _ a b => loopsOf a ++ loopsOf b
  | .block _ a => loopsOf a
  | .scope a => loopsOf a
  | .loop a => a :: loopsOf a
  | _ => []
def loopAt (id : Nat) : List Code → Code
  | [] => .skip
  | c :: r => bif Nat.beq (firstRegion c) id then c else loopAt id r
structure LEnt where
  id : Nat
  n : Nat
  sg : LSig
  wr : List Nat
  s : LSpec
/-- loops by contract, found by their first region; the others by L -/
def loopL (E : Env) (L : LoopR) : List LEnt → LoopR
  | [], a, st => L a st
  | x :: r, a, st => bif Nat.beq x.id (firstRegion a) then (bif Nat.beq st.n x.n then useL E x.sg x.s x.wr st else .bad) else loopL E L r a st
def noL : LoopR := fun _ _ => .bad
/-- loops turn by turn -/
def inlL (E : Env) (C : CallR) : Nat → LoopR
  | 0 => noL
  | n + 1 => fun a st => (run E C (inlL E C n) a st).bind fun r => match r.1 with
    | .normal => inlL E C n a r.2
    | e => .leaf (e, r.2)
def tab : List (FuncId × List Nat × FSpec) → FuncId → Option (List Nat × FSpec)
  | [], _ => none
  | x :: r, f => bif Nat.beq x.1 f then some x.2 else tab r f
section
variable {E : Env} {C : CallR} {L : LoopR}

theorem loopsOk_of : ∀ (c : Code), (∀ b ∈ loopsOf c, ∀ st e st', (L b st).sel = some (e, st') → CSem E (.loop b) st e st') → LoopsOk E L c
  | .seq a b, h => ⟨loopsOk_of a fun x hx => h x (List.mem_append_left _ hx), loopsOk_of b fun x hx => h x (List.mem_append_right _ hx)⟩
  | .cond _ a b, h => ⟨loopsOk_of a fun x hx => h x (List.mem_append_left _ hx), loopsOk_of b fun x hx => h x (List.mem_append_right _ hx)⟩
  | .block _ a, h => loopsOk_of a fun x hx => h x hx
  | .scope a, h => loopsOk_of a fun x hx => h x hx
  | .loop a, h => fun st e st' hs => h a (List.mem_cons_self ..) st e st' hs
  | .skip, _ => trivial
  | .region .., _ => trivial
  | .rangeFunc .., _ => trivial
  | .exit _, _ => trivial
  | .label _, _ => trivial
  | .goto _, _ => trivial
  | .ret, _ => trivial
  | .refuse _, _ => trivial

def LSem (E : Env) (b : Code) (st : AState) (e : AExit) (st' : AState) (k : Nat) : Prop :=
  ∀ (ρ : Rho) (a : Act) (w : World), Sat E ρ st a w → ∀ (Q : Exit → Act → World → Prop), (∀ ρ' a' w', Sat E ρ' st' a' w' → Stp (ownB ρ st.h) (ownB ρ' st'.h) w w' → ρ.le ρ' → Keeps (writes b) a a' → Q (toExit e) a' w') → Code.rounds E.P b Q k a w
theorem inlL_ok (hC : CG E C) : ∀ (n : Nat), (∀ (b : Code) st e st', (inlL E C n b st).sel = some (e, st') → ∃ k, LSem E b st e st' k) ∧ ∀ c, LoopsOk E (inlL E C n) c := by
  intro n
  have second : (∀ (b : Code) st e st', (inlL E C n b st).sel = some (e, st') → ∃ k, LSem E b st e st' k) → ∀ c, LoopsOk E (inlL E C n) c := fun h c => loopsOk_of c fun b _ st e st' hs => by
    obtain ⟨k, hk⟩ := h b st e st' hs
    exact fun ρ a w hsat Q hQ => wp_loop_rounds k (hk ρ a w hsat Q hQ)
  suffices h : ∀ (b : Code) st e st', (inlL E C n b st).sel = some (e, st') → ∃ k, LSem E b st e st' k from ⟨h, second h⟩
  clear second
  induction n with
  | zero => intro b st e st' h; simp [inlL, noL, T.sel] at h
  | succ n ih =>
    have hL : ∀ c, LoopsOk E (inlL E C n) c := fun c => loopsOk_of c fun b _ st e st' hs => by
      obtain ⟨k, hk⟩ := ih b st e st' hs
      exact fun ρ a w hsat Q hQ => wp_loop_rounds k (hk ρ a w hsat Q hQ)
    intro b st e st' h
    unfold inlL at h
    obtain ⟨⟨e1, st1⟩, h1, h2⟩ := T.bind_sel _ _ _ h
    have hb := run_ok hC b (hL b) st e1 st1 h1
    cases e1 with
    | normal =>
      obtain ⟨k, hk⟩ := ih b st1 e st' h2
      refine ⟨k + 1, fun ρ a w hs Q hQ => ?_⟩
      rw [rounds_succ]
      refine hb ρ a w hs _ fun ρ1 a1 w1 g1 g2 g3 g4 => ?_
      exact hk ρ1 a1 w1 g1 Q fun ρ2 a2 w2 i1 i2 i3 i4 => hQ ρ2 a2 w2 i1 (g2.trans i2) (g3.trans i3) ((g4.trans i4).mono fun i hi => (List.mem_append.1 hi).elim (fun h => h) fun h => h)
    | exit id =>
      simp only [T.sel, Option.some.injEq, Prod.mk.injEq] at h2
      obtain ⟨rfl, rfl⟩ := h2
      refine ⟨1, fun ρ a w hs Q hQ => ?_⟩
      rw [rounds_succ]
      exact hb ρ a w hs _ fun ρ1 a1 w1 g1 g2 g3 g4 => hQ ρ1 a1 w1 g1 g2 g3 g4
    | ret =>
      simp only [T.sel, Option.some.injEq, Prod.mk.injEq] at h2
      obtain ⟨rfl, rfl⟩ := h2
      refine ⟨1, fun ρ a w hs Q hQ => ?_⟩
      rw [rounds_succ]
      exact hb ρ a w hs _ fun ρ1 a1 w1 g1 g2 g3 g4 => hQ ρ1 a1 w1 g1 g2 g3 g4
theorem inl_ok (hC : CG E C) (n : Nat) (c : Code) : LoopsOk E (inlL E C n) c := (inlL_ok hC n).2 c
theorem noL_ok (c : Code) : LoopsOk E noL c := loopsOk_of c fun b _ st e st' h => by simp [noL, T.sel] at h

/-- a table of loops is sound where each of its entries is, at each loop that bears the entry's name -/
theorem loopL_ok {c : Code} : ∀ {l : List LEnt}, (∀ x ∈ l, ∀ b ∈ loopsOf c, firstRegion b = x.id → x.wr = writes b ∧ LoopOk E x.n x.sg b x.s) → (∀ c, LoopsOk E L c) → LoopsOk E (loopL E L l) c := by
  intro l hl hL
  refine loopsOk_of c fun b hb st e st' hsel => ?_
  induction l with
  | nil => exact hL (.loop b) st e st' hsel
  | cons x r ih =>
    unfold loopL at hsel
    cases hx : Nat.beq x.id (firstRegion b) with
    | false =>
      rw [hx, cond_false] at hsel
      exact ih (fun y hy => hl y (List.mem_cons_of_mem _ hy)) hsel
    | true =>
      rw [hx, cond_true] at hsel
      cases hn : Nat.beq st.n x.n with
      | false => rw [hn] at hsel; simp [T.sel] at hsel
      | true =>
        rw [hn, cond_true] at hsel
        obtain ⟨h1, h2⟩ := hl x (List.mem_cons_self ..) b hb (Nat.eq_of_beq_eq_true hx).symm
        rw [h1] at hsel
        rw [← Nat.eq_of_beq_eq_true hn] at h2
        exact useL_ok h2 hsel
/-- the only loop that bears an entry's name -/
theorem loopL_one {c b : Code} {x : LEnt} (hc : loopsOf c = [b]) (hw : x.wr = writes b) (hb : LoopOk E x.n x.sg b x.s) (hL : ∀ c, LoopsOk E L c) : LoopsOk E (loopL E L [x]) c :=
  loopL_ok (fun y hy z hz _ => by
    simp only [List.mem_singleton] at hy; subst hy
    rw [hc] at hz; simp only [List.mem_singleton] at hz; subst hz
    exact ⟨hw, hb⟩) hL
/-- which loops bear a name -/
def loopsAt (id : Nat) : List Code → List Code
  | [] => []
  | c :: r => bif Nat.beq (firstRegion c) id then c :: loopsAt id r else loopsAt id r
theorem loopsAt_mem {id : Nat} {b : Code} : ∀ {l : List Code}, b ∈ l → firstRegion b = id → b ∈ loopsAt id l
  | c :: r, hb, hf => by
    unfold loopsAt
    rcases List.mem_cons.1 hb with rfl | hb
    · rw [hf, Nat.beq_refl, cond_true]; exact List.mem_cons_self ..
    · cases Nat.beq (firstRegion c) id
      · exact loopsAt_mem hb hf
      · exact List.mem_cons_of_mem _ (loopsAt_mem hb hf)
/-- an entry is sound for the loop that alone bears its name -/
structure EntFits (E : Env) (c : Code) (x : LEnt) (b : Code) : Prop where
  at' : loopsAt x.id (loopsOf c) = [b]
  wr : x.wr = writes b
  ok : LoopOk E x.n x.sg b x.s
theorem loopL_fits {c : Code} {l : List LEnt} (h : ∀ x ∈ l, ∃ b, EntFits E c x b) (hL : ∀ c, LoopsOk E L c) : LoopsOk E (loopL E L l) c :=
  loopL_ok (fun x hx b hb hf => by
    obtain ⟨b', h1, h2, h3⟩ := h x hx
    have := loopsAt_mem hb hf
    rw [h1, List.mem_singleton] at this
    subst this
    exact ⟨h2, h3⟩) hL

theorem tab_ok {l : List (FuncId × List Nat × FSpec)} (h : ∀ x ∈ l, FnOk E x.1 x.2.2) : ∀ f s, tab l f = some s → FnOk E f s.2 := by
  intro f s hs
  induction l with
  | nil => simp [tab] at hs
  | cons x r ih =>
    unfold tab at hs
    cases hx : Nat.beq x.1 f with
    | true =>
      rw [hx, cond_true, Option.some.injEq] at hs
      rw [← Nat.eq_of_beq_eq_true hx, ← hs]
      exact h x (List.mem_cons_self ..)
    | false =>
      rw [hx, cond_false] at hs
      exact ih (fun y hy => h y (List.mem_cons_of_mem _ hy)) hs
theorem tab_nil {f : FuncId} {s : List Nat × FSpec} (h : tab [] f = some s) : FnOk E f s.2 := by simp [tab] at h

/-! functions by their texts -/
/-- contracts where there are some; the others by their texts (n deep, m turns; the second table tells which slices are given away) -/
def textS (E : Env) (l : List (FuncId × List Nat × FSpec)) (tk : FuncId → List Nat) (m : Nat) : Nat → FuncId → Option (List Nat × FSpec)
  | 0, f => tab l f
  | n + 1, f => match tab l f with
    | some s => some s
    | none => match E.P.funcs[f]? with
      | none => none
      | some fn => bif fn.name == "runtime.NumGoroutine" then none else match fn.body with
        | none => none
        | some c => some (tk f, fnRun E (specC E (textS E l tk m n)) (inlL E (specC E (textS E l tk m n)) m) fn c)
theorem textS_ok {l : List (FuncId × List Nat × FSpec)} (h : ∀ x ∈ l, FnOk E x.1 x.2.2) (tk : FuncId → List Nat) (m : Nat) : ∀ (n : Nat) f s, textS E l tk m n f = some s → FnOk E f s.2
  | 0, f, s, hs => tab_ok h f s hs
  | n + 1, f, s, hs => by
    unfold textS at hs
    split at hs
    · rename_i s' hs'
      cases hs
      exact tab_ok h f s hs'
    · split at hs
      · cases hs
      · rename_i fn hfn
        cases hname : (fn.name == "runtime.NumGoroutine") with
        | true => rw [hname] at hs; cases hs
        | false =>
          rw [hname, cond_false] at hs
          split at hs
          · cases hs
          · rename_i c hc
            cases hs
            have hC : CG E (specC E (textS E l tk m n)) := specC_ok (textS_ok h tk m n)
            exact fnRun_ok ⟨hfn, hc, by simpa using hname⟩ hC (inl_ok hC m c) fun vs bs r hr => hr
/-- a function, by its text -/
theorem fn_ok {f : FuncId} {fn : Func} {c : Code} (h1 : E.P.funcs[f]? = some fn) (h2 : fn.body = some c) (h3 : (fn.name == "runtime.NumGoroutine") = false) (hC : CG E C) (hL : LoopsOk E L c) {s : FSpec}
    (hspec : ∀ vs bs r, (s vs bs).sel = some r → (fnRun E C L fn c vs bs).sel = some r) : FnOk E f s :=
  fnRun_ok ⟨h1, h2, by simpa using h3⟩ hC hL hspec

theorem sel_bind {α β : Type} (x : T α) (f : α → T β) : (x.bind f).sel = match x.sel with | none => none | some a => (f a).sel := by
  induction x with
  | bad => rfl
  | leaf a => rfl
  | node b x y ihx ihy => cases b <;> simp only [T.bind, T.sel, cond_true, cond_false] <;> assumption
theorem turns_more {n : Nat} {sg : LSig} {body : Code} {k : Nat} {vs : List AV} {bs : List Blk} {o : Out} (h : (turn E C L n sg body vs bs).sel = some (.normal, o)) {r : AExit × Out} (hr : (turns E C L n sg body k o.vals o.blks).sel = some r) :
    (turns E C L n sg body (k + 1) vs bs).sel = some r := by
  show ((turn E C L n sg body vs bs).bind _).sel = some r
  rw [sel_bind, h]; exact hr
theorem turns_done {n : Nat} {sg : LSig} {body : Code} {vs : List AV} {bs : List Blk} {o : Out} {e : AExit} (h : (turn E C L n sg body vs bs).sel = some (e, o)) (he : e ≠ .normal) :
    (turns E C L n sg body 1 vs bs).sel = some (e, o) := by
  show ((turn E C L n sg body vs bs).bind _).sel = some (e, o)
  rw [sel_bind, h]
  cases e <;> first | rfl | exact (he rfl).elim
end
end Go.Am
