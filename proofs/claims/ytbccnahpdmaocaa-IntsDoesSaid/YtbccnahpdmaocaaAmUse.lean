/-
  AM: how a program's functions are told: tables of contracts, loops found by their first region.
-/
import Derived.Test.YtbccnahpdmaocaaAmLoop
namespace Go.Am

def bodyC (fn : Func) : Code := match fn.body with
  | some c => c
  | none => .skip
/-- the bodies of the loops of a piece of code -/
def loopsOf : Code → List Code
  | .seq a b => loopsOf a ++ loopsOf b
  | .cond _ a b => loopsOf a ++ loopsOf b
  | .block _ a => loopsOf a
  | .loop a => a :: loopsOf a
  | _ => []
def loopAt (id : Nat) : List Code → Code
  | [] => .skip
  | c :: r => bif Nat.beq (firstRegion c) id then c else loopAt id r
structure LEnt where
  id : Nat
  n : Nat
  sg : LSig
  wr : List Nat
  s : LSpec
def loopL (E : Env) : List LEnt → LoopR
  | [], _, _ => .bad
  | x :: r, id, st => bif Nat.beq x.id id then (bif Nat.beq st.n x.n then useL E x.sg x.s x.wr st else .bad) else loopL E r id st
def tab : List (FuncId × FSpec) → FuncId → Option FSpec
  | [], _ => none
  | x :: r, f => bif Nat.beq x.1 f then some x.2 else tab r f
section
variable {E : Env} {C : CallR} {L : LoopR}

theorem loopsOk_of : ∀ (c : Code), (∀ b ∈ loopsOf c, ∀ st e st', (L (firstRegion b) st).sel = some (e, st') → CSem E (.loop b) st e st') → LoopsOk E L c
  | .seq a b, h => ⟨loopsOk_of a fun x hx => h x (List.mem_append_left _ hx), loopsOk_of b fun x hx => h x (List.mem_append_right _ hx)⟩
  | .cond _ a b, h => ⟨loopsOk_of a fun x hx => h x (List.mem_append_left _ hx), loopsOk_of b fun x hx => h x (List.mem_append_right _ hx)⟩
  | .block _ a, h => loopsOk_of a fun x hx => h x hx
  | .loop a, h => fun st e st' hs => h a (List.mem_cons_self ..) st e st' hs
  | .skip, _ => trivial
  | .region .., _ => trivial
  | .rangeFunc .., _ => trivial
  | .scope _, _ => trivial
  | .exit _, _ => trivial
  | .label _, _ => trivial
  | .goto _, _ => trivial
  | .ret, _ => trivial
  | .refuse _, _ => trivial
theorem loopsOk_nil {c : Code} (h : loopsOf c = []) : LoopsOk E L c := loopsOk_of c fun b hb => by rw [h] at hb; cases hb

/-- a table of loops is sound where each of its entries is, at each loop that bears the entry's name -/
theorem loopL_ok {c : Code} : ∀ {l : List LEnt}, (∀ x ∈ l, ∀ b ∈ loopsOf c, firstRegion b = x.id → x.wr = writes b ∧ LoopOk E x.n x.sg b x.s) → LoopsOk E (loopL E l) c := by
  intro l hl
  refine loopsOk_of c fun b hb st e st' hsel => ?_
  induction l with
  | nil => simp [loopL, T.sel] at hsel
  | cons x r ih =>
    unfold loopL at hsel
    cases hx : Nat.beq x.id (firstRegion b) with
    | false =>
      rw [hx, cond_false] at hsel
      exact ih (fun y hy => hl y (List.mem_cons_of_mem _ hy)) hsel
    | true =>
      rw [hx, cond_true] at hsel
      cases hn : Nat.beq st.n x.n with
      | false => rw [hn] at hsel; simp [T.sel] at hsel
      | true =>
        rw [hn, cond_true] at hsel
        obtain ⟨h1, h2⟩ := hl x (List.mem_cons_self ..) b hb (Nat.eq_of_beq_eq_true hx).symm
        rw [h1] at hsel
        rw [← Nat.eq_of_beq_eq_true hn] at h2
        exact useL_ok h2 hsel
theorem loopL_one {c b : Code} {x : LEnt} (hc : loopsOf c = [b]) (hw : x.wr = writes b) (hb : LoopOk E x.n x.sg b x.s) : LoopsOk E (loopL E [x]) c :=
  loopL_ok fun y hy z hz _ => by
    simp only [List.mem_singleton] at hy; subst hy
    rw [hc] at hz; simp only [List.mem_singleton] at hz; subst hz
    exact ⟨hw, hb⟩

theorem tab_ok {l : List (FuncId × FSpec)} (h : ∀ x ∈ l, FnOk E x.1 x.2) : ∀ f s, tab l f = some s → FnOk E f s := by
  intro f s hs
  induction l with
  | nil => simp [tab] at hs
  | cons x r ih =>
    unfold tab at hs
    cases hx : Nat.beq x.1 f with
    | true =>
      rw [hx, cond_true, Option.some.injEq] at hs
      rw [← Nat.eq_of_beq_eq_true hx, ← hs]
      exact h x (List.mem_cons_self ..)
    | false =>
      rw [hx, cond_false] at hs
      exact ih (fun y hy => h y (List.mem_cons_of_mem _ hy)) hs
theorem tab_nil {f : FuncId} {s : FSpec} (h : tab [] f = some s) : FnOk E f s := by simp [tab] at h

theorem sel_bind {α β : Type} (x : T α) (f : α → T β) : (x.bind f).sel = match x.sel with | none => none | some a => (f a).sel := by
  induction x with
  | bad => rfl
  | leaf a => rfl
  | node b x y ihx ihy => cases b <;> simp only [T.bind, T.sel, cond_true, cond_false] <;> assumption
theorem turns_more {n : Nat} {sg : LSig} {body : Code} {k : Nat} {m c y : List RA} (h : (turn E C L n sg body m c).sel = some (.normal, y)) {r : AExit × List RA} (hr : (turns E C L n sg body k y c).sel = some r) :
    (turns E C L n sg body (k + 1) m c).sel = some r := by
  show ((turn E C L n sg body m c).bind _).sel = some r
  rw [sel_bind, h]; exact hr
theorem turns_done {n : Nat} {sg : LSig} {body : Code} {m c y : List RA} {e : AExit} (h : (turn E C L n sg body m c).sel = some (e, y)) (he : e ≠ .normal) :
    (turns E C L n sg body 1 m c).sel = some (e, y) := by
  show ((turn E C L n sg body m c).bind _).sel = some (e, y)
  rw [sel_bind, h]
  cases e <;> first | rfl | exact (he rfl).elim
end
end Go.Am
