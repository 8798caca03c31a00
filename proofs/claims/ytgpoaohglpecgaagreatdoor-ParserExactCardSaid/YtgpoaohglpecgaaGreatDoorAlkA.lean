/-
  Queries compared, but for places: ref08.Alike by contract.
-/
import Derived.Test.YtgpoaohglpecgaaGreatDoorParB
import Derived.Test.YtgpoaohglpecgaaGreatDoorExA
import Derived.Test.YtgpoaohglpecgaaGreatDoorPureB
namespace Go.Proofs.YtgpoaohglpecgaaGreatDoor.Pr
open Go.Am Go Go.Proofs.YtgpoaohglpecgaaGreatDoor
set_option maxRecDepth 100000
variable {B : Nat → Option Obj}
def fbQ (b : Bool) (z : Option Out) : Option Out := bif b then z else rb false
def rS (b : Bool) (z : Option Out) : Option Out := bif b then z else none
def winE (p q : Qry) : Bool := decide (p.wk = q.wk) && (decide (p.ws = q.ws) && (decide (p.we = q.we) && true))
theorem all2_eq : ∀ L M : List Int, all2 Ck.eqInt L M = decide (L = M)
  | [], [] => rfl
  | [], _ :: _ => rfl
  | _ :: _, [] => rfl
  | x :: L, y :: M => by
    show (decide (x = y) && all2 Ck.eqInt L M) = _
    rw [all2_eq L M]
    by_cases h1 : x = y <;> by_cases h2 : L = M <;> simp [h1, h2]
def alO (p q : Qry) : Option Out := fbQ (decide (p.agg = q.agg)) (rS (decide (p.arg.length ≤ 1000)) (fbQ (all2 Ck.eqNoP p.arg q.arg) (rS (decide (p.src.length ≤ 1000)) (fbQ (all2 Ck.eqInt p.src q.src) (fbQ (p.join == q.join) (rS (decide (p.whr.length ≤ 1000)) (fbQ (all2 Ck.eqNoP p.whr q.whr) (fbQ (winE p q) (fbQ (p.byKey == q.byKey) (rb (decide (p.late = q.late))))))))))))
theorem tAlk (p q : Qry) : runT B Ck.lib15 Tryz.f19 [p.av 0 1 2, q.av 3 4 5] (Ck.qbs p ++ Ck.qbs q) = alO p q := by kernel_rfl
theorem noP_is : Ck.eqNoP = eqN := by
  funext x y
  unfold Ck.eqNoP eqN
  by_cases h1 : x.kind = y.kind <;> by_cases h2 : x.n = y.n <;> by_cases h3 : x.a = y.a <;> by_cases h4 : x.b = y.b <;> simp [h1, h2, h3, h4]
def shQ (p : Qry) : Bool := decide (p.arg.length ≤ 1000 ∧ p.src.length ≤ 1000 ∧ p.whr.length ≤ 1000)
theorem al_is {p q : Qry} (h : shQ p = true) : alO p q = rb (alkB p q) := by
  obtain ⟨h1, h2, h3⟩ := of_decide_eq_true h
  unfold alO fbQ rS winE alkB
  rw [decide_eq_true h1, decide_eq_true h2, decide_eq_true h3, noP_is, all2_eq]
  cases decide (p.agg = q.agg) <;> cases p.join == q.join <;> cases decide (p.wk = q.wk) <;> cases decide (p.ws = q.ws) <;> cases decide (p.we = q.we) <;> cases p.byKey == q.byKey <;> cases decide (p.late = q.late) <;> cases decide (p.src = q.src) <;> cases all2 eqN p.arg q.arg <;> cases all2 eqN p.whr q.whr <;> rfl
def sAlk : FSpec
  | [.agg [.int .u8 ag, .slw 0, .slw 1, .bool j, .slw 2, .int .u8 wk, .int .i64 ws, .int .i64 we, .bool bk, .int .u8 lt], .agg [.int .u8 ag', .slw 3, .slw 4, .bool j', .slw 5, .int .u8 wk', .int .i64 ws', .int .i64 we', .bool bk', .int .u8 lt']], [⟨false, .nodes A⟩, ⟨false, .ints .i64 S⟩, ⟨false, .nodes W⟩, ⟨false, .nodes A'⟩, ⟨false, .ints .i64 S'⟩, ⟨false, .nodes W'⟩] =>
    .node (shQ ⟨ag, A, S, j, W, wk, ws, we, bk, lt⟩) (.leaf ⟨[.bool (alkB ⟨ag, A, S, j, W, wk, ws, we, bk, lt⟩ ⟨ag', A', S', j', W', wk', ws', we', bk', lt'⟩)], []⟩) .bad
  | _, _ => .bad
theorem okAlk : FnOk (E0 B) 19 sAlk := by
  refine fnT Ck.lib15_ok Tryz.func19 (by kernel_rfl) (by kernel_rfl) fun vs bs r h => ?_
  unfold sAlk at h
  split at h
  · rename_i ag j wk ws we bk lt ag' j' wk' ws' we' bk' lt' A S W A' S' W'
    rcases T.node_sel h with ⟨hc, h2⟩ | ⟨_, h2⟩
    · simp only [T.sel, Option.some.injEq] at h2; subst h2
      exact (tAlk ⟨ag, A, S, j, W, wk, ws, we, bk, lt⟩ ⟨ag', A', S', j', W', wk', ws', we', bk', lt'⟩).trans (al_is hc)
    · simp [T.sel] at h2
  · simp [T.sel] at h
theorem all2_len' {α : Type} {f : α → α → Bool} : ∀ {L M : List α}, all2 f L M = true → L.length = M.length
  | [], [], _ => rfl
  | [], _ :: _, h => by cases h
  | _ :: _, [], h => by cases h
  | x :: L, y :: M, h => by
    have h : (f x y && all2 f L M) = true := h
    rw [Bool.and_eq_true] at h
    rw [List.length_cons, List.length_cons, all2_len' h.2]
theorem alk_par {p q : Qry} (h : alkB p q = true) : parQ p = parQ q := by
  unfold alkB at h
  simp only [Bool.and_eq_true, decide_eq_true_eq] at h
  obtain ⟨h1, h2, _, _, h3, _⟩ := h
  unfold parQ
  rw [h1, all2_len' h2, all2_len' h3]
end Go.Proofs.YtgpoaohglpecgaaGreatDoor.Pr
