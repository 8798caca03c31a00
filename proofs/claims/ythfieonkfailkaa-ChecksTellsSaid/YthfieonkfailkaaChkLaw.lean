/-
  ChecksTells: the law's run answers true.
-/
import Derived.Test.YthfieonkfailkaaChkFn6
namespace Go.Proofs.Ythfieonkfailkaa
open Go.Am
set_option maxRecDepth 100000
variable {B : Nat → Option Obj}
def Cc (b : Bool) (k : Option Out) : Option Out := bif b then k else rb false
def Gg (b : Bool) (k : Option Out) : Option Out := bif b then k else none
def winEq (q p : Qry) : Bool := decide (q.wk = p.wk) && (decide (q.ws = p.ws) && (decide (q.we = p.we) && true))
/-- two queries compared, and what comes then -/
def eqQ (q p : Qry) : Option Out :=
  Cc (decide (q.agg = p.agg)) (Gg (decide (q.arg.length ≤ 1000)) (Cc (all2 eqNoP q.arg p.arg) (Gg (decide (q.src.length ≤ 1000)) (Cc (all2 eqInt q.src p.src) (Cc (q.join == p.join) (Gg (decide (q.whr.length ≤ 1000)) (Cc (all2 eqNoP q.whr p.whr) (Cc (winEq q p)
    (Cc (q.byKey == p.byKey) (Cc (decide (q.late = p.late)) (Gg (decide (q.arg.length ≤ 1000)) (Cc (all2 eqNod q.arg p.arg) (Gg (decide (q.whr.length ≤ 1000)) (rb (all2 eqNod q.whr p.whr)))))))))))))))
theorem tTells (q : Qry) (L : List Nod) : runT B lib16 Try.f3 [q.av 0 1 2, .slw 3] (qbs q ++ [nb L]) =
    bif decide ((70 : Int) < (q.arg.length : Int)) then rb true else bif decide ((70 : Int) < (q.whr.length : Int)) then rb true else bif decide ((10 : Int) < (q.src.length : Int)) then rb true else bif decide ((70 : Int) < (L.length : Int)) then rb true else
      Gg (decide (0 + q.arg.length ≤ lim)) (Gg (decide (0 + q.whr.length ≤ lim)) (Gg (decide (0 + q.src.length ≤ lim)) (Cc (decide ((ckE q).1 = (ckE q).1)) (Cc (decide ((ckE q).2 = (ckE q).2)) (Cc (conB L == conB L) (Cc (decide (chkN L = chkN L)) (eqQ q q))))))) := by kernel_rfl
theorem all2_refl {α : Type} {e : α → α → Bool} (h : ∀ x, e x x = true) : ∀ l : List α, all2 e l l = true
  | [] => rfl
  | x :: l => by
    show (e x x && all2 e l l) = true
    rw [h, all2_refl h l]; rfl
theorem eqQ_refl {q : Qry} (h1 : q.arg.length ≤ 1000) (h2 : q.src.length ≤ 1000) (h3 : q.whr.length ≤ 1000) : eqQ q q = rb true := by
  unfold eqQ winEq Cc Gg
  rw [decide_eq_true h1, decide_eq_true h2, decide_eq_true h3, all2_refl (e := eqNoP) (fun x => by simp [eqNoP]), all2_refl (e := eqNoP) (fun x => by simp [eqNoP]), all2_refl (e := eqNod) (fun x => by simp [eqNod]), all2_refl (e := eqNod) (fun x => by simp [eqNod]), all2_refl (e := eqInt) (fun x => by simp [eqInt]),
    decide_eq_true (show q.agg = q.agg from rfl), decide_eq_true (show q.wk = q.wk from rfl), decide_eq_true (show q.ws = q.ws from rfl), decide_eq_true (show q.we = q.we from rfl), decide_eq_true (show q.late = q.late from rfl)]
  cases q.join <;> cases q.byKey <;> rfl
theorem tells_is (q : Qry) (L : List Nod) : runT B lib16 Try.f3 [q.av 0 1 2, .slw 3] (qbs q ++ [nb L]) = rb true := by
  refine (tTells q L).trans ?_
  by_cases h1 : (70 : Int) < (q.arg.length : Int)
  · rw [decide_eq_true h1]; rfl
  rw [decide_eq_false h1]
  by_cases h2 : (70 : Int) < (q.whr.length : Int)
  · rw [decide_eq_true h2]; rfl
  rw [decide_eq_false h2]
  by_cases h3 : (10 : Int) < (q.src.length : Int)
  · rw [decide_eq_true h3]; rfl
  rw [decide_eq_false h3]
  by_cases h4 : (70 : Int) < (L.length : Int)
  · rw [decide_eq_true h4]; rfl
  rw [decide_eq_false h4]
  unfold Gg Cc
  rw [eqQ_refl (by omega) (by omega) (by omega), decide_eq_true (show 0 + q.arg.length ≤ lim by simp only [lim]; omega), decide_eq_true (show 0 + q.whr.length ≤ lim by simp only [lim]; omega), decide_eq_true (show 0 + q.src.length ≤ lim by simp only [lim]; omega),
    decide_eq_true (show (ckE q).1 = (ckE q).1 from rfl), decide_eq_true (show (ckE q).2 = (ckE q).2 from rfl), decide_eq_true (show chkN L = chkN L from rfl)]
  cases conB L <;> rfl
def sTells (_ : Nat → Option Obj) : FSpec
  | [.agg [.int .u8 _, .slw 0, .slw 1, .bool _, .slw 2, .int .u8 _, .int .i64 _, .int .i64 _, .bool _, .int .u8 _], .slw 3], [⟨false, .nodes _⟩, ⟨false, .ints .i64 _⟩, ⟨false, .nodes _⟩, ⟨false, .nodes _⟩] => .leaf ⟨[.bool true], []⟩
  | _, _ => .bad
theorem okTells : FnOk (E0 B) 3 (sTells B) := by
  refine fnT lib16_ok Try.func3 (by kernel_rfl) (by kernel_rfl) fun vs bs r h => ?_
  unfold sTells at h
  split at h
  · rename_i ag j wk ws we bk lt A S W L
    simp only [T.sel, Option.some.injEq] at h; subst h
    exact tells_is ⟨ag, A, S, j, W, wk, ws, we, bk, lt⟩ L
  · simp [T.sel] at h
end Go.Proofs.Ythfieonkfailkaa
