/-
  AM: from a law's contract to the call that its statement asks for.
-/
import Derived.Test.YtbccnahpdmaocaaAmUse
import Derived.RowKit3
namespace Go.Am
open Go.RowKit

theorem grown_of {w w' : World} (h : Ext (fun _ => False) w w') : Grown w w' := by
  refine ⟨⟨h.os, h.output, fun i hi => ?_⟩, h.frozen, h.size⟩
  rw [h.block i hi (fun h => h)]
  cases w.heap[i]? with
  | none => rfl
  | some o => cases o <;> first | exact ⟨rfl, rfl, rfl, fun _ _ => rfl⟩ | exact .inr ⟨rfl, rfl⟩ | rfl

/-- a law that answers true -/
theorem law_calls {E : Env} {f : FuncId} {s : FSpec} (h : FnOk E f s) {ras : List RA} (hs : (s ras).sel = some (.one (.c (.bool true)))) {w : World} {cargs : List Value} {ps : List Pos} (hg : GOk E (fun _ => False) w) (hr : RdAs w ras cargs ps) :
    Calls E.P f cargs.toArray w fun e w' => e = .returned (.bool true) ∧ Grown w w' := by
  refine (h.2 ras _ hs w cargs ps hg hr).mono fun e w' ⟨cv, qs, he, hext, hrv, _⟩ => ?_
  obtain ⟨rfl, _⟩ : cv = .bool true ∧ qs = [] := hrv
  exact ⟨he, grown_of hext⟩
/-- no package-level variable is told -/
theorem gok_free {E : Env} (h0 : E.ng = 0) (h1 : ∀ g, E.glob g = none) (w : World) : GOk E (fun _ => False) w :=
  ⟨fun g d hg => (by rw [h1] at hg; cases hg), (by rw [h0]; exact Nat.zero_le _), fun _ h => h.elim⟩
theorem rdAs_cons {w : World} {x : RA} {r : List RA} {v : Value} {us : List Value} {p q : List Pos} (h : RdA w x v p) (h' : RdAs w r us q) : RdAs w (x :: r) (v :: us) (p ++ q) := ⟨v, us, p, q, rfl, rfl, h, h'⟩
theorem rdAs_nil {w : World} : RdAs w [] [] [] := ⟨rfl, rfl⟩
theorem rd_int {w : World} (k : IntKind) (n : Int) : RdA w (.c (.int k n)) (.int k n) [] := ⟨rfl, rfl⟩
theorem rd_bool {w : World} (b : Bool) : RdA w (.c (.bool b)) (.bool b) [] := ⟨rfl, rfl⟩
theorem rd_str {w : World} (s : List UInt8) : RdA w (.c (.str s)) (.string ⟨s.toArray⟩) [] := ⟨rfl, rfl⟩

/-- a function without loops, by its text -/
theorem fn_ok {E : Env} {C : CallR} {f : FuncId} {fn : Func} {c : Code} (h1 : E.P.funcs[f]? = some fn) (h2 : fn.body = some c) (h3 : (fn.name == "runtime.NumGoroutine") = false) (hC : CallOk E C) {l : List LEnt} (hL : LoopsOk E (loopL E l) c) {s : FSpec}
    (hspec : ∀ ras r, (s ras).sel = some r → (fnRun E C (loopL E l) fn c ras).sel = some r) : FnOk E f s :=
  fnRun_ok ⟨h1, h2, by simpa using h3⟩ hC hL hspec
end Go.Am
