/-
  PlanTells: from what a row lists to what the contracts ask.
-/
import Derived.Test.YtfniiapkghpihaaDoorNodBase
import Derived.Stop.LaidErr
import Derived.LaidSub
namespace Go.Proofs.YtfniiapkghpihaaDoor
open Go.Am Go.RowKit
set_option maxRecDepth 100000
theorem var_of {w W : World} {name : String} {g : Nat} (hn : Tryd.prog.globalNamed name = some g) (h : w.heap[g]? = W.heap[g]?) : w.var? Tryd.prog name = W.var? Tryd.prog name := by
  unfold World.var?
  rw [hn]
  simp only [Option.bind_some]
  rw [h]
theorem var_lt {W : World} {name : String} {g : Nat} {cs : Array Value} (hn : Tryd.prog.globalNamed name = some g) (h : W.var? Tryd.prog name = some cs) : g < W.heap.size := by
  unfold World.var? at h
  rw [hn] at h
  simp only [Option.bind_some] at h
  rcases Nat.lt_or_ge g W.heap.size with h1 | h1
  · exact h1
  · rw [Array.getElem?_eq_none h1] at h; cases h
theorem gPow : Tryd.prog.globalNamed "internal/strconv.uint64pow10" = some 0 := by kernel_rfl
def only (n : String) (l : List (String × DataW Unit)) : List (String × DataW Unit) := l.filter fun x => x.1 == n
theorem laidOf {l : List (String × DataW Unit)} {W : World} (hL : laidMet Tryd.prog l W)
    (h0 : only "internal/strconv.uint64pow10" l = [("internal/strconv.uint64pow10", Lib.tabData .u64 Lib.pow10Tab)]) : Laid (fun g => W.heap[g]?) ∧ ngN ≤ W.heap.size := by
  have l0 := laidMet.filter (fun x => x.1 == "internal/strconv.uint64pow10") hL
  rw [show l.filter _ = _ from h0] at l0
  have t0 : Lib.TabIs Tryd.prog W "internal/strconv.uint64pow10" .u64 Lib.pow10Tab := Lib.tabIs_of_head (n := 20) (t := 140) (e := 122) gPow (by kernel_rfl) Tryd.underlying140 Tryd.underlying122 (by kernel_rfl) (by kernel_rfl) l0
  refine ⟨⟨fun w hw => ?_⟩, ?_⟩
  · unfold Lib.TabIs at t0 ⊢
    rw [var_of gPow (hw _ (by decide))]; exact t0
  · have b0 := var_lt gPow t0
    simp only [ngN, ngP]; omega
theorem gokOf {W : World} (h : ngN ≤ W.heap.size) : GOk (E0 fun g => W.heap[g]?) (fun _ => False) W :=
  ⟨fun g d hg => (by cases hg), h, fun g _ => rfl, fun _ h => h.elim⟩
end Go.Proofs.YtfniiapkghpihaaDoor
