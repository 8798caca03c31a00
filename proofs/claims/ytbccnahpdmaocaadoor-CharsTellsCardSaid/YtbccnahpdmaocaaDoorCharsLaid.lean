/-
  Chars: from what a row lists to what the contracts ask.
-/
import Derived.Test.YtbccnahpdmaocaaDoorCharsBase
import Derived.Stop.LaidErr
import Derived.LaidSub
namespace Go.Proofs.YtbccnahpdmaocaaDoor
open Go.Am Go.RowKit
set_option maxRecDepth 100000

theorem var_of {w W : World} {name : String} {g : Nat} (hn : Tryd.prog.globalNamed name = some g) (h : w.heap[g]? = W.heap[g]?) : w.var? Tryd.prog name = W.var? Tryd.prog name := by
  unfold World.var?
  rw [hn]
  simp only [Option.bind_some]
  rw [h]
theorem var_lt {W : World} {name : String} {g : Nat} {cs : Array Value} (hn : Tryd.prog.globalNamed name = some g) (h : W.var? Tryd.prog name = some cs) : g < W.heap.size := by
  unfold World.var? at h
  rw [hn] at h
  simp only [Option.bind_some] at h
  rcases Nat.lt_or_ge g W.heap.size with h1 | h1
  · exact h1
  · rw [Array.getElem?_eq_none h1] at h; cases h
theorem gSp : Tryd.prog.globalNamed "strings.asciiSpace" = some 0 := by kernel_rfl
def only (n : String) (l : List (String × DataW Unit)) : List (String × DataW Unit) := l.filter fun x => x.1 == n
theorem laidOf {l : List (String × DataW Unit)} {W : World} (hL : laidMet Tryd.prog l W)
    (h1 : only "strings.asciiSpace" l = [("strings.asciiSpace", Lib.tabData .u8 Lib.asciiSpaceTab)]) :
    Laid (fun g => W.heap[g]?) ∧ ngN ≤ W.heap.size := by
  have l1 := laidMet.filter (fun x => x.1 == "strings.asciiSpace") hL
  rw [show l.filter _ = _ from h1] at l1
  have t1 : Lib.TabIs Tryd.prog W "strings.asciiSpace" .u8 Lib.asciiSpaceTab := Lib.tabIs_of_head (n := 256) (t := 67) (e := 5) gSp (by kernel_rfl) Tryd.underlying67 Tryd.underlying5 (by kernel_rfl) (by kernel_rfl) l1
  refine ⟨⟨fun w hw c hc => ?_⟩, ?_⟩
  · have t2 : Lib.TabIs Tryd.prog w "strings.asciiSpace" .u8 Lib.asciiSpaceTab := by
      unfold Lib.TabIs at t1 ⊢
      rw [var_of gSp (hw _ (by decide))]; exact t1
    rw [t2.cell gSp c (by rw [Lib.asciiSpaceTab_length]; exact hc), Lib.asciiSpaceTab_at c hc]
  · have b1 := var_lt gSp t1
    simp only [ngN]; omega
theorem gokOf {W : World} (h : ngN ≤ W.heap.size) : GOk (E0 fun g => W.heap[g]?) (fun _ => False) W :=
  ⟨fun g d hg => (by cases hg), h, fun g _ => rfl, fun _ h => h.elim⟩
end Go.Proofs.YtbccnahpdmaocaaDoor
