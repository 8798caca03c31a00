/-
  Exprs: from what a row lists to what the contracts ask.
-/
import Derived.Test.YtdckpbeioemopabGreatDoorNodBase
import Derived.Stop.LaidErr
import Derived.LaidSub
namespace Go.Proofs.YtdckpbeioemopabGreatDoor
open Go.Am Go.RowKit
set_option maxRecDepth 100000
theorem var_of {w W : World} {name : String} {g : Nat} (hn : Tryz.prog.globalNamed name = some g) (h : w.heap[g]? = W.heap[g]?) : w.var? Tryz.prog name = W.var? Tryz.prog name := by
  unfold World.var?
  rw [hn]
  simp only [Option.bind_some]
  rw [h]
theorem var_lt {W : World} {name : String} {g : Nat} {cs : Array Value} (hn : Tryz.prog.globalNamed name = some g) (h : W.var? Tryz.prog name = some cs) : g < W.heap.size := by
  unfold World.var? at h
  rw [hn] at h
  simp only [Option.bind_some] at h
  rcases Nat.lt_or_ge g W.heap.size with h1 | h1
  · exact h1
  · rw [Array.getElem?_eq_none h1] at h; cases h
theorem gSp : Tryz.prog.globalNamed "strings.asciiSpace" = some 0 := by kernel_rfl
theorem gPow : Tryz.prog.globalNamed "internal/strconv.uint64pow10" = some 1 := by kernel_rfl
theorem gSyn : Tryz.prog.globalNamed "strconv.ErrSyntax" = some 4 := by kernel_rfl
theorem gRange : Tryz.prog.globalNamed "strconv.ErrRange" = some 5 := by kernel_rfl
theorem star : "*" ++ "errors.errorString" = "*errors.errorString" := by decide
theorem errRow (u : TypeId) (h : Tryz.prog.typeName? 3 u = some "*errors.errorString") : u = 284 :=
  typeName_ptr_named (nm := "errors.errorString") (by rw [star]; kernel_rfl) (by kernel_rfl) (by decide) u (by rw [star]; exact h)
def only (n : String) (l : List (String × DataW Unit)) : List (String × DataW Unit) := l.filter fun x => x.1 == n
theorem laidOf {l : List (String × DataW Unit)} {W : World} (hL : laidMet Tryz.prog l W)
    (h0 : only "internal/strconv.uint64pow10" l = [("internal/strconv.uint64pow10", Lib.tabData .u64 Lib.pow10Tab)])
    (h1 : only "strings.asciiSpace" l = [("strings.asciiSpace", Lib.tabData .u8 Lib.asciiSpaceTab)])
    (h2 : only "strconv.ErrSyntax" l = [("strconv.ErrSyntax", .iface "*errors.errorString" (.ptr (.agg [.lit (.string [105, 110, 118, 97, 108, 105, 100, 32, 115, 121, 110, 116, 97, 120])])))])
    (h3 : only "strconv.ErrRange" l = [("strconv.ErrRange", .iface "*errors.errorString" (.ptr (.agg [.lit (.string [118, 97, 108, 117, 101, 32, 111, 117, 116, 32, 111, 102, 32, 114, 97, 110, 103, 101])])))]) :
    Laid (fun g => W.heap[g]?) ∧ ngN ≤ W.heap.size := by
  have l0 := laidMet.filter (fun x => x.1 == "internal/strconv.uint64pow10") hL
  have l1 := laidMet.filter (fun x => x.1 == "strings.asciiSpace") hL
  have l2 := laidMet.filter (fun x => x.1 == "strconv.ErrSyntax") hL
  have l3 := laidMet.filter (fun x => x.1 == "strconv.ErrRange") hL
  rw [show l.filter _ = _ from h0] at l0
  rw [show l.filter _ = _ from h1] at l1
  rw [show l.filter _ = _ from h2] at l2
  rw [show l.filter _ = _ from h3] at l3
  have t0 : Lib.TabIs Tryz.prog W "internal/strconv.uint64pow10" .u64 Lib.pow10Tab := Lib.tabIs_of_head (n := 20) (t := 235) (e := 199) gPow (by kernel_rfl) Tryz.underlying235 Tryz.underlying199 (by kernel_rfl) (by kernel_rfl) l0
  have t1 : Lib.TabIs Tryz.prog W "strings.asciiSpace" .u8 Lib.asciiSpaceTab := Lib.tabIs_of_head (n := 256) (t := 225) (e := 5) gSp (by kernel_rfl) Tryz.underlying225 Tryz.underlying5 (by kernel_rfl) (by kernel_rfl) l1
  obtain ⟨a2, s2, v2, _⟩ := laid_sentinel (ti := 124) (tp := 284) (te := 286) (ts := 9) l2 gSyn (by kernel_rfl) Tryz.underlying124 errRow Tryz.underlying284 Tryz.underlying286 rfl rfl Tryz.underlying9 (by kernel_rfl) (by kernel_rfl)
  obtain ⟨a3, s3, v3, _⟩ := laid_sentinel (ti := 124) (tp := 284) (te := 286) (ts := 9) l3 gRange (by kernel_rfl) Tryz.underlying124 errRow Tryz.underlying284 Tryz.underlying286 rfl rfl Tryz.underlying9 (by kernel_rfl) (by kernel_rfl)
  refine ⟨⟨fun w hw => ?_, fun w hw c hc => ?_, fun w hw => ?_, fun w hw => ?_⟩, ?_⟩
  · unfold Lib.TabIs at t0 ⊢
    rw [var_of gPow (hw _ (by decide))]; exact t0
  · have t2 : Lib.TabIs Tryz.prog w "strings.asciiSpace" .u8 Lib.asciiSpaceTab := by
      unfold Lib.TabIs at t1 ⊢
      rw [var_of gSp (hw _ (by decide))]; exact t1
    rw [t2.cell gSp c (by rw [Lib.asciiSpaceTab_length]; exact hc), Lib.asciiSpaceTab_at c hc]
  · exact ⟨_, _, (var_of gSyn (hw _ (by decide))).trans v2⟩
  · exact ⟨_, _, (var_of gRange (hw _ (by decide))).trans v3⟩
  · have b0 := var_lt gPow t0
    have b1 := var_lt gSp t1
    have b2 := var_lt gSyn v2
    have b3 := var_lt gRange v3
    simp only [ngN, ngP]; omega
theorem gokOf {W : World} (h : ngN ≤ W.heap.size) : GOk (E0 fun g => W.heap[g]?) (fun _ => False) W :=
  ⟨fun g d hg => (by cases hg), h, fun g _ => rfl, fun _ h => h.elim⟩
end Go.Proofs.YtdckpbeioemopabGreatDoor
