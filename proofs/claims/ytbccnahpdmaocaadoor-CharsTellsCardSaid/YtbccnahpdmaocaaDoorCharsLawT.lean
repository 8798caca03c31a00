/-
  Chars: CharsTells answers true.
-/
import Derived.Test.YtbccnahpdmaocaaDoorCharsRef
namespace Go.Proofs.YtbccnahpdmaocaaDoor
open Go.Am
set_option maxRecDepth 100000
variable {B : Nat → Option Obj}
theorem tTells (c a : Int) (s w : List UInt8) : runT B lib6 Tryd.f4 [.int .u8 c, .str s, .str w, .int .i64 a] [] =
    bif decide ((400 : Int) < (s.length : Int)) then rb true else bif decide ((400 : Int) < (w.length : Int)) then rb true else bif decide ((s.length : Int) ≤ 900) then
      (bif decide (kindN c = kindN c) then (bif decide (symN s a = symN s a) then (bif decide (symE s a = symE s a) then rb (isWord w == isWord w) else rb false) else rb false) else rb false) else none := by kernel_rfl
theorem tells_true {c a : Int} {s w : List UInt8} : runT B lib6 Tryd.f4 [.int .u8 c, .str s, .str w, .int .i64 a] [] = rb true := by
  rw [tTells]
  by_cases h1 : (400 : Int) < (s.length : Int)
  · rw [decide_eq_true h1]; rfl
  by_cases h2 : (400 : Int) < (w.length : Int)
  · rw [decide_eq_false h1, decide_eq_true h2]; rfl
  rw [decide_eq_false h1, decide_eq_false h2, decide_eq_true (show (s.length : Int) ≤ 900 from by omega), decide_eq_true rfl, decide_eq_true rfl, decide_eq_true rfl]
  simp only [cond_true, cond_false, beq_self_eq_true]
end Go.Proofs.YtbccnahpdmaocaaDoor
