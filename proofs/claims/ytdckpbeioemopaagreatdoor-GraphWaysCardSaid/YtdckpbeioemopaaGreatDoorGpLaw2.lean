/-
  GraphParts: at every plan.
-/
import Derived.Test.YtdckpbeioemopaaGreatDoorGpA
import Derived.Test.YtdckpbeioemopaaGreatDoorAmPlan
namespace Go.Proofs.YtdckpbeioemopaaGreatDoor.Gp
open Go.Am Go Go.Proofs.YtdckpbeioemopaaGreatDoor Go.Proofs.YtdckpbeioemopaaGreatDoor.Gr Go.Proofs.YtdckpbeioemopaaGreatDoor.Gf
set_option maxRecDepth 100000
variable {B : Nat → Option Obj}
theorem fitB_of {st : List Int} {q : Qry} {p room : Int} (h : fitB st q p room = true) : st.length ≤ 30 ∧ Pl.plE st q = 0 ∧ 1 ≤ p ∧ p ≤ 3 ∧ 1 ≤ room ∧ room ≤ 8 := by
  unfold fitB at h
  simp only [Bool.and_eq_true, decide_eq_true_eq] at h
  obtain ⟨_, _, _, h1, h2, h3, h4, h5, h6⟩ := h
  exact ⟨by omega, h2, h3, h4, h5, h6⟩
theorem okG_of {st : List Int} {q : Qry} {p room : Int} (h : fitB st q p room = true) : okG st q p room = true := by
  obtain ⟨h1, h2, h3, h4, h5, h6⟩ := fitB_of h
  unfold okG
  rw [decide_eq_true h2, decide_eq_true (show st.length ≤ 1000 ∧ 1 ≤ p ∧ p ≤ 3 ∧ 1 ≤ room ∧ room ≤ 8 from ⟨by omega, h3, h4, h5, h6⟩)]; rfl
theorem byt_all {st : List Int} (hb : bytWf st) : st.all inByte = true := List.all_eq_true.2 fun x hx => by simpa [inByte, Lit.wf, IntKind.min, IntKind.max, IntKind.signed, IntKind.bits] using hb x hx
end Go.Proofs.YtdckpbeioemopaaGreatDoor.Gp
