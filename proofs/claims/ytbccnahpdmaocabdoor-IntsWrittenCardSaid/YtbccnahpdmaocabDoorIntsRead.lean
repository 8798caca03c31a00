/-
  Ints: the program's Read, by contract.
-/
import Derived.Test.YtbccnahpdmaocabDoorIntsDo
import Derived.Test.YtbccnahpdmaocabDoorIntsText
namespace Go.Proofs.YtbccnahpdmaocabDoor
open Go.Am
set_option maxRecDepth 100000
variable {B : Nat → Option Obj}
noncomputable abbrev C0 (B : Nat → Option Obj) : CallR := specC (E0 B) (tab [])
theorem c0Ok : CG (E0 B) (C0 B) := specC_ok fun _ _ => tab_nil
def xA (e : AExit) (l : List AV) : Option (AExit × Out) := some (e, ⟨l, []⟩)
/-! the program's Read -/
def sRead : FSpec
  | [.str s], [] => .node (decide (s.length ≤ lim)) (.leaf ⟨[i64 (rdN s), i64 (rdE s)], []⟩) .bad
  | _, _ => .bad
theorem tRead (s : List UInt8) : runT B lAll Tryd.f6 [.str s] [] =
    bif decide (s = []) then rp 0 12 else bif decide (s.length ≤ lim ∧ digits = digits) then (bif fails (decide (Lib.trimS s digits = [])) then rp 0 12 else
      bif decide (s.length ≤ lim) && (decide ((10 : Int) = 10) && decide ((64 : Int) = 64)) then (bif pOk s then rp (pVal s) 0 else rp 0 16) else none) else none := by kernel_rfl
theorem read_eq {s : List UInt8} (hs : s.length ≤ lim) : runT B lAll Tryd.f6 [.str s] [] = rp (rdN s) (rdE s) := by
  refine (tRead s).trans ?_
  unfold rdN rdE
  by_cases h0 : s = []
  · subst h0; rfl
  · have h1 : decide (s = []) = false := decide_eq_false h0
    rw [h1, cond_false, decide_eq_true (show s.length ≤ lim ∧ digits = digits from ⟨hs, rfl⟩), cond_true, decide_eq_true hs]
    simp only [Bool.false_or]
    by_cases h2 : s.all isDig = true
    · have h3 : decide (Lib.trimS s digits = []) = true := decide_eq_true ((trim_digs s).2 h2)
      rw [h3, h2]
      have hp := parse_digs h0 h2
      unfold pOk pVal
      rw [hp]
      cases rdF 0 s <;> rfl
    · have h3 : decide (Lib.trimS s digits = []) = false := decide_eq_false fun h => h2 ((trim_digs s).1 h)
      have h4 : s.all isDig = false := by simpa using h2
      rw [h3, h4]; rfl
theorem okRead (hB : Laid B) : FnOk (E0 B) 6 sRead := by
  refine fnT (lAll_ok hB) Tryd.func6 (by kernel_rfl) (by kernel_rfl) fun vs bs r h => ?_
  unfold sRead at h
  split at h
  · rename_i s
    rcases T.node_sel h with ⟨hc, h2⟩ | ⟨_, h2⟩
    · simp only [T.sel, Option.some.injEq] at h2; subst h2
      exact read_eq (of_decide_eq_true hc)
    · simp [T.sel] at h2
  · simp [T.sel] at h

theorem drop_cons {s : List UInt8} {i : Nat} {c : UInt8} {r : List UInt8} (h : s.drop i = c :: r) : i < s.length ∧ s.getD i 0 = c ∧ s.drop (i + 1) = r := by
  have hlt : i < s.length := by
    rcases Nat.lt_or_ge i s.length with h1 | h1
    · exact h1
    · rw [List.drop_eq_nil_of_le h1] at h; cases h
  rw [List.drop_eq_getElem_cons hlt] at h
  cases h
  exact ⟨hlt, by simp [List.getD, hlt], rfl⟩
theorem w64_i {i : Int} (h0 : 0 ≤ i) (h1 : i ≤ lim) : w64 (i + 1) = i + 1 := by
  apply w64_rng; unfold Rng; simp only [lim] at h1; omega
end Go.Proofs.YtbccnahpdmaocabDoor
