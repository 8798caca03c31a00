/-
  IntsDoes: each function that the law reaches, told by its text.
-/
import Derived.Test.YtbccnahpdmaocaaProg
import Derived.Test.YtbccnahpdmaocaaAmEnd
namespace Go.Proofs.Ytbccnahpdmaocaa
open Go.Am
set_option maxRecDepth 100000
set_option linter.unusedVariables false

def iter {α : Type} (f : α → α) : Nat → α → α
  | 0, x => x
  | n + 1, x => iter f n (f x)
def w64 (n : Int) : Int := IntKind.i64.wrap n
def dbl (x : Int) : Int := w64 (x + x)
def half (b : Int) : Int := bif decide (b.tmod 2 < 0) then w64 (w64 (b.tdiv 2) - 1) else w64 (b.tdiv 2)
def count (b : Int) : Int := w64 ((IntKind.u64.wrap b).tmod 64)
def i64 (n : Int) : RA := .c (.int .i64 n)

noncomputable def E0 : Env := { P := Try.prog, kind := fun _ => .gen 1, ng := 0, glob := fun _ => none }
noncomputable abbrev Cx (l : List (FuncId × FSpec)) : CallR := specC E0 (tab l)
noncomputable abbrev Lx (l : List LEnt) : LoopR := loopL E0 l

def sTruth : FSpec
  | [.c (.bool b)] => .leaf (.one (i64 (bif b then 1 else 0)))
  | _ => .bad
theorem t6 (b : Bool) : (fnRun E0 (Cx []) (Lx []) Try.f6 (bodyC Try.f6) [.c (.bool b)]).sel = some (.one (i64 (bif b then 1 else 0))) := by cases b <;> kernel_rfl
theorem ok6 : FnOk E0 6 sTruth := by
  refine fn_ok (fn := Try.f6) (c := bodyC Try.f6) Try.func6 (by kernel_rfl) (by kernel_rfl) (specC_ok fun _ _ => tab_nil) (l := []) (loopsOk_nil (by kernel_rfl)) fun ras r h => ?_
  unfold sTruth at h
  split at h
  · simp only [T.sel, Option.some.injEq] at h; subst h; exact t6 _
  · simp [T.sel] at h
theorem t8 (b : Bool) : (fnRun E0 (Cx []) (Lx []) Try.f8 (bodyC Try.f8) [.c (.bool b)]).sel = some (.one (i64 (bif b then 1 else 0))) := by cases b <;> kernel_rfl
theorem ok8 : FnOk E0 8 sTruth := by
  refine fn_ok (fn := Try.f8) (c := bodyC Try.f8) Try.func8 (by kernel_rfl) (by kernel_rfl) (specC_ok fun _ _ => tab_nil) (l := []) (loopsOk_nil (by kernel_rfl)) fun ras r h => ?_
  unfold sTruth at h
  split at h
  · simp only [T.sel, Option.some.injEq] at h; subst h; exact t8 _
  · simp [T.sel] at h
def sCount : FSpec
  | [.c (.int .i64 b)] => .leaf (.one (i64 (count b)))
  | _ => .bad
theorem t10 (b : Int) : (fnRun E0 (Cx []) (Lx []) Try.f10 (bodyC Try.f10) [i64 b]).sel = some (.one (i64 (count b))) := by kernel_rfl
theorem ok10 : FnOk E0 10 sCount := by
  refine fn_ok (fn := Try.f10) (c := bodyC Try.f10) Try.func10 (by kernel_rfl) (by kernel_rfl) (specC_ok fun _ _ => tab_nil) (l := []) (loopsOk_nil (by kernel_rfl)) fun ras r h => ?_
  unfold sCount at h
  split at h
  · simp only [T.sel, Option.some.injEq] at h; subst h; exact t10 _
  · simp [T.sel] at h
def sHalf : FSpec
  | [.c (.int .i64 b)] => .leaf (.one (i64 (half b)))
  | _ => .bad
theorem t11 (b : Int) : (fnRun E0 (Cx []) (Lx []) Try.f11 (bodyC Try.f11) [i64 b]).sel = bif decide (b.tmod 2 < 0) then some (.one (i64 (w64 (w64 (b.tdiv 2) - 1)))) else some (.one (i64 (w64 (b.tdiv 2)))) := by kernel_rfl
theorem ok11 : FnOk E0 11 sHalf := by
  refine fn_ok (fn := Try.f11) (c := bodyC Try.f11) Try.func11 (by kernel_rfl) (by kernel_rfl) (specC_ok fun _ _ => tab_nil) (l := []) (loopsOk_nil (by kernel_rfl)) fun ras r h => ?_
  unfold sHalf at h
  split at h
  · rename_i b
    simp only [T.sel, Option.some.injEq] at h; subst h
    refine (t11 b).trans ?_
    unfold half
    cases decide (b.tmod 2 < 0) <;> rfl
  · simp [T.sel] at h

/-! power -/
noncomputable def b9 : Code := loopAt 3 (loopsOf (bodyC Try.f9))
def sg9 : LSig := { mv := [(3, 2), (4, 3)], cs := [(0, 3)], mo := [(3, 2)] }
theorem turn9 (x i n : Int) : (turn E0 (Cx []) (Lx []) 14 sg9 b9 [i64 x, i64 i] [i64 n]).sel = bif decide (i < n) then some (.normal, [i64 (dbl x), i64 (w64 (i + 1))]) else some (.exit 0, [i64 x]) := by kernel_rfl
def s9 : LSpec
  | [.c (.int .i64 x), .c (.int .i64 i)], [.c (.int .i64 n)] => .node (decide (0 ≤ i ∧ i ≤ n ∧ n ≤ 64)) (.leaf (.exit 0, [i64 (iter dbl (n - i).toNat x)])) .bad
  | _, _ => .bad
theorem w64_small {n : Int} (h0 : -1000 ≤ n) (h1 : n ≤ 1000) : w64 n = n := by
  unfold w64; rw [IntKind.wrap_i64]; omega
theorem loop9 : LoopOk E0 14 sg9 b9 s9 := by
  refine loop_turns (C := Cx []) (L := Lx []) (specC_ok fun _ _ => tab_nil) (loopsOk_nil (by kernel_rfl)) (by intro p hp; simp only [sg9, List.mem_singleton] at hp; subst hp; rw [show writes b9 = [5, 6, 7, 10, 11, 12, 3, 8, 9, 4] from by kernel_rfl]; decide) fun m c e y h => ?_
  unfold s9 at h
  split at h
  · rename_i x i n
    cases hc : decide (0 ≤ i ∧ i ≤ n ∧ n ≤ 64) with
    | false => simp [hc, T.sel] at h
    | true =>
      simp only [T.sel, hc, cond_true, Option.some.injEq, Prod.mk.injEq] at h
      obtain ⟨rfl, rfl⟩ := h
      obtain ⟨h0, h1, h2⟩ := of_decide_eq_true hc
      clear hc
      generalize hk : (n - i).toNat = k
      induction k generalizing x i with
      | zero =>
        refine ⟨1, turns_done ?_ (by simp)⟩
        have hd : decide (i < n) = false := by simp; omega
        refine (turn9 x i n).trans ?_
        rw [hd]; rfl
      | succ k ih =>
        have hd : decide (i < n) = true := by simp; omega
        have ht := turn9 x i n
        rw [hd, cond_true, w64_small (by omega) (by omega)] at ht
        obtain ⟨k', hk'⟩ := ih (dbl x) (i + 1) (by omega) (by omega) (by omega)
        exact ⟨k' + 1, turns_more ht hk'⟩
  · simp [T.sel] at h
def e9 : LEnt := { id := 3, n := 14, sg := sg9, wr := [5, 6, 7, 10, 11, 12, 3, 8, 9, 4], s := s9 }
def sPower : FSpec
  | [.c (.int .i64 n)] => .node (decide (0 ≤ n ∧ n ≤ 64)) (.leaf (.one (i64 (iter dbl n.toNat 1)))) .bad
  | _ => .bad
theorem t9 (n : Int) : (fnRun E0 (Cx []) (Lx [e9]) Try.f9 (bodyC Try.f9) [i64 n]).sel = bif decide (0 ≤ (0 : Int) ∧ 0 ≤ n ∧ n ≤ 64) then some (.one (i64 (iter dbl (n - 0).toNat 1))) else none := by kernel_rfl
theorem ok9 : FnOk E0 9 sPower := by
  refine fn_ok (fn := Try.f9) (c := bodyC Try.f9) Try.func9 (by kernel_rfl) (by kernel_rfl) (specC_ok fun _ _ => tab_nil) (l := [e9]) (loopL_one (b := b9) (by kernel_rfl) (by kernel_rfl) loop9) fun ras r h => ?_
  unfold sPower at h
  split at h
  · rename_i n
    cases hc : decide (0 ≤ n ∧ n ≤ 64) with
    | false => simp [hc, T.sel] at h
    | true =>
      simp only [T.sel, hc, cond_true, Option.some.injEq] at h
      subst h
      refine (t9 n).trans ?_
      have := of_decide_eq_true hc
      rw [show decide (0 ≤ (0 : Int) ∧ 0 ≤ n ∧ n ≤ 64) = true from by simp; omega, cond_true, Int.sub_zero]
  · simp [T.sel] at h

/-! comparisons -/
def cmp (k a b : Int) : Bool :=
  bif decide (k = 12) then decide (a < b) else bif decide (k = 13) then decide (a < b) || decide (a = b) else bif decide (k = 14) then decide (b < a)
  else bif decide (k = 15) then decide (b < a) || decide (a = b) else bif decide (k = 16) then decide (a = b) else !decide (a = b)
def sCmp : FSpec
  | [.c (.int .u8 k), .c (.int .i64 a), .c (.int .i64 b)] => .leaf (.one (.c (.bool (cmp k a b))))
  | _ => .bad
def rb (b : Bool) : Option RV := some (.one (.c (.bool b)))
theorem t12 (k a b : Int) : (fnRun E0 (Cx []) (Lx []) Try.f12 (bodyC Try.f12) [.c (.int .u8 k), i64 a, i64 b]).sel =
    bif decide (k = 12) then rb (decide (a < b)) else bif decide (k = 13) then (bif decide (a < b) then rb true else rb (bif false then true else decide (a = b)))
    else bif decide (k = 14) then rb (decide (b < a)) else bif decide (k = 15) then (bif decide (b < a) then rb true else rb (bif false then true else decide (a = b)))
    else bif decide (k = 16) then rb (decide (a = b)) else rb (!decide (a = b)) := by kernel_rfl
theorem ok12 : FnOk E0 12 sCmp := by
  refine fn_ok (fn := Try.f12) (c := bodyC Try.f12) Try.func12 (by kernel_rfl) (by kernel_rfl) (specC_ok fun _ _ => tab_nil) (l := []) (loopsOk_nil (by kernel_rfl)) fun ras r h => ?_
  unfold sCmp at h
  split at h
  · rename_i k a b
    simp only [T.sel, Option.some.injEq] at h; subst h
    refine (t12 k a b).trans ?_
    unfold cmp rb
    cases decide (k = 12) <;> cases decide (k = 13) <;> cases decide (k = 14) <;> cases decide (k = 15) <;> cases decide (k = 16) <;> cases decide (a < b) <;> cases decide (b < a) <;> cases decide (a = b) <;> rfl
  · simp [T.sel] at h

/-! the reference's answer -/
noncomputable def l7 : List (FuncId × FSpec) := [(8, sTruth), (9, sPower), (10, sCount), (11, sHalf), (12, sCmp)]
theorem C7 : CallOk E0 (Cx l7) := specC_ok (tab_ok (by
  intro x hx
  simp only [l7, List.mem_cons, List.mem_nil_iff, or_false] at hx
  rcases hx with rfl | rfl | rfl | rfl | rfl
  · exact ok8
  · exact ok9
  · exact ok10
  · exact ok11
  · exact ok12))
noncomputable def b7 : Code := loopAt 16 (loopsOf (bodyC Try.f7))
def sg7 : LSig := { mv := [(7, 3), (1, 2)], cs := [(2, 2)], mo := [(1, 2)] }
theorem turn7 (i a b : Int) : (turn E0 (Cx l7) (Lx []) 74 sg7 b7 [i64 i, i64 a] [i64 b]).sel = bif decide (i < count b) then some (.normal, [i64 (w64 (i + 1)), i64 (half a)]) else some (.exit 1, [i64 a]) := by kernel_rfl
def s7 : LSpec
  | [.c (.int .i64 i), .c (.int .i64 a)], [.c (.int .i64 b)] => .node (decide (0 ≤ i ∧ i ≤ count b ∧ count b ≤ 64)) (.leaf (.exit 1, [i64 (iter half (count b - i).toNat a)])) .bad
  | _, _ => .bad
theorem loop7 : LoopOk E0 74 sg7 b7 s7 := by
  refine loop_turns (C := Cx l7) (L := Lx []) C7 (loopsOk_nil (by kernel_rfl)) (by intro p hp; simp only [sg7, List.mem_singleton] at hp; subst hp; rw [show writes b7 = [42, 43, 44, 45, 48, 49, 1, 46, 47, 7] from by kernel_rfl]; decide) fun m c e y h => ?_
  unfold s7 at h
  split at h
  · rename_i i a b
    cases hc : decide (0 ≤ i ∧ i ≤ count b ∧ count b ≤ 64) with
    | false => simp [hc, T.sel] at h
    | true =>
      simp only [T.sel, hc, cond_true, Option.some.injEq, Prod.mk.injEq] at h
      obtain ⟨rfl, rfl⟩ := h
      obtain ⟨h0, h1, h2⟩ := of_decide_eq_true hc
      clear hc
      generalize hk : (count b - i).toNat = k
      induction k generalizing a i with
      | zero =>
        refine ⟨1, turns_done ?_ (by simp)⟩
        have hd : decide (i < count b) = false := by simp; omega
        refine (turn7 i a b).trans ?_
        rw [hd]; rfl
      | succ k ih =>
        have hd : decide (i < count b) = true := by simp; omega
        have ht := turn7 i a b
        rw [hd, cond_true, w64_small (by omega) (by omega)] at ht
        obtain ⟨k', hk'⟩ := ih (i + 1) (half a) (by omega) (by omega) (by omega)
        exact ⟨k' + 1, turns_more ht hk'⟩
  · simp [T.sel] at h
def e7 : LEnt := { id := 16, n := 74, sg := sg7, wr := [42, 43, 44, 45, 48, 49, 1, 46, 47, 7], s := s7 }
def ri (n : Int) : Option RV := some (.one (i64 n))
def ti (b : Bool) : Int := bif b then 1 else 0
theorem t7 (k a b : Int) : (fnRun E0 (Cx l7) (Lx [e7]) Try.f7 (bodyC Try.f7) [.c (.int .u8 k), i64 a, i64 b]).sel =
    bif decide (k = 5) then ri (w64 (0 - a)) else bif decide (k = 6) then ri (ti (decide (a = 0))) else bif decide (k = 7) then ri (w64 (a * b)) else bif decide (k = 8) then ri (w64 (a + b)) else bif decide (k = 9) then ri (w64 (a - b))
    else bif decide (k = 10) then (bif decide (0 ≤ count b ∧ count b ≤ 64) then ri (w64 (a * iter dbl (count b).toNat 1)) else none)
    else bif decide (k = 11) then (bif decide (0 ≤ (0 : Int) ∧ 0 ≤ count b ∧ count b ≤ 64) then ri (iter half (count b - 0).toNat a) else none)
    else bif decide (k = 18) then (bif !decide (a = 0) then ri (ti (bif true then !decide (b = 0) else false)) else ri (ti false))
    else bif decide (k = 19) then (bif !decide (a = 0) then ri (ti true) else ri (ti (bif false then true else !decide (b = 0))))
    else ri (ti (cmp k a b)) := by kernel_rfl
end Go.Proofs.Ytbccnahpdmaocaa
