/-
  Texts put together: CloneFn, LitPln.
-/
import Derived.Test.YtfniiapkghpihaaGreatDoorNodB
import Derived.WalkKit
import Derived.Laws.AppendOwn
import Derived.Lib.SliceRun
import Derived.Lib.Walk
import Derived.Test.YtfniiapkghpihaaGreatDoorLibA
import Derived.Test.YtfniiapkghpihaaGreatDoorLitA
/-
  slices.Clone of nodes, whatever their number: what comes back is told as lent.
-/
namespace Go.Proofs.YtfniiapkghpihaaGreatDoor
open Go.RowKit Go.Am
set_option maxRecDepth 100000
variable {B : Nat → Option Obj}
theorem uSlN : Tryz.prog.underlying 23 = some (.slice 60) := by kernel_rfl
theorem infN : ∃ i0, Tryz.prog.info? 60 = some i0 ∧ (∃ z, i0.zero = some z ∧ z.cells.size = 5) ∧ i0.size = 5 := by
  have h : (match Tryz.prog.info? 60 with | some i => (match i.zero with | some z => Nat.beq z.cells.size 5 | none => false) && Nat.beq i.size 5 | none => false) = true := by kernel_rfl
  cases hi : Tryz.prog.info? 60 with
  | none => rw [hi] at h; cases h
  | some i =>
    rw [hi] at h
    cases hz : i.zero with
    | none => simp [hz] at h
    | some z =>
      simp only [hz, Bool.and_eq_true] at h
      exact ⟨i, rfl, ⟨z, hz, Nat.eq_of_beq_eq_true h.1⟩, Nat.eq_of_beq_eq_true h.2⟩
theorem clone_none (n c : Nat) (w : World) : Calls Tryz.prog 39 #[.slice none n c] w fun e w' => e = .returned (.slice none 0 0) ∧ w' = w := by
  have q22 : ∀ (w : World) (a : Option Addr) (n c n' c' : Nat), (binOp .eql 23 (.slice a n c) (.slice none n' c')).run Tryz.prog w = .ok (.bool a.isNone) w := fun w a n c n' c' => Lib.run_eql_slice_nil w _ _ a n c n' c' uSlN
  go_enter Tryz.func39, Tryz.ntmps39
  go_wp2
  go_ret
  exact ⟨rfl, rfl⟩
theorem clone_zero (a : Addr) (c : Nat) (w : World) : Calls Tryz.prog 39 #[.slice (some a) 0 c] w fun e w' => ∃ v', e = .returned v' ∧ w'.ownsRow w.heap.size 60 5 v' 0 [] ∧ Below w.heap.size w w' := by
  have q22 : ∀ (w : World) (a : Option Addr) (n c n' c' : Nat), (binOp .eql 23 (.slice a n c) (.slice none n' c')).run Tryz.prog w = .ok (.bool a.isNone) w := fun w a n c n' c' => Lib.run_eql_slice_nil w _ _ a n c n' c' uSlN
  have u22 : ∀ w, Sem.run Tryz.prog (underlying 23) w = .ok (TypeDesc.slice 60) w := run_underlying uSlN
  obtain ⟨i0, hi, ⟨z, hz0, hzs⟩, hz1⟩ := infN
  go_enter Tryz.func39, Tryz.ntmps39
  go_wp2_with (at_builtin; refine wpList_append_own _ rfl _ _ 23 rfl w.heap.size 60 i0 z 5 i0.bytes uSlN hi hz0 hz1 rfl hzs (by decide) _ _ _ rfl (World.ownsRow_made w #[] 0 (Nat.le_refl _) (Nat.zero_le _) rfl) a 0 c [] rfl rfl (by intro j u hj; simp at hj) (by intro u hu; cases hu) (by unfold maxLen; omega) (by omega) (by simp) ?_)
  intro v' w1 hown hgrow hnil
  go_wp2
  go_ret
  refine ⟨v', rfl, by simpa using hown, ?_⟩
  exact ((Below.refl _ w).alloc (Nat.le_refl _) _).grown hgrow (by simp) (by intro k hk; simp [Value.ownBlock] at hk; omega)
theorem clone_empty (a : Option Addr) (c : Nat) (w : World) : Calls Tryz.prog 39 #[.slice a 0 c] w fun e w' => ∃ p : Pos, p.stride = 5 ∧ p.len = 0 ∧ p.cap ≤ maxLen ∧ (∃ v', e = .returned v' ∧ SlV p 0 0 v') ∧ Below w.heap.size w w' := by
  cases a with
  | none =>
    refine (clone_none 0 c w).mono fun e w' ⟨he, hw⟩ => ⟨⟨0, 0, 5, 0, 0⟩, rfl, rfl, Nat.zero_le _, ⟨_, he, ?_⟩, hw ▸ Below.refl _ _⟩
    exact ⟨none, rfl, fun h => absurd h (by simp)⟩
  | some a =>
    refine (clone_zero a c w).mono fun e w' ⟨v', he, ho, hw⟩ => ?_
    obtain ⟨_, ⟨rfl, _⟩ | ⟨g, cap, cur, rfl, _, _, _, hcap, _, _⟩⟩ := ho
    · exact ⟨⟨0, 0, 5, 0, 0⟩, rfl, rfl, Nat.zero_le _, ⟨_, he, none, rfl, fun h => absurd h (by simp)⟩, hw⟩
    · exact ⟨⟨g, 0, 5, 0, cap⟩, rfl, rfl, hcap, ⟨_, he, some ⟨g, 0, none⟩, rfl, fun _ => by simp [Pos.addr]⟩, hw⟩
def sClone0 : FSpec
  | [.slw 0], [⟨false, .nodes []⟩] => .leaf ⟨[.slw 0], [⟨false, .nodes []⟩]⟩
  | _, _ => .bad
theorem okClone0 : FnOk (E0 B) 39 sClone0 := by
  refine fnOk_empty (fnAt_mk (fn := Tryz.f39) Tryz.func39 (by kernel_rfl) (by kernel_rfl)) (d := .nodes []) rfl fun vs bs out hsel => ?_
  unfold sClone0 at hsel
  split at hsel
  · simp only [T.sel, Option.some.injEq] at hsel
    refine ⟨rfl, hsel.symm, fun w cargs ps hc hv => ?_⟩
    simp only [VL] at hv
    obtain ⟨v, r, rfl, hv0, rfl⟩ := hv
    simp only [V] at hv0
    obtain ⟨p, hp, hle, a, rfl, ha⟩ := hv0
    obtain ⟨q, hq, hs, hl, hcap, hmax⟩ := hc.sat.pos 0 _ (show blkH [⟨false, .nodes []⟩] 0 = some ⟨false, .nodes []⟩ from rfl)
    rw [hp] at hq; cases hq
    have hl : p.len = 0 := hl
    rw [hl]
    refine (clone_empty a _ w).mono fun e w' ⟨p', h1, h2, h3, ⟨v', he, hV⟩, hb⟩ => ⟨p', v', he, h1, h2, h3, hV, hb⟩
  · simp [T.sel] at hsel
/-- a copy of nodes -/
def sCloneA : FSpec
  | [.slw 0], [⟨false, .nodes L⟩] => .node (decide (L.length ≤ 1000)) (.leaf ⟨[.slw 0], [⟨false, .nodes L⟩]⟩) .bad
  | _, _ => .bad
def sClone1 : FSpec
  | [.slw 0], [⟨false, .nodes L⟩] => .node (decide (0 < L.length ∧ L.length ≤ 1000)) (.leaf ⟨[.slw 0], [⟨false, .nodes L⟩]⟩) .bad
  | _, _ => .bad
theorem okClone1 : FnOk (E0 B) 39 sClone1 := fnOk_lend okClone fun vs bs o' h => by
  unfold sClone1 at h
  split at h
  · rename_i L
    rcases T.node_sel h with ⟨hc, h2⟩ | ⟨_, h2⟩
    · simp only [T.sel, Option.some.injEq] at h2; subst h2
      exact ⟨⟨[.slw 0], [⟨true, .nodes L⟩]⟩, by show (bif decide _ then _ else _) = _; rw [hc]; rfl, rfl, rfl⟩
    · simp [T.sel] at h2
  · simp [T.sel] at h
theorem okCloneA : FnOk (E0 B) 39 sCloneA := by
  refine ⟨okClone.1, fun vs bs out hsel => ?_⟩
  unfold sCloneA at hsel
  split at hsel
  · rename_i L
    rcases T.node_sel hsel with ⟨hc, h2⟩ | ⟨_, h2⟩
    · have hc := of_decide_eq_true hc
      simp only [T.sel, Option.some.injEq] at h2; subst h2
      cases L with
      | nil => exact okClone0.2 _ _ _ rfl
      | cons x r => exact okClone1.2 _ _ _ (by show (bif decide _ then _ else _) = _; rw [decide_eq_true (show 0 < (x :: r).length ∧ (x :: r).length ≤ 1000 from ⟨by simp, hc⟩)]; rfl)
    · simp [T.sel] at h2
  · simp [T.sel] at hsel
end Go.Proofs.YtfniiapkghpihaaGreatDoor
/-
  Plans: the examples; PlanNames.
-/
namespace Go.Proofs.YtfniiapkghpihaaGreatDoor
open Go.Am Go
set_option maxRecDepth 100000
variable {B : Nat → Option Obj}
noncomputable def libEp : Tb := (39, [], sCloneA) :: (42, [1], sWS) :: (44, [1], sBStr bTys 5) :: (70, [], sNm) :: libE
theorem libEp_ok (hB : Laid B) : TbOk B libEp := ((((libE_ok hB).add okNm).add strOk).add (okWS hB)).add okCloneA
theorem tAl22 : runT B libEp Tryz.f18 [] [] = rb true := by kernel_rfl
theorem okAl22 (hB : Laid B) : FnOk (E0 B) 18 sTrueF := by
  refine fnT (libEp_ok hB) Tryz.func18 (by kernel_rfl) (by kernel_rfl) fun vs bs r h => ?_
  unfold sTrueF at h
  split at h
  · simp only [T.sel, Option.some.injEq] at h; subst h; exact tAl22
  · simp [T.sel] at h
end Go.Proofs.YtfniiapkghpihaaGreatDoor
