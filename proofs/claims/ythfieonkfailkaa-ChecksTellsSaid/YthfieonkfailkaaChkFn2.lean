/-
  Lists compared, by contract; what fits, by contract.
-/
import Derived.Test.YthfieonkfailkaaChkFn
namespace Go.Proofs.Ythfieonkfailkaa
open Go.Am
set_option maxRecDepth 100000
variable {B : Nat → Option Obj}
def eqNoP (x y : Nod) : Bool := decide (x.kind = y.kind) && (decide (x.n = y.n) && (decide (x.a = y.a) && (decide (x.b = y.b) && true)))
def eqInt (x y : Int) : Bool := decide (x = y)
def sgEq : LSig := { cs := [(0, 22), (1, 22)], mv := [(5, 0)], mo := [(4, 0)], take := [] }
def sgSs : LSig := { cs := [(0, 23), (1, 23)], mv := [(5, 0)], mo := [(4, 0)], take := [] }
/-! Equal -/
noncomputable def bEq : Code := loopAt 4 (loopsOf (bodyC Try.f34))
theorem turnEq (L M : List Nod) (i : Int) : (turn (E0 B) (Cx B lib9) noL 26 sgEq bEq [.slw 0, .slw 1, i64 i] [⟨false, .nodes L⟩, ⟨false, .nodes M⟩]).sel =
    bif decide (i < (L.length : Int)) then inb i L.length (inb i M.length (bif !eqNod (L.getD i.toNat default) (M.getD i.toNat default) then some (.ret, ⟨[.bool false], []⟩) else some (.normal, ⟨[.slw 0, .slw 1, i64 (w64 (i + 1))], [⟨false, .nodes L⟩, ⟨false, .nodes M⟩]⟩))) else some (.exit 0, ⟨[.any], []⟩) := by kernel_rfl
def spEq : LSpec
  | [.slw 0, .slw 1, .int .i64 i], [⟨false, .nodes L⟩, ⟨false, .nodes M⟩] => .node (decide (i = 0 ∧ L.length = M.length ∧ L.length ≤ 1000)) (.node (all2 eqNod L M) (.leaf (.exit 0, ⟨[.any], []⟩)) (.leaf (.ret, ⟨[.bool false], []⟩))) .bad
  | _, _ => .bad
theorem loopEq : LoopOk (E0 B) 26 sgEq bEq spEq := by
  refine loop_turns (C := Cx B lib9) (L := noL) (cxOk lib9_ok) (noL_ok _) fun vs bs e o h => ?_
  unfold spEq at h
  split at h
  · rename_i i L M
    rcases T.node_sel h with ⟨hc, h2⟩ | ⟨_, h2⟩
    · obtain ⟨rfl, hlm, hl⟩ := of_decide_eq_true hc
      obtain ⟨m, hm⟩ := scan_turns (E := E0 B) (C := Cx B lib9) (L := noL) (n := 26) (sg := sgEq) (body := bEq) (st := fun i => [.slw 0, .slw 1, i64 i]) (bs := [⟨false, .nodes L⟩, ⟨false, .nodes M⟩]) (len := L.length)
        (bad := fun j => !eqNod (L.getD j default) (M.getD j default)) (ob := fun _ => ⟨[.bool false], []⟩) (k := 0) (oe := ⟨[.any], []⟩) (fun i hi => by
          rw [turnEq]
          by_cases h : i < L.length
          · rw [decide_eq_true h, decide_eq_true (show (i : Int) < (L.length : Int) by omega), cond_true, inb_is h, inb_is (show i < M.length by omega), w64_rng (show Rng ((i : Int) + 1) by unfold Rng; omega)]; rfl
          · rw [decide_eq_false h, decide_eq_false (show ¬ (i : Int) < (L.length : Int) by omega)]; rfl) L.length 0 (by omega)
      refine ⟨m, hm.trans ?_⟩
      rw [first2 hlm, ← h2]
      simp only [T.sel]
      cases all2 eqNod L M <;> rfl
    · simp [T.sel] at h2
  · simp [T.sel] at h
noncomputable def eEq : LEnt := { id := 4, n := 26, sg := sgEq, wr := writes bEq, s := spEq }
theorem tEq (L M : List Nod) : runL B lib9 [eEq] Try.f34 [.slw 0, .slw 1] [⟨false, .nodes L⟩, ⟨false, .nodes M⟩] =
    bif !decide ((L.length : Int) = (M.length : Int)) then rb false else bif decide ((0 : Int) = 0 ∧ L.length = M.length ∧ L.length ≤ 1000) then (bif all2 eqNod L M then rb true else rb false) else none := by kernel_rfl
def sEq : FSpec
  | [.slw 0, .slw 1], [⟨false, .nodes L⟩, ⟨false, .nodes M⟩] => .node (decide (L.length ≤ 1000)) (.leaf ⟨[.bool (all2 eqNod L M)], []⟩) .bad
  | _, _ => .bad
theorem okFEq : FnOk (E0 B) 34 sEq := by
  refine fnL lib9_ok (ls := [eEq]) Try.func34 (by kernel_rfl) (by kernel_rfl) (fun x hx => ?_) fun vs bs r h => ?_
  · simp only [List.mem_singleton] at hx; subst hx
    exact ⟨bEq, by kernel_rfl, rfl, loopEq⟩
  unfold sEq at h
  split at h
  · rename_i L M
    rcases T.node_sel h with ⟨hc, h2⟩ | ⟨_, h2⟩
    · simp only [T.sel, Option.some.injEq] at h2; subst h2
      refine (tEq L M).trans ?_
      by_cases hl : L.length = M.length
      · rw [decide_eq_true (show (L.length : Int) = (M.length : Int) by omega), decide_eq_true (show (0 : Int) = 0 ∧ L.length = M.length ∧ L.length ≤ 1000 from ⟨rfl, hl, of_decide_eq_true hc⟩)]
        cases all2 eqNod L M <;> rfl
      · rw [decide_eq_false (show ¬ (L.length : Int) = (M.length : Int) by omega)]
        cases ha : all2 eqNod L M with
        | false => rfl
        | true => exact (hl (all2_len ha)).elim
    · simp [T.sel] at h2
  · simp [T.sel] at h
/-! Alike -/
noncomputable def bAk : Code := loopAt 4 (loopsOf (bodyC Try.f52))
theorem turnAk (L M : List Nod) (i : Int) : (turn (E0 B) (Cx B lib9) noL 32 sgEq bAk [.slw 0, .slw 1, i64 i] [⟨false, .nodes L⟩, ⟨false, .nodes M⟩]).sel =
    bif decide (i < (L.length : Int)) then inb i L.length (inb i M.length (bif !eqNoP (L.getD i.toNat default) (M.getD i.toNat default) then some (.ret, ⟨[.bool false], []⟩) else some (.normal, ⟨[.slw 0, .slw 1, i64 (w64 (i + 1))], [⟨false, .nodes L⟩, ⟨false, .nodes M⟩]⟩))) else some (.exit 0, ⟨[.any], []⟩) := by kernel_rfl
def spAk : LSpec
  | [.slw 0, .slw 1, .int .i64 i], [⟨false, .nodes L⟩, ⟨false, .nodes M⟩] => .node (decide (i = 0 ∧ L.length = M.length ∧ L.length ≤ 1000)) (.node (all2 eqNoP L M) (.leaf (.exit 0, ⟨[.any], []⟩)) (.leaf (.ret, ⟨[.bool false], []⟩))) .bad
  | _, _ => .bad
theorem loopAk : LoopOk (E0 B) 32 sgEq bAk spAk := by
  refine loop_turns (C := Cx B lib9) (L := noL) (cxOk lib9_ok) (noL_ok _) fun vs bs e o h => ?_
  unfold spAk at h
  split at h
  · rename_i i L M
    rcases T.node_sel h with ⟨hc, h2⟩ | ⟨_, h2⟩
    · obtain ⟨rfl, hlm, hl⟩ := of_decide_eq_true hc
      obtain ⟨m, hm⟩ := scan_turns (E := E0 B) (C := Cx B lib9) (L := noL) (n := 32) (sg := sgEq) (body := bAk) (st := fun i => [.slw 0, .slw 1, i64 i]) (bs := [⟨false, .nodes L⟩, ⟨false, .nodes M⟩]) (len := L.length)
        (bad := fun j => !eqNoP (L.getD j default) (M.getD j default)) (ob := fun _ => ⟨[.bool false], []⟩) (k := 0) (oe := ⟨[.any], []⟩) (fun i hi => by
          rw [turnAk]
          by_cases h : i < L.length
          · rw [decide_eq_true h, decide_eq_true (show (i : Int) < (L.length : Int) by omega), cond_true, inb_is h, inb_is (show i < M.length by omega), w64_rng (show Rng ((i : Int) + 1) by unfold Rng; omega)]; rfl
          · rw [decide_eq_false h, decide_eq_false (show ¬ (i : Int) < (L.length : Int) by omega)]; rfl) L.length 0 (by omega)
      refine ⟨m, hm.trans ?_⟩
      rw [first2 hlm, ← h2]
      simp only [T.sel]
      cases all2 eqNoP L M <;> rfl
    · simp [T.sel] at h2
  · simp [T.sel] at h
noncomputable def eAk : LEnt := { id := 4, n := 32, sg := sgEq, wr := writes bAk, s := spAk }
theorem tAk (L M : List Nod) : runL B lib9 [eAk] Try.f52 [.slw 0, .slw 1] [⟨false, .nodes L⟩, ⟨false, .nodes M⟩] =
    bif !decide ((L.length : Int) = (M.length : Int)) then rb false else bif decide ((0 : Int) = 0 ∧ L.length = M.length ∧ L.length ≤ 1000) then (bif all2 eqNoP L M then rb true else rb false) else none := by kernel_rfl
def sAk : FSpec
  | [.slw 0, .slw 1], [⟨false, .nodes L⟩, ⟨false, .nodes M⟩] => .node (decide (L.length ≤ 1000)) (.leaf ⟨[.bool (all2 eqNoP L M)], []⟩) .bad
  | _, _ => .bad
theorem okFAk : FnOk (E0 B) 52 sAk := by
  refine fnL lib9_ok (ls := [eAk]) Try.func52 (by kernel_rfl) (by kernel_rfl) (fun x hx => ?_) fun vs bs r h => ?_
  · simp only [List.mem_singleton] at hx; subst hx
    exact ⟨bAk, by kernel_rfl, rfl, loopAk⟩
  unfold sAk at h
  split at h
  · rename_i L M
    rcases T.node_sel h with ⟨hc, h2⟩ | ⟨_, h2⟩
    · simp only [T.sel, Option.some.injEq] at h2; subst h2
      refine (tAk L M).trans ?_
      by_cases hl : L.length = M.length
      · rw [decide_eq_true (show (L.length : Int) = (M.length : Int) by omega), decide_eq_true (show (0 : Int) = 0 ∧ L.length = M.length ∧ L.length ≤ 1000 from ⟨rfl, hl, of_decide_eq_true hc⟩)]
        cases all2 eqNoP L M <;> rfl
      · rw [decide_eq_false (show ¬ (L.length : Int) = (M.length : Int) by omega)]
        cases ha : all2 eqNoP L M with
        | false => rfl
        | true => exact (hl (all2_len ha)).elim
    · simp [T.sel] at h2
  · simp [T.sel] at h
/-! SameSources -/
noncomputable def bSs : Code := loopAt 4 (loopsOf (bodyC Try.f53))
theorem turnSs (L M : List Int) (i : Int) : (turn (E0 B) (Cx B lib9) noL 26 sgSs bSs [.slw 0, .slw 1, i64 i] [⟨false, .ints .i64 L⟩, ⟨false, .ints .i64 M⟩]).sel =
    bif decide (i < (L.length : Int)) then inb i L.length (inb i M.length (bif !eqInt (L.getD i.toNat 0) (M.getD i.toNat 0) then some (.ret, ⟨[.bool false], []⟩) else some (.normal, ⟨[.slw 0, .slw 1, i64 (w64 (i + 1))], [⟨false, .ints .i64 L⟩, ⟨false, .ints .i64 M⟩]⟩))) else some (.exit 0, ⟨[.any], []⟩) := by kernel_rfl
def spSs : LSpec
  | [.slw 0, .slw 1, .int .i64 i], [⟨false, .ints .i64 L⟩, ⟨false, .ints .i64 M⟩] => .node (decide (i = 0 ∧ L.length = M.length ∧ L.length ≤ 1000)) (.node (all2 eqInt L M) (.leaf (.exit 0, ⟨[.any], []⟩)) (.leaf (.ret, ⟨[.bool false], []⟩))) .bad
  | _, _ => .bad
theorem loopSs : LoopOk (E0 B) 26 sgSs bSs spSs := by
  refine loop_turns (C := Cx B lib9) (L := noL) (cxOk lib9_ok) (noL_ok _) fun vs bs e o h => ?_
  unfold spSs at h
  split at h
  · rename_i i L M
    rcases T.node_sel h with ⟨hc, h2⟩ | ⟨_, h2⟩
    · obtain ⟨rfl, hlm, hl⟩ := of_decide_eq_true hc
      obtain ⟨m, hm⟩ := scan_turns (E := E0 B) (C := Cx B lib9) (L := noL) (n := 26) (sg := sgSs) (body := bSs) (st := fun i => [.slw 0, .slw 1, i64 i]) (bs := [⟨false, .ints .i64 L⟩, ⟨false, .ints .i64 M⟩]) (len := L.length)
        (bad := fun j => !eqInt (L.getD j default) (M.getD j default)) (ob := fun _ => ⟨[.bool false], []⟩) (k := 0) (oe := ⟨[.any], []⟩) (fun i hi => by
          rw [turnSs]
          by_cases h : i < L.length
          · rw [decide_eq_true h, decide_eq_true (show (i : Int) < (L.length : Int) by omega), cond_true, inb_is h, inb_is (show i < M.length by omega), w64_rng (show Rng ((i : Int) + 1) by unfold Rng; omega)]; rfl
          · rw [decide_eq_false h, decide_eq_false (show ¬ (i : Int) < (L.length : Int) by omega)]; rfl) L.length 0 (by omega)
      refine ⟨m, hm.trans ?_⟩
      rw [first2 hlm, ← h2]
      simp only [T.sel]
      cases all2 eqInt L M <;> rfl
    · simp [T.sel] at h2
  · simp [T.sel] at h
noncomputable def eSs : LEnt := { id := 4, n := 26, sg := sgSs, wr := writes bSs, s := spSs }
theorem tSs (L M : List Int) : runL B lib9 [eSs] Try.f53 [.slw 0, .slw 1] [⟨false, .ints .i64 L⟩, ⟨false, .ints .i64 M⟩] =
    bif !decide ((L.length : Int) = (M.length : Int)) then rb false else bif decide ((0 : Int) = 0 ∧ L.length = M.length ∧ L.length ≤ 1000) then (bif all2 eqInt L M then rb true else rb false) else none := by kernel_rfl
def sSs : FSpec
  | [.slw 0, .slw 1], [⟨false, .ints .i64 L⟩, ⟨false, .ints .i64 M⟩] => .node (decide (L.length ≤ 1000)) (.leaf ⟨[.bool (all2 eqInt L M)], []⟩) .bad
  | _, _ => .bad
theorem okFSs : FnOk (E0 B) 53 sSs := by
  refine fnL lib9_ok (ls := [eSs]) Try.func53 (by kernel_rfl) (by kernel_rfl) (fun x hx => ?_) fun vs bs r h => ?_
  · simp only [List.mem_singleton] at hx; subst hx
    exact ⟨bSs, by kernel_rfl, rfl, loopSs⟩
  unfold sSs at h
  split at h
  · rename_i L M
    rcases T.node_sel h with ⟨hc, h2⟩ | ⟨_, h2⟩
    · simp only [T.sel, Option.some.injEq] at h2; subst h2
      refine (tSs L M).trans ?_
      by_cases hl : L.length = M.length
      · rw [decide_eq_true (show (L.length : Int) = (M.length : Int) by omega), decide_eq_true (show (0 : Int) = 0 ∧ L.length = M.length ∧ L.length ≤ 1000 from ⟨rfl, hl, of_decide_eq_true hc⟩)]
        cases all2 eqInt L M <;> rfl
      · rw [decide_eq_false (show ¬ (L.length : Int) = (M.length : Int) by omega)]
        cases ha : all2 eqInt L M with
        | false => rfl
        | true => exact (hl (all2_len ha)).elim
    · simp [T.sel] at h2
  · simp [T.sel] at h
/-! what fits -/
theorem tGv (k : Int) : runT B lib9 Try.f78 [.int .u8 k] [] = bif decide (k = 6) then rb true else rb (decide (12 ≤ k)) := by kernel_rfl
def sGv : FSpec
  | [.int .u8 k], [] => .leaf ⟨[.bool (givesN k)], []⟩
  | _, _ => .bad
theorem okGives : FnOk (E0 B) 78 sGv := by
  refine fnT lib9_ok Try.func78 (by kernel_rfl) (by kernel_rfl) fun vs bs r h => ?_
  unfold sGv at h
  split at h
  · rename_i k
    simp only [T.sel, Option.some.injEq] at h; subst h
    refine (tGv k).trans ?_
    unfold givesN
    cases decide (k = 6) <;> rfl
  · simp [T.sel] at h
noncomputable def lib10 : Tb := (78, [], sGv) :: (34, [], sEq) :: (52, [], sAk) :: (53, [], sSs) :: lib9
theorem lib10_ok : TbOk B lib10 := lib9_ok.add okFSs |>.add okFAk |>.add okFEq |>.add okGives
end Go.Proofs.Ythfieonkfailkaa
