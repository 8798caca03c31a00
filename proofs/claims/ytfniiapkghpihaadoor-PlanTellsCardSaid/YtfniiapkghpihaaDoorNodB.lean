/-
  Texts put together: NodMake, NodMake2, NodSame.
-/
import Derived.Test.YtfniiapkghpihaaDoorNodA
import Derived.Test.YtfniiapkghpihaaDoorLibA
import Derived.Test.YtfniiapkghpihaaDoorExA
/-
  Nodes: Parts, Clone, moved by contract.
-/
namespace Go.Proofs.YtfniiapkghpihaaDoor
open Go.Am
set_option maxRecDepth 100000
variable {B : Nat → Option Obj}
def inb' {α : Type} (i : Int) (n : Nat) (r : Option α) : Option α := bif decide (0 ≤ i ∧ i < (n : Int)) then (bif decide (i.toNat < n) then r else none) else none
theorem inb'_is {α : Type} {i n : Nat} (h : i < n) (r : Option α) : inb' (i : Int) n r = r := in_range h r
def pr2 (n e : Int) : Option Out := some ⟨[i64 n, i64 e], []⟩
theorem tPrt (k : Int) : runT B lib5 Tryd.f83 [.int .u8 k] [] =
    bif decide (1 ≤ k) then (bif decide (k ≤ 4) then pr2 0 0 else bif decide (k = 5) then pr2 1 0 else bif decide (k = 6) then pr2 1 0 else bif decide (7 ≤ k) then (bif decide (k ≤ 19) then pr2 2 0 else pr2 0 2) else pr2 0 2)
    else bif decide (k = 5) then pr2 1 0 else bif decide (k = 6) then pr2 1 0 else bif decide (7 ≤ k) then (bif decide (k ≤ 19) then pr2 2 0 else pr2 0 2) else pr2 0 2 := by kernel_rfl
def sPrt : FSpec
  | [.int .u8 k], [] => .leaf ⟨[.int .i64 (bif knOk k then prt k else 0), .int .i64 (bif knOk k then 0 else 2)], []⟩
  | _, _ => .bad
theorem okPrt : FnOk (E0 B) 83 sPrt := by
  refine fnT lib5_ok Tryd.func83 (by kernel_rfl) (by kernel_rfl) fun vs bs r h => ?_
  unfold sPrt at h
  split at h
  · rename_i k
    simp only [T.sel, Option.some.injEq] at h; subst h
    refine (tPrt k).trans ?_
    unfold knOk prt
    by_cases h1 : 1 ≤ k
    · by_cases h4 : k ≤ 4
      · rw [decide_eq_true h1, decide_eq_true h4, decide_eq_true (show k ≤ 19 by omega)]; rfl
      · by_cases h5 : k = 5
        · subst h5; rfl
        · by_cases h6 : k = 6
          · subst h6; rfl
          · by_cases h19 : k ≤ 19
            · rw [decide_eq_true h1, decide_eq_false h4, decide_eq_false h5, decide_eq_false h6, decide_eq_true (show 7 ≤ k by omega), decide_eq_true h19, decide_eq_false (show ¬ k ≤ 6 by omega)]; rfl
            · rw [decide_eq_true h1, decide_eq_false h4, decide_eq_false h5, decide_eq_false h6, decide_eq_true (show 7 ≤ k by omega), decide_eq_false h19]; rfl
    · rw [decide_eq_false h1, decide_eq_false (show ¬ k = 5 by omega), decide_eq_false (show ¬ k = 6 by omega), decide_eq_false (show ¬ 7 ≤ k by omega)]; rfl
  · simp [T.sel] at h
theorem tClone (L : List Nod) : runT B lib5 Tryd.f14 [.slw 0] [⟨false, .nodes L⟩] =
    bif decide (0 < L.length) then (bif decide (0 + L.length ≤ lim) then some ⟨[.slw 0], [⟨true, .nodes L⟩]⟩ else none) else none := by kernel_rfl
def sClone : FSpec
  | [.slw 0], [⟨false, .nodes L⟩] => .node (decide (0 < L.length ∧ L.length ≤ 1000)) (.leaf ⟨[.slw 0], [⟨true, .nodes L⟩]⟩) .bad
  | _, _ => .bad
theorem okClone : FnOk (E0 B) 14 sClone := by
  refine fnT lib5_ok Tryd.func14 (by kernel_rfl) (by kernel_rfl) fun vs bs r h => ?_
  unfold sClone at h
  split at h
  · rename_i L
    rcases T.node_sel h with ⟨hc, h2⟩ | ⟨_, h2⟩
    · simp only [T.sel, Option.some.injEq] at h2; subst h2
      obtain ⟨h0, h1⟩ := of_decide_eq_true hc
      refine (tClone L).trans ?_
      rw [decide_eq_true h0, decide_eq_true (show 0 + L.length ≤ lim by simp only [lim]; omega)]; rfl
    · simp [T.sel] at h2
  · simp [T.sel] at h
noncomputable def lib6 : Tb := (83, [], sPrt) :: (14, [], sClone) :: lib5
theorem lib6_ok : TbOk B lib6 := lib5_ok.add okClone |>.add okPrt
/-! moved -/
def ob (L : List Nod) : Blk := ⟨true, .nodes L⟩
noncomputable def lib7 : Tb := lib6
theorem lib7_ok : TbOk B lib7 := lib6_ok
end Go.Proofs.YtfniiapkghpihaaDoor
/-
  Nodes: Node by contract: nodes are made of trees.
-/
namespace Go.Proofs.YtfniiapkghpihaaDoor
open Go.Am
set_option maxRecDepth 100000
variable {B : Nat → Option Obj}
def bdN (e : Int) : Option Out := some ⟨[.slw 0, i64 e], [ob []]⟩
def qN (p : Int) (K : Option Out) : Option Out := bif decide (p < 0) then bdN 2 else bif decide (400 < p) then bdN 2 else K
def ndN (cnt k n p : Int) (K : Option Out) : Option Out := bif !decide ((bif knOk k then (0 : Int) else 2) = 0) then bdN 2 else bif !decide ((bif knOk k then prt k else 0) = cnt) then bdN 2 else bif decide (n < 0) then bdN 2 else
  bif decide (0 < n) then (bif !decide (k = 1) then bdN 2 else qN p K) else qN p K
/-! trees -/
theorem chk_ok {e : Ex} (h : e.ok = true) (hc : chkN (e.flat 0) = 0) : e.size ≤ 60 ∧ e.depth ≤ 20 := by
  rw [chkN_flat h] at hc
  cases h1 : decide (60 < e.size) with
  | true => rw [h1] at hc; cases hc
  | false =>
    cases h2 : decide (20 < e.depth) with
    | true => rw [h1, h2] at hc; cases hc
    | false =>
      have := of_decide_eq_false h1
      have := of_decide_eq_false h2
      omega
/-! the contract -/
noncomputable def lib8 : Tb := lib7
theorem lib8_ok : TbOk B lib8 := lib7_ok
end Go.Proofs.YtfniiapkghpihaaDoor
/-
  Nodes: Same by contract.
-/
namespace Go.Proofs.YtfniiapkghpihaaDoor
open Go.Am
set_option maxRecDepth 100000
variable {B : Nat → Option Obj}
def ndb (X : List Nod) : Blk := ⟨false, .nodes X⟩
/-! Same -/
end Go.Proofs.YtfniiapkghpihaaDoor
