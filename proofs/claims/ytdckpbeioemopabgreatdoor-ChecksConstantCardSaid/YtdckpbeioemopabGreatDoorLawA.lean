/-
  Texts put together: PrsLaws, PrsLawB, PrsWeak, PrsAsk.
-/
import Derived.Test.YtdckpbeioemopabGreatDoorPrsD
import Derived.Test.YtdckpbeioemopabGreatDoorPureB
import Derived.Test.YtdckpbeioemopabGreatDoorLxB
namespace Go.Proofs.YtdckpbeioemopabGreatDoor
open Go.Am
set_option maxRecDepth 100000
variable {B : Nat → Option Obj}
end Go.Proofs.YtdckpbeioemopabGreatDoor
namespace Go.Proofs.YtdckpbeioemopabGreatDoor
open Go.Am Go
set_option maxRecDepth 100000
variable {B : Nat → Option Obj}
def sTrueF : FSpec
  | [], [] => .leaf ⟨[.bool true], []⟩
  | _, _ => .bad
structure Lexd (l : List Pc) : Prop where
  tk : lexL (pcsS l) = pcsT 0 l
  e : lexE (pcsS l) = 0
  s : shortT (pcsT 0 l) = true
  v : (pcsT 0 l).all okV = true
  n : (pcsT 0 l).length ≤ 200
end Go.Proofs.YtdckpbeioemopabGreatDoor
namespace Go.Proofs.YtdckpbeioemopabGreatDoor
open Go.Am Go
set_option maxRecDepth 100000
variable {B : Nat → Option Obj}
end Go.Proofs.YtdckpbeioemopabGreatDoor
namespace Go.Proofs.YtdckpbeioemopabGreatDoor
open Go.Am Go
set_option maxRecDepth 100000
variable {B : Nat → Option Obj}
noncomputable def bEq : Code := loopAt 4 (loopsOf (bodyC Tryz.f28))
def sgEq : LSig := { cs := [(0, 22), (1, 22)], mv := [(5, 0)], mo := [(4, 0)], take := [] }
theorem turnEq (L M : List Nod) (i : Int) : (turn (E0 B) (Cx B lib5) noL 26 sgEq bEq [.slw 0, .slw 1, i64 i] [⟨false, .nodes L⟩, ⟨false, .nodes M⟩]).sel =
    bif decide (i < (L.length : Int)) then inb' i L.length (inb' i M.length (bif !eqNod (L.getD i.toNat default) (M.getD i.toNat default) then some (.ret, ⟨[.bool false], []⟩) else some (.normal, ⟨[.slw 0, .slw 1, i64 (w64 (i + 1))], [⟨false, .nodes L⟩, ⟨false, .nodes M⟩]⟩))) else some (.exit 0, ⟨[.any], []⟩) := by kernel_rfl
def spEq : LSpec
  | [.slw 0, .slw 1, .int .i64 i], [⟨false, .nodes L⟩, ⟨false, .nodes M⟩] => .node (decide (i = 0 ∧ L.length = M.length ∧ L.length ≤ 1000)) (.node (all2 eqNod L M) (.leaf (.exit 0, ⟨[.any], []⟩)) (.leaf (.ret, ⟨[.bool false], []⟩))) .bad
  | _, _ => .bad
theorem loopEq : LoopOk (E0 B) 26 sgEq bEq spEq := by
  refine loop_turns (C := Cx B lib5) (L := noL) (cxOk lib5_ok) (noL_ok _) fun vs bs e o h => ?_
  unfold spEq at h
  split at h
  · rename_i i L M
    rcases T.node_sel h with ⟨hc, h2⟩ | ⟨_, h2⟩
    · obtain ⟨rfl, hlm, hl⟩ := of_decide_eq_true hc
      obtain ⟨m, hm⟩ := scan_turns (E := E0 B) (C := Cx B lib5) (L := noL) (n := 26) (sg := sgEq) (body := bEq) (st := fun i => [.slw 0, .slw 1, i64 i]) (bs := [⟨false, .nodes L⟩, ⟨false, .nodes M⟩]) (len := L.length)
        (bad := fun j => !eqNod (L.getD j default) (M.getD j default)) (ob := fun _ => ⟨[.bool false], []⟩) (k := 0) (oe := ⟨[.any], []⟩) (fun i hi => by
          rw [turnEq]
          by_cases h : i < L.length
          · rw [decide_eq_true h, decide_eq_true (show (i : Int) < (L.length : Int) by omega), cond_true, inb'_is h, inb'_is (show i < M.length by omega), w64_rng (show Rng ((i : Int) + 1) by unfold Rng; omega)]; rfl
          · rw [decide_eq_false h, decide_eq_false (show ¬ (i : Int) < (L.length : Int) by omega)]; rfl) L.length 0 (by omega)
      refine ⟨m, hm.trans ?_⟩
      rw [first2 hlm, ← h2]
      simp only [T.sel]
      cases all2 eqNod L M <;> rfl
    · simp [T.sel] at h2
  · simp [T.sel] at h
noncomputable def eEq : LEnt := { id := 4, n := 26, sg := sgEq, wr := writes bEq, s := spEq }
theorem tEq (L M : List Nod) : runL B lib5 [eEq] Tryz.f28 [.slw 0, .slw 1] [⟨false, .nodes L⟩, ⟨false, .nodes M⟩] =
    bif !decide ((L.length : Int) = (M.length : Int)) then rb false else bif decide ((0 : Int) = 0 ∧ L.length = M.length ∧ L.length ≤ 1000) then (bif all2 eqNod L M then rb true else rb false) else none := by kernel_rfl
def sEqN : FSpec
  | [.slw 0, .slw 1], [⟨false, .nodes L⟩, ⟨false, .nodes M⟩] => .node (decide (L.length ≤ 1000)) (.leaf ⟨[.bool (all2 eqNod L M)], []⟩) .bad
  | _, _ => .bad
theorem okFEq : FnOk (E0 B) 28 sEqN := by
  refine fnL lib5_ok (ls := [eEq]) Tryz.func28 (by kernel_rfl) (by kernel_rfl) (fun x hx => ?_) fun vs bs r h => ?_
  · simp only [List.mem_singleton] at hx; subst hx
    exact ⟨bEq, by kernel_rfl, rfl, loopEq⟩
  unfold sEqN at h
  split at h
  · rename_i L M
    rcases T.node_sel h with ⟨hc, h2⟩ | ⟨_, h2⟩
    · simp only [T.sel, Option.some.injEq] at h2; subst h2
      refine (tEq L M).trans ?_
      by_cases hl : L.length = M.length
      · rw [decide_eq_true (show (L.length : Int) = (M.length : Int) by omega), decide_eq_true (show (0 : Int) = 0 ∧ L.length = M.length ∧ L.length ≤ 1000 from ⟨rfl, hl, of_decide_eq_true hc⟩)]
        cases all2 eqNod L M <;> rfl
      · rw [decide_eq_false (show ¬ (L.length : Int) = (M.length : Int) by omega)]
        cases ha : all2 eqNod L M with
        | false => rfl
        | true => exact (hl (all2_len ha)).elim
    · simp [T.sel] at h2
  · simp [T.sel] at h
noncomputable def libA : Tb := (54, [], Lx.sValidL) :: lib5
def longT (L : List Tok) : Bool := L.all fun t => decide (t.text.length ≤ Lx.lim2)
noncomputable def bAk : Code := loopAt 4 (loopsOf (bodyC Tryz.f22))
def sgAk : LSig := { cs := [(0, 51)], mv := [(5, 0)], mo := [(4, 0)], take := [] }
def akB (L : List Tok) (i : Int) (x y : Option (AExit × Out)) : Option (AExit × Out) := bif decide ((tokA L i).text.length ≤ Lx.lim2) then (bif !decide (tokE (tokA L i).kind (tokA L i).text = 0) then x else inb' i L.length (bif decide ((tokA L i).pos < 0) then x else inb' i L.length (bif decide (400 < (tokA L i).pos) then x else y))) else none
theorem turnAk (L : List Tok) (i : Int) : (turn (E0 B) (Cx B libA) noL 45 sgAk bAk [.slw 0, i64 i] [tkb L]).sel =
    bif decide (i < (L.length : Int)) then inb' i L.length (akB L i (some (.ret, ⟨[i64 8], []⟩)) (some (.normal, ⟨[.slw 0, i64 (w64 (i + 1))], [tkb L]⟩))) else some (.exit 0, ⟨[.any], []⟩) := by kernel_rfl
def spAk : LSpec
  | [.slw 0, .int .i64 i], [⟨false, .toks L⟩] => .node (decide (i = 0 ∧ L.length ≤ 200) && longT L) (.node (L.all okV) (.leaf (.exit 0, ⟨[.any], []⟩)) (.leaf (.ret, ⟨[i64 8], []⟩))) .bad
  | _, _ => .bad
noncomputable def eAk : LEnt := { id := 4, n := 45, sg := sgAk, wr := writes bAk, s := spAk }
def rI (n : Int) : Option Out := some ⟨[i64 n], []⟩
end Go.Proofs.YtdckpbeioemopabGreatDoor
