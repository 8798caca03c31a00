/-
  Clauses: Same by contract; queries compared with all places.
-/
import Derived.Test.YtdckpbeioemopabGreatDoorTxA
import Derived.Test.YtdckpbeioemopabGreatDoorClsA
namespace Go.Proofs.YtdckpbeioemopabGreatDoor.Sm
open Go.Am Go Go.Proofs.YtdckpbeioemopabGreatDoor
set_option maxRecDepth 100000
variable {B : Nat → Option Obj}
noncomputable def bEf : Code := loopAt 4 (loopsOf (bodyC Tryz.f39))
def sgEf : LSig := { cs := [(1, 22), (2, 0), (15, 22), (16, 0)], mv := [(17, 0)], mo := [(6, 0)], take := [] }
def efV (n i : Int) : List AV := [.slw 0, .fn 40 [] [], .slw 1, i64 n, i64 i]
def eqNb (x y : Nod) : Bool := decide (x.kind = y.kind) && (decide (x.n = y.n) && (decide (x.a = y.a) && (decide (x.b = y.b) && (decide (y.pos = y.pos) && true))))
theorem turnEf (X Y : List Nod) (n i : Int) : (turn (E0 B) (Cx B lib5) noL 32 sgEf bEf (efV n i) [ndb Y, ndb X]).sel =
    bif decide (i < n) then inb' i X.length (inb' i Y.length (bif !eqNb (X.getD i.toNat default) (Y.getD i.toNat default) then some (.ret, ⟨[.bool false], []⟩) else some (.normal, ⟨efV n (w64 (i + 1)), [ndb Y, ndb X]⟩))) else some (.exit 0, ⟨[.any], []⟩) := by kernel_rfl
theorem eqNb_is (x y : Nod) : eqNb x y = eqN x y := by
  unfold eqNb eqN
  rw [decide_eq_true (rfl : y.pos = y.pos), Bool.and_true, Bool.and_true]
  by_cases h1 : x.kind = y.kind <;> by_cases h2 : x.n = y.n <;> by_cases h3 : x.a = y.a <;> by_cases h4 : x.b = y.b <;> simp [h1, h2, h3, h4]
def spEf : LSpec
  | [.slw 0, .fn f [] [], .slw 1, .int .i64 n, .int .i64 i], [⟨false, .nodes Y⟩, ⟨false, .nodes X⟩] => .node (Nat.beq f 40 && decide (n = (X.length : Int) ∧ i = 0 ∧ X.length = Y.length ∧ X.length ≤ 100))
      (.node (all2 eqN X Y) (.leaf (.exit 0, ⟨[.any], []⟩)) (.leaf (.ret, ⟨[.bool false], []⟩))) .bad
  | _, _ => .bad
theorem loopEf : LoopOk (E0 B) 32 sgEf bEf spEf := by
  refine loop_turns (C := Cx B lib5) (L := noL) (cxOk lib5_ok) (noL_ok _) fun vs bs e o h => ?_
  unfold spEf at h
  split at h
  · rename_i f n i Y X
    rcases T.node_sel h with ⟨hc, h2⟩ | ⟨_, h2⟩
    · rw [Bool.and_eq_true] at hc
      have hf := Nat.eq_of_beq_eq_true hc.1
      subst hf
      obtain ⟨rfl, rfl, hl, hL⟩ := of_decide_eq_true hc.2
      obtain ⟨m, hm⟩ := scan_turns (E := E0 B) (C := Cx B lib5) (L := noL) (n := 32) (sg := sgEf) (body := bEf) (st := fun i => efV X.length i) (bs := [ndb Y, ndb X]) (len := X.length) (bad := fun j => !eqN (X.getD j default) (Y.getD j default)) (ob := fun _ => ⟨[.bool false], []⟩) (k := 0) (oe := ⟨[.any], []⟩)
        (fun i hi => by
          refine (turnEf X Y X.length i).trans ?_
          by_cases hlt : i < X.length
          · rw [decide_eq_true (show (i : Int) < (X.length : Int) by omega), decide_eq_true hlt, cond_true, cond_true, inb'_is hlt, inb'_is (by omega), Int.toNat_natCast, eqNb_is, w64_rng (show Rng ((i : Int) + 1) by unfold Rng; omega)]
            rfl
          · rw [decide_eq_false (show ¬ (i : Int) < (X.length : Int) by omega), decide_eq_false hlt]; rfl) X.length 0 (by omega)
      refine ⟨m, hm.trans ?_⟩
      rw [first2 hl, ← h2]
      simp only [T.sel]
      cases all2 eqN X Y <;> rfl
    · simp [T.sel] at h2
  · simp [T.sel] at h
noncomputable def eEf : LEnt := { id := 4, n := 32, sg := sgEf, wr := writes bEf, s := spEf }
theorem tEf (X Y : List Nod) : runL B lib5 [eEf] Tryz.f39 [.slw 0, .slw 1, .fn 40 [] []] [ndb X, ndb Y] =
    bif !decide ((X.length : Int) = (Y.length : Int)) then rb false else bif decide ((X.length : Int) = (X.length : Int) ∧ (0 : Int) = 0 ∧ X.length = Y.length ∧ X.length ≤ 100) then (bif all2 eqN X Y then rb true else rb false) else none := by kernel_rfl
def sEf : FSpec
  | [.slw 0, .slw 1, .fn f [] []], [⟨false, .nodes X⟩, ⟨false, .nodes Y⟩] => .node (Nat.beq f 40 && decide (X.length ≤ 100)) (.leaf ⟨[.bool (all2 eqN X Y)], []⟩) .bad
  | _, _ => .bad
theorem okEf : FnOk (E0 B) 39 sEf := by
  refine fnL lib5_ok (ls := [eEf]) Tryz.func39 (by kernel_rfl) (by kernel_rfl) (fun x hx => ?_) fun vs bs r h => ?_
  · simp only [List.mem_singleton] at hx; subst hx
    exact ⟨bEf, by kernel_rfl, rfl, loopEf⟩
  · unfold sEf at h
    split at h
    · rename_i f X Y
      rcases T.node_sel h with ⟨hc, h2⟩ | ⟨_, h2⟩
      · rw [Bool.and_eq_true] at hc
        have hf := Nat.eq_of_beq_eq_true hc.1
        subst hf
        have hl := of_decide_eq_true hc.2
        simp only [T.sel, Option.some.injEq] at h2; subst h2
        refine (tEf X Y).trans ?_
        by_cases he : X.length = Y.length
        · rw [decide_eq_true (show (X.length : Int) = (Y.length : Int) by omega), decide_eq_true (show (X.length : Int) = (X.length : Int) ∧ (0 : Int) = 0 ∧ X.length = Y.length ∧ X.length ≤ 100 from ⟨rfl, rfl, he, hl⟩)]
          cases all2 eqN X Y <;> rfl
        · rw [decide_eq_false (show ¬ (X.length : Int) = (Y.length : Int) by omega)]
          cases hq : all2 eqN X Y with
          | true => exact (he (all2_len hq)).elim
          | false => rfl
      · simp [T.sel] at h2
    · simp [T.sel] at h
def sgEq : LSig := { cs := [(0, 22), (1, 22)], mv := [(5, 0)], mo := [(4, 0)], take := [] }
def spEq : LSpec
  | [.slw 0, .slw 1, .int .i64 i], [⟨false, .nodes L⟩, ⟨false, .nodes M⟩] => .node (decide (i = 0 ∧ L.length = M.length ∧ L.length ≤ 1000)) (.node (all2 eqNod L M) (.leaf (.exit 0, ⟨[.any], []⟩)) (.leaf (.ret, ⟨[.bool false], []⟩))) .bad
  | _, _ => .bad
def sgSi : LSig := { cs := [(0, 23), (1, 23), (12, 0)], mv := [(13, 0)], mo := [(4, 0)], take := [] }
noncomputable def bSi : Code := loopAt 4 (loopsOf (bodyC Tryz.f41))
theorem turnSi (L M : List Int) (n i : Int) : (turn (E0 B) (Cx B lib5) noL 26 sgSi bSi [.slw 0, .slw 1, i64 n, i64 i] [⟨false, .ints .i64 L⟩, ⟨false, .ints .i64 M⟩]).sel =
    bif decide (i < n) then Ck.inb i L.length (Ck.inb i M.length (bif !Ck.eqInt (L.getD i.toNat 0) (M.getD i.toNat 0) then some (.ret, ⟨[.bool false], []⟩) else some (.normal, ⟨[.slw 0, .slw 1, i64 n, i64 (w64 (i + 1))], [⟨false, .ints .i64 L⟩, ⟨false, .ints .i64 M⟩]⟩))) else some (.exit 0, ⟨[.any], []⟩) := by kernel_rfl
def spSi : LSpec
  | [.slw 0, .slw 1, .int .i64 n, .int .i64 i], [⟨false, .ints .i64 L⟩, ⟨false, .ints .i64 M⟩] => .node (decide (i = 0 ∧ n = (L.length : Int) ∧ L.length = M.length ∧ L.length ≤ 1000)) (.node (all2 Ck.eqInt L M) (.leaf (.exit 0, ⟨[.any], []⟩)) (.leaf (.ret, ⟨[.bool false], []⟩))) .bad
  | _, _ => .bad
theorem loopSi : LoopOk (E0 B) 26 sgSi bSi spSi := by
  refine loop_turns (C := Cx B lib5) (L := noL) (cxOk lib5_ok) (noL_ok _) fun vs bs e o h => ?_
  unfold spSi at h
  split at h
  · rename_i n i L M
    rcases T.node_sel h with ⟨hc, h2⟩ | ⟨_, h2⟩
    · obtain ⟨rfl, rfl, hlm, hl⟩ := of_decide_eq_true hc
      obtain ⟨m, hm⟩ := scan_turns (E := E0 B) (C := Cx B lib5) (L := noL) (n := 26) (sg := sgSi) (body := bSi) (st := fun i => [.slw 0, .slw 1, i64 L.length, i64 i]) (bs := [⟨false, .ints .i64 L⟩, ⟨false, .ints .i64 M⟩]) (len := L.length)
        (bad := fun j => !Ck.eqInt (L.getD j default) (M.getD j default)) (ob := fun _ => ⟨[.bool false], []⟩) (k := 0) (oe := ⟨[.any], []⟩) (fun i hi => by
          rw [turnSi]
          by_cases h : i < L.length
          · rw [decide_eq_true h, decide_eq_true (show (i : Int) < (L.length : Int) by omega), cond_true, Ck.inb_is h, Ck.inb_is (show i < M.length by omega), w64_rng (show Rng ((i : Int) + 1) by unfold Rng; omega)]; rfl
          · rw [decide_eq_false h, decide_eq_false (show ¬ (i : Int) < (L.length : Int) by omega)]; rfl) L.length 0 (by omega)
      refine ⟨m, hm.trans ?_⟩
      rw [first2 hlm, ← h2]
      simp only [T.sel]
      cases all2 Ck.eqInt L M <;> rfl
    · simp [T.sel] at h2
  · simp [T.sel] at h
noncomputable def eSi : LEnt := { id := 4, n := 26, sg := sgSi, wr := writes bSi, s := spSi }
theorem tSi (L M : List Int) : runL B lib5 [eSi] Tryz.f41 [.slw 0, .slw 1] [⟨false, .ints .i64 L⟩, ⟨false, .ints .i64 M⟩] =
    bif !decide ((L.length : Int) = (M.length : Int)) then rb false else bif decide ((0 : Int) = 0 ∧ (L.length : Int) = (L.length : Int) ∧ L.length = M.length ∧ L.length ≤ 1000) then (bif all2 Ck.eqInt L M then rb true else rb false) else none := by kernel_rfl
def sSi : FSpec
  | [.slw 0, .slw 1], [⟨false, .ints .i64 L⟩, ⟨false, .ints .i64 M⟩] => .node (decide (L.length ≤ 1000)) (.leaf ⟨[.bool (all2 Ck.eqInt L M)], []⟩) .bad
  | _, _ => .bad
theorem okSi : FnOk (E0 B) 41 sSi := by
  refine fnL lib5_ok (ls := [eSi]) Tryz.func41 (by kernel_rfl) (by kernel_rfl) (fun x hx => ?_) fun vs bs r h => ?_
  · simp only [List.mem_singleton] at hx; subst hx
    exact ⟨bSi, by kernel_rfl, rfl, loopSi⟩
  unfold sSi at h
  split at h
  · rename_i L M
    rcases T.node_sel h with ⟨hc, h2⟩ | ⟨_, h2⟩
    · simp only [T.sel, Option.some.injEq] at h2; subst h2
      refine (tSi L M).trans ?_
      by_cases hl : L.length = M.length
      · rw [decide_eq_true (show (L.length : Int) = (M.length : Int) by omega), decide_eq_true (show (0 : Int) = 0 ∧ (L.length : Int) = (L.length : Int) ∧ L.length = M.length ∧ L.length ≤ 1000 from ⟨rfl, rfl, hl, of_decide_eq_true hc⟩)]
        cases all2 Ck.eqInt L M <;> rfl
      · rw [decide_eq_false (show ¬ (L.length : Int) = (M.length : Int) by omega)]
        cases ha : all2 Ck.eqInt L M with
        | false => rfl
        | true => exact (hl (all2_len ha)).elim
    · simp [T.sel] at h2
  · simp [T.sel] at h
noncomputable def lib1 : Tb := (39, [], sEf) :: (41, [], sSi) :: Ck.lib15
theorem lib1_ok : TbOk B lib1 := ((Ck.lib15_ok).add okSi).add okEf
end Go.Proofs.YtdckpbeioemopabGreatDoor.Sm
