/-
  Checks, clauses, and their references: loops over places, by contract.
-/
import Derived.Test.YthfieonkfailkaaKindFn
import Derived.Test.YthfieonkfailkaaDistFn
import Derived.Test.YthfieonkfailkaaAmScan
namespace Go.Proofs.Ythfieonkfailkaa
open Go.Am
set_option maxRecDepth 100000
variable {B : Nat → Option Obj}
/-! slices.ContainsFunc over sources -/
noncomputable def lib8 : Tb := (67, [], sDist) :: lib7
theorem lib8_ok : TbOk B lib8 := lib7_ok.add okDist
def inb {α : Type} (i : Int) (n : Nat) (r : Option α) : Option α := bif decide (0 ≤ i ∧ i < (n : Int)) then (bif decide (i.toNat < n) then r else none) else none
theorem inb_is {α : Type} {i n : Nat} (h : i < n) (r : Option α) : inb (i : Int) n r = r := in_range h r
def outS (x : Int) : Bool := decide (x < 0) || decide (4 ≤ x)
def outS' (x : Int) (a b : Option (AExit × Out)) : Option (AExit × Out) := bif decide (x < 0) then a else bif (bif false then true else decide (4 ≤ x)) then a else b
theorem outS_is (x : Int) (a b : Option (AExit × Out)) : outS' x a b = bif outS x then a else b := by
  unfold outS' outS
  cases decide (x < 0) <;> cases decide (4 ≤ x) <;> rfl
noncomputable def bIx : Code := loopAt 2 (loopsOf (bodyC Try.f75))
def sgIx : LSig := { cs := [(0, 23), (1, 0), (7, 0)], mv := [(8, 0)], mo := [(4, 0)], take := [] }
theorem turnIx (L : List Int) (n i : Int) : (turn (E0 B) (Cx B lib8) noL 19 sgIx bIx [.slw 0, .fn 65 [] [], i64 n, i64 i] [⟨false, .ints .i64 L⟩]).sel =
    bif decide (i < n) then inb i L.length (outS' (L.getD i.toNat 0) (some (.ret, ⟨[i64 i], []⟩)) (some (.normal, ⟨[.slw 0, .fn 65 [] [], i64 n, i64 (w64 (i + 1))], [⟨false, .ints .i64 L⟩]⟩))) else some (.exit 0, ⟨[.any], []⟩) := by kernel_rfl
def okIx (f : Nat) (L : List Int) (n i : Int) : Bool := Nat.beq f 65 && decide (n = (L.length : Int) ∧ L.length ≤ 1000 ∧ i = 0)
def spIx : LSpec
  | [.slw 0, .fn f [] [], .int .i64 n, .int .i64 i], [⟨false, .ints .i64 L⟩] => .node (okIx f L n i) (.node (decide (firstL outS L < L.length)) (.leaf (.ret, ⟨[i64 (firstL outS L)], []⟩)) (.leaf (.exit 0, ⟨[.any], []⟩))) .bad
  | _, _ => .bad
theorem loopIx : LoopOk (E0 B) 19 sgIx bIx spIx := by
  refine loop_turns (C := Cx B lib8) (L := noL) (cxOk lib8_ok) (noL_ok _) fun vs bs e o h => ?_
  unfold spIx at h
  split at h
  · rename_i f n i L
    rcases T.node_sel h with ⟨hc, h2⟩ | ⟨_, h2⟩
    · unfold okIx at hc
      rw [Bool.and_eq_true] at hc
      have hf := Nat.eq_of_beq_eq_true hc.1
      obtain ⟨rfl, hl, rfl⟩ := of_decide_eq_true hc.2
      subst hf
      obtain ⟨m, hm⟩ := scan_turns (E := E0 B) (C := Cx B lib8) (L := noL) (n := 19) (sg := sgIx) (body := bIx) (st := fun i => [.slw 0, .fn 65 [] [], i64 L.length, i64 i]) (bs := [⟨false, .ints .i64 L⟩]) (len := L.length)
        (bad := fun j => outS (L.getD j default)) (ob := fun j => ⟨[i64 j], []⟩) (k := 0) (oe := ⟨[.any], []⟩) (fun i hi => by
          rw [turnIx, outS_is]
          by_cases h : i < L.length
          · rw [decide_eq_true h, decide_eq_true (show (i : Int) < (L.length : Int) by omega), cond_true, inb_is h, w64_rng (show Rng ((i : Int) + 1) by unfold Rng; omega)]; rfl
          · rw [decide_eq_false h, decide_eq_false (show ¬ (i : Int) < (L.length : Int) by omega)]; rfl) L.length 0 (by omega)
      refine ⟨m, hm.trans ?_⟩
      rw [firstB_list outS L L 0 rfl, Nat.zero_add, ← h2]
      rfl
    · simp [T.sel] at h2
  · simp [T.sel] at h
noncomputable def eIx : LEnt := { id := 2, n := 19, sg := sgIx, wr := writes bIx, s := spIx }
theorem tIx (L : List Int) : runL B lib8 [eIx] Try.f75 [.slw 0, .fn 65 [] []] [⟨false, .ints .i64 L⟩] =
    bif okIx 65 L L.length 0 then (bif decide (firstL outS L < L.length) then some ⟨[i64 (firstL outS L)], []⟩ else some ⟨[i64 (-1)], []⟩) else none := by kernel_rfl
def ixI (b : Bool) (n : Nat) : Int := bif b then (n : Int) else -1
def sIx : FSpec
  | [.slw 0, .fn f [] []], [⟨false, .ints .i64 L⟩] => .node (Nat.beq f 65 && decide (L.length ≤ 1000)) (.leaf ⟨[.int .i64 (ixI (decide (firstL outS L < L.length)) (firstL outS L))], []⟩) .bad
  | _, _ => .bad
theorem okIxF : FnOk (E0 B) 75 sIx := by
  refine fnL lib8_ok (ls := [eIx]) Try.func75 (by kernel_rfl) (by kernel_rfl) (fun x hx => ?_) fun vs bs r h => ?_
  · simp only [List.mem_singleton] at hx; subst hx
    exact ⟨bIx, by kernel_rfl, rfl, loopIx⟩
  unfold sIx at h
  split at h
  · rename_i f L
    rcases T.node_sel h with ⟨hc, h2⟩ | ⟨_, h2⟩
    · simp only [T.sel, Option.some.injEq] at h2; subst h2
      rw [Bool.and_eq_true] at hc
      have hf := Nat.eq_of_beq_eq_true hc.1
      subst hf
      refine (tIx L).trans ?_
      unfold okIx
      rw [decide_eq_true (show (L.length : Int) = (L.length : Int) ∧ L.length ≤ 1000 ∧ (0 : Int) = 0 from ⟨rfl, of_decide_eq_true hc.2, rfl⟩)]
      cases decide (firstL outS L < L.length) <;> rfl
    · simp [T.sel] at h2
  · simp [T.sel] at h
/-! Fixed, and slices.ContainsFunc over nodes -/
def fldB (k : Int) : Bool := decide (1 < k) && decide (k < 5)
def turnB (b : Bool) (a c : Option (AExit × Out)) : Option (AExit × Out) := bif b then a else c
noncomputable def bFx : Code := loopAt 2 (loopsOf (bodyC Try.f32))
def sgFx : LSig := { cs := [(0, 22)], mv := [(3, 0)], mo := [(2, 0)], take := [] }
def nb (L : List Nod) : Blk := ⟨false, .nodes L⟩
def ndN (L : List Nod) (i : Int) : Option (AExit × Out) := some (.normal, ⟨[.slw 0, i64 (w64 (i + 1))], [nb L]⟩)
theorem turnFx (L : List Nod) (i : Int) : (turn (E0 B) (Cx B lib8) noL 24 sgFx bFx [.slw 0, i64 i] [nb L]).sel =
    bif decide (i < (L.length : Int)) then inb i L.length (bif decide (1 < (L.getD i.toNat default).kind) then inb i L.length (bif decide ((L.getD i.toNat default).kind < 5) then some (.ret, ⟨[.bool false], []⟩) else ndN L i) else ndN L i) else some (.exit 0, ⟨[.any], []⟩) := by kernel_rfl
def spN (p : Nod → Bool) (r : AV) : LSpec
  | [.slw 0, .int .i64 i], [⟨false, .nodes L⟩] => .node (decide (L.length ≤ 1000 ∧ i = 0)) (.node (L.any p) (.leaf (.ret, ⟨[r], []⟩)) (.leaf (.exit 0, ⟨[.any], []⟩))) .bad
  | _, _ => .bad
theorem loopFx : LoopOk (E0 B) 24 sgFx bFx (spN (fun x => fldB x.kind) (.bool false)) := by
  refine loop_turns (C := Cx B lib8) (L := noL) (cxOk lib8_ok) (noL_ok _) fun vs bs e o h => ?_
  unfold spN at h
  split at h
  · rename_i i L
    rcases T.node_sel h with ⟨hc, h2⟩ | ⟨_, h2⟩
    · obtain ⟨hl, rfl⟩ := of_decide_eq_true hc
      obtain ⟨m, hm⟩ := scan_turns (E := E0 B) (C := Cx B lib8) (L := noL) (n := 24) (sg := sgFx) (body := bFx) (st := fun i => [.slw 0, i64 i]) (bs := [nb L]) (len := L.length)
        (bad := fun j => fldB (L.getD j default).kind) (ob := fun _ => ⟨[.bool false], []⟩) (k := 0) (oe := ⟨[.any], []⟩) (fun i hi => by
          rw [turnFx]
          by_cases h : i < L.length
          · rw [decide_eq_true h, decide_eq_true (show (i : Int) < (L.length : Int) by omega), cond_true, inb_is h, inb_is h]
            unfold ndN fldB
            rw [w64_rng (show Rng ((i : Int) + 1) by unfold Rng; omega)]
            rw [show ((i : Int)).toNat = i by omega]
            cases decide (1 < (L.getD i default).kind) <;> cases decide ((L.getD i default).kind < 5) <;> rfl
          · rw [decide_eq_false h, decide_eq_false (show ¬ (i : Int) < (L.length : Int) by omega)]; rfl) L.length 0 (by omega)
      refine ⟨m, hm.trans ?_⟩
      rw [firstB_list (fun x : Nod => fldB x.kind) L L 0 rfl, Nat.zero_add, firstL_any, ← h2]
      rfl
    · simp [T.sel] at h2
  · simp [T.sel] at h
noncomputable def eFx : LEnt := { id := 2, n := 24, sg := sgFx, wr := writes bFx, s := spN (fun x => fldB x.kind) (.bool false) }
theorem tFx (L : List Nod) : runL B lib8 [eFx] Try.f32 [.slw 0] [nb L] =
    bif decide (L.length ≤ 1000 ∧ (0 : Int) = 0) then (bif L.any (fun x => fldB x.kind) then rb false else rb true) else none := by kernel_rfl
def sFx : FSpec
  | [.slw 0], [⟨false, .nodes L⟩] => .node (decide (L.length ≤ 1000)) (.leaf ⟨[.bool (!L.any fun x => fldB x.kind)], []⟩) .bad
  | _, _ => .bad
theorem okFixed : FnOk (E0 B) 32 sFx := by
  refine fnL lib8_ok (ls := [eFx]) Try.func32 (by kernel_rfl) (by kernel_rfl) (fun x hx => ?_) fun vs bs r h => ?_
  · simp only [List.mem_singleton] at hx; subst hx
    exact ⟨bFx, by kernel_rfl, rfl, loopFx⟩
  unfold sFx at h
  split at h
  · rename_i L
    rcases T.node_sel h with ⟨hc, h2⟩ | ⟨_, h2⟩
    · simp only [T.sel, Option.some.injEq] at h2; subst h2
      refine (tFx L).trans ?_
      rw [decide_eq_true (show L.length ≤ 1000 ∧ (0 : Int) = 0 from ⟨of_decide_eq_true hc, rfl⟩)]
      cases L.any fun x => fldB x.kind <;> rfl
    · simp [T.sel] at h2
  · simp [T.sel] at h
noncomputable def bIn : Code := loopAt 2 (loopsOf (bodyC Try.f50))
def sgIn : LSig := { cs := [(0, 22), (1, 0), (7, 0)], mv := [(8, 0)], mo := [(4, 0)], take := [] }
def fk (x : Nod) (k : Int) : Bool := decide (x.kind = k) && (decide (x.n = 0) && (decide (x.a = 0) && (decide (x.b = 0) && true)))
def fk3 (x : Nod) (a b : Option (AExit × Out)) : Option (AExit × Out) := bif fk x 2 then a else bif fk x 3 then a else bif fk x 4 then a else b
theorem turnIn (L : List Nod) (n i : Int) : (turn (E0 B) (Cx B lib8) noL 19 sgIn bIn [.slw 0, .fn 29 [] [], i64 n, i64 i] [nb L]).sel =
    bif decide (i < n) then inb i L.length (fk3 (L.getD i.toNat default) (some (.ret, ⟨[i64 i], []⟩)) (some (.normal, ⟨[.slw 0, .fn 29 [] [], i64 n, i64 (w64 (i + 1))], [nb L]⟩))) else some (.exit 0, ⟨[.any], []⟩) := by kernel_rfl
def isF (x : Nod) : Bool := fk x 2 || (fk x 3 || fk x 4)
theorem fk3_is (x : Nod) (a b : Option (AExit × Out)) : fk3 x a b = bif isF x then a else b := by
  unfold fk3 isF
  cases fk x 2 <;> cases fk x 3 <;> cases fk x 4 <;> rfl
def okIn (f : Nat) (L : List Nod) (n i : Int) : Bool := Nat.beq f 29 && decide (n = (L.length : Int) ∧ L.length ≤ 1000 ∧ i = 0)
def spIn : LSpec
  | [.slw 0, .fn f [] [], .int .i64 n, .int .i64 i], [⟨false, .nodes L⟩] => .node (okIn f L n i) (.node (decide (firstL isF L < L.length)) (.leaf (.ret, ⟨[i64 (firstL isF L)], []⟩)) (.leaf (.exit 0, ⟨[.any], []⟩))) .bad
  | _, _ => .bad
theorem loopIn : LoopOk (E0 B) 19 sgIn bIn spIn := by
  refine loop_turns (C := Cx B lib8) (L := noL) (cxOk lib8_ok) (noL_ok _) fun vs bs e o h => ?_
  unfold spIn at h
  split at h
  · rename_i f n i L
    rcases T.node_sel h with ⟨hc, h2⟩ | ⟨_, h2⟩
    · unfold okIn at hc
      rw [Bool.and_eq_true] at hc
      have hf := Nat.eq_of_beq_eq_true hc.1
      obtain ⟨rfl, hl, rfl⟩ := of_decide_eq_true hc.2
      subst hf
      obtain ⟨m, hm⟩ := scan_turns (E := E0 B) (C := Cx B lib8) (L := noL) (n := 19) (sg := sgIn) (body := bIn) (st := fun i => [.slw 0, .fn 29 [] [], i64 L.length, i64 i]) (bs := [nb L]) (len := L.length)
        (bad := fun j => isF (L.getD j default)) (ob := fun j => ⟨[i64 j], []⟩) (k := 0) (oe := ⟨[.any], []⟩) (fun i hi => by
          rw [turnIn, fk3_is]
          by_cases h : i < L.length
          · rw [decide_eq_true h, decide_eq_true (show (i : Int) < (L.length : Int) by omega), cond_true, inb_is h, w64_rng (show Rng ((i : Int) + 1) by unfold Rng; omega)]; rfl
          · rw [decide_eq_false h, decide_eq_false (show ¬ (i : Int) < (L.length : Int) by omega)]; rfl) L.length 0 (by omega)
      refine ⟨m, hm.trans ?_⟩
      rw [firstB_list isF L L 0 rfl, Nat.zero_add, ← h2]
      rfl
    · simp [T.sel] at h2
  · simp [T.sel] at h
noncomputable def eIn : LEnt := { id := 2, n := 19, sg := sgIn, wr := writes bIn, s := spIn }
theorem tIn (L : List Nod) : runL B lib8 [eIn] Try.f50 [.slw 0, .fn 29 [] []] [nb L] =
    bif okIn 29 L L.length 0 then (bif decide (firstL isF L < L.length) then some ⟨[i64 (firstL isF L)], []⟩ else some ⟨[i64 (-1)], []⟩) else none := by kernel_rfl
def sIn : FSpec
  | [.slw 0, .fn f [] []], [⟨false, .nodes L⟩] => .node (Nat.beq f 29 && decide (L.length ≤ 1000)) (.leaf ⟨[.int .i64 (ixI (decide (firstL isF L < L.length)) (firstL isF L))], []⟩) .bad
  | _, _ => .bad
theorem okInF : FnOk (E0 B) 50 sIn := by
  refine fnL lib8_ok (ls := [eIn]) Try.func50 (by kernel_rfl) (by kernel_rfl) (fun x hx => ?_) fun vs bs r h => ?_
  · simp only [List.mem_singleton] at hx; subst hx
    exact ⟨bIn, by kernel_rfl, rfl, loopIn⟩
  unfold sIn at h
  split at h
  · rename_i f L
    rcases T.node_sel h with ⟨hc, h2⟩ | ⟨_, h2⟩
    · simp only [T.sel, Option.some.injEq] at h2; subst h2
      rw [Bool.and_eq_true] at hc
      have hf := Nat.eq_of_beq_eq_true hc.1
      subst hf
      refine (tIn L).trans ?_
      unfold okIn
      rw [decide_eq_true (show (L.length : Int) = (L.length : Int) ∧ L.length ≤ 1000 ∧ (0 : Int) = 0 from ⟨rfl, of_decide_eq_true hc.2, rfl⟩)]
      cases decide (firstL isF L < L.length) <;> rfl
    · simp [T.sel] at h2
  · simp [T.sel] at h
noncomputable def lib9 : Tb := (75, [], sIx) :: (32, [], sFx) :: (50, [], sIn) :: lib8
theorem lib9_ok : TbOk B lib9 := lib8_ok.add okInF |>.add okFixed |>.add okIxF
end Go.Proofs.Ythfieonkfailkaa
