/-
  Texts put together: ParFn, ParFn2, ParFn3, ParFn4, ParFn5.
-/
import Derived.Test.YtdckpbeioemopabGreatDoorTxA
import Derived.Test.YtdckpbeioemopabGreatDoorClsA
namespace Go.Proofs.YtdckpbeioemopabGreatDoor.Pr
open Go.Am Go Go.Proofs.YtdckpbeioemopabGreatDoor
set_option maxRecDepth 100000
variable {B : Nat → Option Obj}
def ixI (b : Bool) (n : Nat) : Int := bif b then (n : Int) else -1
noncomputable def bIs : Code := loopAt 2 (loopsOf (bodyC Tryz.f99))
def sgIs : LSig := { cs := [(0, 67), (1, 0), (7, 0)], mv := [(8, 0)], mo := [(4, 0)], take := [] }
theorem turnIs (S : List (List UInt8)) (t : List UInt8) (n i : Int) : (turn (E0 B) (Cx B lib5) noL 19 sgIs bIs [.slw 0, .str t, i64 n, i64 i] [⟨false, .strs S⟩]).sel =
    bif decide (i < n) then Ck.inb i S.length (bif decide (t = S.getD i.toNat []) then some (.ret, ⟨[i64 i], []⟩) else some (.normal, ⟨[.slw 0, .str t, i64 n, i64 (w64 (i + 1))], [⟨false, .strs S⟩]⟩)) else some (.exit 0, ⟨[.any], []⟩) := by kernel_rfl
def hitS (t : List UInt8) (s : List UInt8) : Bool := decide (t = s)
def spIs : LSpec
  | [.slw 0, .str t, .int .i64 n, .int .i64 i], [⟨false, .strs S⟩] => .node (decide (i = 0 ∧ n = (S.length : Int) ∧ S.length ≤ 1000)) (.node (decide (firstL (hitS t) S < S.length)) (.leaf (.ret, ⟨[i64 (firstL (hitS t) S)], []⟩)) (.leaf (.exit 0, ⟨[.any], []⟩))) .bad
  | _, _ => .bad
theorem loopIs : LoopOk (E0 B) 19 sgIs bIs spIs := by
  refine loop_turns (C := Cx B lib5) (L := noL) (cxOk lib5_ok) (noL_ok _) fun vs bs e o h => ?_
  unfold spIs at h
  split at h
  · rename_i t n i S
    rcases T.node_sel h with ⟨hc, h2⟩ | ⟨_, h2⟩
    · obtain ⟨rfl, rfl, hl⟩ := of_decide_eq_true hc
      obtain ⟨m, hm⟩ := scan_turns (E := E0 B) (C := Cx B lib5) (L := noL) (n := 19) (sg := sgIs) (body := bIs) (st := fun i => [.slw 0, .str t, i64 S.length, i64 i]) (bs := [⟨false, .strs S⟩]) (len := S.length)
        (bad := fun j => hitS t (S.getD j default)) (ob := fun j => ⟨[i64 j], []⟩) (k := 0) (oe := ⟨[.any], []⟩) (fun i hi => by
          rw [turnIs]
          by_cases h : i < S.length
          · rw [decide_eq_true h, decide_eq_true (show (i : Int) < (S.length : Int) by omega), cond_true, Ck.inb_is h, w64_rng (show Rng ((i : Int) + 1) by unfold Rng; omega)]; rfl
          · rw [decide_eq_false h, decide_eq_false (show ¬ (i : Int) < (S.length : Int) by omega)]; rfl) S.length 0 (by omega)
      refine ⟨m, hm.trans ?_⟩
      rw [firstB_list (hitS t) S S 0 rfl, Nat.zero_add, ← h2]
      rfl
    · simp [T.sel] at h2
  · simp [T.sel] at h
noncomputable def eIs : LEnt := { id := 2, n := 19, sg := sgIs, wr := writes bIs, s := spIs }
theorem tIs (S : List (List UInt8)) (t : List UInt8) : runL B lib5 [eIs] Tryz.f99 [.slw 0, .str t] [⟨false, .strs S⟩] =
    bif decide ((0 : Int) = 0 ∧ (S.length : Int) = (S.length : Int) ∧ S.length ≤ 1000) then (bif decide (firstL (hitS t) S < S.length) then some ⟨[i64 (firstL (hitS t) S)], []⟩ else some ⟨[i64 (-1)], []⟩) else none := by kernel_rfl
def sIs : FSpec
  | [.slw 0, .str t], [⟨false, .strs S⟩] => .node (decide (S.length ≤ 1000)) (.leaf ⟨[.int .i64 (ixI (decide (firstL (hitS t) S < S.length)) (firstL (hitS t) S))], []⟩) .bad
  | _, _ => .bad
theorem okIs : FnOk (E0 B) 99 sIs := by
  refine fnL lib5_ok (ls := [eIs]) Tryz.func99 (by kernel_rfl) (by kernel_rfl) (fun x hx => ?_) fun vs bs r h => ?_
  · simp only [List.mem_singleton] at hx; subst hx
    exact ⟨bIs, by kernel_rfl, rfl, loopIs⟩
  unfold sIs at h
  split at h
  · rename_i t S
    rcases T.node_sel h with ⟨hc, h2⟩ | ⟨_, h2⟩
    · simp only [T.sel, Option.some.injEq] at h2; subst h2
      refine (tIs S t).trans ?_
      rw [decide_eq_true (show (0 : Int) = 0 ∧ (S.length : Int) = (S.length : Int) ∧ S.length ≤ 1000 from ⟨rfl, rfl, of_decide_eq_true hc⟩)]
      cases decide (firstL (hitS t) S < S.length) <;> rfl
    · simp [T.sel] at h2
  · simp [T.sel] at h
noncomputable def bIn : Code := loopAt 2 (loopsOf (bodyC Tryz.f141))
def sgIn : LSig := { cs := [(0, 23), (1, 0), (7, 0)], mv := [(8, 0)], mo := [(4, 0)], take := [] }
theorem turnIn (S : List Int) (t : Int) (n i : Int) : (turn (E0 B) (Cx B lib5) noL 19 sgIn bIn [.slw 0, i64 t, i64 n, i64 i] [⟨false, .ints .i64 S⟩]).sel =
    bif decide (i < n) then Ck.inb i S.length (bif decide (t = S.getD i.toNat 0) then some (.ret, ⟨[i64 i], []⟩) else some (.normal, ⟨[.slw 0, i64 t, i64 n, i64 (w64 (i + 1))], [⟨false, .ints .i64 S⟩]⟩)) else some (.exit 0, ⟨[.any], []⟩) := by kernel_rfl
def hitI (t : Int) (s : Int) : Bool := decide (t = s)
def spIn : LSpec
  | [.slw 0, .int .i64 t, .int .i64 n, .int .i64 i], [⟨false, .ints .i64 S⟩] => .node (decide (i = 0 ∧ n = (S.length : Int) ∧ S.length ≤ 1000)) (.node (decide (firstL (hitI t) S < S.length)) (.leaf (.ret, ⟨[i64 (firstL (hitI t) S)], []⟩)) (.leaf (.exit 0, ⟨[.any], []⟩))) .bad
  | _, _ => .bad
theorem loopIn : LoopOk (E0 B) 19 sgIn bIn spIn := by
  refine loop_turns (C := Cx B lib5) (L := noL) (cxOk lib5_ok) (noL_ok _) fun vs bs e o h => ?_
  unfold spIn at h
  split at h
  · rename_i t n i S
    rcases T.node_sel h with ⟨hc, h2⟩ | ⟨_, h2⟩
    · obtain ⟨rfl, rfl, hl⟩ := of_decide_eq_true hc
      obtain ⟨m, hm⟩ := scan_turns (E := E0 B) (C := Cx B lib5) (L := noL) (n := 19) (sg := sgIn) (body := bIn) (st := fun i => [.slw 0, i64 t, i64 S.length, i64 i]) (bs := [⟨false, .ints .i64 S⟩]) (len := S.length)
        (bad := fun j => hitI t (S.getD j default)) (ob := fun j => ⟨[i64 j], []⟩) (k := 0) (oe := ⟨[.any], []⟩) (fun i hi => by
          rw [turnIn]
          by_cases h : i < S.length
          · rw [decide_eq_true h, decide_eq_true (show (i : Int) < (S.length : Int) by omega), cond_true, Ck.inb_is h, w64_rng (show Rng ((i : Int) + 1) by unfold Rng; omega)]; rfl
          · rw [decide_eq_false h, decide_eq_false (show ¬ (i : Int) < (S.length : Int) by omega)]; rfl) S.length 0 (by omega)
      refine ⟨m, hm.trans ?_⟩
      rw [firstB_list (hitI t) S S 0 rfl, Nat.zero_add, ← h2]
      rfl
    · simp [T.sel] at h2
  · simp [T.sel] at h
noncomputable def eIn : LEnt := { id := 2, n := 19, sg := sgIn, wr := writes bIn, s := spIn }
theorem tIn (S : List Int) (t : Int) : runL B lib5 [eIn] Tryz.f141 [.slw 0, i64 t] [⟨false, .ints .i64 S⟩] =
    bif decide ((0 : Int) = 0 ∧ (S.length : Int) = (S.length : Int) ∧ S.length ≤ 1000) then (bif decide (firstL (hitI t) S < S.length) then some ⟨[i64 (firstL (hitI t) S)], []⟩ else some ⟨[i64 (-1)], []⟩) else none := by kernel_rfl
def sIn : FSpec
  | [.slw 0, .int .i64 t], [⟨false, .ints .i64 S⟩] => .node (decide (S.length ≤ 1000)) (.leaf ⟨[.int .i64 (ixI (decide (firstL (hitI t) S < S.length)) (firstL (hitI t) S))], []⟩) .bad
  | _, _ => .bad
theorem okIn : FnOk (E0 B) 141 sIn := by
  refine fnL lib5_ok (ls := [eIn]) Tryz.func141 (by kernel_rfl) (by kernel_rfl) (fun x hx => ?_) fun vs bs r h => ?_
  · simp only [List.mem_singleton] at hx; subst hx
    exact ⟨bIn, by kernel_rfl, rfl, loopIn⟩
  unfold sIn at h
  split at h
  · rename_i t S
    rcases T.node_sel h with ⟨hc, h2⟩ | ⟨_, h2⟩
    · simp only [T.sel, Option.some.injEq] at h2; subst h2
      refine (tIn S t).trans ?_
      rw [decide_eq_true (show (0 : Int) = 0 ∧ (S.length : Int) = (S.length : Int) ∧ S.length ≤ 1000 from ⟨rfl, rfl, of_decide_eq_true hc⟩)]
      cases decide (firstL (hitI t) S < S.length) <;> rfl
    · simp [T.sel] at h2
  · simp [T.sel] at h
noncomputable def lib0 : Tb := (99, [], sIs) :: (141, [], sIn) :: []
theorem lib0_ok : TbOk B lib0 := (TbOk.nil.add okIn).add okIs
end Go.Proofs.YtdckpbeioemopabGreatDoor.Pr
namespace Go.Proofs.YtdckpbeioemopabGreatDoor.Pr
open Go.Am Go Go.Proofs.YtdckpbeioemopabGreatDoor
set_option maxRecDepth 100000
variable {B : Nat → Option Obj}
def pTy : List TypeId := [51, 3, 74]
def fTy : List TypeId := [3, 31]
def pb (k : Nat) (a : Int) (w : AV) : Blk := ⟨true, .gen pTy [[.slw k, i64 a, w]]⟩
def fb (a e : Int) : Blk := ⟨true, .gen fTy [[i64 a, i64 e]]⟩
def tb (L : List Tok) : Blk := ⟨false, .toks L⟩
def sb (S : List (List UInt8)) : Blk := ⟨false, .strs S⟩
def tkA (L : List Tok) (a : Int) : Tok := L.getD a.toNat default
def nxI (L : List Tok) (a : Int) (S : List (List UInt8)) : Nat := firstL (hitS (tkA L a).text) S
def nxB (L : List Tok) (a : Int) (S : List (List UInt8)) : Bool := !decide ((L.length : Int) ≤ a) && (!decide ((tkA L a).kind = 1) && decide (nxI L a S < S.length))
def nxV (L : List Tok) (a : Int) (S : List (List UInt8)) : Int := bif nxB L a S then (nxI L a S : Int) else 0
def mx0 (x : Int) : Int := if 0 > x then 0 else x
def pkR (L : List Tok) (a i : Int) (b : Bool) : Option Out := some ⟨[i64 i, .bool b], [pb 1 a .nilp, tb L]⟩
def ixA (L : List Tok) (a : Int) (S : List (List UInt8)) : Int := ixI (decide (nxI L a S < S.length)) (nxI L a S)
theorem tPeek (L : List Tok) (S : List (List UInt8)) (a : Int) : runT B lib0 Tryz.f111 [.ptr 0 0 0, .slw 1] [pb 2 a .nilp, sb S, tb L] =
    bif decide ((L.length : Int) ≤ a) then pkR L a 0 false else Ck.inb a L.length (bif decide ((tkA L a).kind = 1) then pkR L a 0 false else Ck.inb a L.length (bif decide (S.length ≤ 1000) then pkR L a (mx0 (ixA L a S)) (decide (0 ≤ ixA L a S)) else none)) := by kernel_rfl
theorem tPeekW (L : List Tok) (S : List (List UInt8)) (a c d : Int) : runT B lib0 Tryz.f111 [.ptr 0 0 0, .slw 1] [pb 2 a (.ptr 3 0 0), sb S, tb L, fb c d] = some ⟨[i64 0, .bool false], [pb 2 a (.ptr 1 0 0), fb c d, tb L]⟩ := by kernel_rfl
theorem peek_is {L : List Tok} {S : List (List UInt8)} {a : Int} (h0 : 0 ≤ a) (hS : S.length ≤ 1000) : (bif decide ((L.length : Int) ≤ a) then pkR L a 0 false else Ck.inb a L.length (bif decide ((tkA L a).kind = 1) then pkR L a 0 false else Ck.inb a L.length (bif decide (S.length ≤ 1000) then pkR L a (mx0 (ixA L a S)) (decide (0 ≤ ixA L a S)) else none))) = pkR L a (nxV L a S) (nxB L a S) := by
  unfold nxV nxB
  by_cases h1 : (L.length : Int) ≤ a
  · rw [decide_eq_true h1]; rfl
  · obtain ⟨j, rfl⟩ : ∃ j : Nat, a = (j : Int) := ⟨a.toNat, by omega⟩
    rw [decide_eq_false h1, cond_false, Ck.inb_is (by omega)]
    cases decide ((tkA L (j : Int)).kind = 1) with
    | true => rfl
    | false =>
      rw [cond_false, Ck.inb_is (by omega), decide_eq_true hS]
      unfold ixA ixI mx0
      by_cases h2 : nxI L j S < S.length
      · rw [decide_eq_true h2]
        simp only [cond_true, Bool.not_false, Bool.true_and]
        rw [if_neg (by omega), decide_eq_true (show (0 : Int) ≤ (nxI L j S : Int) by omega)]
      · rw [decide_eq_false h2]; rfl
def wTy (s u : List TypeId) : Bool := sameTys s pTy && sameTys u fTy
theorem wTy_is {s u : List TypeId} (h : wTy s u = true) : s = pTy ∧ u = fTy := by
  unfold wTy at h
  rw [Bool.and_eq_true] at h
  exact ⟨sameTys_eq h.1, sameTys_eq h.2⟩
def sPeek : FSpec
  | [.ptr 0 0 0, .slw 1], [⟨true, .gen s [[.slw 2, .int .i64 a, .nilp]]⟩, ⟨false, .strs S⟩, ⟨false, .toks L⟩] => .node (sameTys s pTy && decide (0 ≤ a ∧ S.length ≤ 1000)) (.leaf ⟨[.int .i64 (nxV L a S), .bool (nxB L a S)], [pb 1 a .nilp, tb L]⟩) .bad
  | [.ptr 0 0 0, .slw 1], [⟨true, .gen s [[.slw 2, .int .i64 a, .ptr 3 0 0]]⟩, ⟨false, .strs _⟩, ⟨false, .toks L⟩, ⟨true, .gen u [[.int .i64 c, .int .i64 d]]⟩] => .node (wTy s u) (.leaf ⟨[.int .i64 0, .bool false], [pb 2 a (.ptr 1 0 0), fb c d, tb L]⟩) .bad
  | _, _ => .bad
theorem okPeek : FnOk (E0 B) 111 sPeek := by
  refine fnT lib0_ok Tryz.func111 (by kernel_rfl) (by kernel_rfl) fun vs bs r h => ?_
  unfold sPeek at h
  split at h
  · rename_i s a S L
    rcases T.node_sel h with ⟨hc, h2⟩ | ⟨_, h2⟩
    · simp only [T.sel, Option.some.injEq] at h2; subst h2
      rw [Bool.and_eq_true] at hc
      have hs := sameTys_eq hc.1
      subst hs
      obtain ⟨h0, hS⟩ := of_decide_eq_true hc.2
      exact (tPeek L S a).trans (peek_is h0 hS)
    · simp [T.sel] at h2
  · rename_i s a S L u c d
    rcases T.node_sel h with ⟨hc, h2⟩ | ⟨_, h2⟩
    · simp only [T.sel, Option.some.injEq] at h2; subst h2
      obtain ⟨rfl, rfl⟩ := wTy_is hc
      exact tPeekW L S a c d
    · simp [T.sel] at h2
  · simp [T.sel] at h
noncomputable def lib1 : Tb := (111, [], sPeek) :: lib0
theorem lib1_ok : TbOk B lib1 := lib0_ok.add okPeek
def okA (L : List Tok) (a : Int) (S : List (List UInt8)) : Bool := decide (0 ≤ a ∧ a ≤ (L.length : Int) ∧ L.length ≤ 1000 ∧ S.length ≤ 1000)
def inP {α : Type} (a : Int) (S : List (List UInt8)) (k : Option α) : Option α := bif sameTys pTy pTy && decide (0 ≤ a ∧ S.length ≤ 1000) then k else none
def tkR (L : List Tok) (i a : Int) (b : Bool) : Option Out := some ⟨[i64 i, .bool b], [pb 1 a .nilp, tb L]⟩
def wrR (L : List Tok) (v : List AV) (a c d : Int) : Option Out := some ⟨v, [pb 2 a (.ptr 1 0 0), fb c d, tb L]⟩
def flR (L : List Tok) (v : List AV) (a c d : Int) : Option Out := some ⟨v, [pb 1 a (.ptr 2 0 0), tb L, fb c d]⟩
def gdR (L : List Tok) (v : List AV) (a : Int) : Option Out := some ⟨v, [pb 1 a .nilp, tb L]⟩
theorem tTake (L : List Tok) (S : List (List UInt8)) (a : Int) : runT B lib1 Tryz.f74 [.ptr 0 0 0, .slw 1] [pb 2 a .nilp, sb S, tb L] =
    inP a S (bif nxB L a S then tkR L (nxV L a S) (w64 (a + 1)) (nxB L a S) else tkR L (nxV L a S) a (nxB L a S)) := by kernel_rfl
theorem tTakeW (L : List Tok) (S : List (List UInt8)) (a c d : Int) : runT B lib1 Tryz.f74 [.ptr 0 0 0, .slw 1] [pb 2 a (.ptr 3 0 0), sb S, tb L, fb c d] = wrR L [i64 0, .bool false] a c d := by kernel_rfl
theorem inP_is {α : Type} {a : Int} {L : List Tok} {S : List (List UInt8)} (h : okA L a S = true) (k : Option α) : inP a S k = k ∧ w64 (a + 1) = a + 1 := by
  obtain ⟨h0, h1, h2, h3⟩ := of_decide_eq_true h
  unfold inP
  rw [show sameTys pTy pTy = true from rfl, decide_eq_true (show 0 ≤ a ∧ S.length ≤ 1000 from ⟨h0, h3⟩)]
  exact ⟨rfl, w64_rng (by unfold Rng; omega)⟩
def sTake : FSpec
  | [.ptr 0 0 0, .slw 1], [⟨true, .gen s [[.slw 2, .int .i64 a, .nilp]]⟩, ⟨false, .strs S⟩, ⟨false, .toks L⟩] => .node (sameTys s pTy && okA L a S) (.node (nxB L a S) (.leaf ⟨[.int .i64 (nxI L a S), .bool true], [pb 1 (a + 1) .nilp, tb L]⟩) (.leaf ⟨[.int .i64 0, .bool false], [pb 1 a .nilp, tb L]⟩)) .bad
  | [.ptr 0 0 0, .slw 1], [⟨true, .gen s [[.slw 2, .int .i64 a, .ptr 3 0 0]]⟩, ⟨false, .strs _⟩, ⟨false, .toks L⟩, ⟨true, .gen u [[.int .i64 c, .int .i64 d]]⟩] => .node (wTy s u) (.leaf ⟨[.int .i64 0, .bool false], [pb 2 a (.ptr 1 0 0), fb c d, tb L]⟩) .bad
  | _, _ => .bad
theorem okTake : FnOk (E0 B) 74 sTake := by
  refine fnT lib1_ok Tryz.func74 (by kernel_rfl) (by kernel_rfl) fun vs bs r h => ?_
  unfold sTake at h
  split at h
  · rename_i s a S L
    rcases T.node_sel h with ⟨hc, h2⟩ | ⟨_, h2⟩
    · rw [Bool.and_eq_true] at hc
      have hs := sameTys_eq hc.1
      subst hs
      refine (tTake L S a).trans ?_
      obtain ⟨e1, e2⟩ := inP_is hc.2 (bif nxB L a S then tkR L (nxV L a S) (w64 (a + 1)) (nxB L a S) else tkR L (nxV L a S) a (nxB L a S))
      rw [e1, e2, ← h2]
      unfold nxV
      cases nxB L a S <;> rfl
    · simp [T.sel] at h2
  · rename_i s a S L u c d
    rcases T.node_sel h with ⟨hc, h2⟩ | ⟨_, h2⟩
    · simp only [T.sel, Option.some.injEq] at h2; subst h2
      obtain ⟨rfl, rfl⟩ := wTy_is hc
      exact tTakeW L S a c d
    · simp [T.sel] at h2
  · simp [T.sel] at h
theorem tNeed (L : List Tok) (S : List (List UInt8)) (a : Int) : runT B lib1 Tryz.f71 [.ptr 0 0 0, .slw 1] [pb 2 a .nilp, sb S, tb L] =
    inP a S (bif nxB L a S then (bif !nxB L a S then flR L [i64 (nxV L a S)] (w64 (a + 1)) (w64 (w64 (a + 1) - 0)) 12 else gdR L [i64 (nxV L a S)] (w64 (a + 1))) else (bif !nxB L a S then flR L [i64 (nxV L a S)] a (w64 (a - 0)) 12 else gdR L [i64 (nxV L a S)] a)) := by kernel_rfl
theorem tNeedW (L : List Tok) (S : List (List UInt8)) (a c d : Int) : runT B lib1 Tryz.f71 [.ptr 0 0 0, .slw 1] [pb 2 a (.ptr 3 0 0), sb S, tb L, fb c d] = wrR L [i64 0] a c d := by kernel_rfl
def sNeed : FSpec
  | [.ptr 0 0 0, .slw 1], [⟨true, .gen s [[.slw 2, .int .i64 a, .nilp]]⟩, ⟨false, .strs S⟩, ⟨false, .toks L⟩] => .node (sameTys s pTy && okA L a S) (.node (nxB L a S) (.leaf ⟨[.int .i64 (nxI L a S)], [pb 1 (a + 1) .nilp, tb L]⟩) (.leaf ⟨[.int .i64 0], [pb 1 a (.ptr 2 0 0), tb L, fb a 12]⟩)) .bad
  | [.ptr 0 0 0, .slw 1], [⟨true, .gen s [[.slw 2, .int .i64 a, .ptr 3 0 0]]⟩, ⟨false, .strs _⟩, ⟨false, .toks L⟩, ⟨true, .gen u [[.int .i64 c, .int .i64 d]]⟩] => .node (wTy s u) (.leaf ⟨[.int .i64 0], [pb 2 a (.ptr 1 0 0), fb c d, tb L]⟩) .bad
  | _, _ => .bad
theorem okNeed : FnOk (E0 B) 71 sNeed := by
  refine fnT lib1_ok Tryz.func71 (by kernel_rfl) (by kernel_rfl) fun vs bs r h => ?_
  unfold sNeed at h
  split at h
  · rename_i s a S L
    rcases T.node_sel h with ⟨hc, h2⟩ | ⟨_, h2⟩
    · rw [Bool.and_eq_true] at hc
      have hs := sameTys_eq hc.1
      subst hs
      refine (tNeed L S a).trans ?_
      obtain ⟨h0, h1, h4, _⟩ := of_decide_eq_true hc.2
      have e3 : w64 (a - 0) = a := by rw [Int.sub_zero]; exact w64_rng (by unfold Rng; omega)
      refine (inP_is hc.2 _).1.trans ?_
      rw [(inP_is hc.2 (none : Option Out)).2, e3, ← h2]
      unfold nxV
      cases nxB L a S <;> rfl
    · simp [T.sel] at h2
  · rename_i s a S L u c d
    rcases T.node_sel h with ⟨hc, h2⟩ | ⟨_, h2⟩
    · simp only [T.sel, Option.some.injEq] at h2; subst h2
      obtain ⟨rfl, rfl⟩ := wTy_is hc
      exact tNeedW L S a c d
    · simp [T.sel] at h2
  · simp [T.sel] at h
noncomputable def lib2 : Tb := (26, [], sParse) :: (96, [], Lx.sRead) :: (65, [], Ck.sWin) :: (74, [], sTake) :: (71, [], sNeed) :: lib1
theorem lib2_ok (hB : Laid B) : TbOk B lib2 := ((((lib1_ok.add okNeed).add okTake).add Ck.okWin).add (Lx.okRead hB)).add (okParse hB)
def exR (L : List Tok) (a : Int) (X : List Nod) : Out := ⟨[.slw 1], [pb 2 a .nilp, ⟨true, .nodes X⟩, tb L]⟩
def exF (L : List Tok) (a c d : Int) (X : List Nod) : Out := ⟨[.slw 1], [pb 2 a (.ptr 3 0 0), ⟨true, .nodes X⟩, tb L, fb c d]⟩
theorem tExpr (L : List Tok) (a : Int) : runT B lib2 Tryz.f72 [.ptr 0 0 0] [pb 1 a .nilp, tb L] = bif shortT L then (bif !decide (zE L a = 0) then some (exF L (zN L a) (w64 (zN L a - 0)) (zE L a) (zX L a)) else some (exR L (zN L a) (zX L a))) else none := by kernel_rfl
theorem tExprW (L : List Tok) (a c d : Int) : runT B lib2 Tryz.f72 [.ptr 0 0 0] [pb 1 a (.ptr 2 0 0), tb L, fb c d] = some ⟨[.slw 2], [pb 3 a (.ptr 1 0 0), fb c d, ⟨true, .nodes []⟩, tb L]⟩ := by kernel_rfl
def okZ (L : List Tok) (a : Int) : Bool := shortT L && decide (Rng (zN L a))
def sExprP' : FSpec
  | [.ptr 0 0 0], [⟨true, .gen s [[.slw 1, .int .i64 a, .nilp]]⟩, ⟨false, .toks L⟩] => .node (sameTys s pTy && okZ L a) (.node (decide (zE L a = 0)) (.leaf ⟨[.slw 1], [pb 2 (zN L a) .nilp, ⟨true, .nodes (zX L a)⟩, tb L]⟩) (.leaf ⟨[.slw 1], [pb 2 (zN L a) (.ptr 3 0 0), ⟨true, .nodes (zX L a)⟩, tb L, fb (zN L a) (zE L a)]⟩)) .bad
  | [.ptr 0 0 0], [⟨true, .gen s [[.slw 1, .int .i64 a, .ptr 2 0 0]]⟩, ⟨false, .toks L⟩, ⟨true, .gen u [[.int .i64 c, .int .i64 d]]⟩] => .node (wTy s u) (.leaf ⟨[.slw 2], [pb 3 a (.ptr 1 0 0), fb c d, ⟨true, .nodes []⟩, tb L]⟩) .bad
  | _, _ => .bad
theorem okExprQ (hB : Laid B) : FnOk (E0 B) 72 sExprP' := by
  refine fnT (lib2_ok hB) Tryz.func72 (by kernel_rfl) (by kernel_rfl) fun vs bs r h => ?_
  unfold sExprP' at h
  split at h
  · rename_i s a L
    rcases T.node_sel h with ⟨hc, h2⟩ | ⟨_, h2⟩
    · rw [Bool.and_eq_true] at hc
      have hs := sameTys_eq hc.1
      subst hs
      have hz := hc.2
      unfold okZ at hz
      rw [Bool.and_eq_true] at hz
      have e3 : w64 (zN L a - 0) = zN L a := by rw [Int.sub_zero]; exact w64_rng (of_decide_eq_true hz.2)
      refine (tExpr L a).trans ?_
      rw [hz.1, e3, ← h2]
      cases decide (zE L a = 0) <;> rfl
    · simp [T.sel] at h2
  · rename_i s a L u c d
    rcases T.node_sel h with ⟨hc, h2⟩ | ⟨_, h2⟩
    · simp only [T.sel, Option.some.injEq] at h2; subst h2
      obtain ⟨rfl, rfl⟩ := wTy_is hc
      exact tExprW L a c d
    · simp [T.sel] at h2
  · simp [T.sel] at h
def nmF (L : List Tok) (a : Int) : Bool := decide ((L.length : Int) ≤ a) || !decide ((tkA L a).kind = 1)
def nmN (L : List Tok) (a : Int) : Int := rdN (tkA L a).text
def nmR (L : List Tok) (a t : Int) : Bool := decide (nmN L a < 1) || decide (t < nmN L a)
theorem tNum (L : List Tok) (a t : Int) : runT B lib2 Tryz.f112 [.ptr 0 0 0, i64 t] [pb 1 a .nilp, tb L] =
    bif decide ((L.length : Int) ≤ a) then flR L [i64 0] a (w64 (a - 0)) 12 else Ck.inb a L.length (bif !decide ((tkA L a).kind = 1) then flR L [i64 0] a (w64 (a - 0)) 12 else Ck.inb a L.length (bif decide ((tkA L a).text.length ≤ lim) then
      (bif decide (nmN L a < 1) then flR L [i64 (nmN L a)] (w64 (a + 1)) (w64 (a - 0)) 16 else bif decide (t < nmN L a) then flR L [i64 (nmN L a)] (w64 (a + 1)) (w64 (a - 0)) 16 else gdR L [i64 (nmN L a)] (w64 (a + 1))) else none)) := by kernel_rfl
theorem tNumW (L : List Tok) (a t c d : Int) : runT B lib2 Tryz.f112 [.ptr 0 0 0, i64 t] [pb 1 a (.ptr 2 0 0), tb L, fb c d] = wrR L [i64 0] a c d := by kernel_rfl
def sNum : FSpec
  | [.ptr 0 0 0, .int .i64 t], [⟨true, .gen s [[.slw 1, .int .i64 a, .nilp]]⟩, ⟨false, .toks L⟩] => .node (sameTys s pTy && (okA L a [] && shortT L)) (.node (nmF L a) (.leaf ⟨[.int .i64 0], [pb 1 a (.ptr 2 0 0), tb L, fb a 12]⟩) (.node (nmR L a t) (.leaf ⟨[.int .i64 (nmN L a)], [pb 1 (a + 1) (.ptr 2 0 0), tb L, fb a 16]⟩) (.leaf ⟨[.int .i64 (nmN L a)], [pb 1 (a + 1) .nilp, tb L]⟩))) .bad
  | [.ptr 0 0 0, .int .i64 _], [⟨true, .gen s [[.slw 1, .int .i64 a, .ptr 2 0 0]]⟩, ⟨false, .toks L⟩, ⟨true, .gen u [[.int .i64 c, .int .i64 d]]⟩] => .node (wTy s u) (.leaf ⟨[.int .i64 0], [pb 2 a (.ptr 1 0 0), fb c d, tb L]⟩) .bad
  | _, _ => .bad
theorem tkA_mem {L : List Tok} {a : Int} (h0 : 0 ≤ a) (h1 : a < (L.length : Int)) : tkA L a ∈ L := by
  unfold tkA
  have : a.toNat < L.length := by omega
  rw [List.getD, List.getElem?_eq_getElem this]
  exact List.getElem_mem this
theorem okNum (hB : Laid B) : FnOk (E0 B) 112 sNum := by
  refine fnT (lib2_ok hB) Tryz.func112 (by kernel_rfl) (by kernel_rfl) fun vs bs r h => ?_
  unfold sNum at h
  split at h
  · rename_i t s a L
    rcases T.node_sel h with ⟨hc, h2⟩ | ⟨_, h2⟩
    · simp only [Bool.and_eq_true] at hc
      have hs := sameTys_eq hc.1
      subst hs
      obtain ⟨h0, h1, h4, _⟩ := of_decide_eq_true hc.2.1
      have e3 : w64 (a - 0) = a := by rw [Int.sub_zero]; exact w64_rng (by unfold Rng; omega)
      have e4 : w64 (a + 1) = a + 1 := w64_rng (by unfold Rng; omega)
      refine (tNum L a t).trans ?_
      rw [e3, e4, ← h2]
      unfold nmF nmR
      by_cases hl : (L.length : Int) ≤ a
      · rw [decide_eq_true hl]; rfl
      · obtain ⟨j, rfl⟩ : ∃ j : Nat, a = (j : Int) := ⟨a.toNat, by omega⟩
        have hm := short_mem hc.2.2 (tkA_mem (L := L) (a := (j : Int)) h0 (by omega))
        rw [decide_eq_false hl, cond_false, Ck.inb_is (by omega), Ck.inb_is (by omega), decide_eq_true (show (tkA L j).text.length ≤ lim by simp only [lim]; omega)]
        cases decide ((tkA L j).kind = 1) <;> cases decide (nmN L j < 1) <;> cases decide (t < nmN L j) <;> rfl
    · simp [T.sel] at h2
  · rename_i s a L u c d
    rcases T.node_sel h with ⟨hc, h2⟩ | ⟨_, h2⟩
    · simp only [T.sel, Option.some.injEq] at h2; subst h2
      obtain ⟨rfl, rfl⟩ := wTy_is hc
      exact tNumW L a _ c d
    · simp [T.sel] at h2
  · simp [T.sel] at h
noncomputable def lib3 : Tb := (72, [], sExprP') :: (112, [], sNum) :: (65, [], Ck.sWin) :: (74, [], sTake) :: (71, [], sNeed) :: lib1
theorem lib3_ok (hB : Laid B) : TbOk B lib3 := ((((lib1_ok.add okNeed).add okTake).add Ck.okWin).add (okNum hB)).add (okExprQ hB)
end Go.Proofs.YtdckpbeioemopabGreatDoor.Pr
namespace Go.Proofs.YtdckpbeioemopabGreatDoor.Pr
open Go.Am Go Go.Proofs.YtdckpbeioemopabGreatDoor
set_option maxRecDepth 100000
variable {B : Nat → Option Obj}
def abS : List (List UInt8) := [[97], [98], [99], [100]]
def wnS : List (List UInt8) := [[116, 117, 109, 98, 108, 101], [115, 108, 105, 100, 101], [115, 101, 115, 115, 105, 111, 110]]
def evS : List (List UInt8) := [[101, 118, 101, 114, 121]]
def gA (L : List Tok) (a : Int) (S : List (List UInt8)) (z : Option Out) : Option Out := bif sameTys pTy pTy && okA L a S then z else none
def gN (L : List Tok) (a : Int) (z : Option Out) : Option Out := bif okA L a [] && shortT L then z else none
def ilb (l : List Int) : Blk := ⟨true, .ints .i64 l⟩
def hasI (n : Int) (l : List Int) : Bool := decide (firstL (hitI n) l < l.length)
def inL (n : Int) (l : List Int) : Bool := decide (0 ≤ ixI (hasI n l) (firstL (hitI n) l))
theorem inL_is (n : Int) (l : List Int) : inL n l = hasI n l := by
  unfold inL ixI
  cases hasI n l with
  | true => rw [cond_true]; exact decide_eq_true (by omega)
  | false => rfl
def srK (l : List Int) (n : Int) (z : Bool → Option Out) : Option Out := bif decide (l.length ≤ 1000) then (bif inL n l then (bif decide (l.length + 1 ≤ lim) then z true else none) else (bif decide (l.length + 1 ≤ lim) then z false else none)) else none
def srO (L : List Tok) (a : Int) (l : List Int) : Option Out := some ⟨[.slw 1], [pb 2 a .nilp, ilb l, tb L]⟩
def srF (L : List Tok) (a c d : Int) (l : List Int) : Option Out := some ⟨[.slw 1], [pb 2 a (.ptr 3 0 0), ilb l, tb L, fb c d]⟩
def srW (L : List Tok) (a c d : Int) (l : List Int) : Option Out := some ⟨[.slw 2], [pb 3 a (.ptr 1 0 0), fb c d, ilb l, tb L]⟩
def nx (L : List Tok) (a : Int) (S : List (List UInt8)) : Int := (nxI L a S : Int)
def srT (L : List Tok) (a : Int) (l : List Int) : Option Out := gA L a abS (bif nxB L a abS then srK l (nx L a abS) (fun h => bif h then srF L (a + 1) (w64 (a + 1 - 1)) 43 (l ++ [nx L a abS]) else srO L (a + 1) (l ++ [nx L a abS])) else srK l 0 fun h => bif h then srF L a a 12 (l ++ [0]) else srF L a a 12 (l ++ [0]))
theorem tSrc (L : List Tok) (a : Int) (l : List Int) : runT B lib3 Tryz.f73 [.ptr 0 0 0, .slw 1] [pb 2 a .nilp, ilb l, tb L] = srT L a l := by kernel_rfl
theorem tSrcW (L : List Tok) (a c d : Int) (l : List Int) : runT B lib3 Tryz.f73 [.ptr 0 0 0, .slw 1] [pb 2 a (.ptr 3 0 0), ilb l, tb L, fb c d] = srK l 0 (fun h => bif h then srW L a c d (l ++ [0]) else srW L a c d (l ++ [0])) := by kernel_rfl
theorem tSrcN (L : List Tok) (a : Int) : runT B lib3 Tryz.f73 [.ptr 0 0 0, .nils] [pb 1 a .nilp, tb L] = srT L a [] := by kernel_rfl
theorem tSrcNW (L : List Tok) (a c d : Int) : runT B lib3 Tryz.f73 [.ptr 0 0 0, .nils] [pb 1 a (.ptr 2 0 0), tb L, fb c d] = srK [] 0 (fun h => bif h then srW L a c d ([] ++ [0]) else srW L a c d ([] ++ [0])) := by kernel_rfl
def u8w (x : Int) : Int := IntKind.u8.wrap x
def wkI (L : List Tok) (a : Int) : Int := u8w (1 + u8w (nx L a wnS))
def wAg (k s e : Int) : AV := .agg [.int .u8 k, i64 s, i64 e]
def wOk (L : List Tok) (k s e a : Int) : Option Out := some ⟨[wAg k s e], [pb 1 a .nilp, tb L]⟩
def wFl (L : List Tok) (k s e a c d : Int) : Option Out := some ⟨[wAg k s e], [pb 1 a (.ptr 2 0 0), tb L, fb c d]⟩
def x2 (k : Int) (z : Option Out) : Option Out := bif decide (k = 2) then z else z
def mxS : Int := 1073741824
def wnP (L : List Tok) (k a : Int) : Option Out :=
  gN L a (bif nmF L a then x2 k (wFl L k 0 0 a a 12) else bif nmR L a mxS then x2 k (wFl L k (nmN L a) 0 (a + 1) a 16) else
    bif decide (k = 2) then gA L (a + 1) evS (bif nxB L (a + 1) evS then gN L (a + 1 + 1) (bif nmF L (a + 1 + 1) then wFl L k (nmN L a) 0 (a + 1 + 1) (a + 1 + 1) 12 else bif nmR L (a + 1 + 1) (nmN L a) then wFl L k (nmN L a) (nmN L (a + 1 + 1)) (a + 1 + 1 + 1) (a + 1 + 1) 16 else
      bif !decide ((bif fitsW k (nmN L a) (nmN L (a + 1 + 1)) then (0 : Int) else 8) = 0) then wFl L k (nmN L a) (nmN L (a + 1 + 1)) (a + 1 + 1 + 1) (w64 (a + 1 + 1 + 1 - 1)) 16 else wOk L k (nmN L a) (nmN L (a + 1 + 1)) (a + 1 + 1 + 1)) else wFl L k (nmN L a) 0 (a + 1) (a + 1) 12) else wOk L k (nmN L a) 0 (a + 1))
theorem tWinF (L : List Tok) (a : Int) : runT B lib3 Tryz.f75 [.ptr 0 0 0, .bool false] [pb 1 a .nilp, tb L] = gA L a wnS (bif nxB L a wnS then wnP L (wkI L a) (a + 1) else wFl L 1 0 0 a a 12) := by kernel_rfl
theorem tWinT (L : List Tok) (a : Int) : runT B lib3 Tryz.f75 [.ptr 0 0 0, .bool true] [pb 1 a .nilp, tb L] = gA L a wnS (bif nxB L a wnS then (bif !decide (wkI L a = 1) then x2 (wkI L a) (wFl L (wkI L a) 0 0 (a + 1) (w64 (a + 1 - 1)) 8) else wnP L (wkI L a) (a + 1)) else wFl L 1 0 0 a a 12) := by kernel_rfl
theorem tWinW (L : List Tok) (j : Bool) (a c d : Int) : runT B lib3 Tryz.f75 [.ptr 0 0 0, .bool j] [pb 1 a (.ptr 2 0 0), tb L, fb c d] = some ⟨[wAg 1 0 0], [pb 2 a (.ptr 1 0 0), fb c d, tb L]⟩ := by cases j <;> kernel_rfl
end Go.Proofs.YtdckpbeioemopabGreatDoor.Pr
namespace Go.Proofs.YtdckpbeioemopabGreatDoor.Pr
open Go.Am Go Go.Proofs.YtdckpbeioemopabGreatDoor
set_option maxRecDepth 100000
variable {B : Nat → Option Obj}
theorem srK_is {l : List Int} (hl : l.length ≤ 200) (n : Int) (z : Bool → Option Out) : srK l n z = z (hasI n l) := by
  unfold srK
  rw [decide_eq_true (show l.length ≤ 1000 by omega), decide_eq_true (show l.length + 1 ≤ lim by simp only [lim]; omega), inL_is]
  cases hasI n l <;> rfl
theorem gA_is {L : List Tok} {a : Int} {S : List (List UInt8)} (h : okA L a S = true) (z : Option Out) : gA L a S z = z := by
  unfold gA
  rw [h, show sameTys pTy pTy = true from rfl]; rfl
theorem okA_of {L : List Tok} {a : Int} (S : List (List UInt8)) (hS : S.length ≤ 1000) (h0 : 0 ≤ a) (h1 : a ≤ (L.length : Int)) (h2 : L.length ≤ 1000) : okA L a S = true := decide_eq_true ⟨h0, h1, h2, hS⟩
theorem nxB_lt {L : List Tok} {a : Int} {S : List (List UInt8)} (h : nxB L a S = true) : a < (L.length : Int) := by
  unfold nxB at h
  simp only [Bool.and_eq_true, Bool.not_eq_true', decide_eq_false_iff_not] at h
  omega
theorem wSub (a : Int) (h0 : 0 ≤ a) (h1 : a ≤ 1000) : w64 (a + 1 - 1) = a := by rw [show a + 1 - 1 = a by omega]; exact w64_rng (by unfold Rng; omega)
def srG (L : List Tok) (a : Int) (l : List Int) : Bool := okA L a abS && decide (l.length ≤ 200)
theorem srT_is {L : List Tok} {a : Int} {l : List Int} (h : srG L a l = true) : srT L a l = bif nxB L a abS then (bif hasI (nx L a abS) l then srF L (a + 1) a 43 (l ++ [nx L a abS]) else srO L (a + 1) (l ++ [nx L a abS])) else srF L a a 12 (l ++ [0]) := by
  unfold srG at h
  rw [Bool.and_eq_true] at h
  obtain ⟨h1, h2⟩ := h
  have h2 := of_decide_eq_true h2
  obtain ⟨g0, g1, g2, _⟩ := of_decide_eq_true h1
  unfold srT
  rw [gA_is h1, srK_is h2, srK_is h2, wSub a g0 (by omega)]
  cases nxB L a abS <;> cases hasI 0 l <;> rfl
def sSrc : FSpec
  | [.ptr 0 0 0, .slw 1], [⟨true, .gen s [[.slw 2, .int .i64 a, .nilp]]⟩, ⟨true, .ints .i64 l⟩, ⟨false, .toks L⟩] => .node (sameTys s pTy && srG L a l) (.node (nxB L a abS) (.node (hasI (nx L a abS) l) (.leaf ⟨[.slw 1], [pb 2 (a + 1) (.ptr 3 0 0), ilb (l ++ [nx L a abS]), tb L, fb a 43]⟩) (.leaf ⟨[.slw 1], [pb 2 (a + 1) .nilp, ilb (l ++ [nx L a abS]), tb L]⟩)) (.leaf ⟨[.slw 1], [pb 2 a (.ptr 3 0 0), ilb (l ++ [0]), tb L, fb a 12]⟩)) .bad
  | [.ptr 0 0 0, .slw 1], [⟨true, .gen s [[.slw 2, .int .i64 a, .ptr 3 0 0]]⟩, ⟨true, .ints .i64 l⟩, ⟨false, .toks L⟩, ⟨true, .gen u [[.int .i64 c, .int .i64 d]]⟩] => .node (wTy s u && decide (l.length ≤ 200)) (.leaf ⟨[.slw 2], [pb 3 a (.ptr 1 0 0), fb c d, ilb (l ++ [0]), tb L]⟩) .bad
  | [.ptr 0 0 0, .nils], [⟨true, .gen s [[.slw 1, .int .i64 a, .nilp]]⟩, ⟨false, .toks L⟩] => .node (sameTys s pTy && srG L a []) (.node (nxB L a abS) (.leaf ⟨[.slw 1], [pb 2 (a + 1) .nilp, ilb [nx L a abS], tb L]⟩) (.leaf ⟨[.slw 1], [pb 2 a (.ptr 3 0 0), ilb [0], tb L, fb a 12]⟩)) .bad
  | [.ptr 0 0 0, .nils], [⟨true, .gen s [[.slw 1, .int .i64 a, .ptr 2 0 0]]⟩, ⟨false, .toks L⟩, ⟨true, .gen u [[.int .i64 c, .int .i64 d]]⟩] => .node (wTy s u) (.leaf ⟨[.slw 2], [pb 3 a (.ptr 1 0 0), fb c d, ilb [0], tb L]⟩) .bad
  | _, _ => .bad
theorem okSrc (hB : Laid B) : FnOk (E0 B) 73 sSrc := by
  refine fnT (lib3_ok hB) Tryz.func73 (by kernel_rfl) (by kernel_rfl) fun vs bs r h => ?_
  unfold sSrc at h
  split at h
  · rename_i s a l L
    rcases T.node_sel h with ⟨hc, h2⟩ | ⟨_, h2⟩
    · rw [Bool.and_eq_true] at hc
      have hs := sameTys_eq hc.1
      subst hs
      refine (tSrc L a l).trans ((srT_is hc.2).trans ?_)
      rw [← h2]
      cases nxB L a abS <;> cases hasI (nx L a abS) l <;> rfl
    · simp [T.sel] at h2
  · rename_i s a l L u c d
    rcases T.node_sel h with ⟨hc, h2⟩ | ⟨_, h2⟩
    · rw [Bool.and_eq_true] at hc
      obtain ⟨rfl, rfl⟩ := wTy_is hc.1
      refine (tSrcW L a c d l).trans ?_
      rw [srK_is (of_decide_eq_true hc.2), ← h2]
      cases hasI 0 l <;> rfl
    · simp [T.sel] at h2
  · rename_i s a L
    rcases T.node_sel h with ⟨hc, h2⟩ | ⟨_, h2⟩
    · rw [Bool.and_eq_true] at hc
      have hs := sameTys_eq hc.1
      subst hs
      refine (tSrcN L a).trans ((srT_is hc.2).trans ?_)
      rw [← h2]
      cases nxB L a abS <;> rfl
    · simp [T.sel] at h2
  · rename_i s a L u c d
    rcases T.node_sel h with ⟨hc, h2⟩ | ⟨_, h2⟩
    · obtain ⟨rfl, rfl⟩ := wTy_is hc
      exact (tSrcNW L a c d).trans (by rw [← h2]; rfl)
    · simp [T.sel] at h2
  · simp [T.sel] at h
structure WR where
  k : Int
  s : Int
  e : Int
  a : Int
  c : Int
  d : Int
def WR.out (L : List Tok) (r : WR) : Option Out := bif decide (r.d = 0) then wOk L r.k r.s r.e r.a else wFl L r.k r.s r.e r.a r.c r.d
def wnQ (L : List Tok) (k a : Int) : WR :=
  bif nmF L a then ⟨k, 0, 0, a, a, 12⟩ else bif nmR L a mxS then ⟨k, nmN L a, 0, a + 1, a, 16⟩ else
    bif decide (k = 2) then (bif nxB L (a + 1) evS then (bif nmF L (a + 1 + 1) then ⟨k, nmN L a, 0, a + 1 + 1, a + 1 + 1, 12⟩ else bif nmR L (a + 1 + 1) (nmN L a) then ⟨k, nmN L a, nmN L (a + 1 + 1), a + 1 + 1 + 1, a + 1 + 1, 16⟩ else
      bif fitsW k (nmN L a) (nmN L (a + 1 + 1)) then ⟨k, nmN L a, nmN L (a + 1 + 1), a + 1 + 1 + 1, 0, 0⟩ else ⟨k, nmN L a, nmN L (a + 1 + 1), a + 1 + 1 + 1, a + 1 + 1, 16⟩) else ⟨k, nmN L a, 0, a + 1, a + 1, 12⟩) else ⟨k, nmN L a, 0, a + 1, 0, 0⟩
def wnR (L : List Tok) (j : Bool) (a : Int) : WR :=
  bif nxB L a wnS then (bif j && !decide (wkI L a = 1) then ⟨wkI L a, 0, 0, a + 1, a, 8⟩ else wnQ L (wkI L a) (a + 1)) else ⟨1, 0, 0, a, a, 12⟩
theorem gN_is {L : List Tok} {a : Int} (h : okA L a [] = true) (hs : shortT L = true) (z : Option Out) : gN L a z = z := by
  unfold gN
  rw [h, hs]; rfl
theorem nmF_lt {L : List Tok} {a : Int} (h : nmF L a = false) : a < (L.length : Int) := by
  unfold nmF at h
  rw [Bool.or_eq_false_iff] at h
  have := of_decide_eq_false h.1
  omega
theorem x2_is (k : Int) (z : Option Out) : x2 k z = z := by unfold x2; cases decide (k = 2) <;> rfl
theorem wnP_is {L : List Tok} {k a : Int} (h0 : 0 ≤ a) (h1 : a ≤ (L.length : Int)) (h2 : L.length ≤ 1000) (hs : shortT L = true) : wnP L k a = (wnQ L k a).out L := by
  unfold wnP wnQ
  rw [gN_is (okA_of [] (by simp) h0 h1 h2) hs, x2_is, x2_is]
  cases hf : nmF L a with
  | true => rfl
  | false =>
  have l1 := nmF_lt hf
  rw [gA_is (okA_of evS (by decide) (by omega) (by omega) h2)]
  cases nmR L a mxS with
  | true => rfl
  | false =>
  cases decide (k = 2) with
  | false => rfl
  | true =>
  simp only [cond_false, cond_true]
  cases hx : nxB L (a + 1) evS with
  | false => rfl
  | true =>
  have l2 := nxB_lt hx
  rw [gN_is (okA_of [] (by simp) (by omega) (by omega) h2) hs]
  simp only [cond_true]
  cases hf2 : nmF L (a + 1 + 1) with
  | true => rfl
  | false =>
  have l3 := nmF_lt hf2
  rw [show w64 (a + 1 + 1 + 1 - 1) = a + 1 + 1 from wSub _ (by omega) (by omega)]
  cases nmR L (a + 1 + 1) (nmN L a) <;> cases fitsW k (nmN L a) (nmN L (a + 1 + 1)) <;> rfl
def sWn : FSpec
  | [.ptr 0 0 0, .bool j], [⟨true, .gen s [[.slw 1, .int .i64 a, .nilp]]⟩, ⟨false, .toks L⟩] => .node (sameTys s pTy && (okA L a wnS && shortT L)) (.node (decide ((wnR L j a).d = 0)) (.leaf ⟨[.agg [.int .u8 (wnR L j a).k, .int .i64 (wnR L j a).s, .int .i64 (wnR L j a).e]], [pb 1 (wnR L j a).a .nilp, tb L]⟩) (.leaf ⟨[.agg [.int .u8 (wnR L j a).k, .int .i64 (wnR L j a).s, .int .i64 (wnR L j a).e]], [pb 1 (wnR L j a).a (.ptr 2 0 0), tb L, fb (wnR L j a).c (wnR L j a).d]⟩)) .bad
  | [.ptr 0 0 0, .bool _], [⟨true, .gen s [[.slw 1, .int .i64 a, .ptr 2 0 0]]⟩, ⟨false, .toks L⟩, ⟨true, .gen u [[.int .i64 c, .int .i64 d]]⟩] => .node (wTy s u) (.leaf ⟨[.agg [.int .u8 1, .int .i64 0, .int .i64 0]], [pb 2 a (.ptr 1 0 0), fb c d, tb L]⟩) .bad
  | _, _ => .bad
theorem tWin {L : List Tok} {a : Int} (j : Bool) (h : okA L a wnS = true) (hs : shortT L = true) : runT B lib3 Tryz.f75 [.ptr 0 0 0, .bool j] [pb 1 a .nilp, tb L] = (wnR L j a).out L := by
  obtain ⟨h0, h1, h2, _⟩ := of_decide_eq_true h
  unfold wnR
  cases j with
  | false =>
    refine (tWinF L a).trans ?_
    rw [gA_is h]
    cases hx : nxB L a wnS with
    | false => rfl
    | true =>
      have l1 := nxB_lt hx
      exact wnP_is (by omega) (by omega) h2 hs
  | true =>
    refine (tWinT L a).trans ?_
    rw [gA_is h, x2_is]
    cases hx : nxB L a wnS with
    | false => rfl
    | true =>
      have l1 := nxB_lt hx
      rw [wSub a h0 (by omega), Bool.true_and]
      cases decide (wkI L a = 1) with
      | false => rfl
      | true => exact wnP_is (by omega) (by omega) h2 hs
theorem okWn (hB : Laid B) : FnOk (E0 B) 75 sWn := by
  refine fnT (lib3_ok hB) Tryz.func75 (by kernel_rfl) (by kernel_rfl) fun vs bs r h => ?_
  unfold sWn at h
  split at h
  · rename_i j s a L
    rcases T.node_sel h with ⟨hc, h2⟩ | ⟨_, h2⟩
    · simp only [Bool.and_eq_true] at hc
      have hs := sameTys_eq hc.1
      subst hs
      refine (tWin j hc.2.1 hc.2.2).trans ?_
      rw [← h2]
      unfold WR.out
      cases decide ((wnR L j a).d = 0) <;> rfl
    · simp [T.sel] at h2
  · rename_i j s a L u c d
    rcases T.node_sel h with ⟨hc, h2⟩ | ⟨_, h2⟩
    · obtain ⟨rfl, rfl⟩ := wTy_is hc
      exact (tWinW L j a c d).trans (by rw [← h2]; rfl)
    · simp [T.sel] at h2
  · simp [T.sel] at h
noncomputable def lib4 : Tb := (75, [], sWn) :: (73, [1], sSrc) :: (72, [], sExprP') :: (74, [], sTake) :: (71, [], sNeed) :: []
theorem lib4_ok (hB : Laid B) : TbOk B lib4 := ((((TbOk.nil.add okNeed).add okTake).add (okExprQ hB)).add (okSrc hB)).add (okWn hB)
end Go.Proofs.YtdckpbeioemopabGreatDoor.Pr
namespace Go.Proofs.YtdckpbeioemopabGreatDoor.Pr
open Go.Am Go Go.Proofs.YtdckpbeioemopabGreatDoor
set_option maxRecDepth 100000
variable {B : Nat → Option Obj}
noncomputable def bUn : Code := loopAt 15 (loopsOf (bodyC Tryz.f37))
def sgUn : LSig := { cs := [(0, 0), (3, 0)], mv := [(5, 0)], mo := [], take := [4] }
def qTy : List TypeId := [5, 22, 23, 4, 22, 5, 2, 2, 4, 5]
def qx (g : Int) (x y z : Nat) : Blk := ⟨true, .gen qTy [[.int .u8 g, .slw x, .slw y, .bool false, .slw z, .int .u8 0, i64 0, i64 0, .bool false, .int .u8 1]]⟩
def nb (b : Bool) (A : List Nod) : Blk := ⟨b, .nodes A⟩
def lb (b : Bool) (l : List Int) : Blk := ⟨b, .ints .i64 l⟩
def unS : List (List UInt8) := [[117, 110, 105, 111, 110]]
abbrev LO := Option (AExit × Out)
def unV (m : Bool) : List AV := [.ptr 0 0 0, .ptr 1 0 0, .bool m]
def unG (g a : Int) (b1 b2 b3 : Bool) (L : List Tok) (A : List Nod) (l : List Int) (W : List Nod) : List Blk := [pb 2 a .nilp, qx g 3 4 5, tb L, nb b1 A, lb b2 l, nb b3 W]
def unB (g a c d : Int) (b1 b2 b3 : Bool) (L : List Tok) (A : List Nod) (l : List Int) (W : List Nod) : List Blk := [pb 2 a (.ptr 3 0 0), qx g 4 5 6, tb L, fb c d, nb b1 A, lb b2 l, nb b3 W]
def unX (g a c d : Int) (b1 b2 b3 : Bool) (L : List Tok) (A : List Nod) (l : List Int) (W : List Nod) : List Blk := [pb 3 a (.ptr 2 0 0), qx g 4 5 6, fb c d, tb L, nb b1 A, lb b2 l, nb b3 W]
theorem turnUF (g a : Int) (b1 b2 b3 : Bool) (L : List Tok) (A : List Nod) (l : List Int) (W : List Nod) : (turn (E0 B) (Cx B lib4) noL 129 sgUn bUn (unV false) (unG g a b1 b2 b3 L A l W)).sel = some (.exit 0, ⟨[], unG g a b1 b2 b3 L A l W⟩) := by
  cases b1 <;> cases b2 <;> cases b3 <;> kernel_rfl
theorem turnUB (g a c d : Int) (b1 b2 b3 : Bool) (L : List Tok) (A : List Nod) (l : List Int) (W : List Nod) : (turn (E0 B) (Cx B lib4) noL 129 sgUn bUn (unV false) (unB g a c d b1 b2 b3 L A l W)).sel = some (.exit 0, ⟨[], unX g a c d b1 b2 b3 L A l W⟩) := by
  cases b1 <;> cases b2 <;> cases b3 <;> kernel_rfl
def gL (L : List Tok) (a : Int) (S : List (List UInt8)) (z : LO) : LO := bif sameTys pTy pTy && okA L a S then z else none
def gS (L : List Tok) (a : Int) (l : List Int) (z : LO) : LO := bif sameTys pTy pTy && srG L a l then z else none
theorem turnUT (g a : Int) (L : List Tok) (A : List Nod) (l : List Int) (W : List Nod) : (turn (E0 B) (Cx B lib4) noL 129 sgUn bUn (unV true) (unG g a false true false L A l W)).sel =
    gS L a l (bif nxB L a abS then (bif hasI (nx L a abS) l then some (.normal, ⟨unV false, unB g (a + 1) a 43 false false false L A (l ++ [nx L a abS]) W⟩) else gL L (a + 1) unS (bif nxB L (a + 1) unS then some (.normal, ⟨unV true, unG g (a + 1 + 1) false true false L A (l ++ [nx L a abS]) W⟩) else some (.normal, ⟨unV false, unG g (a + 1) false true false L A (l ++ [nx L a abS]) W⟩)))
      else some (.normal, ⟨unV false, unB g a a 12 false false false L A (l ++ [0]) W⟩)) := by kernel_rfl
structure UR where
  a : Int
  s : List Int
  c : Int
  d : Int
def unR : Nat → List Tok → Int → List Int → UR
  | 0, _, a, l => ⟨a, l, 0, 0⟩
  | k + 1, L, a, l => bif nxB L a abS then (bif hasI (nx L a abS) l then ⟨a + 1, l ++ [nx L a abS], a, 43⟩ else bif nxB L (a + 1) unS then unR k L (a + 1 + 1) (l ++ [nx L a abS]) else ⟨a + 1, l ++ [nx L a abS], 0, 0⟩) else ⟨a, l ++ [0], a, 12⟩
def UR.out (g : Int) (L : List Tok) (A W : List Nod) (r : UR) : LO := bif decide (r.d = 0) then some (.exit 0, ⟨[], unG g r.a false true false L A r.s W⟩) else some (.exit 0, ⟨[], unX g r.a r.c r.d false false false L A r.s W⟩)
def unK (L : List Tok) (a : Int) (l : List Int) : Bool := okA L a [] && decide (2 * (l.length : Int) + (L.length : Int) ≤ 400 + a)
theorem un_turns (g : Int) (L : List Tok) (A W : List Nod) : ∀ (k : Nat) (a : Int) (l : List Int), (L.length : Int) < a + k → unK L a l = true → ∃ m, (turns (E0 B) (Cx B lib4) noL 129 sgUn bUn m (unV true) (unG g a false true false L A l W)).sel = (unR k L a l).out g L A W
  | 0, a, l, hk, hu => by
    unfold unK at hu
    rw [Bool.and_eq_true] at hu
    obtain ⟨h0, h1, _⟩ := of_decide_eq_true hu.1
    omega
  | k + 1, a, l, hk, hu => by
    have hu0 := hu
    unfold unK at hu
    rw [Bool.and_eq_true] at hu
    obtain ⟨h0, h1, h2, _⟩ := of_decide_eq_true hu.1
    have h3 := of_decide_eq_true hu.2
    have ht := turnUT (B := B) g a L A l W
    have e1 : gS L a l = fun z => z := by
      funext z
      unfold gS srG
      rw [okA_of abS (by decide) h0 h1 h2, decide_eq_true (show l.length ≤ 200 by omega)]; rfl
    rw [e1] at ht
    unfold unR
    cases hx : nxB L a abS with
    | false =>
      rw [hx, cond_false] at ht
      refine ⟨2, ?_⟩
      refine (turns_more' ht).trans ?_
      exact turns_done (turnUB g a a 12 false false false L A (l ++ [0]) W) (by simp)
    | true =>
      have l1 := nxB_lt hx
      rw [hx, cond_true] at ht
      cases hh : hasI (nx L a abS) l with
      | true =>
        rw [hh, cond_true] at ht
        refine ⟨2, ?_⟩
        refine (turns_more' ht).trans ?_
        exact turns_done (turnUB g (a + 1) a 43 false false false L A (l ++ [nx L a abS]) W) (by simp)
      | false =>
        have e2 : gL L (a + 1) unS = fun z => z := by
          funext z
          unfold gL
          rw [okA_of unS (by decide) (by omega) (by omega) h2]; rfl
        rw [hh, cond_false, e2] at ht
        cases hy : nxB L (a + 1) unS with
        | false =>
          rw [hy, cond_false] at ht
          refine ⟨2, ?_⟩
          refine (turns_more' ht).trans ?_
          exact turns_done (turnUF g (a + 1) false true false L A (l ++ [nx L a abS]) W) (by simp)
        | true =>
          have l2 := nxB_lt hy
          rw [hy, cond_true] at ht
          obtain ⟨m, hm⟩ := un_turns g L A W k (a + 1 + 1) (l ++ [nx L a abS]) (by omega) (by
            unfold unK
            rw [okA_of [] (by simp) (by omega) (by omega) h2, decide_eq_true (by simp only [List.length_append, List.length_singleton]; omega)]; rfl)
          exact ⟨m + 1, (turns_more' ht).trans hm⟩
def urA (L : List Tok) (a : Int) (l : List Int) : UR := unR (L.length + 1) L a l
def spUn : LSpec
  | [.ptr 0 0 0, .ptr 1 0 0, .bool false], [⟨true, .gen s [[.slw 2, .int .i64 a, .nilp]]⟩, ⟨true, .gen u [[.int .u8 g, .slw 3, .slw 4, .bool false, .slw 5, .int .u8 0, .int .i64 0, .int .i64 0, .bool false, .int .u8 1]]⟩, ⟨false, .toks L⟩, ⟨b1, .nodes A⟩, ⟨b2, .ints .i64 l⟩, ⟨b3, .nodes W⟩] =>
    .node (sameTys s pTy && sameTys u qTy) (.leaf (.exit 0, ⟨[], unG g a b1 b2 b3 L A l W⟩)) .bad
  | [.ptr 0 0 0, .ptr 1 0 0, .bool false], [⟨true, .gen s [[.slw 2, .int .i64 a, .ptr 3 0 0]]⟩, ⟨true, .gen u [[.int .u8 g, .slw 4, .slw 5, .bool false, .slw 6, .int .u8 0, .int .i64 0, .int .i64 0, .bool false, .int .u8 1]]⟩, ⟨false, .toks L⟩, ⟨true, .gen f [[.int .i64 c, .int .i64 d]]⟩, ⟨b1, .nodes A⟩, ⟨b2, .ints .i64 l⟩, ⟨b3, .nodes W⟩] =>
    .node (wTy s f && sameTys u qTy) (.leaf (.exit 0, ⟨[], unX g a c d b1 b2 b3 L A l W⟩)) .bad
  | [.ptr 0 0 0, .ptr 1 0 0, .bool true], [⟨true, .gen s [[.slw 2, .int .i64 a, .nilp]]⟩, ⟨true, .gen u [[.int .u8 g, .slw 3, .slw 4, .bool false, .slw 5, .int .u8 0, .int .i64 0, .int .i64 0, .bool false, .int .u8 1]]⟩, ⟨false, .toks L⟩, ⟨false, .nodes A⟩, ⟨true, .ints .i64 l⟩, ⟨false, .nodes W⟩] =>
    .node (sameTys s pTy && (sameTys u qTy && unK L a l)) (.node (decide ((urA L a l).d = 0)) (.leaf (.exit 0, ⟨[], unG g (urA L a l).a false true false L A (urA L a l).s W⟩)) (.leaf (.exit 0, ⟨[], unX g (urA L a l).a (urA L a l).c (urA L a l).d false false false L A (urA L a l).s W⟩))) .bad
  | _, _ => .bad
theorem loopUn (hB : Laid B) : LoopOk (E0 B) 129 sgUn bUn spUn := by
  refine loop_turns (C := Cx B lib4) (L := noL) (cxOk (lib4_ok hB)) (noL_ok _) fun vs bs e o h => ?_
  unfold spUn at h
  split at h
  · rename_i s a u g L b1 A b2 l b3 W
    rcases T.node_sel h with ⟨hc, h2⟩ | ⟨_, h2⟩
    · simp only [Bool.and_eq_true] at hc
      have h3 := sameTys_eq hc.1
      have h4 := sameTys_eq hc.2
      subst h3 h4
      refine ⟨1, ?_⟩
      rw [← h2]
      exact turns_done (turnUF g a b1 b2 b3 L A l W) (by simp)
    · simp [T.sel] at h2
  · rename_i s a u g L f c d b1 A b2 l b3 W
    rcases T.node_sel h with ⟨hc, h2⟩ | ⟨_, h2⟩
    · simp only [Bool.and_eq_true] at hc
      obtain ⟨rfl, rfl⟩ := wTy_is hc.1
      have h4 := sameTys_eq hc.2
      subst h4
      refine ⟨1, ?_⟩
      rw [← h2]
      exact turns_done (turnUB g a c d b1 b2 b3 L A l W) (by simp)
    · simp [T.sel] at h2
  · rename_i s a u g L A l W
    rcases T.node_sel h with ⟨hc, h2⟩ | ⟨_, h2⟩
    · simp only [Bool.and_eq_true] at hc
      have h3 := sameTys_eq hc.1
      have h4 := sameTys_eq hc.2.1
      subst h3 h4
      have hu := hc.2.2
      have h0 : 0 ≤ a := by
        unfold unK at hu
        rw [Bool.and_eq_true] at hu
        exact (of_decide_eq_true hu.1).1
      obtain ⟨m, hm⟩ := un_turns (B := B) g L A W (L.length + 1) a l (by omega) hu
      refine ⟨m, hm.trans ?_⟩
      rw [← h2]
      unfold UR.out urA
      cases decide ((unR (L.length + 1) L a l).d = 0) <;> rfl
    · simp [T.sel] at h2
  · simp [T.sel] at h
noncomputable def eUn : LEnt := { id := 15, n := 129, sg := sgUn, wr := writes bUn, s := spUn }
end Go.Proofs.YtdckpbeioemopabGreatDoor.Pr
