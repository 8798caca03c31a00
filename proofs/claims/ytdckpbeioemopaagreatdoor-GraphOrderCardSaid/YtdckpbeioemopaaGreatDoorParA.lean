/-
  Texts put together: ParFn, ParFn2.
-/
import Derived.Test.YtdckpbeioemopaaGreatDoorTxA
import Derived.Test.YtdckpbeioemopaaGreatDoorClsA
namespace Go.Proofs.YtdckpbeioemopaaGreatDoor.Pr
open Go.Am Go Go.Proofs.YtdckpbeioemopaaGreatDoor
set_option maxRecDepth 100000
variable {B : Nat → Option Obj}
def ixI (b : Bool) (n : Nat) : Int := bif b then (n : Int) else -1
noncomputable def bIs : Code := loopAt 2 (loopsOf (bodyC Tryz.f123))
def sgIs : LSig := { cs := [(0, 160), (1, 0), (7, 0)], mv := [(8, 0)], mo := [(4, 0)], take := [] }
theorem turnIs (S : List (List UInt8)) (t : List UInt8) (n i : Int) : (turn (E0 B) (Cx B lib5) noL 19 sgIs bIs [.slw 0, .str t, i64 n, i64 i] [⟨false, .strs S⟩]).sel =
    bif decide (i < n) then Ck.inb i S.length (bif decide (t = S.getD i.toNat []) then some (.ret, ⟨[i64 i], []⟩) else some (.normal, ⟨[.slw 0, .str t, i64 n, i64 (w64 (i + 1))], [⟨false, .strs S⟩]⟩)) else some (.exit 0, ⟨[.any], []⟩) := by kernel_rfl
def hitS (t : List UInt8) (s : List UInt8) : Bool := decide (t = s)
def spIs : LSpec
  | [.slw 0, .str t, .int .i64 n, .int .i64 i], [⟨false, .strs S⟩] => .node (decide (i = 0 ∧ n = (S.length : Int) ∧ S.length ≤ 1000)) (.node (decide (firstL (hitS t) S < S.length)) (.leaf (.ret, ⟨[i64 (firstL (hitS t) S)], []⟩)) (.leaf (.exit 0, ⟨[.any], []⟩))) .bad
  | _, _ => .bad
theorem loopIs : LoopOk (E0 B) 19 sgIs bIs spIs := by
  refine loop_turns (C := Cx B lib5) (L := noL) (cxOk lib5_ok) (noL_ok _) fun vs bs e o h => ?_
  unfold spIs at h
  split at h
  · rename_i t n i S
    rcases T.node_sel h with ⟨hc, h2⟩ | ⟨_, h2⟩
    · obtain ⟨rfl, rfl, hl⟩ := of_decide_eq_true hc
      obtain ⟨m, hm⟩ := scan_turns (E := E0 B) (C := Cx B lib5) (L := noL) (n := 19) (sg := sgIs) (body := bIs) (st := fun i => [.slw 0, .str t, i64 S.length, i64 i]) (bs := [⟨false, .strs S⟩]) (len := S.length)
        (bad := fun j => hitS t (S.getD j default)) (ob := fun j => ⟨[i64 j], []⟩) (k := 0) (oe := ⟨[.any], []⟩) (fun i hi => by
          rw [turnIs]
          by_cases h : i < S.length
          · rw [decide_eq_true h, decide_eq_true (show (i : Int) < (S.length : Int) by omega), cond_true, Ck.inb_is h, w64_rng (show Rng ((i : Int) + 1) by unfold Rng; omega)]; rfl
          · rw [decide_eq_false h, decide_eq_false (show ¬ (i : Int) < (S.length : Int) by omega)]; rfl) S.length 0 (by omega)
      refine ⟨m, hm.trans ?_⟩
      rw [firstB_list (hitS t) S S 0 rfl, Nat.zero_add, ← h2]
      rfl
    · simp [T.sel] at h2
  · simp [T.sel] at h
noncomputable def eIs : LEnt := { id := 2, n := 19, sg := sgIs, wr := writes bIs, s := spIs }
theorem tIs (S : List (List UInt8)) (t : List UInt8) : runL B lib5 [eIs] Tryz.f123 [.slw 0, .str t] [⟨false, .strs S⟩] =
    bif decide ((0 : Int) = 0 ∧ (S.length : Int) = (S.length : Int) ∧ S.length ≤ 1000) then (bif decide (firstL (hitS t) S < S.length) then some ⟨[i64 (firstL (hitS t) S)], []⟩ else some ⟨[i64 (-1)], []⟩) else none := by kernel_rfl
def sIs : FSpec
  | [.slw 0, .str t], [⟨false, .strs S⟩] => .node (decide (S.length ≤ 1000)) (.leaf ⟨[.int .i64 (ixI (decide (firstL (hitS t) S < S.length)) (firstL (hitS t) S))], []⟩) .bad
  | _, _ => .bad
theorem okIs : FnOk (E0 B) 123 sIs := by
  refine fnL lib5_ok (ls := [eIs]) Tryz.func123 (by kernel_rfl) (by kernel_rfl) (fun x hx => ?_) fun vs bs r h => ?_
  · simp only [List.mem_singleton] at hx; subst hx
    exact ⟨bIs, by kernel_rfl, rfl, loopIs⟩
  unfold sIs at h
  split at h
  · rename_i t S
    rcases T.node_sel h with ⟨hc, h2⟩ | ⟨_, h2⟩
    · simp only [T.sel, Option.some.injEq] at h2; subst h2
      refine (tIs S t).trans ?_
      rw [decide_eq_true (show (0 : Int) = 0 ∧ (S.length : Int) = (S.length : Int) ∧ S.length ≤ 1000 from ⟨rfl, rfl, of_decide_eq_true hc⟩)]
      cases decide (firstL (hitS t) S < S.length) <;> rfl
    · simp [T.sel] at h2
  · simp [T.sel] at h
noncomputable def bIn : Code := loopAt 2 (loopsOf (bodyC Tryz.f122))
def sgIn : LSig := { cs := [(0, 24), (1, 0), (7, 0)], mv := [(8, 0)], mo := [(4, 0)], take := [] }
theorem turnIn (S : List Int) (t : Int) (n i : Int) : (turn (E0 B) (Cx B lib5) noL 19 sgIn bIn [.slw 0, i64 t, i64 n, i64 i] [⟨false, .ints .i64 S⟩]).sel =
    bif decide (i < n) then Ck.inb i S.length (bif decide (t = S.getD i.toNat 0) then some (.ret, ⟨[i64 i], []⟩) else some (.normal, ⟨[.slw 0, i64 t, i64 n, i64 (w64 (i + 1))], [⟨false, .ints .i64 S⟩]⟩)) else some (.exit 0, ⟨[.any], []⟩) := by kernel_rfl
def hitI (t : Int) (s : Int) : Bool := decide (t = s)
def spIn : LSpec
  | [.slw 0, .int .i64 t, .int .i64 n, .int .i64 i], [⟨false, .ints .i64 S⟩] => .node (decide (i = 0 ∧ n = (S.length : Int) ∧ S.length ≤ 1000)) (.node (decide (firstL (hitI t) S < S.length)) (.leaf (.ret, ⟨[i64 (firstL (hitI t) S)], []⟩)) (.leaf (.exit 0, ⟨[.any], []⟩))) .bad
  | _, _ => .bad
theorem loopIn : LoopOk (E0 B) 19 sgIn bIn spIn := by
  refine loop_turns (C := Cx B lib5) (L := noL) (cxOk lib5_ok) (noL_ok _) fun vs bs e o h => ?_
  unfold spIn at h
  split at h
  · rename_i t n i S
    rcases T.node_sel h with ⟨hc, h2⟩ | ⟨_, h2⟩
    · obtain ⟨rfl, rfl, hl⟩ := of_decide_eq_true hc
      obtain ⟨m, hm⟩ := scan_turns (E := E0 B) (C := Cx B lib5) (L := noL) (n := 19) (sg := sgIn) (body := bIn) (st := fun i => [.slw 0, i64 t, i64 S.length, i64 i]) (bs := [⟨false, .ints .i64 S⟩]) (len := S.length)
        (bad := fun j => hitI t (S.getD j default)) (ob := fun j => ⟨[i64 j], []⟩) (k := 0) (oe := ⟨[.any], []⟩) (fun i hi => by
          rw [turnIn]
          by_cases h : i < S.length
          · rw [decide_eq_true h, decide_eq_true (show (i : Int) < (S.length : Int) by omega), cond_true, Ck.inb_is h, w64_rng (show Rng ((i : Int) + 1) by unfold Rng; omega)]; rfl
          · rw [decide_eq_false h, decide_eq_false (show ¬ (i : Int) < (S.length : Int) by omega)]; rfl) S.length 0 (by omega)
      refine ⟨m, hm.trans ?_⟩
      rw [firstB_list (hitI t) S S 0 rfl, Nat.zero_add, ← h2]
      rfl
    · simp [T.sel] at h2
  · simp [T.sel] at h
noncomputable def eIn : LEnt := { id := 2, n := 19, sg := sgIn, wr := writes bIn, s := spIn }
theorem tIn (S : List Int) (t : Int) : runL B lib5 [eIn] Tryz.f122 [.slw 0, i64 t] [⟨false, .ints .i64 S⟩] =
    bif decide ((0 : Int) = 0 ∧ (S.length : Int) = (S.length : Int) ∧ S.length ≤ 1000) then (bif decide (firstL (hitI t) S < S.length) then some ⟨[i64 (firstL (hitI t) S)], []⟩ else some ⟨[i64 (-1)], []⟩) else none := by kernel_rfl
def sIn : FSpec
  | [.slw 0, .int .i64 t], [⟨false, .ints .i64 S⟩] => .node (decide (S.length ≤ 1000)) (.leaf ⟨[.int .i64 (ixI (decide (firstL (hitI t) S < S.length)) (firstL (hitI t) S))], []⟩) .bad
  | _, _ => .bad
theorem okIn : FnOk (E0 B) 122 sIn := by
  refine fnL lib5_ok (ls := [eIn]) Tryz.func122 (by kernel_rfl) (by kernel_rfl) (fun x hx => ?_) fun vs bs r h => ?_
  · simp only [List.mem_singleton] at hx; subst hx
    exact ⟨bIn, by kernel_rfl, rfl, loopIn⟩
  unfold sIn at h
  split at h
  · rename_i t S
    rcases T.node_sel h with ⟨hc, h2⟩ | ⟨_, h2⟩
    · simp only [T.sel, Option.some.injEq] at h2; subst h2
      refine (tIn S t).trans ?_
      rw [decide_eq_true (show (0 : Int) = 0 ∧ (S.length : Int) = (S.length : Int) ∧ S.length ≤ 1000 from ⟨rfl, rfl, of_decide_eq_true hc⟩)]
      cases decide (firstL (hitI t) S < S.length) <;> rfl
    · simp [T.sel] at h2
  · simp [T.sel] at h
noncomputable def lib0 : Tb := (123, [], sIs) :: (122, [], sIn) :: []
theorem lib0_ok : TbOk B lib0 := (TbOk.nil.add okIn).add okIs
end Go.Proofs.YtdckpbeioemopaaGreatDoor.Pr
namespace Go.Proofs.YtdckpbeioemopaaGreatDoor.Pr
open Go.Am Go Go.Proofs.YtdckpbeioemopaaGreatDoor
set_option maxRecDepth 100000
variable {B : Nat → Option Obj}
def pTy : List TypeId := [97, 3, 101]
def fTy : List TypeId := [3, 37]
def pb (k : Nat) (a : Int) (w : AV) : Blk := ⟨true, .gen pTy [[.slw k, i64 a, w]]⟩
def fb (a e : Int) : Blk := ⟨true, .gen fTy [[i64 a, i64 e]]⟩
def tb (L : List Tok) : Blk := ⟨false, .toks L⟩
def sb (S : List (List UInt8)) : Blk := ⟨false, .strs S⟩
def tkA (L : List Tok) (a : Int) : Tok := L.getD a.toNat default
def nxI (L : List Tok) (a : Int) (S : List (List UInt8)) : Nat := firstL (hitS (tkA L a).text) S
def nxB (L : List Tok) (a : Int) (S : List (List UInt8)) : Bool := !decide ((L.length : Int) ≤ a) && (!decide ((tkA L a).kind = 1) && decide (nxI L a S < S.length))
def nxV (L : List Tok) (a : Int) (S : List (List UInt8)) : Int := bif nxB L a S then (nxI L a S : Int) else 0
def mx0 (x : Int) : Int := if 0 > x then 0 else x
def pkR (L : List Tok) (a i : Int) (b : Bool) : Option Out := some ⟨[i64 i, .bool b], [pb 1 a .nilp, tb L]⟩
def ixA (L : List Tok) (a : Int) (S : List (List UInt8)) : Int := ixI (decide (nxI L a S < S.length)) (nxI L a S)
theorem tPeek (L : List Tok) (S : List (List UInt8)) (a : Int) : runT B lib0 Tryz.f101 [.ptr 0 0 0, .slw 1] [pb 2 a .nilp, sb S, tb L] =
    bif decide ((L.length : Int) ≤ a) then pkR L a 0 false else Ck.inb a L.length (bif decide ((tkA L a).kind = 1) then pkR L a 0 false else Ck.inb a L.length (bif decide (S.length ≤ 1000) then pkR L a (mx0 (ixA L a S)) (decide (0 ≤ ixA L a S)) else none)) := by kernel_rfl
theorem tPeekW (L : List Tok) (S : List (List UInt8)) (a c d : Int) : runT B lib0 Tryz.f101 [.ptr 0 0 0, .slw 1] [pb 2 a (.ptr 3 0 0), sb S, tb L, fb c d] = some ⟨[i64 0, .bool false], [pb 2 a (.ptr 1 0 0), fb c d, tb L]⟩ := by kernel_rfl
theorem peek_is {L : List Tok} {S : List (List UInt8)} {a : Int} (h0 : 0 ≤ a) (hS : S.length ≤ 1000) : (bif decide ((L.length : Int) ≤ a) then pkR L a 0 false else Ck.inb a L.length (bif decide ((tkA L a).kind = 1) then pkR L a 0 false else Ck.inb a L.length (bif decide (S.length ≤ 1000) then pkR L a (mx0 (ixA L a S)) (decide (0 ≤ ixA L a S)) else none))) = pkR L a (nxV L a S) (nxB L a S) := by
  unfold nxV nxB
  by_cases h1 : (L.length : Int) ≤ a
  · rw [decide_eq_true h1]; rfl
  · obtain ⟨j, rfl⟩ : ∃ j : Nat, a = (j : Int) := ⟨a.toNat, by omega⟩
    rw [decide_eq_false h1, cond_false, Ck.inb_is (by omega)]
    cases decide ((tkA L (j : Int)).kind = 1) with
    | true => rfl
    | false =>
      rw [cond_false, Ck.inb_is (by omega), decide_eq_true hS]
      unfold ixA ixI mx0
      by_cases h2 : nxI L j S < S.length
      · rw [decide_eq_true h2]
        simp only [cond_true, Bool.not_false, Bool.true_and]
        rw [if_neg (by omega), decide_eq_true (show (0 : Int) ≤ (nxI L j S : Int) by omega)]
      · rw [decide_eq_false h2]; rfl
def wTy (s u : List TypeId) : Bool := sameTys s pTy && sameTys u fTy
theorem wTy_is {s u : List TypeId} (h : wTy s u = true) : s = pTy ∧ u = fTy := by
  unfold wTy at h
  rw [Bool.and_eq_true] at h
  exact ⟨sameTys_eq h.1, sameTys_eq h.2⟩
def sPeek : FSpec
  | [.ptr 0 0 0, .slw 1], [⟨true, .gen s [[.slw 2, .int .i64 a, .nilp]]⟩, ⟨false, .strs S⟩, ⟨false, .toks L⟩] => .node (sameTys s pTy && decide (0 ≤ a ∧ S.length ≤ 1000)) (.leaf ⟨[.int .i64 (nxV L a S), .bool (nxB L a S)], [pb 1 a .nilp, tb L]⟩) .bad
  | [.ptr 0 0 0, .slw 1], [⟨true, .gen s [[.slw 2, .int .i64 a, .ptr 3 0 0]]⟩, ⟨false, .strs _⟩, ⟨false, .toks L⟩, ⟨true, .gen u [[.int .i64 c, .int .i64 d]]⟩] => .node (wTy s u) (.leaf ⟨[.int .i64 0, .bool false], [pb 2 a (.ptr 1 0 0), fb c d, tb L]⟩) .bad
  | _, _ => .bad
theorem okPeek : FnOk (E0 B) 101 sPeek := by
  refine fnT lib0_ok Tryz.func101 (by kernel_rfl) (by kernel_rfl) fun vs bs r h => ?_
  unfold sPeek at h
  split at h
  · rename_i s a S L
    rcases T.node_sel h with ⟨hc, h2⟩ | ⟨_, h2⟩
    · simp only [T.sel, Option.some.injEq] at h2; subst h2
      rw [Bool.and_eq_true] at hc
      have hs := sameTys_eq hc.1
      subst hs
      obtain ⟨h0, hS⟩ := of_decide_eq_true hc.2
      exact (tPeek L S a).trans (peek_is h0 hS)
    · simp [T.sel] at h2
  · rename_i s a S L u c d
    rcases T.node_sel h with ⟨hc, h2⟩ | ⟨_, h2⟩
    · simp only [T.sel, Option.some.injEq] at h2; subst h2
      obtain ⟨rfl, rfl⟩ := wTy_is hc
      exact tPeekW L S a c d
    · simp [T.sel] at h2
  · simp [T.sel] at h
noncomputable def lib1 : Tb := (101, [], sPeek) :: lib0
theorem lib1_ok : TbOk B lib1 := lib0_ok.add okPeek
def okA (L : List Tok) (a : Int) (S : List (List UInt8)) : Bool := decide (0 ≤ a ∧ a ≤ (L.length : Int) ∧ L.length ≤ 1000 ∧ S.length ≤ 1000)
def inP {α : Type} (a : Int) (S : List (List UInt8)) (k : Option α) : Option α := bif sameTys pTy pTy && decide (0 ≤ a ∧ S.length ≤ 1000) then k else none
def tkR (L : List Tok) (i a : Int) (b : Bool) : Option Out := some ⟨[i64 i, .bool b], [pb 1 a .nilp, tb L]⟩
def wrR (L : List Tok) (v : List AV) (a c d : Int) : Option Out := some ⟨v, [pb 2 a (.ptr 1 0 0), fb c d, tb L]⟩
def flR (L : List Tok) (v : List AV) (a c d : Int) : Option Out := some ⟨v, [pb 1 a (.ptr 2 0 0), tb L, fb c d]⟩
def gdR (L : List Tok) (v : List AV) (a : Int) : Option Out := some ⟨v, [pb 1 a .nilp, tb L]⟩
theorem tTake (L : List Tok) (S : List (List UInt8)) (a : Int) : runT B lib1 Tryz.f73 [.ptr 0 0 0, .slw 1] [pb 2 a .nilp, sb S, tb L] =
    inP a S (bif nxB L a S then tkR L (nxV L a S) (w64 (a + 1)) (nxB L a S) else tkR L (nxV L a S) a (nxB L a S)) := by kernel_rfl
theorem tTakeW (L : List Tok) (S : List (List UInt8)) (a c d : Int) : runT B lib1 Tryz.f73 [.ptr 0 0 0, .slw 1] [pb 2 a (.ptr 3 0 0), sb S, tb L, fb c d] = wrR L [i64 0, .bool false] a c d := by kernel_rfl
theorem inP_is {α : Type} {a : Int} {L : List Tok} {S : List (List UInt8)} (h : okA L a S = true) (k : Option α) : inP a S k = k ∧ w64 (a + 1) = a + 1 := by
  obtain ⟨h0, h1, h2, h3⟩ := of_decide_eq_true h
  unfold inP
  rw [show sameTys pTy pTy = true from rfl, decide_eq_true (show 0 ≤ a ∧ S.length ≤ 1000 from ⟨h0, h3⟩)]
  exact ⟨rfl, w64_rng (by unfold Rng; omega)⟩
def sTake : FSpec
  | [.ptr 0 0 0, .slw 1], [⟨true, .gen s [[.slw 2, .int .i64 a, .nilp]]⟩, ⟨false, .strs S⟩, ⟨false, .toks L⟩] => .node (sameTys s pTy && okA L a S) (.node (nxB L a S) (.leaf ⟨[.int .i64 (nxI L a S), .bool true], [pb 1 (a + 1) .nilp, tb L]⟩) (.leaf ⟨[.int .i64 0, .bool false], [pb 1 a .nilp, tb L]⟩)) .bad
  | [.ptr 0 0 0, .slw 1], [⟨true, .gen s [[.slw 2, .int .i64 a, .ptr 3 0 0]]⟩, ⟨false, .strs _⟩, ⟨false, .toks L⟩, ⟨true, .gen u [[.int .i64 c, .int .i64 d]]⟩] => .node (wTy s u) (.leaf ⟨[.int .i64 0, .bool false], [pb 2 a (.ptr 1 0 0), fb c d, tb L]⟩) .bad
  | _, _ => .bad
theorem okTake : FnOk (E0 B) 73 sTake := by
  refine fnT lib1_ok Tryz.func73 (by kernel_rfl) (by kernel_rfl) fun vs bs r h => ?_
  unfold sTake at h
  split at h
  · rename_i s a S L
    rcases T.node_sel h with ⟨hc, h2⟩ | ⟨_, h2⟩
    · rw [Bool.and_eq_true] at hc
      have hs := sameTys_eq hc.1
      subst hs
      refine (tTake L S a).trans ?_
      obtain ⟨e1, e2⟩ := inP_is hc.2 (bif nxB L a S then tkR L (nxV L a S) (w64 (a + 1)) (nxB L a S) else tkR L (nxV L a S) a (nxB L a S))
      rw [e1, e2, ← h2]
      unfold nxV
      cases nxB L a S <;> rfl
    · simp [T.sel] at h2
  · rename_i s a S L u c d
    rcases T.node_sel h with ⟨hc, h2⟩ | ⟨_, h2⟩
    · simp only [T.sel, Option.some.injEq] at h2; subst h2
      obtain ⟨rfl, rfl⟩ := wTy_is hc
      exact tTakeW L S a c d
    · simp [T.sel] at h2
  · simp [T.sel] at h
theorem tNeed (L : List Tok) (S : List (List UInt8)) (a : Int) : runT B lib1 Tryz.f70 [.ptr 0 0 0, .slw 1] [pb 2 a .nilp, sb S, tb L] =
    inP a S (bif nxB L a S then (bif !nxB L a S then flR L [i64 (nxV L a S)] (w64 (a + 1)) (w64 (w64 (a + 1) - 0)) 12 else gdR L [i64 (nxV L a S)] (w64 (a + 1))) else (bif !nxB L a S then flR L [i64 (nxV L a S)] a (w64 (a - 0)) 12 else gdR L [i64 (nxV L a S)] a)) := by kernel_rfl
theorem tNeedW (L : List Tok) (S : List (List UInt8)) (a c d : Int) : runT B lib1 Tryz.f70 [.ptr 0 0 0, .slw 1] [pb 2 a (.ptr 3 0 0), sb S, tb L, fb c d] = wrR L [i64 0] a c d := by kernel_rfl
def sNeed : FSpec
  | [.ptr 0 0 0, .slw 1], [⟨true, .gen s [[.slw 2, .int .i64 a, .nilp]]⟩, ⟨false, .strs S⟩, ⟨false, .toks L⟩] => .node (sameTys s pTy && okA L a S) (.node (nxB L a S) (.leaf ⟨[.int .i64 (nxI L a S)], [pb 1 (a + 1) .nilp, tb L]⟩) (.leaf ⟨[.int .i64 0], [pb 1 a (.ptr 2 0 0), tb L, fb a 12]⟩)) .bad
  | [.ptr 0 0 0, .slw 1], [⟨true, .gen s [[.slw 2, .int .i64 a, .ptr 3 0 0]]⟩, ⟨false, .strs _⟩, ⟨false, .toks L⟩, ⟨true, .gen u [[.int .i64 c, .int .i64 d]]⟩] => .node (wTy s u) (.leaf ⟨[.int .i64 0], [pb 2 a (.ptr 1 0 0), fb c d, tb L]⟩) .bad
  | _, _ => .bad
theorem okNeed : FnOk (E0 B) 70 sNeed := by
  refine fnT lib1_ok Tryz.func70 (by kernel_rfl) (by kernel_rfl) fun vs bs r h => ?_
  unfold sNeed at h
  split at h
  · rename_i s a S L
    rcases T.node_sel h with ⟨hc, h2⟩ | ⟨_, h2⟩
    · rw [Bool.and_eq_true] at hc
      have hs := sameTys_eq hc.1
      subst hs
      refine (tNeed L S a).trans ?_
      obtain ⟨h0, h1, h4, _⟩ := of_decide_eq_true hc.2
      have e3 : w64 (a - 0) = a := by rw [Int.sub_zero]; exact w64_rng (by unfold Rng; omega)
      refine (inP_is hc.2 _).1.trans ?_
      rw [(inP_is hc.2 (none : Option Out)).2, e3, ← h2]
      unfold nxV
      cases nxB L a S <;> rfl
    · simp [T.sel] at h2
  · rename_i s a S L u c d
    rcases T.node_sel h with ⟨hc, h2⟩ | ⟨_, h2⟩
    · simp only [T.sel, Option.some.injEq] at h2; subst h2
      obtain ⟨rfl, rfl⟩ := wTy_is hc
      exact tNeedW L S a c d
    · simp [T.sel] at h2
  · simp [T.sel] at h
noncomputable def lib2 : Tb := (99, [], sParse) :: (97, [], Lx.sRead) :: (63, [], Ck.sWin) :: (73, [], sTake) :: (70, [], sNeed) :: lib1
theorem lib2_ok (hB : Laid B) : TbOk B lib2 := ((((lib1_ok.add okNeed).add okTake).add Ck.okWin).add (Lx.okRead hB)).add (okParse hB)
def exR (L : List Tok) (a : Int) (X : List Nod) : Out := ⟨[.slw 1], [pb 2 a .nilp, ⟨true, .nodes X⟩, tb L]⟩
def exF (L : List Tok) (a c d : Int) (X : List Nod) : Out := ⟨[.slw 1], [pb 2 a (.ptr 3 0 0), ⟨true, .nodes X⟩, tb L, fb c d]⟩
theorem tExpr (L : List Tok) (a : Int) : runT B lib2 Tryz.f71 [.ptr 0 0 0] [pb 1 a .nilp, tb L] = bif shortT L then (bif !decide (zE L a = 0) then some (exF L (zN L a) (w64 (zN L a - 0)) (zE L a) (zX L a)) else some (exR L (zN L a) (zX L a))) else none := by kernel_rfl
theorem tExprW (L : List Tok) (a c d : Int) : runT B lib2 Tryz.f71 [.ptr 0 0 0] [pb 1 a (.ptr 2 0 0), tb L, fb c d] = some ⟨[.slw 2], [pb 3 a (.ptr 1 0 0), fb c d, ⟨true, .nodes []⟩, tb L]⟩ := by kernel_rfl
def okZ (L : List Tok) (a : Int) : Bool := shortT L && decide (Rng (zN L a))
def sExprP' : FSpec
  | [.ptr 0 0 0], [⟨true, .gen s [[.slw 1, .int .i64 a, .nilp]]⟩, ⟨false, .toks L⟩] => .node (sameTys s pTy && okZ L a) (.node (decide (zE L a = 0)) (.leaf ⟨[.slw 1], [pb 2 (zN L a) .nilp, ⟨true, .nodes (zX L a)⟩, tb L]⟩) (.leaf ⟨[.slw 1], [pb 2 (zN L a) (.ptr 3 0 0), ⟨true, .nodes (zX L a)⟩, tb L, fb (zN L a) (zE L a)]⟩)) .bad
  | [.ptr 0 0 0], [⟨true, .gen s [[.slw 1, .int .i64 a, .ptr 2 0 0]]⟩, ⟨false, .toks L⟩, ⟨true, .gen u [[.int .i64 c, .int .i64 d]]⟩] => .node (wTy s u) (.leaf ⟨[.slw 2], [pb 3 a (.ptr 1 0 0), fb c d, ⟨true, .nodes []⟩, tb L]⟩) .bad
  | _, _ => .bad
theorem okExprQ (hB : Laid B) : FnOk (E0 B) 71 sExprP' := by
  refine fnT (lib2_ok hB) Tryz.func71 (by kernel_rfl) (by kernel_rfl) fun vs bs r h => ?_
  unfold sExprP' at h
  split at h
  · rename_i s a L
    rcases T.node_sel h with ⟨hc, h2⟩ | ⟨_, h2⟩
    · rw [Bool.and_eq_true] at hc
      have hs := sameTys_eq hc.1
      subst hs
      have hz := hc.2
      unfold okZ at hz
      rw [Bool.and_eq_true] at hz
      have e3 : w64 (zN L a - 0) = zN L a := by rw [Int.sub_zero]; exact w64_rng (of_decide_eq_true hz.2)
      refine (tExpr L a).trans ?_
      rw [hz.1, e3, ← h2]
      cases decide (zE L a = 0) <;> rfl
    · simp [T.sel] at h2
  · rename_i s a L u c d
    rcases T.node_sel h with ⟨hc, h2⟩ | ⟨_, h2⟩
    · simp only [T.sel, Option.some.injEq] at h2; subst h2
      obtain ⟨rfl, rfl⟩ := wTy_is hc
      exact tExprW L a c d
    · simp [T.sel] at h2
  · simp [T.sel] at h
def nmF (L : List Tok) (a : Int) : Bool := decide ((L.length : Int) ≤ a) || !decide ((tkA L a).kind = 1)
def nmN (L : List Tok) (a : Int) : Int := rdN (tkA L a).text
def nmR (L : List Tok) (a t : Int) : Bool := decide (nmN L a < 1) || decide (t < nmN L a)
theorem tNum (L : List Tok) (a t : Int) : runT B lib2 Tryz.f102 [.ptr 0 0 0, i64 t] [pb 1 a .nilp, tb L] =
    bif decide ((L.length : Int) ≤ a) then flR L [i64 0] a (w64 (a - 0)) 12 else Ck.inb a L.length (bif !decide ((tkA L a).kind = 1) then flR L [i64 0] a (w64 (a - 0)) 12 else Ck.inb a L.length (bif decide ((tkA L a).text.length ≤ lim) then
      (bif decide (nmN L a < 1) then flR L [i64 (nmN L a)] (w64 (a + 1)) (w64 (a - 0)) 16 else bif decide (t < nmN L a) then flR L [i64 (nmN L a)] (w64 (a + 1)) (w64 (a - 0)) 16 else gdR L [i64 (nmN L a)] (w64 (a + 1))) else none)) := by kernel_rfl
theorem tNumW (L : List Tok) (a t c d : Int) : runT B lib2 Tryz.f102 [.ptr 0 0 0, i64 t] [pb 1 a (.ptr 2 0 0), tb L, fb c d] = wrR L [i64 0] a c d := by kernel_rfl
def sNum : FSpec
  | [.ptr 0 0 0, .int .i64 t], [⟨true, .gen s [[.slw 1, .int .i64 a, .nilp]]⟩, ⟨false, .toks L⟩] => .node (sameTys s pTy && (okA L a [] && shortT L)) (.node (nmF L a) (.leaf ⟨[.int .i64 0], [pb 1 a (.ptr 2 0 0), tb L, fb a 12]⟩) (.node (nmR L a t) (.leaf ⟨[.int .i64 (nmN L a)], [pb 1 (a + 1) (.ptr 2 0 0), tb L, fb a 16]⟩) (.leaf ⟨[.int .i64 (nmN L a)], [pb 1 (a + 1) .nilp, tb L]⟩))) .bad
  | [.ptr 0 0 0, .int .i64 _], [⟨true, .gen s [[.slw 1, .int .i64 a, .ptr 2 0 0]]⟩, ⟨false, .toks L⟩, ⟨true, .gen u [[.int .i64 c, .int .i64 d]]⟩] => .node (wTy s u) (.leaf ⟨[.int .i64 0], [pb 2 a (.ptr 1 0 0), fb c d, tb L]⟩) .bad
  | _, _ => .bad
theorem tkA_mem {L : List Tok} {a : Int} (h0 : 0 ≤ a) (h1 : a < (L.length : Int)) : tkA L a ∈ L := by
  unfold tkA
  have : a.toNat < L.length := by omega
  rw [List.getD, List.getElem?_eq_getElem this]
  exact List.getElem_mem this
theorem okNum (hB : Laid B) : FnOk (E0 B) 102 sNum := by
  refine fnT (lib2_ok hB) Tryz.func102 (by kernel_rfl) (by kernel_rfl) fun vs bs r h => ?_
  unfold sNum at h
  split at h
  · rename_i t s a L
    rcases T.node_sel h with ⟨hc, h2⟩ | ⟨_, h2⟩
    · simp only [Bool.and_eq_true] at hc
      have hs := sameTys_eq hc.1
      subst hs
      obtain ⟨h0, h1, h4, _⟩ := of_decide_eq_true hc.2.1
      have e3 : w64 (a - 0) = a := by rw [Int.sub_zero]; exact w64_rng (by unfold Rng; omega)
      have e4 : w64 (a + 1) = a + 1 := w64_rng (by unfold Rng; omega)
      refine (tNum L a t).trans ?_
      rw [e3, e4, ← h2]
      unfold nmF nmR
      by_cases hl : (L.length : Int) ≤ a
      · rw [decide_eq_true hl]; rfl
      · obtain ⟨j, rfl⟩ : ∃ j : Nat, a = (j : Int) := ⟨a.toNat, by omega⟩
        have hm := short_mem hc.2.2 (tkA_mem (L := L) (a := (j : Int)) h0 (by omega))
        rw [decide_eq_false hl, cond_false, Ck.inb_is (by omega), Ck.inb_is (by omega), decide_eq_true (show (tkA L j).text.length ≤ lim by simp only [lim]; omega)]
        cases decide ((tkA L j).kind = 1) <;> cases decide (nmN L j < 1) <;> cases decide (t < nmN L j) <;> rfl
    · simp [T.sel] at h2
  · rename_i s a L u c d
    rcases T.node_sel h with ⟨hc, h2⟩ | ⟨_, h2⟩
    · simp only [T.sel, Option.some.injEq] at h2; subst h2
      obtain ⟨rfl, rfl⟩ := wTy_is hc
      exact tNumW L a _ c d
    · simp [T.sel] at h2
  · simp [T.sel] at h
noncomputable def lib3 : Tb := (71, [], sExprP') :: (102, [], sNum) :: (63, [], Ck.sWin) :: (73, [], sTake) :: (70, [], sNeed) :: lib1
end Go.Proofs.YtdckpbeioemopaaGreatDoor.Pr
