/-
  Texts put together: PlanPure, PlanFn1, PlanFn2, PlanFn3, PlanFn4, CloneFn, PlanFn5.
-/
import Derived.Test.YtdckpbeioemopaaGreatDoorPureB
import Derived.Test.YtdckpbeioemopaaGreatDoorTxA
import Derived.Test.YtdckpbeioemopaaGreatDoorClsA
import Derived.Test.YtdckpbeioemopaaGreatDoorNodB
import Derived.WalkKit
import Derived.Laws.AppendOwn
import Derived.Lib.SliceRun
import Derived.Lib.Walk
import Derived.Test.YtdckpbeioemopaaGreatDoorLibA
namespace Go.Am
open Go.Lib
def stp (w k j l : Bool) : List Int := [1, 2] ++ ((bif w then [3] else []) ++ (4 :: ((bif k then [5] else []) ++ (6 :: ((bif j then 8 else 7) :: 9 :: (bif l then [10] else []))))))
def stpQ (q : Qry) : List Int := stp (decide (0 < q.whr.length)) q.byKey q.join (decide (q.late = 2))
def wScan : List UInt8 := [115, 99, 97, 110]
def wDrop : List UInt8 := [100, 114, 111, 112]
def wProj : List UInt8 := [112, 114, 111, 106, 101, 99, 116]
def wEmit : List UInt8 := [101, 109, 105, 116]
def ltL (l : Int) : List UInt8 := wLate ++ 32 :: (bif decide (l = 2) then wSide else wDrop)
def winL (wk ws we : Int) : List UInt8 := wWk wk ++ 32 :: (bif decide (wk = 2) then itoa ws ++ 32 :: (wEvery ++ 32 :: itoa we) else itoa ws)
def pjL (ag : Int) (t : List UInt8) : List UInt8 := wProj ++ 32 :: (bif decide (ag = 1) then [48] else t)
def whL (t : List UInt8) : List UInt8 := wWhere ++ 32 :: t
def Ex.put (a : Int) : Ex → Ex
  | .leaf k n _ => .leaf k n a
  | .un k _ e => .un k a (e.put a)
  | .bin k _ x y => .bin k a (x.put a) (y.put a)
end Go.Am
namespace Go.Proofs.YtdckpbeioemopaaGreatDoor.Pl
open Go.Am Go Go.Proofs.YtdckpbeioemopaaGreatDoor
set_option maxRecDepth 100000
variable {B : Nat → Option Obj}
def ubD (m : Bool) (l : List Int) : Dat := bif m then .bytes 5 l else .ints .u8 l
def ub (m : Bool) (l : List Int) : Blk := ⟨false, ubD m l⟩
noncomputable def bEu : Code := loopAt 4 (loopsOf (bodyC Tryz.f39))
def sgEu : LSig := { cs := [(0, 22), (1, 22), (12, 0)], mv := [(13, 0)], mo := [(4, 0)], take := [] }
theorem turnEu (a b : Bool) (L M : List Int) (n i : Int) : (turn (E0 B) (Cx B Ck.lb6) noL 26 sgEu bEu [.slw 0, .slw 1, i64 n, i64 i] [ub a L, ub b M]).sel =
    bif decide (i < n) then Ck.inb i L.length (Ck.inb i M.length (bif !Ck.eqInt (L.getD i.toNat 0) (M.getD i.toNat 0) then some (.ret, ⟨[.bool false], []⟩) else some (.normal, ⟨[.slw 0, .slw 1, i64 n, i64 (w64 (i + 1))], [ub a L, ub b M]⟩))) else some (.exit 0, ⟨[.any], []⟩) := by
  cases a <;> cases b <;> kernel_rfl
def euL (n i : Int) (L M : List Int) (g : Bool) : T (AExit × Out) := .node (g && decide (i = 0 ∧ n = (L.length : Int) ∧ L.length = M.length ∧ L.length ≤ 1000)) (.node (all2 Ck.eqInt L M) (.leaf (.exit 0, ⟨[.any], []⟩)) (.leaf (.ret, ⟨[.bool false], []⟩))) .bad
def spEu : LSpec
  | [.slw 0, .slw 1, .int .i64 n, .int .i64 i], [⟨false, .ints .u8 L⟩, ⟨false, .ints .u8 M⟩] => euL n i L M true
  | [.slw 0, .slw 1, .int .i64 n, .int .i64 i], [⟨false, .ints .u8 L⟩, ⟨false, .bytes t M⟩] => euL n i L M (Nat.beq t 5)
  | [.slw 0, .slw 1, .int .i64 n, .int .i64 i], [⟨false, .bytes t L⟩, ⟨false, .ints .u8 M⟩] => euL n i L M (Nat.beq t 5)
  | [.slw 0, .slw 1, .int .i64 n, .int .i64 i], [⟨false, .bytes t L⟩, ⟨false, .bytes u M⟩] => euL n i L M (Nat.beq t 5 && Nat.beq u 5)
  | _, _ => .bad
theorem runEu (a b : Bool) {n i : Int} {L M : List Int} {g : Bool} {e : AExit} {o : Out} (h : (euL n i L M g).sel = some (e, o)) : ∃ m, (turns (E0 B) (Cx B Ck.lb6) noL 26 sgEu bEu m [.slw 0, .slw 1, i64 n, i64 i] [ub a L, ub b M]).sel = some (e, o) := by
  unfold euL at h
  rcases T.node_sel h with ⟨hc, h2⟩ | ⟨_, h2⟩
  · rw [Bool.and_eq_true] at hc
    obtain ⟨rfl, rfl, hlm, hl⟩ := of_decide_eq_true hc.2
    obtain ⟨m, hm⟩ := scan_turns (E := E0 B) (C := Cx B Ck.lb6) (L := noL) (n := 26) (sg := sgEu) (body := bEu) (st := fun i => [.slw 0, .slw 1, i64 L.length, i64 i]) (bs := [ub a L, ub b M]) (len := L.length)
      (bad := fun j => !Ck.eqInt (L.getD j default) (M.getD j default)) (ob := fun _ => ⟨[.bool false], []⟩) (k := 0) (oe := ⟨[.any], []⟩) (fun i hi => by
        rw [turnEu]
        by_cases h : i < L.length
        · rw [decide_eq_true h, decide_eq_true (show (i : Int) < (L.length : Int) by omega), cond_true, Ck.inb_is h, Ck.inb_is (show i < M.length by omega), w64_rng (show Rng ((i : Int) + 1) by unfold Rng; omega)]; rfl
        · rw [decide_eq_false h, decide_eq_false (show ¬ (i : Int) < (L.length : Int) by omega)]; rfl) L.length 0 (by omega)
    refine ⟨m, hm.trans ?_⟩
    rw [first2 hlm, ← h2]
    simp only [T.sel]
    cases all2 Ck.eqInt L M <;> rfl
  · simp [T.sel] at h2
theorem euG {n i : Int} {L M : List Int} {g : Bool} {r : AExit × Out} (h : (euL n i L M g).sel = some r) : g = true := by
  unfold euL at h
  rcases T.node_sel h with ⟨hc, h2⟩ | ⟨_, h2⟩
  · rw [Bool.and_eq_true] at hc; exact hc.1
  · simp [T.sel] at h2
theorem loopEu : LoopOk (E0 B) 26 sgEu bEu spEu := by
  refine loop_turns (C := Cx B Ck.lb6) (L := noL) (cxOk Ck.lb6_ok) (noL_ok _) fun vs bs e o h => ?_
  unfold spEu at h
  split at h
  · exact runEu false false h
  · have hg := Nat.eq_of_beq_eq_true (euG h); subst hg; exact runEu false true h
  · have hg := Nat.eq_of_beq_eq_true (euG h); subst hg; exact runEu true false h
  · have hg := euG h
    rw [Bool.and_eq_true] at hg
    have h1 := Nat.eq_of_beq_eq_true hg.1
    have h2 := Nat.eq_of_beq_eq_true hg.2
    subst h1; subst h2; exact runEu true true h
  · simp [T.sel] at h
noncomputable def eEu : LEnt := { id := 4, n := 26, sg := sgEu, wr := writes bEu, s := spEu }
theorem tEu (a b : Bool) (L M : List Int) : runL B Ck.lb6 [eEu] Tryz.f39 [.slw 0, .slw 1] [ub a L, ub b M] =
    bif !decide ((L.length : Int) = (M.length : Int)) then rb false else bif decide ((0 : Int) = 0 ∧ (L.length : Int) = (L.length : Int) ∧ L.length = M.length ∧ L.length ≤ 1000) then (bif all2 Ck.eqInt L M then rb true else rb false) else none := by
  cases a <;> cases b <;> kernel_rfl
theorem all2_eq : ∀ L M : List Int, all2 Ck.eqInt L M = decide (L = M)
  | [], [] => rfl
  | [], _ :: _ => rfl
  | _ :: _, [] => rfl
  | x :: L, y :: M => by
    show (decide (x = y) && all2 Ck.eqInt L M) = _
    rw [all2_eq L M]
    by_cases h1 : x = y <;> by_cases h2 : L = M <;> simp [h1, h2]
def euT (L M : List Int) (g : Bool) : T Out := .node (g && decide (L.length ≤ 1000)) (.leaf ⟨[.bool (decide (L = M))], []⟩) .bad
def sEu : FSpec
  | [.slw 0, .slw 1], [⟨false, .ints .u8 L⟩, ⟨false, .ints .u8 M⟩] => euT L M true
  | [.slw 0, .slw 1], [⟨false, .ints .u8 L⟩, ⟨false, .bytes t M⟩] => euT L M (Nat.beq t 5)
  | [.slw 0, .slw 1], [⟨false, .bytes t L⟩, ⟨false, .ints .u8 M⟩] => euT L M (Nat.beq t 5)
  | [.slw 0, .slw 1], [⟨false, .bytes t L⟩, ⟨false, .bytes u M⟩] => euT L M (Nat.beq t 5 && Nat.beq u 5)
  | _, _ => .bad
theorem euT_is (a b : Bool) {L M : List Int} {g : Bool} {r : Out} (h : (euT L M g).sel = some r) : g = true ∧ runL B Ck.lb6 [eEu] Tryz.f39 [.slw 0, .slw 1] [ub a L, ub b M] = some r := by
  unfold euT at h
  rcases T.node_sel h with ⟨hc, h2⟩ | ⟨_, h2⟩
  · simp only [T.sel, Option.some.injEq] at h2; subst h2
    rw [Bool.and_eq_true] at hc
    refine ⟨hc.1, (tEu a b L M).trans ?_⟩
    rw [← all2_eq]
    by_cases hl : L.length = M.length
    · rw [decide_eq_true (show (L.length : Int) = (M.length : Int) by omega), decide_eq_true (show (0 : Int) = 0 ∧ (L.length : Int) = (L.length : Int) ∧ L.length = M.length ∧ L.length ≤ 1000 from ⟨rfl, rfl, hl, of_decide_eq_true hc.2⟩)]
      cases all2 Ck.eqInt L M <;> rfl
    · rw [decide_eq_false (show ¬ (L.length : Int) = (M.length : Int) by omega)]
      cases ha : all2 Ck.eqInt L M with
      | false => rfl
      | true => exact (hl (all2_len ha)).elim
  · simp [T.sel] at h2
theorem okEu : FnOk (E0 B) 39 sEu := by
  refine fnL Ck.lb6_ok (ls := [eEu]) Tryz.func39 (by kernel_rfl) (by kernel_rfl) (fun x hx => ?_) fun vs bs r h => ?_
  · simp only [List.mem_singleton] at hx; subst hx
    exact ⟨bEu, by kernel_rfl, rfl, loopEu⟩
  unfold sEu at h
  split at h
  · exact (euT_is false false h).2
  · have hg := Nat.eq_of_beq_eq_true (euT_is (B := B) false true h).1; subst hg; exact (euT_is false true h).2
  · have hg := Nat.eq_of_beq_eq_true (euT_is (B := B) true false h).1; subst hg; exact (euT_is true false h).2
  · have hg := (euT_is (B := B) true true h).1
    rw [Bool.and_eq_true] at hg
    have h1 := Nat.eq_of_beq_eq_true hg.1
    have h2 := Nat.eq_of_beq_eq_true hg.2
    subst h1; subst h2; exact (euT_is true true h).2
  · simp [T.sel] at h
def b4 {α : Type} (w k j l : Bool) (f : Bool → Bool → Bool → Bool → α) : α := bif w then (bif k then (bif j then (bif l then f true true true true else f true true true false) else (bif l then f true true false true else f true true false false)) else (bif j then (bif l then f true false true true else f true false true false) else (bif l then f true false false true else f true false false false)))
  else (bif k then (bif j then (bif l then f false true true true else f false true true false) else (bif l then f false true false true else f false true false false)) else (bif j then (bif l then f false false true true else f false false true false) else (bif l then f false false false true else f false false false false)))
theorem b4_is {α : Type} (w k j l : Bool) (f : Bool → Bool → Bool → Bool → α) : b4 w k j l f = f w k j l := by cases w <;> cases k <;> cases j <;> cases l <;> rfl
def stO (w k j l : Bool) : Option Out := some ⟨[.slw 0], [⟨true, .bytes 5 (stp w k j l)⟩]⟩
theorem tSteps (q : Qry) : runT B Ck.lb6 Tryz.f40 [q.av 0 1 2] (Ck.qbs q) = b4 (decide ((0 : Int) < (q.whr.length : Int))) q.byKey q.join (decide (q.late = 2)) stO := by kernel_rfl
def sSteps : FSpec
  | [.agg [.int .u8 ag, .slw 0, .slw 1, .bool j, .slw 2, .int .u8 wk, .int .i64 ws, .int .i64 we, .bool bk, .int .u8 lt]], [⟨false, .nodes A⟩, ⟨false, .ints .i64 S⟩, ⟨false, .nodes W⟩] => .leaf ⟨[.slw 0], [⟨true, .bytes 5 (stpQ ⟨ag, A, S, j, W, wk, ws, we, bk, lt⟩)⟩]⟩
  | _, _ => .bad
theorem okSteps : FnOk (E0 B) 40 sSteps := by
  refine fnT Ck.lb6_ok Tryz.func40 (by kernel_rfl) (by kernel_rfl) fun vs bs r h => ?_
  unfold sSteps at h
  split at h
  · rename_i ag j wk ws we bk lt A S W
    simp only [T.sel, Option.some.injEq] at h; subst h
    refine (tSteps ⟨ag, A, S, j, W, wk, ws, we, bk, lt⟩).trans ?_
    rw [b4_is, Ck.pos_cast]; rfl
  · simp [T.sel] at h
noncomputable def lib1 : Tb := (40, [], sSteps) :: (39, [], sEu) :: Ck.lb6
theorem lib1_ok : TbOk B lib1 := (Ck.lb6_ok.add okEu).add okSteps
def plAv (q : Qry) (s a b c : Nat) : AV := .agg [.slw s, .int .u8 q.agg, .slw a, .slw b, .bool q.join, .slw c, .int .u8 q.wk, .int .i64 q.ws, .int .i64 q.we, .bool q.byKey, .int .u8 q.late]
def plBs (m : Bool) (st : List Int) (q : Qry) : List Blk := ub m st :: Ck.qbs q
def plE (st : List Int) (q : Qry) : Int := bif !decide ((ckE q).2 = 0) then (ckE q).2 else bif decide (st = stpQ q) then 0 else 8
theorem tChkP (m : Bool) (st : List Int) (q : Qry) : runT B lib1 Tryz.f25 [plAv q 0 1 2 3] (plBs m st q) = bif !decide ((ckE q).2 = 0) then ri (ckE q).2 else bif decide (st.length ≤ 1000) then (bif !decide (st = stpQ q) then ri 8 else ri 0) else none := by
  cases m <;> kernel_rfl
def ckT (st : List Int) (q : Qry) (g : Bool) : T Out := .node (g && decide (st.length ≤ 1000)) (.leaf ⟨[.int .i64 (plE st q)], []⟩) .bad
def sChkP : FSpec
  | [.agg [.slw 0, .int .u8 ag, .slw 1, .slw 2, .bool j, .slw 3, .int .u8 wk, .int .i64 ws, .int .i64 we, .bool bk, .int .u8 lt]], [⟨false, .ints .u8 st⟩, ⟨false, .nodes A⟩, ⟨false, .ints .i64 S⟩, ⟨false, .nodes W⟩] => ckT st ⟨ag, A, S, j, W, wk, ws, we, bk, lt⟩ true
  | [.agg [.slw 0, .int .u8 ag, .slw 1, .slw 2, .bool j, .slw 3, .int .u8 wk, .int .i64 ws, .int .i64 we, .bool bk, .int .u8 lt]], [⟨false, .bytes t st⟩, ⟨false, .nodes A⟩, ⟨false, .ints .i64 S⟩, ⟨false, .nodes W⟩] => ckT st ⟨ag, A, S, j, W, wk, ws, we, bk, lt⟩ (Nat.beq t 5)
  | _, _ => .bad
theorem ckT_is (m : Bool) {st : List Int} {q : Qry} {g : Bool} {r : Out} (h : (ckT st q g).sel = some r) : g = true ∧ runT B lib1 Tryz.f25 [plAv q 0 1 2 3] (plBs m st q) = some r := by
  unfold ckT at h
  rcases T.node_sel h with ⟨hc, h2⟩ | ⟨_, h2⟩
  · simp only [T.sel, Option.some.injEq] at h2; subst h2
    rw [Bool.and_eq_true] at hc
    refine ⟨hc.1, (tChkP m st q).trans ?_⟩
    rw [hc.2]
    unfold plE
    cases decide ((ckE q).2 = 0) <;> cases decide (st = stpQ q) <;> rfl
  · simp [T.sel] at h2
theorem okChkP : FnOk (E0 B) 25 sChkP := by
  refine fnT lib1_ok Tryz.func25 (by kernel_rfl) (by kernel_rfl) fun vs bs r h => ?_
  unfold sChkP at h
  split at h
  · exact (ckT_is false h).2
  · have hg := Nat.eq_of_beq_eq_true (ckT_is (B := B) true h).1; subst hg; exact (ckT_is true h).2
  · simp [T.sel] at h
noncomputable def lib2 : Tb := (25, [], sChkP) :: lib1
end Go.Proofs.YtdckpbeioemopaaGreatDoor.Pl
namespace Go.Proofs.YtdckpbeioemopaaGreatDoor.Pl
open Go.Am Go Go.Proofs.YtdckpbeioemopaaGreatDoor
set_option maxRecDepth 100000
variable {B : Nat → Option Obj}
noncomputable def lib3 : Tb := lib2
def scN : List Int → List UInt8
  | [] => []
  | x :: r => 32 :: (nmS x ++ scN r)
end Go.Proofs.YtdckpbeioemopaaGreatDoor.Pl
namespace Go.Proofs.YtdckpbeioemopaaGreatDoor.Pl
open Go.Am Go Go.Proofs.YtdckpbeioemopaaGreatDoor
set_option maxRecDepth 100000
variable {B : Nat → Option Obj}
def lnS (q : Qry) (s : Int) : List UInt8 := bif decide (s = 1) then wScan ++ scN q.src else bif decide (s = 2) then ltL q.late else bif decide (s = 3) then whL (prS q.whr) else bif decide (s = 4) then pjL q.agg (prS q.arg) else bif decide (s = 5) then wKey else
  bif decide (s = 6) then winL q.wk q.ws q.we else bif decide (s = 7) then wAg q.agg else bif decide (s = 8) then wJoin ++ 32 :: wAg q.agg else bif decide (s = 9) then wEmit else wSide
noncomputable def lib4 : Tb := lib3
end Go.Proofs.YtdckpbeioemopaaGreatDoor.Pl
namespace Go.Proofs.YtdckpbeioemopaaGreatDoor.Pl
open Go.Am Go Go.Proofs.YtdckpbeioemopaaGreatDoor
set_option maxRecDepth 100000
variable {B : Nat → Option Obj}
noncomputable def lib5 : Tb := (160, [1], sBStr bTys 5) :: lib4
def pTy : List TypeId := [22] ++ qTy
def pCs (q : Qry) (s a b c : Nat) : List AV := [.slw s, .int .u8 q.agg, .slw a, .slw b, .bool q.join, .slw c, .int .u8 q.wk, .int .i64 q.ws, .int .i64 q.we, .bool q.byKey, .int .u8 q.late]
def ptB (m : Bool) (st : List Int) (q : Qry) (v : AV) (o : List Int) : List Blk := [⟨true, .gen pTy [pCs q 3 4 5 6]⟩, ⟨true, .gen bTys [[v, .slw 7]]⟩, ub m st, ub m st, ⟨false, .nodes q.arg⟩, ⟨false, .ints .i64 q.src⟩, ⟨false, .nodes q.whr⟩, ⟨true, .bytes 5 o⟩]
def ptX (m : Bool) (st : List Int) (q : Qry) (v : AV) (o : List Int) : List Blk := [⟨true, .gen pTy [pCs q 2 3 4 5]⟩, ⟨true, .gen bTys [[v, .slw 6]]⟩, ub m st, ⟨false, .nodes q.arg⟩, ⟨false, .ints .i64 q.src⟩, ⟨false, .nodes q.whr⟩, ⟨true, .bytes 5 o⟩]
def ptV (n i : Int) : List AV := [.ptr 0 0 0, .ptr 1 0 0, .slw 2, i64 n, i64 i]
def plB (q : Qry) : List Int → List UInt8
  | [] => []
  | s :: r => lnS q s ++ 10 :: plB q r
end Go.Proofs.YtdckpbeioemopaaGreatDoor.Pl
namespace Go.Proofs.YtdckpbeioemopaaGreatDoor
open Go.RowKit Go.Am
set_option maxRecDepth 100000
variable {B : Nat → Option Obj}
theorem uSlN : Tryz.prog.underlying 23 = some (.slice 87) := by kernel_rfl
theorem infN : ∃ i0, Tryz.prog.info? 87 = some i0 ∧ (∃ z, i0.zero = some z ∧ z.cells.size = 5) ∧ i0.size = 5 := by
  have h : (match Tryz.prog.info? 87 with | some i => (match i.zero with | some z => Nat.beq z.cells.size 5 | none => false) && Nat.beq i.size 5 | none => false) = true := by kernel_rfl
  cases hi : Tryz.prog.info? 87 with
  | none => rw [hi] at h; cases h
  | some i =>
    rw [hi] at h
    cases hz : i.zero with
    | none => simp [hz] at h
    | some z =>
      simp only [hz, Bool.and_eq_true] at h
      exact ⟨i, rfl, ⟨z, hz, Nat.eq_of_beq_eq_true h.1⟩, Nat.eq_of_beq_eq_true h.2⟩
theorem clone_none (n c : Nat) (w : World) : Calls Tryz.prog 45 #[.slice none n c] w fun e w' => e = .returned (.slice none 0 0) ∧ w' = w := by
  have q22 : ∀ (w : World) (a : Option Addr) (n c n' c' : Nat), (binOp .eql 23 (.slice a n c) (.slice none n' c')).run Tryz.prog w = .ok (.bool a.isNone) w := fun w a n c n' c' => Lib.run_eql_slice_nil w _ _ a n c n' c' uSlN
  go_enter Tryz.func45, Tryz.ntmps45
  go_wp2
  go_ret
  exact ⟨rfl, rfl⟩
theorem clone_zero (a : Addr) (c : Nat) (w : World) : Calls Tryz.prog 45 #[.slice (some a) 0 c] w fun e w' => ∃ v', e = .returned v' ∧ w'.ownsRow w.heap.size 87 5 v' 0 [] ∧ Below w.heap.size w w' := by
  have q22 : ∀ (w : World) (a : Option Addr) (n c n' c' : Nat), (binOp .eql 23 (.slice a n c) (.slice none n' c')).run Tryz.prog w = .ok (.bool a.isNone) w := fun w a n c n' c' => Lib.run_eql_slice_nil w _ _ a n c n' c' uSlN
  have u22 : ∀ w, Sem.run Tryz.prog (underlying 23) w = .ok (TypeDesc.slice 87) w := run_underlying uSlN
  obtain ⟨i0, hi, ⟨z, hz0, hzs⟩, hz1⟩ := infN
  go_enter Tryz.func45, Tryz.ntmps45
  go_wp2_with (at_builtin; refine wpList_append_own _ rfl _ _ 23 rfl w.heap.size 87 i0 z 5 i0.bytes uSlN hi hz0 hz1 rfl hzs (by decide) _ _ _ rfl (World.ownsRow_made w #[] 0 (Nat.le_refl _) (Nat.zero_le _) rfl) a 0 c [] rfl rfl (by intro j u hj; simp at hj) (by intro u hu; cases hu) (by unfold maxLen; omega) (by omega) (by simp) ?_)
  intro v' w1 hown hgrow hnil
  go_wp2
  go_ret
  refine ⟨v', rfl, by simpa using hown, ?_⟩
  exact ((Below.refl _ w).alloc (Nat.le_refl _) _).grown hgrow (by simp) (by intro k hk; simp [Value.ownBlock] at hk; omega)
theorem clone_empty (a : Option Addr) (c : Nat) (w : World) : Calls Tryz.prog 45 #[.slice a 0 c] w fun e w' => ∃ p : Pos, p.stride = 5 ∧ p.len = 0 ∧ p.cap ≤ maxLen ∧ (∃ v', e = .returned v' ∧ SlV p 0 0 v') ∧ Below w.heap.size w w' := by
  cases a with
  | none =>
    refine (clone_none 0 c w).mono fun e w' ⟨he, hw⟩ => ⟨⟨0, 0, 5, 0, 0, none⟩, rfl, rfl, Nat.zero_le _, ⟨_, he, ?_⟩, hw ▸ Below.refl _ _⟩
    exact ⟨none, rfl, fun h => absurd h (by simp)⟩
  | some a =>
    refine (clone_zero a c w).mono fun e w' ⟨v', he, ho, hw⟩ => ?_
    obtain ⟨_, ⟨rfl, _⟩ | ⟨g, cap, cur, rfl, _, _, _, hcap, _, _⟩⟩ := ho
    · exact ⟨⟨0, 0, 5, 0, 0, none⟩, rfl, rfl, Nat.zero_le _, ⟨_, he, none, rfl, fun h => absurd h (by simp)⟩, hw⟩
    · exact ⟨⟨g, 0, 5, 0, cap, none⟩, rfl, rfl, hcap, ⟨_, he, some ⟨g, 0, none⟩, rfl, fun _ => by simp [Pos.addr]⟩, hw⟩
def sClone0 : FSpec
  | [.slw 0], [⟨false, .nodes []⟩] => .leaf ⟨[.slw 0], [⟨false, .nodes []⟩]⟩
  | _, _ => .bad
theorem okClone0 : FnOk (E0 B) 45 sClone0 := by
  refine fnOk_empty (fnAt_mk (fn := Tryz.f45) Tryz.func45 (by kernel_rfl) (by kernel_rfl)) (d := .nodes []) rfl fun vs bs out hsel => ?_
  unfold sClone0 at hsel
  split at hsel
  · simp only [T.sel, Option.some.injEq] at hsel
    refine ⟨rfl, hsel.symm, fun w cargs ps hc hv => ?_⟩
    simp only [VL] at hv
    obtain ⟨v, r, rfl, hv0, rfl⟩ := hv
    simp only [V] at hv0
    obtain ⟨p, hp, hle, a, rfl, ha⟩ := hv0
    obtain ⟨q, hq, hs, hl, hcap, hmax⟩ := hc.sat.pos 0 _ (show blkH [⟨false, .nodes []⟩] 0 = some ⟨false, .nodes []⟩ from rfl)
    rw [hp] at hq; cases hq
    have hl : p.len = 0 := hl
    rw [hl]
    refine (clone_empty a _ w).mono fun e w' ⟨p', h1, h2, h3, ⟨v', he, hV⟩, hb⟩ => ⟨p', v', he, h1, h2, h3, hV, hb⟩
  · simp [T.sel] at hsel
def sCloneA : FSpec
  | [.slw 0], [⟨false, .nodes L⟩] => .node (decide (L.length ≤ 1000)) (.leaf ⟨[.slw 0], [⟨false, .nodes L⟩]⟩) .bad
  | _, _ => .bad
def sClone1 : FSpec
  | [.slw 0], [⟨false, .nodes L⟩] => .node (decide (0 < L.length ∧ L.length ≤ 1000)) (.leaf ⟨[.slw 0], [⟨false, .nodes L⟩]⟩) .bad
  | _, _ => .bad
theorem okClone1 : FnOk (E0 B) 45 sClone1 := fnOk_lend okClone fun vs bs o' h => by
  unfold sClone1 at h
  split at h
  · rename_i L
    rcases T.node_sel h with ⟨hc, h2⟩ | ⟨_, h2⟩
    · simp only [T.sel, Option.some.injEq] at h2; subst h2
      exact ⟨⟨[.slw 0], [⟨true, .nodes L⟩]⟩, by show (bif decide _ then _ else _) = _; rw [hc]; rfl, rfl, rfl⟩
    · simp [T.sel] at h2
  · simp [T.sel] at h
theorem okCloneA : FnOk (E0 B) 45 sCloneA := by
  refine ⟨okClone.1, fun vs bs out hsel => ?_⟩
  unfold sCloneA at hsel
  split at hsel
  · rename_i L
    rcases T.node_sel hsel with ⟨hc, h2⟩ | ⟨_, h2⟩
    · have hc := of_decide_eq_true hc
      simp only [T.sel, Option.some.injEq] at h2; subst h2
      cases L with
      | nil => exact okClone0.2 _ _ _ rfl
      | cons x r => exact okClone1.2 _ _ _ (by show (bif decide _ then _ else _) = _; rw [decide_eq_true (show 0 < (x :: r).length ∧ (x :: r).length ≤ 1000 from ⟨by simp, hc⟩)]; rfl)
    · simp [T.sel] at h2
  · simp [T.sel] at hsel
end Go.Proofs.YtdckpbeioemopaaGreatDoor
namespace Go.Proofs.YtdckpbeioemopaaGreatDoor.Pl
open Go.Am Go Go.Proofs.YtdckpbeioemopaaGreatDoor
set_option maxRecDepth 100000
variable {B : Nat → Option Obj}
noncomputable def lib6 : Tb := (45, [], sCloneA) :: lib2
end Go.Proofs.YtdckpbeioemopaaGreatDoor.Pl
