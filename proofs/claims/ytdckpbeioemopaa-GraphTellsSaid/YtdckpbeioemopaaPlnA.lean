/-
  Texts put together: PlanPure, PlanFn1, PlanFn2, PlanFn3, PlanFn4, CloneFn, PlanFn5.
-/
import Derived.Test.YtdckpbeioemopaaPureB
import Derived.Test.YtdckpbeioemopaaTxA
import Derived.Test.YtdckpbeioemopaaClsA
import Derived.Test.YtdckpbeioemopaaNodB
import Derived.WalkKit
import Derived.Laws.AppendOwn
import Derived.Lib.SliceRun
import Derived.Lib.Walk
import Derived.Test.YtdckpbeioemopaaLibA
namespace Go.Am
open Go.Lib
def stp (w k j l : Bool) : List Int := [1, 2] ++ ((bif w then [3] else []) ++ (4 :: ((bif k then [5] else []) ++ (6 :: ((bif j then 8 else 7) :: 9 :: (bif l then [10] else []))))))
def stpQ (q : Qry) : List Int := stp (decide (0 < q.whr.length)) q.byKey q.join (decide (q.late = 2))
def wScan : List UInt8 := [115, 99, 97, 110]
def wDrop : List UInt8 := [100, 114, 111, 112]
def wProj : List UInt8 := [112, 114, 111, 106, 101, 99, 116]
def wEmit : List UInt8 := [101, 109, 105, 116]
def ltL (l : Int) : List UInt8 := wLate ++ 32 :: (bif decide (l = 2) then wSide else wDrop)
def winL (wk ws we : Int) : List UInt8 := wWk wk ++ 32 :: (bif decide (wk = 2) then itoa ws ++ 32 :: (wEvery ++ 32 :: itoa we) else itoa ws)
def pjL (ag : Int) (t : List UInt8) : List UInt8 := wProj ++ 32 :: (bif decide (ag = 1) then [48] else t)
def whL (t : List UInt8) : List UInt8 := wWhere ++ 32 :: t
def Ex.put (a : Int) : Ex → Ex
  | .leaf k n _ => .leaf k n a
  | .un k _ e => .un k a (e.put a)
  | .bin k _ x y => .bin k a (x.put a) (y.put a)
end Go.Am
namespace Go.Proofs.Ytdckpbeioemopaa.Pl
open Go.Am Go Go.Proofs.Ytdckpbeioemopaa
set_option maxRecDepth 100000
variable {B : Nat → Option Obj}
def ubD (m : Bool) (l : List Int) : Dat := bif m then .bytes 5 l else .ints .u8 l
def ub (m : Bool) (l : List Int) : Blk := ⟨false, ubD m l⟩
noncomputable def bEu : Code := loopAt 4 (loopsOf (bodyC Try.f24))
def sgEu : LSig := { cs := [(0, 22), (1, 22), (12, 0)], mv := [(13, 0)], mo := [(4, 0)], take := [] }
theorem turnEu (a b : Bool) (L M : List Int) (n i : Int) : (turn (E0 B) (Cx B Ck.lb6) noL 26 sgEu bEu [.slw 0, .slw 1, i64 n, i64 i] [ub a L, ub b M]).sel =
    bif decide (i < n) then Ck.inb i L.length (Ck.inb i M.length (bif !Ck.eqInt (L.getD i.toNat 0) (M.getD i.toNat 0) then some (.ret, ⟨[.bool false], []⟩) else some (.normal, ⟨[.slw 0, .slw 1, i64 n, i64 (w64 (i + 1))], [ub a L, ub b M]⟩))) else some (.exit 0, ⟨[.any], []⟩) := by
  cases a <;> cases b <;> kernel_rfl
def euL (n i : Int) (L M : List Int) (g : Bool) : T (AExit × Out) := .node (g && decide (i = 0 ∧ n = (L.length : Int) ∧ L.length = M.length ∧ L.length ≤ 1000)) (.node (all2 Ck.eqInt L M) (.leaf (.exit 0, ⟨[.any], []⟩)) (.leaf (.ret, ⟨[.bool false], []⟩))) .bad
def spEu : LSpec
  | [.slw 0, .slw 1, .int .i64 n, .int .i64 i], [⟨false, .ints .u8 L⟩, ⟨false, .ints .u8 M⟩] => euL n i L M true
  | [.slw 0, .slw 1, .int .i64 n, .int .i64 i], [⟨false, .ints .u8 L⟩, ⟨false, .bytes t M⟩] => euL n i L M (Nat.beq t 5)
  | [.slw 0, .slw 1, .int .i64 n, .int .i64 i], [⟨false, .bytes t L⟩, ⟨false, .ints .u8 M⟩] => euL n i L M (Nat.beq t 5)
  | [.slw 0, .slw 1, .int .i64 n, .int .i64 i], [⟨false, .bytes t L⟩, ⟨false, .bytes u M⟩] => euL n i L M (Nat.beq t 5 && Nat.beq u 5)
  | _, _ => .bad
theorem runEu (a b : Bool) {n i : Int} {L M : List Int} {g : Bool} {e : AExit} {o : Out} (h : (euL n i L M g).sel = some (e, o)) : ∃ m, (turns (E0 B) (Cx B Ck.lb6) noL 26 sgEu bEu m [.slw 0, .slw 1, i64 n, i64 i] [ub a L, ub b M]).sel = some (e, o) := by
  unfold euL at h
  rcases T.node_sel h with ⟨hc, h2⟩ | ⟨_, h2⟩
  · rw [Bool.and_eq_true] at hc
    obtain ⟨rfl, rfl, hlm, hl⟩ := of_decide_eq_true hc.2
    obtain ⟨m, hm⟩ := scan_turns (E := E0 B) (C := Cx B Ck.lb6) (L := noL) (n := 26) (sg := sgEu) (body := bEu) (st := fun i => [.slw 0, .slw 1, i64 L.length, i64 i]) (bs := [ub a L, ub b M]) (len := L.length)
      (bad := fun j => !Ck.eqInt (L.getD j default) (M.getD j default)) (ob := fun _ => ⟨[.bool false], []⟩) (k := 0) (oe := ⟨[.any], []⟩) (fun i hi => by
        rw [turnEu]
        by_cases h : i < L.length
        · rw [decide_eq_true h, decide_eq_true (show (i : Int) < (L.length : Int) by omega), cond_true, Ck.inb_is h, Ck.inb_is (show i < M.length by omega), w64_rng (show Rng ((i : Int) + 1) by unfold Rng; omega)]; rfl
        · rw [decide_eq_false h, decide_eq_false (show ¬ (i : Int) < (L.length : Int) by omega)]; rfl) L.length 0 (by omega)
    refine ⟨m, hm.trans ?_⟩
    rw [first2 hlm, ← h2]
    simp only [T.sel]
    cases all2 Ck.eqInt L M <;> rfl
  · simp [T.sel] at h2
theorem euG {n i : Int} {L M : List Int} {g : Bool} {r : AExit × Out} (h : (euL n i L M g).sel = some r) : g = true := by
  unfold euL at h
  rcases T.node_sel h with ⟨hc, h2⟩ | ⟨_, h2⟩
  · rw [Bool.and_eq_true] at hc; exact hc.1
  · simp [T.sel] at h2
theorem loopEu : LoopOk (E0 B) 26 sgEu bEu spEu := by
  refine loop_turns (C := Cx B Ck.lb6) (L := noL) (cxOk Ck.lb6_ok) (noL_ok _) fun vs bs e o h => ?_
  unfold spEu at h
  split at h
  · exact runEu false false h
  · have hg := Nat.eq_of_beq_eq_true (euG h); subst hg; exact runEu false true h
  · have hg := Nat.eq_of_beq_eq_true (euG h); subst hg; exact runEu true false h
  · have hg := euG h
    rw [Bool.and_eq_true] at hg
    have h1 := Nat.eq_of_beq_eq_true hg.1
    have h2 := Nat.eq_of_beq_eq_true hg.2
    subst h1; subst h2; exact runEu true true h
  · simp [T.sel] at h
noncomputable def eEu : LEnt := { id := 4, n := 26, sg := sgEu, wr := writes bEu, s := spEu }
theorem tEu (a b : Bool) (L M : List Int) : runL B Ck.lb6 [eEu] Try.f24 [.slw 0, .slw 1] [ub a L, ub b M] =
    bif !decide ((L.length : Int) = (M.length : Int)) then rb false else bif decide ((0 : Int) = 0 ∧ (L.length : Int) = (L.length : Int) ∧ L.length = M.length ∧ L.length ≤ 1000) then (bif all2 Ck.eqInt L M then rb true else rb false) else none := by
  cases a <;> cases b <;> kernel_rfl
theorem all2_eq : ∀ L M : List Int, all2 Ck.eqInt L M = decide (L = M)
  | [], [] => rfl
  | [], _ :: _ => rfl
  | _ :: _, [] => rfl
  | x :: L, y :: M => by
    show (decide (x = y) && all2 Ck.eqInt L M) = _
    rw [all2_eq L M]
    by_cases h1 : x = y <;> by_cases h2 : L = M <;> simp [h1, h2]
def euT (L M : List Int) (g : Bool) : T Out := .node (g && decide (L.length ≤ 1000)) (.leaf ⟨[.bool (decide (L = M))], []⟩) .bad
def sEu : FSpec
  | [.slw 0, .slw 1], [⟨false, .ints .u8 L⟩, ⟨false, .ints .u8 M⟩] => euT L M true
  | [.slw 0, .slw 1], [⟨false, .ints .u8 L⟩, ⟨false, .bytes t M⟩] => euT L M (Nat.beq t 5)
  | [.slw 0, .slw 1], [⟨false, .bytes t L⟩, ⟨false, .ints .u8 M⟩] => euT L M (Nat.beq t 5)
  | [.slw 0, .slw 1], [⟨false, .bytes t L⟩, ⟨false, .bytes u M⟩] => euT L M (Nat.beq t 5 && Nat.beq u 5)
  | _, _ => .bad
theorem euT_is (a b : Bool) {L M : List Int} {g : Bool} {r : Out} (h : (euT L M g).sel = some r) : g = true ∧ runL B Ck.lb6 [eEu] Try.f24 [.slw 0, .slw 1] [ub a L, ub b M] = some r := by
  unfold euT at h
  rcases T.node_sel h with ⟨hc, h2⟩ | ⟨_, h2⟩
  · simp only [T.sel, Option.some.injEq] at h2; subst h2
    rw [Bool.and_eq_true] at hc
    refine ⟨hc.1, (tEu a b L M).trans ?_⟩
    rw [← all2_eq]
    by_cases hl : L.length = M.length
    · rw [decide_eq_true (show (L.length : Int) = (M.length : Int) by omega), decide_eq_true (show (0 : Int) = 0 ∧ (L.length : Int) = (L.length : Int) ∧ L.length = M.length ∧ L.length ≤ 1000 from ⟨rfl, rfl, hl, of_decide_eq_true hc.2⟩)]
      cases all2 Ck.eqInt L M <;> rfl
    · rw [decide_eq_false (show ¬ (L.length : Int) = (M.length : Int) by omega)]
      cases ha : all2 Ck.eqInt L M with
      | false => rfl
      | true => exact (hl (all2_len ha)).elim
  · simp [T.sel] at h2
theorem okEu : FnOk (E0 B) 24 sEu := by
  refine fnL Ck.lb6_ok (ls := [eEu]) Try.func24 (by kernel_rfl) (by kernel_rfl) (fun x hx => ?_) fun vs bs r h => ?_
  · simp only [List.mem_singleton] at hx; subst hx
    exact ⟨bEu, by kernel_rfl, rfl, loopEu⟩
  unfold sEu at h
  split at h
  · exact (euT_is false false h).2
  · have hg := Nat.eq_of_beq_eq_true (euT_is (B := B) false true h).1; subst hg; exact (euT_is false true h).2
  · have hg := Nat.eq_of_beq_eq_true (euT_is (B := B) true false h).1; subst hg; exact (euT_is true false h).2
  · have hg := (euT_is (B := B) true true h).1
    rw [Bool.and_eq_true] at hg
    have h1 := Nat.eq_of_beq_eq_true hg.1
    have h2 := Nat.eq_of_beq_eq_true hg.2
    subst h1; subst h2; exact (euT_is true true h).2
  · simp [T.sel] at h
def b4 {α : Type} (w k j l : Bool) (f : Bool → Bool → Bool → Bool → α) : α := bif w then (bif k then (bif j then (bif l then f true true true true else f true true true false) else (bif l then f true true false true else f true true false false)) else (bif j then (bif l then f true false true true else f true false true false) else (bif l then f true false false true else f true false false false)))
  else (bif k then (bif j then (bif l then f false true true true else f false true true false) else (bif l then f false true false true else f false true false false)) else (bif j then (bif l then f false false true true else f false false true false) else (bif l then f false false false true else f false false false false)))
theorem b4_is {α : Type} (w k j l : Bool) (f : Bool → Bool → Bool → Bool → α) : b4 w k j l f = f w k j l := by cases w <;> cases k <;> cases j <;> cases l <;> rfl
def stO (w k j l : Bool) : Option Out := some ⟨[.slw 0], [⟨true, .bytes 5 (stp w k j l)⟩]⟩
theorem tSteps (q : Qry) : runT B Ck.lb6 Try.f25 [q.av 0 1 2] (Ck.qbs q) = b4 (decide ((0 : Int) < (q.whr.length : Int))) q.byKey q.join (decide (q.late = 2)) stO := by kernel_rfl
def sSteps : FSpec
  | [.agg [.int .u8 ag, .slw 0, .slw 1, .bool j, .slw 2, .int .u8 wk, .int .i64 ws, .int .i64 we, .bool bk, .int .u8 lt]], [⟨false, .nodes A⟩, ⟨false, .ints .i64 S⟩, ⟨false, .nodes W⟩] => .leaf ⟨[.slw 0], [⟨true, .bytes 5 (stpQ ⟨ag, A, S, j, W, wk, ws, we, bk, lt⟩)⟩]⟩
  | _, _ => .bad
theorem okSteps : FnOk (E0 B) 25 sSteps := by
  refine fnT Ck.lb6_ok Try.func25 (by kernel_rfl) (by kernel_rfl) fun vs bs r h => ?_
  unfold sSteps at h
  split at h
  · rename_i ag j wk ws we bk lt A S W
    simp only [T.sel, Option.some.injEq] at h; subst h
    refine (tSteps ⟨ag, A, S, j, W, wk, ws, we, bk, lt⟩).trans ?_
    rw [b4_is, Ck.pos_cast]; rfl
  · simp [T.sel] at h
noncomputable def lib1 : Tb := (25, [], sSteps) :: (24, [], sEu) :: Ck.lb6
theorem lib1_ok : TbOk B lib1 := (Ck.lb6_ok.add okEu).add okSteps
def plAv (q : Qry) (s a b c : Nat) : AV := .agg [.slw s, .int .u8 q.agg, .slw a, .slw b, .bool q.join, .slw c, .int .u8 q.wk, .int .i64 q.ws, .int .i64 q.we, .bool q.byKey, .int .u8 q.late]
def plBs (m : Bool) (st : List Int) (q : Qry) : List Blk := ub m st :: Ck.qbs q
def plE (st : List Int) (q : Qry) : Int := bif !decide ((ckE q).2 = 0) then (ckE q).2 else bif decide (st = stpQ q) then 0 else 8
theorem tChkP (m : Bool) (st : List Int) (q : Qry) : runT B lib1 Try.f15 [plAv q 0 1 2 3] (plBs m st q) = bif !decide ((ckE q).2 = 0) then ri (ckE q).2 else bif decide (st.length ≤ 1000) then (bif !decide (st = stpQ q) then ri 8 else ri 0) else none := by
  cases m <;> kernel_rfl
def ckT (st : List Int) (q : Qry) (g : Bool) : T Out := .node (g && decide (st.length ≤ 1000)) (.leaf ⟨[.int .i64 (plE st q)], []⟩) .bad
def sChkP : FSpec
  | [.agg [.slw 0, .int .u8 ag, .slw 1, .slw 2, .bool j, .slw 3, .int .u8 wk, .int .i64 ws, .int .i64 we, .bool bk, .int .u8 lt]], [⟨false, .ints .u8 st⟩, ⟨false, .nodes A⟩, ⟨false, .ints .i64 S⟩, ⟨false, .nodes W⟩] => ckT st ⟨ag, A, S, j, W, wk, ws, we, bk, lt⟩ true
  | [.agg [.slw 0, .int .u8 ag, .slw 1, .slw 2, .bool j, .slw 3, .int .u8 wk, .int .i64 ws, .int .i64 we, .bool bk, .int .u8 lt]], [⟨false, .bytes t st⟩, ⟨false, .nodes A⟩, ⟨false, .ints .i64 S⟩, ⟨false, .nodes W⟩] => ckT st ⟨ag, A, S, j, W, wk, ws, we, bk, lt⟩ (Nat.beq t 5)
  | _, _ => .bad
theorem ckT_is (m : Bool) {st : List Int} {q : Qry} {g : Bool} {r : Out} (h : (ckT st q g).sel = some r) : g = true ∧ runT B lib1 Try.f15 [plAv q 0 1 2 3] (plBs m st q) = some r := by
  unfold ckT at h
  rcases T.node_sel h with ⟨hc, h2⟩ | ⟨_, h2⟩
  · simp only [T.sel, Option.some.injEq] at h2; subst h2
    rw [Bool.and_eq_true] at hc
    refine ⟨hc.1, (tChkP m st q).trans ?_⟩
    rw [hc.2]
    unfold plE
    cases decide ((ckE q).2 = 0) <;> cases decide (st = stpQ q) <;> rfl
  · simp [T.sel] at h2
theorem okChkP : FnOk (E0 B) 15 sChkP := by
  refine fnT lib1_ok Try.func15 (by kernel_rfl) (by kernel_rfl) fun vs bs r h => ?_
  unfold sChkP at h
  split at h
  · exact (ckT_is false h).2
  · have hg := Nat.eq_of_beq_eq_true (ckT_is (B := B) true h).1; subst hg; exact (ckT_is true h).2
  · simp [T.sel] at h
noncomputable def lib2 : Tb := (15, [], sChkP) :: lib1
theorem lib2_ok : TbOk B lib2 := lib1_ok.add okChkP
end Go.Proofs.Ytdckpbeioemopaa.Pl
namespace Go.Proofs.Ytdckpbeioemopaa.Pl
open Go.Am Go Go.Proofs.Ytdckpbeioemopaa
set_option maxRecDepth 100000
variable {B : Nat → Option Obj}
noncomputable def lib3 : Tb := lib2
def scN : List Int → List UInt8
  | [] => []
  | x :: r => 32 :: (nmS x ++ scN r)
end Go.Proofs.Ytdckpbeioemopaa.Pl
namespace Go.Proofs.Ytdckpbeioemopaa.Pl
open Go.Am Go Go.Proofs.Ytdckpbeioemopaa
set_option maxRecDepth 100000
variable {B : Nat → Option Obj}
def lnS (q : Qry) (s : Int) : List UInt8 := bif decide (s = 1) then wScan ++ scN q.src else bif decide (s = 2) then ltL q.late else bif decide (s = 3) then whL (prS q.whr) else bif decide (s = 4) then pjL q.agg (prS q.arg) else bif decide (s = 5) then wKey else
  bif decide (s = 6) then winL q.wk q.ws q.we else bif decide (s = 7) then wAg q.agg else bif decide (s = 8) then wJoin ++ 32 :: wAg q.agg else bif decide (s = 9) then wEmit else wSide
noncomputable def lib4 : Tb := lib3
end Go.Proofs.Ytdckpbeioemopaa.Pl
namespace Go.Proofs.Ytdckpbeioemopaa.Pl
open Go.Am Go Go.Proofs.Ytdckpbeioemopaa
set_option maxRecDepth 100000
variable {B : Nat → Option Obj}
noncomputable def lib5 : Tb := lib4
def plB (q : Qry) : List Int → List UInt8
  | [] => []
  | s :: r => lnS q s ++ 10 :: plB q r
end Go.Proofs.Ytdckpbeioemopaa.Pl
namespace Go.Proofs.Ytdckpbeioemopaa
open Go.RowKit Go.Am
set_option maxRecDepth 100000
variable {B : Nat → Option Obj}
end Go.Proofs.Ytdckpbeioemopaa
namespace Go.Proofs.Ytdckpbeioemopaa.Pl
open Go.Am Go Go.Proofs.Ytdckpbeioemopaa
set_option maxRecDepth 100000
variable {B : Nat → Option Obj}
theorem plE_0 {st : List Int} {q : Qry} (h : plE st q = 0) : (ckE q).2 = 0 ∧ st = stpQ q := by
  unfold plE at h
  by_cases h1 : (ckE q).2 = 0
  · rw [decide_eq_true h1] at h
    refine ⟨h1, ?_⟩
    cases h2 : decide (st = stpQ q) with
    | true => exact of_decide_eq_true h2
    | false => rw [h2] at h; cases h
  · rw [decide_eq_false h1] at h
    exact (h1 h).elim
theorem ckE_clk {q : Qry} (h : (ckE q).2 = 0) : clkE q = 0 := by
  unfold ckE at h
  by_cases h1 : clkE q = 0
  · exact h1
  · rw [decide_eq_false h1] at h; exact h
noncomputable def lib6 : Tb := lib2
end Go.Proofs.Ytdckpbeioemopaa.Pl
