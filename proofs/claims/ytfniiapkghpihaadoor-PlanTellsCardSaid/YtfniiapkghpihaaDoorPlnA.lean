/-
  Texts put together: CloneFn, PlanFn1, PlanFn2, PlanFn3, PlanFn4, PlanFn5.
-/
import Derived.Test.YtfniiapkghpihaaDoorNodB
import Derived.WalkKit
import Derived.Laws.AppendOwn
import Derived.Lib.SliceRun
import Derived.Lib.Walk
import Derived.Test.YtfniiapkghpihaaDoorLibA
import Derived.Test.YtfniiapkghpihaaDoorTxA
import Derived.Test.YtfniiapkghpihaaDoorClsA
import Derived.Test.YtfniiapkghpihaaDoorPureB
/-
  slices.Clone of nodes, whatever their number: what comes back is told as lent.
-/
namespace Go.Proofs.YtfniiapkghpihaaDoor
open Go.RowKit Go.Am
set_option maxRecDepth 100000
variable {B : Nat → Option Obj}
theorem uSlN : Tryd.prog.underlying 22 = some (.slice 50) := by kernel_rfl
theorem infN : ∃ i0, Tryd.prog.info? 50 = some i0 ∧ (∃ z, i0.zero = some z ∧ z.cells.size = 5) ∧ i0.size = 5 := by
  have h : (match Tryd.prog.info? 50 with | some i => (match i.zero with | some z => Nat.beq z.cells.size 5 | none => false) && Nat.beq i.size 5 | none => false) = true := by kernel_rfl
  cases hi : Tryd.prog.info? 50 with
  | none => rw [hi] at h; cases h
  | some i =>
    rw [hi] at h
    cases hz : i.zero with
    | none => simp [hz] at h
    | some z =>
      simp only [hz, Bool.and_eq_true] at h
      exact ⟨i, rfl, ⟨z, hz, Nat.eq_of_beq_eq_true h.1⟩, Nat.eq_of_beq_eq_true h.2⟩
theorem clone_none (n c : Nat) (w : World) : Calls Tryd.prog 14 #[.slice none n c] w fun e w' => e = .returned (.slice none 0 0) ∧ w' = w := by
  have q22 : ∀ (w : World) (a : Option Addr) (n c n' c' : Nat), (binOp .eql 22 (.slice a n c) (.slice none n' c')).run Tryd.prog w = .ok (.bool a.isNone) w := fun w a n c n' c' => Lib.run_eql_slice_nil w _ _ a n c n' c' uSlN
  go_enter Tryd.func14, Tryd.ntmps14
  go_wp2
  go_ret
  exact ⟨rfl, rfl⟩
theorem clone_zero (a : Addr) (c : Nat) (w : World) : Calls Tryd.prog 14 #[.slice (some a) 0 c] w fun e w' => ∃ v', e = .returned v' ∧ w'.ownsRow w.heap.size 50 5 v' 0 [] ∧ Below w.heap.size w w' := by
  have q22 : ∀ (w : World) (a : Option Addr) (n c n' c' : Nat), (binOp .eql 22 (.slice a n c) (.slice none n' c')).run Tryd.prog w = .ok (.bool a.isNone) w := fun w a n c n' c' => Lib.run_eql_slice_nil w _ _ a n c n' c' uSlN
  have u22 : ∀ w, Sem.run Tryd.prog (underlying 22) w = .ok (TypeDesc.slice 50) w := run_underlying uSlN
  obtain ⟨i0, hi, ⟨z, hz0, hzs⟩, hz1⟩ := infN
  go_enter Tryd.func14, Tryd.ntmps14
  go_wp2_with (at_builtin; refine wpList_append_own _ rfl _ _ 22 rfl w.heap.size 50 i0 z 5 i0.bytes uSlN hi hz0 hz1 rfl hzs (by decide) _ _ _ rfl (World.ownsRow_made w #[] 0 (Nat.le_refl _) (Nat.zero_le _) rfl) a 0 c [] rfl rfl (by intro j u hj; simp at hj) (by intro u hu; cases hu) (by unfold maxLen; omega) (by omega) (by simp) ?_)
  intro v' w1 hown hgrow hnil
  go_wp2
  go_ret
  refine ⟨v', rfl, by simpa using hown, ?_⟩
  exact ((Below.refl _ w).alloc (Nat.le_refl _) _).grown hgrow (by simp) (by intro k hk; simp [Value.ownBlock] at hk; omega)
theorem clone_empty (a : Option Addr) (c : Nat) (w : World) : Calls Tryd.prog 14 #[.slice a 0 c] w fun e w' => ∃ p : Pos, p.stride = 5 ∧ p.len = 0 ∧ p.cap ≤ maxLen ∧ (∃ v', e = .returned v' ∧ SlV p 0 0 v') ∧ Below w.heap.size w w' := by
  cases a with
  | none =>
    refine (clone_none 0 c w).mono fun e w' ⟨he, hw⟩ => ⟨⟨0, 0, 5, 0, 0⟩, rfl, rfl, Nat.zero_le _, ⟨_, he, ?_⟩, hw ▸ Below.refl _ _⟩
    exact ⟨none, rfl, fun h => absurd h (by simp)⟩
  | some a =>
    refine (clone_zero a c w).mono fun e w' ⟨v', he, ho, hw⟩ => ?_
    obtain ⟨_, ⟨rfl, _⟩ | ⟨g, cap, cur, rfl, _, _, _, hcap, _, _⟩⟩ := ho
    · exact ⟨⟨0, 0, 5, 0, 0⟩, rfl, rfl, Nat.zero_le _, ⟨_, he, none, rfl, fun h => absurd h (by simp)⟩, hw⟩
    · exact ⟨⟨g, 0, 5, 0, cap⟩, rfl, rfl, hcap, ⟨_, he, some ⟨g, 0, none⟩, rfl, fun _ => by simp [Pos.addr]⟩, hw⟩
def sClone0 : FSpec
  | [.slw 0], [⟨false, .nodes []⟩] => .leaf ⟨[.slw 0], [⟨false, .nodes []⟩]⟩
  | _, _ => .bad
theorem okClone0 : FnOk (E0 B) 14 sClone0 := by
  refine fnOk_empty (fnAt_mk (fn := Tryd.f14) Tryd.func14 (by kernel_rfl) (by kernel_rfl)) (d := .nodes []) rfl fun vs bs out hsel => ?_
  unfold sClone0 at hsel
  split at hsel
  · simp only [T.sel, Option.some.injEq] at hsel
    refine ⟨rfl, hsel.symm, fun w cargs ps hc hv => ?_⟩
    simp only [VL] at hv
    obtain ⟨v, r, rfl, hv0, rfl⟩ := hv
    simp only [V] at hv0
    obtain ⟨p, hp, hle, a, rfl, ha⟩ := hv0
    obtain ⟨q, hq, hs, hl, hcap, hmax⟩ := hc.sat.pos 0 _ (show blkH [⟨false, .nodes []⟩] 0 = some ⟨false, .nodes []⟩ from rfl)
    rw [hp] at hq; cases hq
    have hl : p.len = 0 := hl
    rw [hl]
    refine (clone_empty a _ w).mono fun e w' ⟨p', h1, h2, h3, ⟨v', he, hV⟩, hb⟩ => ⟨p', v', he, h1, h2, h3, hV, hb⟩
  · simp [T.sel] at hsel
/-- a copy of nodes -/
def sCloneA : FSpec
  | [.slw 0], [⟨false, .nodes L⟩] => .node (decide (L.length ≤ 1000)) (.leaf ⟨[.slw 0], [⟨false, .nodes L⟩]⟩) .bad
  | _, _ => .bad
def sClone1 : FSpec
  | [.slw 0], [⟨false, .nodes L⟩] => .node (decide (0 < L.length ∧ L.length ≤ 1000)) (.leaf ⟨[.slw 0], [⟨false, .nodes L⟩]⟩) .bad
  | _, _ => .bad
theorem okClone1 : FnOk (E0 B) 14 sClone1 := fnOk_lend okClone fun vs bs o' h => by
  unfold sClone1 at h
  split at h
  · rename_i L
    rcases T.node_sel h with ⟨hc, h2⟩ | ⟨_, h2⟩
    · simp only [T.sel, Option.some.injEq] at h2; subst h2
      exact ⟨⟨[.slw 0], [⟨true, .nodes L⟩]⟩, by show (bif decide _ then _ else _) = _; rw [hc]; rfl, rfl, rfl⟩
    · simp [T.sel] at h2
  · simp [T.sel] at h
theorem okCloneA : FnOk (E0 B) 14 sCloneA := by
  refine ⟨okClone.1, fun vs bs out hsel => ?_⟩
  unfold sCloneA at hsel
  split at hsel
  · rename_i L
    rcases T.node_sel hsel with ⟨hc, h2⟩ | ⟨_, h2⟩
    · have hc := of_decide_eq_true hc
      simp only [T.sel, Option.some.injEq] at h2; subst h2
      cases L with
      | nil => exact okClone0.2 _ _ _ rfl
      | cons x r => exact okClone1.2 _ _ _ (by show (bif decide _ then _ else _) = _; rw [decide_eq_true (show 0 < (x :: r).length ∧ (x :: r).length ≤ 1000 from ⟨by simp, hc⟩)]; rfl)
    · simp [T.sel] at h2
  · simp [T.sel] at hsel
end Go.Proofs.YtfniiapkghpihaaDoor
/-
  Plans: steps and Check by contract.
-/
namespace Go.Proofs.YtfniiapkghpihaaDoor.Pl
open Go.Am Go Go.Proofs.YtfniiapkghpihaaDoor
set_option maxRecDepth 100000
variable {B : Nat → Option Obj}
/-- a row of bytes, of a block of its own or not -/
def ubD (m : Bool) (l : List Int) : Dat := bif m then .bytes 5 l else .ints .u8 l
def ub (m : Bool) (l : List Int) : Blk := ⟨false, ubD m l⟩
/-! slices.Equal of steps -/
noncomputable def bEu : Code := loopAt 4 (loopsOf (bodyC Tryd.f25))
def sgEu : LSig := { cs := [(0, 28), (1, 28), (12, 0)], mv := [(13, 0)], mo := [(4, 0)], take := [] }
theorem turnEu (a b : Bool) (L M : List Int) (n i : Int) : (turn (E0 B) (Cx B Ck.lb6) noL 26 sgEu bEu [.slw 0, .slw 1, i64 n, i64 i] [ub a L, ub b M]).sel =
    bif decide (i < n) then Ck.inb i L.length (Ck.inb i M.length (bif !Ck.eqInt (L.getD i.toNat 0) (M.getD i.toNat 0) then some (.ret, ⟨[.bool false], []⟩) else some (.normal, ⟨[.slw 0, .slw 1, i64 n, i64 (w64 (i + 1))], [ub a L, ub b M]⟩))) else some (.exit 0, ⟨[.any], []⟩) := by
  cases a <;> cases b <;> kernel_rfl
def euL (n i : Int) (L M : List Int) (g : Bool) : T (AExit × Out) := .node (g && decide (i = 0 ∧ n = (L.length : Int) ∧ L.length = M.length ∧ L.length ≤ 1000)) (.node (all2 Ck.eqInt L M) (.leaf (.exit 0, ⟨[.any], []⟩)) (.leaf (.ret, ⟨[.bool false], []⟩))) .bad
def spEu : LSpec
  | [.slw 0, .slw 1, .int .i64 n, .int .i64 i], [⟨false, .ints .u8 L⟩, ⟨false, .ints .u8 M⟩] => euL n i L M true
  | [.slw 0, .slw 1, .int .i64 n, .int .i64 i], [⟨false, .ints .u8 L⟩, ⟨false, .bytes t M⟩] => euL n i L M (Nat.beq t 5)
  | [.slw 0, .slw 1, .int .i64 n, .int .i64 i], [⟨false, .bytes t L⟩, ⟨false, .ints .u8 M⟩] => euL n i L M (Nat.beq t 5)
  | [.slw 0, .slw 1, .int .i64 n, .int .i64 i], [⟨false, .bytes t L⟩, ⟨false, .bytes u M⟩] => euL n i L M (Nat.beq t 5 && Nat.beq u 5)
  | _, _ => .bad
theorem runEu (a b : Bool) {n i : Int} {L M : List Int} {g : Bool} {e : AExit} {o : Out} (h : (euL n i L M g).sel = some (e, o)) : ∃ m, (turns (E0 B) (Cx B Ck.lb6) noL 26 sgEu bEu m [.slw 0, .slw 1, i64 n, i64 i] [ub a L, ub b M]).sel = some (e, o) := by
  unfold euL at h
  rcases T.node_sel h with ⟨hc, h2⟩ | ⟨_, h2⟩
  · rw [Bool.and_eq_true] at hc
    obtain ⟨rfl, rfl, hlm, hl⟩ := of_decide_eq_true hc.2
    obtain ⟨m, hm⟩ := scan_turns (E := E0 B) (C := Cx B Ck.lb6) (L := noL) (n := 26) (sg := sgEu) (body := bEu) (st := fun i => [.slw 0, .slw 1, i64 L.length, i64 i]) (bs := [ub a L, ub b M]) (len := L.length)
      (bad := fun j => !Ck.eqInt (L.getD j default) (M.getD j default)) (ob := fun _ => ⟨[.bool false], []⟩) (k := 0) (oe := ⟨[.any], []⟩) (fun i hi => by
        rw [turnEu]
        by_cases h : i < L.length
        · rw [decide_eq_true h, decide_eq_true (show (i : Int) < (L.length : Int) by omega), cond_true, Ck.inb_is h, Ck.inb_is (show i < M.length by omega), w64_rng (show Rng ((i : Int) + 1) by unfold Rng; omega)]; rfl
        · rw [decide_eq_false h, decide_eq_false (show ¬ (i : Int) < (L.length : Int) by omega)]; rfl) L.length 0 (by omega)
    refine ⟨m, hm.trans ?_⟩
    rw [first2 hlm, ← h2]
    simp only [T.sel]
    cases all2 Ck.eqInt L M <;> rfl
  · simp [T.sel] at h2
theorem euG {n i : Int} {L M : List Int} {g : Bool} {r : AExit × Out} (h : (euL n i L M g).sel = some r) : g = true := by
  unfold euL at h
  rcases T.node_sel h with ⟨hc, h2⟩ | ⟨_, h2⟩
  · rw [Bool.and_eq_true] at hc; exact hc.1
  · simp [T.sel] at h2
theorem loopEu : LoopOk (E0 B) 26 sgEu bEu spEu := by
  refine loop_turns (C := Cx B Ck.lb6) (L := noL) (cxOk Ck.lb6_ok) (noL_ok _) fun vs bs e o h => ?_
  unfold spEu at h
  split at h
  · exact runEu false false h
  · have hg := Nat.eq_of_beq_eq_true (euG h); subst hg; exact runEu false true h
  · have hg := Nat.eq_of_beq_eq_true (euG h); subst hg; exact runEu true false h
  · have hg := euG h
    rw [Bool.and_eq_true] at hg
    have h1 := Nat.eq_of_beq_eq_true hg.1
    have h2 := Nat.eq_of_beq_eq_true hg.2
    subst h1; subst h2; exact runEu true true h
  · simp [T.sel] at h
noncomputable def eEu : LEnt := { id := 4, n := 26, sg := sgEu, wr := writes bEu, s := spEu }
theorem tEu (a b : Bool) (L M : List Int) : runL B Ck.lb6 [eEu] Tryd.f25 [.slw 0, .slw 1] [ub a L, ub b M] =
    bif !decide ((L.length : Int) = (M.length : Int)) then rb false else bif decide ((0 : Int) = 0 ∧ (L.length : Int) = (L.length : Int) ∧ L.length = M.length ∧ L.length ≤ 1000) then (bif all2 Ck.eqInt L M then rb true else rb false) else none := by
  cases a <;> cases b <;> kernel_rfl
theorem all2_eq : ∀ L M : List Int, all2 Ck.eqInt L M = decide (L = M)
  | [], [] => rfl
  | [], _ :: _ => rfl
  | _ :: _, [] => rfl
  | x :: L, y :: M => by
    show (decide (x = y) && all2 Ck.eqInt L M) = _
    rw [all2_eq L M]
    by_cases h1 : x = y <;> by_cases h2 : L = M <;> simp [h1, h2]
def euT (L M : List Int) (g : Bool) : T Out := .node (g && decide (L.length ≤ 1000)) (.leaf ⟨[.bool (decide (L = M))], []⟩) .bad
def sEu : FSpec
  | [.slw 0, .slw 1], [⟨false, .ints .u8 L⟩, ⟨false, .ints .u8 M⟩] => euT L M true
  | [.slw 0, .slw 1], [⟨false, .ints .u8 L⟩, ⟨false, .bytes t M⟩] => euT L M (Nat.beq t 5)
  | [.slw 0, .slw 1], [⟨false, .bytes t L⟩, ⟨false, .ints .u8 M⟩] => euT L M (Nat.beq t 5)
  | [.slw 0, .slw 1], [⟨false, .bytes t L⟩, ⟨false, .bytes u M⟩] => euT L M (Nat.beq t 5 && Nat.beq u 5)
  | _, _ => .bad
theorem euT_is (a b : Bool) {L M : List Int} {g : Bool} {r : Out} (h : (euT L M g).sel = some r) : g = true ∧ runL B Ck.lb6 [eEu] Tryd.f25 [.slw 0, .slw 1] [ub a L, ub b M] = some r := by
  unfold euT at h
  rcases T.node_sel h with ⟨hc, h2⟩ | ⟨_, h2⟩
  · simp only [T.sel, Option.some.injEq] at h2; subst h2
    rw [Bool.and_eq_true] at hc
    refine ⟨hc.1, (tEu a b L M).trans ?_⟩
    rw [← all2_eq]
    by_cases hl : L.length = M.length
    · rw [decide_eq_true (show (L.length : Int) = (M.length : Int) by omega), decide_eq_true (show (0 : Int) = 0 ∧ (L.length : Int) = (L.length : Int) ∧ L.length = M.length ∧ L.length ≤ 1000 from ⟨rfl, rfl, hl, of_decide_eq_true hc.2⟩)]
      cases all2 Ck.eqInt L M <;> rfl
    · rw [decide_eq_false (show ¬ (L.length : Int) = (M.length : Int) by omega)]
      cases ha : all2 Ck.eqInt L M with
      | false => rfl
      | true => exact (hl (all2_len ha)).elim
  · simp [T.sel] at h2
theorem okEu : FnOk (E0 B) 25 sEu := by
  refine fnL Ck.lb6_ok (ls := [eEu]) Tryd.func25 (by kernel_rfl) (by kernel_rfl) (fun x hx => ?_) fun vs bs r h => ?_
  · simp only [List.mem_singleton] at hx; subst hx
    exact ⟨bEu, by kernel_rfl, rfl, loopEu⟩
  unfold sEu at h
  split at h
  · exact (euT_is false false h).2
  · have hg := Nat.eq_of_beq_eq_true (euT_is (B := B) false true h).1; subst hg; exact (euT_is false true h).2
  · have hg := Nat.eq_of_beq_eq_true (euT_is (B := B) true false h).1; subst hg; exact (euT_is true false h).2
  · have hg := (euT_is (B := B) true true h).1
    rw [Bool.and_eq_true] at hg
    have h1 := Nat.eq_of_beq_eq_true hg.1
    have h2 := Nat.eq_of_beq_eq_true hg.2
    subst h1; subst h2; exact (euT_is true true h).2
  · simp [T.sel] at h
/-! steps -/
def b4 {α : Type} (w k j l : Bool) (f : Bool → Bool → Bool → Bool → α) : α := bif w then (bif k then (bif j then (bif l then f true true true true else f true true true false) else (bif l then f true true false true else f true true false false)) else (bif j then (bif l then f true false true true else f true false true false) else (bif l then f true false false true else f true false false false)))
  else (bif k then (bif j then (bif l then f false true true true else f false true true false) else (bif l then f false true false true else f false true false false)) else (bif j then (bif l then f false false true true else f false false true false) else (bif l then f false false false true else f false false false false)))
theorem b4_is {α : Type} (w k j l : Bool) (f : Bool → Bool → Bool → Bool → α) : b4 w k j l f = f w k j l := by cases w <;> cases k <;> cases j <;> cases l <;> rfl
def stO (w k j l : Bool) : Option Out := some ⟨[.slw 0], [⟨true, .bytes 5 (stp w k j l)⟩]⟩
theorem tSteps (q : Qry) : runT B Ck.lb6 Tryd.f16 [q.av 0 1 2] (Ck.qbs q) = b4 (decide ((0 : Int) < (q.whr.length : Int))) q.byKey q.join (decide (q.late = 2)) stO := by kernel_rfl
def sSteps : FSpec
  | [.agg [.int .u8 ag, .slw 0, .slw 1, .bool j, .slw 2, .int .u8 wk, .int .i64 ws, .int .i64 we, .bool bk, .int .u8 lt]], [⟨false, .nodes A⟩, ⟨false, .ints .i64 S⟩, ⟨false, .nodes W⟩] => .leaf ⟨[.slw 0], [⟨true, .bytes 5 (stpQ ⟨ag, A, S, j, W, wk, ws, we, bk, lt⟩)⟩]⟩
  | _, _ => .bad
theorem okSteps : FnOk (E0 B) 16 sSteps := by
  refine fnT Ck.lb6_ok Tryd.func16 (by kernel_rfl) (by kernel_rfl) fun vs bs r h => ?_
  unfold sSteps at h
  split at h
  · rename_i ag j wk ws we bk lt A S W
    simp only [T.sel, Option.some.injEq] at h; subst h
    refine (tSteps ⟨ag, A, S, j, W, wk, ws, we, bk, lt⟩).trans ?_
    rw [b4_is, Ck.pos_cast]; rfl
  · simp [T.sel] at h
noncomputable def lib1 : Tb := (16, [], sSteps) :: (25, [], sEu) :: Ck.lb6
theorem lib1_ok : TbOk B lib1 := (Ck.lb6_ok.add okEu).add okSteps
/-! Check -/
/-- a plan, its lists in blocks -/
def plAv (q : Qry) (s a b c : Nat) : AV := .agg [.slw s, .int .u8 q.agg, .slw a, .slw b, .bool q.join, .slw c, .int .u8 q.wk, .int .i64 q.ws, .int .i64 q.we, .bool q.byKey, .int .u8 q.late]
def plBs (m : Bool) (st : List Int) (q : Qry) : List Blk := ub m st :: Ck.qbs q
def plE (st : List Int) (q : Qry) : Int := bif !decide ((ckE q).2 = 0) then (ckE q).2 else bif decide (st = stpQ q) then 0 else 8
theorem tChkP (m : Bool) (st : List Int) (q : Qry) : runT B lib1 Tryd.f10 [plAv q 0 1 2 3] (plBs m st q) = bif !decide ((ckE q).2 = 0) then ri (ckE q).2 else bif decide (st.length ≤ 1000) then (bif !decide (st = stpQ q) then ri 8 else ri 0) else none := by
  cases m <;> kernel_rfl
def ckT (st : List Int) (q : Qry) (g : Bool) : T Out := .node (g && decide (st.length ≤ 1000)) (.leaf ⟨[.int .i64 (plE st q)], []⟩) .bad
def sChkP : FSpec
  | [.agg [.slw 0, .int .u8 ag, .slw 1, .slw 2, .bool j, .slw 3, .int .u8 wk, .int .i64 ws, .int .i64 we, .bool bk, .int .u8 lt]], [⟨false, .ints .u8 st⟩, ⟨false, .nodes A⟩, ⟨false, .ints .i64 S⟩, ⟨false, .nodes W⟩] => ckT st ⟨ag, A, S, j, W, wk, ws, we, bk, lt⟩ true
  | [.agg [.slw 0, .int .u8 ag, .slw 1, .slw 2, .bool j, .slw 3, .int .u8 wk, .int .i64 ws, .int .i64 we, .bool bk, .int .u8 lt]], [⟨false, .bytes t st⟩, ⟨false, .nodes A⟩, ⟨false, .ints .i64 S⟩, ⟨false, .nodes W⟩] => ckT st ⟨ag, A, S, j, W, wk, ws, we, bk, lt⟩ (Nat.beq t 5)
  | _, _ => .bad
theorem ckT_is (m : Bool) {st : List Int} {q : Qry} {g : Bool} {r : Out} (h : (ckT st q g).sel = some r) : g = true ∧ runT B lib1 Tryd.f10 [plAv q 0 1 2 3] (plBs m st q) = some r := by
  unfold ckT at h
  rcases T.node_sel h with ⟨hc, h2⟩ | ⟨_, h2⟩
  · simp only [T.sel, Option.some.injEq] at h2; subst h2
    rw [Bool.and_eq_true] at hc
    refine ⟨hc.1, (tChkP m st q).trans ?_⟩
    rw [hc.2]
    unfold plE
    cases decide ((ckE q).2 = 0) <;> cases decide (st = stpQ q) <;> rfl
  · simp [T.sel] at h2
theorem okChkP : FnOk (E0 B) 10 sChkP := by
  refine fnT lib1_ok Tryd.func10 (by kernel_rfl) (by kernel_rfl) fun vs bs r h => ?_
  unfold sChkP at h
  split at h
  · exact (ckT_is false h).2
  · have hg := Nat.eq_of_beq_eq_true (ckT_is (B := B) true h).1; subst hg; exact (ckT_is true h).2
  · simp [T.sel] at h
noncomputable def lib2 : Tb := (10, [], sChkP) :: lib1
theorem lib2_ok : TbOk B lib2 := lib1_ok.add okChkP
end Go.Proofs.YtfniiapkghpihaaDoor.Pl
/-
  Plans: a line by contract.
-/
namespace Go.Proofs.YtfniiapkghpihaaDoor.Pl
open Go.Am Go Go.Proofs.YtfniiapkghpihaaDoor
set_option maxRecDepth 100000
variable {B : Nat → Option Obj}
noncomputable def lib3 : Tb := (35, [], sExprP) :: (36, [], sFormat) :: (34, [], sNm) :: lib2
theorem lib3_ok (hB : Laid B) : TbOk B lib3 := ((lib2_ok.add okNm).add (formatOk hB)).add (okExprP hB)
/-! the sources -/
def scN : List Int → List UInt8
  | [] => []
  | x :: r => 32 :: (nmS x ++ scN r)
noncomputable def bSc : Code := loopAt 6 (loopsOf (bodyC Tryd.f21))
def sgSc : LSig := { cs := [(23, 23), (24, 0)], mv := [(6, 0), (25, 0)], mo := [(6, 0)], take := [] }
theorem turnSc (S : List Int) (n i : Int) (u : List UInt8) : (turn (E0 B) (Cx B lib3) noL 111 sgSc bSc [.slw 0, i64 n, .str u, i64 i] [⟨false, .ints .i64 S⟩]).sel =
    bif decide (i < n) then inb' i S.length (bif inR (gS S i) then cat9 [32] (nmS (gS S i)) (fun v => cat9 u v fun u' => some (.normal, ⟨[.slw 0, i64 n, .str u', i64 (w64 (i + 1))], [⟨false, .ints .i64 S⟩]⟩)) else none) else some (.exit 1, ⟨[.str u], []⟩) := by kernel_rfl
theorem runSc (S : List Int) : ∀ (r : List Int) (i : Nat) (u : List UInt8), S.drop i = r → S.length ≤ 4 → r.all inR = true → u.length ≤ 1000 + 2 * i → i ≤ S.length → ∃ m, (turns (E0 B) (Cx B lib3) noL 111 sgSc bSc m [.slw 0, i64 S.length, .str u, i64 i] [⟨false, .ints .i64 S⟩]).sel = some (.exit 1, ⟨[.str (u ++ scN r)], []⟩)
  | [], i, u, hd, hS, _, _, hi => by
    have hl : i = S.length := by have := List.drop_eq_nil_iff.1 hd; omega
    refine ⟨1, turns_done ((turnSc S _ _ u).trans ?_) (by simp)⟩
    rw [decide_eq_false (by omega), show u ++ scN [] = u from List.append_nil u]; rfl
  | x :: r, i, u, hd, hS, ha, hu, hi => by
    rw [List.all_cons, Bool.and_eq_true] at ha
    obtain ⟨hg, hlt⟩ := gS_is hd
    have hnm := nmS_len x
    have hr1 : w64 ((i : Int) + 1) = ((i + 1 : Nat) : Int) := by rw [w64_rng (show Rng ((i : Int) + 1) by unfold Rng; omega)]; rfl
    have ht := turnSc (B := B) S S.length i u
    have hd' : S.drop (i + 1) = r := by rw [← List.drop_drop, hd]; rfl
    rw [decide_eq_true (show (i : Int) < (S.length : Int) by omega), cond_true, inb'_is hlt, hg, ha.1, cond_true, cat9_in (by simp only [List.length_cons, List.length_nil]; omega), cat9_in (by simp only [List.length_append, List.length_cons, List.length_nil]; omega), hr1] at ht
    obtain ⟨m, hm⟩ := runSc S r (i + 1) (u ++ ([32] ++ nmS x)) hd' hS ha.2 (by simp only [List.length_append, List.length_cons, List.length_nil]; omega) (by omega)
    refine ⟨m + 1, (turns_more ht hm).trans ?_⟩
    simp [scN]
def spSc : LSpec
  | [.slw 0, .int .i64 n, .str u, .int .i64 i], [⟨false, .ints .i64 S⟩] => .node (decide (i = 0 ∧ n = (S.length : Int) ∧ S.length ≤ 4 ∧ u.length ≤ 1000) && S.all inR) (.leaf (.exit 1, ⟨[.str (u ++ scN S)], []⟩)) .bad
  | _, _ => .bad
theorem loopSc (hB : Laid B) : LoopOk (E0 B) 111 sgSc bSc spSc := by
  refine loop_turns (C := Cx B lib3) (L := noL) (cxOk (lib3_ok hB)) (noL_ok _) fun vs bs e o h => ?_
  unfold spSc at h
  split at h
  · rename_i n u i S
    rcases T.node_sel h with ⟨hc, h2⟩ | ⟨_, h2⟩
    · rw [Bool.and_eq_true] at hc
      obtain ⟨rfl, rfl, hS, hu⟩ := of_decide_eq_true hc.1
      simp only [T.sel, Option.some.injEq] at h2
      rw [← h2]
      exact runSc S S 0 u rfl hS hc.2 (by omega) (by omega)
    · simp [T.sel] at h2
  · simp [T.sel] at h
noncomputable def eSc : LEnt := { id := 6, n := 111, sg := sgSc, wr := writes bSc, s := spSc }
end Go.Proofs.YtfniiapkghpihaaDoor.Pl
/-
  Plans: a line by contract.
-/
namespace Go.Proofs.YtfniiapkghpihaaDoor.Pl
open Go.Am Go Go.Proofs.YtfniiapkghpihaaDoor
set_option maxRecDepth 100000
variable {B : Nat → Option Obj}
noncomputable abbrev rL (B : Nat → Option Obj) (q : Qry) (s : Int) : Option Out := runL B lib3 [eSc] Tryd.f21 [q.av 0 1 2, .int .u8 s] (Ck.qbs q)
def itO (n : Int) (k : List UInt8 → Option Out) : Option Out := bif rng64 n && true then k (Lib.itoa n) else none
theorem tL1 (q : Qry) : rL B q 1 = bif decide ((0 : Int) = 0 ∧ (q.src.length : Int) = (q.src.length : Int) ∧ q.src.length ≤ 4 ∧ wScan.length ≤ 1000) && q.src.all inR then strO (wScan ++ scN q.src) else none := by kernel_rfl
theorem tL2 (q : Qry) : rL B q 2 = bif decide (q.late = 2) then strO (wLate ++ 32 :: wSide) else strO (wLate ++ 32 :: wDrop) := by kernel_rfl
theorem tL3 (q : Qry) : rL B q 3 = bif rngX q.whr then cat9 (wWhere ++ [32]) (prS q.whr) strO else none := by kernel_rfl
theorem tL4 (q : Qry) : rL B q 4 = bif decide (q.agg = 1) then strO (wProj ++ [32, 48]) else bif rngX q.arg then cat9 (wProj ++ [32]) (prS q.arg) strO else none := by kernel_rfl
theorem tL5 (q : Qry) : rL B q 5 = strO wKey := by kernel_rfl
theorem tL9 (q : Qry) : rL B q 9 = strO wEmit := by kernel_rfl
theorem tL10 (q : Qry) : rL B q 10 = strO wSide := by kernel_rfl
theorem tL61 (q : Qry) : rL B { q with wk := 1 } 6 = itO q.ws fun t => cat9 (wWk 1 ++ [32]) t strO := by kernel_rfl
theorem tL62 (q : Qry) : rL B { q with wk := 2 } 6 = itO q.ws fun t => cat9 (wWk 2 ++ [32]) t fun u => itO q.we fun v => cat9 (32 :: (wEvery ++ [32])) v fun x => cat9 u x strO := by kernel_rfl
theorem tL63 (q : Qry) : rL B { q with wk := 3 } 6 = itO q.ws fun t => cat9 (wWk 3 ++ [32]) t strO := by kernel_rfl
theorem tL71 (q : Qry) : rL B { q with agg := 1 } 7 = strO (wAg 1) := by kernel_rfl
theorem tL72 (q : Qry) : rL B { q with agg := 2 } 7 = strO (wAg 2) := by kernel_rfl
theorem tL73 (q : Qry) : rL B { q with agg := 3 } 7 = strO (wAg 3) := by kernel_rfl
theorem tL74 (q : Qry) : rL B { q with agg := 4 } 7 = strO (wAg 4) := by kernel_rfl
theorem tL81 (q : Qry) : rL B { q with agg := 1 } 8 = strO (wJoin ++ 32 :: wAg 1) := by kernel_rfl
theorem tL82 (q : Qry) : rL B { q with agg := 2 } 8 = strO (wJoin ++ 32 :: wAg 2) := by kernel_rfl
theorem tL83 (q : Qry) : rL B { q with agg := 3 } 8 = strO (wJoin ++ 32 :: wAg 3) := by kernel_rfl
theorem tL84 (q : Qry) : rL B { q with agg := 4 } 8 = strO (wJoin ++ 32 :: wAg 4) := by kernel_rfl
/-- a line -/
def lnS (q : Qry) (s : Int) : List UInt8 := bif decide (s = 1) then wScan ++ scN q.src else bif decide (s = 2) then ltL q.late else bif decide (s = 3) then whL (prS q.whr) else bif decide (s = 4) then pjL q.agg (prS q.arg) else bif decide (s = 5) then wKey else
  bif decide (s = 6) then winL q.wk q.ws q.we else bif decide (s = 7) then wAg q.agg else bif decide (s = 8) then wJoin ++ 32 :: wAg q.agg else bif decide (s = 9) then wEmit else wSide
theorem itO_in {n : Int} (h : Rng n) (k : List UInt8 → Option Out) : itO n k = k (Lib.itoa n) := by
  unfold itO
  rw [rng64_of h]; rfl
/-- what is asked where a line tells an expression -/
def lnG (q : Qry) (s : Int) : Bool := decide (clkE q = 0) && (rngX q.arg && (rngX q.whr && (decide (1 ≤ s ∧ s ≤ 10) && !(decide (s = 3) && decide (q.whr.length = 0)))))
theorem line_is {q : Qry} {s : Int} (h : lnG q s = true) : rL B q s = strO (lnS q s) := by
  unfold lnG at h
  simp only [Bool.and_eq_true, Bool.not_eq_true', Bool.and_eq_false_iff, decide_eq_false_iff_not] at h
  obtain ⟨hc, hA, hW, hs, h3⟩ := h
  have hc := of_decide_eq_true hc
  obtain ⟨s1, s10⟩ := of_decide_eq_true hs
  have hq := qok_of hc hA hW
  have hi1 := itoa_len hq.ws
  have hi2 := itoa_len hq.we
  have hwk : q.wk = 1 ∨ q.wk = 2 ∨ q.wk = 3 := by have := hq.k1; have := hq.k3; omega
  have hag : q.agg = 1 ∨ q.agg = 2 ∨ q.agg = 3 ∨ q.agg = 4 := by have := hq.a1; have := hq.a4; omega
  have hcase : s = 1 ∨ s = 2 ∨ s = 3 ∨ s = 4 ∨ s = 5 ∨ s = 6 ∨ s = 7 ∨ s = 8 ∨ s = 9 ∨ s = 10 := by omega
  rcases hcase with rfl | rfl | rfl | rfl | rfl | rfl | rfl | rfl | rfl | rfl
  · rw [tL1, decide_eq_true (show (0 : Int) = 0 ∧ (q.src.length : Int) = (q.src.length : Int) ∧ q.src.length ≤ 4 ∧ wScan.length ≤ 1000 from ⟨rfl, rfl, hq.s4, by decide⟩), hq.sR]; rfl
  · rw [tL2]
    show _ = strO (ltL q.late)
    unfold ltL
    cases decide (q.late = 2) <;> rfl
  · have hl : 0 < q.whr.length := by have := h3.resolve_left (fun g => g rfl); omega
    have hlen := (sbT_is (hq.whr hl) hW).1
    rw [tL3, hW, cond_true, cat9_in (by have : (wWhere ++ [32]).length = 6 := rfl; omega)]
    rfl
  · rw [tL4]
    show _ = strO (pjL q.agg (prS q.arg))
    unfold pjL
    by_cases ha : q.agg = 1
    · rw [decide_eq_true ha]; rfl
    · have hlen := (sbT_is (hq.arg ha) hA).1
      rw [decide_eq_false ha, cond_false, hA, cond_true, cond_false, cat9_in (by have : (wProj ++ [32]).length = 8 := rfl; omega)]
      rfl
  · exact tL5 q
  · show _ = strO (winL q.wk q.ws q.we)
    have e : ∀ k, q.wk = k → q = { q with wk := k } := fun k hk => by subst hk; rfl
    rcases hwk with hk | hk | hk
    · rw [e 1 hk, tL61, itO_in hq.ws, cat9_in (by have : (wWk 1 ++ [32]).length = 7 := rfl; omega)]; rfl
    · rw [e 2 hk, tL62, itO_in hq.ws, cat9_in (by have : (wWk 2 ++ [32]).length = 6 := rfl; omega), itO_in hq.we, cat9_in (by have : (32 :: (wEvery ++ [32])).length = 7 := rfl; omega), cat9_in (by
        have e1 : (wWk 2).length = 5 := rfl
        have e2 : wEvery.length = 5 := rfl
        simp only [List.length_append, List.length_cons, List.length_nil]; omega)]
      rfl
    · rw [e 3 hk, tL63, itO_in hq.ws, cat9_in (by have : (wWk 3 ++ [32]).length = 8 := rfl; omega)]; rfl
  · show _ = strO (wAg q.agg)
    have e : ∀ k, q.agg = k → q = { q with agg := k } := fun k hk => by subst hk; rfl
    rcases hag with hk | hk | hk | hk
    · rw [e 1 hk, tL71]
    · rw [e 2 hk, tL72]
    · rw [e 3 hk, tL73]
    · rw [e 4 hk, tL74]
  · show _ = strO (wJoin ++ 32 :: wAg q.agg)
    have e : ∀ k, q.agg = k → q = { q with agg := k } := fun k hk => by subst hk; rfl
    rcases hag with hk | hk | hk | hk
    · rw [e 1 hk, tL81]
    · rw [e 2 hk, tL82]
    · rw [e 3 hk, tL83]
    · rw [e 4 hk, tL84]
  · exact tL9 q
  · exact tL10 q
def sLine : FSpec
  | [.agg [.int .u8 ag, .slw 0, .slw 1, .bool j, .slw 2, .int .u8 wk, .int .i64 ws, .int .i64 we, .bool bk, .int .u8 lt], .int .u8 s], [⟨false, .nodes A⟩, ⟨false, .ints .i64 S⟩, ⟨false, .nodes W⟩] => .node (lnG ⟨ag, A, S, j, W, wk, ws, we, bk, lt⟩ s) (.leaf ⟨[.str (lnS ⟨ag, A, S, j, W, wk, ws, we, bk, lt⟩ s)], []⟩) .bad
  | _, _ => .bad
theorem okLine (hB : Laid B) : FnOk (E0 B) 21 sLine := by
  refine fnL (lib3_ok hB) (ls := [eSc]) Tryd.func21 (by kernel_rfl) (by kernel_rfl) (fun x hx => ?_) fun vs bs r h => ?_
  · simp only [List.mem_singleton] at hx; subst hx
    exact ⟨bSc, by kernel_rfl, rfl, loopSc hB⟩
  unfold sLine at h
  split at h
  · rename_i ag j wk ws we bk lt s A S W
    rcases T.node_sel h with ⟨hc, h2⟩ | ⟨_, h2⟩
    · simp only [T.sel, Option.some.injEq] at h2; subst h2
      exact line_is (q := ⟨ag, A, S, j, W, wk, ws, we, bk, lt⟩) hc
    · simp [T.sel] at h2
  · simp [T.sel] at h
noncomputable def lib4 : Tb := (21, [], sLine) :: lib3
theorem lib4_ok (hB : Laid B) : TbOk B lib4 := (lib3_ok hB).add (okLine hB)
end Go.Proofs.YtfniiapkghpihaaDoor.Pl
/-
  Plans: Text by contract.
-/
namespace Go.Proofs.YtfniiapkghpihaaDoor.Pl
open Go.Am Go Go.Proofs.YtfniiapkghpihaaDoor
set_option maxRecDepth 100000
variable {B : Nat → Option Obj}
noncomputable def lib5 : Tb := (20, [1], sWS) :: (22, [1], sBStr bTys 5) :: lib4
theorem lib5_ok (hB : Laid B) : TbOk B lib5 := ((lib4_ok hB).add strOk).add (okWS hB)
noncomputable def bPt : Code := loopAt 6 (loopsOf (bodyC Tryd.f7))
def sgPt : LSig := { cs := [(1, 0), (5, 0), (14, 28), (15, 0)], mv := [(16, 0)], mo := [(2, 0)], take := [7] }
def pTy : List TypeId := [28] ++ qTy
def pCs (q : Qry) (s a b c : Nat) : List AV := [.slw s, .int .u8 q.agg, .slw a, .slw b, .bool q.join, .slw c, .int .u8 q.wk, .int .i64 q.ws, .int .i64 q.we, .bool q.byKey, .int .u8 q.late]
def ptB (m : Bool) (st : List Int) (q : Qry) (v : AV) (o : List Int) : List Blk := [⟨true, .gen pTy [pCs q 3 4 5 6]⟩, ⟨true, .gen bTys [[v, .slw 7]]⟩, ub m st, ub m st, ⟨false, .nodes q.arg⟩, ⟨false, .ints .i64 q.src⟩, ⟨false, .nodes q.whr⟩, ⟨true, .bytes 5 o⟩]
def ptX (m : Bool) (st : List Int) (q : Qry) (v : AV) (o : List Int) : List Blk := [⟨true, .gen pTy [pCs q 2 3 4 5]⟩, ⟨true, .gen bTys [[v, .slw 6]]⟩, ub m st, ⟨false, .nodes q.arg⟩, ⟨false, .ints .i64 q.src⟩, ⟨false, .nodes q.whr⟩, ⟨true, .bytes 5 o⟩]
def apX (o M : List Int) (k : List Int → Option (AExit × Out)) : Option (AExit × Out) := bif wTys bTys 5 && decide (o.length + M.length ≤ lim) then k (o ++ M) else none
def sAt (st : List Int) (i : Int) : Int := st.getD i.toNat 0
def ptV (n i : Int) : List AV := [.ptr 0 0 0, .ptr 1 0 0, .slw 2, i64 n, i64 i]
def ptN (m : Bool) (st : List Int) (q : Qry) (o : List Int) (n i : Int) (v : AV) : Option (AExit × Out) :=
  bif decide (i < n) then Ck.inb i st.length (bif lnG q (sAt st i) then cat9 (lnS q (sAt st i)) [10] (fun u => apX o (ibs u) fun o' => some (.normal, ⟨ptV n (w64 (i + 1)), ptB m st q (.ptr 1 0 0) o'⟩)) else none) else some (.exit 0, ⟨[.any], ptX m st q v o⟩)
theorem turnPt0 (m : Bool) (q : Qry) (st o : List Int) (n i : Int) : (turn (E0 B) (Cx B lib5) noL 28 sgPt bPt (ptV n i) (ptB m st q .nilp o)).sel = ptN m st q o n i .nilp := by
  cases m <;> kernel_rfl
theorem turnPt1 (m : Bool) (q : Qry) (st o : List Int) (n i : Int) : (turn (E0 B) (Cx B lib5) noL 28 sgPt bPt (ptV n i) (ptB m st q (.ptr 1 0 0) o)).sel = ptN m st q o n i (.ptr 1 0 0) := by
  cases m <;> kernel_rfl
/-- all lines -/
def plB (q : Qry) : List Int → List UInt8
  | [] => []
  | s :: r => lnS q s ++ 10 :: plB q r
theorem scN_len : ∀ r : List Int, (scN r).length ≤ 2 * r.length
  | [] => by simp [scN]
  | x :: r => by
    have := nmS_len x
    have := scN_len r
    simp only [scN, List.length_cons, List.length_append]; omega
theorem lnS_len {q : Qry} {s : Int} (h : lnG q s = true) : (lnS q s).length ≤ 2100 := by
  unfold lnG at h
  simp only [Bool.and_eq_true, Bool.not_eq_true', Bool.and_eq_false_iff, decide_eq_false_iff_not] at h
  obtain ⟨hc, hA, hW, hs, h3⟩ := h
  have hc := of_decide_eq_true hc
  have hq := qok_of hc hA hW
  have hi1 := itoa_len hq.ws
  have hi2 := itoa_len hq.we
  have w1 : wScan.length = 4 := rfl
  have w2 : wLate.length = 4 := rfl
  have w3 : wSide.length = 4 := rfl
  have w4 : wDrop.length = 4 := rfl
  have w5 : wWhere.length = 5 := rfl
  have w6 : wProj.length = 7 := rfl
  have w7 : wKey.length = 3 := rfl
  have w8 : wEvery.length = 5 := rfl
  have w9 : wJoin.length = 4 := rfl
  have w10 : wEmit.length = 4 := rfl
  have wa : (wAg q.agg).length ≤ 5 := by unfold wAg; cases decide (q.agg = 1) <;> cases decide (q.agg = 2) <;> cases decide (q.agg = 3) <;> decide
  have wk : (wWk q.wk).length ≤ 7 := by unfold wWk; cases decide (q.wk = 1) <;> cases decide (q.wk = 2) <;> decide
  have hsc := scN_len q.src
  have hs4 := hq.s4
  unfold lnS
  cases decide (s = 1) with
  | true => simp only [cond_true, List.length_append]; omega
  | false =>
  cases decide (s = 2) with
  | true =>
    simp only [cond_true, cond_false, ltL, List.length_append, List.length_cons]
    cases decide (q.late = 2) <;> simp only [cond_true, cond_false] <;> omega
  | false =>
  by_cases hs3 : s = 3
  · have hl : 0 < q.whr.length := by have := h3.resolve_left (fun g => g hs3); omega
    have hlen := (sbT_is (hq.whr hl) hW).1
    rw [decide_eq_true hs3]
    simp only [cond_true, cond_false, whL, List.length_append, List.length_cons]; omega
  rw [decide_eq_false hs3]
  cases decide (s = 4) with
  | true =>
    simp only [cond_true, cond_false, pjL, List.length_append, List.length_cons]
    by_cases ha : q.agg = 1
    · rw [decide_eq_true ha]
      simp only [cond_true, List.length_cons, List.length_nil]; omega
    · have hlen := (sbT_is (hq.arg ha) hA).1
      rw [decide_eq_false ha, cond_false]; omega
  | false =>
  cases decide (s = 5) with
  | true => simp only [cond_true, cond_false]; omega
  | false =>
  cases decide (s = 6) with
  | true =>
    simp only [cond_true, cond_false, winL, List.length_append, List.length_cons]
    cases decide (q.wk = 2) <;> simp only [cond_true, cond_false, List.length_append, List.length_cons] <;> omega
  | false =>
  cases decide (s = 7) with
  | true => simp only [cond_true, cond_false]; omega
  | false =>
  cases decide (s = 8) with
  | true => simp only [cond_true, cond_false, List.length_append, List.length_cons]; omega
  | false =>
  cases decide (s = 9) with
  | true => simp only [cond_true, cond_false]; omega
  | false => simp only [cond_false]; omega
theorem ibs_len (s : List UInt8) : (ibs s).length = s.length := by simp [ibs]
theorem ibs_app (a b : List UInt8) : ibs (a ++ b) = ibs a ++ ibs b := by simp [ibs]
theorem apX_in {o M : List Int} (h : o.length + M.length ≤ 1000000) (k : List Int → Option (AExit × Out)) : apX o M k = k (o ++ M) := by
  unfold apX
  rw [show wTys bTys 5 = true by decide +kernel, decide_eq_true (show o.length + M.length ≤ lim by simp only [lim]; omega)]; rfl
theorem step_is {m : Bool} {q : Qry} {st r : List Int} {s : Int} {i : Nat} {o : List Int} {v : AV} (hd : st.drop i = s :: r) (hg : lnG q s = true) (ho : o.length ≤ 3000 * i) (hi : i ≤ 30) : ptN m st q o st.length i v = some (.normal, ⟨ptV st.length (i + 1 : Nat), ptB m st q (.ptr 1 0 0) (o ++ ibs (lnS q s ++ [10]))⟩) := by
  obtain ⟨e, hlt⟩ := gS_is hd
  have e : sAt st i = s := e
  have hl := lnS_len hg
  have hr1 : w64 ((i : Int) + 1) = ((i + 1 : Nat) : Int) := by rw [w64_rng (show Rng ((i : Int) + 1) by unfold Rng; omega)]; rfl
  unfold ptN
  rw [decide_eq_true (show (i : Int) < (st.length : Int) by omega), cond_true, Ck.inb_is hlt, e, hg, cond_true, cat9_in (by simp only [List.length_cons, List.length_nil]; omega), apX_in (by rw [ibs_len, List.length_append]; simp only [List.length_cons, List.length_nil]; omega), hr1]
theorem runPt (m : Bool) (q : Qry) (st : List Int) (hst : st.length ≤ 30) : ∀ (r : List Int) (i : Nat) (o : List Int), st.drop i = r → r.all (lnG q) = true → o.length ≤ 3000 * i → i ≤ st.length →
    ∃ k, (turns (E0 B) (Cx B lib5) noL 28 sgPt bPt k (ptV st.length i) (ptB m st q (.ptr 1 0 0) o)).sel = some (.exit 0, ⟨[.any], ptX m st q (.ptr 1 0 0) (o ++ ibs (plB q r))⟩)
  | [], i, o, hd, _, _, hi => by
    have hl : i = st.length := by have := List.drop_eq_nil_iff.1 hd; omega
    refine ⟨1, turns_done ((turnPt1 m q st o _ _).trans ?_) (by simp)⟩
    unfold ptN
    rw [decide_eq_false (by omega)]
    show some _ = some _
    have : o ++ ibs (plB q []) = o := List.append_nil o
    rw [this]
  | s :: r, i, o, hd, ha, ho, hi => by
    rw [List.all_cons, Bool.and_eq_true] at ha
    have hlt := (gS_is hd).2
    have hl := lnS_len ha.1
    have hd' : st.drop (i + 1) = r := by rw [← List.drop_drop, hd]; rfl
    have ht := (turnPt1 (B := B) m q st o st.length i).trans (step_is hd ha.1 ho (by omega))
    obtain ⟨k, hk⟩ := runPt m q st hst r (i + 1) (o ++ ibs (lnS q s ++ [10])) hd' ha.2 (by rw [List.length_append, ibs_len, List.length_append]; simp only [List.length_cons, List.length_nil]; omega) (by omega)
    refine ⟨k + 1, (turns_more ht hk).trans ?_⟩
    have : plB q (s :: r) = (lnS q s ++ [10]) ++ plB q r := by simp [plB]
    rw [this, ibs_app _ (plB q r), List.append_assoc]
def ptG (ty ty2 : List TypeId) (t : TypeId) (st st' : List Int) (q : Qry) (o : List Int) (n i : Int) (g : Bool) : Bool := g && (decide (ty = pTy) && (decide (ty2 = bTys) && (Nat.beq t 5 && (decide (i = 0 ∧ n = (st.length : Int) ∧ st' = st ∧ o = [] ∧ 0 < st.length ∧ st.length ≤ 30) && st.all (lnG q)))))
def spPt : LSpec
  | [.ptr 0 0 0, .ptr 1 0 0, .slw 2, .int .i64 n, .int .i64 i], [⟨true, .gen ty [[.slw 3, .int .u8 ag, .slw 4, .slw 5, .bool j, .slw 6, .int .u8 wk, .int .i64 ws, .int .i64 we, .bool bk, .int .u8 lt]]⟩, ⟨true, .gen ty2 [[.nilp, .slw 7]]⟩, ⟨false, .ints .u8 st⟩, ⟨false, .ints .u8 st'⟩, ⟨false, .nodes A⟩, ⟨false, .ints .i64 S⟩, ⟨false, .nodes W⟩, ⟨true, .bytes t o⟩] =>
    .node (ptG ty ty2 t st st' ⟨ag, A, S, j, W, wk, ws, we, bk, lt⟩ o n i true) (.leaf (.exit 0, ⟨[.any], ptX false st ⟨ag, A, S, j, W, wk, ws, we, bk, lt⟩ (.ptr 1 0 0) (ibs (plB ⟨ag, A, S, j, W, wk, ws, we, bk, lt⟩ st))⟩)) .bad
  | [.ptr 0 0 0, .ptr 1 0 0, .slw 2, .int .i64 n, .int .i64 i], [⟨true, .gen ty [[.slw 3, .int .u8 ag, .slw 4, .slw 5, .bool j, .slw 6, .int .u8 wk, .int .i64 ws, .int .i64 we, .bool bk, .int .u8 lt]]⟩, ⟨true, .gen ty2 [[.nilp, .slw 7]]⟩, ⟨false, .bytes u st⟩, ⟨false, .bytes u' st'⟩, ⟨false, .nodes A⟩, ⟨false, .ints .i64 S⟩, ⟨false, .nodes W⟩, ⟨true, .bytes t o⟩] =>
    .node (ptG ty ty2 t st st' ⟨ag, A, S, j, W, wk, ws, we, bk, lt⟩ o n i (Nat.beq u 5 && Nat.beq u' 5)) (.leaf (.exit 0, ⟨[.any], ptX true st ⟨ag, A, S, j, W, wk, ws, we, bk, lt⟩ (.ptr 1 0 0) (ibs (plB ⟨ag, A, S, j, W, wk, ws, we, bk, lt⟩ st))⟩)) .bad
  | _, _ => .bad
theorem runP0 (m : Bool) {ty ty2 : List TypeId} {t : TypeId} {st st' o : List Int} {q : Qry} {n i : Int} {g : Bool} (h : ptG ty ty2 t st st' q o n i g = true) : g = true ∧ ty = pTy ∧ ty2 = bTys ∧ t = 5 ∧ st' = st ∧ o = [] ∧ n = st.length ∧ i = 0 ∧
    ∃ k, (turns (E0 B) (Cx B lib5) noL 28 sgPt bPt k (ptV st.length 0) (ptB m st q .nilp [])).sel = some (.exit 0, ⟨[.any], ptX m st q (.ptr 1 0 0) (ibs (plB q st))⟩) := by
  unfold ptG at h
  simp only [Bool.and_eq_true] at h
  obtain ⟨h1, h2, h3, h4, h5, h6⟩ := h
  obtain ⟨i1, i2, i3, i4, i5, i6⟩ := of_decide_eq_true h5
  refine ⟨h1, of_decide_eq_true h2, of_decide_eq_true h3, Nat.eq_of_beq_eq_true h4, i3, i4, i2, i1, ?_⟩
  cases st with
  | nil => simp at i5
  | cons s r =>
    rw [List.all_cons, Bool.and_eq_true] at h6
    have hl := lnS_len h6.1
    have ht := (turnPt0 (B := B) m q (s :: r) [] (s :: r).length 0).trans (step_is (i := 0) rfl h6.1 (Nat.zero_le _) (Nat.zero_le _))
    obtain ⟨k, hk⟩ := runPt (B := B) m q (s :: r) i6 r 1 ([] ++ ibs (lnS q s ++ [10])) rfl h6.2 (by rw [List.nil_append, ibs_len, List.length_append]; simp only [List.length_cons, List.length_nil]; omega) (by simp)
    refine ⟨k + 1, (turns_more ht hk).trans ?_⟩
    have : plB q (s :: r) = (lnS q s ++ [10]) ++ plB q r := by simp [plB]
    rw [this, ibs_app _ (plB q r), List.nil_append]
theorem loopPt (hB : Laid B) : LoopOk (E0 B) 28 sgPt bPt spPt := by
  refine loop_turns (C := Cx B lib5) (L := noL) (cxOk (lib5_ok hB)) (noL_ok _) fun vs bs e o h => ?_
  unfold spPt at h
  split at h
  · rcases T.node_sel h with ⟨hc, h2⟩ | ⟨_, h2⟩
    · obtain ⟨_, rfl, rfl, rfl, rfl, rfl, rfl, rfl, hk⟩ := runP0 (B := B) false hc
      simp only [T.sel, Option.some.injEq] at h2
      rw [← h2]
      exact hk
    · simp [T.sel] at h2
  · rcases T.node_sel h with ⟨hc, h2⟩ | ⟨_, h2⟩
    · obtain ⟨hu, rfl, rfl, rfl, rfl, rfl, rfl, rfl, hk⟩ := runP0 (B := B) true hc
      rw [Bool.and_eq_true] at hu
      have hu1 := Nat.eq_of_beq_eq_true hu.1
      have hu2 := Nat.eq_of_beq_eq_true hu.2
      subst hu1; subst hu2
      simp only [T.sel, Option.some.injEq] at h2
      rw [← h2]
      exact hk
    · simp [T.sel] at h2
  · simp [T.sel] at h
noncomputable def ePt : LEnt := { id := 6, n := 28, sg := sgPt, wr := writes bPt, s := spPt }
end Go.Proofs.YtfniiapkghpihaaDoor.Pl
/-
  Plans: Text, Of by contract.
-/
namespace Go.Proofs.YtfniiapkghpihaaDoor.Pl
open Go.Am Go Go.Proofs.YtfniiapkghpihaaDoor
set_option maxRecDepth 100000
variable {B : Nat → Option Obj}
def ptF (m : Bool) (st : List Int) (q : Qry) : Option Out := bif ptG pTy bTys 5 st st q [] st.length 0 (bif m then Nat.beq 5 5 && Nat.beq 5 5 else true) then (bif decide (ibs (plB q st) ≠ []) && (ibs (plB q st)).all inByte then some ⟨[.str (byteList (ibs (plB q st))), i64 0], []⟩ else none) else none
theorem tTextP (m : Bool) (st : List Int) (q : Qry) : runL B lib5 [ePt] Tryd.f7 [plAv q 0 1 2 3] (plBs m st q) = bif decide (st.length ≤ 1000) then (bif !decide (plE st q = 0) then tx9 [] (plE st q) else ptF m st q) else none := by
  cases m <;> kernel_rfl
/-- a plan's text -/
def ptT (st : List Int) (q : Qry) : List UInt8 := bif decide (plE st q = 0) then plB q st else []
theorem plE_0 {st : List Int} {q : Qry} (h : plE st q = 0) : (ckE q).2 = 0 ∧ st = stpQ q := by
  unfold plE at h
  by_cases h1 : (ckE q).2 = 0
  · rw [decide_eq_true h1] at h
    refine ⟨h1, ?_⟩
    cases h2 : decide (st = stpQ q) with
    | true => exact of_decide_eq_true h2
    | false => rw [h2] at h; cases h
  · rw [decide_eq_false h1] at h
    exact (h1 h).elim
theorem ckE_clk {q : Qry} (h : (ckE q).2 = 0) : clkE q = 0 := by
  unfold ckE at h
  by_cases h1 : clkE q = 0
  · exact h1
  · rw [decide_eq_false h1] at h; exact h
theorem stp_all {q : Qry} (hc : clkE q = 0) (hA : rngX q.arg = true) (hW : rngX q.whr = true) : (stpQ q).all (lnG q) = true ∧ 0 < (stpQ q).length ∧ (stpQ q).length ≤ 10 := by
  have hg : ∀ s : Int, 1 ≤ s → s ≤ 10 → s ≠ 3 → lnG q s = true := fun s h1 h2 h3 => by
    unfold lnG
    rw [decide_eq_true hc, hA, hW, decide_eq_true (show 1 ≤ s ∧ s ≤ 10 from ⟨h1, h2⟩), decide_eq_false h3]; rfl
  have h3 : 0 < q.whr.length → lnG q 3 = true := fun h => by
    unfold lnG
    rw [decide_eq_true hc, hA, hW, decide_eq_false (show ¬ q.whr.length = 0 by omega)]; rfl
  unfold stpQ stp
  by_cases hw : 0 < q.whr.length
  · rw [decide_eq_true hw]
    cases q.byKey <;> cases q.join <;> cases decide (q.late = 2) <;>
      simp only [cond_true, cond_false, List.cons_append, List.nil_append, List.all_cons, List.all_nil, List.length_cons, List.length_nil, h3 hw, hg 1 (by omega) (by omega) (by omega), hg 2 (by omega) (by omega) (by omega), hg 4 (by omega) (by omega) (by omega), hg 5 (by omega) (by omega) (by omega), hg 6 (by omega) (by omega) (by omega), hg 7 (by omega) (by omega) (by omega), hg 8 (by omega) (by omega) (by omega), hg 9 (by omega) (by omega) (by omega), hg 10 (by omega) (by omega) (by omega)] <;> decide
  · rw [decide_eq_false hw]
    cases q.byKey <;> cases q.join <;> cases decide (q.late = 2) <;>
      simp only [cond_true, cond_false, List.cons_append, List.nil_append, List.all_cons, List.all_nil, List.length_cons, List.length_nil, hg 1 (by omega) (by omega) (by omega), hg 2 (by omega) (by omega) (by omega), hg 4 (by omega) (by omega) (by omega), hg 5 (by omega) (by omega) (by omega), hg 6 (by omega) (by omega) (by omega), hg 7 (by omega) (by omega) (by omega), hg 8 (by omega) (by omega) (by omega), hg 9 (by omega) (by omega) (by omega), hg 10 (by omega) (by omega) (by omega)] <;> decide
theorem inByte_ibs (s : List UInt8) : (ibs s).all inByte = true := List.all_eq_true.2 fun x hx => by
  obtain ⟨c, _, rfl⟩ := List.mem_map.1 hx
  have := c.toNat_lt
  exact decide_eq_true ⟨by omega, by omega⟩
theorem text_is (m : Bool) {st : List Int} {q : Qry} (hst : st.length ≤ 1000) (hA : rngX q.arg = true) (hW : rngX q.whr = true) : runL B lib5 [ePt] Tryd.f7 [plAv q 0 1 2 3] (plBs m st q) = tx9 (ptT st q) (plE st q) := by
  rw [tTextP, decide_eq_true hst, cond_true]
  unfold ptT
  by_cases h : plE st q = 0
  · obtain ⟨h1, h2⟩ := plE_0 h
    have hc := ckE_clk h1
    obtain ⟨a1, a2, a3⟩ := stp_all hc hA hW
    rw [← h2] at a1 a2 a3
    have hne : ibs (plB q st) ≠ [] := by
      cases st with
      | nil => simp at a2
      | cons s r =>
        intro e
        have := congrArg List.length e
        rw [ibs_len] at this
        simp [plB] at this
    rw [decide_eq_true h, Bool.not_true, cond_false, cond_true]
    unfold ptF ptG
    rw [decide_eq_true (rfl : pTy = pTy), decide_eq_true (rfl : bTys = bTys), decide_eq_true (show (0 : Int) = 0 ∧ (st.length : Int) = (st.length : Int) ∧ st = st ∧ ([] : List Int) = [] ∧ 0 < st.length ∧ st.length ≤ 30 from ⟨rfl, rfl, rfl, rfl, a2, by omega⟩), a1, decide_eq_true hne, inByte_ibs, ibs_back, h]
    cases m <;> rfl
  · rw [decide_eq_false h]; rfl
def txT (st : List Int) (q : Qry) (g : Bool) : T Out := .node (g && (decide (st.length ≤ 1000) && (rngX q.arg && rngX q.whr))) (.leaf ⟨[.str (ptT st q), .int .i64 (plE st q)], []⟩) .bad
def sTextP : FSpec
  | [.agg [.slw 0, .int .u8 ag, .slw 1, .slw 2, .bool j, .slw 3, .int .u8 wk, .int .i64 ws, .int .i64 we, .bool bk, .int .u8 lt]], [⟨false, .ints .u8 st⟩, ⟨false, .nodes A⟩, ⟨false, .ints .i64 S⟩, ⟨false, .nodes W⟩] => txT st ⟨ag, A, S, j, W, wk, ws, we, bk, lt⟩ true
  | [.agg [.slw 0, .int .u8 ag, .slw 1, .slw 2, .bool j, .slw 3, .int .u8 wk, .int .i64 ws, .int .i64 we, .bool bk, .int .u8 lt]], [⟨false, .bytes t st⟩, ⟨false, .nodes A⟩, ⟨false, .ints .i64 S⟩, ⟨false, .nodes W⟩] => txT st ⟨ag, A, S, j, W, wk, ws, we, bk, lt⟩ (Nat.beq t 5)
  | _, _ => .bad
theorem txT_is (m : Bool) {st : List Int} {q : Qry} {g : Bool} {r : Out} (h : (txT st q g).sel = some r) : g = true ∧ runL B lib5 [ePt] Tryd.f7 [plAv q 0 1 2 3] (plBs m st q) = some r := by
  unfold txT at h
  rcases T.node_sel h with ⟨hc, h2⟩ | ⟨_, h2⟩
  · simp only [T.sel, Option.some.injEq] at h2; subst h2
    simp only [Bool.and_eq_true] at hc
    exact ⟨hc.1, text_is m (of_decide_eq_true hc.2.1) hc.2.2.1 hc.2.2.2⟩
  · simp [T.sel] at h2
theorem okTextP (hB : Laid B) : FnOk (E0 B) 7 sTextP := by
  refine fnL (lib5_ok hB) (ls := [ePt]) Tryd.func7 (by kernel_rfl) (by kernel_rfl) (fun x hx => ?_) fun vs bs r h => ?_
  · simp only [List.mem_singleton] at hx; subst hx
    exact ⟨bPt, by kernel_rfl, rfl, loopPt hB⟩
  unfold sTextP at h
  split at h
  · exact (txT_is false h).2
  · have hg := Nat.eq_of_beq_eq_true (txT_is (B := B) true h).1; subst hg; exact (txT_is true h).2
  · simp [T.sel] at h
/-! Of -/
noncomputable def lib6 : Tb := (14, [], sCloneA) :: (7, [], sTextP) :: lib2
theorem lib6_ok (hB : Laid B) : TbOk B lib6 := (lib2_ok.add (okTextP hB)).add okCloneA
end Go.Proofs.YtfniiapkghpihaaDoor.Pl
