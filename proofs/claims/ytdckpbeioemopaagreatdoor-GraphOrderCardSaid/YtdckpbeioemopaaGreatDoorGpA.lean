/-
  Graphs of plans: the chapter's example; plans that are fit.
-/
import Derived.Test.YtdckpbeioemopaaGreatDoorOfA
import Derived.Test.YtdckpbeioemopaaGreatDoorRplA
import Derived.Test.YtdckpbeioemopaaGreatDoorLitA
import Derived.Test.YtdckpbeioemopaaGreatDoorPlnA
namespace Go.Proofs.YtdckpbeioemopaaGreatDoor.Gp
open Go.Am Go Go.Proofs.YtdckpbeioemopaaGreatDoor Go.Proofs.YtdckpbeioemopaaGreatDoor.Gr Go.Proofs.YtdckpbeioemopaaGreatDoor.Gf
set_option maxRecDepth 100000
variable {B : Nat → Option Obj}
noncomputable def libA : Tb := (26, [1, 2], sAdd) :: (27, [2, 3], Gf.sJoin) :: (45, [], sCloneA) :: (25, [], Pl.sChkP) :: libE
theorem libA_ok (hB : Laid B) : TbOk B libA := ((((libE_ok hB).add Pl.okChkP).add okCloneA).add okJoin).add okAdd
theorem tAl24 : runT B libA Tryz.f8 [] [] = rb true := by kernel_rfl
theorem okAl24 (hB : Laid B) : FnOk (E0 B) 8 sTrueF := by
  refine fnT (libA_ok hB) Tryz.func8 (by kernel_rfl) (by kernel_rfl) fun vs bs r h => ?_
  unfold sTrueF at h
  split at h
  · simp only [T.sel, Option.some.injEq] at h; subst h; exact tAl24
  · simp [T.sel] at h
noncomputable def libF : Tb := (18, [], Rp.sChkR) :: Ck.lib15
def fitO (st : List Int) (q : Qry) (p room : Int) : Option Out :=
  bif decide (70 < (q.arg.length : Int)) then rb false else bif decide (70 < (q.whr.length : Int)) then rb false else bif !decide (10 < (q.src.length : Int)) then (bif decide ((st.length : Int) ≤ 30) then
   (gdO (st.all inByte) (bif decide (Pl.plE st q = 0) then (bif decide (1 ≤ p) then (bif decide (p ≤ 3) then (bif decide (1 ≤ room) then rb (decide (room ≤ 8)) else rb false) else rb false) else rb false) else rb false)) else rb false) else rb false
theorem tFit (st : List Int) (q : Qry) (p room : Int) : runT B libF Tryz.f9 [Pl.plAv q 0 1 2 3, i64 p, i64 room] (Pl.plBs false st q) = fitO st q p room := by kernel_rfl
def fitB (st : List Int) (q : Qry) (p room : Int) : Bool := !decide (70 < (q.arg.length : Int)) && (!decide (70 < (q.whr.length : Int)) && (!decide (10 < (q.src.length : Int)) && (decide ((st.length : Int) ≤ 30) && (decide (Pl.plE st q = 0) && (decide (1 ≤ p) && (decide (p ≤ 3) && (decide (1 ≤ room) && decide (room ≤ 8))))))))
def sFit : FSpec
  | [.agg [.slw 0, .int .u8 ag, .slw 1, .slw 2, .bool j, .slw 3, .int .u8 wk, .int .i64 ws, .int .i64 we, .bool bk, .int .u8 lt], .int .i64 p, .int .i64 room], [⟨false, .ints .u8 st⟩, ⟨false, .nodes A⟩, ⟨false, .ints .i64 S⟩, ⟨false, .nodes W⟩] => .node (st.all inByte) (.leaf ⟨[.bool (fitB st ⟨ag, A, S, j, W, wk, ws, we, bk, lt⟩ p room)], []⟩) .bad
  | _, _ => .bad
def okG (st : List Int) (q : Qry) (p room : Int) : Bool := decide (Pl.plE st q = 0) && decide (st.length ≤ 1000 ∧ 1 ≤ p ∧ p ≤ 3 ∧ 1 ≤ room ∧ room ≤ 8)
def sOfG : FSpec
  | [.agg [.slw 0, .int .u8 ag, .slw 1, .slw 2, .bool j, .slw 3, .int .u8 wk, .int .i64 ws, .int .i64 we, .bool bk, .int .u8 lt], .int .i64 p, .int .i64 room], [⟨false, .ints .u8 st⟩, ⟨false, .nodes A⟩, ⟨false, .ints .i64 S⟩, ⟨false, .nodes W⟩] => .node (okG st ⟨ag, A, S, j, W, wk, ws, we, bk, lt⟩ p room) (.leaf ⟨[.agg [.slw 0, .slw 1], i64 0], [⟨true, .oprs (ofO S.length p.toNat bk j (decide (lt = 2)))⟩, ⟨true, .chns (ofC S.length p.toNat bk (decide (lt = 2)) room)⟩]⟩) .bad
  | _, _ => .bad
noncomputable def libP : Tb := (8, [], sTrueF) :: (9, [], sFit) :: (10, [], sOfG) :: libH
end Go.Proofs.YtdckpbeioemopaaGreatDoor.Gp
