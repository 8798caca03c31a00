/-
  Texts put together: RefPl, RefPl2.
-/
import Derived.Test.YtdckpbeioemopaaGreatDoorPlnA
import Derived.Test.YtdckpbeioemopaaGreatDoorRefA
namespace Go.Proofs.YtdckpbeioemopaaGreatDoor.Rp
open Go.Am Go Go.Proofs.YtdckpbeioemopaaGreatDoor
set_option maxRecDepth 100000
variable {B : Nat → Option Obj}
end Go.Proofs.YtdckpbeioemopaaGreatDoor.Rp
namespace Go.Proofs.YtdckpbeioemopaaGreatDoor.Rp
open Go.Am Go Go.Proofs.YtdckpbeioemopaaGreatDoor
set_option maxRecDepth 100000
variable {B : Nat → Option Obj}
noncomputable def lib1 : Tb := (36, [], Pl.sSteps) :: Ck.lb6
theorem tChkR (st : List Int) (q : Qry) : runT B lib1 Tryz.f18 [Pl.plAv q 0 1 2 3] (Pl.plBs false st q) = bif !decide ((ckE q).2 = 0) then ri (ckE q).2 else bif !decide (byteList st = byteList (stpQ q)) then ri 8 else ri 0 := by kernel_rfl
def sChkR : FSpec
  | [.agg [.slw 0, .int .u8 ag, .slw 1, .slw 2, .bool j, .slw 3, .int .u8 wk, .int .i64 ws, .int .i64 we, .bool bk, .int .u8 lt]], [⟨false, .ints .u8 st⟩, ⟨false, .nodes A⟩, ⟨false, .ints .i64 S⟩, ⟨false, .nodes W⟩] => .node (st.all inByte) (.leaf ⟨[.int .i64 (Pl.plE st ⟨ag, A, S, j, W, wk, ws, we, bk, lt⟩)], []⟩) .bad
  | _, _ => .bad
noncomputable def lib2 : Tb := (18, [], sChkR) :: lib1
def ptB (st : List Int) (q : Qry) : List Blk := [⟨true, .gen Pl.pTy [Pl.pCs q 1 2 3 4]⟩, ⟨false, .ints .u8 st⟩, ⟨false, .nodes q.arg⟩, ⟨false, .ints .i64 q.src⟩, ⟨false, .nodes q.whr⟩]
end Go.Proofs.YtdckpbeioemopaaGreatDoor.Rp
