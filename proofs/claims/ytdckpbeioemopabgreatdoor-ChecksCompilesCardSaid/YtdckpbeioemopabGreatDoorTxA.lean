/-
  Texts put together: PrtTx, PrtTx2, PrtWs.
-/
import Derived.Test.YtdckpbeioemopabGreatDoorRefA
namespace Go.Proofs.YtdckpbeioemopabGreatDoor
open Go.Am Go
set_option maxRecDepth 100000
variable {B : Nat → Option Obj}
noncomputable def libX9 : Tb := (33, [], sExprP) :: (68, [], sFormat) :: (36, [], sJoin) :: (25, [], Lx.sAll) :: (34, [], sNm) :: Ck.lib15
noncomputable def bTx : Code := loopAt 10 (loopsOf (bodyC Tryz.f10))
def sgTx : LSig := { cs := [(1, 0), (46, 23), (47, 0)], mv := [(5, 67), (48, 0)], mo := [(5, 67)], take := [2] }
def app9 {α : Type} (l : List (List UInt8)) (m : List (List UInt8)) (f : List (List UInt8) → Option α) : Option α := bif decide (l.length + m.length ≤ lim) then f (l ++ m) else none
def btW (j : Bool) : List UInt8 := bif j then [106, 111, 105, 110] else [117, 110, 105, 111, 110]
def gS (S : List Int) (i : Int) : Int := S.getD i.toNat 0
def wdT (j : Bool) : List (List UInt8) → List Int → List (List UInt8)
  | l, [] => l
  | l, x :: r => wdT j (l ++ [btW j] ++ [nmS x]) r
def wdF (j : Bool) (l : List (List UInt8)) : List Int → List (List UInt8)
  | [] => l
  | x :: r => wdT j (l ++ [nmS x]) r
def spTx : LSpec
  | [.ptr 0 0 0, .slw 1, .int .i64 n, .slw 2, .int .i64 i], [⟨true, .gen ty [[.int .u8 ag, .slw 3, .slw 4, .bool j, .slw 5, .int .u8 wk, .int .i64 ws, .int .i64 we, .bool bk, .int .u8 lt]]⟩, ⟨false, .ints .i64 S⟩, ⟨true, .strs l⟩, ⟨false, .nodes A⟩, ⟨false, .ints .i64 S'⟩, ⟨false, .nodes W⟩] =>
    .node (decide (ty = qTy) && (decide (i = 0 ∧ n = (S.length : Int) ∧ S.length ≤ 4 ∧ l.length ≤ 1000) && S.all inR)) (.leaf (.exit 0, ⟨[.slw 1], [⟨true, .gen qTy [[.int .u8 ag, .slw 2, .slw 3, .bool j, .slw 4, .int .u8 wk, .int .i64 ws, .int .i64 we, .bool bk, .int .u8 lt]]⟩, ⟨true, .strs (wdF j l S)⟩, ⟨false, .nodes A⟩, ⟨false, .ints .i64 S'⟩, ⟨false, .nodes W⟩]⟩)) .bad
  | _, _ => .bad
noncomputable def eTx : LEnt := { id := 10, n := 139, sg := sgTx, wr := writes bTx, s := spTx }
end Go.Proofs.YtdckpbeioemopabGreatDoor
namespace Go.Proofs.YtdckpbeioemopabGreatDoor
open Go.Am Go
set_option maxRecDepth 100000
variable {B : Nat → Option Obj}
def wkL : List (List UInt8) := [[116, 117, 109, 98, 108, 101], [115, 108, 105, 100, 101], [115, 101, 115, 115, 105, 111, 110]]
def in1 {α : Type} (i : Int) (n : Nat) (r : Option α) : Option α := bif decide (0 ≤ i ∧ i < (n : Int)) then r else none
def tx9 (s : List UInt8) (e : Int) : Option Out := some ⟨[.str s, i64 e], []⟩
def xJ (l : List (List UInt8)) : Option Out := bif decide (l.length ≤ lim ∧ (Lib.join l [32]).length ≤ lim) then (bif !decide (lexE (Lib.join l [32]) = 0) then tx9 [] 18 else tx9 (Lib.join l [32]) 0) else none
def xL (lt : Int) (l : List (List UInt8)) : Option Out := bif decide (lt = 2) then app9 l [[108, 97, 116, 101], [115, 105, 100, 101]] xJ else xJ l
def xK (bk : Bool) (lt : Int) (l : List (List UInt8)) : Option Out := bif bk then app9 l [[98, 121], [107, 101, 121]] (xL lt) else xL lt l
def xE (wk we : Int) (bk : Bool) (lt : Int) (l : List (List UInt8)) : Option Out := bif decide (wk = 2) then (bif rng64 we && true then app9 l [[101, 118, 101, 114, 121], Lib.itoa we] (xK bk lt) else none) else xK bk lt l
def xW (q : Qry) (l : List (List UInt8)) : Option Out := in1 (u8 (q.wk - 1)) 3 (bif rng64 q.ws && true then app9 l [[119, 105, 110, 100, 111, 119], wkL.getD (u8 (q.wk - 1)).toNat [], Lib.itoa q.ws] (xE q.wk q.we q.byKey q.late) else none)
def xR (q : Qry) (l : List (List UInt8)) : Option Out := bif decide ((0 : Int) < (q.whr.length : Int)) then (bif rngX q.whr then app9 l [[119, 104, 101, 114, 101], prS q.whr] (xW q) else none) else xW q l
def xA (q : Qry) (g a : List UInt8) : Option Out := cat9 g [40] fun s => cat9 s a fun s => cat9 s [41] fun s =>
  bif decide (qTy = qTy) && (decide ((0 : Int) = 0 ∧ (q.src.length : Int) = (q.src.length : Int) ∧ q.src.length ≤ 4 ∧ ([[115, 101, 108, 101, 99, 116], s, [102, 114, 111, 109]] : List (List UInt8)).length ≤ 1000) && q.src.all inR) then xR q (wdF q.join [[115, 101, 108, 101, 99, 116], s, [102, 114, 111, 109]] q.src) else none
def xO (q : Qry) : Option Out := bif !decide (clkE q = 0) then tx9 [] (clkE q) else in1 (u8 (q.agg - 1)) 4 (bif !decide (q.agg = 1) then (bif rngX q.arg then xA q (agL.getD (u8 (q.agg - 1)).toNat []) (prS q.arg) else none) else xA q (agL.getD (u8 (q.agg - 1)).toNat []) [42])
theorem tTx (q : Qry) : runL B libX9 [eTx] Tryz.f10 [q.av 0 1 2] (Ck.qbs q) = xO q := by kernel_rfl
end Go.Proofs.YtdckpbeioemopabGreatDoor
namespace Go.Proofs.YtdckpbeioemopabGreatDoor
open Go.Am Go
set_option maxRecDepth 100000
variable {B : Nat → Option Obj}
theorem srcE_inv {l : List Int} {j : Bool} (h : srcE l j = 0) : l.length ≤ 4 ∧ 0 < l.length ∧ l.all inR = true := by
  unfold srcE at h
  cases h1 : decide (4 < l.length) with
  | true => rw [h1] at h; cases h
  | false =>
    rw [h1, cond_false] at h
    have h1 := of_decide_eq_false h1
    cases h2 : (decide (l.length = 0) || (j && !decide (l.length = 2))) with
    | true => rw [h2] at h; cases h
    | false =>
      rw [h2, cond_false] at h
      rw [Bool.or_eq_false_iff] at h2
      have h0 := of_decide_eq_false h2.1
      cases h3 : l.all inR with
      | false => rw [h3] at h; cases h
      | true => exact ⟨by omega, by omega, rfl⟩
end Go.Proofs.YtdckpbeioemopabGreatDoor
