/-
  Texts put together: RefPl, RefPl2.
-/
import Derived.Test.YtdckpbeioemopaaPlnA
import Derived.Test.YtdckpbeioemopaaRefA
namespace Go.Proofs.Ytdckpbeioemopaa.Rp
open Go.Am Go Go.Proofs.Ytdckpbeioemopaa
set_option maxRecDepth 100000
variable {B : Nat → Option Obj}
def b5 {α : Type} (w k n j l : Bool) (f : Bool → Bool → Bool → Bool → Bool → α) : α :=
  bif w then (bif k then (bif n then (bif j then (bif l then f true true true true true else f true true true true false) else (bif l then f true true true false true else f true true true false false)) else (bif j then (bif l then f true true false true true else f true true false true false) else (bif l then f true true false false true else f true true false false false)))
    else (bif n then (bif j then (bif l then f true false true true true else f true false true true false) else (bif l then f true false true false true else f true false true false false)) else (bif j then (bif l then f true false false true true else f true false false true false) else (bif l then f true false false false true else f true false false false false))))
  else (bif k then (bif n then (bif j then (bif l then f false true true true true else f false true true true false) else (bif l then f false true true false true else f false true true false false)) else (bif j then (bif l then f false true false true true else f false true false true false) else (bif l then f false true false false true else f false true false false false)))
    else (bif n then (bif j then (bif l then f false false true true true else f false false true true false) else (bif l then f false false true false true else f false false true false false)) else (bif j then (bif l then f false false false true true else f false false false true false) else (bif l then f false false false false true else f false false false false false))))
theorem b5_is {α : Type} (w k n j l : Bool) (f : Bool → Bool → Bool → Bool → Bool → α) : b5 w k n j l f = f w k n j l := by cases w <;> cases k <;> cases n <;> cases j <;> cases l <;> rfl
def stR (w k n j l : Bool) : List Int := [1, 2] ++ ((bif w then [3] else []) ++ (4 :: ((bif k then [5] else []) ++ (6 :: ((bif n then [7] else []) ++ ((bif j then [8] else []) ++ (9 :: (bif l then [10] else []))))))))
def stRO (w k n j l : Bool) : Option Out := some ⟨[.slw 0], [⟨true, .bytes 5 (stR w k n j l)⟩]⟩
theorem tStepsR (q : Qry) : runT B Ck.lb6 Try.f27 [q.av 0 1 2] (Ck.qbs q) = b5 (decide ((0 : Int) < (q.whr.length : Int))) q.byKey (!q.join) q.join (decide (q.late = 2)) stRO := by kernel_rfl
theorem stR_is (w k j l : Bool) : stR w k (!j) j l = stp w k j l := by cases w <;> cases k <;> cases j <;> cases l <;> rfl
theorem okStepsR : FnOk (E0 B) 27 Pl.sSteps := by
  refine fnT Ck.lb6_ok Try.func27 (by kernel_rfl) (by kernel_rfl) fun vs bs r h => ?_
  unfold Pl.sSteps at h
  split at h
  · rename_i ag j wk ws we bk lt A S W
    simp only [T.sel, Option.some.injEq] at h; subst h
    refine (tStepsR ⟨ag, A, S, j, W, wk, ws, we, bk, lt⟩).trans ?_
    rw [b5_is, Ck.pos_cast]
    unfold stRO
    rw [stR_is]; rfl
  · simp [T.sel] at h
end Go.Proofs.Ytdckpbeioemopaa.Rp
namespace Go.Proofs.Ytdckpbeioemopaa.Rp
open Go.Am Go Go.Proofs.Ytdckpbeioemopaa
set_option maxRecDepth 100000
variable {B : Nat → Option Obj}
noncomputable def lib1 : Tb := (27, [], Pl.sSteps) :: Ck.lb6
theorem lib1_ok : TbOk B lib1 := (Ck.lb6_ok).add okStepsR
theorem tChkR (st : List Int) (q : Qry) : runT B lib1 Try.f18 [Pl.plAv q 0 1 2 3] (Pl.plBs false st q) = bif !decide ((ckE q).2 = 0) then ri (ckE q).2 else bif !decide (byteList st = byteList (stpQ q)) then ri 8 else ri 0 := by kernel_rfl
theorem byte_inj : ∀ {a b : List Int}, a.all inByte = true → b.all inByte = true → byteList a = byteList b → a = b
  | [], [], _, _, _ => rfl
  | [], _ :: _, _, _, h => by cases h
  | _ :: _, [], _, _, h => by cases h
  | x :: a, y :: b, h1, h2, h => by
    rw [List.all_cons, Bool.and_eq_true] at h1 h2
    have h3 := List.cons.inj (show UInt8.ofNat x.toNat :: byteList a = UInt8.ofNat y.toNat :: byteList b from h)
    have hx := of_decide_eq_true h1.1
    have hy := of_decide_eq_true h2.1
    have h4 := congrArg UInt8.toNat h3.1
    rw [UInt8.toNat_ofNat', UInt8.toNat_ofNat'] at h4
    have e : x = y := by omega
    rw [e, byte_inj h1.2 h2.2 h3.2]
theorem stp_byte (q : Qry) : (stpQ q).all inByte = true := by
  unfold stpQ
  cases decide (0 < q.whr.length) <;> cases q.byKey <;> cases q.join <;> cases decide (q.late = 2) <;> decide
theorem bl_is {st : List Int} {q : Qry} (h : st.all inByte = true) : decide (byteList st = byteList (stpQ q)) = decide (st = stpQ q) := by
  by_cases he : st = stpQ q
  · rw [decide_eq_true he, he, decide_eq_true rfl]
  · rw [decide_eq_false he, decide_eq_false fun g => he (byte_inj h (stp_byte q) g)]
def sChkR : FSpec
  | [.agg [.slw 0, .int .u8 ag, .slw 1, .slw 2, .bool j, .slw 3, .int .u8 wk, .int .i64 ws, .int .i64 we, .bool bk, .int .u8 lt]], [⟨false, .ints .u8 st⟩, ⟨false, .nodes A⟩, ⟨false, .ints .i64 S⟩, ⟨false, .nodes W⟩] => .node (st.all inByte) (.leaf ⟨[.int .i64 (Pl.plE st ⟨ag, A, S, j, W, wk, ws, we, bk, lt⟩)], []⟩) .bad
  | _, _ => .bad
theorem okChkR : FnOk (E0 B) 18 sChkR := by
  refine fnT lib1_ok Try.func18 (by kernel_rfl) (by kernel_rfl) fun vs bs r h => ?_
  unfold sChkR at h
  split at h
  · rename_i ag j wk ws we bk lt st A S W
    rcases T.node_sel h with ⟨hc, h2⟩ | ⟨_, h2⟩
    · simp only [T.sel, Option.some.injEq] at h2; subst h2
      refine (tChkR st ⟨ag, A, S, j, W, wk, ws, we, bk, lt⟩).trans ?_
      rw [bl_is hc]
      unfold Pl.plE
      cases decide ((ckE ⟨ag, A, S, j, W, wk, ws, we, bk, lt⟩).2 = 0) <;> cases decide (st = stpQ ⟨ag, A, S, j, W, wk, ws, we, bk, lt⟩) <;> rfl
    · simp [T.sel] at h2
  · simp [T.sel] at h
noncomputable def lib2 : Tb := (18, [], sChkR) :: lib1
end Go.Proofs.Ytdckpbeioemopaa.Rp
