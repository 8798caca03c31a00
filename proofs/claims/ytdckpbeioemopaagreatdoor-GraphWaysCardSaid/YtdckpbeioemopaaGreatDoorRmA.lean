/-
  Texts put together: GrSame, GrRm, GrRm2, GrRm3.
-/
import Derived.Test.YtdckpbeioemopaaGreatDoorGrChk
import Derived.Test.YtdckpbeioemopaaGreatDoorGpA
import Derived.Test.YtdckpbeioemopaaGreatDoorGrA
import Derived.Test.YtdckpbeioemopaaGreatDoorGrB
import Derived.Test.YtdckpbeioemopaaGreatDoorGpLaw2
namespace Go.Proofs.YtdckpbeioemopaaGreatDoor.Sg
open Go.Am Go Go.Proofs.YtdckpbeioemopaaGreatDoor Go.Proofs.YtdckpbeioemopaaGreatDoor.Jo
set_option maxRecDepth 100000
variable {B : Nat → Option Obj}
noncomputable def sC : Code := bodyC Tryz.f23
noncomputable def bS1 : Code := loopAt 4 (loopsOf sC)
noncomputable def bS2 : Code := loopAt 9 (loopsOf sC)
def sg1 : LSig := { cs := [(2, 0), (3, 0)], mv := [(5, 0)], mo := [(4, 0)], take := [] }
def sg2 : LSig := { cs := [(2, 0), (3, 0)], mv := [(6, 0)], mo := [(4, 0)], take := [] }
def bsS (O : List Opr) (C : List Chn) (O' : List Opr) (C' : List Chn) : List Blk := [Jo.gBx 2 3, Jo.gBx 4 5, Jo.ob O, Jo.cb C, Jo.ob O', Jo.cb C']
def eqO (a b : Opr) : Bool := decide (a.kind = b.kind) && (decide (a.n = b.n) && true)
def eqC (a b : Chn) : Bool := decide (a.src = b.src) && (decide (a.out = b.out) && (decide (a.dst = b.dst) && (decide (a.inp = b.inp) && (decide (a.room = b.room) && true))))
def bS (O : List Opr) (O' : List Opr) (i : Nat) : Bool := !eqO (O.getD i default) (O'.getD i default)
def bT (C : List Chn) (C' : List Chn) (i : Nat) : Bool := !eqC (C.getD i default) (C'.getD i default)
def two (a b c d : TypeId) : Bool := decide (a = 33 ∧ b = 34 ∧ c = 33 ∧ d = 34)
def sp1 : LSpec
  | [.ptr 0 0 0, .ptr 1 0 0, .int .i64 i], [⟨true, .gen [a, b] [[.slw 2, .slw 3]]⟩, ⟨true, .gen [c, d] [[.slw 4, .slw 5]]⟩, ⟨false, .oprs O⟩, ⟨false, .chns C⟩, ⟨false, .oprs O'⟩, ⟨false, .chns C'⟩] =>
    .node (two a b c d && decide (i = 0 ∧ O.length = O'.length ∧ O.length ≤ 1000)) (.node ((List.range' 0 O.length).any (bS O O')) (.leaf (.ret, ⟨[.bool false], bsS O C O' C'⟩)) (.leaf (.exit 0, ⟨[.any], bsS O C O' C'⟩))) .bad
  | _, _ => .bad
def sp2 : LSpec
  | [.ptr 0 0 0, .ptr 1 0 0, .int .i64 i], [⟨true, .gen [a, b] [[.slw 2, .slw 3]]⟩, ⟨true, .gen [c, d] [[.slw 4, .slw 5]]⟩, ⟨false, .oprs O⟩, ⟨false, .chns C⟩, ⟨false, .oprs O'⟩, ⟨false, .chns C'⟩] =>
    .node (two a b c d && decide (i = 0 ∧ C.length = C'.length ∧ C.length ≤ 1000)) (.node ((List.range' 0 C.length).any (bT C C')) (.leaf (.ret, ⟨[.bool false], bsS O C O' C'⟩)) (.leaf (.exit 2, ⟨[.any], bsS O C O' C'⟩))) .bad
  | _, _ => .bad
noncomputable def e1 : LEnt := { id := 4, n := 59, sg := sg1, wr := writes bS1, s := sp1 }
noncomputable def e2 : LEnt := { id := 9, n := 59, sg := sg2, wr := writes bS2, s := sp2 }
theorem tSame (O : List Opr) (C : List Chn) (O' : List Opr) (C' : List Chn) : runL B [] [e1, e2] Tryz.f23 [.agg [.slw 0, .slw 1], .agg [.slw 2, .slw 3]] [Jo.ob O, Jo.cb C, Jo.ob O', Jo.cb C'] =
    bif !decide ((O.length : Int) = (O'.length : Int)) then some ⟨[.bool false], []⟩ else bif !decide ((C.length : Int) = (C'.length : Int)) then some ⟨[.bool false], []⟩ else
      Gk.gd (two 33 34 33 34 && decide ((0 : Int) = 0 ∧ O.length = O'.length ∧ O.length ≤ 1000)) (bif (List.range' 0 O.length).any (bS O O') then some ⟨[.bool false], []⟩ else
        Gk.gd (two 33 34 33 34 && decide ((0 : Int) = 0 ∧ C.length = C'.length ∧ C.length ≤ 1000)) (bif (List.range' 0 C.length).any (bT C C') then some ⟨[.bool false], []⟩ else some ⟨[.bool true], []⟩)) := by kernel_rfl
def smB (O : List Opr) (C : List Chn) (O' : List Opr) (C' : List Chn) : Bool := decide (O.length = O'.length) && (decide (C.length = C'.length) && (!(List.range' 0 O.length).any (bS O O') && !(List.range' 0 C.length).any (bT C C')))
end Go.Proofs.YtdckpbeioemopaaGreatDoor.Sg
namespace Go.Proofs.YtdckpbeioemopaaGreatDoor.Rm
open Go.Am Go Go.Proofs.YtdckpbeioemopaaGreatDoor
set_option maxRecDepth 100000
variable {B : Nat → Option Obj}
def bsA (l : List Int) : List Blk := [⟨false, .ints .i64 l⟩]
def isR (r : Int) (C : List Chn) : Bool := C.all fun c => decide (c.room = r)
def upto (r : Int) (C : List Chn) (k : Nat) : List Chn := (C.take k).map (rm r) ++ C.drop k
end Go.Proofs.YtdckpbeioemopaaGreatDoor.Rm
namespace Go.Proofs.YtdckpbeioemopaaGreatDoor.Rm
open Go.Am Go Go.Proofs.YtdckpbeioemopaaGreatDoor Go.Proofs.YtdckpbeioemopaaGreatDoor.Gf Go.Proofs.YtdckpbeioemopaaGreatDoor.Gp
set_option maxRecDepth 100000
variable {B : Nat → Option Obj}
def rest (O : List Opr) (C C' : List Chn) (r s : Int) (l : List Int) : Option Out :=
  bif !decide ((l.length : Int) = (O.length : Int)) then rb false else bif !decide ((C.length : Int) = (C'.length : Int)) then rb false else
    gdO (decide ((0 : Int) = 0 ∧ l.length ≤ 1000)) (bif (List.range' 0 l.length).any (badE l) then rb false else
      gdO (decide (0 + C'.length ≤ lim)) (gdO (Sg.two 33 34 33 34 && (decide ((0 : Int) = 0 ∧ C.length = C'.length ∧ C.length ≤ 1000) && (isR r C && isR s C')))
        (gdO (decide (O.length ≤ 1000 ∧ C.length ≤ 1000)) (rb (Sg.smB O C O (C'.map (rm r)))))))
end Go.Proofs.YtdckpbeioemopaaGreatDoor.Rm
namespace Go.Proofs.YtdckpbeioemopaaGreatDoor.Rm
open Go.Am Go Go.Proofs.YtdckpbeioemopaaGreatDoor Go.Proofs.YtdckpbeioemopaaGreatDoor.Gf Go.Proofs.YtdckpbeioemopaaGreatDoor.Gp
set_option maxRecDepth 100000
variable {B : Nat → Option Obj}
def szT (n p : Nat) (j : Bool) : Bool := bb.all fun bk => bb.all fun sd => decide ((ofO n p bk j sd).length ≤ 20) && (decide ((ofC n p bk sd 1).length ≤ 100) && upC (ofC n p bk sd 1))
def szAll : Bool := [1, 2, 3, 4].all fun n => [1, 2, 3].all fun p => bb.all fun j => szT n p j
theorem sz_all : szAll = true := by kernel_rfl
theorem sz_at {n p : Nat} (hn : n = 1 ∨ n = 2 ∨ n = 3 ∨ n = 4) (hp : p = 1 ∨ p = 2 ∨ p = 3) (bk sd j : Bool) : (ofO n p bk j sd).length ≤ 20 ∧ (ofC n p bk sd 1).length ≤ 100 ∧ upC (ofC n p bk sd 1) = true := by
  have h1 := List.all_eq_true.1 sz_all n (by simp; omega)
  have h2 := List.all_eq_true.1 h1 p (by simp; omega)
  have h3 := List.all_eq_true.1 h2 j (bb_mem j)
  have h4 := List.all_eq_true.1 (List.all_eq_true.1 h3 bk (bb_mem bk)) sd (bb_mem sd)
  rw [Bool.and_eq_true, Bool.and_eq_true] at h4
  exact ⟨of_decide_eq_true h4.1, of_decide_eq_true h4.2.1, h4.2.2⟩
end Go.Proofs.YtdckpbeioemopaaGreatDoor.Rm
