/-
  Texts put together: GrPure, GrFn, GrVal, GrRoom.
-/
import Derived.Test.YtdckpbeioemopaaGreatDoorAmC
import Derived.Test.YtdckpbeioemopaaGreatDoorClsA
import Derived.Test.YtdckpbeioemopaaGreatDoorLibA
namespace Go.Am
def inpN (C : List Chn) (p : Int) : Int := ((C.filter fun c => decide (c.dst = p)).length : Int)
def outpN (C : List Chn) (p : Int) : Int := ((C.filter fun c => decide (c.src = p)).length : Int)
def cAt (C : List Chn) (i : Int) : Chn := C.getD i.toNat default
def badC (d c : Chn) : Bool := bif decide (c.src < d.src) then true else bif decide (d.src = c.src) && decide (c.out ≤ d.out) then true else decide (d.dst = c.dst) && decide (d.inp = c.inp)
def apN (C : List Chn) (i : Nat) : Bool := !(List.range' 0 i).any fun k => badC (C.getD k default) (C.getD i default)
def rchGo (f : Int) : List Chn → List Bool → List Bool
  | [], R => R
  | c :: r, R => rchGo f r (bif decide (c.src = f) || R.getD c.src.toNat false then R.set c.dst.toNat true else R)
def rchIt (f : Int) (C : List Chn) : Nat → List Bool → List Bool
  | 0, R => R
  | k + 1, R => rchIt f C k (rchGo f C R)
def reachN (n : Nat) (C : List Chn) (f : Int) : List Bool := rchIt f C (n + 1) (List.replicate n false)
def bndC (n : Nat) (C : List Chn) : Bool := C.all fun c => decide (0 ≤ c.src ∧ c.src < (n : Int) ∧ 0 ≤ c.dst ∧ c.dst < (n : Int))
theorem bndC_mem {n : Nat} {C : List Chn} (h : bndC n C = true) {c : Chn} (hc : c ∈ C) : 0 ≤ c.src ∧ c.src < (n : Int) ∧ 0 ≤ c.dst ∧ c.dst < (n : Int) := of_decide_eq_true (List.all_eq_true.1 h c hc)
theorem rchGo_len (f : Int) : ∀ (C : List Chn) (R : List Bool), (rchGo f C R).length = R.length
  | [], _ => rfl
  | c :: r, R => by
    unfold rchGo
    rw [rchGo_len f r]
    cases decide (c.src = f) || R.getD c.src.toNat false <;> simp
theorem rchIt_len (f : Int) (C : List Chn) : ∀ (k : Nat) (R : List Bool), (rchIt f C k R).length = R.length
  | 0, _ => rfl
  | k + 1, R => by
    unfold rchIt
    rw [rchIt_len f C k, rchGo_len]
theorem reachN_len (n : Nat) (C : List Chn) (f : Int) : (reachN n C f).length = n := by
  unfold reachN
  rw [rchIt_len]; simp
def manyN (k a b : Int) : Bool :=
  bif decide (k = 1) then decide (a = 0) && decide (b = 1) else bif decide (k = 2) then decide (a = 1) && (decide (1 ≤ b) && decide (b ≤ 2)) else bif decide (k = 3) then decide (a = 1) && (decide (1 ≤ b) && decide (b ≤ 3))
  else bif decide (k = 4) then (decide (1 ≤ a) && decide (a ≤ 4)) && decide (b = 1) else bif decide (k = 5) then decide (a = 2) && decide (b = 1) else bif decide (k = 6) then (decide (1 ≤ a) && decide (a ≤ 3)) && decide (b = 0)
  else bif decide (k = 7) then (decide (1 ≤ a) && decide (a ≤ 4)) && decide (b = 0) else false
def chOk (n : Nat) (c : Chn) : Bool := decide (0 ≤ c.src ∧ 0 ≤ c.dst ∧ c.src < (n : Int) ∧ c.dst < (n : Int) ∧ 1 ≤ c.room ∧ c.room ≤ 8)
def ch2 (C : List Chn) (i : Nat) : Bool := apN C i && (decide (0 ≤ (C.getD i default).out) && (decide ((C.getD i default).out < outpN C (C.getD i default).src) && (decide (0 ≤ (C.getD i default).inp) && decide ((C.getD i default).inp < inpN C (C.getD i default).dst))))
def opOk (O : List Opr) (C : List Chn) (i : Nat) : Bool := decide (0 ≤ (O.getD i default).n ∧ (O.getD i default).n ≤ 3) && (manyN (O.getD i default).kind (inpN C i) (outpN C i) && !(reachN O.length C i).getD i false)
def validN (O : List Opr) (C : List Chn) : Bool := (C.all (chOk O.length)) && ((List.range' 0 C.length).all (ch2 C) && (List.range' 0 O.length).all (opOk O C))
theorem chOk_bnd {n : Nat} {C : List Chn} (h : C.all (chOk n) = true) : bndC n C = true := List.all_eq_true.2 fun c hc => by
  have := List.all_eq_true.1 h c hc
  unfold chOk at this
  have := of_decide_eq_true this
  exact decide_eq_true (by omega)
end Go.Am
namespace Go.Proofs.YtdckpbeioemopaaGreatDoor.Gr
open Go.Am Go Go.Proofs.YtdckpbeioemopaaGreatDoor
set_option maxRecDepth 100000
variable {B : Nat → Option Obj}
def gTy : List TypeId := [33, 34]
def cTy : List TypeId := [3, 3, 3, 3, 3]
def gBx (a b : Nat) : Blk := ⟨true, .gen gTy [[.slw a, .slw b]]⟩
def ob (O : List Opr) : Blk := ⟨false, .oprs O⟩
def cb (C : List Chn) : Blk := ⟨false, .chns C⟩
def cBx (c : Chn) : Blk := ⟨true, .gen cTy [[i64 c.src, i64 c.out, i64 c.dst, i64 c.inp, i64 c.room]]⟩
def bsG (O : List Opr) (C : List Chn) : List Blk := [gBx 1 2, ob O, cb C]
def bsR (O : List Opr) (C : List Chn) (R : List Bool) : List Blk := [gBx 2 3, ⟨true, .bools R⟩, ob O, cb C]
def sInp : FSpec
  | [.agg [.slw 0, .slw 1], .int .i64 p], [⟨false, .oprs _⟩, ⟨false, .chns C⟩] => .node (decide (C.length ≤ 1000)) (.leaf ⟨[.int .i64 (inpN C p)], []⟩) .bad
  | _, _ => .bad
def sOut : FSpec
  | [.agg [.slw 0, .slw 1], .int .i64 p], [⟨false, .oprs _⟩, ⟨false, .chns C⟩] => .node (decide (C.length ≤ 1000)) (.leaf ⟨[.int .i64 (outpN C p)], []⟩) .bad
  | _, _ => .bad
def inR' {α : Type} (p : Int) (R : List Bool) (z : Option α) : Option α := bif decide (0 ≤ p ∧ p < (R.length : Int)) then (bif decide (p.toNat < R.length) then z else none) else none
def sAp : FSpec
  | [.agg [.slw 0, .slw 1], .int .i64 i], [⟨false, .oprs _⟩, ⟨false, .chns C⟩] => .node (decide (0 ≤ i ∧ i < (C.length : Int) ∧ C.length ≤ 1000)) (.leaf ⟨[.bool (apN C i.toNat)], []⟩) .bad
  | _, _ => .bad
end Go.Proofs.YtdckpbeioemopaaGreatDoor.Gr
namespace Go.Proofs.YtdckpbeioemopaaGreatDoor.Gr
open Go.Am Go Go.Proofs.YtdckpbeioemopaaGreatDoor
set_option maxRecDepth 100000
variable {B : Nat → Option Obj}
def rcG (O : List Opr) (C : List Chn) : Bool := decide (C.length ≤ 1000 ∧ O.length ≤ 1000) && bndC O.length C
def sRch : FSpec
  | [.agg [.slw 0, .slw 1], .int .i64 f], [⟨false, .oprs O⟩, ⟨false, .chns C⟩] => .node (rcG O C) (.leaf ⟨[.slw 0], [⟨true, .bools (reachN O.length C f)⟩]⟩) .bad
  | _, _ => .bad
def sMn : FSpec
  | [.int .u8 k, .int .i64 a, .int .i64 b], [] => .leaf ⟨[.bool (manyN k a b)], []⟩
  | _, _ => .bad
noncomputable def libG : Tb := (12, [], sInp) :: (29, [], sOut) :: (28, [], sAp) :: (13, [], sRch) :: (30, [], sMn) :: Ck.lib15
def w1 (n : Int) (c : Chn) (x y : Option (AExit × Out)) : Option (AExit × Out) := bif decide (c.src < 0) then x else bif decide (c.dst < 0) then x else bif decide (n ≤ c.src) then x else bif decide (n ≤ c.dst) then x else bif decide (c.room < 1) then x else bif decide (8 < c.room) then x else y
def gd {α : Type} (b : Bool) (z : Option α) : Option α := bif b then z else none
def w2 (C : List Chn) (i : Int) (c : Chn) (x y : Option (AExit × Out)) : Option (AExit × Out) := gd (decide (0 ≤ i ∧ i < (C.length : Int) ∧ C.length ≤ 1000)) (bif !apN C i.toNat then x else bif decide (c.out < 0) then x else gd (decide (C.length ≤ 1000)) (bif decide (outpN C c.src ≤ c.out) then x else bif decide (c.inp < 0) then x else gd (decide (C.length ≤ 1000)) (bif decide (inpN C c.dst ≤ c.inp) then x else y)))
def oAt (O : List Opr) (i : Int) : Opr := O.getD i.toNat default
def w3 (O : List Opr) (C : List Chn) (i : Int) (o : Opr) (x y : Option (AExit × Out)) : Option (AExit × Out) := bif decide (o.n < 0) then x else bif decide (3 < o.n) then x else gd (decide (C.length ≤ 1000)) (gd (decide (C.length ≤ 1000)) (bif !manyN o.kind (inpN C i) (outpN C i) then x else gd (rcG O C) (inR' i (reachN O.length C i) (bif (reachN O.length C i).getD i.toNat false then x else y))))
def sVal : FSpec
  | [.agg [.slw 0, .slw 1]], [⟨false, .oprs O⟩, ⟨false, .chns C⟩] => .node (decide (C.length ≤ 1000 ∧ O.length ≤ 1000)) (.leaf ⟨[.bool (validN O C)], []⟩) .bad
  | _, _ => .bad
noncomputable def libH : Tb := (11, [], sVal) :: libG
end Go.Proofs.YtdckpbeioemopaaGreatDoor.Gr
namespace Go.Am
def rm (r : Int) (c : Chn) : Chn := { c with room := r }
def Alk (c d : Chn) : Prop := c.src = d.src ∧ c.out = d.out ∧ c.dst = d.dst ∧ c.inp = d.inp
theorem rm_at (r : Int) (C : List Chn) (k : Nat) : Alk ((C.map (rm r)).getD k default) (C.getD k default) := by
  simp only [List.getD, List.getElem?_map]
  cases C[k]? <;> exact ⟨rfl, rfl, rfl, rfl⟩
theorem badC_alk {a b c d : Chn} (h : Alk a b) (k : Alk c d) : badC a c = badC b d := by
  obtain ⟨h1, h2, h3, h4⟩ := h
  obtain ⟨k1, k2, k3, k4⟩ := k
  unfold badC
  rw [h1, h2, h3, h4, k1, k2, k3, k4]
theorem inpN_rm (r : Int) (C : List Chn) (p : Int) : inpN (C.map (rm r)) p = inpN C p := by
  unfold inpN
  rw [List.filter_map, List.length_map]; rfl
theorem outpN_rm (r : Int) (C : List Chn) (p : Int) : outpN (C.map (rm r)) p = outpN C p := by
  unfold outpN
  rw [List.filter_map, List.length_map]; rfl
theorem apN_rm (r : Int) (C : List Chn) (i : Nat) : apN (C.map (rm r)) i = apN C i := by
  unfold apN
  congr 1
  congr 1
  funext k
  exact badC_alk (rm_at r C k) (rm_at r C i)
theorem rchGo_rm (f r : Int) : ∀ (C : List Chn) (R : List Bool), rchGo f (C.map (rm r)) R = rchGo f C R
  | [], _ => rfl
  | c :: t, R => by
    rw [List.map_cons]
    unfold rchGo
    rw [rchGo_rm f r t]; rfl
theorem rchIt_rm (f r : Int) (C : List Chn) : ∀ (k : Nat) (R : List Bool), rchIt f (C.map (rm r)) k R = rchIt f C k R
  | 0, _ => rfl
  | k + 1, R => by
    unfold rchIt
    rw [rchGo_rm, rchIt_rm f r C k]
theorem reachN_rm (n : Nat) (r : Int) (C : List Chn) (f : Int) : reachN n (C.map (rm r)) f = reachN n C f := rchIt_rm f r C _ _
theorem ch2_rm (r : Int) (C : List Chn) (i : Nat) : ch2 (C.map (rm r)) i = ch2 C i := by
  unfold ch2
  obtain ⟨h1, h2, h3, h4⟩ := rm_at r C i
  rw [apN_rm, h1, h2, h3, h4, outpN_rm, inpN_rm]
theorem opOk_rm (r : Int) (O : List Opr) (C : List Chn) (i : Nat) : opOk O (C.map (rm r)) i = opOk O C i := by
  unfold opOk
  rw [inpN_rm, outpN_rm, reachN_rm]
theorem chOk_rm {r : Int} (h1 : 1 ≤ r) (h8 : r ≤ 8) {n : Nat} {c : Chn} (h : chOk n c = true) : chOk n (rm r c) = true := by
  unfold chOk at h ⊢
  have := of_decide_eq_true h
  exact decide_eq_true ⟨this.1, this.2.1, this.2.2.1, this.2.2.2.1, h1, h8⟩
theorem valid_rm {r : Int} (h1 : 1 ≤ r) (h8 : r ≤ 8) {O : List Opr} {C : List Chn} (h : validN O C = true) : validN O (C.map (rm r)) = true := by
  unfold validN at h ⊢
  rw [Bool.and_eq_true] at h ⊢
  refine ⟨List.all_eq_true.2 fun c hc => ?_, ?_⟩
  · obtain ⟨d, hd, rfl⟩ := List.mem_map.1 hc
    exact chOk_rm h1 h8 (List.all_eq_true.1 h.1 d hd)
  · rw [List.length_map, show ch2 (C.map (rm r)) = ch2 C from funext fun i => ch2_rm r C i, show opOk O (C.map (rm r)) = opOk O C from funext fun i => opOk_rm r O C i]
    exact h.2
end Go.Am
