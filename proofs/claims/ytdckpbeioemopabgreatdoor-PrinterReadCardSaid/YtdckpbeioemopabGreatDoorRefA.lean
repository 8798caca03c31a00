/-
  Texts put together: RefInt, RefWr, RefWr2, RefTd, RefTd2.
-/
import Derived.Test.YtdckpbeioemopabGreatDoorNodBase
import Derived.Test.YtdckpbeioemopabGreatDoorPureA
import Derived.Shelf.Strconv.Itoa4
import Derived.Test.YtdckpbeioemopabGreatDoorPrtP
import Derived.Test.YtdckpbeioemopabGreatDoorClsA
namespace Go.Proofs.YtdckpbeioemopabGreatDoor.R1
open Go.Am Go.Shelf
set_option maxRecDepth 100000
variable {B : Nat → Option Obj}
def fails (p : Bool) : Bool := bif p then false else true
def rs (s : List UInt8) : Option Out := some ⟨[.str s], []⟩
end Go.Proofs.YtdckpbeioemopabGreatDoor.R1
namespace Go.Proofs.YtdckpbeioemopabGreatDoor
open Go.Am Go
set_option maxRecDepth 100000
variable {B : Nat → Option Obj}
def gW (k : Nat) (X : List Nod) (i m : Int) : Bool := okX k X i && (rngX X && decide ((wrN k X i m).length ≤ 100000))
noncomputable def libR (_ : Nat) : Tb := lib5
def kIn (k : Int) (z : Option Out) : Option Out := bif decide (1 ≤ k ∧ k ≤ 19) then z else none
end Go.Proofs.YtdckpbeioemopabGreatDoor
namespace Go.Proofs.YtdckpbeioemopabGreatDoor
open Go.Am Go
set_option maxRecDepth 100000
variable {B : Nat → Option Obj}
def fldL : List (List UInt8) := [[107], [116], [118]]
def subR (k : Nat) (X : List Nod) (j m : Int) (f : List UInt8 → Option Out) : Option Out := bif decide (m ≤ 9) && gW k X j m then f (wrN k X j m) else none
def binR (k : Nat) (X : List Nod) (x : Nod) (l : Int) : Option Out := subR k X x.a l fun s => catO s [32] fun u => inb' (u8 (x.kind - 7)) sgnL.length (catO u (sgnL.getD (u8 (x.kind - 7)).toNat []) fun v => catO v [32] fun w => subR k X x.b (w64 ((lineK x.kind : Int) + 1)) fun s' => catO w s' strO)
def wrR (k : Nat) (X : List Nod) (x : Nod) : Option Out := kIn x.kind (bif decide (x.kind = 1) then (bif decide (Rng x.n) then strO (Lib.itoa x.n) else none) else bif decide ((lineK x.kind : Int) = 9) then inb' (u8 (x.kind - 2)) fldL.length (strO (fldL.getD (u8 (x.kind - 2)).toNat []))
  else bif decide ((lineK x.kind : Int) = 8) then subR k X x.a 8 (fun s => catO [45] s strO) else bif decide ((lineK x.kind : Int) = 3) then subR k X x.a 3 (fun s => catO [110, 111, 116, 32] s strO)
  else bif decide ((lineK x.kind : Int) = 4) then binR k X x 5 else binR k X x (lineK x.kind : Int))
end Go.Proofs.YtdckpbeioemopabGreatDoor
namespace Go.Proofs.YtdckpbeioemopabGreatDoor
open Go.Am Go
set_option maxRecDepth 100000
variable {B : Nat → Option Obj}
def nmL : List (List UInt8) := [[97], [98], [99], [100]]
def nmS (n : Int) : List UInt8 := nmL.getD n.toNat []
def nameO (_ e : Int) (s : List UInt8) : Option Out := some ⟨[.str s, i64 e], []⟩
theorem tNm (n : Int) : runT B lib5 Tryz.f34 [.int .i64 n] [] = bif decide (n < 0) then nameO n 2 [] else bif decide (4 ≤ n) then nameO n 2 [] else bif decide (0 ≤ n ∧ n ≤ w64 (n + 1) ∧ w64 (n + 1) ≤ (([97, 98, 99, 100] : List UInt8).length : Int)) then nameO n 0 ((([97, 98, 99, 100] : List UInt8).take (w64 (n + 1)).toNat).drop n.toNat) else none := by kernel_rfl
def sNm : FSpec
  | [.int .i64 n], [] => .node (inR n) (.leaf ⟨[.str (nmS n), .int .i64 0], []⟩) .bad
  | _, _ => .bad
theorem inR_of {n : Int} (h : inR n = true) : 0 ≤ n ∧ n ≤ 3 := by
  unfold inR at h
  rw [Bool.and_eq_true, decide_eq_true_eq, decide_eq_true_eq] at h
  exact h
theorem nm_txt : ∀ k : Fin 4, (([97, 98, 99, 100] : List UInt8).take ((k.val : Int) + 1).toNat).drop (k.val : Int).toNat = nmS k.val := by decide +kernel
theorem okNm : FnOk (E0 B) 34 sNm := by
  refine fnT lib5_ok Tryz.func34 (by kernel_rfl) (by kernel_rfl) fun vs bs r h => ?_
  unfold sNm at h
  split at h
  · rename_i n
    rcases T.node_sel h with ⟨hc, h2⟩ | ⟨_, h2⟩
    · simp only [T.sel, Option.some.injEq] at h2; subst h2
      obtain ⟨n0, n3⟩ := inR_of hc
      refine (tNm n).trans ?_
      have h1 := nm_txt ⟨n.toNat, by omega⟩
      have e : ((n.toNat : Nat) : Int) = n := by omega
      simp only [e] at h1
      have hw : w64 (n + 1) = n + 1 := w64_rng (by unfold Rng; omega)
      rw [hw, h1, decide_eq_false (show ¬ n < 0 by omega), decide_eq_false (show ¬ 4 ≤ n by omega), decide_eq_true (show 0 ≤ n ∧ n ≤ n + 1 ∧ n + 1 ≤ (([97, 98, 99, 100] : List UInt8).length : Int) from ⟨n0, by omega, by show n + 1 ≤ 4; omega⟩)]; rfl
    · simp [T.sel] at h2
  · simp [T.sel] at h
def qTy : List TypeId := [5, 22, 23, 4, 22, 5, 2, 2, 4, 5]
def cat9 {α : Type} (a b : List UInt8) (f : List UInt8 → Option α) : Option α := bif decide (a.length + b.length ≤ lim) then f (a ++ b) else none
theorem cat9_in {α : Type} {a b : List UInt8} (h : a.length + b.length ≤ 1000000) (f : List UInt8 → Option α) : cat9 a b f = f (a ++ b) := by
  unfold cat9
  rw [decide_eq_true (show a.length + b.length ≤ lim by simp only [lim]; omega)]; rfl
def srcT (bt : List UInt8) : List UInt8 → List Int → List UInt8
  | s, [] => s
  | s, x :: r => srcT bt (s ++ bt ++ nmS x) r
def srcF (bt : List UInt8) (s : List UInt8) : List Int → List UInt8
  | [] => s
  | x :: r => srcT bt (s ++ nmS x) r
theorem nmS_len (n : Int) : (nmS n).length ≤ 1 := by
  unfold nmS nmL
  rcases n.toNat with _ | _ | _ | _ | k <;> simp [List.getD]
theorem srcT_len {bt : List UInt8} : ∀ (r : List Int) (s : List UInt8), (srcT bt s r).length ≤ s.length + r.length * (bt.length + 1)
  | [], s => by simp [srcT]
  | x :: r, s => by
    unfold srcT
    have h1 := srcT_len (bt := bt) r (s ++ bt ++ nmS x)
    have h2 := nmS_len x
    simp only [List.length_append, List.length_cons] at h1 ⊢
    rw [Nat.add_mul, Nat.one_mul]
    omega
end Go.Proofs.YtdckpbeioemopabGreatDoor
namespace Go.Proofs.YtdckpbeioemopabGreatDoor
open Go.Am Go
set_option maxRecDepth 100000
variable {B : Nat → Option Obj}
def agL : List (List UInt8) := [[99, 111, 117, 110, 116], [115, 117, 109], [109, 105, 110], [109, 97, 120]]
def wiL : List (List UInt8) := [[116, 117, 109, 98, 108, 101, 32], [115, 108, 105, 100, 101, 32], [115, 101, 115, 115, 105, 111, 110, 32]]
def sbT (X : List Nod) (f : List UInt8 → Option Out) : Option Out := bif gW 20 X (w64 ((X.length : Int) - 1)) 0 then f (wrN 20 X (w64 ((X.length : Int) - 1)) 0) else none
def tdL (lt : Int) (s : List UInt8) : Option Out := bif decide (lt = 2) then cat9 s [32, 108, 97, 116, 101, 32, 115, 105, 100, 101] strO else strO s
def agT (k : Int) : List UInt8 := agL.getD (u8 (k - 1)).toNat []
def wiT (k : Int) : List UInt8 := wiL.getD (u8 (k - 1)).toNat []
def argT (q : Qry) : List UInt8 := bif decide (q.agg = 1) then [42] else prS q.arg
def btT (j : Bool) : List UInt8 := bif j then [32, 106, 111, 105, 110, 32] else [32, 117, 110, 105, 111, 110, 32]
def hdT (q : Qry) : List UInt8 := [115, 101, 108, 101, 99, 116, 32] ++ agT q.agg ++ [40] ++ argT q ++ [41, 32, 102, 114, 111, 109, 32]
def whT (q : Qry) : List UInt8 := bif decide (0 < q.whr.length) then [32, 119, 104, 101, 114, 101, 32] ++ prS q.whr else []
def wnT (q : Qry) : List UInt8 := [32, 119, 105, 110, 100, 111, 119, 32] ++ wiT q.wk ++ Lib.itoa q.ws
def evT (q : Qry) : List UInt8 := bif decide (q.wk = 2) then [32, 101, 118, 101, 114, 121, 32] ++ Lib.itoa q.we else []
def bkT (q : Qry) : List UInt8 := bif q.byKey then [32, 98, 121, 32, 107, 101, 121] else []
def ltT (q : Qry) : List UInt8 := bif decide (q.late = 2) then [32, 108, 97, 116, 101, 32, 115, 105, 100, 101] else []
def tdT (q : Qry) : List UInt8 := srcF (btT q.join) (hdT q) q.src ++ whT q ++ wnT q ++ evT q ++ bkT q ++ ltT q
theorem wi_in : ∀ k : Fin 4, 1 ≤ k.val → (0 ≤ u8 ((k.val : Int) - 1) ∧ u8 ((k.val : Int) - 1) < 3) ∧ (wiT k.val).length ≤ 10 := by decide +kernel
theorem ag_in : ∀ k : Fin 5, 1 ≤ k.val → (0 ≤ u8 ((k.val : Int) - 1) ∧ u8 ((k.val : Int) - 1) < 4) ∧ (agT k.val).length ≤ 10 := by decide +kernel
theorem wi_of {k : Int} (h1 : 1 ≤ k) (h2 : k ≤ 3) : (0 ≤ u8 (k - 1) ∧ u8 (k - 1) < 3) ∧ (wiT k).length ≤ 10 := by
  have h3 := wi_in ⟨k.toNat, by omega⟩ (by simp only; omega)
  have e : ((k.toNat : Nat) : Int) = k := by omega
  simp only [e] at h3
  exact h3
theorem ag_of {k : Int} (h1 : 1 ≤ k) (h2 : k ≤ 4) : (0 ≤ u8 (k - 1) ∧ u8 (k - 1) < 4) ∧ (agT k).length ≤ 10 := by
  have h3 := ag_in ⟨k.toNat, by omega⟩ (by simp only; omega)
  have e : ((k.toNat : Nat) : Int) = k := by omega
  simp only [e] at h3
  exact h3
theorem sbT_is {X : List Nod} (hc : chkN X = 0) (hr : rngX X = true) : (prS X).length ≤ 2000 ∧ ∀ f, sbT X f = f (prS X) := by
  obtain ⟨e, he, rfl, hs, _⟩ := chkN_tree hc
  have h1 := prS_is he hc
  have hx := (txS_is he hc).2
  have hp := e.size_pos
  have hrr : e.rng = true := by rw [← rng_flat e 0]; exact hr
  have hw : w64 (((e.flat 0).length : Int) - 1) = ((e.flat 0).length : Int) - 1 := w64_rng (by unfold Rng; rw [Ex.flat_len]; omega)
  have hb := pcsS_bound false e 0 hrr
  have h1' : wrN 20 (e.flat 0) (((e.flat 0).length : Int) - 1) 0 = prS (e.flat 0) := by
    unfold prS
    rw [decide_eq_true hc]; rfl
  have hl : (prS (e.flat 0)).length ≤ 2000 := by
    rw [h1]; unfold Ex.txt; omega
  refine ⟨hl, fun f => ?_⟩
  unfold sbT gW
  rw [hw, h1', hx, hr, decide_eq_true (show (prS (e.flat 0)).length ≤ 100000 by omega)]; rfl
structure QOk (q : Qry) : Prop where
  a1 : 1 ≤ q.agg
  a4 : q.agg ≤ 4
  arg : q.agg ≠ 1 → chkN q.arg = 0
  rA : rngX q.arg = true
  whr : 0 < q.whr.length → chkN q.whr = 0
  rW : rngX q.whr = true
  s4 : q.src.length ≤ 4
  s0 : 0 < q.src.length
  sR : q.src.all inR = true
  k1 : 1 ≤ q.wk
  k3 : q.wk ≤ 3
  ws : Rng q.ws
  we : Rng q.we
theorem bt_len (j : Bool) : (btT j).length ≤ 7 := by cases j <;> decide
end Go.Proofs.YtdckpbeioemopabGreatDoor
