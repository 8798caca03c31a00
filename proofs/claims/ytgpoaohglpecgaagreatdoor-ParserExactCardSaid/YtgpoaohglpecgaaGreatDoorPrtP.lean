/-
  Texts put together: PrtBase, PrtWrite, PrtExpr, PrtExpr2, PrtExpr3, PrtExpr4.
-/
import Derived.Test.YtgpoaohglpecgaaGreatDoorLawA
import Derived.Test.YtgpoaohglpecgaaGreatDoorLayB
import Derived.Test.YtgpoaohglpecgaaGreatDoorLibB
namespace Go.Proofs.YtgpoaohglpecgaaGreatDoor
open Go.Am Go.Shelf
set_option maxRecDepth 100000
variable {B : Nat → Option Obj}
end Go.Proofs.YtgpoaohglpecgaaGreatDoor
namespace Go.Proofs.YtgpoaohglpecgaaGreatDoor
open Go.Am Go.Shelf
set_option maxRecDepth 100000
variable {B : Nat → Option Obj}
def opS (k : Int) : List UInt8 := [32] ++ (opT k ++ [32])
def leftI (k : Int) : Int := bif decide ((lineK k : Int) = 4) then 5 else (lineK k : Int)
def wrN : Nat → List Nod → Int → Int → List UInt8
  | 0, _, _, _ => []
  | n + 1, X, i, m => bif decide ((nodA X i).kind = 1) then Lib.itoa (nodA X i).n else bif decide ((nodA X i).kind ≤ 4) then fldT (nodA X i).kind else
    brT (decide ((lineK (nodA X i).kind : Int) < m)) (bif decide ((nodA X i).kind = 5) then [45] ++ wrN n X (nodA X i).a 8 else bif decide ((nodA X i).kind = 6) then [110, 111, 116, 32] ++ wrN n X (nodA X i).a 3 else
      wrN n X (nodA X i).a (leftI (nodA X i).kind) ++ (opS (nodA X i).kind ++ wrN n X (nodA X i).b ((lineK (nodA X i).kind : Int) + 1)))
def sgT : List Sgn := [⟨[45], 8⟩, ⟨[110, 111, 116, 32], 3⟩, ⟨[32, 42, 32], 7⟩, ⟨[32, 43, 32], 6⟩, ⟨[32, 45, 32], 6⟩, ⟨[32, 60, 60, 32], 5⟩, ⟨[32, 62, 62, 32], 5⟩, ⟨[32, 60, 32], 4⟩, ⟨[32, 60, 61, 32], 4⟩, ⟨[32, 62, 32], 4⟩, ⟨[32, 62, 61, 32], 4⟩, ⟨[32, 61, 32], 4⟩, ⟨[32, 33, 61, 32], 4⟩, ⟨[32, 97, 110, 100, 32], 2⟩, ⟨[32, 111, 114, 32], 1⟩]
def sgA (k : Int) : Sgn := sgT.getD (u8 (k - 5)).toNat default
end Go.Proofs.YtgpoaohglpecgaaGreatDoor
namespace Go.Proofs.YtgpoaohglpecgaaGreatDoor
open Go.Am Go.Shelf Go
set_option maxRecDepth 100000
variable {B : Nat → Option Obj}
structure WrIn (k : Nat) (X : List Nod) (i : Int) : Prop where
  i0 : 0 ≤ i
  i1 : i < X.length
  k1 : 1 ≤ (nodA X i).kind
  k19 : (nodA X i).kind ≤ 19
  n : rng64 (nodA X i).n = true
  p : 4 < (nodA X i).kind → (bif decide ((nodA X i).kind ≤ 6) then okX k X (nodA X i).a else okX k X (nodA X i).a && okX k X (nodA X i).b) = true
end Go.Proofs.YtgpoaohglpecgaaGreatDoor
namespace Go.Proofs.YtgpoaohglpecgaaGreatDoor
open Go.Am Go.Shelf Go
set_option maxRecDepth 100000
variable {B : Nat → Option Obj}
end Go.Proofs.YtgpoaohglpecgaaGreatDoor
namespace Go.Proofs.YtgpoaohglpecgaaGreatDoor
open Go.Am Go.Shelf Go
set_option maxRecDepth 100000
variable {B : Nat → Option Obj}
end Go.Proofs.YtgpoaohglpecgaaGreatDoor
namespace Go.Proofs.YtgpoaohglpecgaaGreatDoor
open Go.Am Go.Shelf Go
set_option maxRecDepth 100000
variable {B : Nat → Option Obj}
theorem dec_cast (a b : Nat) : decide ((a : Int) < (b : Int)) = decide (a < b) := by congr 1; exact propext ⟨fun h => by omega, fun h => by omega⟩
theorem leftI_is (k : Int) : leftI k = (leftL k : Int) := by
  unfold leftI leftL
  by_cases h : lineK k = 4
  · rw [decide_eq_true h, decide_eq_true (show (lineK k : Int) = 4 by omega)]; rfl
  · rw [decide_eq_false h, decide_eq_false (show ¬ (lineK k : Int) = 4 by omega)]; rfl
theorem wrN_flat : ∀ (e : Ex) (n : Nat) (pre post : List Nod) (m : Nat), e.ok = true → e.depth ≤ n →
    wrN n (pre ++ (e.flat pre.length ++ post)) ((pre.length : Int) + e.size - 1) (m : Int) = pcsS (e.pcs false [] m)
  | e, 0, _, _, _, _, h => by have := e.depth_pos; omega
  | .leaf k a q, n + 1, pre, post, m, hok, _ => by
    have hok := of_decide_eq_true hok
    have hx : nodA (pre ++ ((Ex.leaf k a q).flat pre.length ++ post)) ((pre.length : Int) + (Ex.leaf k a q).size - 1) = ⟨k, a, 0, 0, q⟩ := by
      rw [show (pre.length : Int) + (Ex.leaf k a q).size - 1 = (pre.length : Int) from by simp [Ex.size]]
      exact nodA_mid pre _ post
    unfold wrN Ex.pcs
    rw [hx]
    by_cases h1 : k = 1
    · rw [decide_eq_true h1]; simp [pcsS]
    · rw [decide_eq_false h1, decide_eq_true (show k ≤ 4 by omega)]; simp [pcsS]
  | .un k q e, n + 1, pre, post, m, hok, hd => by
    obtain ⟨k1, k2, ho⟩ := Ex.ok_un hok
    have hp := e.size_pos
    have hl : pre ++ ((Ex.un k q e).flat pre.length ++ post) = pre ++ (e.flat pre.length ++ (⟨k, 0, (pre.length : Int) + e.size - 1, 0, q⟩ :: post)) := by simp [Ex.flat]
    have hx : nodA (pre ++ (e.flat pre.length ++ (⟨k, 0, (pre.length : Int) + e.size - 1, 0, q⟩ :: post))) ((pre.length : Int) + (Ex.un k q e).size - 1) = ⟨k, 0, (pre.length : Int) + e.size - 1, 0, q⟩ := by
      have := nodA_mid (pre ++ e.flat pre.length) ⟨k, 0, (pre.length : Int) + e.size - 1, 0, q⟩ post
      rw [List.append_assoc, List.length_append, Ex.flat_len] at this
      rw [show (pre.length : Int) + (Ex.un k q e).size - 1 = ((pre.length + e.size : Nat) : Int) from by simp only [Ex.size]; omega]
      exact this
    have i8 := wrN_flat e n pre (⟨k, 0, (pre.length : Int) + e.size - 1, 0, q⟩ :: post) 8 ho (by simp only [Ex.depth] at hd; omega)
    have i3 := wrN_flat e n pre (⟨k, 0, (pre.length : Int) + e.size - 1, 0, q⟩ :: post) 3 ho (by simp only [Ex.depth] at hd; omega)
    have i8 : wrN n (pre ++ (e.flat pre.length ++ (⟨k, 0, (pre.length : Int) + e.size - 1, 0, q⟩ :: post))) ((pre.length : Int) + e.size - 1) 8 = _ := i8
    have i3 : wrN n (pre ++ (e.flat pre.length ++ (⟨k, 0, (pre.length : Int) + e.size - 1, 0, q⟩ :: post))) ((pre.length : Int) + e.size - 1) 3 = _ := i3
    rw [hl]
    unfold wrN Ex.pcs
    rw [hx]
    simp only
    rw [decide_eq_false (show ¬ k = 1 by omega), decide_eq_false (show ¬ k ≤ 4 by omega), pcsS_brk, cond_false, cond_false, dec_cast, i8, i3]
    by_cases h5 : k = 5
    · rw [decide_eq_true h5]
      simp [pcsS, subL]
    · rw [decide_eq_false h5, decide_eq_true (show k = 6 by omega)]
      simp [pcsS, pcs_gapS false e [32], subL, notT]
  | .bin k q a b, n + 1, pre, post, m, hok, hd => by
    obtain ⟨k1, k2, oa, ob⟩ := Ex.ok_bin hok
    have hp := a.size_pos
    have hq := b.size_pos
    simp only [Ex.depth] at hd
    have hl : pre ++ ((Ex.bin k q a b).flat pre.length ++ post) = pre ++ (a.flat pre.length ++ (b.flat ((pre.length : Int) + a.size) ++ (⟨k, 0, (pre.length : Int) + a.size - 1, (pre.length : Int) + a.size + b.size - 1, q⟩ :: post))) := by simp [Ex.flat]
    have hx : nodA (pre ++ (a.flat pre.length ++ (b.flat ((pre.length : Int) + a.size) ++ (⟨k, 0, (pre.length : Int) + a.size - 1, (pre.length : Int) + a.size + b.size - 1, q⟩ :: post)))) ((pre.length : Int) + (Ex.bin k q a b).size - 1) = ⟨k, 0, (pre.length : Int) + a.size - 1, (pre.length : Int) + a.size + b.size - 1, q⟩ := by
      have := nodA_mid (pre ++ (a.flat pre.length ++ b.flat ((pre.length : Int) + a.size))) ⟨k, 0, (pre.length : Int) + a.size - 1, (pre.length : Int) + a.size + b.size - 1, q⟩ post
      rw [List.append_assoc, List.append_assoc, List.length_append, List.length_append, Ex.flat_len, Ex.flat_len] at this
      rw [show (pre.length : Int) + (Ex.bin k q a b).size - 1 = ((pre.length + (a.size + b.size) : Nat) : Int) from by simp only [Ex.size]; omega]
      exact this
    have i1 := wrN_flat a n pre (b.flat ((pre.length : Int) + a.size) ++ (⟨k, 0, (pre.length : Int) + a.size - 1, (pre.length : Int) + a.size + b.size - 1, q⟩ :: post)) (leftL k) oa (by omega)
    have j1 := wrN_flat b n (pre ++ a.flat pre.length) (⟨k, 0, (pre.length : Int) + a.size - 1, (pre.length : Int) + a.size + b.size - 1, q⟩ :: post) (lineK k + 1) ob (by omega)
    rw [List.length_append, Ex.flat_len, Int.natCast_add, List.append_assoc] at j1
    rw [hl]
    unfold wrN Ex.pcs
    rw [hx]
    simp only
    rw [decide_eq_false (show ¬ k = 1 by omega), decide_eq_false (show ¬ k ≤ 4 by omega), decide_eq_false (show ¬ k = 5 by omega), decide_eq_false (show ¬ k = 6 by omega), pcsS_brk, cond_false, cond_false, cond_false, cond_false, dec_cast, leftI_is, i1, show (lineK k : Int) + 1 = ((lineK k + 1 : Nat) : Int) by omega, j1]
    simp [pcsS, pcsS_app, pcs_gapS false b [32], subL, opS]
def prS (X : List Nod) : List UInt8 := bif decide (chkN X = 0) then wrN 20 X ((X.length : Int) - 1) 0 else []
theorem prS_is {e : Ex} (h : e.ok = true) (hc : chkN (e.flat 0) = 0) : prS (e.flat 0) = e.txt false := by
  have hs := chk_ok h hc
  have := wrN_flat e 20 [] [] 0 h hs.2
  simp only [List.nil_append, List.append_nil, List.length_nil] at this
  rw [show ((0 : Nat) : Int) + (e.size : Int) - 1 = (e.size : Int) - 1 by omega] at this
  unfold prS
  rw [decide_eq_true hc, cond_true, Ex.flat_len]
  exact this
end Go.Proofs.YtgpoaohglpecgaaGreatDoor
