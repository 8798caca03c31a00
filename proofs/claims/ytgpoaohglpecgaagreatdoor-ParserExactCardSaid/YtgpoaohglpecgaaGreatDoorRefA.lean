/-
  Texts put together: RefInt, RefWr, RefWr2, RefTd, RefTd2.
-/
import Derived.Test.YtgpoaohglpecgaaGreatDoorNodBase
import Derived.Test.YtgpoaohglpecgaaGreatDoorPureA
import Derived.Shelf.Strconv.Itoa4
import Derived.Test.YtgpoaohglpecgaaGreatDoorPrtP
import Derived.Test.YtgpoaohglpecgaaGreatDoorClsA
namespace Go.Proofs.YtgpoaohglpecgaaGreatDoor.R1
open Go.Am Go.Shelf
set_option maxRecDepth 100000
variable {B : Nat → Option Obj}
def fails (p : Bool) : Bool := bif p then false else true
def rs (s : List UInt8) : Option Out := some ⟨[.str s], []⟩
theorem itoa_step {n : Int} (h : Rng n) :
    (n.tmod 10 < 0 → byteList [IntKind.u8.wrap (w64 (48 + w64 (0 - n.tmod 10)))] = [UInt8.ofNat (48 + n.natAbs % 10)]) ∧ (¬ n.tmod 10 < 0 → byteList [IntKind.u8.wrap (w64 (48 + n.tmod 10))] = [UInt8.ofNat (48 + n.natAbs % 10)]) ∧
    w64 (n.tdiv 10) = n.tdiv 10 ∧ (n.tdiv 10).natAbs = n.natAbs / 10 ∧ (n.tdiv 10 ≠ 0 → (n.tdiv 10 < 0 ↔ n < 0)) := by
  unfold Rng at h
  have key : ∀ m : Int, 0 ≤ m → m ≤ 9 → byteList [IntKind.u8.wrap (w64 (48 + m))] = [UInt8.ofNat (48 + m.toNat)] := by
    intro m h0 h1
    rw [w64_rng (by unfold Rng; omega)]
    have e : IntKind.u8.wrap (48 + m) = 48 + m := by simp [IntKind.wrap, IntKind.bits, IntKind.signed]; omega
    rw [e]
    simp only [byteList, List.map_cons, List.map_nil]
    congr 2; omega
  rcases Int.lt_or_le n 0 with h0 | h0
  · obtain ⟨m, rfl⟩ : ∃ m : Int, n = -m := ⟨-n, by omega⟩
    rw [Int.neg_tmod, Int.neg_tdiv, Int.tmod_eq_emod_of_nonneg (by omega), Int.tdiv_eq_ediv_of_nonneg (by omega)]
    refine ⟨fun _ => ?_, fun hn => ?_, w64_rng (by unfold Rng; omega), by omega, by omega⟩
    · rw [show (0 : Int) - -(m % 10) = m % 10 from by omega, show w64 (m % 10) = m % 10 from w64_rng (by unfold Rng; omega), key _ (by omega) (by omega)]
      congr 2; omega
    · rw [show -(m % 10) = 0 from by omega, key _ (by omega) (by omega)]
      congr 2; omega
  · rw [Int.tmod_eq_emod_of_nonneg h0, Int.tdiv_eq_ediv_of_nonneg h0]
    refine ⟨fun hn => by omega, fun _ => ?_, w64_rng (by unfold Rng; omega), by omega, by omega⟩
    rw [key _ (by omega) (by omega)]
    congr 2; omega
theorem itoa_big {n : Int} (h : ¬ n.natAbs < 10) (hd : (n.tdiv 10).natAbs = n.natAbs / 10) (hs : n.tdiv 10 < 0 ↔ n < 0) : Lib.itoa n = Lib.itoa (n.tdiv 10) ++ [UInt8.ofNat (48 + n.natAbs % 10)] := by
  unfold Lib.itoa
  by_cases h0 : n < 0
  · rw [if_pos h0, if_pos (hs.2 h0), dec_big h, hd]; rfl
  · have h1 : ¬ n.tdiv 10 < 0 := fun h => h0 (hs.1 h)
    rw [if_neg h0, if_neg h1, show n.toNat = n.natAbs from by omega, dec_big h, ← hd, show (n.tdiv 10).toNat = (n.tdiv 10).natAbs from by omega]
theorem itoa_small {n : Int} (h : n.natAbs < 10) : Lib.itoa n = if n < 0 then [45, UInt8.ofNat (48 + n.natAbs % 10)] else [UInt8.ofNat (48 + n.natAbs % 10)] := by
  unfold Lib.itoa
  rw [Nat.mod_eq_of_lt h]
  split
  · rw [dec_small h]
  · rw [show n.toNat = n.natAbs from by omega, dec_small h]
end Go.Proofs.YtgpoaohglpecgaaGreatDoor.R1
namespace Go.Proofs.YtgpoaohglpecgaaGreatDoor
open Go.Am Go
set_option maxRecDepth 100000
variable {B : Nat → Option Obj}
def gW (k : Nat) (X : List Nod) (i m : Int) : Bool := okX k X i && (rngX X && decide ((wrN k X i m).length ≤ 100000))
def kIn (k : Int) (z : Option Out) : Option Out := bif decide (1 ≤ k ∧ k ≤ 19) then z else none
end Go.Proofs.YtgpoaohglpecgaaGreatDoor
namespace Go.Proofs.YtgpoaohglpecgaaGreatDoor
open Go.Am Go
set_option maxRecDepth 100000
variable {B : Nat → Option Obj}
def fldL : List (List UInt8) := [[107], [116], [118]]
def subR (k : Nat) (X : List Nod) (j m : Int) (f : List UInt8 → Option Out) : Option Out := bif decide (m ≤ 9) && gW k X j m then f (wrN k X j m) else none
def binR (k : Nat) (X : List Nod) (x : Nod) (l : Int) : Option Out := subR k X x.a l fun s => catO s [32] fun u => inb' (u8 (x.kind - 7)) sgnL.length (catO u (sgnL.getD (u8 (x.kind - 7)).toNat []) fun v => catO v [32] fun w => subR k X x.b (w64 ((lineK x.kind : Int) + 1)) fun s' => catO w s' strO)
def wrR (k : Nat) (X : List Nod) (x : Nod) : Option Out := kIn x.kind (bif decide (x.kind = 1) then (bif decide (Rng x.n) then strO (Lib.itoa x.n) else none) else bif decide ((lineK x.kind : Int) = 9) then inb' (u8 (x.kind - 2)) fldL.length (strO (fldL.getD (u8 (x.kind - 2)).toNat []))
  else bif decide ((lineK x.kind : Int) = 8) then subR k X x.a 8 (fun s => catO [45] s strO) else bif decide ((lineK x.kind : Int) = 3) then subR k X x.a 3 (fun s => catO [110, 111, 116, 32] s strO)
  else bif decide ((lineK x.kind : Int) = 4) then binR k X x 5 else binR k X x (lineK x.kind : Int))
end Go.Proofs.YtgpoaohglpecgaaGreatDoor
namespace Go.Proofs.YtgpoaohglpecgaaGreatDoor
open Go.Am Go
set_option maxRecDepth 100000
variable {B : Nat → Option Obj}
def nmL : List (List UInt8) := [[97], [98], [99], [100]]
def nmS (n : Int) : List UInt8 := nmL.getD n.toNat []
def nameO (_ e : Int) (s : List UInt8) : Option Out := some ⟨[.str s, i64 e], []⟩
theorem tNm (n : Int) : runT B lib5 Tryz.f69 [.int .i64 n] [] = bif decide (n < 0) then nameO n 2 [] else bif decide (4 ≤ n) then nameO n 2 [] else bif decide (0 ≤ n ∧ n ≤ w64 (n + 1) ∧ w64 (n + 1) ≤ (([97, 98, 99, 100] : List UInt8).length : Int)) then nameO n 0 ((([97, 98, 99, 100] : List UInt8).take (w64 (n + 1)).toNat).drop n.toNat) else none := by kernel_rfl
def sNm : FSpec
  | [.int .i64 n], [] => .node (inR n) (.leaf ⟨[.str (nmS n), .int .i64 0], []⟩) .bad
  | _, _ => .bad
theorem inR_of {n : Int} (h : inR n = true) : 0 ≤ n ∧ n ≤ 3 := by
  unfold inR at h
  rw [Bool.and_eq_true, decide_eq_true_eq, decide_eq_true_eq] at h
  exact h
theorem nm_txt : ∀ k : Fin 4, (([97, 98, 99, 100] : List UInt8).take ((k.val : Int) + 1).toNat).drop (k.val : Int).toNat = nmS k.val := by decide +kernel
theorem okNm : FnOk (E0 B) 69 sNm := by
  refine fnT lib5_ok Tryz.func69 (by kernel_rfl) (by kernel_rfl) fun vs bs r h => ?_
  unfold sNm at h
  split at h
  · rename_i n
    rcases T.node_sel h with ⟨hc, h2⟩ | ⟨_, h2⟩
    · simp only [T.sel, Option.some.injEq] at h2; subst h2
      obtain ⟨n0, n3⟩ := inR_of hc
      refine (tNm n).trans ?_
      have h1 := nm_txt ⟨n.toNat, by omega⟩
      have e : ((n.toNat : Nat) : Int) = n := by omega
      simp only [e] at h1
      have hw : w64 (n + 1) = n + 1 := w64_rng (by unfold Rng; omega)
      rw [hw, h1, decide_eq_false (show ¬ n < 0 by omega), decide_eq_false (show ¬ 4 ≤ n by omega), decide_eq_true (show 0 ≤ n ∧ n ≤ n + 1 ∧ n + 1 ≤ (([97, 98, 99, 100] : List UInt8).length : Int) from ⟨n0, by omega, by show n + 1 ≤ 4; omega⟩)]; rfl
    · simp [T.sel] at h2
  · simp [T.sel] at h
def qTy : List TypeId := [5, 29, 30, 4, 29, 5, 2, 2, 4, 5]
def qBx (q : Qry) (a b c : Nat) : Blk := ⟨true, .gen qTy [(q.av a b c).cells]⟩
def qBs (q : Qry) : List Blk := [qBx q 1 2 3, ⟨false, .nodes q.arg⟩, ⟨false, .ints .i64 q.src⟩, ⟨false, .nodes q.whr⟩]
def cat9 {α : Type} (a b : List UInt8) (f : List UInt8 → Option α) : Option α := bif decide (a.length + b.length ≤ lim) then f (a ++ b) else none
theorem cat9_in {α : Type} {a b : List UInt8} (h : a.length + b.length ≤ 1000000) (f : List UInt8 → Option α) : cat9 a b f = f (a ++ b) := by
  unfold cat9
  rw [decide_eq_true (show a.length + b.length ≤ lim by simp only [lim]; omega)]; rfl
def sGt (q : Qry) (i : Int) : Int := q.src.getD i.toNat 0
def srcT (bt : List UInt8) : List UInt8 → List Int → List UInt8
  | s, [] => s
  | s, x :: r => srcT bt (s ++ bt ++ nmS x) r
def srcF (bt : List UInt8) (s : List UInt8) : List Int → List UInt8
  | [] => s
  | x :: r => srcT bt (s ++ nmS x) r
theorem nmS_len (n : Int) : (nmS n).length ≤ 1 := by
  unfold nmS nmL
  rcases n.toNat with _ | _ | _ | _ | k <;> simp [List.getD]
theorem srcT_len {bt : List UInt8} : ∀ (r : List Int) (s : List UInt8), (srcT bt s r).length ≤ s.length + r.length * (bt.length + 1)
  | [], s => by simp [srcT]
  | x :: r, s => by
    unfold srcT
    have h1 := srcT_len (bt := bt) r (s ++ bt ++ nmS x)
    have h2 := nmS_len x
    simp only [List.length_append, List.length_cons] at h1 ⊢
    rw [Nat.add_mul, Nat.one_mul]
    omega
end Go.Proofs.YtgpoaohglpecgaaGreatDoor
namespace Go.Proofs.YtgpoaohglpecgaaGreatDoor
open Go.Am Go
set_option maxRecDepth 100000
variable {B : Nat → Option Obj}
def agL : List (List UInt8) := [[99, 111, 117, 110, 116], [115, 117, 109], [109, 105, 110], [109, 97, 120]]
def tdL (lt : Int) (s : List UInt8) : Option Out := bif decide (lt = 2) then cat9 s [32, 108, 97, 116, 101, 32, 115, 105, 100, 101] strO else strO s
def agT (k : Int) : List UInt8 := agL.getD (u8 (k - 1)).toNat []
def btT (j : Bool) : List UInt8 := bif j then [32, 106, 111, 105, 110, 32] else [32, 117, 110, 105, 111, 110, 32]
def evT (q : Qry) : List UInt8 := bif decide (q.wk = 2) then [32, 101, 118, 101, 114, 121, 32] ++ Lib.itoa q.we else []
def bkT (q : Qry) : List UInt8 := bif q.byKey then [32, 98, 121, 32, 107, 101, 121] else []
def ltT (q : Qry) : List UInt8 := bif decide (q.late = 2) then [32, 108, 97, 116, 101, 32, 115, 105, 100, 101] else []
theorem ag_in : ∀ k : Fin 5, 1 ≤ k.val → (0 ≤ u8 ((k.val : Int) - 1) ∧ u8 ((k.val : Int) - 1) < 4) ∧ (agT k.val).length ≤ 10 := by decide +kernel
theorem ag_of {k : Int} (h1 : 1 ≤ k) (h2 : k ≤ 4) : (0 ≤ u8 (k - 1) ∧ u8 (k - 1) < 4) ∧ (agT k).length ≤ 10 := by
  have h3 := ag_in ⟨k.toNat, by omega⟩ (by simp only; omega)
  have e : ((k.toNat : Nat) : Int) = k := by omega
  simp only [e] at h3
  exact h3
structure QOk (q : Qry) : Prop where
  a1 : 1 ≤ q.agg
  a4 : q.agg ≤ 4
  arg : q.agg ≠ 1 → chkN q.arg = 0
  rA : rngX q.arg = true
  whr : 0 < q.whr.length → chkN q.whr = 0
  rW : rngX q.whr = true
  s4 : q.src.length ≤ 4
  s0 : 0 < q.src.length
  sR : q.src.all inR = true
  k1 : 1 ≤ q.wk
  k3 : q.wk ≤ 3
  ws : Rng q.ws
  we : Rng q.we
theorem bt_len (j : Bool) : (btT j).length ≤ 7 := by cases j <;> decide
theorem srcF_len (bt s : List UInt8) (L : List Int) (hL : L.length ≤ 4) (hb : bt.length ≤ 7) : (srcF bt s L).length ≤ s.length + 100 := by
  cases L with
  | nil => show s.length ≤ _; omega
  | cons x r =>
    have h1 := srcT_len (bt := bt) r (s ++ nmS x)
    have h2 := nmS_len x
    simp only [List.length_cons] at hL
    have hm : r.length * (bt.length + 1) ≤ 3 * 8 := Nat.mul_le_mul (by omega) (by omega)
    simp only [List.length_append] at h1
    show (srcT bt (s ++ nmS x) r).length ≤ _
    omega
end Go.Proofs.YtgpoaohglpecgaaGreatDoor
