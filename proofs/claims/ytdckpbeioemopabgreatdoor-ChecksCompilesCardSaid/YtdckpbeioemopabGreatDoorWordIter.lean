/-
  Chars: the iterator of strings.FieldsSeq, on ASCII bytes: walked.
-/
import Derived.RangeFuncNested
import Derived.RangeFuncLeaves
import Derived.Shelf.Abstract
import Derived.WalkKit
import Derived.OwnWalkIn
import Derived.TacticsInMore
import Derived.LoopNIn
import Derived.LoopIn
import Derived.Lib.FieldsLaws
import Derived.Deep.LoopGhost
import Derived.Test.YtdckpbeioemopabGreatDoorProg
namespace Go.Proofs.YtdckpbeioemopabGreatDoor
open Go.RowKit Go.Shelf Go.Lib
attribute [local go_sem] Oper.semAt_some
def mkS (l : List UInt8) : ByteArray := ⟨l.toArray⟩
def words (s : ByteArray) : List ByteArray := (fields s.data.toList).map mkS
def curOf (s : ByteArray) (i : Nat) : Option Nat → List UInt8
  | none => []
  | some b => (s.data.toList.drop b).take (i - b)
def stV : Option Nat → Value
  | none => .int .i64 (-1)
  | some b => .int .i64 b
def restOf (s : ByteArray) (i : Nat) (st : Option Nat) : List ByteArray := (fieldsGo (curOf s i st) (s.data.toList.drop i)).map mkS
def spTab (W : World) : Prop := ∀ c : Nat, c < 256 → W.cell? ⟨0, c, none⟩ = some (.int .u8 (if isSp (UInt8.ofNat c) then 1 else 0))
def KpB (Bn : Nat) (A B : World) : Prop := B.heap[Bn]? = A.heap[Bn]? ∧ B.heap[0]? = A.heap[0]?
theorem cell_same {A B : World} {k : Nat} (h : B.heap[k]? = A.heap[k]?) (j : Nat) : B.cell? ⟨k, j, none⟩ = A.cell? ⟨k, j, none⟩ := by
  unfold World.cell?
  simp only [h]
theorem spTab.kept {Bn : Nat} {A B : World} (h : KpB Bn A B) (ht : spTab A) : spTab B := fun c hc => (cell_same h.2 c).trans (ht c hc)
theorem KpB.t {Bn : Nat} {A B C : World} (h : KpB Bn A B) (k : KpB Bn B C) : KpB Bn A C := ⟨k.1.trans h.1, k.2.trans h.2⟩
theorem mkS_piece (s : ByteArray) (b i : Nat) : mkS ((s.data.toList.drop b).take (i - b)) = s.extract b i := by
  apply ByteArray.ext
  apply Array.ext'
  rw [Lib.extract_data]; rfl
set_option maxRecDepth 100000 in
set_option maxHeartbeats 4000000 in
theorem seq_in (F : Fence) (n : Nat) (h1 : F.fn 161) (hro : F.round = none) (hn : 1 ≤ n) (l Bn : Nat) (s : ByteArray) (hs : s.size < 4294967281) (hascii : ∀ (j : Nat) b, s.data.toList[j]? = some b → b.toNat < 128) (J Jx : List ByteArray → World → Prop)
    (hY : ∀ pre x W, J pre W → pre.length < (words s).length → YieldAt F (n - 1) Tryz.prog l #[.string x] W fun e W' =>
      (e = .returned (.bool true) ∧ J (pre ++ [x]) W' ∧ KpB Bn W W') ∨ (e = .returned (.bool false) ∧ Jx (pre ++ [x]) W'))
    (W : World) (hB : W.cell? ⟨Bn, 0, none⟩ = some (.string s)) (hT : spTab W) (h0 : J [] W) :
    CallsIn F n Tryz.prog 161 #[.func (.yield l) #[] #[], .pointer (some ⟨Bn, 0, none⟩)] W fun e W' => (∃ v, e = .returned v) ∧
      ((∃ ys, ys = words s ∧ J ys W') ∨ (∃ pre, pre <+: words s ∧ Jx pre W')) := by
  refine callsIn_of_wp Tryz.func161 rfl h1 ?_ hro
  simp only [Tryz.ntmps161, List.size_toArray, List.length_cons, List.length_nil, Nat.reduceAdd, Nat.reduceSub, Array.replicate_succ, Array.replicate_zero, List.push_toArray, List.append_toArray, List.nil_append, List.cons_append]
  gi_wp2
  gi_loopw [3, 4] (fun p q wr => ∃ (pre : List ByteArray) (i : Nat) (st : Option Nat), p = stV st ∧ q = .int .i64 i ∧ i ≤ s.size ∧ (∀ b, st = some b → b < i) ∧ words s = pre ++ restOf s i st ∧ wr.cell? ⟨Bn, 0, none⟩ = some (.string s) ∧ spTab wr ∧ J pre wr)
    (fun _ q _ => s.size - (intOf q).toNat)
  case atStart => exact ⟨[], 0, none, rfl, rfl, Nat.zero_le _, (fun _ h => by cases h), rfl, hB, hT, h0⟩
  case round =>
    obtain ⟨pre, i, st, rfl, rfl, hi, hst, hw, hBr, hTr, hJs⟩ := hrel
    have hlen : s.data.toList.length = s.size := (Lib.size_eq s).symm
    by_cases hin : i < s.size
    · have hiz : (i : Int) < (s.size : Int) := by omega
      obtain ⟨x, hx⟩ : ∃ x : UInt8, s[i] = x := ⟨_, rfl⟩
      have hxl : s.data.toList[i]? = some x := by rw [← hx]; exact Lib.data_getElem? s i hin
      have hx128 : x.toNat < 128 := hascii i x hxl
      have hxz : (x.toNat : Int) < 256 := by omega
      have hxn : ¬ (128 : Int) ≤ (x.toNat : Int) := by omega
      have hTx : wr.cell? ⟨0, x.toNat, none⟩ = some (.int .u8 (if Lib.isSp x then 1 else 0)) := by have := hTr x.toNat (by omega); simpa using this
      have HW : Aside (words s = pre ++ restOf s i st) := hw
      have Hx : Aside (s.data.toList[i]? = some x) := hxl
      have HA : Aside (∀ (j : Nat) b, s.data.toList[j]? = some b → b.toNat < 128) := hascii
      have HT : Aside (spTab wr) := hTr
      clear hw hxl hascii hTr
      cases hsx : Lib.isSp x <;> rw [hsx] at hTx <;> simp only [if_true, Bool.false_eq_true, if_false] at hTx
      · cases st with
        | none =>
          simp only [stV]
          gi_wp2
          go_roundw
          case rel =>
            refine ⟨pre, i + 1, some i, rfl, by first | rfl | simp, by omega, (fun b h => by cases h; omega), ?_, hBr, HT.out, hJs⟩
            rw [HW.out]
            show pre ++ List.map mkS (fieldsGo [] (s.data.toList.drop i)) = pre ++ List.map mkS (fieldsGo ((s.data.toList.drop i).take (i + 1 - i)) (s.data.toList.drop (i + 1)))
            rw [show i + 1 - i = 1 from by omega, Lib.drop_at Hx.out, Lib.fieldsGo_more _ _ _ hsx]; rfl
          case measure => simp [intOf]; omega
        | some b =>
          have hb := hst b rfl
          simp only [stV]
          gi_wp2
          go_roundw
          case rel =>
            refine ⟨pre, i + 1, some b, rfl, by first | rfl | simp, by omega, (fun c h => by cases h; omega), ?_, hBr, HT.out, hJs⟩
            rw [HW.out]; unfold restOf curOf
            simp only
            rw [Lib.piece_more (by omega) Hx.out, Lib.drop_at Hx.out, Lib.fieldsGo_more _ _ _ hsx]
          case measure => simp [intOf]; omega
      · cases st with
        | none =>
          simp only [stV]
          gi_wp2
          go_roundw
          case rel =>
            refine ⟨pre, i + 1, none, rfl, by first | rfl | simp, by omega, (fun b h => by cases h), ?_, hBr, HT.out, hJs⟩
            rw [HW.out]; unfold restOf curOf
            rw [Lib.drop_at Hx.out, Lib.fieldsGo_sp _ _ hsx]
          case measure => simp [intOf]; omega
        | some b =>
          have hb := hst b rfl
          have hw2 : words s = (pre ++ [s.extract b i]) ++ restOf s (i + 1) none := by
            rw [HW.out]; unfold restOf curOf
            simp only
            rw [Lib.drop_at Hx.out, Lib.fieldsGo_end _ _ _ hsx (Lib.piece_ne hb (by omega))]
            simp only [List.map_cons, List.append_assoc, List.cons_append, List.nil_append]
            rw [mkS_piece]
          have HW2 : Aside (words s = (pre ++ [s.extract b i]) ++ restOf s (i + 1) none) := hw2
          have hlt : pre.length < (words s).length := by rw [hw2]; simp
          clear hw2
          obtain ⟨fn, tmps, assign, body, hy, hR⟩ := hY pre (s.extract b i) wr hJs hlt
          have c1 : (b : Int) ≤ (i : Int) := by omega
          have c2 : (i : Int) ≤ (s.size : Int) := by omega
          simp only [stV]
          gi_wp2
          refine hR.mono ?_
          rintro e W3 (⟨rfl, hJ3, hk3⟩ | ⟨rfl, hJx3⟩)
          · gi_wp2
            go_roundw
            case rel => exact ⟨pre ++ [s.extract b i], i + 1, none, rfl, by first | rfl | simp, by omega, (fun b h => by cases h), HW2.out, (cell_same hk3.1 0).trans hBr, HT.out.kept hk3, hJ3⟩
            case measure => simp [intOf]; omega
          · gi_wp2
            refine bodyPost_ret (results_none rfl _ _ _) rfl ?_
            exact ⟨⟨_, rfl⟩, .inr ⟨pre ++ [s.extract b i], ⟨restOf s (i + 1) none, HW2.out.symm⟩, hJx3⟩⟩
    · obtain rfl : i = s.size := by omega
      have hiz : ¬ ((s.size : Int) < (s.size : Int)) := by omega
      unfold restOf at hw
      rw [show s.data.toList.drop s.size = [] from by rw [← hlen, List.drop_length]] at hw
      cases st with
      | none =>
        have hw2 : Aside (words s = pre) := by show words s = pre; rw [hw]; simp [curOf, fieldsGo]
        clear hw
        simp only [stV]
        gi_wp2
        go_end0
        first
          | exact ⟨⟨_, rfl⟩, .inl ⟨pre, hw2.out.symm, hJs⟩⟩
          | exact ⟨⟨_, rfl⟩, .inl (by rw [hw2.out]; exact hJs)⟩
      | some b =>
        have hb := hst b rfl
        have hne := Lib.piece_ne (l := s.data.toList) hb (by omega)
        have e1 : Lib.fieldsGo ((s.data.toList.drop b).take (s.size - b)) [] = [(s.data.toList.drop b).take (s.size - b)] := by
          cases hc : (s.data.toList.drop b).take (s.size - b) with
          | nil => exact absurd hc hne
          | cons _ _ => rfl
        have hw2 : words s = pre ++ [s.extract b s.size] := by
          rw [hw]; unfold curOf
          simp only
          rw [e1, List.map_cons, List.map_nil, mkS_piece]
        have HW2 : Aside (words s = pre ++ [s.extract b s.size]) := hw2
        have hlt : pre.length < (words s).length := by rw [hw2]; simp
        clear hw hw2 e1 hne
        obtain ⟨fn, tmps, assign, body, hy, hR⟩ := hY pre (s.extract b s.size) wr hJs hlt
        have c1 : (b : Int) ≤ (s.size : Int) := by omega
        simp only [stV]
        gi_wp2
        refine hR.mono ?_
        rintro e W3 (⟨rfl, hJ3, hk3⟩ | ⟨rfl, hJx3⟩)
        · gi_wp2
          go_end0
          exact ⟨⟨_, rfl⟩, .inl ⟨_, HW2.out.symm, hJ3⟩⟩
        · gi_wp2
          go_end0
          exact ⟨⟨_, rfl⟩, .inr ⟨_, ⟨[], by rw [List.append_nil]; exact HW2.out.symm⟩, hJx3⟩⟩
theorem fs_in (F : Fence) (n : Nat) (h1 : F.fn 131) (hro : F.round = none) (s : ByteArray) (w : World) :
    CallsIn F n Tryz.prog 131 #[.string s] w fun e w' => e = .returned (.func (.func 161) #[] #[.pointer (some ⟨w.heap.size, 0, none⟩)]) ∧ w' = w.alloc (.cells #[.string s] 9) := by
  refine callsIn_of_wp Tryz.func131 rfl h1 ?_ hro
  simp only [Tryz.ntmps131, List.size_toArray, List.length_cons, List.length_nil, Nat.reduceAdd, Nat.reduceSub, Array.replicate_succ, Array.replicate_zero, List.push_toArray, List.append_toArray, List.nil_append, List.cons_append]
  gi_wp2
  go_ret
  exact ⟨rfl, rfl⟩
theorem fs_stops (F : Fence) (n : Nat) (h1 : F.fn 161) (hro : F.round = none) (hn : 1 ≤ n) (Bn : Nat) (s : ByteArray) (hs : s.size < 4294967281) (hascii : ∀ (j : Nat) b, s.data.toList[j]? = some b → b.toNat < 128) (w : World) (hBn : Bn < w.heap.size) (hc : w.cell? ⟨Bn, 0, none⟩ = some (.string s)) (hT : spTab w) :
    SeqStopsK F n Tryz.prog 161 #[.pointer (some ⟨Bn, 0, none⟩)] (fun x : ByteArray => #[Value.string x]) (KpB Bn) (fun ys => ys = words s) (fun pre => pre <+: words s) (words s).length w := fun l J Jx W hW _ _ hY h0 =>
  seq_in F n h1 hro hn l Bn s hs hascii J Jx hY W ((hW.cell (p := ⟨Bn, 0, none⟩) hBn).trans hc) (fun c hcc => (hW.cell (p := ⟨0, c, none⟩) (World.block_lt_of_cell? _ _ (hT c hcc))).trans (hT c hcc)) h0
end Go.Proofs.YtdckpbeioemopabGreatDoor
