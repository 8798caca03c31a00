/-
  Texts put together: PrsMake, BackIter, PrsSign, PrsPre.
-/
import Derived.Test.YtdckpbeioemopabGreatDoorNodB
import Derived.Test.YtdckpbeioemopabGreatDoorExA
import Derived.Test.YtdckpbeioemopabGreatDoorWordFn
import Derived.Test.YtdckpbeioemopabGreatDoorNodBase
import Derived.Test.YtdckpbeioemopabGreatDoorLibA
namespace Go.Proofs.YtdckpbeioemopabGreatDoor
open Go.Am
set_option maxRecDepth 100000
variable {B : Nat → Option Obj}
def pTys : List TypeId := [51, 3, 31]
def pB (k : Nat) (at' e : Int) : Blk := ⟨true, .gen pTys [[.slw k, i64 at', i64 e]]⟩
def tkb (L : List Tok) : Blk := ⟨false, .toks L⟩
def pOut (L : List Tok) (at' e : Int) (X : List Nod) : Option Out := some ⟨[.slw 1], [pB 2 at' e, ob X, tkb L]⟩
def mkK (L : List Tok) (at' e tk : Int) (g : Bool) (X : List Nod) : Option Out := bif g then (bif decide (chkN X = 0) then pOut L at' e X else bif !decide (chkN X = 0) then pOut L tk (chkN X) [] else pOut L at' e []) else none
def tkP (L : List Tok) (i : Int) : Int := (L.getD i.toNat default).pos
def mkG (L : List Tok) (at' e tk : Int) (K : Option Out) : Option Out := bif !decide (e = 0) then pOut L at' e [] else inb' tk L.length K
theorem tMake0 (L : List Tok) (k n tk at' e : Int) : runT B lib8 Tryz.f101 [.ptr 0 0 0, .int .u8 k, i64 n, i64 tk, .slw 1] [pB 2 at' e, gb [], tkb L] =
    mkG L at' e tk (mkK L at' e tk (Nat.beq 22 22 && (Ex.leaf k n (tkP L tk)).ok) [⟨k, n, 0, 0, tkP L tk⟩]) := by kernel_rfl
theorem tMake1 (L : List Tok) (X : List Nod) (k tk at' e : Int) : runT B lib8 Tryz.f101 [.ptr 0 0 0, .int .u8 k, i64 0, i64 tk, .slw 1] [pB 2 at' e, gb [[.slw 3]], tkb L, ⟨false, .nodes X⟩] =
    mkG L at' e tk (mkK L at' e tk (Nat.beq 22 22 && (decide (5 ≤ k ∧ k ≤ 6 ∧ 0 ≤ tkP L tk ∧ tkP L tk ≤ 400) && decide (chkN X = 0))) (unL k (tkP L tk) X)) := by kernel_rfl
theorem tMake2 (L : List Tok) (X Y : List Nod) (k tk at' e : Int) : runT B lib8 Tryz.f101 [.ptr 0 0 0, .int .u8 k, i64 0, i64 tk, .slw 1] [pB 2 at' e, gb [[.slw 3], [.slw 4]], tkb L, ⟨false, .nodes X⟩, ⟨false, .nodes Y⟩] =
    mkG L at' e tk (mkK L at' e tk (Nat.beq 22 22 && (decide (7 ≤ k ∧ k ≤ 19 ∧ 0 ≤ tkP L tk ∧ tkP L tk ≤ 400) && (decide (chkN X = 0) && decide (chkN Y = 0)))) (biL k (tkP L tk) X Y)) := by kernel_rfl
def pT (L : List Tok) (at' e : Int) (X : List Nod) : T Out := .leaf ⟨[.slw 1], [⟨true, .gen [51, 3, 31] [[.slw 2, .int .i64 at', .int .i64 e]]⟩, ⟨true, .nodes X⟩, ⟨false, .toks L⟩]⟩
def tysB (a b c : Nat) : Bool := Nat.beq a 51 && (Nat.beq b 3 && Nat.beq c 31)
theorem tysB_is {a b c : Nat} (h : tysB a b c = true) : a = 51 ∧ b = 3 ∧ c = 31 := by
  unfold tysB at h
  simp only [Bool.and_eq_true] at h
  exact ⟨Nat.eq_of_beq_eq_true h.1, Nat.eq_of_beq_eq_true h.2.1, Nat.eq_of_beq_eq_true h.2.2⟩
def mkX (b : Bool) (X : List Nod) : List Nod := bif b then X else []
def mkE (e : Int) (X : List Nod) : Int := bif decide (e = 0) then chkN X else e
def mkA (e at' tk : Int) (X : List Nod) : Int := bif decide (e = 0) then (bif decide (chkN X = 0) then at' else tk) else at'
def mkT (L : List Tok) (at' e tk : Int) (g : Bool) (X : List Nod) : T Out := .node (!decide (e = 0) || (decide (0 ≤ tk ∧ tk < (L.length : Int)) && g)) (pT L (mkA e at' tk X) (mkE e X) (mkX (decide (e = 0) && decide (chkN X = 0)) X)) .bad
theorem mkT_sel {L : List Tok} {at' e tk : Int} {g : Bool} {X : List Nod} {r : Out} (h : (mkT L at' e tk g X).sel = some r) : mkG L at' e tk (mkK L at' e tk g X) = some r := by
  unfold mkT at h
  rcases T.node_sel h with ⟨hc, h2⟩ | ⟨_, h2⟩
  · rw [← h2]
    unfold mkG mkK mkA mkE mkX
    by_cases he : e = 0
    · subst he
      simp only [decide_true, Bool.not_true, Bool.false_or, Bool.and_eq_true] at hc
      have h0 := of_decide_eq_true hc.1
      rw [hc.2, decide_eq_true (show (0 : Int) = 0 from rfl)]
      unfold inb'
      rw [decide_eq_true h0, decide_eq_true (show tk.toNat < L.length by omega)]
      by_cases hX : chkN X = 0
      · rw [decide_eq_true hX, hX]; rfl
      · rw [decide_eq_false hX]; rfl
    · rw [decide_eq_false he]; rfl
  · simp [T.sel] at h2
def sMake : FSpec
  | [.ptr 0 0 0, .int .u8 k, .int .i64 n, .int .i64 tk, .slw 1], [⟨true, .gen [a, b, c] [[.slw 2, .int .i64 at', .int .i64 e]]⟩, ⟨false, .gen [t] []⟩, ⟨false, .toks L⟩] => .node (tysB a b c && Nat.beq t 22) (mkT L at' e tk (Ex.leaf k n (tkP L tk)).ok [⟨k, n, 0, 0, tkP L tk⟩]) .bad
  | [.ptr 0 0 0, .int .u8 k, .int .i64 0, .int .i64 tk, .slw 1], [⟨true, .gen [a, b, c] [[.slw 2, .int .i64 at', .int .i64 e]]⟩, ⟨false, .gen [t] [[.slw 3]]⟩, ⟨false, .toks L⟩, ⟨false, .nodes X⟩] =>
    .node (tysB a b c && Nat.beq t 22) (mkT L at' e tk (decide (5 ≤ k ∧ k ≤ 6 ∧ 0 ≤ tkP L tk ∧ tkP L tk ≤ 400) && decide (chkN X = 0)) (unL k (tkP L tk) X)) .bad
  | [.ptr 0 0 0, .int .u8 k, .int .i64 0, .int .i64 tk, .slw 1], [⟨true, .gen [a, b, c] [[.slw 2, .int .i64 at', .int .i64 e]]⟩, ⟨false, .gen [t] [[.slw 3], [.slw 4]]⟩, ⟨false, .toks L⟩, ⟨false, .nodes X⟩, ⟨false, .nodes Y⟩] =>
    .node (tysB a b c && Nat.beq t 22) (mkT L at' e tk (decide (7 ≤ k ∧ k ≤ 19 ∧ 0 ≤ tkP L tk ∧ tkP L tk ≤ 400) && (decide (chkN X = 0) && decide (chkN Y = 0))) (biL k (tkP L tk) X Y)) .bad
  | _, _ => .bad
theorem okMake : FnOk (E0 B) 101 sMake := by
  refine fnT lib8_ok Tryz.func101 (by kernel_rfl) (by kernel_rfl) fun vs bs r h => ?_
  unfold sMake at h
  split at h
  · rename_i k n tk a b c at' e t L
    rcases T.node_sel h with ⟨hc, h2⟩ | ⟨_, h2⟩
    · rw [Bool.and_eq_true] at hc
      obtain ⟨rfl, rfl, rfl⟩ := tysB_is hc.1
      have ht := Nat.eq_of_beq_eq_true hc.2
      subst ht
      exact (tMake0 L k n tk at' e).trans (by rw [Nat.beq_refl, Bool.true_and]; exact mkT_sel h2)
    · simp [T.sel] at h2
  · rename_i k tk a b c at' e t L X
    rcases T.node_sel h with ⟨hc, h2⟩ | ⟨_, h2⟩
    · rw [Bool.and_eq_true] at hc
      obtain ⟨rfl, rfl, rfl⟩ := tysB_is hc.1
      have ht := Nat.eq_of_beq_eq_true hc.2
      subst ht
      exact (tMake1 L X k tk at' e).trans (by rw [Nat.beq_refl, Bool.true_and]; exact mkT_sel h2)
    · simp [T.sel] at h2
  · rename_i k tk a b c at' e t L X Y
    rcases T.node_sel h with ⟨hc, h2⟩ | ⟨_, h2⟩
    · rw [Bool.and_eq_true] at hc
      obtain ⟨rfl, rfl, rfl⟩ := tysB_is hc.1
      have ht := Nat.eq_of_beq_eq_true hc.2
      subst ht
      exact (tMake2 L X Y k tk at' e).trans (by rw [Nat.beq_refl, Bool.true_and]; exact mkT_sel h2)
    · simp [T.sel] at h2
  · simp [T.sel] at h
noncomputable def lib9 : Tb := (101, [], sMake) :: lib8
theorem lib9_ok : TbOk B lib9 := lib8_ok.add okMake
end Go.Proofs.YtdckpbeioemopabGreatDoor
namespace Go.Proofs.YtdckpbeioemopabGreatDoor
open Go.RowKit Go.Shelf Go.Lib
attribute [local go_sem] Oper.semAt_some
def KpS (Bn bk : Nat) (A B : World) : Prop := B.heap[Bn]? = A.heap[Bn]? ∧ B.heap[bk]? = A.heap[bk]?
theorem KpS.t {Bn bk : Nat} {A B C : World} (h : KpS Bn bk A B) (k : KpS Bn bk B C) : KpS Bn bk A C := ⟨k.1.trans h.1, k.2.trans h.2⟩
def SlI (a : Option Addr) (bk off : Nat) (l : List Int) (W : World) : Prop := (0 < l.length → a = some ⟨bk, off, none⟩) ∧ ∀ (i : Nat) x, l[i]? = some x → W.cell? ⟨bk, off + i, none⟩ = some (.int .i64 x)
theorem SlI.kept {a : Option Addr} {bk off Bn : Nat} {l : List Int} {A B : World} (h : KpS Bn bk A B) (ht : SlI a bk off l A) : SlI a bk off l B := ⟨ht.1, fun i x hx => (cell_same h.2 (off + i)).trans (ht.2 i x hx)⟩
def dn (n : Nat) : List (Fin n) := (List.finRange n).reverse
theorem dn_len (n : Nat) : (dn n).length = n := by simp [dn]
theorem dn_take {n k : Nat} (hk : 0 < k) (h : k ≤ n) : (dn n).take (n - (k - 1)) = (dn n).take (n - k) ++ [⟨k - 1, by omega⟩] := by
  rw [show n - (k - 1) = (n - k) + 1 from by omega, List.take_add_one]
  congr 1
  unfold dn
  rw [List.getElem?_reverse (by simp; omega), List.length_finRange, List.getElem?_eq_getElem (by simp; omega)]
  simp only [Option.toList_some, List.cons.injEq, and_true, List.getElem_finRange]
  apply Fin.ext
  simp
  omega
theorem dn_all (n : Nat) : (dn n).take (n - 0) = dn n := List.take_of_length_le (by rw [dn_len]; omega)
set_option maxRecDepth 100000 in
set_option maxHeartbeats 4000000 in
theorem bk_in (F : Fence) (n : Nat) (h1 : F.fn 189) (hro : F.round = none) (hn : 1 ≤ n) (y Bn Bo : Nat) (a : Option Addr) (bk off cap : Nat) (l : List Int) (hl : l.length < 1000000000) (J Jx : List (Fin l.length) → World → Prop)
    (hY : ∀ pre (x : Fin l.length) W, J pre W → pre.length < l.length → YieldAt F (n - 1) Tryz.prog y #[.int .i64 (x.val : Int), .int .i64 l[x]] W fun e W' =>
      (e = .returned (.bool true) ∧ J (pre ++ [x]) W' ∧ KpS Bn bk W W') ∨ (e = .returned (.bool false) ∧ Jx (pre ++ [x]) W'))
    (W : World) (hB : W.cell? ⟨Bn, Bo, none⟩ = some (.slice a l.length cap)) (hT : SlI a bk off l W) (h0 : J [] W) :
    CallsIn F n Tryz.prog 189 #[.func (.yield y) #[] #[], .pointer (some ⟨Bn, Bo, none⟩)] W fun e W' => (∃ v, e = .returned v) ∧
      ((∃ ys, ys = dn l.length ∧ J ys W') ∨ (∃ pre, pre <+: dn l.length ∧ Jx pre W')) := by
  refine callsIn_of_wp Tryz.func189 rfl h1 ?_ hro
  simp only [Tryz.ntmps189, List.size_toArray, List.length_cons, List.length_nil, Nat.reduceAdd, Nat.reduceSub, Array.replicate_succ, Array.replicate_zero, List.push_toArray, List.append_toArray, List.nil_append, List.cons_append]
  have hlz : ((l.length : Nat) : Int) < 1000000000 := by omega
  gi_wp2
  gi_loopw [3] (fun p wr => ∃ (k : Nat), p = .int .i64 ((k : Int) - 1) ∧ k ≤ l.length ∧ wr.cell? ⟨Bn, Bo, none⟩ = some (.slice a l.length cap) ∧ SlI a bk off l wr ∧ J ((dn l.length).take (l.length - k)) wr)
    (fun p _ => (RowKit.intOf p + 1).toNat)
  case atStart => exact ⟨l.length, rfl, Nat.le_refl _, hB, hT, by simpa using h0⟩
  case round =>
    obtain ⟨k, rfl, hk, hBr, hTr, hJs⟩ := hrel
    rcases Nat.eq_zero_or_pos k with rfl | hk0
    · gi_wp2
      go_end0
      rw [dn_all] at hJs
      exact ⟨⟨_, rfl⟩, .inl ⟨_, rfl, hJs⟩⟩
    · obtain ⟨m, rfl⟩ : ∃ m, k = m + 1 := ⟨k - 1, by omega⟩
      have hm1 : (((m + 1 : Nat) : Int) - 1) = (m : Int) := by omega
      have hkl : (m : Int) < (l.length : Int) := by omega
      have hml : m < l.length := by omega
      obtain ⟨b, off', hb⟩ : ∃ b o, a = some ⟨b, o, none⟩ := ⟨_, _, hTr.1 (by omega)⟩
      have hab := hTr.1 (by omega)
      subst hb
      injection hab with hab
      injection hab with e1 e2
      subst e1 e2
      have hx := hTr.2 m l[m] (List.getElem?_eq_getElem hml)
      have HT : Aside (SlI (some ⟨b, off', none⟩) b off' l wr) := hTr
      obtain ⟨fn, tmps, assign, body, hy, hR⟩ := hY _ ⟨m, hml⟩ wr hJs (by rw [List.length_take, dn_len]; omega)
      have hJs' := dn_take (n := l.length) (k := m + 1) (by omega) hk
      simp only [Nat.add_sub_cancel] at hJs'
      rw [← hJs'] at hR
      clear hT hTr hJs hJs' h0 hY hk0
      rw [hm1]
      simp only [Fin.getElem_fin] at hR hy
      generalize l[m] = x at hx hR hy
      gi_wp2
      refine hR.mono ?_
      rintro e W3 (⟨rfl, hJ3, hk3⟩ | ⟨rfl, hJx3⟩)
      · gi_wp2
        go_roundw
        case rel => exact ⟨m, rfl, by omega, (cell_same hk3.1 Bo).trans hBr, HT.out.kept hk3, hJ3⟩
        case measure => simp [RowKit.intOf]
      · gi_wp2
        refine bodyPost_ret (results_none rfl _ _ _) rfl ?_
        exact ⟨⟨_, rfl⟩, .inr ⟨_, List.take_prefix _ _, hJx3⟩⟩
theorem bk_stops (F : Fence) (n : Nat) (h1 : F.fn 189) (hro : F.round = none) (hn : 1 ≤ n) (Bn Bo : Nat) (a : Option Addr) (bk off cap : Nat) (l : List Int) (hl : l.length < 1000000000) (w : World) (hBn : Bn < w.heap.size) (hc : w.cell? ⟨Bn, Bo, none⟩ = some (.slice a l.length cap)) (hT : SlI a bk off l w) :
    SeqStopsK F n Tryz.prog 189 #[.pointer (some ⟨Bn, Bo, none⟩)] (fun x : Fin l.length => #[Value.int .i64 (x.val : Int), .int .i64 l[x]]) (KpS Bn bk) (fun ys => ys = dn l.length) (fun pre => pre <+: dn l.length) l.length w := fun y J Jx W hW _ _ hY h0 =>
  bk_in F n h1 hro hn y Bn Bo a bk off cap l hl J Jx hY W ((hW.cell (p := ⟨Bn, Bo, none⟩) hBn).trans hc) ⟨hT.1, fun i x hx => (hW.cell (p := ⟨bk, off + i, none⟩) (World.block_lt_of_cell? _ _ (hT.2 i x hx))).trans (hT.2 i x hx)⟩ h0
end Go.Proofs.YtdckpbeioemopabGreatDoor
namespace Go.Proofs.YtdckpbeioemopabGreatDoor
open Go.Am
set_option maxRecDepth 100000
variable {B : Nat → Option Obj}
def bxB : Blk := ⟨true, .gen [109] [[.ptr 0 0 0]]⟩
def inS (l : List Int) : Blk := ⟨true, .ints .i64 l⟩
noncomputable def bSg : Code := loopAt 5 (loopsOf (bodyC Tryz.f132))
def sgSg : LSig := { cs := [(0, 0), (2, 0), (5, 0)], mv := [(8, 23)], mo := [(8, 23)], take := [2] }
def isB (L : List Tok) (s : List UInt8) (at' : Int) {α : Type} (x y : Option α) : Option α := bif decide (at' < (L.length : Int)) then inb' at' L.length (bif !decide ((L.getD at'.toNat default).kind = 1) then inb' at' L.length (bif decide ((L.getD at'.toNat default).text = s) then x else y) else y) else y
def sgS (s : List UInt8) : List AV := [.ptr 0 0 0, .ptr 1 0 0, .str s, .slw 2]
def sgN (L : List Tok) (at' e : Int) (l : List Int) : Out := ⟨[.slw 2], [pB 3 at' e, bxB, inS l, tkb L]⟩
theorem turnS (L : List Tok) (s : List UInt8) (at' e : Int) (l : List Int) : (turn (E0 B) (Cx B lib9) noL 47 sgSg bSg [.ptr 0 0 0, .ptr 1 0 0, .str s, .slw 2] [pB 3 at' e, bxB, inS l, tkb L]).sel =
    isB L s at' (bif decide (l.length + 1 ≤ lim) then some (.normal, ⟨[.ptr 0 0 0, .ptr 1 0 0, .str s, .slw 2], [pB 3 (w64 (at' + 1)) e, bxB, inS (l ++ [at']), tkb L]⟩) else none) (some (.exit 0, sgN L at' e l)) := by kernel_rfl
theorem isB_nil {L : List Tok} {s : List UInt8} {a : Nat} (h : L.drop a = []) {α : Type} (x y : Option α) : isB L s a x y = y := by
  unfold isB
  have : L.length ≤ a := List.drop_eq_nil_iff.1 h
  rw [decide_eq_false (by omega)]; rfl
theorem isB_cons {L : List Tok} {s : List UInt8} {a : Nat} {t : Tok} {r : List Tok} (h : L.drop a = t :: r) {α : Type} (x y : Option α) : isB L s a x y = bif t.is s then x else y := by
  have hlt : a < L.length := by
    rcases Nat.lt_or_ge a L.length with h1 | h1
    · exact h1
    · rw [List.drop_eq_nil_of_le h1] at h; cases h
  have ht : L.getD a default = t := by
    rw [List.drop_eq_getElem_cons hlt] at h
    injection h with h1 h2
    rw [List.getD_eq_getElem?_getD, List.getElem?_eq_getElem hlt]; exact h1
  unfold isB Tok.is
  rw [decide_eq_true (show (a : Int) < (L.length : Int) by omega), cond_true, inb'_is hlt, inb'_is hlt, Int.toNat_natCast, ht]
  cases decide (t.kind = 1) <;> cases decide (t.text = s) <;> rfl
def upto (a : Nat) : Nat → List Int
  | 0 => []
  | n + 1 => (a : Int) :: upto (a + 1) n
theorem drop_tail {L : List Tok} {a : Nat} {t : Tok} {r : List Tok} (h : L.drop a = t :: r) : L.drop (a + 1) = r := by
  have := congrArg (List.drop 1) h
  rwa [List.drop_drop, List.drop_one, List.tail_cons] at this
theorem turnsS (L : List Tok) (s : List UInt8) (e : Int) (hL : L.length ≤ 1000) : ∀ (r : List Tok) (a : Nat) (l : List Int), L.drop a = r → l.length + r.length ≤ 1000 → ∃ m, (turns (E0 B) (Cx B lib9) noL 47 sgSg bSg m (sgS s) [pB 3 a e, bxB, inS l, tkb L]).sel = some (.exit 0, sgN L (a + sgnN s r : Nat) e (l ++ upto a (sgnN s r)))
  | [], a, l, h, hl => ⟨1, by
    refine turns_done ((turnS L s a e l).trans ?_) (by simp)
    rw [isB_nil h]; simp [sgnN, upto]⟩
  | t :: r, a, l, h, hl => by
    have ht := turnS (B := B) L s a e l
    rw [isB_cons h] at ht
    have ha : a < L.length := by
      rcases Nat.lt_or_ge a L.length with h1 | h1
      · exact h1
      · rw [List.drop_eq_nil_of_le h1] at h; cases h
    unfold sgnN
    cases hts : t.is s with
    | false =>
      rw [hts, cond_false] at ht
      exact ⟨1, turns_done (ht.trans (by simp [upto])) (by simp)⟩
    | true =>
      rw [hts, cond_true, decide_eq_true (show l.length + 1 ≤ lim from by simp only [lim, List.length_cons] at *; omega), cond_true, show (a : Int) + 1 = ((a + 1 : Nat) : Int) from by omega, w64_rng (show Rng (((a + 1 : Nat) : Int)) by unfold Rng; omega)] at ht
      obtain ⟨m, hm⟩ := turnsS L s e hL r (a + 1) (l ++ [(a : Int)]) (drop_tail h) (by simp only [List.length_append, List.length_cons, List.length_nil] at *; omega)
      refine ⟨m + 1, (turns_more ht hm).trans ?_⟩
      simp only [cond_true, upto, List.append_assoc, List.cons_append, List.nil_append]
      rw [show a + 1 + sgnN s r = a + (sgnN s r + 1) from by omega]
def okSg (a b c t : Nat) (at' : Int) (L : List Tok) : Bool := tysB a b c && (Nat.beq t 109 && decide (0 ≤ at' ∧ L.length ≤ 900))
def spSg : LSpec
  | [.ptr 0 0 0, .ptr 1 0 0, .str s, .slw 2], [⟨true, .gen [a, b, c] [[.slw 3, .int .i64 at', .int .i64 e]]⟩, ⟨true, .gen [t] [[.ptr 0 0 0]]⟩, ⟨true, .ints .i64 []⟩, ⟨false, .toks L⟩] =>
    .node (okSg a b c t at' L) (.leaf (.exit 0, sgN L (at' + (sgnN s (L.drop at'.toNat) : Nat)) e (upto at'.toNat (sgnN s (L.drop at'.toNat))))) .bad
  | _, _ => .bad
theorem loopSg : LoopOk (E0 B) 47 sgSg bSg spSg := by
  refine loop_turns (C := Cx B lib9) (L := noL) (cxOk lib9_ok) (noL_ok _) fun vs bs e o h => ?_
  unfold spSg at h
  split at h
  · rename_i s a b c at' er t L
    rcases T.node_sel h with ⟨hc, h2⟩ | ⟨_, h2⟩
    · unfold okSg at hc
      simp only [Bool.and_eq_true] at hc
      obtain ⟨h1, h3, h4⟩ := hc
      obtain ⟨rfl, rfl, rfl⟩ := tysB_is h1
      have ht := Nat.eq_of_beq_eq_true h3
      subst ht
      obtain ⟨h5, h6⟩ := of_decide_eq_true h4
      obtain ⟨k, rfl⟩ : ∃ k : Nat, at' = k := ⟨at'.toNat, by omega⟩
      obtain ⟨m, hm⟩ := turnsS (B := B) L s er (by omega) (L.drop k) k [] rfl (by rw [List.length_nil, List.length_drop]; omega)
      refine ⟨m, hm.trans ?_⟩
      rw [← h2]
      simp only [Int.toNat_natCast, List.nil_append]
      rfl
    · simp [T.sel] at h2
  · simp [T.sel] at h
noncomputable def eSg : LEnt := { id := 5, n := 47, sg := sgSg, wr := writes bSg, s := spSg }
end Go.Proofs.YtdckpbeioemopabGreatDoor
namespace Go.Proofs.YtdckpbeioemopabGreatDoor
open Go.Am
set_option maxRecDepth 100000
variable {B : Nat → Option Obj}
def prAt (L : List Tok) : PR → Int
  | .ok _ r => (L.length : Int) - r.length
  | .bad _ n => (L.length : Int) - n
  | .out => 0
def prEr : PR → Int
  | .bad e _ => e
  | _ => 0
def prNd : PR → List Nod
  | .ok e _ => e.flat 0
  | _ => []
def prIn : PR → Bool
  | .out => false
  | _ => true
def okTk (t : Tok) : Bool := decide (0 ≤ t.pos ∧ t.pos ≤ 400 ∧ (t.text.length ≤ 900 ∨ (rdE t.text = 0 ∧ t.text.length ≤ 9223372036854775807)))
def okP (at' : Int) (L : List Tok) : Bool := decide (0 ≤ at' ∧ at' ≤ (L.length : Int) ∧ L.length ≤ 200) && L.all okTk
def prT (L : List Tok) (x : PR) : T Out := .node (prIn x) (pT L (prAt L x) (prEr x) (prNd x)) .bad
def sExpr (k : Nat) : FSpec
  | [.ptr 0 0 0, .int .i64 s], [⟨true, .gen [a, b, c] [[.slw 1, .int .i64 at', .int .i64 0]]⟩, ⟨false, .toks L⟩] => .node (tysB a b c && (decide (1 ≤ s ∧ s ≤ 6) && okP at' L)) (prT L (pE k s.toNat (L.drop at'.toNat))) .bad
  | _, _ => .bad
def sPrim (k : Nat) : FSpec
  | [.ptr 0 0 0], [⟨true, .gen [a, b, c] [[.slw 1, .int .i64 at', .int .i64 0]]⟩, ⟨false, .toks L⟩] => .node (tysB a b c && okP at' L) (prT L (pPrim (pE k) (L.drop at'.toNat))) .bad
  | _, _ => .bad
noncomputable def lib10 (k : Nat) : Tb := (62, [], sExpr k) :: lib9
noncomputable def lib11 (k : Nat) : Tb := (164, [], sPrim k) :: lib10 k
noncomputable def fC : Code := bodyC Tryz.f132
noncomputable def fPcs : List Code := piecesOf 6 fC
noncomputable def fBlk : Code := blkOf 6 fC
noncomputable def fTail : Code := tailOf 6 fC
theorem fC_eq : fC = nest fBlk fTail fPcs := by kernel_rfl
def slF : List (Nat × TypeId) := [(0, 0), (2, 0), (6, 0), (9, 0)]
noncomputable abbrev LF (B : Nat → Option Obj) : LoopR := loopL (E0 B) noL [eSg]
noncomputable def preF (B : Nat → Option Obj) (k : Nat) (s : Int) (at' : Int) (L : List Tok) : T (Out × List Int) :=
  midT (E0 B) (Cx B (lib11 k)) (LF B) fPcs (startSt (E0 B) Tryz.f132 [.ptr 0 0 0, i64 s] [pB 1 at' 0, tkb L]) 2 [0] [0] [5] slF 37 189
def kB (k : Int) : Blk := ⟨true, .gen [5] [[.int .u8 k]]⟩
def lB : Blk := ⟨true, .gen [22] [[.slw 5]]⟩
def fO (L : List Tok) (kd : Int) (x : PR) : Out := ⟨[.ptr 0 0 0, .ptr 1 0 0, .ptr 2 0 0, .ptr 3 0 0], [pB 4 (prAt L x) (prEr x), bxB, kB kd, lB, tkb L, ob (prNd x)]⟩
def frN (s : List UInt8) (at' : Int) (L : List Tok) : Nat := sgnN s (L.drop at'.toNat)
def frP (L : List Tok) (kd : Int) (g : Bool) (x : PR) (l : List Int) : Option (Out × List Int) := bif g then (bif prIn x then some (fO L kd x, l) else none) else none
theorem preF_is (k : Nat) (s at' : Int) (L : List Tok) : (preF B k s at' L).sel = (bif decide (s ≤ 2) then
      bif okSg 51 3 31 109 at' L then (frP L 6 (decide ((1 : Int) ≤ 3 ∧ (3 : Int) ≤ 6) && okP (at' + (frN notT at' L : Nat)) L) (pE k 3 (L.drop (at' + (frN notT at' L : Nat)).toNat)) (upto at'.toNat (frN notT at' L))) else none
    else bif okSg 51 3 31 109 at' L then (frP L 5 (okP (at' + (frN [45] at' L : Nat)) L) (pPrim (pE k) (L.drop (at' + (frN [45] at' L : Nat)).toNat)) (upto at'.toNat (frN [45] at' L))) else none) := by kernel_rfl
def opsOf : Code → Array Oper
  | .region _ ops _ => ops
  | .block _ c => opsOf c
  | .rangeFunc _ _ _ b => opsOf b
  | _ => #[]
noncomputable def fOps : Array Oper := opsOf fBlk
def sgR : LSig := { cs := [(0, 0), (2, 0), (6, 0), (9, 0)], mv := [(11, 0)], mo := [], take := [5] }
def bsR (L : List Tok) (kd at' e : Int) (X : List Nod) : List Blk := [pB 4 at' e, bxB, kB kd, lB, tkb L, ob X]
def vsR (tk : Int) : List AV := [.ptr 0 0 0, .ptr 1 0 0, .ptr 2 0 0, .ptr 3 0 0, i64 tk]
theorem round_is (L : List Tok) (kd at' e tk : Int) (X : List Nod) : (rturn (E0 B) (Cx B lib9) 47 sgR fOps (vsR tk) (bsR L kd at' e X)).sel =
    bif !decide (e = 0) || (decide (0 ≤ tk ∧ tk < (L.length : Int)) && (decide (5 ≤ kd ∧ kd ≤ 6 ∧ 0 ≤ tkP L tk ∧ tkP L tk ≤ 400) && decide (chkN X = 0))) then
      some ⟨vsR tk, bsR L kd (mkA e at' tk (unL kd (tkP L tk) X)) (mkE e (unL kd (tkP L tk) X)) (mkX (decide (e = 0) && decide (chkN (unL kd (tkP L tk) X) = 0)) (unL kd (tkP L tk) X))⟩ else none := by kernel_rfl
def vsE : List AV := [.ptr 0 0 0, .ptr 1 0 0, .ptr 2 0 0, .ptr 3 0 0]
theorem end_is (L : List Tok) (kd at' e : Int) (X : List Nod) : (endT (E0 B) (Cx B lib9) noL fTail (loopSt (E0 B) 47 ⟨slF, [], [], []⟩ vsE (bsR L kd at' e X)) 6 [0] [(4, 22)]).sel = pOut L at' e X := by kernel_rfl
end Go.Proofs.YtdckpbeioemopabGreatDoor
