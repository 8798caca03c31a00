/-
  Texts put together: NodMake, NodMake2, NodSame.
-/
import Derived.Test.YtdckpbeioemopabGreatDoorNodA
import Derived.Test.YtdckpbeioemopabGreatDoorLibA
import Derived.Test.YtdckpbeioemopabGreatDoorExA
namespace Go.Proofs.YtdckpbeioemopabGreatDoor
open Go.Am
set_option maxRecDepth 100000
variable {B : Nat → Option Obj}
def inb' {α : Type} (i : Int) (n : Nat) (r : Option α) : Option α := bif decide (0 ≤ i ∧ i < (n : Int)) then (bif decide (i.toNat < n) then r else none) else none
theorem inb'_is {α : Type} {i n : Nat} (h : i < n) (r : Option α) : inb' (i : Int) n r = r := in_range h r
def pr2 (n e : Int) : Option Out := some ⟨[i64 n, i64 e], []⟩
theorem tPrt (k : Int) : runT B lib5 Tryz.f143 [.int .u8 k] [] =
    bif decide (1 ≤ k) then (bif decide (k ≤ 4) then pr2 0 0 else bif decide (k = 5) then pr2 1 0 else bif decide (k = 6) then pr2 1 0 else bif decide (7 ≤ k) then (bif decide (k ≤ 19) then pr2 2 0 else pr2 0 2) else pr2 0 2)
    else bif decide (k = 5) then pr2 1 0 else bif decide (k = 6) then pr2 1 0 else bif decide (7 ≤ k) then (bif decide (k ≤ 19) then pr2 2 0 else pr2 0 2) else pr2 0 2 := by kernel_rfl
def sPrt : FSpec
  | [.int .u8 k], [] => .leaf ⟨[.int .i64 (bif knOk k then prt k else 0), .int .i64 (bif knOk k then 0 else 2)], []⟩
  | _, _ => .bad
theorem okPrt : FnOk (E0 B) 143 sPrt := by
  refine fnT lib5_ok Tryz.func143 (by kernel_rfl) (by kernel_rfl) fun vs bs r h => ?_
  unfold sPrt at h
  split at h
  · rename_i k
    simp only [T.sel, Option.some.injEq] at h; subst h
    refine (tPrt k).trans ?_
    unfold knOk prt
    by_cases h1 : 1 ≤ k
    · by_cases h4 : k ≤ 4
      · rw [decide_eq_true h1, decide_eq_true h4, decide_eq_true (show k ≤ 19 by omega)]; rfl
      · by_cases h5 : k = 5
        · subst h5; rfl
        · by_cases h6 : k = 6
          · subst h6; rfl
          · by_cases h19 : k ≤ 19
            · rw [decide_eq_true h1, decide_eq_false h4, decide_eq_false h5, decide_eq_false h6, decide_eq_true (show 7 ≤ k by omega), decide_eq_true h19, decide_eq_false (show ¬ k ≤ 6 by omega)]; rfl
            · rw [decide_eq_true h1, decide_eq_false h4, decide_eq_false h5, decide_eq_false h6, decide_eq_true (show 7 ≤ k by omega), decide_eq_false h19]; rfl
    · rw [decide_eq_false h1, decide_eq_false (show ¬ k = 5 by omega), decide_eq_false (show ¬ k = 6 by omega), decide_eq_false (show ¬ 7 ≤ k by omega)]; rfl
  · simp [T.sel] at h
theorem tClone (L : List Nod) : runT B lib5 Tryz.f190 [.slw 0] [⟨false, .nodes L⟩] =
    bif decide (0 < L.length) then (bif decide (0 + L.length ≤ lim) then some ⟨[.slw 0], [⟨true, .nodes L⟩]⟩ else none) else none := by kernel_rfl
def sClone : FSpec
  | [.slw 0], [⟨false, .nodes L⟩] => .node (decide (0 < L.length ∧ L.length ≤ 1000)) (.leaf ⟨[.slw 0], [⟨true, .nodes L⟩]⟩) .bad
  | _, _ => .bad
theorem okClone : FnOk (E0 B) 190 sClone := by
  refine fnT lib5_ok Tryz.func190 (by kernel_rfl) (by kernel_rfl) fun vs bs r h => ?_
  unfold sClone at h
  split at h
  · rename_i L
    rcases T.node_sel h with ⟨hc, h2⟩ | ⟨_, h2⟩
    · simp only [T.sel, Option.some.injEq] at h2; subst h2
      obtain ⟨h0, h1⟩ := of_decide_eq_true hc
      refine (tClone L).trans ?_
      rw [decide_eq_true h0, decide_eq_true (show 0 + L.length ≤ lim by simp only [lim]; omega)]; rfl
    · simp [T.sel] at h2
  · simp [T.sel] at h
noncomputable def lib6 : Tb := (143, [], sPrt) :: (190, [], sClone) :: lib5
theorem lib6_ok : TbOk B lib6 := lib5_ok.add okClone |>.add okPrt
def prtN (k : Int) : Int := bif knOk k then prt k else 0
def mvN (d : Int) (x : Nod) : Nod := ⟨x.kind, x.n, bif decide (0 < prtN x.kind) then w64 (x.a + d) else x.a, bif decide (1 < prtN x.kind) then w64 (x.b + d) else x.b, x.pos⟩
noncomputable def bMv : Code := loopAt 3 (loopsOf (bodyC Tryz.f168))
def sgMv : LSig := { cs := [(1, 0), (12, 0)], mv := [(5, 22), (13, 0)], mo := [(5, 22)], take := [0] }
def ob (L : List Nod) : Blk := ⟨true, .nodes L⟩
def ndMv (d n i : Int) (L : List Nod) : Option (AExit × Out) := some (.normal, ⟨[i64 d, i64 n, .slw 0, i64 (w64 (i + 1))], [ob L]⟩)
def atI (L : List Nod) (i : Int) : Nod := L.getD i.toNat default
def m1Mv (d n i : Int) (k : Int) (L : List Nod) : Option (AExit × Out) := bif decide (1 < prtN k) then inb' i L.length (inb' i L.length (ndMv d n i (L.set i.toNat ⟨(atI L i).kind, (atI L i).n, (atI L i).a, w64 ((atI L i).b + d), (atI L i).pos⟩))) else ndMv d n i L
def m0Mv (d n i : Int) (L : List Nod) : Option (AExit × Out) := bif decide (0 < prtN (atI L i).kind) then inb' i L.length (inb' i L.length (m1Mv d n i (atI L i).kind (L.set i.toNat ⟨(atI L i).kind, (atI L i).n, w64 ((atI L i).a + d), (atI L i).b, (atI L i).pos⟩))) else m1Mv d n i (atI L i).kind L
theorem turnMv (L : List Nod) (d n i : Int) : (turn (E0 B) (Cx B lib6) noL 49 sgMv bMv [i64 d, i64 n, .slw 0, i64 i] [ob L]).sel =
    bif decide (i < n) then inb' i L.length (m0Mv d n i L) else some (.exit 0, ⟨[.slw 0], [ob L]⟩) := by kernel_rfl
theorem set_mid {α : Type} (a b : List α) (x y : α) {i : Nat} (h : i = a.length) : (a ++ x :: b).set i y = a ++ y :: b := by
  subst h
  rw [List.set_append]
  simp
theorem get_mid (a b : List Nod) (x : Nod) {i : Nat} (h : i = a.length) : (a ++ x :: b).getD i default = x := by
  subst h
  simp [List.getD]
theorem m0_is {a b : List Nod} {x : Nod} {d n : Int} {i : Nat} (h : i = a.length) (hi : i ≤ 1000) : m0Mv d n i (a ++ x :: b) = ndMv d n i (a ++ mvN d x :: b) := by
  have e : ((i : Int)).toNat = i := by omega
  have hl : ∀ y : Nod, i < (a ++ y :: b).length := fun y => by simp; omega
  have g : ∀ y : Nod, atI (a ++ y :: b) i = y := fun y => by unfold atI; rw [e]; exact get_mid a b y h
  have h1 : ∀ (y : Nod), m1Mv d n i x.kind (a ++ y :: b) = ndMv d n i (a ++ ⟨y.kind, y.n, y.a, bif decide (1 < prtN x.kind) then w64 (y.b + d) else y.b, y.pos⟩ :: b) := fun y => by
    unfold m1Mv
    rw [g, e]
    cases decide (1 < prtN x.kind) with
    | false => rfl
    | true => rw [cond_true, inb'_is (hl y), inb'_is (hl y), set_mid a b _ _ h]; rfl
  unfold m0Mv mvN
  rw [g, e]
  cases decide (0 < prtN x.kind) with
  | false => rw [cond_false, h1]; rfl
  | true => rw [cond_true, inb'_is (hl x), inb'_is (hl x), set_mid a b _ _ h, h1]; rfl
theorem runMv (d : Int) (N : Nat) (hN : N ≤ 1000) : ∀ (r a : List Nod), a.length + r.length = N →
    ∃ m, (turns (E0 B) (Cx B lib6) noL 49 sgMv bMv m [i64 d, i64 N, .slw 0, i64 a.length] [ob (a ++ r)]).sel = some (.exit 0, ⟨[.slw 0], [ob (a ++ r.map (mvN d))]⟩)
  | [], a, h => by
    refine ⟨1, turns_done ((turnMv (a ++ []) d N a.length).trans ?_) (by simp)⟩
    rw [decide_eq_false (show ¬ (a.length : Int) < (N : Int) by simp at h; omega)]; rfl
  | x :: r, a, h => by
    simp only [List.length_cons] at h
    have ht := turnMv (B := B) (a ++ x :: r) d N a.length
    rw [decide_eq_true (show (a.length : Int) < (N : Int) by omega), cond_true, inb'_is (by simp), m0_is rfl (by omega)] at ht
    unfold ndMv at ht
    rw [w64_rng (show Rng ((a.length : Int) + 1) by unfold Rng; omega)] at ht
    obtain ⟨m, hm⟩ := runMv d N hN r (a ++ [mvN d x]) (by simp; omega)
    refine ⟨m + 1, (turns_more' ht).trans ?_⟩
    simp only [List.length_append, List.length_cons, List.length_nil, List.append_assoc, List.singleton_append] at hm
    rw [List.map_cons]
    exact hm
def spMv : LSpec
  | [.int .i64 d, .int .i64 n, .slw 0, .int .i64 i], [⟨true, .nodes L⟩] => .node (decide (n = (L.length : Int) ∧ i = 0 ∧ L.length ≤ 1000)) (.leaf (.exit 0, ⟨[.slw 0], [ob (L.map (mvN d))]⟩)) .bad
  | _, _ => .bad
theorem loopMv : LoopOk (E0 B) 49 sgMv bMv spMv := by
  refine loop_turns (C := Cx B lib6) (L := noL) (cxOk lib6_ok) (noL_ok _) fun vs bs e o h => ?_
  unfold spMv at h
  split at h
  · rename_i d n i L
    rcases T.node_sel h with ⟨hc, h2⟩ | ⟨_, h2⟩
    · obtain ⟨rfl, rfl, hl⟩ := of_decide_eq_true hc
      obtain ⟨m, hm⟩ := runMv (B := B) d L.length hl L [] (by simp)
      exact ⟨m, hm.trans h2⟩
    · simp [T.sel] at h2
  · simp [T.sel] at h
noncomputable def eMv : LEnt := { id := 3, n := 49, sg := sgMv, wr := writes bMv, s := spMv }
theorem tMoved (L : List Nod) (d : Int) : runL B lib6 [eMv] Tryz.f168 [.slw 0, i64 d] [⟨false, .nodes L⟩] =
    bif decide (0 < L.length ∧ L.length ≤ 1000) then (bif decide ((L.length : Int) = (L.length : Int) ∧ (0 : Int) = 0 ∧ L.length ≤ 1000) then some ⟨[.slw 0], [ob (L.map (mvN d))]⟩ else none) else none := by kernel_rfl
def sMoved : FSpec
  | [.slw 0, .int .i64 d], [⟨false, .nodes L⟩] => .node (decide (0 < L.length ∧ L.length ≤ 1000)) (.leaf ⟨[.slw 0], [⟨true, .nodes (L.map (mvN d))⟩]⟩) .bad
  | _, _ => .bad
theorem okMoved : FnOk (E0 B) 168 sMoved := by
  refine fnL lib6_ok (ls := [eMv]) Tryz.func168 (by kernel_rfl) (by kernel_rfl) (fun x hx => ?_) fun vs bs r h => ?_
  · simp only [List.mem_singleton] at hx; subst hx
    exact ⟨bMv, by kernel_rfl, rfl, loopMv⟩
  unfold sMoved at h
  split at h
  · rename_i d L
    rcases T.node_sel h with ⟨hc, h2⟩ | ⟨_, h2⟩
    · simp only [T.sel, Option.some.injEq] at h2; subst h2
      have hc := of_decide_eq_true hc
      refine (tMoved L d).trans ?_
      rw [decide_eq_true hc, decide_eq_true (show (L.length : Int) = (L.length : Int) ∧ (0 : Int) = 0 ∧ L.length ≤ 1000 from ⟨rfl, rfl, hc.2⟩)]; rfl
    · simp [T.sel] at h2
  · simp [T.sel] at h
noncomputable def lib7 : Tb := (168, [], sMoved) :: lib6
theorem lib7_ok : TbOk B lib7 := lib6_ok.add okMoved
end Go.Proofs.YtdckpbeioemopabGreatDoor
namespace Go.Proofs.YtdckpbeioemopabGreatDoor
open Go.Am
set_option maxRecDepth 100000
variable {B : Nat → Option Obj}
def gb (r : List (List AV)) : Blk := ⟨false, .gen [22] r⟩
def bdN (e : Int) : Option Out := some ⟨[.slw 0, i64 e], [ob []]⟩
def finN (X : List Nod) : Option Out := bif !decide (chkN X = 0) then bdN (chkN X) else some ⟨[.slw 0, i64 0], [ob X]⟩
def GgN (b : Bool) (k : Option Out) : Option Out := bif b then k else none
def qN (p : Int) (K : Option Out) : Option Out := bif decide (p < 0) then bdN 2 else bif decide (400 < p) then bdN 2 else K
def ndN (cnt k n p : Int) (K : Option Out) : Option Out := bif !decide ((bif knOk k then (0 : Int) else 2) = 0) then bdN 2 else bif !decide ((bif knOk k then prt k else 0) = cnt) then bdN 2 else bif decide (n < 0) then bdN 2 else
  bif decide (0 < n) then (bif !decide (k = 1) then bdN 2 else qN p K) else qN p K
def inN (L : List Nod) (K : Option Out) : Option Out := bif !decide (chkN L = 0) then bdN (chkN L) else bif decide (0 < L.length ∧ L.length ≤ 1000) then K else none
def mv0 (L : List Nod) : List Nod := L.map (mvN ((0 : Nat) : Int))
theorem tNode0 (k n p : Int) : runT B lib7 Tryz.f133 [.int .u8 k, i64 n, i64 p, .slw 0] [gb []] = ndN 0 k n p (finN [⟨k, n, 0, 0, p⟩]) := by kernel_rfl
theorem tNode1 (k n p : Int) (L : List Nod) : runT B lib7 Tryz.f133 [.int .u8 k, i64 n, i64 p, .slw 0] [gb [[.slw 1]], ⟨false, .nodes L⟩] =
    ndN 1 k n p (inN L (GgN (decide ((mv0 L).length ≤ lim)) (GgN (decide ((mv0 L).length + 1 ≤ lim)) (finN (mv0 L ++ [⟨k, n, w64 (((mv0 L).length : Int) - 1), 0, p⟩]))))) := by kernel_rfl
def mv1 (L M : List Nod) : List Nod := M.map (mvN ((mv0 L).length : Int))
theorem tNode2 (k n p : Int) (L M : List Nod) : runT B lib7 Tryz.f133 [.int .u8 k, i64 n, i64 p, .slw 0] [gb [[.slw 1], [.slw 2]], ⟨false, .nodes L⟩, ⟨false, .nodes M⟩] =
    ndN 2 k n p (inN L (GgN (decide ((mv0 L).length ≤ lim)) (inN M (GgN (decide ((mv0 L).length + (mv1 L M).length ≤ lim)) (GgN (decide ((mv0 L ++ mv1 L M).length + 1 ≤ lim)) (finN ((mv0 L ++ mv1 L M) ++ [⟨k, n, w64 (((mv0 L).length : Int) - 1), w64 (((mv0 L ++ mv1 L M).length : Int) - 1), p⟩]))))))) := by kernel_rfl
theorem prt_un {k : Int} (k1 : 5 ≤ k) (k2 : k ≤ 6) : prtN k = 1 := by unfold prtN knOk prt; rw [decide_eq_true (show 1 ≤ k by omega), decide_eq_true (show k ≤ 19 by omega), decide_eq_false (show ¬ k ≤ 4 by omega), decide_eq_true k2]; rfl
theorem prt_bin {k : Int} (k1 : 7 ≤ k) (k2 : k ≤ 19) : prtN k = 2 := by unfold prtN knOk prt; rw [decide_eq_true (show 1 ≤ k by omega), decide_eq_true k2, decide_eq_false (show ¬ k ≤ 4 by omega), decide_eq_false (show ¬ k ≤ 6 by omega)]; rfl
theorem prt_leaf {k : Int} (k1 : 1 ≤ k) (k2 : k ≤ 4) : prtN k = 0 := by unfold prtN knOk prt; rw [decide_eq_true k1, decide_eq_true (show k ≤ 19 by omega), decide_eq_true k2]; rfl
theorem ok_un' {k p : Int} {e : Ex} (h : (Ex.un k p e).ok = true) : (5 ≤ k ∧ k ≤ 6 ∧ 0 ≤ p ∧ p ≤ 400) ∧ e.ok = true := by
  unfold Ex.ok at h
  rw [Bool.and_eq_true] at h
  exact ⟨of_decide_eq_true h.1, h.2⟩
theorem ok_bin' {k p : Int} {a b : Ex} (h : (Ex.bin k p a b).ok = true) : (7 ≤ k ∧ k ≤ 19 ∧ 0 ≤ p ∧ p ≤ 400) ∧ a.ok = true ∧ b.ok = true := by
  unfold Ex.ok at h
  rw [Bool.and_eq_true, Bool.and_eq_true] at h
  exact ⟨of_decide_eq_true h.1, h.2.1, h.2.2⟩
theorem flat_shift : ∀ (e : Ex) (o d : Int), e.ok = true → 0 ≤ o → 0 ≤ o + d → o + e.size ≤ 2000 → o + d + e.size ≤ 2000 → (e.flat o).map (mvN d) = e.flat (o + d)
  | .leaf k n p, o, d, h, _, _, _, _ => by
    have h := of_decide_eq_true h
    simp [Ex.flat, mvN, prt_leaf h.1 h.2.1]
  | .un k p e, o, d, h, h0, h1, h2, h3 => by
    obtain ⟨hk, he⟩ := ok_un' h
    simp only [Ex.size] at h2 h3
    have hp := e.size_pos
    rw [Ex.flat, List.map_append, flat_shift e o d he h0 h1 (by omega) (by omega), Ex.flat]
    congr 1
    simp only [List.map_cons, List.map_nil, mvN, prt_un hk.1 hk.2.1]
    rw [show decide ((0 : Int) < 1) = true from rfl, show decide ((1 : Int) < 1) = false from rfl, cond_true, cond_false, w64_rng (show Rng (o + e.size - 1 + d) by unfold Rng; omega), show o + (e.size : Int) - 1 + d = o + d + e.size - 1 by omega]
  | .bin k p a b, o, d, h, h0, h1, h2, h3 => by
    obtain ⟨hk, ha, hb⟩ := ok_bin' h
    simp only [Ex.size] at h2 h3
    have hp := a.size_pos
    have hq := b.size_pos
    rw [Ex.flat, List.map_append, List.map_append, flat_shift a o d ha h0 h1 (by omega) (by omega), flat_shift b (o + a.size) d hb (by omega) (by omega) (by omega) (by omega), Ex.flat, show o + (a.size : Int) + d = o + d + a.size by omega]
    congr 2
    simp only [List.map_cons, List.map_nil, mvN, prt_bin hk.1 hk.2.1]
    rw [show decide ((0 : Int) < 2) = true from rfl, show decide ((1 : Int) < 2) = true from rfl, cond_true, cond_true, w64_rng (show Rng (o + a.size - 1 + d) by unfold Rng; omega), w64_rng (show Rng (o + a.size + b.size - 1 + d) by unfold Rng; omega),
      show o + (a.size : Int) - 1 + d = o + d + a.size - 1 by omega, show o + (a.size : Int) + b.size - 1 + d = o + d + a.size + b.size - 1 by omega]
theorem chk_ok {e : Ex} (h : e.ok = true) (hc : chkN (e.flat 0) = 0) : e.size ≤ 60 ∧ e.depth ≤ 20 := by
  rw [chkN_flat h] at hc
  cases h1 : decide (60 < e.size) with
  | true => rw [h1] at hc; cases hc
  | false =>
    cases h2 : decide (20 < e.depth) with
    | true => rw [h1, h2] at hc; cases hc
    | false =>
      have := of_decide_eq_false h1
      have := of_decide_eq_false h2
      omega
def oN (e : Ex) : Option Out := finN (e.flat 0)
theorem qN_in {p : Int} (h0 : 0 ≤ p) (h1 : p ≤ 400) (K : Option Out) : qN p K = K := by
  unfold qN
  rw [decide_eq_false (show ¬ p < 0 by omega), decide_eq_false (show ¬ 400 < p by omega)]; rfl
theorem ndN_in {cnt k n p : Int} (hk : knOk k = true) (hc : prt k = cnt) (hn : 0 ≤ n) (hn1 : k = 1 ∨ n = 0) (h0 : 0 ≤ p) (h1 : p ≤ 400) (K : Option Out) : ndN cnt k n p K = K := by
  unfold ndN
  rw [hk, cond_true, cond_true, decide_eq_true (show (0 : Int) = 0 from rfl), decide_eq_true hc, decide_eq_false (show ¬ n < 0 by omega), qN_in h0 h1]
  by_cases h : 0 < n
  · rw [decide_eq_true h, decide_eq_true (show k = 1 by omega)]; rfl
  · rw [decide_eq_false h]; rfl
theorem inN_in {e : Ex} (h : e.ok = true) (hc : chkN (e.flat 0) = 0) (K : Option Out) : inN (e.flat 0) K = K := by
  unfold inN
  have hs := (chk_ok h hc).1
  have hp := e.size_pos
  rw [decide_eq_true hc, Ex.flat_len, decide_eq_true (show 0 < e.size ∧ e.size ≤ 1000 from ⟨by omega, by omega⟩)]; rfl
theorem mv0_is {e : Ex} (h : e.ok = true) (hc : chkN (e.flat 0) = 0) : mv0 (e.flat 0) = e.flat 0 := by
  have hs := (chk_ok h hc).1
  have := flat_shift e 0 0 h (by omega) (by omega) (by omega) (by omega)
  exact this
theorem node0_is {k n p : Int} (h : (Ex.leaf k n p).ok = true) : ndN 0 k n p (finN [⟨k, n, 0, 0, p⟩]) = oN (.leaf k n p) := by
  have h' := of_decide_eq_true h
  have := prt_leaf h'.1 h'.2.1
  rw [ndN_in (by unfold knOk; rw [decide_eq_true (show 1 ≤ k by omega), decide_eq_true (show k ≤ 19 by omega)]; rfl) (by unfold prt; rw [decide_eq_true h'.2.1]; rfl) h'.2.2.1 h'.2.2.2.1 h'.2.2.2.2.1 h'.2.2.2.2.2]; rfl
theorem node1_is {k p : Int} {e : Ex} (h : (Ex.un k p e).ok = true) (hc : chkN (e.flat 0) = 0) :
    ndN 1 k 0 p (inN (e.flat 0) (GgN (decide ((mv0 (e.flat 0)).length ≤ lim)) (GgN (decide ((mv0 (e.flat 0)).length + 1 ≤ lim)) (finN (mv0 (e.flat 0) ++ [⟨k, 0, w64 (((mv0 (e.flat 0)).length : Int) - 1), 0, p⟩]))))) = oN (.un k p e) := by
  obtain ⟨hk, he⟩ := ok_un' h
  have hs := (chk_ok he hc).1
  have hp := e.size_pos
  rw [ndN_in (by unfold knOk; rw [decide_eq_true (show 1 ≤ k by omega), decide_eq_true (show k ≤ 19 by omega)]; rfl) (by unfold prt; rw [decide_eq_false (show ¬ k ≤ 4 by omega), decide_eq_true hk.2.1]; rfl) (Int.le_refl _) (.inr rfl) hk.2.2.1 hk.2.2.2,
    inN_in he hc, mv0_is he hc, Ex.flat_len, w64_rng (show Rng ((e.size : Int) - 1) by unfold Rng; omega)]
  unfold GgN oN
  rw [decide_eq_true (show e.size ≤ lim by simp only [lim]; omega), decide_eq_true (show e.size + 1 ≤ lim by simp only [lim]; omega), Ex.flat, Int.zero_add]; rfl
theorem node2_is {k p : Int} {a b : Ex} (h : (Ex.bin k p a b).ok = true) (ha : chkN (a.flat 0) = 0) (hb : chkN (b.flat 0) = 0) :
    ndN 2 k 0 p (inN (a.flat 0) (GgN (decide ((mv0 (a.flat 0)).length ≤ lim)) (inN (b.flat 0) (GgN (decide ((mv0 (a.flat 0)).length + (mv1 (a.flat 0) (b.flat 0)).length ≤ lim)) (GgN (decide ((mv0 (a.flat 0) ++ mv1 (a.flat 0) (b.flat 0)).length + 1 ≤ lim)) (finN ((mv0 (a.flat 0) ++ mv1 (a.flat 0) (b.flat 0)) ++ [⟨k, 0, w64 (((mv0 (a.flat 0)).length : Int) - 1), w64 (((mv0 (a.flat 0) ++ mv1 (a.flat 0) (b.flat 0)).length : Int) - 1), p⟩]))))))) = oN (.bin k p a b) := by
  obtain ⟨hk, oa, okb⟩ := ok_bin' h
  have sa := (chk_ok oa ha).1
  have sb := (chk_ok okb hb).1
  have pa := a.size_pos
  have pb := b.size_pos
  have e1 : mv1 (a.flat 0) (b.flat 0) = b.flat (a.size : Int) := by
    unfold mv1
    rw [mv0_is oa ha, Ex.flat_len, flat_shift b 0 a.size okb (by omega) (by omega) (by omega) (by omega), Int.zero_add]
  rw [ndN_in (by unfold knOk; rw [decide_eq_true (show 1 ≤ k by omega), decide_eq_true (show k ≤ 19 by omega)]; rfl) (by unfold prt; rw [decide_eq_false (show ¬ k ≤ 4 by omega), decide_eq_false (show ¬ k ≤ 6 by omega)]; rfl) (Int.le_refl _) (.inr rfl) hk.2.2.1 hk.2.2.2,
    inN_in oa ha, inN_in okb hb, e1, mv0_is oa ha, List.length_append, Ex.flat_len, Ex.flat_len, w64_rng (show Rng ((a.size : Int) - 1) by unfold Rng; omega), w64_rng (show Rng (((a.size + b.size : Nat) : Int) - 1) by unfold Rng; omega)]
  unfold GgN oN
  rw [decide_eq_true (show a.size ≤ lim by simp only [lim]; omega), decide_eq_true (show a.size + b.size ≤ lim by simp only [lim]; omega), decide_eq_true (show a.size + b.size + 1 ≤ lim by simp only [lim]; omega), Ex.flat, Int.zero_add, List.append_assoc,
    show ((a.size + b.size : Nat) : Int) - 1 = (a.size : Int) + b.size - 1 by omega]; rfl
def unL (k p : Int) (L : List Nod) : List Nod := L ++ [⟨k, 0, (L.length : Int) - 1, 0, p⟩]
def biL (k p : Int) (L M : List Nod) : List Nod := L ++ (M.map (mvN L.length) ++ [⟨k, 0, (L.length : Int) - 1, (L.length : Int) + M.length - 1, p⟩])
theorem unL_is (k p : Int) (e : Ex) : unL k p (e.flat 0) = (Ex.un k p e).flat 0 := by
  unfold unL
  rw [Ex.flat, Ex.flat_len, Int.zero_add]
theorem biL_is {k p : Int} {a b : Ex} (hb : b.ok = true) (sa : a.size ≤ 60) (sb : b.size ≤ 60) : biL k p (a.flat 0) (b.flat 0) = (Ex.bin k p a b).flat 0 := by
  unfold biL
  rw [Ex.flat, Ex.flat_len, Ex.flat_len, flat_shift b 0 a.size hb (by omega) (by omega) (by omega) (by omega), Int.zero_add]
def oT (X : List Nod) : T Out := .node (decide (chkN X = 0)) (.leaf ⟨[.slw 0, .int .i64 0], [⟨true, .nodes X⟩]⟩) (.leaf ⟨[.slw 0, .int .i64 (chkN X)], [⟨true, .nodes []⟩]⟩)
theorem oT_sel (X : List Nod) : (oT X).sel = finN X := by
  unfold oT finN bdN
  simp only [T.sel]
  cases decide (chkN X = 0) <;> rfl
def sNode : FSpec
  | [.int .u8 k, .int .i64 n, .int .i64 p, .slw 0], [⟨false, .gen [t] []⟩] => .node (Nat.beq t 22 && (Ex.leaf k n p).ok) (oT [⟨k, n, 0, 0, p⟩]) .bad
  | [.int .u8 k, .int .i64 0, .int .i64 p, .slw 0], [⟨false, .gen [t] [[.slw 1]]⟩, ⟨false, .nodes L⟩] => .node (Nat.beq t 22 && (decide (5 ≤ k ∧ k ≤ 6 ∧ 0 ≤ p ∧ p ≤ 400) && decide (chkN L = 0))) (oT (unL k p L)) .bad
  | [.int .u8 k, .int .i64 0, .int .i64 p, .slw 0], [⟨false, .gen [t] [[.slw 1], [.slw 2]]⟩, ⟨false, .nodes L⟩, ⟨false, .nodes M⟩] => .node (Nat.beq t 22 && (decide (7 ≤ k ∧ k ≤ 19 ∧ 0 ≤ p ∧ p ≤ 400) && (decide (chkN L = 0) && decide (chkN M = 0)))) (oT (biL k p L M)) .bad
  | _, _ => .bad
theorem okNode : FnOk (E0 B) 133 sNode := by
  refine fnT lib7_ok Tryz.func133 (by kernel_rfl) (by kernel_rfl) fun vs bs r h => ?_
  unfold sNode at h
  split at h
  · rename_i k n p t
    rcases T.node_sel h with ⟨hc, h2⟩ | ⟨_, h2⟩
    · rw [Bool.and_eq_true] at hc
      have ht := Nat.eq_of_beq_eq_true hc.1
      subst ht
      rw [oT_sel] at h2
      exact (tNode0 k n p).trans ((node0_is hc.2).trans h2)
    · simp [T.sel] at h2
  · rename_i k p t L
    rcases T.node_sel h with ⟨hc, h2⟩ | ⟨_, h2⟩
    · simp only [Bool.and_eq_true] at hc
      obtain ⟨ht, hk, hL⟩ := hc
      have ht := Nat.eq_of_beq_eq_true ht
      subst ht
      obtain ⟨e, he, rfl, hs, _⟩ := chkN_tree (of_decide_eq_true hL)
      rw [oT_sel, unL_is] at h2
      exact (tNode1 k 0 p _).trans ((node1_is (by unfold Ex.ok; rw [hk, he]; rfl) (of_decide_eq_true hL)).trans h2)
    · simp [T.sel] at h2
  · rename_i k p t L M
    rcases T.node_sel h with ⟨hc, h2⟩ | ⟨_, h2⟩
    · simp only [Bool.and_eq_true] at hc
      obtain ⟨ht, hk, hL, hM⟩ := hc
      have ht := Nat.eq_of_beq_eq_true ht
      subst ht
      obtain ⟨a, ha, rfl, sa, _⟩ := chkN_tree (of_decide_eq_true hL)
      obtain ⟨b, hb, rfl, sb, _⟩ := chkN_tree (of_decide_eq_true hM)
      rw [oT_sel, biL_is hb sa sb] at h2
      exact (tNode2 k 0 p _ _).trans ((node2_is (by unfold Ex.ok; rw [hk, ha, hb]; rfl) (of_decide_eq_true hL) (of_decide_eq_true hM)).trans h2)
    · simp [T.sel] at h2
  · simp [T.sel] at h
noncomputable def lib8 : Tb := (133, [], sNode) :: lib7
theorem lib8_ok : TbOk B lib8 := lib7_ok.add okNode
end Go.Proofs.YtdckpbeioemopabGreatDoor
namespace Go.Proofs.YtdckpbeioemopabGreatDoor
open Go.Am
set_option maxRecDepth 100000
variable {B : Nat → Option Obj}
def ndb (X : List Nod) : Blk := ⟨false, .nodes X⟩
def sEf : FSpec
  | [.slw 0, .slw 1, .fn f [] []], [⟨false, .nodes X⟩, ⟨false, .nodes Y⟩] => .node (Nat.beq f 63 && decide (X.length ≤ 100)) (.leaf ⟨[.bool (all2 eqN X Y)], []⟩) .bad
  | _, _ => .bad
noncomputable def libSm : Tb := (39, [], sEf) :: lib5
def smO (b : Bool) (e : Int) : Option Out := some ⟨[.bool b, i64 e], []⟩
theorem tSame (X Y : List Nod) : runT B libSm Tryz.f27 [.slw 0, .slw 1] [ndb X, ndb Y] =
    bif !decide (chkN X = 0) then smO false (chkN X) else bif !decide (chkN Y = 0) then smO false (chkN Y) else bif decide (X.length ≤ 100) then smO (all2 eqN X Y) 0 else none := by kernel_rfl
end Go.Proofs.YtdckpbeioemopabGreatDoor
