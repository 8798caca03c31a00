/-
  Texts put together: PrtTx, PrtTx2, PrtWs.
-/
import Derived.Test.YtdckpbeioemopabGreatDoorRefA
namespace Go.Proofs.YtdckpbeioemopabGreatDoor
open Go.Am Go
set_option maxRecDepth 100000
variable {B : Nat → Option Obj}
noncomputable def libX9 : Tb := (33, [], sExprP) :: (68, [], sFormat) :: (36, [], sJoin) :: (25, [], Lx.sAll) :: (34, [], sNm) :: Ck.lib15
noncomputable def bTx : Code := loopAt 10 (loopsOf (bodyC Tryz.f10))
def sgTx : LSig := { cs := [(1, 0), (46, 23), (47, 0)], mv := [(5, 67), (48, 0)], mo := [(5, 67)], take := [2] }
def txB (ag : Int) (A : List Nod) (S S' : List Int) (j : Bool) (W : List Nod) (wk ws we : Int) (bk : Bool) (lt : Int) (l : List (List UInt8)) : List Blk :=
  [⟨true, .gen qTy [[.int .u8 ag, .slw 3, .slw 4, .bool j, .slw 5, .int .u8 wk, .int .i64 ws, .int .i64 we, .bool bk, .int .u8 lt]]⟩, ⟨false, .ints .i64 S⟩, ⟨true, .strs l⟩, ⟨false, .nodes A⟩, ⟨false, .ints .i64 S'⟩, ⟨false, .nodes W⟩]
def txE (ag : Int) (A : List Nod) (S' : List Int) (j : Bool) (W : List Nod) (wk ws we : Int) (bk : Bool) (lt : Int) (l : List (List UInt8)) : List Blk :=
  [⟨true, .gen qTy [[.int .u8 ag, .slw 2, .slw 3, .bool j, .slw 4, .int .u8 wk, .int .i64 ws, .int .i64 we, .bool bk, .int .u8 lt]]⟩, ⟨true, .strs l⟩, ⟨false, .nodes A⟩, ⟨false, .ints .i64 S'⟩, ⟨false, .nodes W⟩]
def app9 {α : Type} (l : List (List UInt8)) (m : List (List UInt8)) (f : List (List UInt8) → Option α) : Option α := bif decide (l.length + m.length ≤ lim) then f (l ++ m) else none
def btW (j : Bool) : List UInt8 := bif j then [106, 111, 105, 110] else [117, 110, 105, 111, 110]
def gS (S : List Int) (i : Int) : Int := S.getD i.toNat 0
def txK (ag : Int) (A : List Nod) (S S' : List Int) (W : List Nod) (wk ws we : Int) (bk : Bool) (lt n i : Int) (j : Bool) (l : List (List UInt8)) : Option (AExit × Out) := app9 l [nmS (gS S i)] fun l => some (.normal, ⟨[.ptr 0 0 0, .slw 1, i64 n, .slw 2, i64 (w64 (i + 1))], txB ag A S S' j W wk ws we bk lt l⟩)
theorem turnTxT (ag : Int) (A : List Nod) (S S' : List Int) (W : List Nod) (wk ws we : Int) (bk : Bool) (lt n i : Int) (l : List (List UInt8)) : (turn (E0 B) (Cx B libX9) noL 139 sgTx bTx [.ptr 0 0 0, .slw 1, i64 n, .slw 2, i64 i] (txB ag A S S' true W wk ws we bk lt l)).sel =
    bif decide (i < n) then inb' i S.length (bif inR (gS S i) then (bif decide (0 < i) then app9 l [btW true] (txK ag A S S' W wk ws we bk lt n i true) else bif decide (0 < i) then app9 l [btW false] (txK ag A S S' W wk ws we bk lt n i true) else txK ag A S S' W wk ws we bk lt n i true l) else none)
    else some (.exit 0, ⟨[.slw 1], txE ag A S' true W wk ws we bk lt l⟩) := by kernel_rfl
theorem turnTxF (ag : Int) (A : List Nod) (S S' : List Int) (W : List Nod) (wk ws we : Int) (bk : Bool) (lt n i : Int) (l : List (List UInt8)) : (turn (E0 B) (Cx B libX9) noL 139 sgTx bTx [.ptr 0 0 0, .slw 1, i64 n, .slw 2, i64 i] (txB ag A S S' false W wk ws we bk lt l)).sel =
    bif decide (i < n) then inb' i S.length (bif inR (gS S i) then (bif decide (0 < i) then (bif decide (0 < i) then app9 l [btW false] (txK ag A S S' W wk ws we bk lt n i false) else txK ag A S S' W wk ws we bk lt n i false l) else bif decide (0 < i) then app9 l [btW false] (txK ag A S S' W wk ws we bk lt n i false) else txK ag A S S' W wk ws we bk lt n i false l) else none)
    else some (.exit 0, ⟨[.slw 1], txE ag A S' false W wk ws we bk lt l⟩) := by kernel_rfl
theorem turnTx (ag : Int) (A : List Nod) (S S' : List Int) (W : List Nod) (wk ws we : Int) (bk : Bool) (lt n i : Int) (l : List (List UInt8)) (j : Bool) : (turn (E0 B) (Cx B libX9) noL 139 sgTx bTx [.ptr 0 0 0, .slw 1, i64 n, .slw 2, i64 i] (txB ag A S S' j W wk ws we bk lt l)).sel =
    bif decide (i < n) then inb' i S.length (bif inR (gS S i) then (bif decide (0 < i) then app9 l [btW j] (txK ag A S S' W wk ws we bk lt n i j) else txK ag A S S' W wk ws we bk lt n i j l) else none)
    else some (.exit 0, ⟨[.slw 1], txE ag A S' j W wk ws we bk lt l⟩) := by
  cases j with
  | true => rw [turnTxT]; cases decide (0 < i) <;> rfl
  | false => rw [turnTxF]; cases decide (0 < i) <;> rfl
def wdT (j : Bool) : List (List UInt8) → List Int → List (List UInt8)
  | l, [] => l
  | l, x :: r => wdT j (l ++ [btW j] ++ [nmS x]) r
def wdF (j : Bool) (l : List (List UInt8)) : List Int → List (List UInt8)
  | [] => l
  | x :: r => wdT j (l ++ [nmS x]) r
theorem app9_in {α : Type} {l m : List (List UInt8)} (h : l.length + m.length ≤ 1000000) (f : List (List UInt8) → Option α) : app9 l m f = f (l ++ m) := by
  unfold app9
  rw [decide_eq_true (show l.length + m.length ≤ lim by simp only [lim]; omega)]; rfl
theorem gS_is {S : List Int} {i : Nat} {x : Int} {r : List Int} (hd : S.drop i = x :: r) : gS S i = x ∧ i < S.length := by
  have hlt : i < S.length := by
    have := congrArg List.length hd
    simp only [List.length_drop, List.length_cons] at this
    omega
  refine ⟨?_, hlt⟩
  unfold gS
  rw [Int.toNat_natCast, List.getD_eq_getElem?_getD]
  have h0 : (S.drop i)[0]? = S[i]? := by rw [List.getElem?_drop, Nat.add_zero]
  rw [← h0, hd]; rfl
theorem runTx (ag : Int) (A : List Nod) (S S' : List Int) (W : List Nod) (wk ws we : Int) (bk : Bool) (lt : Int) (j : Bool) : ∀ (r : List Int) (i : Nat) (l : List (List UInt8)), S.drop i = r → 0 < i → i + r.length ≤ 100 → r.all inR = true → l.length + 2 * r.length ≤ 100000 →
    ∃ m, (turns (E0 B) (Cx B libX9) noL 139 sgTx bTx m [.ptr 0 0 0, .slw 1, i64 S.length, .slw 2, i64 i] (txB ag A S S' j W wk ws we bk lt l)).sel = some (.exit 0, ⟨[.slw 1], txE ag A S' j W wk ws we bk lt (wdT j l r)⟩)
  | [], i, l, hd, _, _, _, _ => by
    refine ⟨1, turns_done ((turnTx ag A S S' W wk ws we bk lt S.length i l j).trans ?_) (by simp)⟩
    have hle : S.length ≤ i := List.drop_eq_nil_iff.1 hd
    rw [decide_eq_false (show ¬ (i : Int) < (S.length : Int) by omega)]; rfl
  | x :: r, i, l, hd, h0, hi, ha, hl => by
    obtain ⟨hg, hlt⟩ := gS_is hd
    rw [List.all_cons, Bool.and_eq_true] at ha
    simp only [List.length_cons] at hi hl
    have ht := turnTx (B := B) ag A S S' W wk ws we bk lt S.length i l j
    unfold txK at ht
    have hr1 : w64 ((i : Int) + 1) = ((i + 1 : Nat) : Int) := by rw [w64_rng (show Rng ((i : Int) + 1) by unfold Rng; omega)]; rfl
    rw [decide_eq_true (show (i : Int) < (S.length : Int) by omega), decide_eq_true (show (0 : Int) < (i : Int) by omega), cond_true, cond_true, inb'_is hlt, hg, ha.1, cond_true, app9_in (by simp only [List.length_cons, List.length_nil]; omega), app9_in (by simp only [List.length_append, List.length_cons, List.length_nil]; omega), hr1] at ht
    obtain ⟨m, hm⟩ := runTx ag A S S' W wk ws we bk lt j r (i + 1) (l ++ [btW j] ++ [nmS x]) (by rw [← List.drop_drop, hd]; rfl) (by omega) (by omega) ha.2 (by simp only [List.length_append, List.length_cons, List.length_nil]; omega)
    exact ⟨m + 1, turns_more ht hm⟩
def spTx : LSpec
  | [.ptr 0 0 0, .slw 1, .int .i64 n, .slw 2, .int .i64 i], [⟨true, .gen ty [[.int .u8 ag, .slw 3, .slw 4, .bool j, .slw 5, .int .u8 wk, .int .i64 ws, .int .i64 we, .bool bk, .int .u8 lt]]⟩, ⟨false, .ints .i64 S⟩, ⟨true, .strs l⟩, ⟨false, .nodes A⟩, ⟨false, .ints .i64 S'⟩, ⟨false, .nodes W⟩] =>
    .node (decide (ty = qTy) && (decide (i = 0 ∧ n = (S.length : Int) ∧ S.length ≤ 4 ∧ l.length ≤ 1000) && S.all inR)) (.leaf (.exit 0, ⟨[.slw 1], [⟨true, .gen qTy [[.int .u8 ag, .slw 2, .slw 3, .bool j, .slw 4, .int .u8 wk, .int .i64 ws, .int .i64 we, .bool bk, .int .u8 lt]]⟩, ⟨true, .strs (wdF j l S)⟩, ⟨false, .nodes A⟩, ⟨false, .ints .i64 S'⟩, ⟨false, .nodes W⟩]⟩)) .bad
  | _, _ => .bad
theorem libX9_ok (hB : Laid B) : TbOk B libX9 := ((((Ck.lib15_ok.add okNm).add (Lx.okAll hB)).add Lx.joinOk).add (formatOk hB)).add (okExprP hB)
theorem loopTx (hB : Laid B) : LoopOk (E0 B) 139 sgTx bTx spTx := by
  refine loop_turns (C := Cx B libX9) (L := noL) (cxOk (libX9_ok hB)) (noL_ok _) fun vs bs e o h => ?_
  unfold spTx at h
  split at h
  · rename_i n i ty ag j wk ws we bk lt S l A S' W
    rcases T.node_sel h with ⟨hc, h2⟩ | ⟨_, h2⟩
    · simp only [Bool.and_eq_true] at hc
      obtain ⟨hty, hc, ha⟩ := hc
      have hty := of_decide_eq_true hty
      subst hty
      obtain ⟨rfl, rfl, hS, hl⟩ := of_decide_eq_true hc
      simp only [T.sel, Option.some.injEq] at h2
      rw [← h2]
      have ht := turnTx (B := B) ag A S S' W wk ws we bk lt S.length 0 l j
      cases S with
      | nil => exact ⟨1, turns_done ht (by simp)⟩
      | cons x r =>
        rw [List.all_cons, Bool.and_eq_true] at ha
        simp only [List.length_cons] at hS
        obtain ⟨hg, hlt⟩ := gS_is (S := x :: r) (i := 0) (x := x) (r := r) rfl
        have hg : gS (x :: r) 0 = x := hg
        have hin : ∀ z : Option (AExit × Out), inb' 0 (x :: r).length z = z := fun z => inb'_is hlt z
        unfold txK at ht
        rw [decide_eq_true (show (0 : Int) < ((x :: r).length : Int) by simp only [List.length_cons]; omega), decide_eq_false (show ¬ (0 : Int) < 0 by omega), cond_true, cond_false, hin, hg, ha.1, cond_true, app9_in (by simp only [List.length_cons, List.length_nil]; omega)] at ht
        obtain ⟨m, hm⟩ := runTx (B := B) ag A (x :: r) S' W wk ws we bk lt j r 1 (l ++ [nmS x]) rfl (by omega) (by omega) ha.2 (by simp only [List.length_append, List.length_cons, List.length_nil]; omega)
        exact ⟨m + 1, turns_more ht hm⟩
    · simp [T.sel] at h2
  · simp [T.sel] at h
noncomputable def eTx : LEnt := { id := 10, n := 139, sg := sgTx, wr := writes bTx, s := spTx }
end Go.Proofs.YtdckpbeioemopabGreatDoor
namespace Go.Proofs.YtdckpbeioemopabGreatDoor
open Go.Am Go
set_option maxRecDepth 100000
variable {B : Nat → Option Obj}
def wkL : List (List UInt8) := [[116, 117, 109, 98, 108, 101], [115, 108, 105, 100, 101], [115, 101, 115, 115, 105, 111, 110]]
def in1 {α : Type} (i : Int) (n : Nat) (r : Option α) : Option α := bif decide (0 ≤ i ∧ i < (n : Int)) then r else none
def tx9 (s : List UInt8) (e : Int) : Option Out := some ⟨[.str s, i64 e], []⟩
def xJ (l : List (List UInt8)) : Option Out := bif decide (l.length ≤ lim ∧ (Lib.join l [32]).length ≤ lim) then (bif !decide (lexE (Lib.join l [32]) = 0) then tx9 [] 18 else tx9 (Lib.join l [32]) 0) else none
def xL (lt : Int) (l : List (List UInt8)) : Option Out := bif decide (lt = 2) then app9 l [[108, 97, 116, 101], [115, 105, 100, 101]] xJ else xJ l
def xK (bk : Bool) (lt : Int) (l : List (List UInt8)) : Option Out := bif bk then app9 l [[98, 121], [107, 101, 121]] (xL lt) else xL lt l
def xE (wk we : Int) (bk : Bool) (lt : Int) (l : List (List UInt8)) : Option Out := bif decide (wk = 2) then (bif rng64 we && true then app9 l [[101, 118, 101, 114, 121], Lib.itoa we] (xK bk lt) else none) else xK bk lt l
def xW (q : Qry) (l : List (List UInt8)) : Option Out := in1 (u8 (q.wk - 1)) 3 (bif rng64 q.ws && true then app9 l [[119, 105, 110, 100, 111, 119], wkL.getD (u8 (q.wk - 1)).toNat [], Lib.itoa q.ws] (xE q.wk q.we q.byKey q.late) else none)
def xR (q : Qry) (l : List (List UInt8)) : Option Out := bif decide ((0 : Int) < (q.whr.length : Int)) then (bif rngX q.whr then app9 l [[119, 104, 101, 114, 101], prS q.whr] (xW q) else none) else xW q l
def xA (q : Qry) (g a : List UInt8) : Option Out := cat9 g [40] fun s => cat9 s a fun s => cat9 s [41] fun s =>
  bif decide (qTy = qTy) && (decide ((0 : Int) = 0 ∧ (q.src.length : Int) = (q.src.length : Int) ∧ q.src.length ≤ 4 ∧ ([[115, 101, 108, 101, 99, 116], s, [102, 114, 111, 109]] : List (List UInt8)).length ≤ 1000) && q.src.all inR) then xR q (wdF q.join [[115, 101, 108, 101, 99, 116], s, [102, 114, 111, 109]] q.src) else none
def xO (q : Qry) : Option Out := bif !decide (clkE q = 0) then tx9 [] (clkE q) else in1 (u8 (q.agg - 1)) 4 (bif !decide (q.agg = 1) then (bif rngX q.arg then xA q (agL.getD (u8 (q.agg - 1)).toNat []) (prS q.arg) else none) else xA q (agL.getD (u8 (q.agg - 1)).toNat []) [42])
theorem tTx (q : Qry) : runL B libX9 [eTx] Tryz.f10 [q.av 0 1 2] (Ck.qbs q) = xO q := by kernel_rfl
def finT (s : List UInt8) : Option Out := bif !decide (lexE s = 0) then tx9 [] 18 else tx9 s 0
theorem join_app {l : List (List UInt8)} (h : l ≠ []) (m : List (List UInt8)) : Lib.join (l ++ m) [32] = Lib.join l [32] ++ Lib.joinTail [32] m := by
  cases l with
  | nil => exact (h rfl).elim
  | cons x r =>
    rw [List.cons_append, Lib.join_cons, Lib.join_cons, List.append_assoc]
    congr 1
    simp [Lib.joinTail]
theorem xJ_is {l : List (List UInt8)} (h1 : l.length ≤ 1000) (h2 : (Lib.join l [32]).length ≤ 500000) : xJ l = finT (Lib.join l [32]) := by
  unfold xJ
  rw [decide_eq_true (show l.length ≤ lim ∧ (Lib.join l [32]).length ≤ lim by simp only [lim]; omega)]; rfl
theorem xL_is (q : Qry) {l : List (List UInt8)} (h0 : l ≠ []) (h1 : l.length ≤ 900) (h2 : (Lib.join l [32]).length ≤ 400000) : xL q.late l = finT (Lib.join l [32] ++ ltT q) := by
  unfold xL ltT
  cases decide (q.late = 2) with
  | true =>
    rw [cond_true, cond_true, app9_in (by simp only [List.length_cons, List.length_nil]; omega), xJ_is (by simp only [List.length_append, List.length_cons, List.length_nil]; omega) (by rw [join_app h0]; simp only [List.length_append]; have : (Lib.joinTail [32] [[108, 97, 116, 101], [115, 105, 100, 101]]).length = 10 := rfl; omega), join_app h0]
    rfl
  | false => rw [cond_false, cond_false, List.append_nil]; exact xJ_is (by omega) (by omega)
theorem xK_is (q : Qry) {l : List (List UInt8)} (h0 : l ≠ []) (h1 : l.length ≤ 800) (h2 : (Lib.join l [32]).length ≤ 300000) : xK q.byKey q.late l = finT (Lib.join l [32] ++ bkT q ++ ltT q) := by
  unfold xK bkT
  cases q.byKey with
  | true =>
    rw [cond_true, cond_true, app9_in (by simp only [List.length_cons, List.length_nil]; omega), xL_is q (by simp) (by simp only [List.length_append, List.length_cons, List.length_nil]; omega) (by rw [join_app h0]; simp only [List.length_append]; have : (Lib.joinTail [32] [[98, 121], [107, 101, 121]]).length = 7 := rfl; omega), join_app h0]
    rfl
  | false => rw [cond_false, cond_false, List.append_nil]; exact xL_is q h0 (by omega) (by omega)
theorem rng64_of {n : Int} (h : Rng n) : rng64 n = true := by simpa [rng64, Rng] using h
theorem xE_is (q : Qry) (hw : Rng q.we) {l : List (List UInt8)} (h0 : l ≠ []) (h1 : l.length ≤ 700) (h2 : (Lib.join l [32]).length ≤ 200000) : xE q.wk q.we q.byKey q.late l = finT (Lib.join l [32] ++ evT q ++ bkT q ++ ltT q) := by
  unfold xE evT
  have hi := itoa_len hw
  cases decide (q.wk = 2) with
  | true =>
    have hj : Lib.joinTail [32] [[101, 118, 101, 114, 121], Lib.itoa q.we] = [32, 101, 118, 101, 114, 121, 32] ++ Lib.itoa q.we := by simp [Lib.joinTail]
    rw [cond_true, cond_true, rng64_of hw, Bool.and_true, cond_true, app9_in (by simp only [List.length_cons, List.length_nil]; omega), xK_is q (by simp) (by simp only [List.length_append, List.length_cons, List.length_nil]; omega) (by rw [join_app h0, hj]; simp only [List.length_append, List.length_cons, List.length_nil]; omega), join_app h0, hj]
  | false => rw [cond_false, cond_false, List.append_nil]; exact xK_is q h0 (by omega) (by omega)
theorem wk_in : ∀ k : Fin 4, 1 ≤ k.val → wiT k.val = wkL.getD (u8 ((k.val : Int) - 1)).toNat [] ++ [32] := by decide +kernel
theorem wk_of {k : Int} (h1 : 1 ≤ k) (h2 : k ≤ 3) : wiT k = wkL.getD (u8 (k - 1)).toNat [] ++ [32] := by
  have h3 := wk_in ⟨k.toNat, by omega⟩ (by simp only; omega)
  have e : ((k.toNat : Nat) : Int) = k := by omega
  simp only [e] at h3
  exact h3
theorem in1_in {α : Type} {i : Int} {n : Nat} (h0 : 0 ≤ i) (h1 : i < (n : Int)) (z : Option α) : in1 i n z = z := by
  unfold in1
  rw [decide_eq_true (show 0 ≤ i ∧ i < (n : Int) from ⟨h0, h1⟩)]; rfl
theorem xW_is {q : Qry} (h : QOk q) {l : List (List UInt8)} (h0 : l ≠ []) (h1 : l.length ≤ 600) (h2 : (Lib.join l [32]).length ≤ 100000) : xW q l = finT (Lib.join l [32] ++ wnT q ++ evT q ++ bkT q ++ ltT q) := by
  obtain ⟨⟨w1, w2⟩, w3⟩ := wi_of h.k1 h.k3
  have hi := itoa_len h.ws
  have hk := wk_of h.k1 h.k3
  have hj : Lib.joinTail [32] [[119, 105, 110, 100, 111, 119], wkL.getD (u8 (q.wk - 1)).toNat [], Lib.itoa q.ws] = wnT q := by unfold wnT; rw [hk]; simp [Lib.joinTail]
  have hl : (wnT q).length ≤ 60 := by unfold wnT; simp only [List.length_append, List.length_cons, List.length_nil]; omega
  unfold xW
  rw [in1_in w1 w2, rng64_of h.ws, Bool.and_true, cond_true, app9_in (by simp only [List.length_cons, List.length_nil]; omega), xE_is q h.we (by simp) (by simp only [List.length_append, List.length_cons, List.length_nil]; omega) (by rw [join_app h0, hj]; simp only [List.length_append]; omega), join_app h0, hj]
theorem xR_is {q : Qry} (h : QOk q) {l : List (List UInt8)} (h0 : l ≠ []) (h1 : l.length ≤ 500) (h2 : (Lib.join l [32]).length ≤ 50000) : xR q l = finT (Lib.join l [32] ++ whT q ++ wnT q ++ evT q ++ bkT q ++ ltT q) := by
  unfold xR whT
  by_cases hw : 0 < q.whr.length
  · obtain ⟨p1, _⟩ := sbT_is (h.whr hw) h.rW
    have hj : Lib.joinTail [32] [[119, 104, 101, 114, 101], prS q.whr] = [32, 119, 104, 101, 114, 101, 32] ++ prS q.whr := by simp [Lib.joinTail]
    rw [decide_eq_true hw, decide_eq_true (show (0 : Int) < (q.whr.length : Int) by omega), cond_true, cond_true, h.rW, cond_true, app9_in (by simp only [List.length_cons, List.length_nil]; omega), xW_is h (by simp) (by simp only [List.length_append, List.length_cons, List.length_nil]; omega) (by rw [join_app h0, hj]; simp only [List.length_append, List.length_cons, List.length_nil]; omega), join_app h0, hj]
  · rw [decide_eq_false hw, decide_eq_false (show ¬ (0 : Int) < (q.whr.length : Int) by omega), cond_false, cond_false, List.append_nil]
    exact xW_is h h0 (by omega) (by omega)
theorem btT_is (j : Bool) : btT j = [32] ++ btW j ++ [32] := by cases j <;> rfl
theorem wdT_is (j : Bool) : ∀ (r : List Int) (l : List (List UInt8)), l ≠ [] → wdT j l r ≠ [] ∧ (wdT j l r).length = l.length + 2 * r.length ∧ Lib.join (wdT j l r) [32] = srcT (btT j) (Lib.join l [32]) r
  | [], l, h => ⟨h, by simp [wdT], rfl⟩
  | x :: r, l, h => by
    obtain ⟨i1, i2, i3⟩ := wdT_is j r (l ++ [btW j] ++ [nmS x]) (by simp)
    refine ⟨i1, ?_, ?_⟩
    · show (wdT j (l ++ [btW j] ++ [nmS x]) r).length = _
      rw [i2]; simp only [List.length_append, List.length_cons, List.length_nil]; omega
    · show Lib.join (wdT j (l ++ [btW j] ++ [nmS x]) r) [32] = _
      rw [i3, List.append_assoc, join_app h]
      show srcT _ _ r = srcT _ _ r
      congr 1
      rw [btT_is]; simp [Lib.joinTail]
theorem xA_is {q : Qry} (h : QOk q) (hl : (argT q).length ≤ 2000) : xA q (agT q.agg) (argT q) = finT (tdT q) := by
  obtain ⟨⟨w1, w2⟩, w3⟩ := ag_of h.a1 h.a4
  have hs := h.s0
  have h4 := h.s4
  unfold xA
  rw [cat9_in (by simp only [List.length_cons, List.length_nil]; omega), cat9_in (by simp only [List.length_append, List.length_cons, List.length_nil]; omega), cat9_in (by simp only [List.length_append, List.length_cons, List.length_nil]; omega),
    decide_eq_true (rfl : qTy = qTy), h.sR]
  cases hS : q.src with
  | nil => rw [hS] at hs; simp at hs
  | cons x r =>
    have hb := bt_len q.join
    have hrl : r.length ≤ 3 := by rw [hS] at h4; simpa using h4
    rw [hS] at h4
    have hdec : decide ((0 : Int) = 0 ∧ ((x :: r).length : Int) = ((x :: r).length : Int) ∧ (x :: r).length ≤ 4 ∧ ([[115, 101, 108, 101, 99, 116], agT q.agg ++ [40] ++ argT q ++ [41], [102, 114, 111, 109]] : List (List UInt8)).length ≤ 1000) = true := decide_eq_true ⟨rfl, rfl, h4, by simp⟩
    obtain ⟨i1, i2, i3⟩ := wdT_is q.join r ([[115, 101, 108, 101, 99, 116], agT q.agg ++ [40] ++ argT q ++ [41], [102, 114, 111, 109]] ++ [nmS x]) (by simp)
    have hj : Lib.join ([[115, 101, 108, 101, 99, 116], agT q.agg ++ [40] ++ argT q ++ [41], [102, 114, 111, 109]] ++ [nmS x]) [32] = hdT q ++ nmS x := by
      unfold hdT
      rw [join_app (by simp), Lib.join_cons]
      simp [Lib.joinTail]
    rw [hj] at i3
    have hnm := nmS_len x
    have hsl := srcT_len (bt := btT q.join) r (hdT q ++ nmS x)
    have hm : r.length * ((btT q.join).length + 1) ≤ 3 * 8 := Nat.mul_le_mul (by omega) (by omega)
    have hhd : (hdT q).length ≤ 3000 := by unfold hdT; simp only [List.length_append, List.length_cons, List.length_nil]; omega
    simp only [List.length_append] at hsl
    have hx := xR_is h (l := wdT q.join ([[115, 101, 108, 101, 99, 116], agT q.agg ++ [40] ++ argT q ++ [41], [102, 114, 111, 109]] ++ [nmS x]) r) i1 (by rw [i2]; simp only [List.length_append, List.length_cons, List.length_nil]; omega) (by rw [i3]; omega)
    rw [i3] at hx
    rw [hdec]
    unfold tdT
    rw [hS]
    exact hx
theorem xO_is {q : Qry} (hc : clkE q = 0) (h : QOk q) : xO q = finT (tdT q) := by
  obtain ⟨⟨w1, w2⟩, w3⟩ := ag_of h.a1 h.a4
  have hA : (argT q).length ≤ 2000 := by
    unfold argT
    by_cases h1 : q.agg = 1
    · rw [decide_eq_true h1]; show ([42] : List UInt8).length ≤ 2000; decide
    · rw [decide_eq_false h1]; exact (sbT_is (h.arg h1) h.rA).1
  have ht := xA_is h hA
  unfold xO
  unfold argT agT at ht
  rw [hc, in1_in w1 w2]
  by_cases h1 : q.agg = 1
  · rw [decide_eq_true h1] at ht ⊢; exact ht
  · rw [decide_eq_false h1] at ht ⊢
    rw [h.rA]; exact ht
end Go.Proofs.YtdckpbeioemopabGreatDoor
namespace Go.Proofs.YtdckpbeioemopabGreatDoor
open Go.Am Go
set_option maxRecDepth 100000
variable {B : Nat → Option Obj}
theorem srcE_inv {l : List Int} {j : Bool} (h : srcE l j = 0) : l.length ≤ 4 ∧ 0 < l.length ∧ l.all inR = true := by
  unfold srcE at h
  cases h1 : decide (4 < l.length) with
  | true => rw [h1] at h; cases h
  | false =>
    rw [h1, cond_false] at h
    have h1 := of_decide_eq_false h1
    cases h2 : (decide (l.length = 0) || (j && !decide (l.length = 2))) with
    | true => rw [h2] at h; cases h
    | false =>
      rw [h2, cond_false] at h
      rw [Bool.or_eq_false_iff] at h2
      have h0 := of_decide_eq_false h2.1
      cases h3 : l.all inR with
      | false => rw [h3] at h; cases h
      | true => exact ⟨by omega, by omega, rfl⟩
theorem fitsW_inv {k s e : Int} (h : fitsW k s e = true) : 1 ≤ k ∧ k ≤ 3 ∧ Rng s ∧ Rng e := by
  unfold fitsW at h
  rw [Bool.and_eq_true, Bool.and_eq_true, decide_eq_true_eq, decide_eq_true_eq] at h
  obtain ⟨s1, s2, h⟩ := h
  by_cases hk : k = 2
  · rw [decide_eq_true hk, cond_true, Bool.and_eq_true, Bool.and_eq_true, decide_eq_true_eq, decide_eq_true_eq, decide_eq_true_eq] at h
    unfold Rng
    omega
  · rw [decide_eq_false hk, cond_false, Bool.and_eq_true, Bool.or_eq_true, decide_eq_true_eq, decide_eq_true_eq, decide_eq_true_eq] at h
    unfold Rng
    omega
theorem qok_of {q : Qry} (h : clkE q = 0) (hA : rngX q.arg = true) (hW : rngX q.whr = true) : QOk q := by
  unfold clkE at h
  cases c1 : (decide (q.agg < 1) || decide (4 < q.agg) || (!decide (q.late = 1) && !decide (q.late = 2))) with
  | true => rw [c1] at h; cases h
  | false =>
  rw [c1, cond_false] at h
  simp only [Bool.or_eq_false_iff, decide_eq_false_iff_not] at c1
  cases c2 : (decide (q.agg = 1) && decide (0 < q.arg.length)) with
  | true => rw [c2] at h; cases h
  | false =>
  rw [c2, cond_false] at h
  cases c3 : (!decide (q.agg = 1) && !decide (chkN q.arg = 0)) with
  | true =>
    rw [c3, cond_true] at h
    rw [Bool.and_eq_true, Bool.not_eq_true', Bool.not_eq_true', decide_eq_false_iff_not, decide_eq_false_iff_not] at c3
    exact (c3.2 h).elim
  | false =>
  rw [c3, cond_false] at h
  cases c4 : (decide (0 < q.whr.length) && !decide (chkN q.whr = 0)) with
  | true =>
    rw [c4, cond_true] at h
    rw [Bool.and_eq_true, Bool.not_eq_true', decide_eq_false_iff_not] at c4
    exact (c4.2 h).elim
  | false =>
  rw [c4, cond_false] at h
  cases c5 : (!decide (srcE q.src q.join = 0)) with
  | true =>
    rw [c5, cond_true] at h
    rw [Bool.not_eq_true', decide_eq_false_iff_not] at c5
    exact (c5 h).elim
  | false =>
  rw [c5, cond_false] at h
  rw [Bool.not_eq_false', decide_eq_true_eq] at c5
  obtain ⟨s1, s2, s3⟩ := srcE_inv c5
  cases c6 : fitsW q.wk q.ws q.we with
  | false => rw [c6] at h; cases h
  | true =>
  obtain ⟨f1, f2, f3, f4⟩ := fitsW_inv c6
  refine ⟨by omega, by omega, fun ha => ?_, hA, fun hw => ?_, hW, s1, s2, s3, f1, f2, f3, f4⟩
  · rw [decide_eq_false ha, Bool.not_false, Bool.true_and, Bool.not_eq_false', decide_eq_true_eq] at c3; exact c3
  · rw [decide_eq_true hw, Bool.true_and, Bool.not_eq_false', decide_eq_true_eq] at c4; exact c4
def pTx (q : Qry) : List UInt8 := bif decide (clkE q = 0) && decide (lexE (tdT q) = 0) then tdT q else []
def pTe (q : Qry) : Int := bif !decide (clkE q = 0) then clkE q else bif !decide (lexE (tdT q) = 0) then 18 else 0
theorem fin_is {q : Qry} (h : clkE q = 0) : finT (tdT q) = tx9 (pTx q) (pTe q) := by
  unfold finT pTx pTe
  rw [h]
  cases decide (lexE (tdT q) = 0) <;> rfl
theorem bad_is {q : Qry} (h : ¬ clkE q = 0) : tx9 [] (clkE q) = tx9 (pTx q) (pTe q) := by
  unfold pTx pTe
  rw [decide_eq_false h]; rfl
def sTq : FSpec
  | [.agg [.int .u8 ag, .slw 0, .slw 1, .bool j, .slw 2, .int .u8 wk, .int .i64 ws, .int .i64 we, .bool bk, .int .u8 lt]], [⟨false, .nodes A⟩, ⟨false, .ints .i64 S⟩, ⟨false, .nodes W⟩] => .node (rngX A && rngX W) (.leaf ⟨[.str (pTx ⟨ag, A, S, j, W, wk, ws, we, bk, lt⟩), .int .i64 (pTe ⟨ag, A, S, j, W, wk, ws, we, bk, lt⟩)], []⟩) .bad
  | _, _ => .bad
theorem okTq (hB : Laid B) : FnOk (E0 B) 10 sTq := by
  refine fnL (libX9_ok hB) (ls := [eTx]) Tryz.func10 (by kernel_rfl) (by kernel_rfl) (fun x hx => ?_) fun vs bs r h => ?_
  · simp only [List.mem_singleton] at hx; subst hx
    exact ⟨bTx, by kernel_rfl, rfl, loopTx hB⟩
  unfold sTq at h
  split at h
  · rename_i ag j wk ws we bk lt A S W
    rcases T.node_sel h with ⟨hc, h2⟩ | ⟨_, h2⟩
    · simp only [T.sel, Option.some.injEq] at h2; subst h2
      rw [Bool.and_eq_true] at hc
      have key : ∀ q : Qry, rngX q.arg = true → rngX q.whr = true → xO q = tx9 (pTx q) (pTe q) := fun q ha hw => by
        by_cases h0 : clkE q = 0
        · rw [xO_is h0 (qok_of h0 ha hw), fin_is h0]
        · unfold xO
          rw [decide_eq_false h0]; exact bad_is h0
      exact (tTx ⟨ag, A, S, j, W, wk, ws, we, bk, lt⟩).trans (key _ hc.1 hc.2)
    · simp [T.sel] at h2
  · simp [T.sel] at h
end Go.Proofs.YtdckpbeioemopabGreatDoor
