/-
  Texts put together: R9Par, R9Cmp, R9Law.
-/
import Derived.Test.YtdckpbeioemopabGreatDoorR9C
import Derived.Test.YtdckpbeioemopabGreatDoorLxB
import Derived.Test.YtdckpbeioemopabGreatDoorClsA
namespace Go.Proofs.YtdckpbeioemopabGreatDoor.R9
open Go.Am Go Go.Proofs.YtdckpbeioemopabGreatDoor Go.Proofs.YtdckpbeioemopabGreatDoor.Pr
set_option maxRecDepth 100000
variable {B : Nat → Option Obj}
def qOf : Option Out → Qry
  | some ⟨[], [⟨_, .gen _ [[_, _, _, .int _ g, _, _, .bool j, _, .int _ wk, .int _ ws, .int _ we, .bool bk, .int _ lt, _]]⟩, _, ⟨_, .nodes A⟩, ⟨_, .ints _ S⟩, ⟨_, .nodes W⟩]⟩ => ⟨g, A, S, j, W, wk, ws, we, bk, lt⟩
  | _ => qZ
def e9 (s : List UInt8) (L : List Tok) : Qry := qOf (FQ s L 0)
def zQ (L : List Tok) : QR := pQ L 0
def atZ (a e g : Int) (A : List Nod) (S : List Int) (j : Bool) (W : List Nod) (wk ws we : Int) (bk : Bool) (lt : Int) : Bool := decide (a = 0 ∧ e = 0 ∧ g = 0 ∧ wk = 0 ∧ ws = 0 ∧ we = 0 ∧ lt = 0) && (A.isEmpty && (S.isEmpty && (W.isEmpty && (!j && !bk))))
def sQ9 : FSpec
  | [.ptr 0 0 0], [⟨true, .gen ty [[.str s, .slw 1, .int .i64 a, .int .u8 g, .slw 2, .slw 3, .bool j, .slw 4, .int .u8 wk, .int .i64 ws, .int .i64 we, .bool bk, .int .u8 lt, .int .i64 e]]⟩, ⟨false, .toks L⟩, ⟨true, .nodes A⟩, ⟨true, .ints .i64 S⟩, ⟨true, .nodes W⟩] => .node (sameTys ty rTy && (tkO L && atZ a e g A S j W wk ws we bk lt)) (.node (decide ((zQ L).d = 0))
      (.leaf ⟨[], rp s L (zQ L).a (zQ L).q.agg (zQ L).q.arg (zQ L).q.src (zQ L).q.join (zQ L).q.whr (zQ L).q.wk (zQ L).q.ws (zQ L).q.we (zQ L).q.byKey (zQ L).q.late 0⟩)
      (.leaf ⟨[], rp s L (zQ L).c (e9 s L).agg (e9 s L).arg (e9 s L).src (e9 s L).join (e9 s L).whr (e9 s L).wk (e9 s L).ws (e9 s L).we (e9 s L).byKey (e9 s L).late (erN (zQ L).d)⟩)) .bad
  | _, _ => .bad
theorem atZ_is {a e g : Int} {A : List Nod} {S : List Int} {j : Bool} {W : List Nod} {wk ws we : Int} {bk : Bool} {lt : Int} (h : atZ a e g A S j W wk ws we bk lt = true) : a = 0 ∧ e = 0 ∧ g = 0 ∧ A = [] ∧ S = [] ∧ j = false ∧ W = [] ∧ wk = 0 ∧ ws = 0 ∧ we = 0 ∧ bk = false ∧ lt = 0 := by
  unfold atZ at h
  simp only [Bool.and_eq_true, Bool.not_eq_true', List.isEmpty_iff] at h
  obtain ⟨h1, h2, h3, h4, h5, h6⟩ := h
  obtain ⟨g1, g2, g3, g4, g5, g6, g7⟩ := of_decide_eq_true h1
  exact ⟨g1, g2, g3, h2, h3, h5, h4, g4, g5, g6, h6, g7⟩
theorem okQ9 : FnOk (E0 B) 85 sQ9 := by
  refine fnL lib6_ok (ls := [eUn9]) Tryz.func85 (by kernel_rfl) (by kernel_rfl) (fun x hx => ?_) fun vs bs r h => ?_
  · simp only [List.mem_singleton] at hx; subst hx
    exact ⟨bUn9, by kernel_rfl, rfl, loopUn9⟩
  · unfold sQ9 at h
    split at h
    · rename_i ty s a g j wk ws we bk lt e L A S W
      rcases T.node_sel h with ⟨hc, h2⟩ | ⟨_, h2⟩
      · rw [Bool.and_eq_true, Bool.and_eq_true] at hc
        have hty := sameTys_eq hc.1
        have hT := tkO_is hc.2.1
        obtain ⟨rfl, rfl, rfl, rfl, rfl, rfl, rfl, rfl, rfl, rfl, rfl, rfl⟩ := atZ_is hc.2.2
        subst hty
        refine (tQr s L 0).trans ?_
        obtain ⟨b, q, f1, f2, f3, f4⟩ := fQ (s := s) hT (a := 0) (Int.le_refl 0) (by omega)
        have he9 : e9 s L = q := by unfold e9; rw [f1]; rfl
        rcases T.node_sel h2 with ⟨h3, h4⟩ | ⟨h3, h4⟩
        · obtain ⟨rfl, rfl⟩ := f2 (of_decide_eq_true h3)
          rw [f1, show (pQ L 0).d = 0 from of_decide_eq_true h3]
          exact h4
        · have h3 : ¬ (pQ L 0).d = 0 := of_decide_eq_false h3
          have := f3 h3
          subst this
          rw [f1, ← h4, he9]
          show fin s L (pQ L 0).c q (pQ L 0).d = fin s L (pQ L 0).c q (erN (pQ L 0).d)
          rw [erN_is f4 h3]
      · simp [T.sel] at h2
    · simp [T.sel] at h
noncomputable def lib7 : Tb := (85, [2, 3, 4], sQ9) :: (84, [], Lx.sAll) :: []
theorem lib7_ok (hB : Laid B) : TbOk B lib7 := (TbOk.nil.add (Lx.okAllR hB)).add okQ9
def p9O (n e : Int) : Option Out := some ⟨[qZ.av 0 1 2, i64 n, i64 e], [nb true [], lb true [], nb true []]⟩
def p9E (s : List UInt8) (L : List Tok) (c e : Int) : Option Out := bif decide (c < (L.length : Int)) then Ck.inb c L.length (p9O (tkA L c).pos e) else p9O (s.length : Int) e
def p9L (s : List UInt8) (L : List Tok) : Option Out := bif decide ((zQ L).d = 0) then some ⟨[(zQ L).q.av 0 1 2, i64 s.length, i64 0], [nb true (zQ L).q.arg, lb true (zQ L).q.src, nb true (zQ L).q.whr]⟩ else p9E s L (zQ L).c (erN (zQ L).d)
theorem tP9 (s : List UInt8) : runT B lib7 Tryz.f51 [.str s] [] = bif !decide (lexE s = 0) then p9O (lexN s) (lexE s) else bif tkO (lexL s) && true then p9L s (lexL s) else none := by kernel_rfl
def sPar9 : FSpec
  | [.str s], [] => .leaf ⟨[(prQ s).av 0 1 2, i64 (prN s), i64 (prE s)], [nb true (prQ s).arg, lb true (prQ s).src, nb true (prQ s).whr]⟩
  | _, _ => .bad
theorem okPar9 (hB : Laid B) : FnOk (E0 B) 51 sPar9 := by
  refine fnT (lib7_ok hB) Tryz.func51 (by kernel_rfl) (by kernel_rfl) fun vs bs r h => ?_
  unfold sPar9 at h
  split at h
  · rename_i s
    simp only [T.sel, Option.some.injEq] at h; subst h
    refine (tP9 s).trans ?_
    by_cases he : lexE s = 0
    · have hL := (lex_tk he).1
      have hc := cQ hL
      obtain ⟨_, _, _, _, _, hnn⟩ := fQ (s := s) hL (a := 0) (Int.le_refl 0) (by omega)
      rw [decide_eq_true he, tkO_of hL]
      unfold p9L zQ prQ prN prE prC
      rw [decide_eq_true he]
      simp only [Bool.not_true, cond_false, Bool.and_self, cond_true]
      by_cases hd : (pQ (lexL s) 0).d = 0
      · rw [decide_eq_true hd, hd]; rfl
      · rw [decide_eq_false hd, erN_is hnn hd]
        obtain ⟨k1, k2⟩ := hc hd
        unfold p9E
        by_cases hk : (pQ (lexL s) 0).c < ((lexL s).length : Int)
        · rw [decide_eq_true hk, cond_false, cond_true, inb_a k1 hk]; rfl
        · rw [decide_eq_false hk]; rfl
    · unfold prQ prN prE
      rw [decide_eq_false he]
      simp only [Bool.not_false, cond_true, cond_false]
      rw [decide_eq_false he]; rfl
  · simp [T.sel] at h
end Go.Proofs.YtdckpbeioemopabGreatDoor.R9
namespace Go.Proofs.YtdckpbeioemopabGreatDoor.R9
open Go.Am Go Go.Proofs.YtdckpbeioemopabGreatDoor Go.Proofs.YtdckpbeioemopabGreatDoor.Pr
set_option maxRecDepth 100000
variable {B : Nat → Option Obj}
theorem tRt (q : Qry) : runT B Ck.lb5 Tryz.f52 [q.av 0 1 2] (Ck.qbs q) = bif decide ((0 : Int) < (q.arg.length : Int)) then Ck.wAt q.arg false (Ck.wQR q) else Ck.wQR q := by kernel_rfl
theorem pos_cast (L : List Nod) : decide ((0 : Int) < (L.length : Int)) = decide (0 < L.length) := by
  by_cases h : 0 < L.length
  · rw [decide_eq_true h, decide_eq_true (by omega)]
  · rw [decide_eq_false h, decide_eq_false (by omega)]
def sRt : FSpec
  | [.agg [.int .u8 ag, .slw 0, .slw 1, .bool j, .slw 2, .int .u8 wk, .int .i64 ws, .int .i64 we, .bool bk, .int .u8 lt]], [⟨false, .nodes A⟩, ⟨false, .ints .i64 S⟩, ⟨false, .nodes W⟩] =>
    .node (decide (clkE ⟨ag, A, S, j, W, wk, ws, we, bk, lt⟩ = 0)) (.leaf ⟨[.int .i64 (ckR ⟨ag, A, S, j, W, wk, ws, we, bk, lt⟩).1, .int .i64 (ckR ⟨ag, A, S, j, W, wk, ws, we, bk, lt⟩).2], []⟩) .bad
  | _, _ => .bad
theorem okRt : FnOk (E0 B) 52 sRt := by
  refine fnT Ck.lb5_ok Tryz.func52 (by kernel_rfl) (by kernel_rfl) fun vs bs r h => ?_
  unfold sRt at h
  split at h
  · rename_i ag j wk ws we bk lt A S W
    rcases T.node_sel h with ⟨hc, h2⟩ | ⟨_, h2⟩
    · refine (tRt ⟨ag, A, S, j, W, wk, ws, we, bk, lt⟩).trans ?_
      unfold Ck.wQR
      rw [pos_cast, pos_cast]
      exact (Ck.ck_core (of_decide_eq_true hc)).trans h2
    · simp [T.sel] at h2
  · simp [T.sel] at h
def cE (s : List UInt8) : Int := bif decide (prE s = 0) then (ckR (prQ s)).2 else prE s
def cQ (s : List UInt8) : Qry := bif decide (cE s = 0) then prQ s else qZ
def cN (s : List UInt8) : Int := bif decide (prE s = 0) then (bif decide ((ckR (prQ s)).2 = 0) then prN s else (ckR (prQ s)).1) else prN s
noncomputable def libC : Tb := (52, [], sRt) :: (51, [], sPar9) :: []
theorem libC_ok (hB : Laid B) : TbOk B libC := (TbOk.nil.add (okPar9 hB)).add okRt
noncomputable def libK : Tb := (13, [], Ck.sChk) :: (11, [], sPar) :: []
theorem libK_ok (hB : Laid B) : TbOk B libK := (TbOk.nil.add (okPar hB)).add Ck.okChk
def coO (b : Bool) (n e : Int) (q : Qry) : Option Out := some ⟨[q.av 0 1 2, i64 n, i64 e], [nb b q.arg, lb b q.src, nb b q.whr]⟩
theorem tCr (s : List UInt8) : runT B libC Tryz.f20 [.str s] [] = bif !decide (prE s = 0) then coO true (prN s) (prE s) qZ else bif decide (clkE (prQ s) = 0) then (bif !decide ((ckR (prQ s)).2 = 0) then coO true (ckR (prQ s)).1 (ckR (prQ s)).2 qZ else coO true (prN s) 0 (prQ s)) else none := by kernel_rfl
theorem tCk (s : List UInt8) : runT B libK Tryz.f14 [.str s] [] = bif !decide (prE s = 0) then coO true (prN s) (prE s) qZ else bif !decide ((ckE (prQ s)).2 = 0) then coO true (ckE (prQ s)).1 (ckE (prQ s)).2 qZ else coO false (prN s) 0 (prQ s) := by kernel_rfl
def sCmp : FSpec
  | [.str s], [] => .leaf ⟨[(cQ s).av 0 1 2, i64 (cN s), i64 (cE s)], [nb false (cQ s).arg, lb false (cQ s).src, nb false (cQ s).whr]⟩
  | _, _ => .bad
def crO (s : List UInt8) : Option Out := bif !decide (prE s = 0) then coO true (prN s) (prE s) qZ else bif decide (clkE (prQ s) = 0) then (bif !decide ((ckR (prQ s)).2 = 0) then coO true (ckR (prQ s)).1 (ckR (prQ s)).2 qZ else coO true (prN s) 0 (prQ s)) else none
def ckO (s : List UInt8) : Option Out := bif !decide (prE s = 0) then coO true (prN s) (prE s) qZ else bif !decide ((ckE (prQ s)).2 = 0) then coO true (ckE (prQ s)).1 (ckE (prQ s)).2 qZ else coO false (prN s) 0 (prQ s)
theorem pr_qv {s : List UInt8} (h : prE s = 0) : QV (lexL s) (prQ s) := by
  by_cases he : lexE s = 0
  · have hd : (pQ (lexL s) 0).d = 0 := by
      have := h
      unfold prE at this
      rw [decide_eq_true he] at this
      exact this
    have hv := invQ (lex_tk he).1 hd
    unfold prQ
    rw [decide_eq_true h]
    exact hv
  · have := h
    unfold prE at this
    rw [decide_eq_false he] at this
    exact (he this).elim
theorem ck_is {s : List UInt8} (h : prE s = 0) : ckE (prQ s) = ckR (prQ s) := by
  unfold ckE
  rw [decide_eq_true (pr_qv h).ok]; rfl
def Tc (s : List UInt8) (z : Option Out) : Prop := ∃ o, z = some o ∧ [(cQ s).av 0 1 2, i64 (cN s), i64 (cE s)] = o.vals ∧ [nb false (cQ s).arg, lb false (cQ s).src, nb false (cQ s).whr] = o.blks.map lendB
theorem co_tells {s : List UInt8} {b : Bool} {n e : Int} {q : Qry} (h1 : cN s = n) (h2 : cE s = e) (h3 : cQ s = q) : Tc s (coO b n e q) := by
  subst h1 h2 h3
  exact ⟨_, rfl, rfl, rfl⟩
theorem cr_tells (s : List UInt8) : Tc s (crO s) := by
  unfold crO
  by_cases h : prE s = 0
  · rw [decide_eq_true h, decide_eq_true (pr_qv h).ok]
    by_cases h2 : (ckR (prQ s)).2 = 0
    · rw [decide_eq_true h2]
      have he : cE s = 0 := by unfold cE; rw [decide_eq_true h]; exact h2
      exact co_tells (by unfold cN; rw [decide_eq_true h, decide_eq_true h2]; rfl) he (by unfold cQ; rw [decide_eq_true he]; rfl)
    · rw [decide_eq_false h2]
      have he : cE s = (ckR (prQ s)).2 := by unfold cE; rw [decide_eq_true h]; rfl
      exact co_tells (by unfold cN; rw [decide_eq_true h, decide_eq_false h2]; rfl) he (by unfold cQ; rw [he, decide_eq_false h2]; rfl)
  · rw [decide_eq_false h]
    have he : cE s = prE s := by unfold cE; rw [decide_eq_false h]; rfl
    exact co_tells (by unfold cN; rw [decide_eq_false h]; rfl) he (by unfold cQ; rw [he, decide_eq_false h]; rfl)
theorem ck_tells (s : List UInt8) : Tc s (ckO s) := by
  unfold ckO
  by_cases h : prE s = 0
  · rw [decide_eq_true h, ck_is h]
    by_cases h2 : (ckR (prQ s)).2 = 0
    · rw [decide_eq_true h2]
      have he : cE s = 0 := by unfold cE; rw [decide_eq_true h]; exact h2
      exact co_tells (by unfold cN; rw [decide_eq_true h, decide_eq_true h2]; rfl) he (by unfold cQ; rw [decide_eq_true he]; rfl)
    · rw [decide_eq_false h2]
      have he : cE s = (ckR (prQ s)).2 := by unfold cE; rw [decide_eq_true h]; rfl
      exact co_tells (by unfold cN; rw [decide_eq_true h, decide_eq_false h2]; rfl) he (by unfold cQ; rw [he, decide_eq_false h2]; rfl)
  · rw [decide_eq_false h]
    have he : cE s = prE s := by unfold cE; rw [decide_eq_false h]; rfl
    exact co_tells (by unfold cN; rw [decide_eq_false h]; rfl) he (by unfold cQ; rw [he, decide_eq_false h]; rfl)
def sCr : FSpec
  | [.str s], [] => optT (crO s)
  | _, _ => .bad
def sCk : FSpec
  | [.str s], [] => optT (ckO s)
  | _, _ => .bad
theorem okCr (hB : Laid B) : FnOk (E0 B) 20 sCmp := by
  have h0 : FnOk (E0 B) 20 sCr := by
    refine fnT (libC_ok hB) Tryz.func20 (by kernel_rfl) (by kernel_rfl) fun vs bs r h => ?_
    unfold sCr at h
    split at h
    · rename_i s
      rw [optT_sel] at h
      exact (tCr s).trans h
    · simp [T.sel] at h
  refine fnOk_lend h0 fun vs bs o' h => ?_
  unfold sCmp at h
  split at h
  · rename_i s
    simp only [T.sel, Option.some.injEq] at h; subst h
    obtain ⟨o, h1, h2, h3⟩ := cr_tells s
    refine ⟨o, ?_, h2, h3⟩
    show (optT _).sel = _
    rw [optT_sel]; exact h1
  · simp [T.sel] at h
theorem okCk (hB : Laid B) : FnOk (E0 B) 14 sCmp := by
  have h0 : FnOk (E0 B) 14 sCk := by
    refine fnT (libK_ok hB) Tryz.func14 (by kernel_rfl) (by kernel_rfl) fun vs bs r h => ?_
    unfold sCk at h
    split at h
    · rename_i s
      rw [optT_sel] at h
      exact (tCk s).trans h
    · simp [T.sel] at h
  refine fnOk_lend h0 fun vs bs o' h => ?_
  unfold sCmp at h
  split at h
  · rename_i s
    simp only [T.sel, Option.some.injEq] at h; subst h
    obtain ⟨o, h1, h2, h3⟩ := ck_tells s
    refine ⟨o, ?_, h2, h3⟩
    show (optT _).sel = _
    rw [optT_sel]; exact h1
  · simp [T.sel] at h
end Go.Proofs.YtdckpbeioemopabGreatDoor.R9
namespace Go.Proofs.YtdckpbeioemopabGreatDoor.R9
open Go.Am Go Go.Proofs.YtdckpbeioemopabGreatDoor Go.Proofs.YtdckpbeioemopabGreatDoor.Pr
set_option maxRecDepth 100000
variable {B : Nat → Option Obj}
def fbQ (b : Bool) (z : Option Out) : Option Out := bif b then z else rb false
def rS (b : Bool) (z : Option Out) : Option Out := bif b then z else none
def winE (p q : Qry) : Bool := decide (p.wk = q.wk) && (decide (p.ws = q.ws) && (decide (p.we = q.we) && true))
def eqlO (p q : Qry) (z : Option Out) : Option Out := fbQ (decide (p.agg = q.agg)) (rS (decide (p.arg.length ≤ 1000)) (fbQ (all2 Ck.eqNoP p.arg q.arg) (rS (decide (p.src.length ≤ 1000)) (fbQ (all2 Ck.eqInt p.src q.src) (fbQ (p.join == q.join) (rS (decide (p.whr.length ≤ 1000)) (fbQ (all2 Ck.eqNoP p.whr q.whr) (fbQ (winE p q) (fbQ (p.byKey == q.byKey) (fbQ (decide (p.late = q.late))
  (rS (decide (p.arg.length ≤ 1000)) (fbQ (all2 eqNod p.arg q.arg) (rS (decide (p.whr.length ≤ 1000)) (fbQ (all2 eqNod p.whr q.whr) z))))))))))))))
noncomputable def libL : Tb := (14, [], sCmp) :: (20, [], sCmp) :: Ck.lb5
theorem libL_ok (hB : Laid B) : TbOk B libL := (Ck.lb5_ok.add (okCr hB)).add (okCk hB)
def lwO (s : List UInt8) : Option Out := bif decide ((1000 : Int) < (s.length : Int)) then rb true else eqlO (cQ s) (cQ s) (fbQ (decide (cN s = cN s)) (rb (decide (cE s = cE s))))
theorem tLaw (s : List UInt8) : runT B libL Tryz.f5 [.str s] [] = lwO s := by kernel_rfl
theorem all2_self {α : Type} {f : α → α → Bool} (h : ∀ x, f x x = true) : ∀ l : List α, all2 f l l = true
  | [] => rfl
  | x :: r => by
    show (f x x && all2 f r r) = true
    rw [h x, all2_self h r]; rfl
theorem noP_self (x : Nod) : Ck.eqNoP x x = true := by simp [Ck.eqNoP]
theorem nod_self (x : Nod) : eqNod x x = true := by simp [eqNod]
theorem eql_self {p : Qry} (h1 : p.arg.length ≤ 1000) (h2 : p.src.length ≤ 1000) (h3 : p.whr.length ≤ 1000) (z : Option Out) : eqlO p p z = z := by
  unfold eqlO fbQ rS winE
  rw [decide_eq_true h1, decide_eq_true h2, decide_eq_true h3, all2_self noP_self, all2_self noP_self, all2_self (f := Ck.eqInt) (fun x => by simp [Ck.eqInt]), all2_self nod_self, all2_self nod_self]
  simp
theorem qv_len {L : List Tok} {q : Qry} (h : QV L q) : q.arg.length ≤ 60 ∧ q.src.length ≤ 4 ∧ q.whr.length ≤ 60 := by
  obtain ⟨c1, c2, c3, c4, c5, c6⟩ := clk_inv h.ok
  obtain ⟨s1, s2, _⟩ := srcE_inv c5
  refine ⟨?_, s1, ?_⟩
  · by_cases h1 : q.agg = 1
    · rw [c2 h1]; simp
    · exact (chk_len (c3 h1)).2
  · by_cases h1 : 0 < q.whr.length
    · exact (chk_len (c4 h1)).2
    · omega
theorem lw_true (s : List UInt8) : lwO s = rb true := by
  have hq : (cQ s).arg.length ≤ 60 ∧ (cQ s).src.length ≤ 4 ∧ (cQ s).whr.length ≤ 60 := by
    unfold cQ
    by_cases he : cE s = 0
    · rw [decide_eq_true he, cond_true]
      have hp : prE s = 0 := by
        by_cases hp : prE s = 0
        · exact hp
        · unfold cE at he
          rw [decide_eq_false hp] at he
          exact (hp he).elim
      exact qv_len (pr_qv hp)
    · rw [decide_eq_false he]
      exact ⟨show 0 ≤ 60 by omega, show 0 ≤ 4 by omega, show 0 ≤ 60 by omega⟩
  unfold lwO
  cases decide ((1000 : Int) < (s.length : Int)) with
  | true => rfl
  | false =>
    rw [cond_false, eql_self (by omega) (by omega) (by omega)]
    unfold fbQ
    simp
def sCo (_ : Nat → Option Obj) : FSpec
  | [.str _], [] => .leaf ⟨[.bool true], []⟩
  | _, _ => .bad
theorem okCo (hB : Laid B) : FnOk (E0 B) 5 (sCo B) := by
  refine fnT (libL_ok hB) Tryz.func5 (by kernel_rfl) (by kernel_rfl) fun vs bs r h => ?_
  unfold sCo at h
  split at h
  · rename_i s
    simp only [T.sel, Option.some.injEq] at h; subst h
    exact (tLaw s).trans (lw_true s)
  · simp [T.sel] at h
end Go.Proofs.YtdckpbeioemopabGreatDoor.R9
