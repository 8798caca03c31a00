/-
  Texts put together: PrsIs, PrsPrim, PrsPrim2, PrsPrim3, PrsPrim4, PrsOper.
-/
import Derived.Test.YtdckpbeioemopabGreatDoorPrsB
import Derived.Test.YtdckpbeioemopabGreatDoorLxC
namespace Go.Proofs.YtdckpbeioemopabGreatDoor
open Go.Am
set_option maxRecDepth 100000
variable {B : Nat → Option Obj}
def isP (L : List Tok) (at' : Int) (s : List UInt8) : Bool := (L.drop at'.toNat).head?.any (Tok.is s)
def isO (L : List Tok) (at' e : Int) (b : Bool) : Option Out := some ⟨[.bool b], [pB 1 at' e, tkb L]⟩
theorem tIs (L : List Tok) (s : List UInt8) (at' e : Int) : runT B lib9 Tryz.f166 [.ptr 0 0 0, .str s] [pB 1 at' e, tkb L] =
    bif decide (at' < (L.length : Int)) then inb' at' L.length (bif !decide ((L.getD at'.toNat default).kind = 1) then inb' at' L.length (isO L at' e (decide ((L.getD at'.toNat default).text = s))) else isO L at' e false) else isO L at' e false := by kernel_rfl
def sIs : FSpec
  | [.ptr 0 0 0, .str s], [⟨true, .gen [a, b, c] [[.slw 1, .int .i64 at', .int .i64 e]]⟩, ⟨false, .toks L⟩] => .node (tysB a b c && decide (0 ≤ at')) (.leaf ⟨[.bool (isP L at' s)], [pB 1 at' e, tkb L]⟩) .bad
  | _, _ => .bad
theorem okIs : FnOk (E0 B) 166 sIs := by
  refine fnT lib9_ok Tryz.func166 (by kernel_rfl) (by kernel_rfl) fun vs bs r h => ?_
  unfold sIs at h
  split at h
  · rename_i s a b c at' e L
    rcases T.node_sel h with ⟨hg, h2⟩ | ⟨_, h2⟩
    · rw [Bool.and_eq_true] at hg
      obtain ⟨rfl, rfl, rfl⟩ := tysB_is hg.1
      have h0 := of_decide_eq_true hg.2
      obtain ⟨a, rfl⟩ : ∃ a : Nat, at' = a := ⟨at'.toNat, by omega⟩
      simp only [T.sel, Option.some.injEq] at h2; subst h2
      refine (tIs L s a e).trans ?_
      unfold isP
      rw [Int.toNat_natCast]
      cases hr : L.drop a with
      | nil =>
        have : L.length ≤ a := List.drop_eq_nil_iff.1 hr
        rw [decide_eq_false (by omega)]; rfl
      | cons t q =>
        obtain ⟨_, h3, _, _⟩ := tkP_is hr
        have ht : L.getD a default = t := by
          rw [List.drop_eq_getElem_cons h3] at hr
          injection hr with h1 h2
          rw [List.getD_eq_getElem?_getD, List.getElem?_eq_getElem h3]; exact h1
        rw [decide_eq_true (show (a : Int) < (L.length : Int) by omega), cond_true, inb'_is h3, inb'_is h3, ht]
        unfold Tok.is isO
        simp only [List.head?_cons, Option.any_some]
        cases decide (t.kind = 1) <;> rfl
    · simp [T.sel] at h2
  · simp [T.sel] at h
end Go.Proofs.YtdckpbeioemopabGreatDoor
namespace Go.Proofs.YtdckpbeioemopabGreatDoor
open Go.Am
set_option maxRecDepth 100000
variable {B : Nat → Option Obj}
noncomputable def libP (k : Nat) : Tb := (166, [], sIs) :: (96, [], Lx.sReadP) :: lib10 k
def mkP (L : List Tok) (at' tk k n : Int) : Option Out := bif decide (0 ≤ tk ∧ tk < (L.length : Int)) && (Ex.leaf k n (tkP L tk)).ok then pOut L (mkA 0 at' tk [⟨k, n, 0, 0, tkP L tk⟩]) (mkE 0 [⟨k, n, 0, 0, tkP L tk⟩]) (mkX (decide (chkN [⟨k, n, 0, 0, tkP L tk⟩] = 0)) [⟨k, n, 0, 0, tkP L tk⟩]) else none
def isC (L : List Tok) (at' : Int) (s : List UInt8) (x y : Option Out) : Option Out := bif decide (0 ≤ at') then (bif isP L at' s then x else y) else none
def isNo (L : List Tok) (at' : Int) (s : List UInt8) (x y : Option Out) : Option Out := bif decide (0 ≤ at') then (bif !isP L at' s then y else x) else none
def numP (L : List Tok) (at' : Int) : Option Out := inb' at' L.length (bif Lx.rdG (L.getD at'.toNat default).text then mkP L (w64 (at' + 1)) at' 1 (rdN (L.getD at'.toNat default).text) else none)
def finP (L : List Tok) (x : PR) : Option Out := bif !decide (prEr x = 0) then pOut L (prAt L x) (prEr x) [] else pOut L (w64 (prAt L x + 1)) (prEr x) (prNd x)
def parX (L : List Tok) (x : PR) : Option Out := bif prIn x then (bif decide (prEr x = 0) then isNo L (prAt L x) [41] (finP L x) (pOut L (prAt L x) 12 []) else finP L x) else none
def parP (k : Nat) (L : List Tok) (a : Int) : Option Out := bif decide ((1 : Int) ≤ 1 ∧ (1 : Int) ≤ 6) && okP a L then parX L (pE k 1 (L.drop a.toNat)) else none
def restP (k : Nat) (L : List Tok) (at' : Int) : Option Out := isC L at' [107] (mkP L (w64 (at' + 1)) at' 2 0) (isC L at' [116] (mkP L (w64 (at' + 1)) at' 3 0) (isC L at' [118] (mkP L (w64 (at' + 1)) at' 4 0) (isNo L at' [40] (parP k L (w64 (at' + 1))) (pOut L at' 12 []))))
theorem tPrim (k : Nat) (L : List Tok) (at' : Int) : (runT B (libP k) Tryz.f164 [.ptr 0 0 0] [pB 1 at' 0, tkb L]) =
    bif decide (at' < (L.length : Int)) then inb' at' L.length (bif decide ((L.getD at'.toNat default).kind = 1) then numP L at' else restP k L at') else restP k L at' := by kernel_rfl
end Go.Proofs.YtdckpbeioemopabGreatDoor
namespace Go.Proofs.YtdckpbeioemopabGreatDoor
open Go.Am
set_option maxRecDepth 100000
variable {B : Nat → Option Obj}
theorem mkP_is {L : List Tok} {a : Nat} {t : Tok} {q : List Tok} (h : L.drop a = t :: q) (ht : L.all okTk = true) {k n : Int} (hk : 1 ≤ k ∧ k ≤ 4) (hn : 0 ≤ n) (hkn : k = 1 ∨ n = 0) (at' : Int) : mkP L at' a k n = pOut L at' 0 ((Ex.leaf k n t.pos).flat 0) := by
  obtain ⟨h1, h2, h3, h4⟩ := tkP_is h
  have hp := of_decide_eq_true (List.all_eq_true.1 ht t h4)
  have hok : (Ex.leaf k n t.pos).ok = true := decide_eq_true ⟨hk.1, hk.2, hn, hkn, hp.1, hp.2.1⟩
  have hc : chkN [⟨k, n, 0, 0, t.pos⟩] = 0 := (chkN_flat hok).trans (by simp [Ex.size, Ex.depth])
  unfold mkP
  rw [h1, hok, decide_eq_true (show 0 ≤ (a : Int) ∧ (a : Int) < (L.length : Int) from ⟨by omega, by omega⟩), hc]
  unfold mkA mkE mkX
  rw [hc]; rfl
theorem isP_cons {L : List Tok} {a : Nat} {t : Tok} {q : List Tok} (h : L.drop a = t :: q) (s : List UInt8) : isP L a s = t.is s := by
  unfold isP
  rw [Int.toNat_natCast, h]; rfl
theorem isP_nil {L : List Tok} {a : Nat} (h : L.drop a = []) (s : List UInt8) : isP L a s = false := by
  unfold isP
  rw [Int.toNat_natCast, h]; rfl
def primR (k : Nat) (L : List Tok) (at' : Int) : Option Out := bif decide (at' < (L.length : Int)) then inb' at' L.length (bif decide ((L.getD at'.toNat default).kind = 1) then numP L at' else restP k L at') else restP k L at'
theorem isC_is {L : List Tok} {a : Nat} (s : List UInt8) (x y : Option Out) : isC L a s x y = bif isP L a s then x else y := by
  unfold isC; rw [decide_eq_true (by omega)]; rfl
theorem isNo_is {L : List Tok} {a : Nat} (s : List UInt8) (x y : Option Out) : isNo L a s x y = bif isP L a s then x else y := by
  unfold isNo; rw [decide_eq_true (by omega)]
  cases isP L a s <;> rfl
theorem prim_nil {k : Nat} {L : List Tok} {a : Nat} (h : L.drop a = []) (ha : a ≤ L.length) : primR k L a = pOut L (prAt L (.bad 12 0)) 12 [] := by
  have hl : L.length ≤ a := List.drop_eq_nil_iff.1 h
  unfold primR restP
  rw [decide_eq_false (by omega)]
  simp only [cond_false, isC_is, isNo_is, isP_nil h, prAt]
  rw [show a = L.length from by omega]
  simp
theorem prim_head {k : Nat} {L : List Tok} {a : Nat} {t : Tok} {q : List Tok} (h : L.drop a = t :: q) : primR k L a = bif decide (t.kind = 1) then numP L a else restP k L a := by
  obtain ⟨h1, h2, h3, h4⟩ := tkP_is h
  have ht : L.getD a default = t := by
    rw [List.drop_eq_getElem_cons h2] at h
    injection h with h1 h2
    rw [List.getD_eq_getElem?_getD, List.getElem?_eq_getElem ‹a < L.length›]; exact h1
  unfold primR
  rw [decide_eq_true (show (a : Int) < (L.length : Int) by omega), cond_true, inb'_is h2, Int.toNat_natCast, ht]
theorem prim_num {L : List Tok} {a : Nat} {t : Tok} {q : List Tok} (h : L.drop a = t :: q) (ht : L.all okTk = true) (hL : L.length ≤ 200) : numP L a = pOut L (prAt L (.ok (.leaf 1 (rdN t.text) t.pos) q)) 0 ((Ex.leaf 1 (rdN t.text) t.pos).flat 0) := by
  obtain ⟨h1, h2, h3, h4⟩ := tkP_is h
  have hp := of_decide_eq_true (List.all_eq_true.1 ht t h4)
  have hg : L.getD a default = t := by
    have h' := h
    rw [List.drop_eq_getElem_cons h2] at h'
    injection h' with h1 h2
    rw [List.getD_eq_getElem?_getD, List.getElem?_eq_getElem ‹a < L.length›]; exact h1
  unfold numP
  rw [inb'_is h2, Int.toNat_natCast, hg, show Lx.rdG t.text = true from decide_eq_true hp.2.2, cond_true, mkP_is h ht (by omega) (rdN_nn _) (.inl rfl), w64_rng (show Rng ((a : Int) + 1) by unfold Rng; omega)]
  simp only [prAt]
  rw [show (a : Int) + 1 = (L.length : Int) - (q.length : Int) from by omega]
end Go.Proofs.YtdckpbeioemopabGreatDoor
namespace Go.Proofs.YtdckpbeioemopabGreatDoor
open Go.Am
set_option maxRecDepth 100000
theorem drop_suf {L p r : List Tok} {a : Nat} (h : L.drop a = p ++ r) (hr : r.length ≤ L.length) (hp : p ≠ []) : L.drop (L.length - r.length) = r := by
  have hl := congrArg List.length h
  rw [List.length_drop, List.length_append] at hl
  have hpl : 0 < p.length := List.length_pos_iff.2 hp
  have : L.length - r.length = a + p.length := by omega
  rw [this, ← List.drop_drop, h, List.drop_left]
theorem par_ok {L : List Tok} {e : Ex} {r : List Tok} {n : Nat} (hn : L.drop n = r) (hle : n + r.length = L.length) (hL : L.length ≤ 200) : parX L (.ok e r) = pOut L (prAt L (shutP e r)) (prEr (shutP e r)) (prNd (shutP e r)) := by
  unfold parX
  have hat : prAt L (.ok e r) = (n : Int) := by simp only [prAt]; omega
  rw [show prIn (.ok e r) = true from rfl, cond_true, show prEr (.ok e r) = 0 from rfl, decide_eq_true (rfl : (0 : Int) = 0), cond_true, hat, isNo_is]
  cases r with
  | nil =>
    rw [isP_nil hn, cond_false]
    show _ = pOut L ((L.length : Int) - (0 : Nat)) 12 []
    simp only [List.length_nil] at hle
    rw [show (n : Int) = (L.length : Int) - (0 : Nat) from by omega]
  | cons c q =>
    rw [isP_cons hn, shut_cons]
    simp only [List.length_cons] at hle
    cases hc : c.is [41] with
    | false =>
      simp only [cond_false, prAt, prEr, prNd]
      rw [show (n : Int) = (L.length : Int) - ((q.length + 1 : Nat) : Int) from by omega]
    | true =>
      simp only [cond_true]
      unfold finP
      rw [show prEr (.ok e (c :: q)) = 0 from rfl, hat, w64_rng (show Rng ((n : Int) + 1) by unfold Rng; omega)]
      show pOut L ((n : Int) + 1) 0 (e.flat 0) = pOut L ((L.length : Int) - q.length) 0 (e.flat 0)
      rw [show (n : Int) + 1 = (L.length : Int) - q.length from by omega]
theorem par_is {k : Nat} {L : List Tok} {a : Nat} {t : Tok} {q : List Tok} (h : L.drop a = t :: q) (ht : L.all okTk = true) (hL : L.length ≤ 200) (hin : prIn ((pE k 1 q).then shutP) = true) : parP k L (w64 ((a : Int) + 1)) = pOut L (prAt L ((pE k 1 q).then shutP)) (prEr ((pE k 1 q).then shutP)) (prNd ((pE k 1 q).then shutP)) := by
  obtain ⟨h1, h2, h3, h4⟩ := tkP_is h
  unfold parP
  rw [w64_rng (show Rng ((a : Int) + 1) by unfold Rng; omega), show (a : Int) + 1 = ((a + 1 : Nat) : Int) from by omega, Int.toNat_natCast, drop_tail h]
  have hok : okP ((a + 1 : Nat) : Int) L = true := by
    unfold okP
    rw [Bool.and_eq_true]
    exact ⟨decide_eq_true ⟨by omega, by omega, hL⟩, ht⟩
  rw [hok, show (decide ((1 : Int) ≤ 1 ∧ (1 : Int) ≤ 6) && true) = true from by decide, cond_true]
  cases hx : pE k 1 q with
  | out => rw [hx] at hin; cases hin
  | bad e n =>
    have he := pE_err k 1 q e n hx
    unfold parX finP
    simp [prIn, prEr, PR.then, prAt, prNd, he]
  | ok e r =>
    obtain ⟨⟨p, hp, hg⟩, _, _⟩ := pE_sound k 1 q e r hx (by omega) (by omega)
    have hpn : p ≠ [] := fun e => by have := gr_pos hg; rw [e] at this; simp at this
    have hql := congrArg List.length hp
    rw [List.length_append] at hql
    exact par_ok (n := L.length - r.length) (drop_suf (a := a + 1) (p := p) ((drop_tail h).trans hp) (by omega) hpn) (by omega) hL
end Go.Proofs.YtdckpbeioemopabGreatDoor
namespace Go.Proofs.YtdckpbeioemopabGreatDoor
open Go.Am
set_option maxRecDepth 100000
variable {B : Nat → Option Obj}
theorem prim_is {k : Nat} {L : List Tok} {a : Nat} (ha : a ≤ L.length) (ht : L.all okTk = true) (hL : L.length ≤ 200) (hin : prIn (pPrim (pE k) (L.drop a)) = true) : primR k L a = pOut L (prAt L (pPrim (pE k) (L.drop a))) (prEr (pPrim (pE k) (L.drop a))) (prNd (pPrim (pE k) (L.drop a))) := by
  cases h : L.drop a with
  | nil => exact prim_nil h ha
  | cons t q =>
    rw [h] at hin
    obtain ⟨h1, h2, h3, h4⟩ := tkP_is h
    rw [prim_head h]
    rw [pPrim_cons] at hin ⊢
    cases hk : decide (t.kind = 1) with
    | true => exact prim_num h ht hL
    | false =>
      rw [hk, cond_false] at hin
      simp only [cond_false]
      have fld : ∀ (f : Int) (s : List UInt8), 2 ≤ f ∧ f ≤ 4 → t.text = s → fldK s = f → mkP L (w64 ((a : Int) + 1)) a f 0 = pOut L (prAt L (bif !decide (fldK t.text = 0) then .ok (.leaf (fldK t.text) 0 t.pos) q else bif decide (t.text = [40]) then (pE k 1 q).then shutP else .bad 12 (q.length + 1))) (prEr (bif !decide (fldK t.text = 0) then .ok (.leaf (fldK t.text) 0 t.pos) q else bif decide (t.text = [40]) then (pE k 1 q).then shutP else .bad 12 (q.length + 1))) (prNd (bif !decide (fldK t.text = 0) then .ok (.leaf (fldK t.text) 0 t.pos) q else bif decide (t.text = [40]) then (pE k 1 q).then shutP else .bad 12 (q.length + 1))) := by
        intro f s hf hs hfs
        rw [hs, hfs, decide_eq_false (show ¬ f = 0 by omega)]
        rw [w64_rng (show Rng ((a : Int) + 1) by unfold Rng; omega), mkP_is h ht (by omega) (Int.le_refl 0) (.inr rfl)]
        show pOut L ((a : Int) + 1) 0 _ = pOut L ((L.length : Int) - q.length) 0 _
        rw [show (a : Int) + 1 = (L.length : Int) - q.length from by omega]
        rfl
      unfold restP
      simp only [isC_is, isNo_is, isP_cons h]
      have his : ∀ s, t.is s = decide (t.text = s) := fun s => by unfold Tok.is; rw [hk]; rfl
      simp only [his]
      by_cases e1 : t.text = [107]
      · rw [decide_eq_true e1, cond_true]
        exact fld 2 [107] (by omega) e1 (by decide)
      rw [decide_eq_false e1, cond_false]
      by_cases e2 : t.text = [116]
      · rw [decide_eq_true e2, cond_true]
        exact fld 3 [116] (by omega) e2 (by decide)
      rw [decide_eq_false e2, cond_false]
      by_cases e3 : t.text = [118]
      · rw [decide_eq_true e3, cond_true]
        exact fld 4 [118] (by omega) e3 (by decide)
      rw [decide_eq_false e3, cond_false]
      have hf0 : fldK t.text = 0 := by
        unfold fldK
        rw [decide_eq_false e1, decide_eq_false e2, decide_eq_false e3]; rfl
      rw [hf0] at hin ⊢
      simp only [decide_true, Bool.not_true, cond_false] at hin ⊢
      by_cases e4 : t.text = [40]
      · rw [decide_eq_true e4, cond_true] at hin ⊢
        rw [cond_true]
        exact par_is h ht hL hin
      · rw [decide_eq_false e4]
        simp only [cond_false]
        show pOut L (a : Int) 12 [] = pOut L ((L.length : Int) - ((q.length + 1 : Nat) : Int)) 12 []
        rw [show (a : Int) = (L.length : Int) - ((q.length + 1 : Nat) : Int) from by omega]
theorem libP_ok (hB : Laid B) (k : Nat) (hE : FnOk (E0 B) 62 (sExpr k)) : TbOk B (libP k) := ((lib9_ok.add hE).add (Lx.okReadP hB)).add okIs
theorem okPrim (hB : Laid B) (k : Nat) (hE : FnOk (E0 B) 62 (sExpr k)) : FnOk (E0 B) 164 (sPrim k) := by
  refine fnT (libP_ok hB k hE) Tryz.func164 (by kernel_rfl) (by kernel_rfl) fun vs bs r h => ?_
  unfold sPrim at h
  split at h
  · rename_i a b c at' L
    rcases T.node_sel h with ⟨hg, h2⟩ | ⟨_, h2⟩
    · rw [Bool.and_eq_true] at hg
      obtain ⟨rfl, rfl, rfl⟩ := tysB_is hg.1
      have hp := hg.2
      unfold okP at hp
      rw [Bool.and_eq_true] at hp
      obtain ⟨p1, p2, p3⟩ := of_decide_eq_true hp.1
      obtain ⟨a, rfl⟩ : ∃ a : Nat, at' = a := ⟨at'.toNat, by omega⟩
      obtain ⟨hy, ho⟩ := pT_sel h2
      rw [Int.toNat_natCast] at hy ho
      exact (tPrim k L a).trans ((prim_is (by omega) hp.2 p3 hy).trans ho)
    · simp [T.sel] at h2
  · simp [T.sel] at h
end Go.Proofs.YtdckpbeioemopabGreatDoor
namespace Go.Proofs.YtdckpbeioemopabGreatDoor
open Go.Am
set_option maxRecDepth 100000
variable {B : Nat → Option Obj}
noncomputable def lib12 (k : Nat) : Tb := (132, [], sFront k) :: lib11 k
theorem lib12_ok (hB : Laid B) (k : Nat) (hE : FnOk (E0 B) 62 (sExpr k)) : TbOk B (lib12 k) :=
  ((lib9_ok.add hE).add (okPrim hB k hE)).add (okFront k ((lib9_ok.add hE).add (okPrim hB k hE)))
def opR (g : Bool) (L : List Tok) (x : PR) : Option Out := bif g then (bif prIn x then pOut L (prAt L x) (prEr x) (prNd x) else none) else none
theorem tOper (k : Nat) (L : List Tok) (at' s : Int) : runT B (lib12 k) Tryz.f98 [.ptr 0 0 0, i64 s] [pB 1 at' 0, tkb L] =
    bif decide (s = 2) then opR (decide (s = 2 ∨ s = 6) && okP at' L) L (pFront (pE k) s.toNat (L.drop at'.toNat)) else
      bif decide (s = 6) then opR (decide (s = 2 ∨ s = 6) && okP at' L) L (pFront (pE k) s.toNat (L.drop at'.toNat)) else
        opR (decide (1 ≤ w64 (s + 1) ∧ w64 (s + 1) ≤ 6) && okP at' L) L (pE k (w64 (s + 1)).toNat (L.drop at'.toNat)) := by kernel_rfl
def sOper (k : Nat) : FSpec
  | [.ptr 0 0 0, .int .i64 s], [⟨true, .gen [a, b, c] [[.slw 1, .int .i64 at', .int .i64 0]]⟩, ⟨false, .toks L⟩] => .node (tysB a b c && (decide (1 ≤ s ∧ s ≤ 6) && okP at' L)) (prT L (pOp (pE k) s.toNat (L.drop at'.toNat))) .bad
  | _, _ => .bad
theorem opR_is {g : Bool} {L : List Tok} {x : PR} (hg : g = true) (hx : prIn x = true) : opR g L x = pOut L (prAt L x) (prEr x) (prNd x) := by
  unfold opR; rw [hg, hx]; rfl
theorem okOper (hB : Laid B) (k : Nat) (hE : FnOk (E0 B) 62 (sExpr k)) : FnOk (E0 B) 98 (sOper k) := by
  refine fnT (lib12_ok hB k hE) Tryz.func98 (by kernel_rfl) (by kernel_rfl) fun vs bs r h => ?_
  unfold sOper at h
  split at h
  · rename_i s a b c at' L
    rcases T.node_sel h with ⟨hg, h2⟩ | ⟨_, h2⟩
    · simp only [Bool.and_eq_true] at hg
      obtain ⟨h1, hs, hp⟩ := hg
      obtain ⟨rfl, rfl, rfl⟩ := tysB_is h1
      obtain ⟨s1, s6⟩ := of_decide_eq_true hs
      obtain ⟨hy, ho⟩ := pT_sel h2
      refine (tOper k L at' s).trans ?_
      unfold pOp at hy ho
      by_cases e2 : s = 2
      · subst e2
        exact (opR_is (by rw [hp]; decide) hy).trans ho
      by_cases e6 : s = 6
      · subst e6
        exact (opR_is (by rw [hp]; decide) hy).trans ho
      · rw [decide_eq_false (show ¬ (s.toNat = 2 ∨ s.toNat = 6) by omega), cond_false] at hy ho
        rw [decide_eq_false e2, decide_eq_false e6, cond_false, cond_false, w64_rng (show Rng (s + 1) by unfold Rng; omega), show (s + 1).toNat = s.toNat + 1 from by omega]
        exact (opR_is (by rw [hp, decide_eq_true (show 1 ≤ s + 1 ∧ s + 1 ≤ 6 by omega)]; rfl) hy).trans ho
    · simp [T.sel] at h2
  · simp [T.sel] at h
end Go.Proofs.YtdckpbeioemopabGreatDoor
