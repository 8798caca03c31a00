/-
  Texts put together: R5Pm, R5Fr, R5Lv.
-/
import Derived.Test.YtdckpbeioemopabGreatDoorR5A
namespace Go.Proofs.YtdckpbeioemopabGreatDoor.R5
open Go.Am Go Go.Proofs.YtdckpbeioemopabGreatDoor
set_option maxRecDepth 100000
variable {B : Nat → Option Obj}
def okQ (at' : Int) (L : List Tok) : Bool := okP at' L && L.all okV
def lvP (k : Nat) (n : Int) (r : List Tok) : PR := bif decide (n = 0) then pE k 1 r else bif decide (n = 1) then pE k 2 r else bif decide (n = 2) then pOp (pE k) 2 r else bif decide (n = 7) then pOp (pE k) 6 r else bif decide (n = 8) then pPrim (pE k) r else pE k n.toNat r
def lvA (n : Int) : Bool := decide (n = 0 ∨ n = 1 ∨ (3 ≤ n ∧ n ≤ 6))
def sLa (k : Nat) : FSpec
  | [.ptr 0 0 0, .int .i64 n], [⟨true, .gen [a, b, c] [[.slw 1, .int .i64 at', .int .i64 0]]⟩, ⟨false, .toks L⟩] => .node (tysQ a b c && (lvA n && okQ at' L)) (.node (prIn (lvP k n (L.drop at'.toNat))) (qT L (prAt L (lvP k n (L.drop at'.toNat))) (prEr (lvP k n (L.drop at'.toNat))) (prNd (lvP k n (L.drop at'.toNat)))) .bad) .bad
  | _, _ => .bad
def nd8 (k : Nat) : List Tok → List Nod
  | [] => []
  | t :: q => bif !decide (t.kind = 1) && decide (t.text = [40]) then prNd (pE k 1 q) else prNd (pPrim (pE k) (t :: q))
def sPm (k : Nat) : FSpec
  | [.ptr 0 0 0], [⟨true, .gen [a, b, c] [[.slw 1, .int .i64 at', .int .i64 0]]⟩, ⟨false, .toks L⟩] => .node (tysQ a b c && okQ at' L) (.node (prIn (pPrim (pE k) (L.drop at'.toNat))) (qT L (prAt L (pPrim (pE k) (L.drop at'.toNat))) (prEr (pPrim (pE k) (L.drop at'.toNat))) (nd8 k (L.drop at'.toNat))) .bad) .bad
  | _, _ => .bad
noncomputable def libPm (k : Nat) : Tb := (176, [], sLa k) :: libT
def mkQ (L : List Tok) (at' tk k n : Int) : Option Out := gI (decide (0 ≤ tk ∧ tk < (L.length : Int)) && (Ex.leaf k n (tkP L tk)).ok) (qOut L (mkA 0 at' tk [⟨k, n, 0, 0, tkP L tk⟩]) (mkE 0 [⟨k, n, 0, 0, tkP L tk⟩]) (mkX (decide (chkN [⟨k, n, 0, 0, tkP L tk⟩] = 0)) [⟨k, n, 0, 0, tkP L tk⟩]))
def tA (L : List Tok) (at' : Int) : List UInt8 := (L.getD at'.toNat default).text
def numQ (L : List Tok) (at' : Int) : Option Out := inb' at' L.length (gI (decide ((tA L at').length ≤ Lx.lim2)) (mkQ L (w64 (at' + 1)) at' 1 (rdN (tA L at'))))
def fldQ (L : List Tok) (at' : Int) : Option Out := inb' at' L.length (bif decide (tA L at' = [116]) then inb' at' L.length (bif decide (tA L at' = [118]) then mkQ L (w64 (at' + 1)) at' 4 0 else mkQ L (w64 (at' + 1)) at' 3 0) else inb' at' L.length (bif decide (tA L at' = [118]) then mkQ L (w64 (at' + 1)) at' 4 0 else mkQ L (w64 (at' + 1)) at' 2 0))
def finQ (L : List Tok) (x : PR) : Option Out := bif decide (prEr x = 0) then qOut L (w64 (prAt L x + 1)) (prEr x) (prNd x) else qOut L (prAt L x) (prEr x) (prNd x)
def aftQ (L : List Tok) (x : PR) : Option Out := bif decide (prEr x = 0) then gI (decide (0 ≤ prAt L x)) (bif !decide (txP L (prAt L x) (prEr x) = [41]) then qOut L (prAt L x) 12 (prNd x) else finQ L x) else finQ L x
def parQ (k : Nat) (L : List Tok) (a : Int) : Option Out := gI (okQ a L) (gI (prIn (pE k 1 (L.drop a.toNat))) (aftQ L (pE k 1 (L.drop a.toNat))))
def pmQ (k : Nat) (L : List Tok) (at' : Int) (s : List UInt8) : Option Out := bif decide (s = [48]) then numQ L at' else bif decide (s = [107]) then fldQ L at' else bif decide (s = [116]) then fldQ L at' else bif decide (s = [118]) then fldQ L at' else bif decide (s = [40]) then parQ k L (w64 (at' + 1)) else qOut L at' 12 []
theorem tPm (k : Nat) (L : List Tok) (at' : Int) : runT B (libPm k) Tryz.f194 [.ptr 0 0 0] [qB 1 at' 0, tkb L] = gI (decide (0 ≤ at')) (pmQ k L at' (txP L at' 0)) := by kernel_rfl
theorem tx_cons {L : List Tok} {a : Nat} {t : Tok} {q : List Tok} (h : L.drop a = t :: q) : txP L a 0 = bif decide (t.kind = 1) then [48] else t.text := by
  obtain ⟨_, h2, _, _⟩ := tkP_is h
  have hg : L.getD a default = t := by
    rw [List.drop_eq_getElem_cons h2] at h
    injection h with h1 h3
    rw [List.getD_eq_getElem?_getD, List.getElem?_eq_getElem h2]; exact h1
  unfold txP
  rw [Int.toNat_natCast, hg, decide_eq_false (show ¬ (L.length : Int) ≤ (a : Int) by omega)]; rfl
theorem tx_nil {L : List Tok} {a : Nat} (h : L.drop a = []) : txP L a 0 = [] := by
  have hl : L.length ≤ a := List.drop_eq_nil_iff.1 h
  unfold txP
  rw [decide_eq_true (show (L.length : Int) ≤ (a : Int) by omega)]; rfl
theorem tA_is {L : List Tok} {a : Nat} {t : Tok} {q : List Tok} (h : L.drop a = t :: q) : tA L a = t.text := by
  obtain ⟨_, h2, _, _⟩ := tkP_is h
  unfold tA
  rw [Int.toNat_natCast]
  rw [List.drop_eq_getElem_cons h2] at h
  injection h with h1 h3
  rw [List.getD_eq_getElem?_getD, List.getElem?_eq_getElem h2, ← h1]; rfl
theorem no48 {t : Tok} (hv : validB t = true) (hk : t.kind ≠ 1) : t.text ≠ [48] := by
  intro ht
  have hv := of_decide_eq_true hv
  unfold tokE at hv
  rw [decide_eq_false hk, ht, cond_false] at hv
  by_cases h2 : t.kind = 2
  · rw [decide_eq_true h2, cond_true] at hv
    exact absurd hv (by decide +kernel)
  · rw [decide_eq_false h2, cond_false] at hv
    by_cases h3 : t.kind = 3
    · rw [decide_eq_true h3, cond_true] at hv
      exact absurd hv (by decide +kernel)
    · rw [decide_eq_false h3, cond_false] at hv
      exact absurd hv (by decide)
theorem nd8_cons (k : Nat) (t : Tok) (q : List Tok) : nd8 k (t :: q) = bif !decide (t.kind = 1) && decide (t.text = [40]) then prNd (pE k 1 q) else prNd (pPrim (pE k) (t :: q)) := rfl
theorem mkQ_is {L : List Tok} {a : Nat} {t : Tok} {q : List Tok} (h : L.drop a = t :: q) (ht : L.all okTk = true) {k n : Int} (hk : 1 ≤ k ∧ k ≤ 4) (hn : 0 ≤ n) (hkn : k = 1 ∨ n = 0) (at' : Int) : mkQ L at' a k n = qOut L at' 0 ((Ex.leaf k n t.pos).flat 0) := by
  obtain ⟨h1, h2, h3, h4⟩ := tkP_is h
  have hp := of_decide_eq_true (List.all_eq_true.1 ht t h4)
  have hok : (Ex.leaf k n t.pos).ok = true := decide_eq_true ⟨hk.1, hk.2, hn, hkn, hp.1, hp.2.1⟩
  have hc : chkN [⟨k, n, 0, 0, t.pos⟩] = 0 := (chkN_flat hok).trans (by simp [Ex.size, Ex.depth])
  unfold mkQ gI
  rw [h1, hok, decide_eq_true (show 0 ≤ (a : Int) ∧ (a : Int) < (L.length : Int) from ⟨by omega, by omega⟩), hc]
  unfold mkA mkE mkX
  rw [hc]; rfl
theorem aft_ok {L : List Tok} {e : Ex} {r : List Tok} {n : Nat} (hn : L.drop n = r) (hle : n + r.length = L.length) (hL : L.length ≤ 200) : aftQ L (.ok e r) = qOut L (prAt L (shutP e r)) (prEr (shutP e r)) (e.flat 0) := by
  have hat : prAt L (.ok e r) = (n : Int) := by simp only [prAt]; omega
  unfold aftQ
  rw [show prEr (.ok e r) = 0 from rfl, decide_eq_true (rfl : (0 : Int) = 0), cond_true, hat, gI_t (decide_eq_true (show 0 ≤ (n : Int) by omega)), show prNd (.ok e r) = e.flat 0 from rfl]
  cases r with
  | nil =>
    rw [tx_nil hn]
    simp only [List.length_nil] at hle
    show qOut L (n : Int) 12 (e.flat 0) = qOut L ((L.length : Int) - ((0 : Nat) : Int)) 12 (e.flat 0)
    rw [show (n : Int) = (L.length : Int) - ((0 : Nat) : Int) from by omega]
  | cons c q =>
    simp only [List.length_cons] at hle
    have hc : decide ((bif decide (c.kind = 1) then [48] else c.text) = [41]) = c.is [41] := by
      unfold Tok.is
      cases decide (c.kind = 1) <;> rfl
    rw [tx_cons hn, hc, shut_cons]
    cases c.is [41] with
    | false =>
      show qOut L (n : Int) 12 (e.flat 0) = qOut L ((L.length : Int) - ((q.length + 1 : Nat) : Int)) 12 (e.flat 0)
      rw [show (n : Int) = (L.length : Int) - ((q.length + 1 : Nat) : Int) from by omega]
    | true =>
      show finQ L (.ok e (c :: q)) = qOut L ((L.length : Int) - q.length) 0 (e.flat 0)
      unfold finQ
      rw [show prEr (.ok e (c :: q)) = 0 from rfl, hat, w64_rng (show Rng ((n : Int) + 1) by unfold Rng; omega)]
      show qOut L ((n : Int) + 1) 0 (e.flat 0) = _
      rw [show (n : Int) + 1 = (L.length : Int) - q.length from by omega]
theorem okQ_of {L : List Tok} {a : Nat} (ht : L.all okTk = true) (hv : L.all okV = true) (hL : L.length ≤ 200) (ha : a ≤ L.length) : okQ a L = true := by
  unfold okQ okP
  rw [ht, hv, decide_eq_true (show 0 ≤ (a : Int) ∧ (a : Int) ≤ (L.length : Int) ∧ L.length ≤ 200 from ⟨by omega, by omega, hL⟩)]; rfl
theorem par_is' {k : Nat} {L : List Tok} {a : Nat} {t : Tok} {q : List Tok} (h : L.drop a = t :: q) (ht : L.all okTk = true) (hv : L.all okV = true) (hL : L.length ≤ 200) (hin : prIn ((pE k 1 q).then shutP) = true) : parQ k L (w64 ((a : Int) + 1)) = qOut L (prAt L ((pE k 1 q).then shutP)) (prEr ((pE k 1 q).then shutP)) (prNd (pE k 1 q)) := by
  obtain ⟨h1, h2, h3, h4⟩ := tkP_is h
  unfold parQ
  rw [w64_rng (show Rng ((a : Int) + 1) by unfold Rng; omega), show (a : Int) + 1 = ((a + 1 : Nat) : Int) from by omega, Int.toNat_natCast, drop_tail h, gI_t (okQ_of ht hv hL (by omega)), gI_t (then_prIn hin)]
  cases hx : pE k 1 q with
  | out => rw [hx] at hin; cases hin
  | bad e n =>
    have he := pE_err k 1 q e n hx
    unfold aftQ finQ
    simp [prEr, PR.then, prAt, prNd, he]
  | ok e r =>
    obtain ⟨⟨p, hp, hg⟩, _, _⟩ := pE_sound k 1 q e r hx (by omega) (by omega)
    have hpn : p ≠ [] := fun e => by have := gr_pos hg; rw [e] at this; simp at this
    have hql := congrArg List.length hp
    rw [List.length_append] at hql
    exact aft_ok (n := L.length - r.length) (drop_suf (a := a + 1) (p := p) ((drop_tail h).trans hp) (by omega) hpn) (by omega) hL
theorem pm_is {k : Nat} {L : List Tok} {a : Nat} (ha : a ≤ L.length) (ht : L.all okTk = true) (hv : L.all okV = true) (hL : L.length ≤ 200) (hin : prIn (pPrim (pE k) (L.drop a)) = true) :
    pmQ k L a (txP L a 0) = qOut L (prAt L (pPrim (pE k) (L.drop a))) (prEr (pPrim (pE k) (L.drop a))) (nd8 k (L.drop a)) := by
  cases h : L.drop a with
  | nil =>
    have hl : L.length ≤ a := List.drop_eq_nil_iff.1 h
    rw [tx_nil h]
    show qOut L (a : Int) 12 [] = qOut L ((L.length : Int) - ((0 : Nat) : Int)) 12 []
    rw [show (a : Int) = (L.length : Int) - ((0 : Nat) : Int) from by omega]
  | cons t q =>
    rw [h] at hin
    obtain ⟨h1, h2, h3, h4⟩ := tkP_is h
    have hp := of_decide_eq_true (List.all_eq_true.1 ht t h4)
    have hw : w64 ((a : Int) + 1) = (L.length : Int) - q.length := by rw [w64_rng (show Rng ((a : Int) + 1) by unfold Rng; omega)]; omega
    rw [tx_cons h, nd8_cons]
    rw [pPrim_cons] at hin ⊢
    by_cases hk : t.kind = 1
    · rw [decide_eq_true hk, Bool.not_true, Bool.false_and, cond_false]
      show numQ L a = qOut L ((L.length : Int) - q.length) 0 ((Ex.leaf 1 (rdN t.text) t.pos).flat 0)
      unfold numQ
      rw [inb'_is h2, tA_is h, gI_t (decide_eq_true (show t.text.length ≤ Lx.lim2 from by unfold Lx.lim2; rcases hp.2.2 with h | ⟨_, h⟩ <;> omega)), hw]
      exact mkQ_is h ht (by omega) (rdN_nn _) (.inl rfl) _
    · have hval := List.all_eq_true.1 hv t h4
      unfold okV at hval
      rw [Bool.and_eq_true] at hval
      have h48 := no48 hval.1 hk
      rw [decide_eq_false hk] at hin ⊢
      simp only [cond_false, Bool.not_false, Bool.true_and] at hin ⊢
      unfold pmQ
      rw [decide_eq_false h48, cond_false]
      have fld : ∀ (f : Int) (s : List UInt8), (s = [107] ∧ f = 2) ∨ (s = [116] ∧ f = 3) ∨ (s = [118] ∧ f = 4) → t.text = s → fldQ L a = qOut L (prAt L (bif !decide (fldK t.text = 0) then .ok (.leaf (fldK t.text) 0 t.pos) q else bif decide (t.text = [40]) then (pE k 1 q).then shutP else .bad 12 (q.length + 1))) (prEr (bif !decide (fldK t.text = 0) then .ok (.leaf (fldK t.text) 0 t.pos) q else bif decide (t.text = [40]) then (pE k 1 q).then shutP else .bad 12 (q.length + 1)))
          (bif decide (t.text = [40]) then prNd (pE k 1 q) else prNd (bif !decide (fldK t.text = 0) then .ok (.leaf (fldK t.text) 0 t.pos) q else bif decide (t.text = [40]) then (pE k 1 q).then shutP else .bad 12 (q.length + 1))) := by
        intro f s hf hs
        unfold fldQ
        rw [inb'_is h2, inb'_is h2, inb'_is h2, tA_is h, hw, hs]
        rcases hf with ⟨rfl, rfl⟩ | ⟨rfl, rfl⟩ | ⟨rfl, rfl⟩ <;> exact mkQ_is h ht (by omega) (Int.le_refl 0) (.inr rfl) _
      by_cases e1 : t.text = [107]
      · rw [show decide (t.text = [107]) = true from decide_eq_true e1, cond_true]
        exact fld 2 [107] (.inl ⟨rfl, rfl⟩) e1
      rw [show decide (t.text = [107]) = false from decide_eq_false e1, cond_false]
      by_cases e2 : t.text = [116]
      · rw [show decide (t.text = [116]) = true from decide_eq_true e2, cond_true]
        exact fld 3 [116] (.inr (.inl ⟨rfl, rfl⟩)) e2
      rw [show decide (t.text = [116]) = false from decide_eq_false e2, cond_false]
      by_cases e3 : t.text = [118]
      · rw [show decide (t.text = [118]) = true from decide_eq_true e3, cond_true]
        exact fld 4 [118] (.inr (.inr ⟨rfl, rfl⟩)) e3
      rw [show decide (t.text = [118]) = false from decide_eq_false e3, cond_false]
      have hf0 : fldK t.text = 0 := by
        unfold fldK
        rw [decide_eq_false e1, decide_eq_false e2, decide_eq_false e3]; rfl
      rw [hf0] at hin ⊢
      simp only [decide_true, Bool.not_true, cond_false] at hin ⊢
      by_cases e4 : t.text = [40]
      · rw [decide_eq_true e4, cond_true] at hin ⊢
        exact par_is' h ht hv hL hin
      · rw [decide_eq_false e4]
        simp only [cond_false]
        show qOut L (a : Int) 12 [] = qOut L ((L.length : Int) - ((q.length + 1 : Nat) : Int)) 12 []
        rw [show (a : Int) = (L.length : Int) - ((q.length + 1 : Nat) : Int) from by omega]
theorem okQ_is {at' : Int} {L : List Tok} (h : okQ at' L = true) : ∃ a : Nat, at' = a ∧ a ≤ L.length ∧ L.length ≤ 200 ∧ L.all okTk = true ∧ L.all okV = true := by
  unfold okQ okP at h
  rw [Bool.and_eq_true, Bool.and_eq_true] at h
  obtain ⟨p1, p2, p3⟩ := of_decide_eq_true h.1.1
  exact ⟨at'.toNat, by omega, by omega, p3, h.1.2, h.2⟩
theorem libPm_ok {k : Nat} (hA : FnOk (E0 B) 176 (sLa k)) : TbOk B (libPm k) := libT_ok.add hA
theorem okPm {k : Nat} (hA : FnOk (E0 B) 176 (sLa k)) : FnOk (E0 B) 194 (sPm k) := by
  refine fnT (libPm_ok hA) Tryz.func194 (by kernel_rfl) (by kernel_rfl) fun vs bs r h => ?_
  unfold sPm at h
  split at h
  · rename_i a b c at' L
    rcases T.node_sel h with ⟨hg, h2⟩ | ⟨_, h2⟩
    · rw [Bool.and_eq_true] at hg
      obtain ⟨rfl, rfl, rfl⟩ := tysQ_is hg.1
      obtain ⟨a, rfl, ha, hL, ht, hv⟩ := okQ_is hg.2
      rcases T.node_sel h2 with ⟨hin, h3⟩ | ⟨_, h3⟩
      · rw [Int.toNat_natCast] at hin h3
        refine (tPm k L a).trans ?_
        rw [gI_t (decide_eq_true (show 0 ≤ (a : Int) by omega)), pm_is ha ht hv hL hin]
        exact h3
      · simp [T.sel] at h3
    · simp [T.sel] at h2
  · simp [T.sel] at h
end Go.Proofs.YtdckpbeioemopabGreatDoor.R5
namespace Go.Proofs.YtdckpbeioemopabGreatDoor.R5
open Go.Am Go Go.Proofs.YtdckpbeioemopabGreatDoor
set_option maxRecDepth 100000
variable {B : Nat → Option Obj}
def ndF (k : Nat) (g : List UInt8) (r : List Tok) : List Nod := bif decide (g = notT) then prNd (pOp (pE k) 2 r) else bif decide (sgnN [45] r = 0) then nd8 k r else prNd (pOp (pE k) 6 r)
def frP (k : Nat) (g : List UInt8) (r : List Tok) : PR := bif decide (g = notT) then pOp (pE k) 2 r else pOp (pE k) 6 r
def sL38 (k : Nat) : FSpec
  | [.ptr 0 0 0, .int .i64 n], [⟨true, .gen [a, b, c] [[.slw 1, .int .i64 at', .int .i64 0]]⟩, ⟨false, .toks L⟩] => .node (tysQ a b c && (decide (n = 3 ∨ n = 8) && okQ at' L)) (.node (prIn (lvP k n (L.drop at'.toNat))) (qT L (prAt L (lvP k n (L.drop at'.toNat))) (prEr (lvP k n (L.drop at'.toNat))) (bif decide (n = 3) then prNd (pE k 3 (L.drop at'.toNat)) else nd8 k (L.drop at'.toNat))) .bad) .bad
  | _, _ => .bad
noncomputable def libV8 (k : Nat) : Tb := (194, [], sPm k) :: []
def lv8O (k : Nat) (L : List Tok) (at' : Int) : Option Out := gI (okQ at' L) (gI (prIn (pPrim (pE k) (L.drop at'.toNat))) (qOut L (prAt L (pPrim (pE k) (L.drop at'.toNat))) (prEr (pPrim (pE k) (L.drop at'.toNat))) (nd8 k (L.drop at'.toNat))))
theorem tLv8 (k : Nat) (L : List Tok) (at' : Int) : runT B (libV8 k) Tryz.f176 [.ptr 0 0 0, i64 8] [qB 1 at' 0, tkb L] = lv8O k L at' := by kernel_rfl
theorem okLv8 {k : Nat} (hP : FnOk (E0 B) 194 (sPm k)) : FnOk (E0 B) 176 (fun vs bs => fnRun (E0 B) (Cx B (libV8 k)) (inlL (E0 B) (Cx B (libV8 k)) 450) Tryz.f176 (bodyC Tryz.f176) vs bs) :=
  fnT (l := libV8 k) (TbOk.nil.add hP) Tryz.func176 (by kernel_rfl) (by kernel_rfl) fun vs bs r h => h
theorem okL38 {k : Nat} (hA : FnOk (E0 B) 176 (sLa k)) : FnOk (E0 B) 176 (sL38 k) :=
  ⟨hA.1, fun vs bs out hs => by
    unfold sL38 at hs
    split at hs
    · rename_i n a b c at' L
      rcases T.node_sel hs with ⟨hg, h2⟩ | ⟨_, h2⟩
      · rw [Bool.and_eq_true, Bool.and_eq_true] at hg
        rcases of_decide_eq_true hg.2.1 with rfl | rfl
        · refine hA.2 _ _ _ ?_
          show (bif tysQ a b c && (lvA 3 && okQ at' L) then _ else _) = _
          rw [hg.1, hg.2.2]
          exact h2
        · obtain ⟨rfl, rfl, rfl⟩ := tysQ_is hg.1
          refine (okLv8 (okPm hA)).2 _ _ _ ?_
          refine (tLv8 k L at').trans ?_
          unfold lv8O
          rw [gI_t hg.2.2]
          rcases T.node_sel h2 with ⟨hin, h3⟩ | ⟨_, h3⟩
          · have hin : prIn (pPrim (pE k) (L.drop at'.toNat)) = true := hin
            rw [gI_t hin]
            exact h3
          · simp [T.sel] at h3
      · simp [T.sel] at h2
    · simp [T.sel] at hs⟩
def okS (g : List UInt8) (kd rs : Int) : Bool := (decide (g = notT) && (decide (kd = 6) && decide (rs = 3))) || (decide (g = [45]) && (decide (kd = 5) && decide (rs = 8)))
def sFr (k m : Nat) : FSpec
  | [.ptr 0 0 0, .str g, .int .u8 kd, .int .i64 rs], [⟨true, .gen [a, b, c] [[.slw 1, .int .i64 at', .int .i64 0]]⟩, ⟨false, .toks L⟩] => .node (tysQ a b c && (okS g kd rs && (decide (L.length < at'.toNat + m) && okQ at' L))) (.node (prIn (frP k g (L.drop at'.toNat))) (qT L (prAt L (frP k g (L.drop at'.toNat))) (prEr (frP k g (L.drop at'.toNat))) (ndF k g (L.drop at'.toNat))) .bad) .bad
  | _, _ => .bad
noncomputable def libFr (k m : Nat) : Tb := (193, [], sFr k m) :: (176, [], sL38 k) :: libT
def ndK (L : List Tok) (kd at' : Int) (x : PR) (X : List Nod) : Option Out :=
  gI (!decide (prEr x = 0) || (decide (0 ≤ at' ∧ at' < (L.length : Int)) && (decide (5 ≤ kd ∧ kd ≤ 6 ∧ 0 ≤ tkP L at' ∧ tkP L at' ≤ 400) && decide (chkN X = 0)))) (qOut L (mkA (prEr x) (prAt L x) at' (unL kd (tkP L at') X)) (mkE (prEr x) (unL kd (tkP L at') X)) (mkX (decide (prEr x = 0) && decide (chkN (unL kd (tkP L at') X) = 0)) (unL kd (tkP L at') X)))
def frR (k m : Nat) (L : List Tok) (g : List UInt8) (kd rs at' : Int) : Option Out := gI (okS g kd rs && (decide (L.length < at'.toNat + m) && okQ at' L)) (gI (prIn (frP k g (L.drop at'.toNat))) (qOut L (prAt L (frP k g (L.drop at'.toNat))) (prEr (frP k g (L.drop at'.toNat))) (ndF k g (L.drop at'.toNat))))
def frN' (k m : Nat) (L : List Tok) (g : List UInt8) (kd rs at' a0 : Int) : Option Out := gI (okS g kd rs && (decide (L.length < at'.toNat + m) && okQ at' L)) (gI (prIn (frP k g (L.drop at'.toNat))) (ndK L kd a0 (frP k g (L.drop at'.toNat)) (ndF k g (L.drop at'.toNat))))
theorem tFrN (k m : Nat) (L : List Tok) (at' : Int) : runT B (libFr k m) Tryz.f193 [.ptr 0 0 0, .str notT, .int .u8 6, i64 3] [qB 1 at' 0, tkb L] =
    gI (decide (0 ≤ at')) (bif !decide (txP L at' 0 = notT) then gI (okQ at' L) (gI (prIn (pE k 3 (L.drop at'.toNat))) (qOut L (prAt L (pE k 3 (L.drop at'.toNat))) (prEr (pE k 3 (L.drop at'.toNat))) (prNd (pE k 3 (L.drop at'.toNat))))) else frN' k m L notT 6 3 (w64 (at' + 1)) at') := by kernel_rfl
theorem tFrM (k m : Nat) (L : List Tok) (at' : Int) : runT B (libFr k m) Tryz.f193 [.ptr 0 0 0, .str [45], .int .u8 5, i64 8] [qB 1 at' 0, tkb L] =
    gI (decide (0 ≤ at')) (bif !decide (txP L at' 0 = [45]) then lv8O k L at' else frN' k m L [45] 5 8 (w64 (at' + 1)) at') := by kernel_rfl
theorem tx_is {L : List Tok} {a : Nat} {t : Tok} {q : List Tok} (h : L.drop a = t :: q) (g : List UInt8) (hg : g ≠ [48]) : decide (txP L a 0 = g) = t.is g := by
  rw [tx_cons h]
  unfold Tok.is
  cases decide (t.kind = 1) with
  | true => exact decide_eq_false fun e => hg e.symm
  | false => rfl
theorem nd8_ok {k : Nat} {r r' : List Tok} {e : Ex} (h : pPrim (pE k) r = .ok e r') : nd8 k r = e.flat 0 := by
  cases r with
  | nil => cases h
  | cons t q =>
    rw [nd8_cons]
    cases hc : (!decide (t.kind = 1) && decide (t.text = [40])) with
    | false =>
      rw [cond_false, h]; rfl
    | true =>
      rw [cond_true]
      rw [Bool.and_eq_true, Bool.not_eq_true'] at hc
      have h40 := of_decide_eq_true hc.2
      rw [pPrim_cons, hc.1, h40] at h
      have h : (pE k 1 q).then shutP = .ok e r' := h
      obtain ⟨e0, r0, h0, h1⟩ := Go.Am.then_ok h
      cases r0 with
      | nil => cases h1
      | cons c q' =>
        rw [shut_cons] at h1
        cases hcc : c.is [41] with
        | false => rw [hcc] at h1; cases h1
        | true =>
          rw [hcc] at h1
          have h1 : PR.ok e0 q' = .ok e r' := h1
          injection h1 with h2 h3
          rw [h0, ← h2]; rfl
theorem ndK_is {L : List Tok} {kd : Int} (hk : kd = 5 ∨ kd = 6) {a : Nat} {t : Tok} {q : List Tok} (h : L.drop a = t :: q) (ht : L.all okTk = true) {x : PR} (hx : goodR x) {X : List Nod} (hX : prEr x = 0 → X = prNd x) :
    ndK L kd a x X = qOut L (prAt L (x.then fun e r => node1 (.un kd t.pos e) (q.length + 1) r)) (prEr (x.then fun e r => node1 (.un kd t.pos e) (q.length + 1) r)) (prNd (x.then fun e r => node1 (.un kd t.pos e) (q.length + 1) r)) := by
  obtain ⟨h1, h2, h3, h4⟩ := tkP_is h
  have hp := of_decide_eq_true (List.all_eq_true.1 ht t h4)
  have hs := (step_node hk h ht hx).1
  cases x with
  | out => exact hx.elim
  | bad err n =>
    have he : err ≠ 0 := hx
    unfold ndK mkA mkE mkX
    simp [prEr, prAt, prNd, PR.then, he, gI]
  | ok e r =>
    have hXe := hX rfl
    subst hXe
    have hc : chkN (prNd (.ok e r)) = 0 := good_fit (L := L) hx rfl
    unfold ndK
    rw [gI_t (by
      rw [h1, decide_eq_true (show 0 ≤ (a : Int) ∧ (a : Int) < (L.length : Int) by omega), decide_eq_true (show 5 ≤ kd ∧ kd ≤ 6 ∧ 0 ≤ t.pos ∧ t.pos ≤ 400 from ⟨by omega, by omega, hp.1, hp.2.1⟩), decide_eq_true hc]; simp)]
    have e1 := congrArg PSt.at' hs
    have e2 := congrArg PSt.e hs
    have e3 := congrArg PSt.X hs
    have e1 : mkA (prEr (.ok e r)) (prAt L (.ok e r)) a (unL kd (tkP L a) (prNd (.ok e r))) = _ := e1
    have e2 : mkE (prEr (.ok e r)) (unL kd (tkP L a) (prNd (.ok e r))) = _ := e2
    have e3 : mkX (decide (prEr (.ok e r) = 0) && decide (chkN (unL kd (tkP L a) (prNd (.ok e r))) = 0)) (unL kd (tkP L a) (prNd (.ok e r))) = _ := e3
    rw [e1, e2, e3]; rfl
theorem un_cons (k : Int) (g : List UInt8) (t : Tok) (q : List Tok) (ht : t.is g = true) (f : List Tok → PR) :
    unW k (sgnN g (t :: q)) (t :: q) (f ((t :: q).drop (sgnN g (t :: q)))) = (unW k (sgnN g q) q (f (q.drop (sgnN g q)))).then fun e r => node1 (.un k t.pos e) (q.length + 1) r := by
  have hs : sgnN g (t :: q) = sgnN g q + 1 := by rw [sgnN, ht]; rfl
  rw [hs, List.drop_succ_cons, unW]
theorem un_no (k : Int) (g : List UInt8) (r : List Tok) (h : sgnN g r = 0) (f : List Tok → PR) : unW k (sgnN g r) r (f (r.drop (sgnN g r))) = f r := by
  rw [h, List.drop_zero]; rfl
theorem sgn_no {g : List UInt8} {t : Tok} {q : List Tok} (ht : t.is g = false) : sgnN g (t :: q) = 0 := by rw [sgnN, ht]; rfl
theorem frN_is {k m : Nat} {L : List Tok} {a : Nat} (ha : a ≤ L.length) (hm : L.length < a + (m + 1)) (ht : L.all okTk = true) (hv : L.all okV = true) (hL : L.length ≤ 200) (hin : prIn (pOp (pE k) 2 (L.drop a)) = true) :
    (bif !decide (txP L a 0 = notT) then gI (okQ a L) (gI (prIn (pE k 3 (L.drop a))) (qOut L (prAt L (pE k 3 (L.drop a))) (prEr (pE k 3 (L.drop a))) (prNd (pE k 3 (L.drop a))))) else frN' k m L notT 6 3 (w64 ((a : Int) + 1)) a) =
      qOut L (prAt L (pOp (pE k) 2 (L.drop a))) (prEr (pOp (pE k) 2 (L.drop a))) (prNd (pOp (pE k) 2 (L.drop a))) := by
  have h0 : ∀ r, sgnN notT r = 0 → pOp (pE k) 2 r = pE k 3 r := fun r hr => (pOp_2 (pE k) r).trans (un_no 6 notT r hr (fun r => pE k 3 r))
  cases h : L.drop a with
  | nil =>
    rw [h] at hin
    rw [tx_nil h, show decide (([] : List UInt8) = notT) = false from rfl, h0 [] rfl] at *
    rw [Bool.not_false, cond_true, gI_t (okQ_of ht hv hL ha), gI_t hin]
  | cons t q =>
    rw [h] at hin
    obtain ⟨h1, h2, h3, h4⟩ := tkP_is h
    rw [tx_is h notT (by decide)]
    cases hi : t.is notT with
    | false =>
      rw [h0 _ (sgn_no hi)] at hin ⊢
      rw [Bool.not_false, cond_true, gI_t (okQ_of ht hv hL ha), gI_t hin]
    | true =>
      have hu : pOp (pE k) 2 (t :: q) = (pOp (pE k) 2 q).then fun e r => node1 (.un 6 t.pos e) (q.length + 1) r := by
        rw [pOp_2, pOp_2]; exact un_cons 6 notT t q hi (fun r => pE k 3 r)
      rw [hu] at hin ⊢
      have hx := then_prIn hin
      have hw : w64 ((a : Int) + 1) = ((a + 1 : Nat) : Int) := by rw [w64_rng (show Rng ((a : Int) + 1) by unfold Rng; omega)]; omega
      have hq : q.all okTk = true := by
        have := all_drop ht a
        rw [h, List.all_cons, Bool.and_eq_true] at this
        exact this.2
      show frN' k m L notT 6 3 (w64 ((a : Int) + 1)) a = _
      unfold frN'
      rw [hw, Int.toNat_natCast, drop_tail h, gI_t (by rw [show okS notT 6 3 = true by decide, decide_eq_true (show L.length < a + 1 + m by omega), okQ_of ht hv hL (by omega)]; rfl)]
      have e1 : frP k notT q = pOp (pE k) 2 q := by unfold frP; rw [decide_eq_true rfl]; rfl
      have e2 : ndF k notT q = prNd (pOp (pE k) 2 q) := by unfold ndF; rw [decide_eq_true rfl]; rfl
      rw [e1, e2, gI_t hx]
      exact ndK_is (.inr rfl) h ht (op_good hq (by omega) (by omega) hx) fun _ => rfl
theorem frM_is {k m : Nat} {L : List Tok} {a : Nat} (ha : a ≤ L.length) (hm : L.length < a + (m + 1)) (ht : L.all okTk = true) (hv : L.all okV = true) (hL : L.length ≤ 200) (hin : prIn (pOp (pE k) 6 (L.drop a)) = true) :
    (bif !decide (txP L a 0 = [45]) then lv8O k L a else frN' k m L [45] 5 8 (w64 ((a : Int) + 1)) a) =
      qOut L (prAt L (pOp (pE k) 6 (L.drop a))) (prEr (pOp (pE k) 6 (L.drop a))) (ndF k [45] (L.drop a)) := by
  have h0 : ∀ r, sgnN [45] r = 0 → pOp (pE k) 6 r = pPrim (pE k) r := fun r hr => (pOp_6 (pE k) r).trans (un_no 5 [45] r hr (fun r => pPrim (pE k) r))
  have hf : ∀ r, ndF k [45] r = bif decide (sgnN [45] r = 0) then nd8 k r else prNd (pOp (pE k) 6 r) := fun r => by
    unfold ndF
    rw [show decide (([45] : List UInt8) = notT) = false from rfl]; rfl
  have hno : ∀ r, L.drop a = r → sgnN [45] r = 0 → prIn (pOp (pE k) 6 r) = true → lv8O k L a = qOut L (prAt L (pOp (pE k) 6 r)) (prEr (pOp (pE k) 6 r)) (ndF k [45] r) := fun r hr hs hi => by
    rw [hf, decide_eq_true hs, h0 r hs] at *
    unfold lv8O
    rw [Int.toNat_natCast, hr, gI_t (okQ_of ht hv hL ha), gI_t hi]; rfl
  cases h : L.drop a with
  | nil =>
    rw [h] at hin
    rw [tx_nil h]
    exact hno [] h rfl hin
  | cons t q =>
    rw [h] at hin
    obtain ⟨h1, h2, h3, h4⟩ := tkP_is h
    rw [tx_is h [45] (by decide)]
    cases hi : t.is [45] with
    | false => exact hno _ h (sgn_no hi) hin
    | true =>
      have hu : pOp (pE k) 6 (t :: q) = (pOp (pE k) 6 q).then fun e r => node1 (.un 5 t.pos e) (q.length + 1) r := by
        rw [pOp_6, pOp_6]; exact un_cons 5 [45] t q hi (fun r => pPrim (pE k) r)
      have hs1 : ¬ sgnN [45] (t :: q) = 0 := by rw [sgnN, hi]; simp
      rw [hf, decide_eq_false hs1]
      rw [hu] at hin ⊢
      have hx := then_prIn hin
      have hw : w64 ((a : Int) + 1) = ((a + 1 : Nat) : Int) := by rw [w64_rng (show Rng ((a : Int) + 1) by unfold Rng; omega)]; omega
      have hq : q.all okTk = true := by
        have := all_drop ht a
        rw [h, List.all_cons, Bool.and_eq_true] at this
        exact this.2
      show frN' k m L [45] 5 8 (w64 ((a : Int) + 1)) a = _
      unfold frN'
      rw [hw, Int.toNat_natCast, drop_tail h, gI_t (by rw [show okS [45] 5 8 = true by decide, decide_eq_true (show L.length < a + 1 + m by omega), okQ_of ht hv hL (by omega)]; rfl)]
      have e1 : frP k [45] q = pOp (pE k) 6 q := by unfold frP; rw [show decide (([45] : List UInt8) = notT) = false from rfl]; rfl
      rw [e1, gI_t hx]
      refine ndK_is (.inl rfl) h ht (op_good hq (by omega) (by omega) hx) fun he => ?_
      rw [hf]
      by_cases hs : sgnN [45] q = 0
      · rw [decide_eq_true hs, h0 q hs] at *
        cases hp : pPrim (pE k) q with
        | ok e r => rw [cond_true, nd8_ok hp]; rfl
        | bad er n =>
          rw [hp] at he hx
          have hg := op_good (k := k) (s := 6) (r := q) hq (by omega) (by omega) (by rw [h0 q hs, hp]; rfl)
          rw [h0 q hs, hp] at hg
          exact absurd he hg
        | out => rw [hp] at hx; cases hx
      · rw [decide_eq_false hs]; rfl
theorem libFr_ok {k m : Nat} (hA : FnOk (E0 B) 176 (sLa k)) (hF : FnOk (E0 B) 193 (sFr k m)) : TbOk B (libFr k m) := (libT_ok.add (okL38 hA)).add hF
theorem okFr {k : Nat} (hA : FnOk (E0 B) 176 (sLa k)) : ∀ m, FnOk (E0 B) 193 (sFr k m)
  | 0 => by
    refine fnT TbOk.nil Tryz.func193 (by kernel_rfl) (by kernel_rfl) fun vs bs r h => ?_
    unfold sFr at h
    split at h
    · rename_i g kd rs a b c at' L
      rcases T.node_sel h with ⟨hg, h2⟩ | ⟨_, h2⟩
      · simp only [Bool.and_eq_true] at hg
        obtain ⟨_, _, h3, h4⟩ := hg
        obtain ⟨a, rfl, ha, _⟩ := okQ_is h4
        have := of_decide_eq_true h3
        omega
      · simp [T.sel] at h2
    · simp [T.sel] at h
  | m + 1 => by
    refine fnT (libFr_ok hA (okFr hA m)) Tryz.func193 (by kernel_rfl) (by kernel_rfl) fun vs bs r h => ?_
    unfold sFr at h
    split at h
    · rename_i g kd rs a b c at' L
      rcases T.node_sel h with ⟨hg, h2⟩ | ⟨_, h2⟩
      · simp only [Bool.and_eq_true] at hg
        obtain ⟨h1, hs, h3, h4⟩ := hg
        obtain ⟨rfl, rfl, rfl⟩ := tysQ_is h1
        obtain ⟨a, rfl, ha, hL, ht, hv⟩ := okQ_is h4
        have h3 := of_decide_eq_true h3
        rw [Int.toNat_natCast] at h3 h2
        rcases T.node_sel h2 with ⟨hin, h5⟩ | ⟨_, h5⟩
        · unfold okS at hs
          simp only [Bool.or_eq_true, Bool.and_eq_true, decide_eq_true_eq] at hs
          rcases hs with ⟨rfl, rfl, rfl⟩ | ⟨rfl, rfl, rfl⟩
          · have e1 : frP k notT (L.drop a) = pOp (pE k) 2 (L.drop a) := by unfold frP; rw [decide_eq_true rfl]; rfl
            have e2 : ndF k notT (L.drop a) = prNd (pOp (pE k) 2 (L.drop a)) := by unfold ndF; rw [decide_eq_true rfl]; rfl
            rw [e1] at hin
            refine (tFrN k m L a).trans ?_
            rw [gI_t (decide_eq_true (show 0 ≤ (a : Int) by omega)), Int.toNat_natCast, frN_is ha h3 ht hv hL hin]
            rw [e1, e2] at h5
            exact h5
          · have e1 : frP k [45] (L.drop a) = pOp (pE k) 6 (L.drop a) := by unfold frP; rw [show decide (([45] : List UInt8) = notT) = false from rfl]; rfl
            rw [e1] at hin
            refine (tFrM k m L a).trans ?_
            rw [gI_t (decide_eq_true (show 0 ≤ (a : Int) by omega)), frM_is ha h3 ht hv hL hin]
            rw [e1] at h5
            exact h5
        · simp [T.sel] at h5
      · simp [T.sel] at h2
    · simp [T.sel] at h
end Go.Proofs.YtdckpbeioemopabGreatDoor.R5
namespace Go.Proofs.YtdckpbeioemopabGreatDoor.R5
open Go.Am Go Go.Proofs.YtdckpbeioemopabGreatDoor
set_option maxRecDepth 100000
variable {B : Nat → Option Obj}
def lvF (n : Int) : Bool := decide (0 ≤ n ∧ n ≤ 8)
def ndV (k : Nat) (n : Int) (r : List Tok) : List Nod := bif decide (n = 7) then ndF k [45] r else bif decide (n = 8) then nd8 k r else prNd (lvP k n r)
def sLv (k : Nat) : FSpec
  | [.ptr 0 0 0, .int .i64 n], [⟨true, .gen [a, b, c] [[.slw 1, .int .i64 at', .int .i64 0]]⟩, ⟨false, .toks L⟩] => .node (tysQ a b c && (lvF n && okQ at' L)) (.node (prIn (lvP k n (L.drop at'.toNat))) (qT L (prAt L (lvP k n (L.drop at'.toNat))) (prEr (lvP k n (L.drop at'.toNat))) (ndV k n (L.drop at'.toNat))) .bad) .bad
  | _, _ => .bad
noncomputable def libV2 (k : Nat) : Tb := (193, [], sFr k 201) :: []
theorem tLv2 (k : Nat) (L : List Tok) (at' : Int) : runT B (libV2 k) Tryz.f176 [.ptr 0 0 0, i64 2] [qB 1 at' 0, tkb L] = frR k 201 L notT 6 3 at' := by kernel_rfl
theorem tLv7 (k : Nat) (L : List Tok) (at' : Int) : runT B (libV2 k) Tryz.f176 [.ptr 0 0 0, i64 7] [qB 1 at' 0, tkb L] = frR k 201 L [45] 5 8 at' := by kernel_rfl
theorem okLv2 {k : Nat} (hF : FnOk (E0 B) 193 (sFr k 201)) : FnOk (E0 B) 176 (fun vs bs => fnRun (E0 B) (Cx B (libV2 k)) (inlL (E0 B) (Cx B (libV2 k)) 450) Tryz.f176 (bodyC Tryz.f176) vs bs) :=
  fnT (l := libV2 k) (TbOk.nil.add hF) Tryz.func176 (by kernel_rfl) (by kernel_rfl) fun vs bs r h => h
theorem okLv {k : Nat} (hA : FnOk (E0 B) 176 (sLa k)) : FnOk (E0 B) 176 (sLv k) :=
  ⟨hA.1, fun vs bs out hs => by
    unfold sLv at hs
    split at hs
    · rename_i n a b c at' L
      rcases T.node_sel hs with ⟨hg, h2⟩ | ⟨_, h2⟩
      · rw [Bool.and_eq_true, Bool.and_eq_true] at hg
        have hn := of_decide_eq_true hg.2.1
        rcases T.node_sel h2 with ⟨hin, h3⟩ | ⟨_, h3⟩
        · by_cases hla : n = 0 ∨ n = 1 ∨ (3 ≤ n ∧ n ≤ 6)
          · refine hA.2 _ _ _ ?_
            show (bif tysQ a b c && (lvA n && okQ at' L) then (T.node _ _ _).sel else _) = _
            rw [hg.1, hg.2.2, show lvA n = true from decide_eq_true hla]
            show (bif prIn (lvP k n (L.drop at'.toNat)) then _ else _) = _
            rw [hin]
            have hnd : ndV k n (L.drop at'.toNat) = prNd (lvP k n (L.drop at'.toNat)) := by
              unfold ndV
              rw [decide_eq_false (show ¬ n = 7 by omega), decide_eq_false (show ¬ n = 8 by omega)]; rfl
            rw [hnd] at h3
            exact h3
          · obtain ⟨rfl, rfl, rfl⟩ := tysQ_is hg.1
            have h278 : n = 2 ∨ n = 7 ∨ n = 8 := by omega
            obtain ⟨a, rfl, ha, hL, ht, hv⟩ := okQ_is hg.2.2
            rw [Int.toNat_natCast] at hin h3
            rcases h278 with rfl | rfl | rfl
            · refine (okLv2 (okFr hA 201)).2 _ _ _ ?_
              refine (tLv2 k L a).trans ?_
              have hin : prIn (pOp (pE k) 2 (L.drop a)) = true := hin
              unfold frR
              rw [show okS notT 6 3 = true by decide, decide_eq_true (show L.length < (a : Int).toNat + 201 by omega), hg.2.2, Int.toNat_natCast]
              have e1 : frP k notT (L.drop a) = pOp (pE k) 2 (L.drop a) := by unfold frP; rw [decide_eq_true rfl]; rfl
              have e2 : ndF k notT (L.drop a) = prNd (pOp (pE k) 2 (L.drop a)) := by unfold ndF; rw [decide_eq_true rfl]; rfl
              rw [e1, e2, gI_t hin]
              exact h3
            · refine (okLv2 (okFr hA 201)).2 _ _ _ ?_
              refine (tLv7 k L a).trans ?_
              have hin : prIn (pOp (pE k) 6 (L.drop a)) = true := hin
              unfold frR
              rw [show okS [45] 5 8 = true by decide, decide_eq_true (show L.length < (a : Int).toNat + 201 by omega), hg.2.2, Int.toNat_natCast]
              have e1 : frP k [45] (L.drop a) = pOp (pE k) 6 (L.drop a) := by unfold frP; rw [show decide (([45] : List UInt8) = notT) = false from rfl]; rfl
              rw [e1, gI_t hin]
              exact h3
            · refine (okLv8 (okPm hA)).2 _ _ _ ?_
              refine (tLv8 k L a).trans ?_
              have hin : prIn (pPrim (pE k) (L.drop a)) = true := hin
              unfold lv8O
              rw [gI_t hg.2.2, Int.toNat_natCast, gI_t hin]
              exact h3
        · simp [T.sel] at h3
      · simp [T.sel] at h2
    · simp [T.sel] at hs⟩
noncomputable def libLv (k : Nat) : Tb := (176, [], sLv k) :: libT
noncomputable def bLv : Code := loopAt 13 (loopsOf (bodyC Tryz.f176))
def sgLv : LSig := { cs := [(0, 0), (1, 0), (5, 0), (6, 0)], mv := [(7, 22)], mo := [(4, 22)], take := [1] }
def vLv (n f t : Int) : List AV := [.ptr 0 0 0, i64 n, .int .u8 f, .int .u8 t, .slw 1]
def bsLv (L : List Tok) (at' e : Int) (X : List Nod) : List Blk := [qB 2 at' e, ob X, tkb L]
def gY (b : Bool) (z : Option (AExit × Out)) : Option (AExit × Out) := bif b then z else none
def rtL (L : List Tok) (at' e : Int) (X : List Nod) : Option (AExit × Out) := some (.ret, ⟨[.slw 1], bsLv L at' e X⟩)
def exL' (L : List Tok) (at' e : Int) : Option (AExit × Out) := some (.exit 1, ⟨[.any], [qB 1 at' e, tkb L]⟩)
def nmL (n f t : Int) (L : List Tok) (at' e : Int) (X : List Nod) : Option (AExit × Out) := some (.normal, ⟨vLv n f t, bsLv L at' e X⟩)
def bndL (n f t : Int) (L : List Tok) (at' kd : Int) (X Y : List Nod) (x : PR) : Option (AExit × Out) :=
  gY (!decide (prEr x = 0) || (decide (0 ≤ at' ∧ at' < (L.length : Int)) && (decide (7 ≤ kd ∧ kd ≤ 19 ∧ 0 ≤ tkP L at' ∧ tkP L at' ≤ 400) && (decide (chkN X = 0) && decide (chkN Y = 0)))))
    (bif decide (n = 3) then rtL L (mkA (prEr x) (prAt L x) at' (biL kd (tkP L at') X Y)) (mkE (prEr x) (biL kd (tkP L at') X Y)) (mkX (decide (prEr x = 0) && decide (chkN (biL kd (tkP L at') X Y) = 0)) (biL kd (tkP L at') X Y))
      else nmL n f t L (mkA (prEr x) (prAt L x) at' (biL kd (tkP L at') X Y)) (mkE (prEr x) (biL kd (tkP L at') X Y)) (mkX (decide (prEr x = 0) && decide (chkN (biL kd (tkP L at') X Y) = 0)) (biL kd (tkP L at') X Y)))
def goL (k : Nat) (n f t : Int) (L : List Tok) (at' kd : Int) (X : List Nod) : Option (AExit × Out) :=
  gY (lvF (w64 (n + 1)) && okQ (w64 (at' + 1)) L) (gY (prIn (lvP k (w64 (n + 1)) (L.drop (w64 (at' + 1)).toNat))) (bndL n f t L at' kd X (ndV k (w64 (n + 1)) (L.drop (w64 (at' + 1)).toNat)) (lvP k (w64 (n + 1)) (L.drop (w64 (at' + 1)).toNat))))
def tuL (k : Nat) (n f t : Int) (L : List Tok) (at' : Int) (X : List Nod) : Option (AExit × Out) := gY (decide (0 ≤ at')) (bif decide (binK (txP L at' 0) f t = 0) then rtL L at' 0 X else goL k n f t L at' (binK (txP L at' 0) f t) X)
theorem turnLv (k : Nat) (n f t : Int) (L : List Tok) (at' : Int) (X : List Nod) : (turn (E0 B) (Cx B (libLv k)) noL 79 sgLv bLv (vLv n f t) (bsLv L at' 0 X)).sel = tuL k n f t L at' X := by kernel_rfl
theorem turnLp (k : Nat) (n f t : Int) (L : List Tok) (at' : Int) (m : Nat) (X : List Nod) : (turn (E0 B) (Cx B (libLv k)) noL 79 sgLv bLv (vLv n f t) (bsLv L at' (Int.ofNat (m + 1)) X)).sel = exL' L at' (Int.ofNat (m + 1)) := by kernel_rfl
theorem turnLn (k : Nat) (n f t : Int) (L : List Tok) (at' : Int) (m : Nat) (X : List Nod) : (turn (E0 B) (Cx B (libLv k)) noL 79 sgLv bLv (vLv n f t) (bsLv L at' (Int.negSucc m) X)).sel = exL' L at' (Int.negSucc m) := by kernel_rfl
theorem turnL1 (k : Nat) (n f t : Int) (L : List Tok) (at' e : Int) (he : e ≠ 0) (X : List Nod) : (turn (E0 B) (Cx B (libLv k)) noL 79 sgLv bLv (vLv n f t) (bsLv L at' e X)).sel = exL' L at' e := by
  cases e with
  | ofNat m =>
    cases m with
    | zero => exact (he rfl).elim
    | succ m => exact turnLp k n f t L at' m X
  | negSucc m => exact turnLn k n f t L at' m X
end Go.Proofs.YtdckpbeioemopabGreatDoor.R5
