/-
  Texts put together: PrsLoop, PrsExpr, PrsExpr2, PrsExpr3, PrsParse, PrsText.
-/
import Derived.Test.YtdckpbeioemopabGreatDoorPrsC
import Derived.Test.YtdckpbeioemopabGreatDoorLxB
import Derived.Test.YtdckpbeioemopabGreatDoorNodB
import Derived.Test.YtdckpbeioemopabGreatDoorExA
namespace Go.Proofs.YtdckpbeioemopabGreatDoor
open Go.Am
theorem op_good {k s : Nat} {r : List Tok} (ht : r.all okTk = true) (h1 : 1 ≤ s) (h6 : s ≤ 6) (hn : prIn (pOp (pE k) s r) = true) : goodR (pOp (pE k) s r) := by
  cases h : pOp (pE k) s r with
  | ok e r' => exact snd_good (op_sound (fun s r e r' => pE_sound k s r e r') h1 h6 h) ht
  | bad e n => exact op_err (pE_err k) h
  | out => rw [h] at hn; cases hn
def tokA (L : List Tok) (a : Int) : Tok := L.getD a.toNat default
def goB (L : List Tok) (s : Int) (st : PSt) : Bool := decide (st.e = 0) && (decide (st.at' < (L.length : Int)) && ((tokA L st.at').op && decide (((bnd (opK (tokA L st.at').text) : Nat) : Int) = s)))
def binS (L : List Tok) (kd a : Int) (X : List Nod) (x : PR) : PSt := ⟨mkA (prEr x) (prAt L x) a (biL kd (tkP L a) X (prNd x)), mkE (prEr x) (biL kd (tkP L a) X (prNd x)), mkX (decide (prEr x = 0) && decide (chkN (biL kd (tkP L a) X (prNd x)) = 0)) (biL kd (tkP L a) X (prNd x))⟩
def opX (k : Nat) (s : Int) (L : List Tok) (st : PSt) : PR := pOp (pE k) s.toNat (L.drop (st.at' + 1).toNat)
def stepE (k : Nat) (s : Int) (L : List Tok) (st : PSt) : PSt := binS L (opK (tokA L st.at').text) st.at' st.X (opX k s L st)
def eLoop (k : Nat) (s : Int) (L : List Tok) : Nat → PSt → Option PSt
  | 0, _ => none
  | m + 1, st => bif goB L s st then (bif prIn (opX k s L st) then (bif decide (s = 3) then some (stepE k s L st) else eLoop k s L m (stepE k s L st)) else none) else some st
theorem tokA_is {L : List Tok} {a : Nat} {t : Tok} {q : List Tok} (h : L.drop a = t :: q) : tokA L a = t := by
  obtain ⟨_, hlt, _, _⟩ := tkP_is h
  rw [List.drop_eq_getElem_cons hlt] at h
  injection h with h1 h2
  unfold tokA
  rw [Int.toNat_natCast, List.getD_eq_getElem?_getD, List.getElem?_eq_getElem hlt]; exact h1
theorem step_bin {L : List Tok} {kd : Int} (hk : 7 ≤ kd ∧ kd ≤ 19) {a : Nat} {t : Tok} {q : List Tok} (h : L.drop a = t :: q) (ht : L.all okTk = true) {l : Ex} (hl : l.ok = true ∧ l.size ≤ 60 ∧ l.depth ≤ 20) {y : PR} (hy : goodR y) :
    binS L kd a (l.flat 0) y = stOf L (y.then fun e r => node1 (.bin kd t.pos l e) (q.length + 1) r) ∧ goodR (y.then fun e r => node1 (.bin kd t.pos l e) (q.length + 1) r) := by
  obtain ⟨h1, h2, h3, h4⟩ := tkP_is h
  have hp := of_decide_eq_true (List.all_eq_true.1 ht t h4)
  cases y with
  | out => exact hy.elim
  | bad err n =>
    have hy : err ≠ 0 := hy
    refine ⟨?_, hy⟩
    simp [PR.then, stOf, binS, prEr, prNd, prAt, mkA, mkE, mkX, hy]
  | ok e r =>
    obtain ⟨he, hs, _⟩ := hy
    have hok : (Ex.bin kd t.pos l e).ok = true := by
      simp only [Ex.ok, Bool.and_eq_true, he, hl.1, and_true, decide_eq_true_eq]
      omega
    refine ⟨?_, node1_good hok _ _⟩
    have hc := chkN_flat hok
    simp only [PR.then, stOf, binS, prEr, prNd, prAt, mkA, mkE, mkX, h1, biL_is he hl.2.1 hs, hc]
    unfold node1
    by_cases h5 : 60 < (Ex.bin kd t.pos l e).size
    · simp only [decide_eq_true h5, cond_true]
      simp [h3]
    · simp only [decide_eq_false h5, cond_false]
      by_cases h6 : 20 < (Ex.bin kd t.pos l e).depth
      · simp only [decide_eq_true h6, cond_true]
        simp [h3]
      · simp only [decide_eq_false h6, cond_false]
        simp
theorem then_then (x : PR) (f g : Ex → List Tok → PR) : (x.then fun e r => (f e r).then g) = (x.then f).then g := by cases x <;> rfl
theorem ne_prIn {x : PR} (h : x ≠ .out) : prIn x = true := by
  cases x with
  | out => exact (h rfl).elim
  | ok => rfl
  | bad => rfl
theorem then_prIn {x : PR} {f : Ex → List Tok → PR} (h : prIn (x.then f) = true) : prIn x = true := by
  cases x with
  | out => cases h
  | ok => rfl
  | bad => rfl
theorem eLoop_is {k s : Nat} (h1 : 1 ≤ s) (h6 : s ≤ 6) {L : List Tok} (ht : L.all okTk = true) : ∀ (m M : Nat) (l : Ex) (r : List Tok) (a : Nat), m < M → L.drop a = r → a ≤ L.length → goodR (.ok l r) → prIn (pLoop (pE k) s m l r) = true → eLoop k s L M (stOf L (.ok l r)) = some (stOf L (pLoop (pE k) s m l r))
  | 0, _, _, _, _, _, _, _, _, h => by cases h
  | m + 1, 0, _, _, _, hm, _, _, _, _ => by omega
  | m + 1, M + 1, l, [], a, hm, hd, ha, hg, hi => by
    unfold eLoop
    have : goB L s (stOf L (.ok l [])) = false := by
      unfold goB
      rw [show (stOf L (PR.ok l [])).at' = (L.length : Int) from by simp [stOf, prAt], decide_eq_false (show ¬ ((L.length : Int) < L.length) by omega), Bool.false_and, Bool.and_false]
    rw [this]; rfl
  | m + 1, M + 1, l, t :: q, a, hm, hd, ha, hg, hi => by
    obtain ⟨e1, e2, e3, e4⟩ := tkP_is hd
    have hat : (stOf L (.ok l (t :: q))).at' = (a : Int) := by simp only [stOf, prAt, List.length_cons]; omega
    have hgo : goB L s (stOf L (.ok l (t :: q))) = (t.op && decide (bnd (opK t.text) = s)) := by
      unfold goB
      rw [hat, tokA_is hd, decide_eq_true (show (a : Int) < L.length by omega), Bool.true_and]
      have : decide (((bnd (opK t.text) : Nat) : Int) = (s : Int)) = decide (bnd (opK t.text) = s) := by
        by_cases hb : bnd (opK t.text) = s
        · rw [decide_eq_true hb, decide_eq_true (by omega)]
        · rw [decide_eq_false hb, decide_eq_false (by omega)]
      rw [this]; rfl
    rw [pLoop_cons] at hi ⊢
    unfold eLoop
    rw [hgo]
    cases hc : (t.op && decide (bnd (opK t.text) = s)) with
    | false => rfl
    | true =>
      rw [hc, cond_true] at hi
      rw [cond_true, cond_true]
      have hop : opX k s L (stOf L (.ok l (t :: q))) = pOp (pE k) s q := by
        unfold opX
        rw [hat, show ((a : Int) + 1).toNat = a + 1 from by omega, drop_tail hd, Int.toNat_natCast]
      have hx : prIn (pOp (pE k) s q) = true := then_prIn hi
      have hq : q.all okTk = true := by
        have := all_drop ht a
        rw [hd, List.all_cons, Bool.and_eq_true] at this
        exact this.2
      have hxg := op_good hq h1 h6 hx
      have hkd : opK t.text ≠ 0 := by
        intro h0
        unfold Tok.op at hc
        rw [h0] at hc
        simp at hc
      obtain ⟨s1, s2⟩ := step_bin (opK_rng hkd) hd ht hg hxg
      have hst : stepE k s L (stOf L (.ok l (t :: q))) = stOf L ((pOp (pE k) s q).then fun e r => node1 (.bin (opK t.text) t.pos l e) (q.length + 1) r) := by
        rw [← s1]
        unfold stepE
        rw [hop, hat, tokA_is hd]; rfl
      rw [hop, hx, cond_true, hst]
      have ha' := then_then (pOp (pE k) s q) (fun e r => node1 (.bin (opK t.text) t.pos l e) (q.length + 1) r) (fun l' q' => bif decide (s = 3) then .ok l' q' else pLoop (pE k) s m l' q')
      rw [ha'] at hi ⊢
      cases hy : (pOp (pE k) s q).then fun e r => node1 (.bin (opK t.text) t.pos l e) (q.length + 1) r with
      | out => rw [hy] at s2; exact s2.elim
      | bad er n =>
        rw [hy] at s2
        have her : er ≠ 0 := s2
        show (bif decide ((s : Int) = 3) then some (stOf L (.bad er n)) else eLoop k s L M (stOf L (.bad er n))) = some (stOf L (.bad er n))
        cases M with
        | zero => omega
        | succ M =>
          have : goB L s (stOf L (.bad er n)) = false := by
            unfold goB
            rw [show (stOf L (PR.bad er n)).e = er from rfl, decide_eq_false her, Bool.false_and]
          unfold eLoop
          rw [this, cond_false]
          cases decide ((s : Int) = 3) <;> rfl
      | ok l' q' =>
        rw [hy] at hi s2
        show (bif decide ((s : Int) = 3) then some (stOf L (.ok l' q')) else eLoop k s L M (stOf L (.ok l' q'))) = some (stOf L (bif decide (s = 3) then .ok l' q' else pLoop (pE k) s m l' q'))
        have hi : prIn (bif decide (s = 3) then .ok l' q' else pLoop (pE k) s m l' q') = true := hi
        by_cases h3 : s = 3
        · rw [decide_eq_true (show (s : Int) = 3 by omega), decide_eq_true h3]; rfl
        · rw [decide_eq_false h3, cond_false] at hi
          rw [decide_eq_false (show ¬ (s : Int) = 3 by omega), decide_eq_false h3, cond_false, cond_false]
          obtain ⟨e0, r0, hr0, hn0⟩ := Go.Am.then_ok hy
          obtain ⟨_, hq', _, _⟩ := node1_inv hn0
          obtain ⟨⟨p, hp, _⟩, _, _⟩ := op_sound (fun s r e r' => pE_sound k s r e r') h1 h6 hr0
          subst hq'
          have hlen : q.length = p.length + q'.length := by rw [hp, List.length_append]
          refine eLoop_is h1 h6 ht m M l' q' (a + 1 + p.length) (by omega) ?_ (by omega) s2 hi
          rw [← List.drop_drop, drop_tail hd, hp, List.drop_left]
end Go.Proofs.YtdckpbeioemopabGreatDoor
namespace Go.Proofs.YtdckpbeioemopabGreatDoor
open Go.Am
set_option maxRecDepth 100000
variable {B : Nat → Option Obj}
def sgnL : List (List UInt8) := [[42], [43], [45], [60, 60], [62, 62], [60], [60, 61], [62], [62, 61], [61], [33, 61], [97, 110, 100], [111, 114]]
def idxI (t : List UInt8) : Int := bif decide (opK t = 0) then -1 else opK t - 7
def sIdxS : FSpec
  | [.slw 0, .str t], [⟨false, .strs l⟩] => .node (decide (l = sgnL)) (.leaf ⟨[.int .i64 (idxI t)], []⟩) .bad
  | _, _ => .bad
def ixF (t : List UInt8) : List (List UInt8) → Int → Option Out
  | [], _ => some ⟨[i64 (-1)], []⟩
  | s :: r, i => bif decide (t = s) then some ⟨[i64 i], []⟩ else ixF t r (i + 1)
theorem tIdx (t : List UInt8) : runT B lib9 Tryz.f99 [.slw 0, .str t] [⟨false, .strs sgnL⟩] = ixF t sgnL 0 := by kernel_rfl
theorem ixF_is (t : List UInt8) : ixF t sgnL 0 = some ⟨[i64 (idxI t)], []⟩ := by
  unfold idxI opK sgnL
  simp only [ixF]
  cases decide (t = [42]) with
  | true => rfl
  | false =>
    cases decide (t = [43]) with
    | true => rfl
    | false =>
      cases decide (t = [45]) with
      | true => rfl
      | false =>
        cases decide (t = [60, 60]) with
        | true => rfl
        | false =>
          cases decide (t = [62, 62]) with
          | true => rfl
          | false =>
            cases decide (t = [60]) with
            | true => rfl
            | false =>
              cases decide (t = [60, 61]) with
              | true => rfl
              | false =>
                cases decide (t = [62]) with
                | true => rfl
                | false =>
                  cases decide (t = [62, 61]) with
                  | true => rfl
                  | false =>
                    cases decide (t = [61]) with
                    | true => rfl
                    | false =>
                      cases decide (t = [33, 61]) with
                      | true => rfl
                      | false =>
                        cases decide (t = [97, 110, 100]) with
                        | true => rfl
                        | false =>
                          cases decide (t = [111, 114]) <;> rfl
theorem okIdx : FnOk (E0 B) 99 sIdxS := by
  refine fnT lib9_ok Tryz.func99 (by kernel_rfl) (by kernel_rfl) fun vs bs r h => ?_
  unfold sIdxS at h
  split at h
  · rename_i t l
    rcases T.node_sel h with ⟨hg, h2⟩ | ⟨_, h2⟩
    · have := of_decide_eq_true hg
      subst this
      simp only [T.sel, Option.some.injEq] at h2; subst h2
      exact (tIdx t).trans (ixF_is t)
    · simp [T.sel] at h2
  · simp [T.sel] at h
noncomputable def lib13 (k : Nat) : Tb := (98, [], sOper k) :: (99, [], sIdxS) :: lib9
noncomputable def bEx : Code := loopAt 2 (loopsOf (bodyC Tryz.f62))
def sgEx : LSig := { cs := [(0, 0), (1, 0)], mv := [(5, 22)], mo := [(5, 22)], take := [1] }
def exO (L : List Tok) (at' e : Int) (X : List Nod) : Option (AExit × Out) := some (.exit 0, ⟨[.slw 1], [pB 2 at' e, ob X, tkb L]⟩)
def vsX (s : Int) : List AV := [.ptr 0 0 0, i64 s, .slw 1]
def bsX (L : List Tok) (at' e : Int) (X : List Nod) : List Blk := [pB 2 at' e, ob X, tkb L]
def nmO (s : Int) (L : List Tok) (at' e : Int) (X : List Nod) : Option (AExit × Out) := some (.normal, ⟨vsX s, bsX L at' e X⟩)
def mkBi (s : Int) (L : List Tok) (at' kd : Int) (X : List Nod) (x : PR) : Option (AExit × Out) := bif prIn x then (bif !decide (prEr x = 0) || (decide (0 ≤ at' ∧ at' < (L.length : Int)) && (decide (7 ≤ kd ∧ kd ≤ 19 ∧ 0 ≤ tkP L at' ∧ tkP L at' ≤ 400) && (decide (chkN X = 0) && decide (chkN (prNd x) = 0)))) then
  (bif decide (s = 3) then exO L (mkA (prEr x) (prAt L x) at' (biL kd (tkP L at') X (prNd x))) (mkE (prEr x) (biL kd (tkP L at') X (prNd x))) (mkX (decide (prEr x = 0) && decide (chkN (biL kd (tkP L at') X (prNd x)) = 0)) (biL kd (tkP L at') X (prNd x)))
    else nmO s L (mkA (prEr x) (prAt L x) at' (biL kd (tkP L at') X (prNd x))) (mkE (prEr x) (biL kd (tkP L at') X (prNd x))) (mkX (decide (prEr x = 0) && decide (chkN (biL kd (tkP L at') X (prNd x)) = 0)) (biL kd (tkP L at') X (prNd x)))) else none) else none
def goE (k : Nat) (s : Int) (L : List Tok) (at' kd : Int) (X : List Nod) : Option (AExit × Out) := bif decide (1 ≤ s ∧ s ≤ 6) && okP (w64 (at' + 1)) L then mkBi s L at' kd X (pOp (pE k) s.toNat (L.drop (w64 (at' + 1)).toNat)) else none
def bdE (s kd : Int) (x y : Option (AExit × Out)) : Option (AExit × Out) := bif decide (kd = 7) then (bif !decide (6 = s) then x else y) else bif decide (kd ≤ 9) then (bif !decide (5 = s) then x else y) else bif decide (kd ≤ 11) then (bif !decide (4 = s) then x else y) else
  bif decide (kd ≤ 17) then (bif !decide (3 = s) then x else y) else bif decide (kd = 18) then (bif !decide (2 = s) then x else y) else bif !decide (1 = s) then x else y
def kdE (t : List UInt8) : Int := (IntKind.u8).wrap (7 + (IntKind.u8).wrap (if (0 : Int) > idxI t then 0 else idxI t))
def tuE (k : Nat) (s : Int) (L : List Tok) (at' : Int) (X : List Nod) : Option (AExit × Out) := bif decide (at' < (L.length : Int)) then inb' at' L.length (bif !decide ((tokA L at').kind = 1) then
  inb' at' L.length (bif decide (idxI (tokA L at').text < 0) then exO L at' 0 X else bdE s (kdE (tokA L at').text) (exO L at' 0 X) (goE k s L at' (kdE (tokA L at').text) X)) else exO L at' 0 X) else exO L at' 0 X
theorem turnE (k : Nat) (s : Int) (L : List Tok) (at' : Int) (X : List Nod) : (turn (E0 B) (Cx B (lib13 k)) noL 98 sgEx bEx (vsX s) (bsX L at' 0 X)).sel = tuE k s L at' X := by kernel_rfl
theorem turnEp (k : Nat) (s : Int) (L : List Tok) (at' : Int) (n : Nat) (X : List Nod) : (turn (E0 B) (Cx B (lib13 k)) noL 98 sgEx bEx (vsX s) (bsX L at' (Int.ofNat (n + 1)) X)).sel = exO L at' (Int.ofNat (n + 1)) X := by kernel_rfl
theorem turnEn (k : Nat) (s : Int) (L : List Tok) (at' : Int) (n : Nat) (X : List Nod) : (turn (E0 B) (Cx B (lib13 k)) noL 98 sgEx bEx (vsX s) (bsX L at' (Int.negSucc n) X)).sel = exO L at' (Int.negSucc n) X := by kernel_rfl
theorem turnE1 (k : Nat) (s : Int) (L : List Tok) (at' e : Int) (he : e ≠ 0) (X : List Nod) : (turn (E0 B) (Cx B (lib13 k)) noL 98 sgEx bEx (vsX s) (bsX L at' e X)).sel = exO L at' e X := by
  cases e with
  | ofNat n =>
    cases n with
    | zero => exact (he rfl).elim
    | succ n => exact turnEp k s L at' n X
  | negSucc n => exact turnEn k s L at' n X
end Go.Proofs.YtdckpbeioemopabGreatDoor
namespace Go.Proofs.YtdckpbeioemopabGreatDoor
open Go.Am
set_option maxRecDepth 100000
variable {B : Nat → Option Obj}
theorem kd_fin : ∀ v : Fin 20, 7 ≤ v.val → (IntKind.u8).wrap (7 + (IntKind.u8).wrap (if (0 : Int) > (v.val : Int) - 7 then 0 else (v.val : Int) - 7)) = v.val := by decide +kernel
theorem kdE_is {t : List UInt8} (h : opK t ≠ 0) : kdE t = opK t ∧ ¬ idxI t < 0 := by
  have hr := opK_rng h
  have hi : idxI t = opK t - 7 := by unfold idxI; rw [decide_eq_false h]; rfl
  have := kd_fin ⟨(opK t).toNat, by omega⟩ (by simp only; omega)
  have e : (((opK t).toNat : Nat) : Int) = opK t := by omega
  simp only [e] at this
  refine ⟨?_, by omega⟩
  unfold kdE
  rw [hi]; exact this
theorem bdE_is {s kd : Int} (x y : Option (AExit × Out)) : bdE s kd x y = bif decide ((bnd kd : Int) = s) then y else x := by
  unfold bdE bnd
  have sw : ∀ (b : Bool) (u v : Option (AExit × Out)), (bif !b then u else v) = bif b then v else u := fun b u v => by cases b <;> rfl
  cases decide (kd = 7) <;> cases decide (kd ≤ 9) <;> cases decide (kd ≤ 11) <;> cases decide (kd ≤ 17) <;> cases decide (kd = 18) <;> exact sw _ _ _
structure PInv (L : List Tok) (st : PSt) : Prop where
  h : st.e = 0 → 0 ≤ st.at' ∧ st.at' ≤ L.length ∧ chkN st.X = 0
theorem inb_in {α : Type} {i : Int} {n : Nat} (h0 : 0 ≤ i) (h1 : i < n) (x : Option α) : inb' i n x = x := by
  unfold inb'
  rw [decide_eq_true (show 0 ≤ i ∧ i < (n : Int) from ⟨h0, h1⟩), decide_eq_true (show i.toNat < n by omega)]; rfl
theorem tuE_no {k : Nat} {s : Int} {L : List Tok} {st : PSt} (h0 : st.e = 0) (hi : PInv L st) (hg : goB L s st = false) : tuE k s L st.at' st.X = exO L st.at' 0 st.X := by
  obtain ⟨a0, a1, _⟩ := hi.h h0
  unfold tuE
  unfold goB at hg
  rw [decide_eq_true h0, Bool.true_and] at hg
  by_cases hl : st.at' < (L.length : Int)
  · rw [decide_eq_true hl, Bool.true_and] at hg
    rw [decide_eq_true hl, cond_true, inb_in a0 hl]
    cases hk : decide ((tokA L st.at').kind = 1) with
    | true => rfl
    | false =>
      rw [Bool.not_false, cond_true, inb_in a0 hl]
      unfold Tok.op at hg
      rw [hk, Bool.not_false, Bool.true_and] at hg
      by_cases ho : opK (tokA L st.at').text = 0
      · have : idxI (tokA L st.at').text < 0 := by unfold idxI; rw [decide_eq_true ho]; exact (by decide : (-1 : Int) < 0)
        rw [decide_eq_true this]; rfl
      · rw [decide_eq_false ho, Bool.not_false, Bool.true_and] at hg
        obtain ⟨k1, k2⟩ := kdE_is ho
        rw [decide_eq_false k2, cond_false, k1, bdE_is, hg]; rfl
  · rw [decide_eq_false hl]; rfl
theorem tuE_go {k s : Nat} (h1 : 1 ≤ s) (h6 : s ≤ 6) {L : List Tok} (ht : L.all okTk = true) (hL : L.length ≤ 200) {st : PSt} (hi : PInv L st) (hg : goB L s st = true) (hx : prIn (opX k s L st) = true) :
    tuE k s L st.at' st.X = (bif decide ((s : Int) = 3) then exO L (stepE k s L st).at' (stepE k s L st).e (stepE k s L st).X else nmO s L (stepE k s L st).at' (stepE k s L st).e (stepE k s L st).X) ∧ PInv L (stepE k s L st) := by
  unfold goB at hg
  simp only [Bool.and_eq_true, decide_eq_true_eq] at hg
  obtain ⟨h0, hl, hop, hb⟩ := hg
  obtain ⟨a0, a1, hX⟩ := hi.h h0
  obtain ⟨a, ha⟩ : ∃ a : Nat, st.at' = a := ⟨st.at'.toNat, by omega⟩
  have hlt : a < L.length := by omega
  obtain ⟨t, q, hd⟩ : ∃ t q, L.drop a = t :: q := ⟨_, _, List.drop_eq_getElem_cons hlt⟩
  obtain ⟨p1, p2, p3, p4⟩ := tkP_is hd
  have hp := of_decide_eq_true (List.all_eq_true.1 ht t p4)
  unfold Tok.op at hop
  rw [Bool.and_eq_true, Bool.not_eq_true', Bool.not_eq_true'] at hop
  have ho := of_decide_eq_false hop.2
  obtain ⟨k1, k2⟩ := kdE_is ho
  obtain ⟨r1, r2⟩ := opK_rng ho
  have hw : w64 (st.at' + 1) = st.at' + 1 := w64_rng (by unfold Rng; omega)
  have hxg : goodR (opX k s L st) := by
    unfold opX at hx ⊢
    rw [Int.toNat_natCast] at hx ⊢
    exact op_good (all_drop ht _) h1 h6 hx
  have hfit := good_fit (L := L) hxg
  constructor
  · unfold tuE
    rw [decide_eq_true hl, cond_true, inb_in a0 hl, hop.1, Bool.not_false, cond_true, inb_in a0 hl, decide_eq_false k2, cond_false, k1, bdE_is, decide_eq_true hb, cond_true]
    unfold goE
    have hok : okP (st.at' + 1) L = true := by
      unfold okP
      rw [Bool.and_eq_true]
      exact ⟨decide_eq_true ⟨by omega, by omega, hL⟩, ht⟩
    rw [hw, hok, decide_eq_true (show 1 ≤ (s : Int) ∧ (s : Int) ≤ 6 by omega), Bool.true_and, cond_true]
    unfold mkBi
    have hx' : prIn (pOp (pE k) (s : Int).toNat (L.drop (st.at' + 1).toNat)) = true := hx
    rw [hx', cond_true]
    have hguard : (!decide (prEr (opX k s L st) = 0) || (decide (0 ≤ st.at' ∧ st.at' < (L.length : Int)) && (decide (7 ≤ opK (tokA L st.at').text ∧ opK (tokA L st.at').text ≤ 19 ∧ 0 ≤ tkP L st.at' ∧ tkP L st.at' ≤ 400) && (decide (chkN st.X = 0) && decide (chkN (prNd (opX k s L st)) = 0))))) = true := by
      by_cases he : prEr (opX k s L st) = 0
      · have hc : chkN (prNd (opX k s L st)) = 0 := hfit he
        rw [decide_eq_true (show 0 ≤ st.at' ∧ st.at' < (L.length : Int) from ⟨a0, hl⟩), decide_eq_true (show 7 ≤ opK (tokA L st.at').text ∧ opK (tokA L st.at').text ≤ 19 ∧ 0 ≤ tkP L st.at' ∧ tkP L st.at' ≤ 400 from ⟨r1, r2, by rw [ha, p1]; exact hp.1, by rw [ha, p1]; exact hp.2.1⟩), decide_eq_true hX, decide_eq_true hc]
        simp
      · rw [decide_eq_false he]; rfl
    have hguard' := hguard
    unfold opX at hguard'
    rw [hguard', cond_true]; rfl
  · constructor
    intro he
    have he : mkE (prEr (opX k s L st)) (biL (opK (tokA L st.at').text) (tkP L st.at') st.X (prNd (opX k s L st))) = 0 := he
    unfold mkE at he
    by_cases hz : prEr (opX k s L st) = 0
    · rw [decide_eq_true hz, cond_true] at he
      have e1 : (stepE k s L st).at' = prAt L (opX k s L st) := by
        show mkA _ _ _ _ = _
        unfold mkA
        rw [decide_eq_true hz, decide_eq_true he]; rfl
      have e2 : (stepE k s L st).X = biL (opK (tokA L st.at').text) (tkP L st.at') st.X (prNd (opX k s L st)) := by
        show mkX _ _ = _
        unfold mkX
        rw [decide_eq_true hz, decide_eq_true he]; rfl
      rw [e1, e2]
      cases hc : opX k s L st with
      | out => rw [hc] at hxg; exact hxg.elim
      | bad er n => rw [hc] at hz hxg; exact (hxg hz).elim
      | ok e r' =>
        have hs : pOp (pE k) s (L.drop (st.at' + 1).toNat) = .ok e r' := by
          unfold opX at hc; rwa [Int.toNat_natCast] at hc
        have := (op_sound (fun s r e r' => pE_sound k s r e r') h1 h6 hs).less
        rw [List.length_drop] at this
        rw [hc] at he
        refine ⟨?_, ?_, he⟩
        · show 0 ≤ (L.length : Int) - r'.length; omega
        · show (L.length : Int) - r'.length ≤ L.length; omega
    · rw [decide_eq_false hz] at he; exact (hz he).elim
theorem turnsE {k s : Nat} (h1 : 1 ≤ s) (h6 : s ≤ 6) {L : List Tok} (ht : L.all okTk = true) (hL : L.length ≤ 200) : ∀ (m : Nat) (st st' : PSt), PInv L st → eLoop k s L m st = some st' →
    ∃ n, (turns (E0 B) (Cx B (lib13 k)) noL 98 sgEx bEx n (vsX s) (bsX L st.at' st.e st.X)).sel = exO L st'.at' st'.e st'.X
  | 0, _, _, _, h => by cases h
  | m + 1, st, st', hi, h => by
    unfold eLoop at h
    cases hg : goB L s st with
    | false =>
      rw [hg] at h
      have h : st = st' := by simpa using h
      subst h
      refine ⟨1, turns_done ?_ (by simp)⟩
      by_cases h0 : st.e = 0
      · rw [h0]
        exact (turnE k s L st.at' st.X).trans (tuE_no h0 hi hg)
      · exact turnE1 k s L st.at' st.e h0 st.X
    | true =>
      rw [hg, cond_true] at h
      cases hx : prIn (opX k s L st) with
      | false => rw [hx] at h; cases h
      | true =>
        rw [hx, cond_true] at h
        obtain ⟨t1, t2⟩ := tuE_go h1 h6 ht hL hi hg hx
        have h0 : st.e = 0 := by
          unfold goB at hg
          rw [Bool.and_eq_true] at hg
          exact of_decide_eq_true hg.1
        have htu := (turnE (B := B) k s L st.at' st.X).trans t1
        rw [h0]
        by_cases h3 : (s : Int) = 3
        · rw [decide_eq_true h3, cond_true] at h htu
          have h : stepE k s L st = st' := by simpa using h
          rw [← h]
          exact ⟨1, turns_done htu (by simp)⟩
        · rw [decide_eq_false h3, cond_false] at h htu
          obtain ⟨n, hn⟩ := turnsE h1 h6 ht hL m _ st' t2 h
          exact ⟨n + 1, turns_more htu hn⟩
def stG (r : Option PSt) : PSt := r.getD ⟨0, 0, []⟩
def spEx (k : Nat) : LSpec
  | [.ptr 0 0 0, .int .i64 s, .slw 1], [⟨true, .gen [a, b, c] [[.slw 2, .int .i64 at', .int .i64 e]]⟩, ⟨true, .nodes X⟩, ⟨false, .toks L⟩] =>
    .node (tysB a b c && (decide (1 ≤ s ∧ s ≤ 6) && (decide (L.length ≤ 200) && (L.all okTk && (!decide (e = 0) || (decide (0 ≤ at' ∧ at' ≤ (L.length : Int)) && decide (chkN X = 0)))))))
      (.node (eLoop k s L (L.length + 2) ⟨at', e, X⟩).isSome (.leaf (.exit 0, ⟨[.slw 1], [pB 2 (stG (eLoop k s L (L.length + 2) ⟨at', e, X⟩)).at' (stG (eLoop k s L (L.length + 2) ⟨at', e, X⟩)).e, ob (stG (eLoop k s L (L.length + 2) ⟨at', e, X⟩)).X, tkb L]⟩)) .bad) .bad
  | _, _ => .bad
theorem lib13_ok {k : Nat} (hO : FnOk (E0 B) 98 (sOper k)) : TbOk B (lib13 k) := (lib9_ok.add okIdx).add hO
theorem loopEx {k : Nat} (hO : FnOk (E0 B) 98 (sOper k)) : LoopOk (E0 B) 98 sgEx bEx (spEx k) := by
  refine loop_turns (C := Cx B (lib13 k)) (L := noL) (cxOk (lib13_ok hO)) (noL_ok _) fun vs bs e o h => ?_
  unfold spEx at h
  split at h
  · rename_i s a b c at' er X L
    rcases T.node_sel h with ⟨hc, h2⟩ | ⟨_, h2⟩
    · simp only [Bool.and_eq_true] at hc
      obtain ⟨c1, c2, c3, c4, c5⟩ := hc
      obtain ⟨rfl, rfl, rfl⟩ := tysB_is c1
      have c2 := of_decide_eq_true c2
      have c3 := of_decide_eq_true c3
      obtain ⟨s, rfl⟩ : ∃ n : Nat, s = n := ⟨s.toNat, by omega⟩
      have hinv : PInv L ⟨at', er, X⟩ := ⟨fun h0 => by
        have h0 : er = 0 := h0
        rw [decide_eq_true h0, Bool.not_true, Bool.false_or, Bool.and_eq_true] at c5
        have := of_decide_eq_true c5.1
        exact ⟨this.1, this.2, of_decide_eq_true c5.2⟩⟩
      rcases T.node_sel h2 with ⟨hs, h3⟩ | ⟨_, h3⟩
      · cases hl : eLoop k s L (L.length + 2) ⟨at', er, X⟩ with
        | none => rw [hl] at hs; cases hs
        | some st' =>
          rw [hl] at h3
          obtain ⟨n, hn⟩ := turnsE (B := B) (by omega) (by omega) c4 c3 _ _ st' hinv hl
          refine ⟨n, hn.trans ?_⟩
          rw [← h3]; rfl
      · simp [T.sel] at h3
    · simp [T.sel] at h2
  · simp [T.sel] at h
noncomputable def eEx (k : Nat) : LEnt := { id := 2, n := 98, sg := sgEx, wr := writes bEx, s := spEx k }
end Go.Proofs.YtdckpbeioemopabGreatDoor
namespace Go.Proofs.YtdckpbeioemopabGreatDoor
open Go.Am
set_option maxRecDepth 100000
variable {B : Nat → Option Obj}
def exG (s : Int) (L : List Tok) (at' e : Int) (X : List Nod) : Bool := decide (1 ≤ s ∧ s ≤ 6) && (decide (L.length ≤ 200) && (L.all okTk && (!decide (e = 0) || (decide (0 ≤ at' ∧ at' ≤ (L.length : Int)) && decide (chkN X = 0)))))
def exL (k : Nat) (s : Int) (L : List Tok) (x : PR) : Option PSt := eLoop k s L (L.length + 2) ⟨prAt L x, prEr x, prNd x⟩
def exF (k : Nat) (s : Int) (L : List Tok) (x : PR) : Option Out := bif prIn x then (bif exG s L (prAt L x) (prEr x) (prNd x) then (bif (exL k s L x).isSome then
  (bif !decide ((stG (exL k s L x)).e = 0) then pOut L (stG (exL k s L x)).at' (stG (exL k s L x)).e [] else pOut L (stG (exL k s L x)).at' (stG (exL k s L x)).e (stG (exL k s L x)).X) else none) else none) else none
theorem tExpr (k : Nat) (s at' : Int) (L : List Tok) : runL B (lib13 k) [eEx k] Tryz.f62 [.ptr 0 0 0, i64 s] [pB 1 at' 0, tkb L] =
    bif decide (1 ≤ s ∧ s ≤ 6) && okP at' L then exF k s L (pOp (pE k) s.toNat (L.drop at'.toNat)) else none := by kernel_rfl
theorem drop_of {L p r' : List Tok} {a : Nat} (h : L.drop a = p ++ r') : L.drop (a + p.length) = r' := by
  rw [← List.drop_drop, h, List.drop_left]
theorem exF_is {k s : Nat} (h1 : 1 ≤ s) (h6 : s ≤ 6) {L : List Tok} (ht : L.all okTk = true) (hL : L.length ≤ 200) {a : Nat} (ha : a ≤ L.length) (hy : prIn (pE (k + 1) s (L.drop a)) = true) :
    exF k s L (pOp (pE k) s (L.drop a)) = pOut L (prAt L (pE (k + 1) s (L.drop a))) (prEr (pE (k + 1) s (L.drop a))) (prNd (pE (k + 1) s (L.drop a))) := by
  have hpe : pE (k + 1) s (L.drop a) = (pOp (pE k) s (L.drop a)).then fun l r' => pLoop (pE k) s (r'.length + 1) l r' := rfl
  rw [hpe] at hy ⊢
  have hx := then_prIn hy
  have hxg := op_good (all_drop ht a) h1 h6 hx
  unfold exF
  rw [hx, cond_true]
  cases hc : pOp (pE k) s (L.drop a) with
  | out => rw [hc] at hx; cases hx
  | bad er n =>
    rw [hc] at hxg
    have her : er ≠ 0 := hxg
    have hl : exL k s L (.bad er n) = some ⟨(L.length : Int) - n, er, []⟩ := by
      show eLoop k s L (L.length + 1 + 1) ⟨(L.length : Int) - n, er, []⟩ = _
      have : goB L s ⟨(L.length : Int) - n, er, []⟩ = false := by
        unfold goB
        rw [decide_eq_false her, Bool.false_and]
      unfold eLoop
      rw [this]; rfl
    have hg : exG s L (prAt L (.bad er n)) (prEr (.bad er n)) (prNd (.bad er n)) = true := by
      unfold exG
      rw [ht, decide_eq_true hL, decide_eq_true (show 1 ≤ (s : Int) ∧ (s : Int) ≤ 6 by omega), show prEr (.bad er n) = er from rfl, decide_eq_false her]; rfl
    rw [hg, hl]
    show (bif !decide (er = 0) then _ else _) = _
    rw [decide_eq_false her]; rfl
  | ok e r' =>
    rw [hc] at hxg hy
    have hsnd := op_sound (fun s r e r' => pE_sound k s r e r') h1 h6 hc
    obtain ⟨p, hp, _⟩ := hsnd.1
    have hdl := congrArg List.length hp
    rw [List.length_drop, List.length_append] at hdl
    have hd := drop_of hp
    have hl : exL k s L (.ok e r') = some (stOf L (pLoop (pE k) s (r'.length + 1) e r')) := eLoop_is h1 h6 ht (r'.length + 1) (L.length + 2) e r' (a + p.length) (by omega) hd (by omega) hxg hy
    have hf : chkN (e.flat 0) = 0 := good_fit (L := L) hxg rfl
    have hg : exG s L (prAt L (.ok e r')) (prEr (.ok e r')) (prNd (.ok e r')) = true := by
      unfold exG
      rw [ht, decide_eq_true hL, decide_eq_true (show 1 ≤ (s : Int) ∧ (s : Int) ≤ 6 by omega)]
      show (true && (true && (true && (!decide ((0 : Int) = 0) || (decide (0 ≤ (L.length : Int) - r'.length ∧ (L.length : Int) - r'.length ≤ L.length) && decide (chkN (e.flat 0) = 0)))))) = true
      rw [decide_eq_true hf, decide_eq_true (show 0 ≤ (L.length : Int) - r'.length ∧ (L.length : Int) - r'.length ≤ L.length by omega)]; rfl
    rw [hg, hl]
    show (bif !decide (prEr (pLoop (pE k) s (r'.length + 1) e r') = 0) then pOut L (prAt L (pLoop (pE k) s (r'.length + 1) e r')) (prEr (pLoop (pE k) s (r'.length + 1) e r')) [] else pOut L (prAt L (pLoop (pE k) s (r'.length + 1) e r')) (prEr (pLoop (pE k) s (r'.length + 1) e r')) (prNd (pLoop (pE k) s (r'.length + 1) e r'))) = pOut L (prAt L (pLoop (pE k) s (r'.length + 1) e r')) (prEr (pLoop (pE k) s (r'.length + 1) e r')) (prNd (pLoop (pE k) s (r'.length + 1) e r'))
    cases hq : pLoop (pE k) s (r'.length + 1) e r' with
    | out => rfl
    | ok e2 r2 => rfl
    | bad e2 n2 =>
      cases !decide (prEr (.bad e2 n2) = 0) <;> rfl
theorem okExpr1 (k : Nat) (hO : FnOk (E0 B) 98 (sOper k)) : FnOk (E0 B) 62 (sExpr (k + 1)) := by
  refine fnL (lib13_ok hO) (ls := [eEx k]) Tryz.func62 (by kernel_rfl) (by kernel_rfl) (fun x hx => ?_) fun vs bs r h => ?_
  · simp only [List.mem_singleton] at hx; subst hx
    exact ⟨bEx, by kernel_rfl, rfl, loopEx hO⟩
  · unfold sExpr at h
    split at h
    · rename_i s a b c at' L
      rcases T.node_sel h with ⟨hg, h2⟩ | ⟨_, h2⟩
      · simp only [Bool.and_eq_true] at hg
        obtain ⟨h1, hs, hp⟩ := hg
        obtain ⟨rfl, rfl, rfl⟩ := tysB_is h1
        obtain ⟨hy, ho⟩ := pT_sel h2
        have hp' := hp
        unfold okP at hp'
        rw [Bool.and_eq_true] at hp'
        obtain ⟨p1, p2, p3⟩ := of_decide_eq_true hp'.1
        have hs' := of_decide_eq_true hs
        obtain ⟨s, rfl⟩ : ∃ n : Nat, s = n := ⟨s.toNat, by omega⟩
        obtain ⟨a, rfl⟩ : ∃ n : Nat, at' = n := ⟨at'.toNat, by omega⟩
        rw [Int.toNat_natCast, Int.toNat_natCast] at hy ho
        refine (tExpr k s a L).trans ?_
        rw [hs, hp, Int.toNat_natCast, Int.toNat_natCast]
        exact (exF_is (by omega) (by omega) hp'.2 p3 (by omega) hy).trans ho
      · simp [T.sel] at h2
    · simp [T.sel] at h
theorem okExpr0 : FnOk (E0 B) 62 (sExpr 0) := by
  refine fnT lib9_ok Tryz.func62 (by kernel_rfl) (by kernel_rfl) fun vs bs r h => ?_
  unfold sExpr at h
  split at h
  · rcases T.node_sel h with ⟨_, h2⟩ | ⟨_, h2⟩
    · obtain ⟨hy, _⟩ := pT_sel h2
      cases hy
    · simp [T.sel] at h2
  · simp [T.sel] at h
theorem okExpr (hB : Laid B) : ∀ k, FnOk (E0 B) 62 (sExpr k)
  | 0 => okExpr0
  | k + 1 => okExpr1 k (okOper hB k (okExpr hB k))
end Go.Proofs.YtdckpbeioemopabGreatDoor
namespace Go.Proofs.YtdckpbeioemopabGreatDoor
open Go.Am
set_option maxRecDepth 100000
variable {B : Nat → Option Obj}
noncomputable def lib14 : Tb := (62, [], sExpr 1500) :: (61, [], Lx.sJn) :: lib9
theorem lib14_ok (hB : Laid B) : TbOk B lib14 := (lib9_ok.add (Lx.okJoin hB)).add (okExpr hB 1500)
noncomputable def bPa : Code := loopAt 4 (loopsOf (bodyC Tryz.f26))
def sgPa : LSig := { cs := [(0, 51), (16, 51), (17, 0)], mv := [(18, 0)], mo := [(4, 22), (5, 0), (6, 0)], take := [] }
def ptS (L : List Tok) (i : Int) : List Tok := (L.drop i.toNat).take ((w64 (i + 1)).toNat - i.toNat)
def ptB (L M : List Tok) (i : Int) (x y : Option (AExit × Out)) : Option (AExit × Out) := bif decide (jE (ptS L i) = 8) then x else bif decide ((tokA M i).pos < 0) then x else bif decide (400 < (tokA M i).pos) then x else y
def ptV (n i : Int) : List AV := [.slw 0, .slw 1, i64 n, i64 i]
def ptE : Out := ⟨[.slw 0, i64 0, i64 8], [ob []]⟩
def ptX : Out := ⟨[.any, .any, .any], []⟩
theorem turnPa (L M : List Tok) (n i : Int) : (turn (E0 B) (Cx B lib14) noL 68 sgPa bPa (ptV n i) [tkb L, tkb M]).sel =
    bif decide (i < n) then inb' i M.length (bif decide (0 ≤ i ∧ i ≤ w64 (i + 1) ∧ w64 (i + 1) ≤ (L.length : Int)) then (bif shortT (ptS L i) then ptB L M i (some (.ret, ptE)) (some (.normal, ⟨ptV n (w64 (i + 1)), [tkb L, tkb M]⟩)) else none) else none) else some (.exit 0, ptX) := by kernel_rfl
def okV (t : Tok) : Bool := validB t && decide (0 ≤ t.pos ∧ t.pos ≤ 400)
theorem jE_one (t : Tok) : decide (jE [t] = 8) = !validB t := by
  unfold jE
  rw [decide_eq_false (show ¬ (200 : Int) < (([t] : List Tok).length : Int) by simp), cond_false, List.all_cons, List.all_nil, Bool.and_true]
  cases validB t with
  | false => rfl
  | true => cases decide ((400 : Int) < ((jT [t]).length : Int)) <;> rfl
theorem turnPa' {L : List Tok} (hs : shortT L = true) (hL : L.length ≤ 200) (i : Nat) (hi : i ≤ L.length) : (turn (E0 B) (Cx B lib14) noL 68 sgPa bPa (ptV L.length i) [tkb L, tkb L]).sel =
    bif decide (i < L.length) then (bif !okV (L.getD i default) then some (.ret, ptE) else some (.normal, ⟨ptV L.length (i + 1 : Nat), [tkb L, tkb L]⟩)) else some (.exit 0, ptX) := by
  refine (turnPa L L L.length i).trans ?_
  by_cases hlt : i < L.length
  · obtain ⟨t, q, hd⟩ : ∃ t q, L.drop i = t :: q := ⟨_, _, List.drop_eq_getElem_cons hlt⟩
    have ht := tokA_is hd
    have hg : L.getD i default = t := by unfold tokA at ht; rwa [Int.toNat_natCast] at ht
    have hw : w64 ((i : Int) + 1) = ((i + 1 : Nat) : Int) := by rw [w64_rng (show Rng ((i : Int) + 1) by unfold Rng; omega)]; omega
    have hp : ptS L i = [t] := by
      unfold ptS
      rw [hw, Int.toNat_natCast, Int.toNat_natCast, hd, show i + 1 - i = 1 by omega]; rfl
    have hm := (tkP_is hd).2.2.2
    have hst : shortT [t] = true := by unfold shortT; rw [List.all_cons, decide_eq_true (short_mem hs hm)]; rfl
    rw [decide_eq_true (show (i : Int) < (L.length : Int) by omega), decide_eq_true hlt, cond_true, cond_true, inb'_is hlt, hp, hst, hw, decide_eq_true (show 0 ≤ (i : Int) ∧ (i : Int) ≤ ((i + 1 : Nat) : Int) ∧ ((i + 1 : Nat) : Int) ≤ (L.length : Int) by omega), cond_true, cond_true, hg]
    unfold ptB okV
    rw [hp, jE_one, ht]
    cases validB t with
    | false => rfl
    | true =>
      rw [Bool.not_true, cond_false, Bool.true_and]
      by_cases h1 : t.pos < 0
      · rw [decide_eq_true h1, decide_eq_false (show ¬ (0 ≤ t.pos ∧ t.pos ≤ 400) by omega)]; rfl
      · by_cases h2 : 400 < t.pos
        · rw [decide_eq_false h1, decide_eq_true h2, decide_eq_false (show ¬ (0 ≤ t.pos ∧ t.pos ≤ 400) by omega)]; rfl
        · rw [decide_eq_false h1, decide_eq_false h2, decide_eq_true (show 0 ≤ t.pos ∧ t.pos ≤ 400 by omega)]; rfl
  · rw [decide_eq_false (show ¬ (i : Int) < (L.length : Int) by omega), decide_eq_false hlt]; rfl
def spPa : LSpec
  | [.slw 0, .slw 1, .int .i64 n, .int .i64 i], [⟨false, .toks L⟩, ⟨false, .toks M⟩] => .node (decide (L = M ∧ n = (L.length : Int) ∧ i = 0 ∧ L.length ≤ 200) && shortT L) (.node (L.all okV) (.leaf (.exit 0, ptX)) (.leaf (.ret, ⟨[.slw 0, i64 0, i64 8], [⟨true, .nodes []⟩]⟩))) .bad
  | _, _ => .bad
theorem loopPa (hB : Laid B) : LoopOk (E0 B) 68 sgPa bPa spPa := by
  refine loop_turns (C := Cx B lib14) (L := noL) (cxOk (lib14_ok hB)) (noL_ok _) fun vs bs e o h => ?_
  unfold spPa at h
  split at h
  · rename_i n i L M
    rcases T.node_sel h with ⟨hc, h2⟩ | ⟨_, h2⟩
    · rw [Bool.and_eq_true] at hc
      obtain ⟨rfl, rfl, rfl, hL⟩ := of_decide_eq_true hc.1
      obtain ⟨m, hm⟩ := scan_turns (E := E0 B) (C := Cx B lib14) (L := noL) (n := 68) (sg := sgPa) (body := bPa) (st := fun i => ptV L.length i) (bs := [tkb L, tkb L]) (len := L.length) (bad := fun j => !okV (L.getD j default)) (ob := fun _ => ptE) (k := 0) (oe := ptX)
        (fun i hi => turnPa' hc.2 hL i hi) L.length 0 (by omega)
      refine ⟨m, hm.trans ?_⟩
      have hf := firstB_list (fun t => !okV t) L L 0 rfl
      rw [Nat.zero_add] at hf
      rw [hf, firstL_any, ← h2]
      have : L.any (fun t => !okV t) = !L.all okV := by rw [List.not_all_eq_any_not]
      rw [this]
      simp only [T.sel]
      cases L.all okV <;> rfl
    · simp [T.sel] at h2
  · simp [T.sel] at h
noncomputable def ePa : LEnt := { id := 4, n := 68, sg := sgPa, wr := writes bPa, s := spPa }
def zR (at' : Int) (L : List Tok) : PR := pE 1500 1 (L.drop at'.toNat)
def pzO (n e : Int) (X : List Nod) : Option Out := some ⟨[.slw 0, i64 n, i64 e], [ob X]⟩
theorem tParse (L : List Tok) (at' : Int) : runL B lib14 [ePa] Tryz.f26 [.slw 0, i64 at'] [tkb L] =
    bif decide (200 < (L.length : Int)) then pzO 0 4 [] else bif decide (L = L ∧ (L.length : Int) = (L.length : Int) ∧ (0 : Int) = 0 ∧ L.length ≤ 200) && shortT L then (bif L.all okV then (bif decide (at' < 0) then pzO 0 2 [] else bif decide ((L.length : Int) < at') then pzO 0 2 [] else
      bif decide ((1 : Int) ≤ 1 ∧ (1 : Int) ≤ 6) && okP at' L then (bif prIn (zR at' L) then pzO (prAt L (zR at' L)) (prEr (zR at' L)) (prNd (zR at' L)) else none) else none) else pzO 0 8 []) else none := by kernel_rfl
def zE0 (L : List Tok) (at' : Int) : Int := bif decide (200 < L.length) then 4 else bif L.all okV then (bif decide (0 ≤ at' ∧ at' ≤ (L.length : Int)) then 0 else 2) else 8
def zE (L : List Tok) (at' : Int) : Int := bif decide (zE0 L at' = 0) then prEr (zR at' L) else zE0 L at'
def zN (L : List Tok) (at' : Int) : Int := bif decide (zE0 L at' = 0) then prAt L (zR at' L) else 0
def zX (L : List Tok) (at' : Int) : List Nod := bif decide (zE0 L at' = 0) then prNd (zR at' L) else []
def sParse : FSpec
  | [.slw 0, .int .i64 at'], [⟨false, .toks L⟩] => .node (shortT L) (.leaf ⟨[.slw 0, .int .i64 (zN L at'), .int .i64 (zE L at')], [⟨true, .nodes (zX L at')⟩]⟩) .bad
  | _, _ => .bad
theorem okV_tk {L : List Tok} (hs : shortT L = true) (h : L.all okV = true) : L.all okTk = true := List.all_eq_true.2 fun t ht => by
  have h1 := List.all_eq_true.1 h t ht
  unfold okV at h1
  rw [Bool.and_eq_true] at h1
  have h2 := of_decide_eq_true h1.2
  exact decide_eq_true ⟨h2.1, h2.2, .inl (short_mem hs ht)⟩
theorem zR_in {L : List Tok} (hL : L.length ≤ 200) (at' : Int) : prIn (zR at' L) = true := ne_prIn (pE_in 1500 1 _ (by omega) (by omega) (by rw [List.length_drop]; omega))
theorem okParse (hB : Laid B) : FnOk (E0 B) 26 sParse := by
  refine fnL (lib14_ok hB) (ls := [ePa]) Tryz.func26 (by kernel_rfl) (by kernel_rfl) (fun x hx => ?_) fun vs bs r h => ?_
  · simp only [List.mem_singleton] at hx; subst hx
    exact ⟨bPa, by kernel_rfl, rfl, loopPa hB⟩
  · unfold sParse at h
    split at h
    · rename_i at' L
      rcases T.node_sel h with ⟨hs, h2⟩ | ⟨_, h2⟩
      · simp only [T.sel, Option.some.injEq] at h2; subst h2
        refine (tParse L at').trans ?_
        show _ = pzO (zN L at') (zE L at') (zX L at')
        unfold zN zE zX zE0
        by_cases h4 : 200 < L.length
        · rw [decide_eq_true h4, decide_eq_true (show 200 < (L.length : Int) by omega)]; rfl
        rw [decide_eq_false h4, decide_eq_false (show ¬ 200 < (L.length : Int) by omega), hs, decide_eq_true (show L = L ∧ (L.length : Int) = (L.length : Int) ∧ (0 : Int) = 0 ∧ L.length ≤ 200 from ⟨rfl, rfl, rfl, by omega⟩), Bool.true_and]
        cases hv : L.all okV with
        | false => rfl
        | true =>
          by_cases h0 : at' < 0
          · rw [decide_eq_true h0, decide_eq_false (show ¬ (0 ≤ at' ∧ at' ≤ (L.length : Int)) by omega)]; rfl
          by_cases h1 : (L.length : Int) < at'
          · rw [decide_eq_false h0, decide_eq_true h1, decide_eq_false (show ¬ (0 ≤ at' ∧ at' ≤ (L.length : Int)) by omega)]; rfl
          have hok : okP at' L = true := by
            unfold okP
            rw [Bool.and_eq_true]
            exact ⟨decide_eq_true ⟨by omega, by omega, by omega⟩, okV_tk hs hv⟩
          rw [decide_eq_false h0, decide_eq_false h1, decide_eq_true (show 0 ≤ at' ∧ at' ≤ (L.length : Int) by omega), hok, zR_in (by omega)]; rfl
      · simp [T.sel] at h2
    · simp [T.sel] at h
end Go.Proofs.YtdckpbeioemopabGreatDoor
namespace Go.Proofs.YtdckpbeioemopabGreatDoor
open Go.Am Go.Shelf
set_option maxRecDepth 100000
variable {B : Nat → Option Obj}
def rngX (X : List Nod) : Bool := X.all fun x => rng64 x.n
def sTxt (k : Nat) : FSpec
  | [.slw 0, .int .i64 i, .bool p], [⟨false, .nodes X⟩] => .node (okX k X i && (rngX X && decide ((txN k X i p).length ≤ 100000))) (.leaf ⟨[.str (txN k X i p)], []⟩) .bad
  | _, _ => .bad
noncomputable def libT (k : Nat) : Tb := (57, [], sTxt k) :: (68, [], sFormat) :: lib5
def strO (s : List UInt8) : Option Out := some ⟨[.str s], []⟩
def catO (a b : List UInt8) (f : List UInt8 → Option Out) : Option Out := bif decide (a.length + b.length ≤ lim) then f (a ++ b) else none
def partO (p : Bool) (s : List UInt8) : Option Out := bif p then catO [40] s (fun u => catO u [41] strO) else strO s
def subO (k : Nat) (X : List Nod) (j : Int) (f : List UInt8 → Option Out) : Option Out := bif okX k X j && (rngX X && decide ((txN k X j true).length ≤ 100000)) then f (txN k X j true) else none
def u8 (n : Int) : Int := IntKind.u8.wrap n
def fldO (k : Int) : Option Out := bif decide (0 ≤ u8 (k - 2) ∧ u8 (k - 2) ≤ u8 (k - 1) ∧ u8 (k - 1) ≤ (([107, 116, 118] : List UInt8).length : Int)) then strO (([107, 116, 118].take (u8 (k - 1)).toNat).drop (u8 (k - 2)).toNat) else none
def binO (k : Nat) (X : List Nod) (p : Bool) (x : Nod) : Option Out := subO k X x.a fun s => catO s [32] fun u => inb' (u8 (x.kind - 7)) sgnL.length (catO u (sgnL.getD (u8 (x.kind - 7)).toNat []) fun v => catO v [32] fun w => subO k X x.b fun s' => catO w s' (partO p))
def txO (k : Nat) (X : List Nod) (p : Bool) (x : Nod) : Option Out := bif decide (x.kind = 1) then (bif rng64 x.n && true then strO (Lib.itoa x.n) else none) else bif decide (x.kind ≤ 4) then fldO x.kind else
  bif decide (x.kind = 5) then subO k X x.a (fun s => catO [45, 32] s (partO p)) else bif decide (x.kind = 6) then subO k X x.a (fun s => catO [110, 111, 116, 32] s (partO p)) else binO k X p x
end Go.Proofs.YtdckpbeioemopabGreatDoor
