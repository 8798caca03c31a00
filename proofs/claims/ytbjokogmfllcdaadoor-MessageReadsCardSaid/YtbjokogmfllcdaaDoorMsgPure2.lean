/-
  Message: plain words of Read: a text is read just as it is written.
-/
import Derived.Test.YtbjokogmfllcdaaDoorMsgPure
import Derived.Lib.ParseIntBTie
namespace Go.Am
open Go.Lib
/-! numbers, written and read -/
theorem parse_itoa {v : Int} (h : Rng v) : parseIntB 64 (itoa v) = .ok v := by
  have hr := h
  unfold Rng at hr
  rcases Int.lt_or_le v 0 with h0 | h0
  · rw [itoa_min h0]
    unfold parseIntB
    simp only
    rw [if_pos (show (45 : UInt8).toNat = 43 ∨ (45 : UInt8).toNat = 45 from .inr (by decide))]
    have hp := parseM_val (dec_digs v.natAbs) (acc := 0)
    rw [show ((0 : Nat) : Int) = 0 from rfl, val_dec] at hp
    have e : parseUintB 64 (decDigits v.natAbs) = parseUintM 18446744073709551615 0 (decDigits v.natAbs) := by
      unfold parseUintB
      split
      · rename_i h; exact (dec_ne _ h).elim
      · simp
    rw [e, hp, if_pos (by omega)]
    have h45 : (45 : UInt8).toNat = 45 := by decide
    simp only [h45]
    rw [if_neg (by simp), if_neg (by simp; omega), if_pos trivial]
    congr 1
    omega
  · rw [itoa_pos h0, parse_digs (dec_ne _) (dec_digs _), rdF_0 (dec_digs _), val_dec, if_pos (by unfold most; omega)]
    simp only
    congr 1
    omega
theorem p_itoa {v : Int} (h : Rng v) : pOk (itoa v) = true ∧ pVal (itoa v) = v := by
  unfold pOk pVal
  rw [parse_itoa h]
  exact ⟨rfl, rfl⟩
theorem p_rng (a : List UInt8) : Rng (pVal a) := by
  unfold pVal
  cases h : parseIntB 64 a with
  | ok v =>
    have := parseIntB_bounds h
    unfold Rng
    have e : ((2 ^ (64 - 1) : Nat) : Int) = 9223372036854775808 := by decide
    rw [e] at this
    simp only
    omega
  | _ => simp only; unfold Rng; omega
def numOk (a : List UInt8) : Bool := pOk a && decide (itoa (pVal a) = a)
theorem numOk_itoa {v : Int} (h : Rng v) : numOk (itoa v) = true := by
  unfold numOk
  rw [(p_itoa h).1, (p_itoa h).2]; simp
theorem numOk_is {a : List UInt8} (h : numOk a = true) : itoa (pVal a) = a := by
  unfold numOk at h
  simp only [Bool.and_eq_true, decide_eq_true_eq] at h
  exact h.2
theorem itoa_no (v : Int) : ∀ c ∈ itoa v, c ≠ 32 := by
  have hd : ∀ u : Nat, ∀ c ∈ decDigits u, c ≠ 32 := fun u c hc e => by
    have := List.all_eq_true.1 (dec_digs u) c hc
    rw [e] at this
    revert this; decide
  intro c hc
  rcases Int.lt_or_le v 0 with h0 | h0
  · rw [itoa_min h0] at hc
    rcases List.mem_cons.1 hc with rfl | hc
    · decide
    · exact hd _ c hc
  · rw [itoa_pos h0] at hc; exact hd _ c hc
/-! pieces, joined again -/
def unspl (w : List UInt8) : List (List UInt8) → List UInt8
  | [] => w
  | x :: r => unspl (w ++ 32 :: x) r
theorem unspl_app (p w : List UInt8) : ∀ r, unspl (p ++ w) r = p ++ unspl w r
  | [] => rfl
  | x :: r => by
    unfold unspl
    rw [List.append_assoc]
    exact unspl_app p _ r
theorem unspl_spl : ∀ (s : List UInt8), ∃ w r, spl s = w :: r ∧ unspl w r = s
  | [] => ⟨[], [], rfl, rfl⟩
  | c :: s => by
    obtain ⟨w, r, h1, h2⟩ := unspl_spl s
    rw [spl_cons]
    cases hc : c == 32 with
    | true =>
      refine ⟨[], spl s, rfl, ?_⟩
      rw [h1]
      show unspl ([] ++ 32 :: w) r = c :: s
      have : c = 32 := by simpa using hc
      rw [List.nil_append, this, ← h2, show (32 : UInt8) :: w = [32] ++ w from rfl, unspl_app]; rfl
    | false =>
      rw [h1]
      refine ⟨c :: w, r, rfl, ?_⟩
      rw [show c :: w = [c] ++ w from rfl, unspl_app, h2]; rfl
theorem unspl_said (w : List UInt8) : ∀ l : List Int, unspl w (l.map itoa) = saidN w l
  | [] => rfl
  | n :: r => by
    unfold saidN
    rw [List.map_cons]
    unfold unspl
    exact unspl_said _ r
theorem spl_said : ∀ (l : List Int) (w : List UInt8), (∀ c ∈ w, c ≠ 32) → spl (saidN w l) = w :: l.map itoa
  | [], w, h => spl_whole w h
  | n :: r, w, h => by
    have e : ∀ (l : List Int) (p w : List UInt8), saidN (p ++ w) l = p ++ saidN w l := fun l p w => by
      rw [← unspl_said, ← unspl_said, unspl_app]
    unfold saidN
    rw [show w ++ 32 :: itoa n = (w ++ [32]) ++ itoa n from by simp, e, List.append_assoc, show ([32] : List UInt8) ++ saidN (itoa n) r = 32 :: saidN (itoa n) r from rfl, spl_blank w _ h, spl_said r _ (itoa_no n)]
    rfl
/-! Read -/
def isW (w x : List UInt8) : Bool := decide (w = x)
def kindW (w : List UInt8) : Int := bif decide (w = wRecord) then 1 else bif decide (w = wLate) then 4 else bif decide (w = wMark) then 2 else bif decide (w = wRow) then 3 else 0
def cntW (w : List UInt8) : Int := bif decide (w = wRecord) then 3 else bif decide (w = wLate) then 3 else bif decide (w = wMark) then 1 else bif decide (w = wRow) then 5 else 3
/-- the message of a kind and its numbers -/
def mkM (k : Int) (f : Nat → Int) : Msg := bif decide (k = 2) then ⟨2, 0, 0, 0, f 0, 0, 0, 0, 0, 0⟩ else bif decide (k = 3) then ⟨3, 0, 0, 0, 0, f 0, f 1, f 2, f 3, f 4⟩ else ⟨k, f 0, f 1, f 2, 0, 0, 0, 0, 0, 0⟩
def numsOk (n : Int) (r : List (List UInt8)) : Bool := decide ((r.length : Int) = n) && r.all numOk
def valAt (r : List (List UInt8)) (i : Nat) : Int := (r.map pVal).getD i 0
def hd (s : List UInt8) : List UInt8 := (spl s).headD []
def tl (s : List UInt8) : List (List UInt8) := (spl s).drop 1
def rdM (s : List UInt8) : Msg := mkM (kindW (hd s)) (valAt (tl s))
def rdOk (s : List UInt8) : Bool := numsOk (cntW (hd s)) (tl s) && validM (rdM s)
/-- what Read returns -/
def readM (s : List UInt8) : Msg := bif rdOk s then rdM s else msg0
def readE (s : List UInt8) : Int := bif rdOk s then 0 else 12
theorem mkM_rng {k : Int} {f : Nat → Int} (h : ∀ i, Rng (f i)) : rngM (mkM k f) = true := by
  have z : Rng 0 := by unfold Rng; omega
  unfold mkM
  cases decide (k = 2) with
  | true => exact decide_eq_true ⟨z, z, z, h _, z, z, z, z, z⟩
  | false => cases decide (k = 3) with
    | true => exact decide_eq_true ⟨z, z, z, z, h _, h _, h _, h _, h _⟩
    | false => exact decide_eq_true ⟨h _, h _, h _, z, z, z, z, z, z⟩
theorem valAt_rng (r : List (List UInt8)) (i : Nat) : Rng (valAt r i) := by
  unfold valAt
  rw [List.getD]
  cases h : (r.map pVal)[i]? with
  | none => simp only [Option.getD_none]; unfold Rng; omega
  | some v =>
    simp only [Option.getD_some]
    rw [List.getElem?_map] at h
    cases h' : r[i]? with
    | none => rw [h'] at h; cases h
    | some a => rw [h'] at h; cases h; exact p_rng a
theorem rdM_rng (s : List UInt8) : rngM (rdM s) = true := mkM_rng (valAt_rng _)
/-- what is read is written so -/
theorem read_writ {s : List UInt8} (h : rdOk s = true) : writ (rdM s) = s := by
  unfold rdOk numsOk at h
  simp only [Bool.and_eq_true, decide_eq_true_eq] at h
  obtain ⟨⟨hl, ha⟩, hv⟩ := h
  obtain ⟨w, r, h1, h2⟩ := unspl_spl s
  have e1 : hd s = w := by unfold hd; rw [h1]; rfl
  have e2 : tl s = r := by unfold tl; rw [h1]; rfl
  unfold rdM at hv ⊢
  rw [e1, e2] at hv ⊢
  rw [e1, e2] at hl
  rw [e2] at ha
  have key : ∀ a ∈ r, itoa (pVal a) = a := fun a h => numOk_is (List.all_eq_true.1 ha a h)
  have hm : (r.map pVal).map itoa = r := by
    rw [List.map_map]
    conv => rhs; rw [← List.map_id r]
    exact List.map_congr_left fun a h => key a h
  have hs : saidN w (r.map pVal) = s := by rw [← unspl_said, hm]; exact h2
  have h3 : ∀ n, (r.length : Int) = n → ((r.map pVal).length : Int) = n := fun n h => by rw [List.length_map]; exact h
  have hl3 := h3 _ hl
  unfold valAt at hv ⊢
  generalize r.map pVal = vs at hl3 hs hv ⊢
  have t3 : ∀ vs : List Int, (vs.length : Int) = 3 → vs = [vs.getD 0 0, vs.getD 1 0, vs.getD 2 0] := fun vs h => by
    match vs, h with
    | [a, b, c], _ => rfl
    | [], h => simp at h
    | [_], h => simp at h
    | [_, _], h => simp at h
    | _ :: _ :: _ :: _ :: _, h => simp at h; omega
  have t1 : ∀ vs : List Int, (vs.length : Int) = 1 → vs = [vs.getD 0 0] := fun vs h => by
    match vs, h with
    | [a], _ => rfl
    | [], h => simp at h
    | _ :: _ :: _, h => simp at h; omega
  have t5 : ∀ vs : List Int, (vs.length : Int) = 5 → vs = [vs.getD 0 0, vs.getD 1 0, vs.getD 2 0, vs.getD 3 0, vs.getD 4 0] := fun vs h => by
    match vs, h with
    | [a, b, c, d, e], _ => rfl
    | [], h => simp at h
    | [_], h => simp at h
    | [_, _], h => simp at h
    | [_, _, _], h => simp at h
    | [_, _, _, _], h => simp at h
    | _ :: _ :: _ :: _ :: _ :: _ :: _, h => simp at h; omega
  unfold kindW at hv ⊢
  unfold cntW at hl3
  by_cases w1 : w = wRecord
  · subst w1
    have := t3 vs hl3
    rw [← hs]; conv => rhs; rw [this]
    rfl
  by_cases w2 : w = wLate
  · subst w2
    have := t3 vs hl3
    rw [← hs]; conv => rhs; rw [this]
    rfl
  by_cases w3 : w = wMark
  · subst w3
    have := t1 vs hl3
    rw [← hs]; conv => rhs; rw [this]
    rfl
  by_cases w4 : w = wRow
  · subst w4
    have := t5 vs hl3
    rw [← hs]; conv => rhs; rw [this]
    rfl
  · rw [decide_eq_false w1, decide_eq_false w2, decide_eq_false w3, decide_eq_false w4] at hv
    exact absurd hv (by simp [mkM, validM])
theorem valid_rec {m : Msg} (hv : validM m = true) (hk : m.k = 1 ∨ m.k = 4) : m = onlyRec m := by
  unfold validM at hv
  have : (decide (m.k = 1) || decide (m.k = 4)) = true := by rcases hk with h | h <;> rw [h] <;> rfl
  rw [this, eqM_is] at hv
  simp only [cond_true, Bool.and_eq_true, decide_eq_true_eq] at hv
  exact hv.2
theorem valid_time {m : Msg} (hv : validM m = true) (hk : m.k = 2) : m = onlyTime m := by
  unfold validM at hv
  rw [eqM_is, eqM_is, hk] at hv
  simp only [show (decide ((2 : Int) = 1) || decide ((2 : Int) = 4)) = false from rfl, decide_true, cond_true, cond_false, Bool.and_eq_true, decide_eq_true_eq] at hv
  exact hv.2
theorem valid_row {m : Msg} (hv : validM m = true) (hk : m.k = 3) : m = onlyRow m := by
  unfold validM at hv
  rw [eqM_is, eqM_is, eqM_is, hk] at hv
  simp only [show (decide ((3 : Int) = 1) || decide ((3 : Int) = 4)) = false from rfl, show decide ((3 : Int) = 2) = false from rfl, decide_true, cond_true, cond_false, Bool.and_eq_true, decide_eq_true_eq] at hv
  exact hv.2
theorem all_itoa {l : List Int} (h : ∀ n ∈ l, Rng n) : (l.map itoa).all numOk = true := by
  rw [List.all_eq_true]
  intro a ha
  obtain ⟨n, hn, rfl⟩ := List.mem_map.1 ha
  exact numOk_itoa (h n hn)
theorem map_back {l : List Int} (h : ∀ n ∈ l, Rng n) : (l.map itoa).map pVal = l := by
  rw [List.map_map]
  conv => rhs; rw [← List.map_id l]
  exact List.map_congr_left fun n hn => (p_itoa (h n hn)).2
/-- what is written is read so -/
theorem writ_read {m : Msg} (hv : validM m = true) (hr : rngM m = true) : rdM (writ m) = m ∧ rdOk (writ m) = true := by
  have hd_tl : ∀ (w : List UInt8) (l : List Int), (∀ c ∈ w, c ≠ 32) → hd (saidN w l) = w ∧ tl (saidN w l) = l.map itoa := fun w l h => by
    unfold hd tl; rw [spl_said l w h]; exact ⟨rfl, rfl⟩
  obtain ⟨ra, rb, rc, rt, rx, rs, re, ru, rv⟩ := of_decide_eq_true hr
  have fin : ∀ (w : List UInt8) (l : List Int), writ m = saidN w l → (∀ c ∈ w, c ≠ 32) → (∀ n ∈ l, Rng n) → (l.length : Int) = cntW w → mkM (kindW w) (fun i => l.getD i 0) = m → rdM (writ m) = m ∧ rdOk (writ m) = true := by
    intro w l h1 h2 h3 h4 h5
    obtain ⟨e1, e2⟩ := hd_tl w l h2
    have e3 : rdM (writ m) = m := by
      unfold rdM valAt
      rw [h1, e1, e2, map_back h3]
      exact h5
    refine ⟨e3, ?_⟩
    unfold rdOk numsOk
    rw [e3, hv, h1, e1, e2, all_itoa h3, List.length_map, decide_eq_true h4]; rfl
  rcases valid_kind hv with hk | hk | hk | hk
  · refine fin wRecord [m.a, m.b, m.c] (by unfold writ; rw [hk]; rfl) (by decide) (by simp [ra, rb, rc]) rfl ?_
    refine Eq.trans ?_ (valid_rec hv (.inl hk)).symm
    unfold onlyRec
    rw [hk]; rfl
  · refine fin wMark [m.t] (by unfold writ; rw [hk]; rfl) (by decide) (by simp [rt]) rfl ?_
    refine Eq.trans ?_ (valid_time hv hk).symm
    unfold onlyTime
    rw [hk]; rfl
  · refine fin wRow [m.x, m.s, m.e, m.u, m.v] (by unfold writ; rw [hk]; rfl) (by decide) (by simp [rx, rs, re, ru, rv]) rfl ?_
    refine Eq.trans ?_ (valid_row hv hk).symm
    unfold onlyRow
    rw [hk]; rfl
  · refine fin wLate [m.a, m.b, m.c] (by unfold writ; rw [hk]; rfl) (by decide) (by simp [ra, rb, rc]) rfl ?_
    refine Eq.trans ?_ (valid_rec hv (.inr hk)).symm
    unfold onlyRec
    rw [hk]; rfl
theorem writ_inj {m n : Msg} (hm : validM m = true) (rm : rngM m = true) (hn : validM n = true) (rn : rngM n = true) : writ m = writ n ↔ m = n :=
  ⟨fun h => by rw [← (writ_read hm rm).1, ← (writ_read hn rn).1, h], fun h => by rw [h]⟩
end Go.Am
