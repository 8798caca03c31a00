/-
  Texts put together: ParCmp, ParCmp2, SameC, QryFact.
-/
import Derived.Test.YtdckpbeioemopabGreatDoorValB
import Derived.Test.YtdckpbeioemopabGreatDoorPureB
import Derived.Test.YtdckpbeioemopabGreatDoorParB
import Derived.Test.YtdckpbeioemopabGreatDoorSameFn
import Derived.Test.YtdckpbeioemopabGreatDoorAlkA
import Derived.Test.YtdckpbeioemopabGreatDoorChtA
namespace Go.Proofs.YtdckpbeioemopabGreatDoor.Pr
open Go.Am Go Go.Proofs.YtdckpbeioemopabGreatDoor
set_option maxRecDepth 100000
section
variable {L : List Tok}
theorem nx_hit {a : Int} {p : Pc} {R : List Pc} (h : At L a (p :: R)) {S : List (List UInt8)} {i : Nat} (hk : p.k ≠ 1) (hi : firstL (hitS p.t) S = i) (hl : i < S.length) : nxB L a S = true ∧ nx L a S = i ∧ At L (a + 1) R := by
  obtain ⟨h1, h2, h3, h4⟩ := h.cons
  have e : nxI L a S = i := by
    unfold nxI tkA
    rw [h3]; exact hi
  refine ⟨?_, by unfold nx; rw [e], h4⟩
  unfold nxB
  rw [e, decide_eq_false (show ¬ (L.length : Int) ≤ a by omega), decide_eq_false (show ¬ (tkA L a).kind = 1 by unfold tkA; rw [h2]; exact hk), decide_eq_true hl]; rfl
theorem nx_miss {a : Int} {p : Pc} {R : List Pc} (h : At L a (p :: R)) {S : List (List UInt8)} (hi : S.length ≤ firstL (hitS p.t) S) : nxB L a S = false := by
  obtain ⟨h1, h2, h3, h4⟩ := h.cons
  unfold nxB nxI
  rw [show (tkA L a).text = p.t from h3, decide_eq_false (show ¬ firstL (hitS p.t) S < S.length by omega)]
  simp
theorem nx_end {a : Int} (h : At L a []) (S : List (List UInt8)) : nxB L a S = false := by
  unfold nxB
  rw [decide_eq_true h.nil]; rfl
theorem nd_hit {a : Int} {S : List (List UInt8)} {X Y : QR} (h : nxB L a S = true) : ndP L a S X Y = X := by unfold ndP; rw [h]; rfl
theorem nd_miss {a : Int} {S : List (List UInt8)} {X Y : QR} (h : nxB L a S = false) : ndP L a S X Y = Y := by unfold ndP; rw [h]; rfl
theorem cm6 {q : Qry} {a : Int} (h : At L a []) : p6 L q a = ⟨q, a, 0, 0⟩ := by
  unfold p6
  rw [decide_eq_false (by have := h.nil; omega)]; rfl
theorem cm5 {Q q : Qry} {a : Int} (hQ : Q.late = 1 ∨ Q.late = 2) (hq : q.late = 1) (h : At L a (tlP Q)) : ∃ a', p5 L q a = ⟨{ q with late := Q.late }, a', 0, 0⟩ := by
  unfold tlP at h
  unfold p5
  rcases hQ with hQ | hQ
  · rw [hQ] at h ⊢
    rw [nd_miss (nx_end h _), cm6 h]
    exact ⟨a, by rw [← hq]⟩
  · rw [hQ] at h ⊢
    obtain ⟨h1, _, h2⟩ := nx_hit h (S := laS) (i := 0) (show (2 : Int) ≠ 1 by decide) (by decide) (by decide)
    obtain ⟨h3, h4, h5⟩ := nx_hit h2 (S := dsS) (i := 1) (show (2 : Int) ≠ 1 by decide) (by decide) (by decide)
    rw [nd_hit h1, nd_hit h3, cm6 h5, h4]
    exact ⟨_, rfl⟩
theorem tl_by {Q : Qry} {a : Int} (h : At L a (tlP Q)) : nxB L a byS = false := by
  unfold tlP at h
  cases hl : decide (Q.late = 2) with
  | true => rw [hl] at h; exact nx_miss h (by decide)
  | false => rw [hl] at h; exact nx_end h _
theorem cm4 {Q q : Qry} {a : Int} (hQ : Q.late = 1 ∨ Q.late = 2) (hq : q.late = 1) (hb : q.byKey = false) (h : At L a (bkP Q ++ tlP Q)) : ∃ a', p4 L q a = ⟨{ q with byKey := Q.byKey, late := Q.late }, a', 0, 0⟩ := by
  unfold bkP at h
  unfold p4
  cases hk : Q.byKey with
  | true =>
    rw [hk] at h
    obtain ⟨h1, _, h2⟩ := nx_hit (p := pW wBy) h (S := byS) (i := 0) (show (2 : Int) ≠ 1 by decide) (by decide) (by decide)
    obtain ⟨h3, _, h5⟩ := nx_hit (p := pW wKey) h2 (S := keS) (i := 0) (show (2 : Int) ≠ 1 by decide) (by decide) (by decide)
    obtain ⟨a', h6⟩ := cm5 (q := { q with byKey := true }) hQ hq h5
    rw [nd_hit h1, nd_hit h3, h6]
    exact ⟨a', rfl⟩
  | false =>
    rw [hk] at h
    have h : At L a (tlP Q) := h
    obtain ⟨a', h6⟩ := cm5 hQ hq h
    rw [nd_miss (tl_by h), h6]
    exact ⟨a', by rw [← hb]⟩
theorem wk_first : ∀ k : Fin 4, 1 ≤ k.val → firstL (hitS (wWk k.val)) wnS = k.val - 1 := by decide +kernel
theorem num_at {a n : Int} {R : List Pc} (h0 : 0 ≤ n) (hr : Rng n) (h : At L a (pN n :: R)) : nmF L a = false ∧ nmN L a = n ∧ At L (a + 1) R := by
  obtain ⟨h1, h2, h3, h4⟩ := h.cons
  refine ⟨?_, ?_, h4⟩
  · unfold nmF
    rw [decide_eq_false (show ¬ (L.length : Int) ≤ a by omega), show (tkA L a).kind = 1 from h2]; rfl
  · unfold nmN
    rw [show (tkA L a).text = Lib.itoa n from h3]
    exact (read_pos hr h0 0).2
theorem cm3 {Q q : Qry} {ea ew : Ex} {a : Int} (hQ : QX Q ea ew) (hf : fitsW Q.wk Q.ws Q.we = true) (hjn : Q.join = true → Q.wk = 1) (hj : q.join = Q.join) (hq : q.late = 1) (hb : q.byKey = false) (h : At L a (winP Q)) :
    ∃ a', p3 L q a = ⟨{ q with wk := Q.wk, ws := Q.ws, we := Q.we, byKey := Q.byKey, late := Q.late }, a', 0, 0⟩ := by
  unfold winP at h
  unfold p3
  obtain ⟨h1, _, h2⟩ := nx_hit (p := pW wWin) h (S := wiS) (i := 0) (show (2 : Int) ≠ 1 by decide) (by decide) (by decide)
  have hk := hQ.wk
  have hws := hQ.ws
  have hf0 := wk_first ⟨Q.wk.toNat, by omega⟩ (by simp only; omega)
  simp only at hf0
  rw [show ((Q.wk.toNat : Nat) : Int) = Q.wk by omega] at hf0
  obtain ⟨g1, g2, g3⟩ := nx_hit (p := pW (wWk Q.wk)) h2 (S := wnS) (show (2 : Int) ≠ 1 by decide) hf0 (show _ < 3 by omega)
  have hwk : wkI L (a + 1) = Q.wk := by
    unfold wkI
    rw [g2, u8_small (by omega) (by omega)]; omega
  obtain ⟨n1, n2, n3⟩ := num_at (n := Q.ws) (by omega) (by unfold Rng; omega) g3
  have hwr : wnR L q.join (a + 1) = wnQ L Q.wk (a + 1 + 1) := by
    unfold wnR
    rw [g1, hwk, hj]
    cases hjj : Q.join with
    | false => rfl
    | true => rw [decide_eq_true (hjn hjj)]; rfl
  have hr1 : nmR L (a + 1 + 1) mxS = false := by
    unfold nmR mxS
    rw [n2, decide_eq_false (by omega), decide_eq_false (by omega)]; rfl
  have key : ∃ b, wnQ L Q.wk (a + 1 + 1) = ⟨Q.wk, Q.ws, Q.we, b, 0, 0⟩ ∧ At L b (bkP Q ++ tlP Q) := by
    unfold wnQ
    rw [n1, hr1]
    unfold evP at n3
    by_cases h2 : Q.wk = 2
    · rw [decide_eq_true h2] at n3 ⊢
      have hwe := hQ.we h2
      obtain ⟨v1, _, v3⟩ := nx_hit (p := pW wEvery) n3 (S := evS) (i := 0) (show (2 : Int) ≠ 1 by decide) (by decide) (by decide)
      obtain ⟨m1, m2, m3⟩ := num_at (n := Q.we) (by omega) (by unfold Rng; omega) v3
      have hfe := hf
      unfold fitsW at hfe
      rw [decide_eq_true h2] at hfe
      simp only [cond_true, Bool.and_eq_true, decide_eq_true_eq] at hfe
      have hr2 : nmR L (a + 1 + 1 + 1 + 1) (nmN L (a + 1 + 1)) = false := by
        unfold nmR
        rw [m2, n2, decide_eq_false (by omega), decide_eq_false (by omega)]; rfl
      rw [v1, m1, hr2, n2, m2, hf]
      exact ⟨_, rfl, m3⟩
    · rw [decide_eq_false h2] at n3 ⊢
      rw [n2, hQ.w0 h2]
      exact ⟨_, rfl, n3⟩
  obtain ⟨b, k1, k2⟩ := key
  obtain ⟨a', k3⟩ := cm4 (q := qw q (wnR L q.join (a + 1))) hQ.lt hq hb (show At L b (bkP Q ++ tlP Q) from k2)
  rw [nd_hit h1]
  rw [hwr, k1] at k3 ⊢
  refine ⟨a', ?_⟩
  show (bif decide ((0 : Int) = 0) then p4 L (qw q ⟨Q.wk, Q.ws, Q.we, b, 0, 0⟩) b else _) = _
  rw [decide_eq_true rfl, cond_true, k3]; rfl
theorem z_at (hL : TkO L) {a : Int} {e' : Ex} {r : List Tok} (h0 : 0 ≤ a) (h1 : a ≤ (L.length : Int)) (h : pE 1500 1 (L.drop a.toNat) = .ok e' r) : zE L a = 0 ∧ zN L a = (L.length : Int) - r.length ∧ zX L a = e'.flat 0 := by
  obtain ⟨z1, z2, z3⟩ := z_ok hL.v hL.n h0 h1
  have hz : zR a L = .ok e' r := h
  rw [hz] at z1 z2 z3
  exact ⟨z1, z2, z3⟩
theorem win_stop (Q : Qry) (b : Int) : stopB 1 (pcsT b (winP Q)) = true := stop_pc (p := pW wWin) (by decide) _ _
theorem cm2 (hL : TkO L) {f : Bool} {Q q : Qry} {ea ew : Ex} {a : Int} (hQ : QX Q ea ew) (hf : fitsW Q.wk Q.ws Q.we = true) (hjn : Q.join = true → Q.wk = 1) (hj : q.join = Q.join) (hq : q.late = 1) (hb : q.byKey = false) (hw : q.whr = []) (h : At L a (whF f Q ew ++ winP Q)) :
    ∃ a' W, p2 L q a = ⟨{ q with whr := W, wk := Q.wk, ws := Q.ws, we := Q.we, byKey := Q.byKey, late := Q.late }, a', 0, 0⟩ ∧ W.map Nod.st = Q.whr.map Nod.st ∧ ((Q.whr = [] ∧ W = []) ∨ (0 < Q.whr.length ∧ nxB L a whS = true ∧ W = zX L (a + 1))) := by
  unfold whF at h
  unfold p2
  by_cases hp : 0 < Q.whr.length
  · rw [decide_eq_true hp] at h
    obtain ⟨h1, _, h2⟩ := nx_hit (p := pW wWhere) h (S := whS) (i := 0) (show (2 : Int) ≠ 1 by decide) (by decide) (by decide)
    obtain ⟨w1, w2⟩ := hQ.w2 hp
    obtain ⟨e', r, k1, k2, k3⟩ := At.ex (f := f) h2 w2 (win_stop Q) hL.n
    have l1 := nxB_lt h1
    obtain ⟨z1, z2, z3⟩ := z_at hL h2.1 (by omega) k2
    rw [← z2] at k3
    obtain ⟨a', k4⟩ := cm3 (q := { q with whr := zX L (a + 1) }) hQ hf hjn hj hq hb k3
    rw [nd_hit h1]
    unfold exP
    rw [decide_eq_true z1, cond_true, k4]
    refine ⟨a', _, rfl, ?_, .inr ⟨hp, h1, rfl⟩⟩
    rw [z3, w1, flat_st, flat_st, k1]
  · rw [decide_eq_false hp] at h
    have h : At L a (winP Q) := h
    obtain ⟨a', k4⟩ := cm3 hQ hf hjn hj hq hb h
    have hn : Q.whr = [] := List.eq_nil_of_length_eq_zero (by omega)
    rw [nd_miss (nx_miss (p := pW wWin) h (S := whS) (by decide)), k4]
    exact ⟨a', q.whr, rfl, by rw [hw, hn], .inl ⟨hn, hw⟩⟩
end
end Go.Proofs.YtdckpbeioemopabGreatDoor.Pr
namespace Go.Proofs.YtdckpbeioemopabGreatDoor.Pr
open Go.Am Go Go.Proofs.YtdckpbeioemopabGreatDoor
set_option maxRecDepth 100000
theorem hasI_not : ∀ {l : List Int} {n : Int}, n ∉ l → hasI n l = false
  | [], n, _ => rfl
  | x :: r, n, h => by
    simp only [List.mem_cons, not_or] at h
    have ih := hasI_not h.2
    unfold hasI hitI at ih ⊢
    have ih := of_decide_eq_false ih
    refine decide_eq_false ?_
    unfold firstL
    rw [decide_eq_false h.1]
    simp only [cond_false, List.length_cons]
    omega
theorem dups_mid : ∀ {l r : List Int} {x : Int}, dups (l ++ x :: r) = false → x ∉ l
  | [], _, _, _ => by simp
  | y :: l, r, x, h => by
    have h : (((l ++ x :: r).contains y) || dups (l ++ x :: r)) = false := h
    rw [Bool.or_eq_false_iff] at h
    have i1 := dups_mid h.2
    simp only [List.mem_cons, not_or]
    refine ⟨fun e => ?_, i1⟩
    have h1 := h.1
    simp [e] at h1
theorem nm_first : ∀ k : Fin 4, firstL (hitS (wNm k.val)) abS = k.val := by decide +kernel
theorem ag_first : ∀ k : Fin 5, 1 ≤ k.val → firstL (hitS (Go.Am.wAg k.val)) agS = k.val - 1 := by decide +kernel
section
variable {L : List Tok}
theorem nm_at {a x : Int} {R : List Pc} (h : At L a (pW (wNm x) :: R)) (hx : inR x = true) : nxB L a abS = true ∧ nx L a abS = x ∧ At L (a + 1) R := by
  obtain ⟨h0, h3⟩ := inR_is.1 hx
  have hf := nm_first ⟨x.toNat, by omega⟩
  simp only at hf
  rw [show ((x.toNat : Nat) : Int) = x by omega] at hf
  obtain ⟨g1, g2, g3⟩ := nx_hit h (S := abS) (show (2 : Int) ≠ 1 by decide) hf (show x.toNat < 4 by omega)
  exact ⟨g1, by rw [g2]; omega, g3⟩
theorem un_at {R : List Pc} (hR : ∀ a, At L a R → nxB L a unS = false) : ∀ (r : List Int) (x : Int) (l : List Int) (a : Int) (k : Nat), At L a (pW (wNm x) :: (srcP false r ++ R)) → inR x = true → r.all inR = true → dups (l ++ x :: r) = false → (L.length : Int) < a + k → ∃ a', unR k L a l = ⟨a', l ++ x :: r, 0, 0⟩ ∧ At L a' R
  | [], x, l, a, k, h, hx, _, hd, hk => by
    obtain ⟨g1, g2, g3⟩ := nm_at h hx
    have l1 := nxB_lt g1
    have g3 : At L (a + 1) R := g3
    cases k with
    | zero => omega
    | succ k =>
      refine ⟨a + 1, ?_, g3⟩
      unfold unR
      rw [g1, g2, hasI_not (dups_mid hd), hR _ g3]; rfl
  | y :: r, x, l, a, k, h, hx, hr, hd, hk => by
    rw [List.all_cons, Bool.and_eq_true] at hr
    obtain ⟨g1, g2, g3⟩ := nm_at h hx
    have l1 := nxB_lt g1
    obtain ⟨u1, _, u3⟩ := nx_hit (p := pW wUnion) (show At L (a + 1) (pW wUnion :: pW (wNm y) :: (srcP false r ++ R)) from g3) (S := unS) (i := 0) (show (2 : Int) ≠ 1 by decide) (by decide) (by decide)
    cases k with
    | zero => omega
    | succ k =>
      obtain ⟨a', k1, k2⟩ := un_at hR r y (l ++ [x]) (a + 1 + 1) k u3 hr.1 hr.2 (by rw [List.append_assoc]; exact hd) (by omega)
      refine ⟨a', ?_, k2⟩
      unfold unR
      rw [g1, g2, hasI_not (dups_mid hd), u1, cond_false, cond_true, cond_true, k1, List.append_assoc]; rfl
theorem wh_cases (f : Bool) (Q : Qry) (ew : Ex) : (∃ X, whF f Q ew ++ winP Q = pW wWhere :: X) ∨ (∃ X, whF f Q ew ++ winP Q = pW wWin :: X) := by
  unfold whF
  cases decide (0 < Q.whr.length) with
  | true => exact .inl ⟨_, rfl⟩
  | false => exact .inr ⟨_, rfl⟩
theorem wh_un (f : Bool) (Q : Qry) (ew : Ex) (a : Int) (h : At L a (whF f Q ew ++ winP Q)) : nxB L a unS = false := by
  rcases wh_cases f Q ew with ⟨X, e⟩ | ⟨X, e⟩
  · rw [e] at h; exact nx_miss h (by decide)
  · rw [e] at h; exact nx_miss h (by decide)
theorem wh_jo (f : Bool) (Q : Qry) (ew : Ex) (a : Int) (h : At L a (whF f Q ew ++ winP Q)) : nxB L a joS = false := by
  rcases wh_cases f Q ew with ⟨X, e⟩ | ⟨X, e⟩
  · rw [e] at h; exact nx_miss h (by decide)
  · rw [e] at h; exact nx_miss h (by decide)
def WIs (L : List Tok) (Q : Qry) (W : List Nod) : Prop := W.map Nod.st = Q.whr.map Nod.st ∧ ((Q.whr = [] ∧ W = []) ∨ (0 < Q.whr.length ∧ ∃ b, 0 ≤ b ∧ nxB L b whS = true ∧ W = zX L (b + 1)))
structure QG (Q : Qry) (ea ew : Ex) : Prop where
  x : QX Q ea ew
  f : fitsW Q.wk Q.ws Q.we = true
  j : Q.join = true → Q.wk = 1
  d : dups Q.src = false
theorem cm2' (hL : TkO L) {f : Bool} {Q q : Qry} {ea ew : Ex} {a : Int} (hQ : QG Q ea ew) (hj : q.join = Q.join) (hq : q.late = 1) (hb : q.byKey = false) (hw : q.whr = []) (h : At L a (whF f Q ew ++ winP Q)) :
    ∃ a' W, p2 L q a = ⟨{ q with whr := W, wk := Q.wk, ws := Q.ws, we := Q.we, byKey := Q.byKey, late := Q.late }, a', 0, 0⟩ ∧ WIs L Q W := by
  obtain ⟨a', W, h1, h2, h3⟩ := cm2 hL hQ.x hQ.f hQ.j hj hq hb hw h
  refine ⟨a', W, h1, h2, ?_⟩
  rcases h3 with h3 | ⟨h3, h4, h5⟩
  · exact .inl h3
  · exact .inr ⟨h3, a, h.1, h4, h5⟩
theorem cm1 (hL : TkO L) {f : Bool} {Q : Qry} {ea ew : Ex} {g : Int} {A : List Nod} {n a : Int} {r : List Int} (hQ : QG Q ea ew) (hs : Q.src = n :: r) (h : At L a (srcP Q.join r ++ (whF f Q ew ++ winP Q))) :
    ∃ a' W, p1 L g A n a = ⟨⟨g, A, Q.src, Q.join, W, Q.wk, Q.ws, Q.we, Q.byKey, Q.late⟩, a', 0, 0⟩ ∧ WIs L Q W := by
  have hn := hL.n
  have hR := hQ.x.sR
  have hd := hQ.d
  have j2 := hQ.x.j2
  rw [hs] at hR hd j2
  rw [List.all_cons, Bool.and_eq_true] at hR
  cases r with
  | nil =>
    have h : At L a (whF f Q ew ++ winP Q) := h
    have hj : Q.join = false := by
      cases hj : Q.join with
      | false => rfl
      | true => have := j2 hj; simp at this
    obtain ⟨a', W, k1, k2⟩ := cm2' hL (q := qn g A [n] false []) hQ hj.symm rfl rfl rfl h
    refine ⟨a', W, ?_, k2⟩
    unfold p1
    rw [nd_miss (wh_jo f Q ew a h), nd_miss (wh_un f Q ew a h), k1, hs, hj]; rfl
  | cons x r =>
    rw [List.all_cons, Bool.and_eq_true] at hR
    cases hj : Q.join with
    | true =>
      have := j2 hj
      simp only [List.length_cons] at this
      have hr : r = [] := List.eq_nil_of_length_eq_zero (by omega)
      subst hr
      rw [hj] at h
      obtain ⟨g1, _, g3⟩ := nx_hit (p := pW wJoin) (show At L a (pW wJoin :: pW (wNm x) :: (whF f Q ew ++ winP Q)) from h) (S := joS) (i := 0) (show (2 : Int) ≠ 1 by decide) (by decide) (by decide)
      obtain ⟨u1, u2, u3⟩ := nm_at g3 hR.2.1
      have hx : hasI x [n] = false := hasI_not (dups_mid (l := [n]) (r := []) hd)
      obtain ⟨a', W, k1, k2⟩ := cm2' hL (q := qn g A ([n] ++ [x]) true []) hQ hj.symm rfl rfl rfl u3
      refine ⟨a', W, ?_, k2⟩
      unfold p1
      rw [nd_hit g1, nd_hit u1, u2, hx, cond_false, k1, hs]; rfl
    | false =>
      rw [hj] at h
      have h : At L a (pW wUnion :: pW (wNm x) :: (srcP false r ++ (whF f Q ew ++ winP Q))) := h
      obtain ⟨g1, _, g3⟩ := nx_hit h (S := unS) (i := 0) (show (2 : Int) ≠ 1 by decide) (by decide) (by decide)
      have g0 : nxB L a joS = false := nx_miss h (by decide)
      have l1 := nxB_lt g1
      have ha := h.1
      obtain ⟨b, u1, u2⟩ := un_at (wh_un f Q ew) r x [n] (a + 1) (L.length + 1) g3 hR.2.1 hR.2.2 hd (by omega)
      have u1 : urA L (a + 1) [n] = ⟨b, [n] ++ x :: r, 0, 0⟩ := u1
      obtain ⟨a', W, k1, k2⟩ := cm2' hL (q := qn g A ([n] ++ x :: r) false []) hQ hj.symm rfl rfl rfl u2
      refine ⟨a', W, ?_, k2⟩
      unfold p1
      rw [nd_miss g0, nd_hit g1, u1, hs]
      show (bif decide ((0 : Int) = 0) then p2 L (qn g A ([n] ++ x :: r) false []) b else _) = _
      rw [decide_eq_true rfl, cond_true, k1]; rfl
theorem cm0 (hL : TkO L) {f : Bool} {Q : Qry} {ea ew : Ex} {g : Int} {A : List Nod} {a : Int} (hQ : QG Q ea ew) (h : At L a (frF f Q ew)) :
    ∃ a' W, p0 L g A a = ⟨⟨g, A, Q.src, Q.join, W, Q.wk, Q.ws, Q.we, Q.byKey, Q.late⟩, a', 0, 0⟩ ∧ WIs L Q W := by
  have h0 := hQ.x.s0
  have hR := hQ.x.sR
  unfold frF at h
  cases hs : Q.src with
  | nil => rw [hs] at h0; simp at h0
  | cons n r =>
    rw [hs] at h hR
    rw [List.all_cons, Bool.and_eq_true] at hR
    obtain ⟨g1, _, g3⟩ := nx_hit h (S := clS) (i := 0) (show (3 : Int) ≠ 1 by decide) (by decide) (by decide)
    obtain ⟨u1, _, u3⟩ := nx_hit g3 (S := frS) (i := 0) (show (2 : Int) ≠ 1 by decide) (by decide) (by decide)
    obtain ⟨v1, v2, v3⟩ := nm_at u3 hR.1
    obtain ⟨a', W, k1, k2⟩ := cm1 hL (g := g) (A := A) hQ hs v3
    refine ⟨a', W, ?_, k2⟩
    unfold p0
    rw [nd_hit g1, nd_hit u1, nd_hit v1, v2, k1, hs]
theorem cmQ (hL : TkO L) {f : Bool} {Q : Qry} {ea ew : Ex} (hQ : QG Q ea ew) (h : At L 0 (qF f Q ea ew)) :
    ∃ a' A W, pQ L 0 = ⟨⟨Q.agg, A, Q.src, Q.join, W, Q.wk, Q.ws, Q.we, Q.byKey, Q.late⟩, a', 0, 0⟩ ∧ A.map Nod.st = Q.arg.map Nod.st ∧ WIs L Q W ∧ ((Q.agg = 1 ∧ A = []) ∨ (Q.agg ≠ 1 ∧ zE L 3 = 0 ∧ A = zX L 3)) := by
  have hag := hQ.x.ag
  unfold qF at h
  obtain ⟨g1, _, g3⟩ := nx_hit h (S := seS) (i := 0) (show (2 : Int) ≠ 1 by decide) (by decide) (by decide)
  have hf := ag_first ⟨Q.agg.toNat, by omega⟩ (by simp only; omega)
  simp only at hf
  rw [show ((Q.agg.toNat : Nat) : Int) = Q.agg by omega] at hf
  obtain ⟨u1, u2, u3⟩ := nx_hit g3 (S := agS) (show (2 : Int) ≠ 1 by decide) hf (show _ < 4 by omega)
  obtain ⟨v1, _, v3⟩ := nx_hit u3 (S := opS) (i := 0) (show (3 : Int) ≠ 1 by decide) (by decide) (by decide)
  have hg : agI L (0 + 1) = Q.agg := by
    unfold agI
    rw [u2, u8_small (by omega) (by omega)]; omega
  unfold pQ
  rw [nd_hit g1, nd_hit u1, nd_hit v1, hg]
  unfold agF at v3
  by_cases h1 : Q.agg = 1
  · rw [decide_eq_true h1] at v3 ⊢
    obtain ⟨w1, _, w3⟩ := nx_hit v3 (S := stS) (i := 0) (show (3 : Int) ≠ 1 by decide) (by decide) (by decide)
    obtain ⟨a', W, k1, k2⟩ := cm0 hL (g := Q.agg) (A := []) hQ w3
    rw [cond_true, nd_hit w1, k1]
    exact ⟨a', [], W, rfl, by rw [hQ.x.a1 h1], k2, .inl ⟨h1, rfl⟩⟩
  · rw [decide_eq_false h1] at v3 ⊢
    obtain ⟨x1, x2⟩ := hQ.x.a2 h1
    have hst : ∀ b, stopB 1 (pcsT b (frF f Q ew)) = true := fun b => by
      have h0 := hQ.x.s0
      unfold frF
      cases hs : Q.src with
      | nil => rw [hs] at h0; simp at h0
      | cons n r => exact stop_pc (p := ⟨[], 3, [41]⟩) rfl _ b
    obtain ⟨e', r, k1, k2, k3⟩ := At.ex (f := f) v3 x2 hst hL.n
    have l1 := nxB_lt v1
    obtain ⟨z1, z2, z3⟩ := z_at hL v3.1 (by omega) k2
    rw [← z2] at k3
    obtain ⟨a', W, k4, k5⟩ := cm0 hL (g := Q.agg) (A := zX L (0 + 1 + 1 + 1)) hQ k3
    rw [cond_false]
    unfold exP
    rw [decide_eq_true z1, cond_true, k4]
    refine ⟨a', _, W, rfl, ?_, k5, .inr ⟨h1, z1, rfl⟩⟩
    rw [z3, x1, flat_st, flat_st, k1]
end
end Go.Proofs.YtdckpbeioemopabGreatDoor.Pr
namespace Go.Proofs.YtdckpbeioemopabGreatDoor.Sq
open Go.Am Go Go.Proofs.YtdckpbeioemopabGreatDoor Go.Proofs.YtdckpbeioemopabGreatDoor.Sm
set_option maxRecDepth 100000
variable {B : Nat → Option Obj}
def bR (b : Bool) (e : Int) : Option Out := some ⟨[.bool b, i64 e], []⟩
def fbS (b : Bool) (z : Option Out) : Option Out := bif b then z else bR false 0
def inS (b : Bool) (z : Option Out) : Option Out := bif b then z else none
def winE (p q : Qry) : Bool := decide (p.wk = q.wk) && (decide (p.ws = q.ws) && (decide (p.we = q.we) && true))
def saO (p q : Qry) : Option Out := bif !decide (clkE p = 0) then bR false (clkE p) else bif !decide (clkE q = 0) then bR false (clkE q) else
  fbS (decide (p.agg = q.agg)) (fbS (p.join == q.join) (fbS (winE p q) (fbS (p.byKey == q.byKey) (fbS (decide (p.late = q.late)) (inS (decide (p.src.length ≤ 1000)) (fbS (all2 Ck.eqInt p.src q.src) (inS (decide (p.arg.length ≤ 100)) (fbS (all2 eqN p.arg q.arg) (inS (decide (p.whr.length ≤ 100)) (bR (all2 eqN p.whr q.whr) 0))))))))))
theorem tSameC (p q : Qry) : runT B Sm.lib1 Tryz.f12 [p.av 0 1 2, q.av 3 4 5] (Ck.qbs p ++ Ck.qbs q) = saO p q := by kernel_rfl
theorem len_of {q : Qry} (h : clkE q = 0) : q.arg.length ≤ 60 ∧ q.whr.length ≤ 60 ∧ q.src.length ≤ 4 := by
  obtain ⟨c1, c2, c3, c4, c5, c6⟩ := clk_inv h
  obtain ⟨s1, s2, _⟩ := srcE_inv c5
  refine ⟨?_, ?_, s1⟩
  · by_cases h1 : q.agg = 1
    · rw [c2 h1]; simp
    · exact (chk_len (c3 h1)).2
  · by_cases h1 : 0 < q.whr.length
    · exact (chk_len (c4 h1)).2
    · omega
theorem sa_is {p q : Qry} (hp : clkE p = 0) (hq : clkE q = 0) : saO p q = bR (alkB p q) 0 := by
  obtain ⟨l1, l2, l3⟩ := len_of hp
  unfold saO fbS inS winE alkB
  rw [decide_eq_true hp, decide_eq_true hq, decide_eq_true (show p.src.length ≤ 1000 by omega), decide_eq_true (show p.arg.length ≤ 100 by omega), decide_eq_true (show p.whr.length ≤ 100 by omega), Pr.all2_eq]
  cases decide (p.agg = q.agg) <;> cases p.join == q.join <;> cases decide (p.wk = q.wk) <;> cases decide (p.ws = q.ws) <;> cases decide (p.we = q.we) <;> cases p.byKey == q.byKey <;> cases decide (p.late = q.late) <;> cases decide (p.src = q.src) <;> cases all2 eqN p.arg q.arg <;> cases all2 eqN p.whr q.whr <;> rfl
def okC (q : Qry) : Bool := decide (clkE q = 0)
def sSameC : FSpec
  | [.agg [.int .u8 ag, .slw 0, .slw 1, .bool j, .slw 2, .int .u8 wk, .int .i64 ws, .int .i64 we, .bool bk, .int .u8 lt], .agg [.int .u8 ag', .slw 3, .slw 4, .bool j', .slw 5, .int .u8 wk', .int .i64 ws', .int .i64 we', .bool bk', .int .u8 lt']], [⟨false, .nodes A⟩, ⟨false, .ints .i64 S⟩, ⟨false, .nodes W⟩, ⟨false, .nodes A'⟩, ⟨false, .ints .i64 S'⟩, ⟨false, .nodes W'⟩] =>
    .node (okC ⟨ag, A, S, j, W, wk, ws, we, bk, lt⟩ && okC ⟨ag', A', S', j', W', wk', ws', we', bk', lt'⟩) (.leaf ⟨[.bool (alkB ⟨ag, A, S, j, W, wk, ws, we, bk, lt⟩ ⟨ag', A', S', j', W', wk', ws', we', bk', lt'⟩), .int .i64 0], []⟩) .bad
  | _, _ => .bad
theorem okSameC : FnOk (E0 B) 12 sSameC := by
  refine fnT Sm.lib1_ok Tryz.func12 (by kernel_rfl) (by kernel_rfl) fun vs bs r h => ?_
  unfold sSameC at h
  split at h
  · rename_i ag j wk ws we bk lt ag' j' wk' ws' we' bk' lt' A S W A' S' W'
    rcases T.node_sel h with ⟨hc, h2⟩ | ⟨_, h2⟩
    · simp only [T.sel, Option.some.injEq] at h2; subst h2
      rw [Bool.and_eq_true] at hc
      exact (tSameC ⟨ag, A, S, j, W, wk, ws, we, bk, lt⟩ ⟨ag', A', S', j', W', wk', ws', we', bk', lt'⟩).trans (sa_is (of_decide_eq_true hc.1) (of_decide_eq_true hc.2))
    · simp [T.sel] at h2
  · simp [T.sel] at h
theorem qx_of {q : Qry} (hc : clkE q = 0) (hA : rngX q.arg = true) (hW : rngX q.whr = true) : ∃ ea ew, QX q ea ew ∧ (q.agg ≠ 1 → prS q.arg = ea.txt false) ∧ (0 < q.whr.length → prS q.whr = ew.txt false) := by
  have hq := qok_of hc hA hW
  obtain ⟨c1, c2, c3, c4, c5, c6⟩ := clk_inv hc
  have tr : ∀ {X : List Nod}, chkN X = 0 → rngX X = true → ∃ e, X = e.flat 0 ∧ TrOk e ∧ prS X = e.txt false := fun {X} h hr => by
    obtain ⟨e, he, rfl, hs, hd⟩ := chkN_tree h
    exact ⟨e, rfl, ⟨he, by rw [← rng_flat e 0]; exact hr, hs, hd⟩, prS_is he h⟩
  have hf : fitsW q.wk q.ws q.we = true := by
    cases hf : fitsW q.wk q.ws q.we with
    | false => rw [hf] at c6; cases c6
    | true => rfl
  have hw := hf
  unfold fitsW at hw
  simp only [Bool.and_eq_true, decide_eq_true_eq] at hw
  obtain ⟨w1, w2, w3⟩ := hw
  have hj : q.join = true → q.src.length = 2 := fun h => by
    have h4 := hq.s4
    have h0 := hq.s0
    unfold srcE at c5
    rw [decide_eq_false (show ¬ 4 < q.src.length by omega), decide_eq_false (show ¬ q.src.length = 0 by omega), h] at c5
    cases h2 : decide (q.src.length = 2) with
    | true => exact of_decide_eq_true h2
    | false => rw [h2] at c5; cases c5
  have hk : (q.wk = 2 → 1 ≤ q.we ∧ q.we ≤ 1073741824) ∧ (q.wk ≠ 2 → q.we = 0) := by
    refine ⟨fun h => ?_, fun h => ?_⟩
    · rw [decide_eq_true h] at w3
      simp only [cond_true, Bool.and_eq_true, decide_eq_true_eq] at w3
      omega
    · rw [decide_eq_false h] at w3
      simp only [cond_false, Bool.and_eq_true, decide_eq_true_eq] at w3
      exact w3.2
  have hlt : q.late = 1 ∨ q.late = 2 := by
    by_cases l1 : q.late = 1
    · exact .inl l1
    · by_cases l2 : q.late = 2
      · exact .inr l2
      · rw [decide_eq_false l1, decide_eq_false l2] at c1
        simp at c1
  have hA' : ∃ ea, (q.agg ≠ 1 → q.arg = ea.flat 0 ∧ TrOk ea) ∧ (q.agg ≠ 1 → prS q.arg = ea.txt false) := by
    by_cases h : q.agg = 1
    · exact ⟨default, fun h' => (h' h).elim, fun h' => (h' h).elim⟩
    · obtain ⟨e, e1, e2, e3⟩ := tr (c3 h) hA
      exact ⟨e, fun _ => ⟨e1, e2⟩, fun _ => e3⟩
  have hW' : ∃ ew, (0 < q.whr.length → q.whr = ew.flat 0 ∧ TrOk ew) ∧ (0 < q.whr.length → prS q.whr = ew.txt false) := by
    by_cases h : 0 < q.whr.length
    · obtain ⟨e, e1, e2, e3⟩ := tr (c4 h) hW
      exact ⟨e, fun _ => ⟨e1, e2⟩, fun _ => e3⟩
    · exact ⟨default, fun h' => (h h').elim, fun h' => (h h').elim⟩
  obtain ⟨ea, a1, a2⟩ := hA'
  obtain ⟨ew, b1, b2⟩ := hW'
  exact ⟨ea, ew, ⟨⟨hq.a1, hq.a4⟩, c2, a1, b1, hq.s0, hq.s4, hq.sR, hj, ⟨hq.k1, hq.k3⟩, ⟨w1, w2⟩, hk.1, hk.2, hlt⟩, a2, b2⟩
theorem nm_is : ∀ k : Fin 4, nmS k.val = wNm k.val := by decide +kernel
theorem ag_is : ∀ k : Fin 5, 1 ≤ k.val → agT k.val = wAg k.val := by decide +kernel
theorem wi_is : ∀ k : Fin 4, 1 ≤ k.val → wiT k.val = wWk k.val ++ [32] := by decide +kernel
theorem bt_is (j : Bool) : btT j = [32] ++ (wBt j ++ [32]) := by cases j <;> rfl
theorem nm_of {x : Int} (h : inR x = true) : nmS x = wNm x := by
  have hx := inR_of h
  have := nm_is ⟨x.toNat, by omega⟩
  simpa only [show ((x.toNat : Nat) : Int) = x by omega] using this
theorem pcs_w (t : List UInt8) (l : List Pc) : pcsS (pW t :: l) = [32] ++ (t ++ pcsS l) := rfl
theorem pcs_n (n : Int) (l : List Pc) : pcsS (pN n :: l) = [32] ++ (Lib.itoa n ++ pcsS l) := rfl
theorem srcT_is (j : Bool) : ∀ (r : List Int) (s : List UInt8), r.all inR = true → srcT (btT j) s r = s ++ pcsS (srcP j r)
  | [], s, _ => (List.append_nil s).symm
  | x :: r, s, h => by
    rw [List.all_cons, Bool.and_eq_true] at h
    show srcT (btT j) _ r = _
    rw [srcT_is j r _ h.2, srcP, pcs_w, pcs_w, nm_of h.1, bt_is]
    simp only [List.append_assoc]
theorem td_is {q : Qry} {ea ew : Ex} (h : QX q ea ew) (ha : q.agg ≠ 1 → prS q.arg = ea.txt false) (hw : 0 < q.whr.length → prS q.whr = ew.txt false) : tdT q = pcsS (qPcs q ea ew) := by
  have a1 := h.ag
  have a2 := h.wk
  have e1 : agT q.agg = wAg q.agg := by
    have := ag_is ⟨q.agg.toNat, by omega⟩ (by simp only; omega)
    simpa only [show ((q.agg.toNat : Nat) : Int) = q.agg by omega] using this
  have e2 : wiT q.wk = wWk q.wk ++ [32] := by
    have := wi_is ⟨q.wk.toNat, by omega⟩ (by simp only; omega)
    simpa only [show ((q.wk.toNat : Nat) : Int) = q.wk by omega] using this
  have e3 : argT q = pcsS (agP q ea) := by
    unfold argT agP
    by_cases h1 : q.agg = 1
    · rw [decide_eq_true h1]; rfl
    · rw [decide_eq_false h1, cond_false, cond_false, ha h1]; rfl
  have e4 : whT q = pcsS (whP q ew) := by
    unfold whT whP
    by_cases h1 : 0 < q.whr.length
    · rw [decide_eq_true h1, cond_true, cond_true, pcs_w, pcs_gapS, hw h1]; rfl
    · rw [decide_eq_false h1]; rfl
  have e5 : wnT q ++ evT q ++ bkT q ++ ltT q = pcsS (winP q) := by
    have f1 : evT q = pcsS (evP q) := by
      unfold evT evP
      cases decide (q.wk = 2) with
      | true => rw [cond_true, cond_true, pcs_w, pcs_n]; simp [pcsS, wEvery]
      | false => rfl
    have f2 : bkT q = pcsS (bkP q) := by unfold bkT bkP; cases q.byKey <;> rfl
    have f3 : ltT q = pcsS (tlP q) := by unfold ltT tlP; cases decide (q.late = 2) <;> rfl
    unfold winP wnT
    rw [pcs_w, pcs_w, pcs_n, pcsS_app, pcsS_app, f1, f2, f3, e2]
    simp [wWin]
  have hs := h.s0
  have hR := h.sR
  unfold tdT
  have e6 : srcF (btT q.join) (hdT q) q.src = wSel ++ ([32] ++ (wAg q.agg ++ (40 :: pcsS (agP q ea)))) ++ (match q.src with | [] => [] | x :: r => [41] ++ ([32] ++ (wFrom ++ ([32] ++ (wNm x ++ pcsS (srcP q.join r)))))) := by
    cases hq : q.src with
    | nil => rw [hq] at hs; simp at hs
    | cons x r =>
      rw [hq, List.all_cons, Bool.and_eq_true] at hR
      show srcT (btT q.join) (hdT q ++ nmS x) r = _
      rw [srcT_is q.join r _ hR.2, nm_of hR.1]
      unfold hdT
      rw [e1, e3]
      simp [wSel, wFrom]
  have e7 : srcF (btT q.join) (hdT q) q.src ++ whT q ++ wnT q ++ evT q ++ bkT q ++ ltT q = srcF (btT q.join) (hdT q) q.src ++ (whT q ++ (wnT q ++ evT q ++ bkT q ++ ltT q)) := by simp only [List.append_assoc]
  rw [e7, e6, e4, e5, qtxt_is, pcsS_app]
  have e8 : pcsS (Go.Am.frP q ew) = (match q.src with | [] => [] | x :: r => [41] ++ ([32] ++ (wFrom ++ ([32] ++ (wNm x ++ pcsS (srcP q.join r)))))) ++ (pcsS (whP q ew) ++ pcsS (winP q)) := by
    unfold Go.Am.frP
    cases hq : q.src with
    | nil => rw [hq] at hs; simp at hs
    | cons x r =>
      show [] ++ ([41] ++ pcsS (pW wFrom :: pW (wNm x) :: (srcP q.join r ++ (whP q ew ++ winP q)))) = _
      rw [pcs_w, pcs_w, pcsS_app, pcsS_app]
      simp only [List.append_assoc, List.nil_append]
  rw [e8]
  simp only [List.append_assoc, List.cons_append, List.nil_append]
theorem few_of {q : Qry} {ea ew : Ex} (h : QX q ea ew) (hl : lexE (pcsS (qPcs q ea ew)) = 0) : (qPcs q ea ew).length ≤ 200 := by
  by_cases hn : (qPcs q ea ew).length ≤ 200
  · exact hn
  · have h4 := qlx_over h (by omega)
    unfold lexE lexA at hl
    cases hc : decide ((400 : Int) < ((pcsS (qPcs q ea ew)).length : Int)) with
    | true => rw [hc] at hl; cases hl
    | false =>
      rw [hc, cond_false] at hl
      have hl2 : (lx (pcsS (qPcs q ea ew)) 0 0).e = 0 := hl
      rw [h4] at hl2
      cases hl2
theorem qg_of {q : Qry} {ea ew : Ex} (hc : clkE q = 0) (h : QX q ea ew) : Pr.QG q ea ew := by
  obtain ⟨c1, c2, c3, c4, c5, c6⟩ := clk_inv hc
  rw [Bool.or_eq_false_iff] at c6
  refine ⟨h, by simpa using c6.1, fun hj => ?_, ?_⟩
  · have := c6.2
    rw [hj, Bool.true_and, Bool.not_eq_false'] at this
    exact of_decide_eq_true this
  · unfold srcE at c5
    cases hd : dups q.src with
    | false => rfl
    | true =>
      rw [hd] at c5
      revert c5
      cases decide (4 < q.src.length) <;> cases (decide (q.src.length = 0) || (q.join && !decide (q.src.length = 2))) <;> cases (q.src.all inR) <;> (intro h; first | (cases h; done) | exact absurd h (by decide))
end Go.Proofs.YtdckpbeioemopabGreatDoor.Sq
namespace Go.Proofs.YtdckpbeioemopabGreatDoor.Sq
open Go.Am Go Go.Proofs.YtdckpbeioemopabGreatDoor Go.Proofs.YtdckpbeioemopabGreatDoor.Pr
set_option maxRecDepth 100000
theorem kindAt_st (A : List Nod) (i : Int) : kindAt (A.map Nod.st) i = kindAt A i := by
  unfold kindAt
  rw [List.getD, List.getD, List.getElem?_map]
  cases A[i.toNat]? <;> rfl
theorem fitsN_st (A : List Nod) (x : Nod) : fitsN (A.map Nod.st) x.st = fitsN A x := by
  unfold fitsN
  simp only [kindAt_st]
  rfl
theorem wrongGo_st (A : List Nod) : ∀ (r : List Nod) (i : Int), wrongGo (A.map Nod.st) (r.map Nod.st) i = wrongGo A r i
  | [], _ => rfl
  | x :: r, i => by
    rw [List.map_cons]
    unfold wrongGo
    rw [fitsN_st, wrongGo_st A r]
theorem wrongN_st (A : List Nod) : wrongN (A.map Nod.st) = wrongN A := wrongGo_st A A 0
theorem lastK_st (A : List Nod) : lastK (A.map Nod.st) = lastK A := by
  unfold lastK
  rw [List.length_map, kindAt_st]
def kq (l : List Nod) (t : Bool) : Int := bif decide (wrongN l < (l.length : Int)) then 42 else bif !(givesN (lastK l) == t) then 42 else 0
theorem kq_st (A : List Nod) (t : Bool) : kq (A.map Nod.st) t = kq A t := by
  unfold kq
  rw [wrongN_st, lastK_st, List.length_map]
theorem kWant_is {A : List Nod} (h : chkN A = 0) (t : Bool) : (kWant A t).2 = kq A t := by
  unfold kWant kOf kq
  rw [decide_eq_true h]
  simp only [Bool.not_true, cond_false]
  cases decide (wrongN A < (A.length : Int)) with
  | true => rfl
  | false =>
    simp only [cond_false]
    cases givesN (lastK A) <;> cases t <;> rfl
theorem kWant_st {A C : List Nod} (h : A.map Nod.st = C.map Nod.st) (hA : chkN A = 0) (hC : chkN C = 0) (t : Bool) : (kWant A t).2 = (kWant C t).2 := by
  rw [kWant_is hA, kWant_is hC, ← kq_st A, ← kq_st C, h]
theorem rng_st (A : List Nod) : rngX (A.map Nod.st) = rngX A := by
  unfold rngX
  rw [List.all_map]; rfl
theorem len_st {A C : List Nod} (h : A.map Nod.st = C.map Nod.st) : A.length = C.length := by
  have := congrArg List.length h
  simpa using this
theorem qz_inv {p q : Qry} (h : qz p = qz q) : p.agg = q.agg ∧ p.arg.map Nod.st = q.arg.map Nod.st ∧ p.whr.map Nod.st = q.whr.map Nod.st := ⟨show (qz p).agg = (qz q).agg by rw [h], show (qz p).arg = (qz q).arg by rw [h], show (qz p).whr = (qz q).whr by rw [h]⟩
theorem ck_same {p q : Qry} (h : qz p = qz q) (hp : clkE p = 0) (hq : clkE q = 0) : (ckE p).2 = (ckE q).2 := by
  obtain ⟨e1, e2, e3⟩ := qz_inv h
  have la := len_st e2
  have lw := len_st e3
  have hE : ∀ {x : Qry}, clkE x = 0 → ckE x = ckR x := fun {x} hx => by unfold ckE; rw [decide_eq_true hx]; rfl
  rw [hE hp, hE hq]
  have hw : (ckW p).2 = (ckW q).2 := by
    unfold ckW
    rw [lw]
    by_cases h0 : 0 < q.whr.length
    · have hk := kWant_st e3 (Ck.clk_whr hp (by omega)) (Ck.clk_whr hq h0) true
      rw [hk]
      cases (decide (0 < q.whr.length) && !decide ((kWant q.whr true).2 = 0)) <;> first | rfl | exact hk
    · rw [decide_eq_false h0]; rfl
  unfold ckR
  rw [la]
  by_cases h0 : 0 < q.arg.length
  · have hk := kWant_st e2 (Ck.clk_arg hp (by omega)) (Ck.clk_arg hq h0) false
    rw [hk]
    cases (decide (0 < q.arg.length) && !decide ((kWant q.arg false).2 = 0)) <;> first | exact hw | rfl
  · rw [decide_eq_false h0]
    simpa using hw
theorem lexL_of {s : List UInt8} (hs : s.length ≤ 400) (he : (lx s 0 0).e = 0) : lexE s = 0 ∧ lexL s = (lx s 0 0).l := by
  have hA : lexA s = lx s 0 0 := Lx.lexA_is (by omega)
  have h1 : lexE s = 0 := by unfold lexE; rw [hA]; exact he
  refine ⟨h1, ?_⟩
  unfold lexL
  rw [decide_eq_true h1, hA]; rfl
structure PF (s : List UInt8) (q : Qry) : Prop where
  lE : lexE s = 0
  pE : prE s = 0
  pN : prN s = (s.length : Int)
  z : qz (prQ s) = qz q
  w : WIs (lexL s) q (prQ s).whr
  a : (q.agg = 1 ∧ (prQ s).arg = []) ∨ (q.agg ≠ 1 ∧ zE (lexL s) 3 = 0 ∧ (prQ s).arg = zX (lexL s) 3)
  v : QV (lexL s) (prQ s)
theorem pf_of (f : Bool) {q : Qry} {ea ew : Ex} (hc : clkE q = 0) (h : QX q ea ew) (hs : (pcsS (qF f q ea ew)).length ≤ 400) (hn : (qF f q ea ew).length ≤ 200) : lexL (pcsS (qF f q ea ew)) = pcsT 0 (qF f q ea ew) ∧ PF (pcsS (qF f q ea ew)) q := by
  have h1 := qlxF_ok f h hn
  generalize hS : pcsS (qF f q ea ew) = s at h1 hs
  obtain ⟨h2, h3⟩ := lexL_of hs (by rw [h1])
  have h4 : lexL s = pcsT 0 (qF f q ea ew) := by rw [h3, h1]
  have hL := (lex_tk h2).1
  have hA : At (lexL s) 0 (qF f q ea ew) := ⟨Int.le_refl _, 0, by rw [h4]; rfl⟩
  obtain ⟨a', A, W, k1, k2, k3, k4⟩ := cmQ hL (qg_of hc h) hA
  have hd : (pQ (lexL s) 0).d = 0 := by rw [k1]
  have e1 : prE s = 0 := by unfold prE; rw [decide_eq_true h2]; exact hd
  have e2 : prQ s = ⟨q.agg, A, q.src, q.join, W, q.wk, q.ws, q.we, q.byKey, q.late⟩ := by
    unfold prQ
    rw [decide_eq_true e1, cond_true, k1]
  refine ⟨h4, h2, e1, ?_, ?_, ?_, ?_, ?_⟩
  · rcases Tx.par_cases s with ⟨g, _⟩ | ⟨_, g, _⟩
    · exact (g e1).elim
    · exact g
  · rw [e2]
    unfold qz
    simp only [Qry.mk.injEq]
    exact ⟨trivial, k2, trivial, trivial, k3.1, trivial, trivial, trivial, trivial, trivial⟩
  · rw [e2]; exact k3
  · rw [e2]; exact k4
  · have := invQ hL hd
    unfold prQ
    rw [decide_eq_true e1]; exact this
end Go.Proofs.YtdckpbeioemopabGreatDoor.Sq
