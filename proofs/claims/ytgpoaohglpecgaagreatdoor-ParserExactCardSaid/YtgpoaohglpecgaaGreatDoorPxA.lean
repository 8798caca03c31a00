/-
  Texts put together: ParExact, ParExact2.
-/
import Derived.Test.YtgpoaohglpecgaaGreatDoorPpA
import Derived.Test.YtgpoaohglpecgaaGreatDoorValB
import Derived.Test.YtgpoaohglpecgaaGreatDoorValA
namespace Go.Proofs.YtgpoaohglpecgaaGreatDoor.Px
open Go.Am Go Go.Proofs.YtgpoaohglpecgaaGreatDoor Go.Proofs.YtgpoaohglpecgaaGreatDoor.Pr
set_option maxRecDepth 100000
variable {B : Nat → Option Obj}
inductive KX where
  | big | many | good
def KX.all : KX → FSpec
  | .good => sAllG
  | _ => Pp.sAllM
def KX.par : KX → FSpec
  | .good => sPar
  | _ => Tx.sP3 .bad
theorem okAllX (hB : Laid B) (k : KX) : FnOk (E0 B) 16 k.all := by
  cases k with
  | good => exact okAllG hB
  | big => exact Pp.okAllM hB
  | many => exact Pp.okAllM hB
theorem okParX (hB : Laid B) (k : KX) : FnOk (E0 B) 18 k.par := by
  cases k with
  | good => exact okPar hB
  | big => exact Tx.okP3 hB .bad
  | many => exact Tx.okP3 hB .bad
noncomputable def libX (k : KX) : Tb := (15, [], sTrueF) :: (23, [], Wr.sWt) :: (18, [], k.par) :: (16, [], k.all) :: (17, [], Lx.sJn) :: (19, [], sAlk) :: (25, [], Sq.sSameC) :: Ck.lib15
theorem libX_ok (hB : Laid B) (k : KX) : TbOk B (libX k) := ((((((Ck.lib15_ok.add Sq.okSameC).add okAlk).add (Lx.okJoin hB)).add (okAllX hB k)).add (okParX hB k)).add (Wr.okWt hB)).add (okAl9 hB)
def failO (s : List UInt8) (at' : Int) : Option Out := rS (!decide (prE s = 0)) (fbQ (decide (prE s = 4)) (fbQ (decide (prN s = at')) (rb true)))
def cutT (L : List Tok) (i : Int) : List Tok := [] ++ (L.drop (0 : Int).toNat).take (i.toNat - (0 : Int).toNat) ++ (L.drop (w64 (i + 1)).toNat).take (L.length - (w64 (i + 1)).toNat)
def endX (X : List Tok) (q : Qry) : Option Out := rS (shortT X) (bif decide (jE X = 18) then rb true else fbQ (decide (jE X = 0)) (bif !decide (prE (jS X) = 0) then rb true else rS (shQ (prQ (jS X))) (bif !alkB (prQ (jS X)) q then rb true else rb false)))
def cutO (L : List Tok) (i : Int) (q : Qry) : Option Out := rS (decide ((0 : Int) ≤ 0 ∧ 0 ≤ i ∧ i ≤ (L.length : Int))) (rS (decide (([] : List Tok).length + ((L.drop (0 : Int).toNat).take (i.toNat - (0 : Int).toNat)).length ≤ lim))
  (rS (decide (0 ≤ w64 (i + 1) ∧ w64 (i + 1) ≤ (L.length : Int))) (rS (decide (([] ++ (L.drop (0 : Int).toNat).take (i.toNat - (0 : Int).toNat)).length + ((L.drop (w64 (i + 1)).toNat).take (L.length - (w64 (i + 1)).toNat)).length ≤ lim)) (endX (cutT L i) q))))
def goodO (q : Qry) (s : List UInt8) (L : List Tok) (a : Int) : Option Out := rS (Sq.okC (prQ s) && Sq.okC q) (bif !decide (prE s = 0) then rb false else bif !decide (prN s = (s.length : Int)) then rb false else bif !alkB (prQ s) q then rb false else
  bif decide ((L.length : Int) = 0) then rb false else bif decide ((L.length : Int) = 0) then none else cutO L (a.tmod (L.length : Int)) q)
def grX (q : Qry) (a : Int) (z : Option Out) : Option Out := bif decide ((70 : Int) < (q.arg.length : Int)) then rb true else bif decide ((70 : Int) < (q.whr.length : Int)) then rb true else bif decide ((10 : Int) < (q.src.length : Int)) then rb true else bif !decide (clkE q = 0) then rb true else bif decide (a < 0) then rb true else z
def exO' (q : Qry) (a : Int) : KX → Option Out
  | .big => grX q a (rS (Wr.okW q) (bif decide ((400 : Int) < ((Wr.wtT q).length : Int)) then failO (Wr.wtT q) 0 else rS (decide (lexE (Wr.wtT q) = 4)) (failO (Wr.wtT q) (lexN (Wr.wtT q)))))
  | .many => grX q a (rS (Wr.okW q) (bif decide ((400 : Int) < ((Wr.wtT q).length : Int)) then failO (Wr.wtT q) 0 else rS (decide (lexE (Wr.wtT q) = 4)) (failO (Wr.wtT q) (lexN (Wr.wtT q)))))
  | .good => grX q a (rS (Wr.okW q) (bif decide ((400 : Int) < ((Wr.wtT q).length : Int)) then fbQ (decide (prE (Wr.wtT q) = 4)) (fbQ (decide (prN (Wr.wtT q) = 0)) (bif decide (((prQ (Wr.wtT q)).src.length : Int) = 0) then rb true else rb false)) else rS (decide (lexE (Wr.wtT q) = 0)) (goodO q (Wr.wtT q) (lexL (Wr.wtT q)) a)))
theorem tExM (q : Qry) (a : Int) : runT B (libX .many) Tryz.f5 [q.av 0 1 2, i64 a] (Ck.qbs q) = exO' q a .many := by kernel_rfl
theorem tExG (q : Qry) (a : Int) : runT B (libX .good) Tryz.f5 [q.av 0 1 2, i64 a] (Ck.qbs q) = exO' q a .good := by kernel_rfl
end Go.Proofs.YtgpoaohglpecgaaGreatDoor.Px
namespace Go.Proofs.YtgpoaohglpecgaaGreatDoor.Px
open Go.Am Go Go.Proofs.YtgpoaohglpecgaaGreatDoor Go.Proofs.YtgpoaohglpecgaaGreatDoor.Pr
set_option maxRecDepth 100000
variable {B : Nat → Option Obj}
theorem gr_ok {q : Qry} {a : Int} {z : Option Out} (hz : clkE q = 0 → 0 ≤ a → z = rb true) : grX q a z = rb true := by
  unfold grX
  by_cases hc : clkE q = 0
  · by_cases ha : 0 ≤ a
    · rw [hz hc ha]
      cases decide ((70 : Int) < (q.arg.length : Int)) <;> cases decide ((70 : Int) < (q.whr.length : Int)) <;> cases decide ((10 : Int) < (q.src.length : Int)) <;> cases decide (clkE q = 0) <;> cases decide (a < 0) <;> rfl
    · rw [decide_eq_true (show a < 0 by omega)]
      cases decide ((70 : Int) < (q.arg.length : Int)) <;> cases decide ((70 : Int) < (q.whr.length : Int)) <;> cases decide ((10 : Int) < (q.src.length : Int)) <;> cases decide (clkE q = 0) <;> rfl
  · rw [decide_eq_false hc]
    cases decide ((70 : Int) < (q.arg.length : Int)) <;> cases decide ((70 : Int) < (q.whr.length : Int)) <;> cases decide ((10 : Int) < (q.src.length : Int)) <;> rfl
theorem fail_ok {s : List UInt8} {n : Int} (h1 : prE s = 4) (h2 : prN s = n) : failO s n = rb true := by
  unfold failO rS fbQ
  rw [h1, h2, decide_eq_true (rfl : n = n)]; rfl
theorem lex_err {s : List UInt8} (h : lexE s = 4) : prE s = 4 ∧ prN s = lexN s := by
  unfold prE prN
  rw [h]
  exact ⟨rfl, rfl⟩
theorem cut_is {L : List Tok} {i : Nat} (hi : i < L.length) (hL : L.length ≤ 200) (q : Qry) : cutO L i q = endX (L.take i ++ L.drop (i + 1)) q := by
  have hw : w64 ((i : Int) + 1) = ((i + 1 : Nat) : Int) := by rw [w64_rng (show Rng ((i : Int) + 1) by unfold Rng; omega)]; omega
  have e1 : (L.drop (0 : Int).toNat).take ((i : Int).toNat - (0 : Int).toNat) = L.take i := by simp
  have e2 : (L.drop ((i + 1 : Nat) : Int).toNat).take (L.length - ((i + 1 : Nat) : Int).toNat) = L.drop (i + 1) := by
    rw [Int.toNat_natCast]
    exact List.take_of_length_le (by rw [List.length_drop]; omega)
  unfold cutO cutT rS
  rw [hw, e1, e2, List.nil_append, decide_eq_true (show (0 : Int) ≤ 0 ∧ (0 : Int) ≤ (i : Int) ∧ (i : Int) ≤ (L.length : Int) by omega), decide_eq_true (show ([] : List Tok).length + (L.take i).length ≤ lim by simp only [List.length_nil, List.length_take, lim]; omega),
    decide_eq_true (show (0 : Int) ≤ ((i + 1 : Nat) : Int) ∧ ((i + 1 : Nat) : Int) ≤ (L.length : Int) by omega), decide_eq_true (show (L.take i).length + (L.drop (i + 1)).length ≤ lim by simp only [List.length_take, List.length_drop, lim]; omega)]; rfl
theorem way {q : Qry} {a : Int} (hA : rngX q.arg = true) (hW : rngX q.whr = true) : ∃ k, exO' q a k = rb true := by
  by_cases hc : clkE q = 0
  · obtain ⟨ea, ew, hq, ht⟩ := Wr.wt_pcs hc hA hW
    have ok : Wr.okW q = true := by unfold Wr.okW; rw [decide_eq_true hc, hA, hW]; rfl
    by_cases hb : (400 : Int) < ((Wr.wtT q).length : Int)
    · refine ⟨.big, gr_ok fun _ _ => ?_⟩
      obtain ⟨l1, l2⟩ := lex_big (s := Wr.wtT q) (by omega)
      obtain ⟨p1, p2⟩ := lex_err l1
      rw [ok, decide_eq_true hb, cond_true, fail_ok p1 (p2.trans l2)]; rfl
    have hs : (pcsS (qF true q ea ew)).length ≤ 400 := by rw [← ht]; omega
    rcases Sq.few_lex true hq hs with ⟨hn, hl⟩ | ⟨_, hl⟩
    · obtain ⟨hL, pf⟩ := Sq.pf_of true hc hq hs hn
      have hlen : 4 ≤ (lexL (pcsS (qF true q ea ew))).length := by rw [hL, pcsT_len]; exact Pp.qF_len true hq
      rw [← ht] at pf hlen
      refine ⟨.good, gr_ok fun _ h0 => ?_⟩
      obtain ⟨s, hsd⟩ : ∃ s, s = Wr.wtT q := ⟨_, rfl⟩
      rw [← hsd] at pf hlen hb ⊢
      obtain ⟨hT, hl2, hl3, hs4⟩ := lex_tk pf.lE
      have hnn := hT.n
      have hal := alk_z pf.z
      obtain ⟨i, hi, hlt⟩ : ∃ i : Nat, a.tmod ((lexL s).length : Int) = (i : Int) ∧ i < (lexL s).length := by
        rw [Int.tmod_eq_emod_of_nonneg h0]
        have h1 := Int.emod_nonneg a (show ((lexL s).length : Int) ≠ 0 by omega)
        have h2 := Int.emod_lt_of_pos a (show (0 : Int) < ((lexL s).length : Int) by omega)
        exact ⟨(a % ((lexL s).length : Int)).toNat, by omega, by omega⟩
      unfold goodO
      rw [ok, decide_eq_false hb, cond_false, decide_eq_true pf.lE, pf.pE, pf.pN, hal, decide_eq_true (rfl : (s.length : Int) = (s.length : Int)), decide_eq_false (show ¬ ((lexL s).length : Int) = 0 by omega), hi, cut_is hlt hnn]
      have hoc : (Sq.okC (prQ s) && Sq.okC q) = true := by unfold Sq.okC; rw [decide_eq_true pf.v.ok, decide_eq_true hc]; rfl
      rw [hoc]
      obtain ⟨X, hX⟩ : ∃ X, X = (lexL s).take i ++ (lexL s).drop (i + 1) := ⟨_, rfl⟩
      rw [← hX]
      have hmem : ∀ t ∈ X, t ∈ lexL s := fun t ht => by
        rw [hX, List.mem_append] at ht
        rcases ht with ht | ht
        · exact List.mem_of_mem_take ht
        · exact List.mem_of_mem_drop ht
      have hXl : X.length + 1 = (lexL s).length := by
        rw [hX, List.length_append, List.length_take, List.length_drop]; omega
      have hsh : shortT X = true := List.all_eq_true.2 fun t ht => List.all_eq_true.1 hT.s t (hmem t ht)
      have hval : ∀ t ∈ X, tokE t.kind t.text = 0 := fun t ht => by
        have := List.all_eq_true.1 hT.v t (hmem t ht)
        unfold okV validB at this
        rw [Bool.and_eq_true] at this
        exact of_decide_eq_true this.1
      have key : endX X q = rb true := by
        unfold endX rS fbQ
        rw [hsh, cond_true]
        by_cases h18 : jE X = 18
        · rw [decide_eq_true h18]; rfl
        · have hvb : X.all validB = true := List.all_eq_true.2 fun t ht => by
            unfold validB
            exact decide_eq_true (hval t ht)
          have hj : jE X = 0 := by
            unfold jE at h18 ⊢
            rw [decide_eq_false (show ¬ (200 : Int) < (X.length : Int) by omega), cond_false, hvb, cond_true] at h18 ⊢
            by_cases h4 : (400 : Int) < ((jT X).length : Int)
            · rw [decide_eq_true h4] at h18; exact (h18 rfl).elim
            · rw [decide_eq_false h4]; rfl
          have hjl : (jT X).length ≤ 400 := by
            unfold jE at hj
            rw [decide_eq_false (show ¬ (200 : Int) < (X.length : Int) by omega), cond_false, hvb, cond_true] at hj
            by_cases h4 : (400 : Int) < ((jT X).length : Int)
            · rw [decide_eq_true h4] at hj; cases hj
            · omega
          have hjS : jS X = jT X := by unfold jS; rw [decide_eq_true hj]; rfl
          rw [hj, hjS]
          by_cases hp : prE (jT X) = 0
          · obtain ⟨j1, j2⟩ := lx_join X 0 0 hval (by omega)
            obtain ⟨k1, k2⟩ := Sq.lexL_of (s := jT X) hjl j1
            have hlt2 : (lexL (jT X)).length = X.length := by
              rw [k2]
              have := congrArg List.length j2
              rw [List.length_map, List.length_map] at this
              exact this
            have hd : (pQ (lexL (jT X)) 0).d = 0 := by unfold prE at hp; rw [decide_eq_true k1] at hp; exact hp
            have hv := invQ (lex_tk k1).1 hd
            have e : prQ (jT X) = (pQ (lexL (jT X)) 0).q := by unfold prQ; rw [decide_eq_true hp]; rfl
            rw [← e] at hv
            have hna : alkB (prQ (jT X)) q = false := by
              cases ha : alkB (prQ (jT X)) q with
              | false => rfl
              | true =>
                exfalso
                have p1 := alk_par ha
                have p2 := alk_par hal
                obtain ⟨m, hm⟩ := hv.p
                obtain ⟨n, hn2⟩ := pf.v.p
                rw [p1] at hm
                rw [p2] at hn2
                omega
            rw [hp, Vl.sh_any, hna]; rfl
          · rw [decide_eq_false hp]; rfl
      rw [key]; rfl
    · refine ⟨.many, gr_ok fun _ _ => ?_⟩
      rw [← ht] at hl
      obtain ⟨p1, p2⟩ := lex_err hl
      rw [ok, decide_eq_false hb, cond_false, hl, fail_ok p1 p2]; rfl
  · exact ⟨.many, gr_ok fun h => (hc h).elim⟩
def sEx (k : KX) : FSpec
  | [.agg [.int .u8 ag, .slw 0, .slw 1, .bool j, .slw 2, .int .u8 wk, .int .i64 ws, .int .i64 we, .bool bk, .int .u8 lt], .int .i64 a], [⟨false, .nodes A⟩, ⟨false, .ints .i64 S⟩, ⟨false, .nodes W⟩] => optT (exO' ⟨ag, A, S, j, W, wk, ws, we, bk, lt⟩ a k)
  | _, _ => .bad
def sExact (_ : Nat → Option Obj) : FSpec
  | [.agg [.int .u8 _, .slw 0, .slw 1, .bool _, .slw 2, .int .u8 _, .int .i64 _, .int .i64 _, .bool _, .int .u8 _], .int .i64 _], [⟨false, .nodes A⟩, ⟨false, .ints .i64 _⟩, ⟨false, .nodes W⟩] => .node (rngX A && rngX W) (.leaf ⟨[.bool true], []⟩) .bad
  | _, _ => .bad
theorem sExact_sel {q : Qry} {a : Int} (hq : qryWf q) : (sExact B [q.av 0 1 2, .int .i64 a] [⟨false, .nodes q.arg⟩, ⟨false, .ints .i64 q.src⟩, ⟨false, .nodes q.whr⟩]).sel = some ⟨[.bool true], []⟩ := by
  show (bif rngX q.arg && rngX q.whr then _ else _) = _
  rw [rng_of hq.1, rng_of hq.2.1]; rfl
theorem tEx (hB : Laid B) (k : KX) (hk : k ≠ .big) : FnOk (E0 B) 5 (sEx k) := by
  refine fnT (libX_ok hB k) Tryz.func5 (by kernel_rfl) (by kernel_rfl) fun vs bs r h => ?_
  unfold sEx at h
  split at h
  · rename_i ag j wk ws we bk lt a A S W
    rw [optT_sel] at h
    cases k with
    | big => exact (hk rfl).elim
    | many => exact (tExM ⟨ag, A, S, j, W, wk, ws, we, bk, lt⟩ a).trans h
    | good => exact (tExG ⟨ag, A, S, j, W, wk, ws, we, bk, lt⟩ a).trans h
  · simp [T.sel] at h
theorem okExact (hB : Laid B) : FnOk (E0 B) 5 (sExact B) := by
  refine Tx.fnOk_cases (fnAt_mk (fn := Tryz.f5) Tryz.func5 (by kernel_rfl) (by kernel_rfl)) (si := fun b : Bool => sEx (bif b then .good else .many)) (fun b => ?_) fun vs bs r h => ?_
  · cases b with
    | true => exact tEx hB .good (by intro h; cases h)
    | false => exact tEx hB .many (by intro h; cases h)
  · unfold sExact at h
    split at h
    · rename_i ag j wk ws we bk lt a A S W
      rcases T.node_sel h with ⟨hc, h2⟩ | ⟨_, h2⟩
      · simp only [T.sel, Option.some.injEq] at h2; subst h2
        rw [Bool.and_eq_true] at hc
        obtain ⟨k, hk⟩ := way (q := ⟨ag, A, S, j, W, wk, ws, we, bk, lt⟩) (a := a) hc.1 hc.2
        have sel : ∀ k, exO' ⟨ag, A, S, j, W, wk, ws, we, bk, lt⟩ a k = rb true → (sEx k [.agg [.int .u8 ag, .slw 0, .slw 1, .bool j, .slw 2, .int .u8 wk, .int .i64 ws, .int .i64 we, .bool bk, .int .u8 lt], .int .i64 a] [⟨false, .nodes A⟩, ⟨false, .ints .i64 S⟩, ⟨false, .nodes W⟩]).sel = some ⟨[.bool true], []⟩ := fun k hk => by
          show (optT _).sel = _
          rw [optT_sel]; exact hk
        cases k with
        | good => exact ⟨true, sel .good hk⟩
        | many => exact ⟨false, sel .many hk⟩
        | big => exact ⟨false, sel .many hk⟩
      · simp [T.sel] at h2
    · simp [T.sel] at h
end Go.Proofs.YtgpoaohglpecgaaGreatDoor.Px
