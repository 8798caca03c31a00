/-
  Message: the reference's number and Read by contract.
-/
import Derived.Test.YtbjokogmfllcdaaDoorMsgRead2
import Derived.Test.YtbjokogmfllcdaaDoorMsgNum
namespace Go.Proofs.YtbjokogmfllcdaaDoor
open Go.Am
set_option maxRecDepth 100000
variable {B : Nat → Option Obj}
noncomputable def bNm : Code := loopAt 3 (loopsOf (bodyC Tryd.f37))
def sgNm : LSig := { cs := [(0, 0)], mv := [(3, 0), (4, 0)], mo := [(3, 0)], take := [] }
def goNm (s : List UInt8) (n i : Int) : Option (AExit × Out) := some (.normal, ⟨[.str s, i64 n, i64 i], []⟩)
def exNm (n : Int) : Option (AExit × Out) := some (.exit 0, ⟨[i64 n], []⟩)
theorem turnNm (s : List UInt8) (n i : Int) : (turn (E0 B) (Cx B lib8) noL 38 sgNm bNm [.str s, i64 n, i64 i] []).sel =
    bif decide (i < (s.length : Int)) then (bif decide (i < 21) then (bif inS s i then (bif !decide (chS s i = 45) then (bif inS s i then goNm s (w64 (w64 (10 * n) - dgU (chS s i))) (w64 (i + 1)) else none) else goNm s n (w64 (i + 1))) else none) else exNm n) else exNm n := by kernel_rfl
theorem drop_in {s : List UInt8} {i : Int} {c : UInt8} {r : List UInt8} (h0 : 0 ≤ i) (h : s.drop i.toNat = c :: r) : i < (s.length : Int) ∧ chS s i = (c.toNat : Int) ∧ s.drop (i + 1).toNat = r ∧ inS s i = true := by
  have hlt : i.toNat < s.length := by
    rcases Nat.lt_or_ge i.toNat s.length with h1 | h1
    · exact h1
    · rw [List.drop_eq_nil_of_le h1] at h; cases h
  have e := List.drop_eq_getElem_cons hlt
  rw [h] at e
  injection e with e1 e2
  refine ⟨by omega, by unfold chS; rw [e1]; simp [List.getD, hlt], by rw [show (i + 1).toNat = i.toNat + 1 from by omega]; exact e2.symm, decide_eq_true ⟨h0, by omega⟩⟩
theorem w64_next {i : Int} (h0 : 0 ≤ i) (h1 : i ≤ lim) : w64 (i + 1) = i + 1 := by
  apply w64_rng; unfold Rng; simp only [lim] at h1; omega
def okNm (s : List UInt8) (i : Int) : Bool := decide (0 ≤ i ∧ i ≤ 21 ∧ s.length ≤ lim)
def spNm : LSpec
  | [.str s, .int .i64 n, .int .i64 i], [] => .node (okNm s i) (.leaf (.exit 0, ⟨[i64 (numF n ((s.take 21).drop i.toNat))], []⟩)) .bad
  | _, _ => .bad
theorem loopNm (hB : Laid B) : LoopOk (E0 B) 38 sgNm bNm spNm := by
  refine loop_turns (C := Cx B lib8) (L := noL) (cxOk (lib8_ok hB)) (noL_ok _) fun vs bs e o h => ?_
  unfold spNm at h
  split at h
  · rename_i s n i
    rcases T.node_sel h with ⟨hc, h2⟩ | ⟨_, h2⟩
    · obtain ⟨h0, h1, hl⟩ := of_decide_eq_true hc
      simp only [T.sel, Option.some.injEq, Prod.mk.injEq] at h2
      obtain ⟨rfl, rfl⟩ := h2
      clear hc h
      generalize hr : (s.take 21).drop i.toNat = r
      induction r generalizing n i with
      | nil =>
        have hend : ¬ (i < (s.length : Int) ∧ i < 21) := by
          have := List.drop_eq_nil_iff.1 hr
          rw [List.length_take] at this
          omega
        refine ⟨1, turns_done ((turnNm s n i).trans ?_) (by simp)⟩
        by_cases h5 : i < (s.length : Int)
        · rw [decide_eq_true h5, decide_eq_false (show ¬ i < 21 from fun h => hend ⟨h5, h⟩)]; rfl
        · rw [decide_eq_false h5]; rfl
      | cons c r ih =>
        obtain ⟨d1, d2, d3, d4⟩ := drop_in h0 hr
        rw [List.length_take] at d1
        have e1 : chS s i = (c.toNat : Int) := by
          rw [← d2]
          unfold chS
          congr 2
          simp only [List.getD, List.getElem?_take]
          rw [if_pos (by omega)]
        have e2 : inS s i = true := decide_eq_true ⟨h0, by omega⟩
        have ht := turnNm (B := B) s n i
        rw [decide_eq_true (show i < (s.length : Int) by omega), decide_eq_true (show i < 21 by omega), e2, e1, w64_next h0 (by simp only [lim]; omega)] at ht
        simp only [cond_true] at ht
        unfold numF
        cases hcc : decide ((c.toNat : Int) = 45) with
        | true =>
          rw [hcc] at ht
          obtain ⟨k, hk⟩ := ih n (i + 1) (by omega) (by omega) d3
          exact ⟨k + 1, turns_more ht hk⟩
        | false =>
          rw [hcc] at ht
          obtain ⟨k, hk⟩ := ih (w64 (w64 (10 * n) - dgU (c.toNat : Int))) (i + 1) (by omega) (by omega) d3
          exact ⟨k + 1, turns_more ht hk⟩
    · simp [T.sel] at h2
  · simp [T.sel] at h
noncomputable def eNm : LEnt := { id := 3, n := 38, sg := sgNm, wr := writes bNm, s := spNm }
def ri (n : Int) : Option Out := some ⟨[i64 n], []⟩
def nm0 (s : List UInt8) : Int := numF 0 ((s.take 21).drop (0 : Int).toNat)
theorem tNm (s : List UInt8) : runL B lib8 [eNm] Tryd.f37 [.str s] [] =
    bif okNm s 0 then (bif decide ((0 : Int) < (s.length : Int)) then (bif inS s 0 then (bif decide (chS s 0 = 45) then ri (nm0 s) else ri (w64 (0 - nm0 s))) else none) else ri (w64 (0 - nm0 s))) else none := by kernel_rfl
def sNum : FSpec
  | [.str s], [] => .node (decide (s.length ≤ lim)) (.leaf ⟨[i64 (numV s)], []⟩) .bad
  | _, _ => .bad
theorem okNum (hB : Laid B) : FnOk (E0 B) 37 sNum := by
  refine fnL (lib8_ok hB) (ls := [eNm]) Tryd.func37 (by kernel_rfl) (by kernel_rfl) (fun x hx => ?_) fun vs bs r h => ?_
  · simp only [List.mem_singleton] at hx; subst hx
    exact ⟨bNm, by kernel_rfl, rfl, loopNm hB⟩
  unfold sNum at h
  split at h
  · rename_i s
    rcases T.node_sel h with ⟨hc, h2⟩ | ⟨_, h2⟩
    · simp only [T.sel, Option.some.injEq] at h2; subst h2
      refine (tNm s).trans ?_
      rw [show okNm s 0 = true from decide_eq_true ⟨by omega, by omega, of_decide_eq_true hc⟩]
      have e0 : nm0 s = numF 0 (s.take 21) := rfl
      unfold numV
      rw [e0]
      cases s with
      | nil => rfl
      | cons c r =>
        rw [decide_eq_true (show (0 : Int) < ((c :: r).length : Int) by simp only [List.length_cons]; omega), show inS (c :: r) 0 = true from decide_eq_true ⟨Int.le_refl _, by simp only [List.length_cons]; omega⟩, show chS (c :: r) 0 = (c.toNat : Int) from rfl]
        rw [show isNeg (c :: r) = decide ((c.toNat : Int) = 45) from rfl]
        cases decide ((c.toNat : Int) = 45) <;> rfl
    · simp [T.sel] at h2
  · simp [T.sel] at h
noncomputable def lib9 : Tb := (37, [], sNum) :: lib8
theorem lib9_ok (hB : Laid B) : TbOk B lib9 := (lib8_ok hB).add (okNum hB)
/-! the reference's Read: the pieces -/
noncomputable def bSp : Code := loopAt 4 (loopsOf (bodyC Tryd.f19))
def sgSp : LSig := { cs := [(0, 0)], mv := [(4, 72), (5, 0), (6, 0)], mo := [(4, 72)], take := [0] }
def ssb (l : List (List UInt8)) : Blk := ⟨true, .strs l⟩
def goSp (s : List UInt8) (L : List (List UInt8)) (f i : Int) : Option (AExit × Out) := some (.normal, ⟨[.str s, .slw 0, i64 f, i64 i], [ssb L]⟩)
def exSp (L : List (List UInt8)) : Option (AExit × Out) := some (.exit 0, ⟨[.slw 0], [ssb L]⟩)
def pcS (s : List UInt8) (f i : Int) : List UInt8 := (s.take i.toNat).drop f.toNat
def apSp (s : List UInt8) (L : List (List UInt8)) (f i : Int) : Option (AExit × Out) :=
  bif decide (0 ≤ f ∧ f ≤ i ∧ i ≤ (s.length : Int)) then (bif decide (L.length + 1 ≤ lim) then goSp s (L ++ [pcS s f i]) (w64 (i + 1)) (w64 (i + 1)) else none) else none
theorem turnSp (s : List UInt8) (L : List (List UInt8)) (f i : Int) : (turn (E0 B) (Cx B lib9) noL 121 sgSp bSp [.str s, .slw 0, i64 f, i64 i] [ssb L]).sel =
    bif decide (i ≤ (s.length : Int)) then (bif decide (i = (s.length : Int)) then apSp s L f i else bif inS s i then (bif decide (chS s i = 32) then apSp s L f i else goSp s L f (w64 (i + 1))) else none) else exSp L := by kernel_rfl
def okSp (s : List UInt8) (L : List (List UInt8)) (f i : Int) : Bool := decide (0 ≤ f ∧ f ≤ i ∧ i ≤ (s.length : Int) ∧ s.length ≤ 1000 ∧ (L.length : Int) ≤ i)
def spSp : LSpec
  | [.str s, .slw 0, .int .i64 f, .int .i64 i], [⟨true, .strs L⟩] => .node (okSp s L f i) (.leaf (.exit 0, ⟨[.slw 0], [ssb (L ++ addP (pcS s f i) (spl (s.drop i.toNat)))]⟩)) .bad
  | _, _ => .bad
theorem addP_ne {p : List UInt8} {c : UInt8} {s : List UInt8} (h : (c == 32) = false) : addP p (spl (c :: s)) = addP (p ++ [c]) (spl s) := by
  rw [spl_cons, h, cond_false, spl_hd_tl s]
  simp [addP]
theorem loopSp (hB : Laid B) : LoopOk (E0 B) 121 sgSp bSp spSp := by
  refine loop_turns (C := Cx B lib9) (L := noL) (cxOk (lib9_ok hB)) (noL_ok _) fun vs bs e o h => ?_
  unfold spSp at h
  split at h
  · rename_i s f i L
    rcases T.node_sel h with ⟨hc, h2⟩ | ⟨_, h2⟩
    · obtain ⟨h0, h1, h3, h4, h5⟩ := of_decide_eq_true hc
      simp only [T.sel, Option.some.injEq, Prod.mk.injEq] at h2
      obtain ⟨rfl, rfl⟩ := h2
      clear hc h
      generalize hr : s.drop i.toNat = r
      have hap : ∀ (L : List (List UInt8)) (f i : Int), 0 ≤ f → f ≤ i → i ≤ (s.length : Int) → (L.length : Int) ≤ i → apSp s L f i = goSp s (L ++ [pcS s f i]) (i + 1) (i + 1) := fun L f i h0 h1 h3 h5 => by
        unfold apSp
        rw [decide_eq_true (show 0 ≤ f ∧ f ≤ i ∧ i ≤ (s.length : Int) from ⟨h0, h1, h3⟩), decide_eq_true (show L.length + 1 ≤ lim from by simp only [lim]; omega), w64_next (by omega) (by simp only [lim]; omega)]; rfl
      induction r generalizing L f i with
      | nil =>
        have hend : i = (s.length : Int) := by have := List.drop_eq_nil_iff.1 hr; omega
        have ht := turnSp (B := B) s L f i
        rw [decide_eq_true h3, decide_eq_true hend, hap L f i h0 h1 h3 h5] at ht
        refine ⟨2, turns_more ht (turns_done ((turnSp s _ (i + 1) (i + 1)).trans ?_) (by simp))⟩
        rw [decide_eq_false (show ¬ i + 1 ≤ (s.length : Int) by omega), show addP (pcS s f i) (spl []) = [pcS s f i] by simp [addP, spl]]
        rfl
      | cons c r ih =>
        obtain ⟨d1, d2, d3, d4⟩ := drop_in (by omega) hr
        have ht := turnSp (B := B) s L f i
        rw [decide_eq_true h3, decide_eq_false (show ¬ i = (s.length : Int) by omega), d4, d2, hap L f i h0 h1 h3 h5, w64_next (by omega) (by simp only [lim]; omega)] at ht
        simp only [cond_true, cond_false] at ht
        have hcc : decide ((c.toNat : Int) = 32) = (c == 32) := by
          rw [Bool.eq_iff_iff]
          simp only [decide_eq_true_eq, beq_iff_eq]
          constructor
          · intro h; apply UInt8.toNat_inj.1; rw [show (32 : UInt8).toNat = 32 from rfl]; omega
          · intro h; rw [h]; rfl
        rw [hcc] at ht
        cases hb : c == 32 with
        | true =>
          rw [hb] at ht
          obtain ⟨k, hk⟩ := ih (i + 1) (i + 1) (L ++ [pcS s f i]) (by omega) (Int.le_refl _) (by omega) (by simp only [List.length_append, List.length_cons, List.length_nil]; omega) d3
          refine ⟨k + 1, turns_more ht (hk.trans ?_)⟩
          have e1 : pcS s (i + 1) (i + 1) = [] := by
            unfold pcS
            rw [List.drop_eq_nil_iff, List.length_take]; omega
          have e2 : addP (pcS s f i) (spl (c :: r)) = pcS s f i :: spl r := by
            rw [spl_cons, hb]; simp [addP]
          rw [e1, addP_nil, e2]
          simp
        | false =>
          rw [hb] at ht
          obtain ⟨k, hk⟩ := ih f (i + 1) L h0 (by omega) (by omega) (by omega) d3
          refine ⟨k + 1, turns_more ht (hk.trans ?_)⟩
          have e1 : pcS s f (i + 1) = pcS s f i ++ [c] := by
            unfold pcS
            have hlt : i.toNat < s.length := by omega
            have e3 : s[i.toNat]? = some c := by rw [← List.head?_drop, hr]; rfl
            rw [show (i + 1).toNat = i.toNat + 1 from by omega, List.take_add_one, e3, List.drop_append_of_le_length (by rw [List.length_take]; omega)]
            rfl
          rw [e1, addP_ne hb]
    · simp [T.sel] at h2
  · simp [T.sel] at h
noncomputable def eSp : LEnt := { id := 4, n := 121, sg := sgSp, wr := writes bSp, s := spSp }
/-- loops by contract, the others turn by turn -/
noncomputable abbrev runM (B : Nat → Option Obj) (l : Tb) (ls : List LEnt) (fn : Func) (vs : List AV) (bs : List Blk) : Option Out := (fnRun (E0 B) (Cx B l) (loopL (E0 B) (inlL (E0 B) (Cx B l) 450) ls) fn (bodyC fn) vs bs).sel
theorem fnM {l : Tb} (h : TbOk B l) {ls : List LEnt} {f : FuncId} {fn : Func} (h1 : Tryd.prog.funcs[f]? = some fn) (h2 : fn.body = some (bodyC fn)) (h3 : (fn.name == "runtime.NumGoroutine") = false)
    (hl : ∀ x ∈ ls, ∃ b, EntFits (E0 B) (bodyC fn) x b) {s : FSpec} (hspec : ∀ vs bs r, (s vs bs).sel = some r → runM B l ls fn vs bs = some r) : FnOk (E0 B) f s :=
  fn_ok h1 h2 h3 (cxOk h) (loopL_fits hl fun c => inl_ok (cxOk h) 450 c) hspec
def finM (s : List UInt8) (m : Msg) : Option Out := bif !validM m then oO msg0 12 else bif rngM m then (bif !decide (writ m = s) then oO msg0 12 else oO m 0) else none
def stB (L : List (List UInt8)) (i : Int) (k : Int → Option Out) : Option Out :=
  bif decide (0 ≤ i ∧ i < (L.length : Int)) then (bif decide (i.toNat < L.length) then (bif decide ((L.getD i.toNat []).length ≤ lim) then k (numV (L.getD i.toNat [])) else none) else none) else none
def ltB (L : List (List UInt8)) (i : Int) : Bool := decide (i < (L.length : Int))
def lpB (L : List (List UInt8)) (K : Int → Int → Int → Int → Int → Option Out) : Option Out :=
  bif ltB L 1 then (stB L 1 fun a => bif ltB L 2 then (stB L 2 fun b => bif ltB L 3 then (stB L 3 fun c => bif ltB L 4 then (stB L 4 fun d => bif ltB L 5 then (stB L 5 fun e => bif ltB L 6 then K a b c d e else K a b c d e) else K a b c d 0) else K a b c 0 0) else K a b 0 0 0) else K a 0 0 0 0) else K 0 0 0 0 0
def swB (s : List UInt8) (L : List (List UInt8)) (a b c d e : Int) : Option Out :=
  bif decide ((0 : Int) ≤ 0 ∧ 0 < (L.length : Int)) then (bif decide ((0 : Int).toNat < L.length) then
    (bif decide (L.getD (0 : Int).toNat [] = wRecord) then finM s ⟨1, a, b, c, 0, 0, 0, 0, 0, 0⟩ else bif decide (L.getD (0 : Int).toNat [] = wLate) then finM s ⟨4, a, b, c, 0, 0, 0, 0, 0, 0⟩ else
      bif decide (L.getD (0 : Int).toNat [] = wMark) then finM s ⟨2, 0, 0, 0, a, 0, 0, 0, 0, 0⟩ else bif decide (L.getD (0 : Int).toNat [] = wRow) then finM s ⟨3, 0, 0, 0, 0, a, b, c, d, e⟩ else finM s msg0) else none) else none
def lS (s : List UInt8) : List (List UInt8) := [] ++ addP (pcS s 0 0) (spl (s.drop (0 : Int).toNat))
theorem tReadR (s : List UInt8) : runM B lib9 [eSp] Tryd.f19 [.str s] [] = bif okSp s [] 0 0 then lpB (lS s) (swB s (lS s)) else none := by kernel_rfl
theorem lS_is (s : List UInt8) : lS s = spl s := by
  unfold lS
  have : pcS s 0 0 = [] := by simp [pcS]
  rw [this, show (0 : Int).toNat = 0 from rfl, List.drop_zero, addP_nil]; rfl
theorem nR_0 {L : List (List UInt8)} {i : Nat} (h : ¬ i < L.length) : nR L i = 0 := by unfold nR; rw [decide_eq_false h]; rfl
theorem lpB_is {L : List (List UInt8)} (hs : ∀ a ∈ L, a.length ≤ lim) (K : Int → Int → Int → Int → Int → Option Out) : lpB L K = K (nR L 1) (nR L 2) (nR L 3) (nR L 4) (nR L 5) := by
  have st : ∀ (i : Nat) k, i < L.length → stB L (i : Int) k = k (nR L i) := fun i k h => by
    unfold stB nR
    rw [decide_eq_true (show (0 : Int) ≤ (i : Int) ∧ (i : Int) < (L.length : Int) from ⟨by omega, by omega⟩), show ((i : Int)).toNat = i from by omega, decide_eq_true h]
    simp only [cond_true]
    have : (L.getD i []).length ≤ lim := by
      rw [show L.getD i [] = L[i] by simp [List.getD, h]]
      exact hs _ (List.getElem_mem h)
    rw [decide_eq_true this]; rfl
  have lt : ∀ i : Nat, ltB L (i : Int) = decide (i < L.length) := fun i => by
    unfold ltB
    by_cases h : i < L.length
    · rw [decide_eq_true h, decide_eq_true (show (i : Int) < (L.length : Int) by omega)]
    · rw [decide_eq_false h, decide_eq_false (show ¬ (i : Int) < (L.length : Int) by omega)]
  have l1 := lt 1; have l2 := lt 2; have l3 := lt 3; have l4 := lt 4; have l5 := lt 5; have l6 := lt 6
  have s1 := st 1; have s2 := st 2; have s3 := st 3; have s4 := st 4; have s5 := st 5
  simp only [Int.cast_ofNat_Int] at l1 l2 l3 l4 l5 l6 s1 s2 s3 s4 s5
  unfold lpB
  rw [l1]
  by_cases h1 : 1 < L.length
  · rw [decide_eq_true h1, cond_true, s1 _ h1, l2]
    by_cases h2 : 2 < L.length
    · rw [decide_eq_true h2, cond_true, s2 _ h2, l3]
      by_cases h3 : 3 < L.length
      · rw [decide_eq_true h3, cond_true, s3 _ h3, l4]
        by_cases h4 : 4 < L.length
        · rw [decide_eq_true h4, cond_true, s4 _ h4, l5]
          by_cases h5 : 5 < L.length
          · rw [decide_eq_true h5, cond_true, s5 _ h5, l6]
            cases decide (6 < L.length) <;> rfl
          · rw [decide_eq_false h5, cond_false, nR_0 h5]
        · rw [decide_eq_false h4, cond_false, nR_0 h4, nR_0 (i := 5) (by omega)]
      · rw [decide_eq_false h3, cond_false, nR_0 h3, nR_0 (i := 4) (by omega), nR_0 (i := 5) (by omega)]
    · rw [decide_eq_false h2, cond_false, nR_0 h2, nR_0 (i := 3) (by omega), nR_0 (i := 4) (by omega), nR_0 (i := 5) (by omega)]
  · rw [decide_eq_false h1, cond_false, nR_0 h1, nR_0 (i := 2) (by omega), nR_0 (i := 3) (by omega), nR_0 (i := 4) (by omega), nR_0 (i := 5) (by omega)]
theorem finM_is {s : List UInt8} {m : Msg} (hr : rngM m = true) : finM s m = oO (bif validM m && decide (writ m = s) then m else msg0) (bif validM m && decide (writ m = s) then 0 else 12) := by
  unfold finM
  rw [hr]
  cases validM m <;> cases decide (writ m = s) <;> rfl
theorem readR_is {s : List UInt8} (hs : s.length ≤ 1000) : runM B lib9 [eSp] Tryd.f19 [.str s] [] = oO (readM s) (readE s) := by
  refine (tReadR s).trans ?_
  have hne : 0 < (spl s).length := List.length_pos_iff.2 (spl_ne s)
  have hsh : ∀ a ∈ spl s, a.length ≤ lim := fun a ha => by have := spl_short s a ha; simp only [lim]; omega
  rw [show okSp s [] 0 0 = true from decide_eq_true ⟨Int.le_refl _, Int.le_refl _, by omega, hs, Int.le_refl _⟩, lS_is, lpB_is hsh, cond_true]
  unfold swB
  rw [decide_eq_true (show (0 : Int) ≤ 0 ∧ 0 < ((spl s).length : Int) from ⟨Int.le_refl _, by omega⟩), decide_eq_true (show (0 : Int).toNat < (spl s).length from hne), show (spl s).getD (0 : Int).toNat [] = hd s from hdS_is s]
  simp only [cond_true]
  obtain ⟨e1, e2⟩ := ref_read s
  rw [← e1, ← e2]
  have fin : ∀ m, mR s = m → finM s m = oO (bif okR s then mR s else msg0) (bif okR s then 0 else 12) := fun m h => by
    rw [← h, finM_is (mR_rng s)]; rfl
  have hm : mR s = bif decide (kindW (hd s) = 0) then msg0 else mkM (kindW (hd s)) fun i => nR (spl s) (i + 1) := rfl
  unfold kindW at hm
  by_cases w1 : hd s = wRecord
  · rw [decide_eq_true w1] at hm ⊢
    exact fin _ hm
  by_cases w2 : hd s = wLate
  · rw [decide_eq_false w1, decide_eq_true w2] at hm ⊢
    exact fin _ hm
  by_cases w3 : hd s = wMark
  · rw [decide_eq_false w1, decide_eq_false w2, decide_eq_true w3] at hm ⊢
    exact fin _ hm
  by_cases w4 : hd s = wRow
  · rw [decide_eq_false w1, decide_eq_false w2, decide_eq_false w3, decide_eq_true w4] at hm ⊢
    exact fin _ hm
  · rw [decide_eq_false w1, decide_eq_false w2, decide_eq_false w3, decide_eq_false w4] at hm ⊢
    exact fin _ hm
def sReadR : FSpec
  | [.str s], [] => .node (decide (s.length ≤ 1000)) (.leaf ⟨[(readM s).av, i64 (readE s)], []⟩) .bad
  | _, _ => .bad
theorem okReadR (hB : Laid B) : FnOk (E0 B) 19 sReadR := by
  refine fnM (lib9_ok hB) (ls := [eSp]) Tryd.func19 (by kernel_rfl) (by kernel_rfl) (fun x hx => ?_) fun vs bs r h => ?_
  · simp only [List.mem_singleton] at hx; subst hx
    exact ⟨bSp, by kernel_rfl, rfl, loopSp hB⟩
  unfold sReadR at h
  split at h
  · rename_i s
    rcases T.node_sel h with ⟨hc, h2⟩ | ⟨_, h2⟩
    · simp only [T.sel, Option.some.injEq] at h2; subst h2
      exact readR_is (of_decide_eq_true hc)
    · simp [T.sel] at h2
  · simp [T.sel] at h
noncomputable def lib10 : Tb := (19, [], sReadR) :: lib9
theorem lib10_ok (hB : Laid B) : TbOk B lib10 := (lib9_ok hB).add (okReadR hB)
/-! MessageReads -/
theorem tReads (s : List UInt8) : runT B lib10 Tryd.f4 [.str s] [] =
    bif decide ((200 : Int) < (s.length : Int)) then rb true else bif decide (s.length ≤ lim) then (bif decide (s.length ≤ 1000) then (bif eqM (readM s) (readM s) then rb (decide (readE s = readE s)) else rb false) else none) else none := by kernel_rfl
theorem reads_true (s : List UInt8) : runT B lib10 Tryd.f4 [.str s] [] = rb true := by
  refine (tReads s).trans ?_
  by_cases h4 : (200 : Int) < (s.length : Int)
  · rw [decide_eq_true h4]; rfl
  · rw [decide_eq_false h4, decide_eq_true (show s.length ≤ lim from by simp only [lim]; omega), decide_eq_true (show s.length ≤ 1000 from by omega), eqM_is]
    simp
def sReads (_ : Nat → Option Obj) : FSpec
  | [.str _], [] => .leaf ⟨[.bool true], []⟩
  | _, _ => .bad
theorem okReads (hB : Laid B) : FnOk (E0 B) 4 (sReads B) := by
  refine fnT (lib10_ok hB) Tryd.func4 (by kernel_rfl) (by kernel_rfl) fun vs bs r h => ?_
  unfold sReads at h
  split at h
  · simp only [T.sel, Option.some.injEq] at h; subst h; exact reads_true _
  · simp [T.sel] at h
end Go.Proofs.YtbjokogmfllcdaaDoor
