/-
  Lexer: Join, the reference's Join, Same, Alike, Great by contract.
-/
import Derived.Test.YtielnommkhfghaaDoorLexJoin
namespace Go.Proofs.YtielnommkhfghaaDoor
open Go.Am
set_option maxRecDepth 100000
variable {B : Nat → Option Obj}
/-! Join -/
def okJn (L : List Tok) (n i : Int) (X : List (List UInt8)) : Bool := decide (n = (L.length : Int) ∧ 0 ≤ i ∧ i ≤ n ∧ n ≤ 1000 ∧ (X.length : Int) ≤ i + 1000) && shortT L
def spJn : LSpec
  | [.slw 0, .int .i64 n, .int .i64 i, .slw 1], [⟨false, .toks L⟩, ⟨true, .strs X⟩] => .node (okJn L n i X) (.node ((L.drop i.toNat).all validB) (.leaf (.exit 0, ⟨[.any, .any, .slw 0], [stb (X ++ txt (L.drop i.toNat))]⟩))
      (.leaf (.ret, ⟨[.str [], i64 8, .slw 0], [stb (X ++ txt ((L.drop i.toNat).takeWhile validB))]⟩))) .bad
  | _, _ => .bad
theorem loopJn (hB : Laid B) : LoopOk (E0 B) 32 sgJn bJn spJn := by
  refine loop_turns (C := Cx B lib11) (L := noL) (cxOk (lib11_ok hB)) (noL_ok _) fun vs bs e o h => ?_
  unfold spJn at h
  split at h
  · rename_i n i L X
    rcases T.node_sel h with ⟨hc, h2⟩ | ⟨_, h2⟩
    · simp only [okJn, Bool.and_eq_true, decide_eq_true_eq] at hc
      obtain ⟨⟨hn, h0, h1, hl, hX⟩, hsh⟩ := hc
      subst hn
      clear h
      generalize hr : L.drop i.toNat = r at h2
      induction r generalizing i X with
      | nil =>
        simp only [List.all_nil, T.sel, cond_true, Option.some.injEq, Prod.mk.injEq] at h2
        obtain ⟨rfl, rfl⟩ := h2
        refine ⟨1, turns_done ((turnJn L _ i X).trans ?_) (by simp)⟩
        rw [decide_eq_false (tok_end h0 hr)]
        simp [txt]
      | cons t r ih =>
        obtain ⟨d1, d2, d3, d4⟩ := tok_drop h0 hr
        have ht := turnJn (B := B) L (L.length : Int) i X
        have hm := short_mem hsh d4
        rw [decide_eq_true d1, cond_true, atT_in h0 d1, d2, decide_eq_true (show t.text.length ≤ lim from by simp only [lim]; omega), decide_eq_true (show X.length + 1 ≤ lim from by simp only [lim]; omega), wr_lim (by omega) (by omega)] at ht
        cases hv : validB t with
        | true =>
          rw [show decide (tokE t.kind t.text = 0) = true from hv] at ht
          obtain ⟨k, hk⟩ := ih (X := X ++ [t.text]) (i + 1) (by omega) (by simp; omega) (by omega) d3 (by
            simp only [List.all_cons, hv, Bool.true_and, List.takeWhile_cons, if_true] at h2
            simp only [txt, List.map_cons] at h2
            simp only [txt, List.append_assoc, List.singleton_append]
            exact h2)
          exact ⟨k + 1, turns_more ht hk⟩
        | false =>
          rw [show decide (tokE t.kind t.text = 0) = false from hv] at ht
          simp only [List.all_cons, hv, Bool.false_and, List.takeWhile_cons, Bool.false_eq_true, if_false, T.sel, cond_false, Option.some.injEq, Prod.mk.injEq] at h2
          obtain ⟨rfl, rfl⟩ := h2
          refine ⟨1, turns_done (ht.trans ?_) (by simp)⟩
          simp [txt]
    · simp [T.sel] at h2
  · simp [T.sel] at h
noncomputable def eJn : LEnt := { id := 5, n := 32, sg := sgJn, wr := writes bJn, s := spJn }
def so (s : List UInt8) (e : Int) : Option Out := some ⟨[.str s, i64 e], []⟩
theorem tJn (L : List Tok) : runL B lib12 [eJn] Tryd.f12 [.slw 0] [tkc L] =
    bif decide ((200 : Int) < (L.length : Int)) then so [] 4 else bif okJn L (L.length : Int) 0 [] then (bif L.all validB then (bif decide ((txt L).length ≤ lim ∧ (Lib.join (txt L) [32]).length ≤ lim) then
      (bif decide ((400 : Int) < ((Lib.join (txt L) [32]).length : Int)) then so [] 18 else so (Lib.join (txt L) [32]) 0) else none) else so [] 8) else none := by kernel_rfl
def sJn : FSpec
  | [.slw 0], [⟨false, .toks L⟩] => .node (shortT L) (.leaf ⟨[.str (jS L), i64 (jE L)], []⟩) .bad
  | _, _ => .bad
theorem txt_len (L : List Tok) : (txt L).length = L.length := by unfold txt; simp
theorem okJoin (hB : Laid B) : FnOk (E0 B) 12 sJn := by
  refine fnL (lib12_ok hB) (ls := [eJn]) Tryd.func12 (by kernel_rfl) (by kernel_rfl) (fun x hx => ?_) fun vs bs r h => ?_
  · simp only [List.mem_singleton] at hx; subst hx
    exact ⟨bJn, by kernel_rfl, rfl, loopJn hB⟩
  · unfold sJn at h
    split at h
    · rename_i L
      rcases T.node_sel h with ⟨hc, h2⟩ | ⟨_, h2⟩
      · simp only [T.sel, Option.some.injEq] at h2; subst h2
        refine (tJn L).trans ?_
        unfold jS jE
        rw [joinT_is]
        by_cases h4 : (200 : Int) < (L.length : Int)
        · rw [decide_eq_true h4]; rfl
        · have hj := jT_len hc
          have hok : okJn L (L.length : Int) 0 [] = true := by
            unfold okJn
            rw [hc, decide_eq_true (by refine ⟨rfl, by omega, by omega, by omega, by simp⟩)]; rfl
          have e : joinT (txt L) = jT L := rfl
          rw [decide_eq_false h4, hok, e, decide_eq_true (show (txt L).length ≤ lim ∧ (jT L).length ≤ lim from by rw [txt_len]; simp only [lim]; omega)]
          cases L.all validB <;> cases decide ((400 : Int) < ((jT L).length : Int)) <;> rfl
      · simp [T.sel] at h2
    · simp [T.sel] at h
/-! the reference's Join -/
def okJa (L : List Tok) (i : Int) : Bool := decide (0 ≤ i ∧ i ≤ (L.length : Int) ∧ (L.length : Int) ≤ 1000) && shortT L
def spJa : LSpec
  | [.slw 0, .int .i64 i], [⟨false, .toks L⟩] => .node (okJa L i) (.node ((L.drop i.toNat).all validB) (.leaf (.exit 0, ⟨[.any, .any], []⟩)) (.leaf (.ret, ⟨[.str [], i64 8], []⟩))) .bad
  | _, _ => .bad
theorem loopJa (hB : Laid B) : LoopOk (E0 B) 43 sgJa bJa spJa := by
  refine loop_turns (C := Cx B lib12) (L := noL) (cxOk (lib12_ok hB)) (noL_ok _) fun vs bs e o h => ?_
  unfold spJa at h
  split at h
  · rename_i i L
    rcases T.node_sel h with ⟨hc, h2⟩ | ⟨_, h2⟩
    · simp only [okJa, Bool.and_eq_true, decide_eq_true_eq] at hc
      obtain ⟨⟨h0, h1, hl⟩, hsh⟩ := hc
      clear h
      generalize hr : L.drop i.toNat = r at h2
      induction r generalizing i with
      | nil =>
        simp only [List.all_nil, T.sel, cond_true, Option.some.injEq, Prod.mk.injEq] at h2
        obtain ⟨rfl, rfl⟩ := h2
        refine ⟨1, turns_done ((turnJa L i).trans ?_) (by simp)⟩
        rw [decide_eq_false (tok_end h0 hr)]; rfl
      | cons t r ih =>
        obtain ⟨d1, d2, d3, d4⟩ := tok_drop h0 hr
        have ht := turnJa (B := B) L i
        rw [decide_eq_true d1, cond_true, atT_in h0 d1, d2, decide_eq_true (short_mem hsh d4), wr_lim (by omega) (by omega)] at ht
        cases hv : validB t with
        | true =>
          rw [hv] at ht
          obtain ⟨k, hk⟩ := ih (i + 1) (by omega) (by omega) d3 (by simpa only [List.all_cons, hv, Bool.true_and] using h2)
          exact ⟨k + 1, turns_more ht hk⟩
        | false =>
          rw [hv] at ht
          simp only [List.all_cons, hv, Bool.false_and, T.sel, cond_false, Option.some.injEq, Prod.mk.injEq] at h2
          obtain ⟨rfl, rfl⟩ := h2
          exact ⟨1, turns_done ht (by simp)⟩
    · simp [T.sel] at h2
  · simp [T.sel] at h
def okJb (L : List Tok) (s : List UInt8) (i : Int) : Bool := decide (0 ≤ i ∧ i ≤ (L.length : Int) ∧ (L.length : Int) ≤ 1000 ∧ (s.length : Int) ≤ 1000 * i) && shortT L
def spJb : LSpec
  | [.slw 0, .str s, .int .i64 i], [⟨false, .toks L⟩] => .node (okJb L s i) (.leaf (.exit 2, ⟨[.str (jbS (decide (0 < i)) s (txt (L.drop i.toNat)))], []⟩)) .bad
  | _, _ => .bad
theorem loopJb (hB : Laid B) : LoopOk (E0 B) 43 sgJb bJb spJb := by
  refine loop_turns (C := Cx B lib12) (L := noL) (cxOk (lib12_ok hB)) (noL_ok _) fun vs bs e o h => ?_
  unfold spJb at h
  split at h
  · rename_i s i L
    rcases T.node_sel h with ⟨hc, h2⟩ | ⟨_, h2⟩
    · simp only [okJb, Bool.and_eq_true, decide_eq_true_eq] at hc
      obtain ⟨⟨h0, h1, hl, hs⟩, hsh⟩ := hc
      clear h
      simp only [T.sel, Option.some.injEq, Prod.mk.injEq] at h2
      obtain ⟨rfl, rfl⟩ := h2
      generalize hr : L.drop i.toNat = r
      induction r generalizing i s with
      | nil =>
        refine ⟨1, turns_done ((turnJb L s i).trans ?_) (by simp)⟩
        rw [decide_eq_false (tok_end h0 hr)]
        unfold jbS
        cases decide (0 < i) <;> simp [txt, joinT, Lib.joinTail]
      | cons t r ih =>
        obtain ⟨d1, d2, d3, d4⟩ := tok_drop h0 hr
        have hm := short_mem hsh d4
        have ht := turnJb (B := B) L s i
        have e1 : s.length + 1 ≤ lim := by simp only [lim]; omega
        have e2 : (s ++ [32]).length + t.text.length ≤ lim := by simp only [lim, List.length_append, List.length_cons, List.length_nil]; omega
        have e3 : s.length + t.text.length ≤ lim := by simp only [lim]; omega
        have hn : (turn (E0 B) (Cx B lib12) noL 43 sgJb bJb [.slw 0, .str s, i64 i] [tkc L]).sel = some (.normal, ⟨[.slw 0, .str ((bif decide (0 < i) then s ++ [32] else s) ++ t.text), i64 (i + 1)], [tkc L]⟩) := by
          rw [ht, decide_eq_true d1, cond_true, decide_eq_true e1]
          unfold nJb
          rw [atT_in h0 d1, atT_in h0 d1, d2, decide_eq_true e2, decide_eq_true e3, wr_lim (by omega) (by omega)]
          cases decide (0 < i) <;> rfl
        obtain ⟨k, hk⟩ := ih ((bif decide (0 < i) then s ++ [32] else s) ++ t.text) (i + 1) (by omega) (by omega) (by cases decide (0 < i) <;> simp <;> omega) d3
        refine ⟨k + 1, (turns_more' hn).trans (hk.trans ?_)⟩
        rw [show txt (t :: r) = t.text :: txt r from rfl, jbS_cons, decide_eq_true (show 0 < i + 1 from by omega)]
    · simp [T.sel] at h2
  · simp [T.sel] at h
noncomputable def eJa : LEnt := { id := 5, n := 43, sg := sgJa, wr := writes bJa, s := spJa }
noncomputable def eJb : LEnt := { id := 10, n := 43, sg := sgJb, wr := writes bJb, s := spJb }
theorem tJr (L : List Tok) : runL B lib12 [eJa, eJb] Tryd.f17 [.slw 0] [tkc L] =
    bif decide ((200 : Int) < (L.length : Int)) then so [] 4 else bif okJa L 0 then (bif L.all validB then (bif okJb L [] 0 then
      (bif decide ((400 : Int) < ((jT L).length : Int)) then so [] 18 else so (jT L) 0) else none) else so [] 8) else none := by kernel_rfl
theorem okJoinR (hB : Laid B) : FnOk (E0 B) 17 sJn := by
  refine fnL (lib12_ok hB) (ls := [eJa, eJb]) Tryd.func17 (by kernel_rfl) (by kernel_rfl) (fun x hx => ?_) fun vs bs r h => ?_
  · simp only [List.mem_cons, List.mem_nil_iff, or_false] at hx
    rcases hx with rfl | rfl
    · exact ⟨bJa, by kernel_rfl, rfl, loopJa hB⟩
    · exact ⟨bJb, by kernel_rfl, rfl, loopJb hB⟩
  · unfold sJn at h
    split at h
    · rename_i L
      rcases T.node_sel h with ⟨hc, h2⟩ | ⟨_, h2⟩
      · simp only [T.sel, Option.some.injEq] at h2; subst h2
        refine (tJr L).trans ?_
        unfold jS jE
        by_cases h4 : (200 : Int) < (L.length : Int)
        · rw [decide_eq_true h4]; rfl
        · have hok : okJa L 0 = true := by
            unfold okJa
            rw [hc, decide_eq_true (by omega)]; rfl
          have hok2 : okJb L [] 0 = true := by
            unfold okJb
            rw [hc, decide_eq_true (by refine ⟨by omega, by omega, by omega, by simp⟩)]; rfl
          rw [decide_eq_false h4, hok, hok2]
          cases L.all validB <;> cases decide ((400 : Int) < ((jT L).length : Int)) <;> rfl
      · simp [T.sel] at h2
    · simp [T.sel] at h
/-! Great -/
def spGr : LSpec
  | [.slw 0, .int .i64 i], [⟨false, .toks L⟩] => .node (decide (0 ≤ i ∧ i ≤ (L.length : Int) ∧ i ≤ 220)) (.node (greatB i (L.drop i.toNat)) (.leaf (.ret, ⟨[.bool true], []⟩)) (.leaf (.exit 0, ⟨[.any], []⟩))) .bad
  | _, _ => .bad
theorem loopGr (hB : Laid B) : LoopOk (E0 B) 21 sgGr bGr spGr := by
  refine loop_turns (C := Cx B lib12) (L := noL) (cxOk (lib12_ok hB)) (noL_ok _) fun vs bs e o h => ?_
  unfold spGr at h
  split at h
  · rename_i i L
    rcases T.node_sel h with ⟨hc, h2⟩ | ⟨_, h2⟩
    · obtain ⟨h0, h1, hl⟩ := of_decide_eq_true hc
      clear h hc
      generalize hr : L.drop i.toNat = r at h2
      induction r generalizing i with
      | nil =>
        simp only [greatB, T.sel, cond_false, Option.some.injEq, Prod.mk.injEq] at h2
        obtain ⟨rfl, rfl⟩ := h2
        refine ⟨1, turns_done ((turnGr L i).trans ?_) (by simp)⟩
        rw [decide_eq_false (tok_end h0 hr)]; rfl
      | cons t r ih =>
        obtain ⟨d1, d2, d3, d4⟩ := tok_drop h0 hr
        have ht := turnGr (B := B) L i
        rw [decide_eq_true d1, cond_true, atT_in h0 d1, d2, wr_lim (by omega) (by omega)] at ht
        unfold greatB at h2
        by_cases hg : 220 ≤ i
        · rw [decide_eq_true hg] at ht h2
          simp only [Bool.true_or, T.sel, cond_true, Option.some.injEq, Prod.mk.injEq] at h2
          obtain ⟨rfl, rfl⟩ := h2
          exact ⟨1, turns_done ht (by simp)⟩
        · rw [decide_eq_false hg] at ht h2
          by_cases hq : (500 : Int) < (t.text.length : Int)
          · rw [decide_eq_true hq] at ht h2
            simp only [Bool.true_or, Bool.false_or, T.sel, cond_true, Option.some.injEq, Prod.mk.injEq] at h2
            obtain ⟨rfl, rfl⟩ := h2
            exact ⟨1, turns_done ht (by simp)⟩
          · rw [decide_eq_false hq] at ht h2
            obtain ⟨k, hk⟩ := ih (i + 1) (by omega) (by omega) (by omega) d3 (by simpa only [Bool.false_or] using h2)
            exact ⟨k + 1, turns_more ht hk⟩
    · simp [T.sel] at h2
  · simp [T.sel] at h
noncomputable def eGr : LEnt := { id := 2, n := 21, sg := sgGr, wr := writes bGr, s := spGr }
theorem tGr (L : List Tok) : runL B lib12 [eGr] Tryd.f14 [.slw 0] [tkc L] =
    bif decide (0 ≤ (0 : Int) ∧ (0 : Int) ≤ (L.length : Int) ∧ (0 : Int) ≤ 220) then (bif greatB 0 L then rb true else rb false) else none := by kernel_rfl
def sGr : FSpec
  | [.slw 0], [⟨false, .toks L⟩] => .leaf ⟨[.bool (greatB 0 L)], []⟩
  | _, _ => .bad
theorem okGreat (hB : Laid B) : FnOk (E0 B) 14 sGr := by
  refine fnL (lib12_ok hB) (ls := [eGr]) Tryd.func14 (by kernel_rfl) (by kernel_rfl) (fun x hx => ?_) fun vs bs r h => ?_
  · simp only [List.mem_singleton] at hx; subst hx
    exact ⟨bGr, by kernel_rfl, rfl, loopGr hB⟩
  · unfold sGr at h
    split at h
    · rename_i L
      simp only [T.sel, Option.some.injEq] at h; subst h
      refine (tGr L).trans ?_
      rw [decide_eq_true (show 0 ≤ (0 : Int) ∧ (0 : Int) ≤ (L.length : Int) ∧ (0 : Int) ≤ 220 from ⟨by omega, by omega, by omega⟩)]
      cases greatB 0 L <;> rfl
    · simp [T.sel] at h
end Go.Proofs.YtielnommkhfghaaDoor
