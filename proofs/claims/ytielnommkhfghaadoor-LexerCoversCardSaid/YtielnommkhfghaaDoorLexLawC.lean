/-
  LexerCovers: what the law answers.
-/
import Derived.Test.YtielnommkhfghaaDoorLexLawJ
namespace Go.Proofs.YtielnommkhfghaaDoor
open Go.Am
set_option maxRecDepth 100000
variable {B : Nat → Option Obj}
noncomputable def dec (p : Prop) : Bool := @decide p (Classical.propDecidable p)
theorem dec_true {p : Prop} (h : p) : dec p = true := @decide_eq_true p (Classical.propDecidable p) h
theorem of_dec {p : Prop} (h : dec p = true) : p := @of_decide_eq_true p (Classical.propDecidable p) h
/-! the gap -/
noncomputable def bCi : Code := loopAt 16 (loopsOf (bodyC Tryd.f7))
def sgCi : LSig := { cs := [(0, 0), (8, 0)], mv := [(9, 0)], mo := [(2, 0)], take := [] }
theorem turnCi (s : List UInt8) (m k : Int) : (turn (E0 B) (Cx B lib14) noL 123 sgCi bCi [.str s, i64 m, i64 k] []).sel =
    bif decide (k < m) then (bif rI s k then (bif !decide (kindN (ch s k) = 1) then some (.ret, ⟨[.bool false], []⟩) else some (.normal, ⟨[.str s, i64 m, i64 (wr (k + 1))], []⟩)) else none) else some (.exit 2, ⟨[.any], []⟩) := by kernel_rfl
noncomputable def okCi (s : List UInt8) (m k : Int) : Bool := dec (0 ≤ k ∧ m ≤ (s.length : Int) ∧ s.length ≤ 1000 ∧ gap s k m)
noncomputable def spCi : LSpec
  | [.str s, .int .i64 m, .int .i64 k], [] => .node (okCi s m k) (.leaf (.exit 2, ⟨[.any], []⟩)) .bad
  | _, _ => .bad
theorem loopCi (hB : Laid B) : LoopOk (E0 B) 123 sgCi bCi spCi := by
  refine loop_turns (C := Cx B lib14) (L := noL) (cxOk (lib14_ok hB)) (noL_ok _) fun vs bs e o h => ?_
  unfold spCi at h
  split at h
  · rename_i s m k
    rcases T.node_sel h with ⟨hc, h2⟩ | ⟨_, h2⟩
    · obtain ⟨h0, h1, hl, hg⟩ := of_dec hc
      simp only [T.sel, Option.some.injEq, Prod.mk.injEq] at h2
      obtain ⟨rfl, rfl⟩ := h2
      clear h hc
      obtain ⟨n, hn⟩ : ∃ n : Nat, (m - k).toNat = n := ⟨_, rfl⟩
      induction n generalizing k with
      | zero =>
        refine ⟨1, turns_done ((turnCi s m k).trans ?_) (by simp)⟩
        rw [decide_eq_false (show ¬ k < m from by omega)]; rfl
      | succ n ih =>
        have ht := turnCi (B := B) s m k
        have h5 : kindN (ch s k) = 1 := hg k (Int.le_refl _) (by omega)
        rw [decide_eq_true (show k < m from by omega), show rI s k = true from decide_eq_true ⟨h0, by omega⟩, decide_eq_true h5, wr_lim (by omega) (by omega)] at ht
        obtain ⟨q, hq⟩ := ih (k + 1) (by omega) (fun j hj1 hj2 => hg j (by omega) hj2) (by omega)
        exact ⟨q + 1, turns_more ht hq⟩
    · simp [T.sel] at h2
  · simp [T.sel] at h
noncomputable def eCi : LEnt := { id := 16, n := 123, sg := sgCi, wr := writes bCi, s := spCi }
/-! the tokens -/
noncomputable def bCo : Code := loopAt 8 (loopsOf (bodyC Tryd.f7))
def sgCo : LSig := { cs := [(0, 0), (3, 28)], mv := [(6, 0), (7, 0)], mo := [(2, 0)], take := [] }
def reF : Option (AExit × Out) := some (.ret, ⟨[.bool false], []⟩)
def exC : Option (AExit × Out) := some (.exit 0, ⟨[.any], []⟩)
def coB (s : List UInt8) (L : List Tok) (nx : Int) (a i : Int) : Option (AExit × Out) :=
  bif decide ((s.length : Int) < a) then reF else bif sL s nx a then atT i L (bif !decide (cut s nx a = (gT L i).text) then reF else atT i L (bif decide ((gT L i).text.length ≤ 900) then (bif !validB (gT L i) then reF else
    some (.normal, ⟨[.str s, .slw 0, i64 a, i64 (wr (i + 1))], [tkc L]⟩)) else none)) else none
noncomputable def coA (s : List UInt8) (L : List Tok) (nx : Int) (a i : Int) : Option (AExit × Out) :=
  bif decide (nx < a) then reF else bif decide ((s.length : Int) < nx) then reF else bif okCi s nx a then (bif decide ((L.length : Int) ≤ i) then exC else atT i L (coB s L nx (wr (nx + ((gT L i).text.length : Int))) i)) else none
theorem turnCo (s : List UInt8) (L : List Tok) (a i : Int) : (turn (E0 B) (Cx B lib14) (loopL (E0 B) noL [eCi]) 123 sgCo bCo [.str s, .slw 0, i64 a, i64 i] [tkc L]).sel =
    bif decide (i ≤ (L.length : Int)) then (bif decide (i < (L.length : Int)) then atT i L (coA s L (gT L i).pos a i) else coA s L (s.length : Int) a i) else exC := by kernel_rfl
noncomputable def okCo (s : List UInt8) (L : List Tok) (a i : Int) : Bool := dec (0 ≤ a ∧ s.length ≤ 1000 ∧ 0 ≤ i ∧ i ≤ (L.length : Int) ∧ L.length ≤ 200 ∧ shortT L = true ∧ covS s a (L.drop i.toNat))
noncomputable def spCo : LSpec
  | [.str s, .slw 0, .int .i64 a, .int .i64 i], [⟨false, .toks L⟩] => .node (okCo s L a i) (.leaf (.exit 0, ⟨[.any], []⟩)) .bad
  | _, _ => .bad
theorem innerOk (hB : Laid B) : LoopsOk (E0 B) (loopL (E0 B) noL [eCi]) bCo :=
  loopL_fits (fun x hx => by
    simp only [List.mem_singleton] at hx; subst hx
    exact ⟨bCi, by kernel_rfl, rfl, loopCi hB⟩) noL_ok
theorem loopCo (hB : Laid B) : LoopOk (E0 B) 123 sgCo bCo spCo := by
  refine loop_turns (C := Cx B lib14) (L := loopL (E0 B) noL [eCi]) (cxOk (lib14_ok hB)) (innerOk hB) fun vs bs e o h => ?_
  unfold spCo at h
  split at h
  · rename_i s a i L
    rcases T.node_sel h with ⟨hc, h2⟩ | ⟨_, h2⟩
    · obtain ⟨ha, hl, h0, h1, hL, hsh, hcov⟩ := of_dec hc
      simp only [T.sel, Option.some.injEq, Prod.mk.injEq] at h2
      obtain ⟨rfl, rfl⟩ := h2
      clear h hc
      generalize hr : L.drop i.toNat = r at hcov
      induction r generalizing a i with
      | nil =>
        obtain ⟨c1, c2⟩ := hcov
        have he := tok_end h0 hr
        refine ⟨1, turns_done ((turnCo s L a i).trans ?_) (by simp)⟩
        rw [decide_eq_true h1, decide_eq_false he]
        unfold coA
        rw [decide_eq_false (show ¬ (s.length : Int) < a from by omega), decide_eq_false (show ¬ (s.length : Int) < (s.length : Int) from by omega), show okCi s (s.length : Int) a = true from dec_true ⟨ha, by omega, hl, c2⟩, decide_eq_true (show (L.length : Int) ≤ i from by omega)]
        rfl
      | cons t r ih =>
        obtain ⟨c1, c2, c3, c4, c5, c6⟩ := hcov
        obtain ⟨d1, d2, d3, d4⟩ := tok_drop h0 hr
        have ht := turnCo (B := B) s L a i
        have hsm := short_mem hsh d4
        rw [decide_eq_true h1, decide_eq_true d1, cond_true, cond_true, atT_in h0 d1, d2] at ht
        unfold coA coB at ht
        rw [decide_eq_false (show ¬ t.pos < a from by omega), decide_eq_false (show ¬ (s.length : Int) < t.pos from by omega), show okCi s t.pos a = true from dec_true ⟨ha, by omega, hl, c2⟩, decide_eq_false (show ¬ (L.length : Int) ≤ i from by omega), cond_false, cond_false, cond_true, cond_false,
          atT_in h0 d1, d2, wr_lim (by omega) (by omega), decide_eq_false (show ¬ (s.length : Int) < t.pos + (t.text.length : Int) from by omega), show sL s t.pos (t.pos + (t.text.length : Int)) = true from decide_eq_true ⟨by omega, by omega, by omega⟩, cond_false, cond_true,
          atT_in h0 d1, c4, decide_eq_true (rfl : t.text = t.text), atT_in h0 d1, decide_eq_true hsm, show validB t = true from decide_eq_true c5, wr_lim (by omega) (by omega)] at ht
        obtain ⟨k, hk⟩ := ih (t.pos + (t.text.length : Int)) (i + 1) (by omega) (by omega) (by omega) d3 c6
        exact ⟨k + 1, turns_more ht hk⟩
    · simp [T.sel] at h2
  · simp [T.sel] at h
noncomputable def eCo : LEnt := { id := 8, n := 123, sg := sgCo, wr := writes bCo, s := spCo }
theorem tCovers (s : List UInt8) : runL B lib14 [eCo] Tryd.f7 [.str s] [] =
    bif decide ((1000 : Int) < (s.length : Int)) then rb true else bif !decide (lexE s = 0) then
      (bif decide (((lexL s).length : Int) = 0) then (bif decide (0 ≤ lexN s) then (bif decide (lexN s < (s.length : Int)) then rb true else bif decide ((400 : Int) < (s.length : Int)) then rb true else rb false) else rb false) else rb false) else
      bif okCo s (lexL s) 0 0 then (bif decide (lexN s = (s.length : Int)) then rb true else rb false) else none := by kernel_rfl
theorem covers_true (s : List UInt8) : runL B lib14 [eCo] Tryd.f7 [.str s] [] = rb true := by
  refine (tCovers s).trans ?_
  by_cases h1 : (1000 : Int) < (s.length : Int)
  · rw [decide_eq_true h1]; rfl
  rw [decide_eq_false h1]
  by_cases h4 : (400 : Int) < (s.length : Int)
  · have e1 : lexE s = 4 := by unfold lexE lexA; rw [decide_eq_true h4]; rfl
    have e2 : lexN s = 0 := by unfold lexN lexA; rw [decide_eq_true h4]; rfl
    have e3 : lexL s = [] := by unfold lexL; rw [e1]; rfl
    rw [e1, e2, e3, decide_eq_true (show (0 : Int) < (s.length : Int) from by omega)]; rfl
  by_cases he : lexE s = 0
  · have he' : (lx s 0 0).e = 0 := by unfold lexE at he; rw [lexA_is h4] at he; exact he
    have hn : lexN s = (s.length : Int) := by unfold lexN; rw [lexA_is h4, lx_end s 0 0 he']; omega
    have hLe : lexL s = (lx s 0 0).l := by unfold lexL; rw [he, lexA_is h4]; rfl
    have hcov := lx_cov s (s.drop (0 : Int).toNat) 0 0 0 (Int.le_refl _) (Int.le_refl _) (by omega) rfl (fun k hk1 hk2 => by omega) he'
    have hok : okCo s (lexL s) 0 0 = true := dec_true ⟨by omega, by omega, by omega, by omega, lexL_len s, List.all_eq_true.2 fun t ht => decide_eq_true (by
      rw [hLe] at ht
      have := lx_pos _ _ _ t ht
      omega), by rw [hLe]; exact hcov⟩
    rw [he, hok, hn]; simp
  · obtain ⟨p, q, g1, g2, ⟨c, x, g3, _⟩, _⟩ := lx_error s 0 0 (by unfold lexE at he; rw [lexA_is h4] at he; exact he)
    have hn : lexN s = (p.length : Int) := by unfold lexN; rw [lexA_is h4, g2]; omega
    have hlen : s.length = p.length + (x.length + 1) := by rw [g1, g3, List.length_append, List.length_cons]
    have e3 : lexL s = [] := by unfold lexL; rw [decide_eq_false he]; rfl
    rw [decide_eq_false he, e3, hn, decide_eq_true (show (0 : Int) ≤ (p.length : Int) from by omega), decide_eq_true (show (p.length : Int) < (s.length : Int) from by omega)]; rfl
def sStrC (_ : Nat → Option Obj) : FSpec
  | [.str _], [] => .leaf ⟨[.bool true], []⟩
  | _, _ => .bad
theorem okCovers (hB : Laid B) : FnOk (E0 B) 7 (sStrC B) := by
  refine fnL (lib14_ok hB) (ls := [eCo]) Tryd.func7 (by kernel_rfl) (by kernel_rfl) (fun x hx => ?_) fun vs bs r h => ?_
  · simp only [List.mem_singleton] at hx; subst hx
    exact ⟨bCo, by kernel_rfl, rfl, loopCo hB⟩
  · unfold sStrC at h
    split at h
    · simp only [T.sel, Option.some.injEq] at h; subst h; exact covers_true _
    · simp [T.sel] at h
end Go.Proofs.YtielnommkhfghaaDoor
