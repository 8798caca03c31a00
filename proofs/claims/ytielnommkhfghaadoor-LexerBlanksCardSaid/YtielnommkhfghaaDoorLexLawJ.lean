/-
  LexerFinds, LexerJoin: what the laws answer.
-/
import Derived.Test.YtielnommkhfghaaDoorLexSame
namespace Go.Proofs.YtielnommkhfghaaDoor
open Go.Am
set_option maxRecDepth 100000
variable {B : Nat → Option Obj}
theorem tFinds (s : List UInt8) (l : List Tok) : runT B lib14 Tryd.f4 [.str s, .slw 0] [tkc l] =
    bif decide ((1000 : Int) < (s.length : Int)) then rb true else bif greatB 0 l then rb true else bif shortT l then (bif shortT l then (bif decide ((lexL s).length ≤ 1000) then
      chain [eqS (lexL s) (lexL s), decide (lexN s = lexN s), decide (lexE s = lexE s), decide (jS l = jS l)] (rb (decide (jE l = jE l))) else none) else none) else none := by kernel_rfl
theorem great_short : ∀ (l : List Tok) (i : Int), greatB i l = false → shortT l = true
  | [], _, _ => rfl
  | t :: r, i, h => by
    unfold greatB at h
    simp only [Bool.or_eq_false_iff] at h
    have := great_short r (i + 1) h.2.2
    unfold shortT at this ⊢
    have h2 := of_decide_eq_false h.2.1
    rw [List.all_cons, this, Bool.and_true]
    exact decide_eq_true (by omega)
theorem lexL_len (s : List UInt8) : (lexL s).length ≤ 200 := by
  unfold lexL
  by_cases he : lexE s = 0
  · rw [decide_eq_true he, cond_true]
    unfold lexE at he
    by_cases h : (400 : Int) < (s.length : Int)
    · unfold lexA
      rw [decide_eq_true h]; simp
    · rw [lexA_is h]
      have := lx_count s 0 0 (by omega)
      omega
  · rw [decide_eq_false he]; simp
theorem finds_true (s : List UInt8) (l : List Tok) : runT B lib14 Tryd.f4 [.str s, .slw 0] [tkc l] = rb true := by
  refine (tFinds s l).trans ?_
  by_cases h : (1000 : Int) < (s.length : Int)
  · rw [decide_eq_true h]; rfl
  · rw [decide_eq_false h]
    cases hg : greatB 0 l with
    | true => rfl
    | false =>
      have := lexL_len s
      rw [great_short l 0 hg, decide_eq_true (show (lexL s).length ≤ 1000 from by omega)]
      refine (chain_true fun p hp => ?_).trans (by simp)
      simp only [List.mem_cons, List.mem_nil_iff, or_false] at hp
      rcases hp with rfl | rfl | rfl | rfl <;> simp [eqS]
def sStrToks (_ : Nat → Option Obj) : FSpec
  | [.str _, .slw 0], [⟨false, .toks _⟩] => .leaf ⟨[.bool true], []⟩
  | _, _ => .bad
theorem okFinds (hB : Laid B) : FnOk (E0 B) 4 (sStrToks B) := by
  refine fnT (lib14_ok hB) Tryd.func4 (by kernel_rfl) (by kernel_rfl) fun vs bs r h => ?_
  unfold sStrToks at h
  split at h
  · simp only [T.sel, Option.some.injEq] at h; subst h; exact finds_true _ _
  · simp [T.sel] at h
/-! LexerJoin -/
noncomputable def bLj : Code := loopAt 4 (loopsOf (bodyC Tryd.f5))
def sgLj : LSig := { cs := [(0, 28)], mv := [(3, 0)], mo := [(2, 0)], take := [] }
theorem turnLj (L : List Tok) (i : Int) : (turn (E0 B) (Cx B lib14) noL 82 sgLj bLj [.slw 0, i64 i] [tkc L]).sel =
    bif decide (i < (L.length : Int)) then atT i L (bif decide ((gT L i).text.length ≤ 900) then (bif !validB (gT L i) then some (.ret, ⟨[.bool true], []⟩) else some (.normal, ⟨[.slw 0, i64 (wr (i + 1))], [tkc L]⟩)) else none) else some (.exit 0, ⟨[.any], []⟩) := by kernel_rfl
def spLj : LSpec
  | [.slw 0, .int .i64 i], [⟨false, .toks L⟩] => .node (okJa L i) (.node ((L.drop i.toNat).all validB) (.leaf (.exit 0, ⟨[.any], []⟩)) (.leaf (.ret, ⟨[.bool true], []⟩))) .bad
  | _, _ => .bad
theorem loopLj (hB : Laid B) : LoopOk (E0 B) 82 sgLj bLj spLj := by
  refine loop_turns (C := Cx B lib14) (L := noL) (cxOk (lib14_ok hB)) (noL_ok _) fun vs bs e o h => ?_
  unfold spLj at h
  split at h
  · rename_i i L
    rcases T.node_sel h with ⟨hc, h2⟩ | ⟨_, h2⟩
    · simp only [okJa, Bool.and_eq_true, decide_eq_true_eq] at hc
      obtain ⟨⟨h0, h1, hl⟩, hsh⟩ := hc
      clear h
      generalize hr : L.drop i.toNat = r at h2
      induction r generalizing i with
      | nil =>
        simp only [List.all_nil, T.sel, cond_true, Option.some.injEq, Prod.mk.injEq] at h2
        obtain ⟨rfl, rfl⟩ := h2
        refine ⟨1, turns_done ((turnLj L i).trans ?_) (by simp)⟩
        rw [decide_eq_false (tok_end h0 hr)]; rfl
      | cons t r ih =>
        obtain ⟨d1, d2, d3, d4⟩ := tok_drop h0 hr
        have ht := turnLj (B := B) L i
        rw [decide_eq_true d1, cond_true, atT_in h0 d1, d2, decide_eq_true (short_mem hsh d4), wr_lim (by omega) (by omega)] at ht
        cases hv : validB t with
        | true =>
          rw [hv] at ht
          obtain ⟨k, hk⟩ := ih (i + 1) (by omega) (by omega) d3 (by simpa only [List.all_cons, hv, Bool.true_and] using h2)
          exact ⟨k + 1, turns_more ht hk⟩
        | false =>
          rw [hv] at ht
          simp only [List.all_cons, hv, Bool.false_and, T.sel, cond_false, Option.some.injEq, Prod.mk.injEq] at h2
          obtain ⟨rfl, rfl⟩ := h2
          exact ⟨1, turns_done ht (by simp)⟩
    · simp [T.sel] at h2
  · simp [T.sel] at h
noncomputable def eLj : LEnt := { id := 4, n := 82, sg := sgLj, wr := writes bLj, s := spLj }
def jM (l : List Tok) : Option Out :=
  bif !decide (lexE (jS l) = 0) then rb false else bif !decide (lexN (jS l) = ((jS l).length : Int)) then rb false else bif decide (l.length ≤ 1000) then (bif !eqK l (lexL (jS l)) then rb false else
    bif shortT (lexL (jS l)) then (bif decide (jE (lexL (jS l)) = 0) then (bif decide (jS (lexL (jS l)) = jS l) then rb true else rb false) else rb false) else none) else none
theorem tJoin (l : List Tok) : runL B lib14 [eLj] Tryd.f5 [.slw 0] [tkc l] =
    bif greatB 0 l then rb true else bif okJa l 0 then (bif l.all validB then (bif shortT l then (bif !decide (jE l = 0) then
      (bif decide (jE l = 4) then (bif decide (jS l = []) then rb true else rb false) else bif decide (jE l = 18) then (bif decide (jS l = []) then rb true else rb false) else rb false) else jM l) else none) else rb true) else none := by kernel_rfl
theorem great_len : ∀ (l : List Tok) (i : Int), i ≤ 220 → greatB i l = false → i + (l.length : Int) ≤ 220
  | [], i, h, _ => by simpa using h
  | t :: r, i, h, hg => by
    unfold greatB at hg
    simp only [Bool.or_eq_false_iff] at hg
    have h1 := of_decide_eq_false hg.1
    have := great_len r (i + 1) (by omega) hg.2.2
    simp only [List.length_cons]; omega
def ofKt (p : Int × List UInt8) : Bool := decide (tokE p.1 p.2 = 0)
theorem all_kt (l : List Tok) : l.all validB = (l.map Tok.kt).all ofKt := by
  rw [List.all_map]; rfl
theorem txt_kt (l : List Tok) : txt l = (l.map Tok.kt).map (·.2) := by simp [txt, Tok.kt, Function.comp_def]
theorem jE_kt {l m : List Tok} (h : m.map Tok.kt = l.map Tok.kt) : jE m = jE l ∧ jS m = jS l := by
  have h1 : m.length = l.length := by have := congrArg List.length h; simpa using this
  have h2 : m.all validB = l.all validB := by rw [all_kt, all_kt, h]
  have h3 : jT m = jT l := by unfold jT; rw [txt_kt, txt_kt, h]
  have h4 : jE m = jE l := by unfold jE; rw [h1, h2, h3]
  exact ⟨h4, by unfold jS; rw [h4, h3]⟩
theorem join_true (l : List Tok) : runL B lib14 [eLj] Tryd.f5 [.slw 0] [tkc l] = rb true := by
  refine (tJoin l).trans ?_
  cases hg : greatB 0 l with
  | true => rfl
  | false =>
    have hsh := great_short l 0 hg
    have hln := great_len l 0 (by omega) hg
    rw [hsh, show okJa l 0 = true from by unfold okJa; rw [hsh, decide_eq_true (by omega)]; rfl]
    cases hv : l.all validB with
    | false => rfl
    | true =>
      simp only [cond_true, cond_false]
      by_cases he : jE l = 0
      · rw [decide_eq_true he]
        have hjs : jS l = jT l := by unfold jS; rw [decide_eq_true he]; rfl
        have h2 : ¬ (200 : Int) < (l.length : Int) := by
          intro h
          unfold jE at he
          rw [decide_eq_true h] at he; simp at he
        have h4 : ¬ (400 : Int) < ((jT l).length : Int) := by
          intro h
          unfold jE at he
          rw [decide_eq_false h2, hv, decide_eq_true h] at he; simp at he
        obtain ⟨j1, j2⟩ := lx_join l 0 0 (fun t ht => of_decide_eq_true (List.all_eq_true.1 hv t ht)) (by omega)
        have hA : lexA (jT l) = lx (jT l) 0 0 := lexA_is h4
        have j1 : (lx (jT l) 0 0).e = 0 := j1
        have j2 : (lx (jT l) 0 0).l.map Tok.kt = l.map Tok.kt := j2
        have e1 : lexE (jT l) = 0 := by unfold lexE; rw [hA]; exact j1
        have e2 : lexN (jT l) = ((jT l).length : Int) := by unfold lexN; rw [hA, lx_end _ _ _ j1]; omega
        have e3 : lexL (jT l) = (lx (jT l) 0 0).l := by unfold lexL; rw [e1, hA]; rfl
        have e4 : (lexL (jT l)).map Tok.kt = l.map Tok.kt := by rw [e3]; exact j2
        obtain ⟨g1, g2⟩ := jE_kt e4
        have hsh2 : shortT (lexL (jT l)) = true := List.all_eq_true.2 fun t ht => decide_eq_true (by
          rw [e3] at ht
          have := lx_pos _ _ _ t ht
          omega)
        unfold jM
        rw [hjs, e1, e2, decide_eq_true (show l.length ≤ 1000 from by omega), show eqK l (lexL (jT l)) = true from decide_eq_true e4.symm, hsh2, g1, he, g2, hjs]
        simp
      · rw [decide_eq_false he]
        have hjs : jS l = [] := by unfold jS; rw [decide_eq_false he]; rfl
        rw [hjs]
        unfold jE
        rw [hv]
        cases h2 : decide ((200 : Int) < (l.length : Int)) with
        | true => rfl
        | false =>
          cases h4 : decide ((400 : Int) < ((jT l).length : Int)) with
          | true => rfl
          | false =>
            exfalso; apply he
            unfold jE
            rw [hv, h2, h4]; rfl
def sToks (_ : Nat → Option Obj) : FSpec
  | [.slw 0], [⟨false, .toks _⟩] => .leaf ⟨[.bool true], []⟩
  | _, _ => .bad
theorem okJoinL (hB : Laid B) : FnOk (E0 B) 5 (sToks B) := by
  refine fnL (lib14_ok hB) (ls := [eLj]) Tryd.func5 (by kernel_rfl) (by kernel_rfl) (fun x hx => ?_) fun vs bs r h => ?_
  · simp only [List.mem_singleton] at hx; subst hx
    exact ⟨bLj, by kernel_rfl, rfl, loopLj hB⟩
  · unfold sToks at h
    split at h
    · simp only [T.sel, Option.some.injEq] at h; subst h; exact join_true _
    · simp [T.sel] at h
end Go.Proofs.YtielnommkhfghaaDoor
