/-
  Lexer: Same, Alike by contract; alive.
-/
import Derived.Test.YtielnommkhfghaaDoorLexJoin2
namespace Go.Proofs.YtielnommkhfghaaDoor
open Go.Am
set_option maxRecDepth 100000
variable {B : Nat → Option Obj}
def okSa (L M : List Tok) (i : Int) : Bool := decide (0 ≤ i ∧ i ≤ (L.length : Int) ∧ L.length = M.length ∧ (L.length : Int) ≤ 1000)
def spSa (eq : List Tok → List Tok → Bool) : LSpec
  | [.slw 0, .slw 1, .int .i64 i], [⟨false, .toks L⟩, ⟨false, .toks M⟩] => .node (okSa L M i) (.node (eq (L.drop i.toNat) (M.drop i.toNat)) (.leaf (.exit 0, ⟨[.any], []⟩)) (.leaf (.ret, ⟨[.bool false], []⟩))) .bad
  | _, _ => .bad
def eqS (L M : List Tok) : Bool := decide (L = M)
def eqK (L M : List Tok) : Bool := decide (L.map Tok.kt = M.map Tok.kt)
/-- two lists, element by element -/
theorem loop2 {C : CallR} {n : Nat} {body : Code} {eq : List Tok → List Tok → Bool} {e1 : Tok → Tok → Bool} (hC : CG (E0 B) C) (hn : eq [] [] = true) (hc : ∀ s t l m, eq (s :: l) (t :: m) = (e1 s t && eq l m))
    (ht : ∀ (L M : List Tok) (i : Int), 0 ≤ i → i < (L.length : Int) → i < (M.length : Int) → (turn (E0 B) C noL n sgSa body [.slw 0, .slw 1, i64 i] [tkc L, tkc M]).sel = nSa L M i (!e1 (gT L i) (gT M i)))
    (he : ∀ (L M : List Tok) (i : Int), ¬ i < (L.length : Int) → (turn (E0 B) C noL n sgSa body [.slw 0, .slw 1, i64 i] [tkc L, tkc M]).sel = some (.exit 0, ⟨[.any], []⟩)) : LoopOk (E0 B) n sgSa body (spSa eq) := by
  refine loop_turns (C := C) (L := noL) hC (noL_ok _) fun vs bs e o h => ?_
  unfold spSa at h
  split at h
  · rename_i i L M
    rcases T.node_sel h with ⟨hcc, h2⟩ | ⟨_, h2⟩
    · obtain ⟨h0, h1, hlen, hl⟩ := of_decide_eq_true hcc
      clear h hcc
      generalize hr : L.drop i.toNat = r at h2
      induction r generalizing i with
      | nil =>
        have hm : M.drop i.toNat = [] := List.drop_eq_nil_of_le (by have := List.drop_eq_nil_iff.1 hr; omega)
        rw [hm, hn] at h2
        simp only [T.sel, cond_true, Option.some.injEq, Prod.mk.injEq] at h2
        obtain ⟨rfl, rfl⟩ := h2
        exact ⟨1, turns_done (he L M i (tok_end h0 hr)) (by simp)⟩
      | cons t r ih =>
        obtain ⟨d1, d2, d3, d4⟩ := tok_drop h0 hr
        obtain ⟨u, q, hq⟩ : ∃ u q, M.drop i.toNat = u :: q := by
          cases hq : M.drop i.toNat with
          | nil => have := List.drop_eq_nil_iff.1 hq; omega
          | cons u q => exact ⟨u, q, rfl⟩
        obtain ⟨g1, g2, g3, g4⟩ := tok_drop h0 hq
        have ht := ht L M i h0 d1 g1
        rw [d2, g2] at ht
        rw [hq, hc] at h2
        cases hv : e1 t u with
        | true =>
          rw [hv] at ht h2
          unfold nSa at ht
          rw [wr_lim (by omega) (by omega)] at ht
          obtain ⟨k, hk⟩ := ih (i + 1) (by omega) (by omega) d3 (by rw [g3]; simpa only [Bool.true_and] using h2)
          exact ⟨k + 1, turns_more ht hk⟩
        | false =>
          rw [hv] at ht h2
          simp only [Bool.false_and, T.sel, cond_false, Option.some.injEq, Prod.mk.injEq] at h2
          obtain ⟨rfl, rfl⟩ := h2
          exact ⟨1, turns_done ht (by simp)⟩
    · simp [T.sel] at h2
  · simp [T.sel] at h
theorem loopSa (hB : Laid B) : LoopOk (E0 B) 26 sgSa bSa (spSa eqS) :=
  loop2 (C := Cx B lib12) (e1 := tokEq) (cxOk (lib12_ok hB)) (by decide) (fun s t l m => by unfold eqS; rw [tokEq_is, Bool.eq_iff_iff]; simp)
    (fun L M i h0 h1 h2 => by rw [turnSa, decide_eq_true h1, cond_true, atT_in h0 h1, atT_in h0 h2])
    (fun L M i h => by rw [turnSa, decide_eq_false h]; rfl)
def ktEq (s t : Tok) : Bool := decide (s.kind = t.kind) && decide (s.text = t.text)
theorem loopLi (hB : Laid B) : LoopOk (E0 B) 41 sgSa bLi (spSa eqK) :=
  loop2 (C := Cx B lib12) (e1 := ktEq) (cxOk (lib12_ok hB)) (by decide) (fun s t l m => by
      unfold eqK ktEq Tok.kt
      rw [Bool.eq_iff_iff]; simp)
    (fun L M i h0 h1 h2 => by
      rw [turnLi, decide_eq_true h1, cond_true, atT_in h0 h1, atT_in h0 h2, atT_in h0 h1, atT_in h0 h2]
      unfold ktEq
      cases decide ((gT L i).kind = (gT M i).kind) <;> rfl)
    (fun L M i h => by rw [turnLi, decide_eq_false h]; rfl)
noncomputable def eSa : LEnt := { id := 4, n := 26, sg := sgSa, wr := writes bSa, s := spSa eqS }
noncomputable def eLi : LEnt := { id := 4, n := 41, sg := sgSa, wr := writes bLi, s := spSa eqK }
def same2 (eq : List Tok → List Tok → Bool) (L M : List Tok) : Option Out :=
  bif !decide ((L.length : Int) = (M.length : Int)) then rb false else bif okSa L M 0 then (bif eq L M then rb true else rb false) else none
theorem tSa (L M : List Tok) : runL B lib12 [eSa] Tryd.f18 [.slw 0, .slw 1] [tkc L, tkc M] = same2 eqS L M := by kernel_rfl
theorem tLi (L M : List Tok) : runL B lib12 [eLi] Tryd.f20 [.slw 0, .slw 1] [tkc L, tkc M] = same2 eqK L M := by kernel_rfl
theorem same2_is {eq : List Tok → List Tok → Bool} (h : ∀ L M, L.length ≠ M.length → eq L M = false) {L M : List Tok} (hl : L.length ≤ 1000) : same2 eq L M = rb (eq L M) := by
  unfold same2
  by_cases hq : L.length = M.length
  · have hok : okSa L M 0 = true := decide_eq_true ⟨by omega, by omega, hq, by omega⟩
    rw [decide_eq_true (show (L.length : Int) = (M.length : Int) from by omega), hok]
    cases eq L M <;> rfl
  · rw [decide_eq_false (show ¬ (L.length : Int) = (M.length : Int) from by omega), h L M hq]; rfl
def sSm2 (eq : List Tok → List Tok → Bool) : FSpec
  | [.slw 0, .slw 1], [⟨false, .toks L⟩, ⟨false, .toks M⟩] => .node (decide (L.length ≤ 1000)) (.leaf ⟨[.bool (eq L M)], []⟩) .bad
  | _, _ => .bad
theorem okSameR (hB : Laid B) : FnOk (E0 B) 18 (sSm2 eqS) := by
  refine fnL (lib12_ok hB) (ls := [eSa]) Tryd.func18 (by kernel_rfl) (by kernel_rfl) (fun x hx => ?_) fun vs bs r h => ?_
  · simp only [List.mem_singleton] at hx; subst hx
    exact ⟨bSa, by kernel_rfl, rfl, loopSa hB⟩
  · unfold sSm2 at h
    split at h
    · rename_i L M
      rcases T.node_sel h with ⟨hc, h2⟩ | ⟨_, h2⟩
      · simp only [T.sel, Option.some.injEq] at h2; subst h2
        exact (tSa L M).trans (same2_is (fun L M h => decide_eq_false fun hq => h (congrArg _ hq)) (of_decide_eq_true hc))
      · simp [T.sel] at h2
    · simp [T.sel] at h
theorem okAlike (hB : Laid B) : FnOk (E0 B) 20 (sSm2 eqK) := by
  refine fnL (lib12_ok hB) (ls := [eLi]) Tryd.func20 (by kernel_rfl) (by kernel_rfl) (fun x hx => ?_) fun vs bs r h => ?_
  · simp only [List.mem_singleton] at hx; subst hx
    exact ⟨bLi, by kernel_rfl, rfl, loopLi hB⟩
  · unfold sSm2 at h
    split at h
    · rename_i L M
      rcases T.node_sel h with ⟨hc, h2⟩ | ⟨_, h2⟩
      · simp only [T.sel, Option.some.injEq] at h2; subst h2
        exact (tLi L M).trans (same2_is (fun L M h => decide_eq_false fun hq => h (by have := congrArg List.length hq; simpa using this)) (of_decide_eq_true hc))
      · simp [T.sel] at h2
    · simp [T.sel] at h
noncomputable def lib13 : Tb := (12, [], sJn) :: (17, [], sJn) :: (14, [], sGr) :: (18, [], sSm2 eqS) :: (20, [], sSm2 eqK) :: lib12
theorem lib13_ok (hB : Laid B) : TbOk B lib13 := lib12_ok hB |>.add (okAlike hB) |>.add (okSameR hB) |>.add (okGreat hB) |>.add (okJoinR hB) |>.add (okJoin hB)
theorem tAlive : runT B lib13 Tryd.f13 [] [] = rb true := by kernel_rfl
def sTrue0 : FSpec
  | [], [] => .leaf ⟨[.bool true], []⟩
  | _, _ => .bad
theorem okAlive (hB : Laid B) : FnOk (E0 B) 13 sTrue0 := by
  refine fnT (lib13_ok hB) Tryd.func13 (by kernel_rfl) (by kernel_rfl) fun vs bs r h => ?_
  unfold sTrue0 at h
  split at h
  · simp only [T.sel, Option.some.injEq] at h; subst h; exact tAlive
  · simp [T.sel] at h
noncomputable def lib14 : Tb := (13, [], sTrue0) :: lib13
theorem lib14_ok (hB : Laid B) : TbOk B lib14 := lib13_ok hB |>.add (okAlive hB)
end Go.Proofs.YtielnommkhfghaaDoor
