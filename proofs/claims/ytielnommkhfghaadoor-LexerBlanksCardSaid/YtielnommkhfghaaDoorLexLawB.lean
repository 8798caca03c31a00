/-
  LexerBlanks: what the law answers.
-/
import Derived.Test.YtielnommkhfghaaDoorLexLawJ
namespace Go.Proofs.YtielnommkhfghaaDoor
open Go.Am
set_option maxRecDepth 100000
variable {B : Nat → Option Obj}
def bwR (b : Bool) : UInt8 := bif b then 32 else 10
noncomputable def bBl : Code := loopAt 6 (loopsOf (bodyC Tryd.f6))
def sgBl : LSig := { cs := [(1, 42)], mv := [(10, 0), (11, 0)], mo := [(10, 0)], take := [] }
def blc (l : List Bool) : Blk := ⟨false, .bools l⟩
def atB {α : Type} (i : Int) (L : List Bool) (r : Option α) : Option α :=
  bif decide (0 ≤ i ∧ i < (L.length : Int)) then (bif decide (i.toNat < L.length) then r else none) else none
theorem turnBl (L : List Bool) (g : List UInt8) (i : Int) : (turn (E0 B) (Cx B lib14) noL 131 sgBl bBl [.slw 0, .str g, i64 i] [blc L]).sel =
    bif decide (i < (L.length : Int)) then atB i L (bif L.getD i.toNat false then (bif decide (g.length + 1 ≤ lim) then some (.normal, ⟨[.slw 0, .str (g ++ [32]), i64 (wr (i + 1))], [blc L]⟩) else none) else
      (bif decide (g.length + 1 ≤ lim) then some (.normal, ⟨[.slw 0, .str (g ++ [10]), i64 (wr (i + 1))], [blc L]⟩) else none)) else some (.exit 0, ⟨[.str g], []⟩) := by kernel_rfl
def gapOf (L : List Bool) : List UInt8 := L.map bwR
def spBl : LSpec
  | [.slw 0, .str g, .int .i64 i], [⟨false, .bools L⟩] => .node (decide (0 ≤ i ∧ i ≤ (L.length : Int) ∧ (L.length : Int) ≤ 1000 ∧ (g.length : Int) ≤ i)) (.leaf (.exit 0, ⟨[.str (g ++ gapOf (L.drop i.toNat))], []⟩)) .bad
  | _, _ => .bad
noncomputable def eBl : LEnt := { id := 6, n := 131, sg := sgBl, wr := writes bBl, s := spBl }
def blT (s g : List UInt8) (c : Int) : Option Out :=
  bif decide (c < 0) then rb false else bif decide ((s.length : Int) < c) then rb false else bif sL s 0 c then (bif decide ((s.take c.toNat).length + g.length ≤ lim) then (bif decide (0 ≤ c ∧ c ≤ (s.length : Int)) then
    (bif decide ((s.take c.toNat ++ g).length + (s.drop c.toNat).length ≤ lim) then (bif decide (lexE ((s.take c.toNat ++ g) ++ s.drop c.toNat) = 0) then (bif decide ((lexL s).length ≤ 1000) then
      (bif eqK (lexL s) (lexL ((s.take c.toNat ++ g) ++ s.drop c.toNat)) then rb true else rb false) else none) else rb false) else none) else none) else none) else none
def blM (s g x : List UInt8) (a : Int) : Option Out :=
  bif !decide (lexE x = lexE s) then rb false else bif decide ((lexL s).length ≤ 1000) then (bif !eqK (lexL s) (lexL x) then rb false else
    bif !decide (lexE s = 0) then (bif decide (lexN x = wr (lexN s + (g.length : Int))) then (bif decide (((lexL s).length : Int) = 0) then rb true else rb false) else rb false) else
    bif decide (((lexL s).length : Int) = 0) then rb true else bif decide (((lexL s).length : Int) = 0) then none else atT (a.tmod ((lexL s).length : Int)) (lexL s) (blT s g (gT (lexL s) (a.tmod ((lexL s).length : Int))).pos)) else none
theorem tBlanks (s : List UInt8) (l : List Bool) (a : Int) : runL B lib14 [eBl] Tryd.f6 [.str s, .slw 0, i64 a] [blc l] =
    bif decide ((300 : Int) < (s.length : Int)) then rb true else bif decide ((20 : Int) < (l.length : Int)) then rb true else bif decide (a < 0) then rb true else
      bif decide (0 ≤ (0 : Int) ∧ (0 : Int) ≤ (l.length : Int) ∧ (l.length : Int) ≤ 1000 ∧ (([] : List UInt8).length : Int) ≤ 0) then (bif decide ((gapOf l).length + s.length ≤ lim) then (bif decide ((gapOf l ++ s).length + (gapOf l).length ≤ lim) then
        blM s (gapOf l) ((gapOf l ++ s) ++ gapOf l) a else none) else none) else none := by kernel_rfl
theorem lexL_ok {s : List UInt8} (h : ¬ (400 : Int) < (s.length : Int)) (he : (lx s 0 0).e = 0) : lexE s = 0 ∧ lexL s = (lx s 0 0).l := by
  have h1 : lexE s = 0 := by unfold lexE; rw [lexA_is h]; exact he
  refine ⟨h1, ?_⟩
  unfold lexL
  rw [decide_eq_true h1, lexA_is h]; rfl
theorem gap_blank (l : List Bool) : blanks (gapOf l) := by
  intro c hc
  obtain ⟨b, _, rfl⟩ := List.mem_map.1 hc
  cases b <;> decide
theorem gap_len (l : List Bool) : (gapOf l).length = l.length := by unfold gapOf; simp
theorem lexN_le {s : List UInt8} (h : ¬ (400 : Int) < (s.length : Int)) : 0 ≤ lexN s ∧ lexN s ≤ (s.length : Int) := by
  unfold lexN
  rw [lexA_is h]
  by_cases he : (lx s 0 0).e = 0
  · rw [lx_end s 0 0 he]; omega
  · obtain ⟨p, q, h1, h2, _⟩ := lx_error s 0 0 he
    rw [h2, h1, List.length_append]; omega
theorem around {s g : List UInt8} (hg : blanks g) (h : (s.length : Int) + 2 * (g.length : Int) ≤ 400) : lexE ((g ++ s) ++ g) = lexE s ∧ (lexL ((g ++ s) ++ g)).map Tok.kt = (lexL s).map Tok.kt ∧ (lexE s ≠ 0 → lexN ((g ++ s) ++ g) = lexN s + (g.length : Int)) := by
  have hs : ¬ (400 : Int) < (s.length : Int) := by omega
  have hx : ¬ (400 : Int) < ((((g ++ s) ++ g).length : Nat) : Int) := by simp only [List.length_append]; omega
  have e1 : lx ((g ++ s) ++ g) 0 0 = lx (s ++ g) (0 + (g.length : Int)) 0 := by rw [List.append_assoc, lx_skip g hg]
  obtain ⟨t1, t2, t3⟩ := lx_tail hg s (0 + (g.length : Int)) 0
  have e2 := lx_shift (g.length : Int) s 0 0
  rw [e2] at t1 t2 t3
  have hE : lexE ((g ++ s) ++ g) = lexE s := by unfold lexE; rw [lexA_is hx, lexA_is hs, e1, t2]
  refine ⟨hE, ?_, fun he => ?_⟩
  · unfold lexL
    rw [hE, lexA_is hx, lexA_is hs, e1, t1]
    cases decide (lexE s = 0)
    · rfl
    · exact kt_at _ _
  · unfold lexN
    rw [lexA_is hx, lexA_is hs, e1]
    unfold lexE at he
    rw [lexA_is hs] at he
    exact t3 he
theorem blanks_true (s : List UInt8) (l : List Bool) (a : Int) : runL B lib14 [eBl] Tryd.f6 [.str s, .slw 0, i64 a] [blc l] = rb true := by
  refine (tBlanks s l a).trans ?_
  by_cases h1 : (300 : Int) < (s.length : Int)
  · rw [decide_eq_true h1]; rfl
  rw [decide_eq_false h1]
  by_cases h2 : (20 : Int) < (l.length : Int)
  · rw [decide_eq_true h2]; rfl
  rw [decide_eq_false h2]
  by_cases h3 : a < 0
  · rw [decide_eq_true h3]; rfl
  have hb := gap_blank l
  have hgl := gap_len l
  rw [decide_eq_false h3, decide_eq_true (show 0 ≤ (0 : Int) ∧ (0 : Int) ≤ (l.length : Int) ∧ (l.length : Int) ≤ 1000 ∧ (([] : List UInt8).length : Int) ≤ 0 from ⟨by omega, by omega, by omega, by simp⟩)]
  generalize gapOf l = g at *
  have hs : ¬ (400 : Int) < (s.length : Int) := by omega
  obtain ⟨x1, x2, x3⟩ := around (s := s) hb (by omega)
  have hL := lexL_len s
  have hN := lexN_le hs
  rw [decide_eq_true (show g.length + s.length ≤ lim from by simp only [lim]; omega), decide_eq_true (show (g ++ s).length + g.length ≤ lim from by simp only [lim, List.length_append]; omega)]
  show blM s g ((g ++ s) ++ g) a = rb true
  unfold blM
  rw [x1, decide_eq_true (rfl : lexE s = lexE s), decide_eq_true (show (lexL s).length ≤ 1000 from by omega), show eqK (lexL s) (lexL ((g ++ s) ++ g)) = true from decide_eq_true x2.symm]
  by_cases he : lexE s = 0
  · rw [decide_eq_true he]
    by_cases h0 : ((lexL s).length : Int) = 0
    · rw [decide_eq_true h0]; rfl
    · rw [decide_eq_false h0]
      have i0 : 0 ≤ a.tmod ((lexL s).length : Int) := Int.tmod_nonneg _ (by omega)
      have i1 : a.tmod ((lexL s).length : Int) < ((lexL s).length : Int) := Int.tmod_lt_of_pos _ (by omega)
      rw [atT_in i0 i1]
      generalize a.tmod ((lexL s).length : Int) = i at *
      have he' : (lx s 0 0).e = 0 := by unfold lexE at he; rw [lexA_is hs] at he; exact he
      obtain ⟨_, hLL⟩ := lexL_ok hs he'
      have hm : gT (lexL s) i ∈ lexL s := by
        unfold gT
        have : i.toNat < (lexL s).length := by omega
        simp [List.getD, this]
      obtain ⟨p1, p2⟩ := lx_pos s 0 0 (gT (lexL s) i) (by rw [← hLL]; exact hm)
      have hins := lx_insert hb s 0 0 (s.take (gT (lexL s) i).pos.toNat) (s.drop (gT (lexL s) i).pos.toNat) (List.take_append_drop _ _).symm ⟨gT (lexL s) i, by rw [← hLL]; exact hm, by rw [List.length_take]; omega⟩ he'
      generalize (gT (lexL s) i).pos = c at *
      have hln : (s.take c.toNat).length + (s.drop c.toNat).length = s.length := by rw [← List.length_append, List.take_append_drop]
      have hy : ¬ (400 : Int) < ((((s.take c.toNat ++ g) ++ s.drop c.toNat).length : Nat) : Int) := by simp only [List.length_append]; omega
      rw [← List.append_assoc] at hins
      obtain ⟨y1, y2⟩ := lexL_ok hy hins.1
      show blT s g c = rb true
      unfold blT
      rw [decide_eq_false (show ¬ c < 0 from by omega), decide_eq_false (show ¬ (s.length : Int) < c from by omega), show sL s 0 c = true from decide_eq_true ⟨by omega, by omega, by omega⟩, decide_eq_true (show (s.take c.toNat).length + g.length ≤ lim from by simp only [lim]; omega),
        decide_eq_true (show 0 ≤ c ∧ c ≤ (s.length : Int) from ⟨by omega, by omega⟩), decide_eq_true (show (s.take c.toNat ++ g).length + (s.drop c.toNat).length ≤ lim from by rw [List.length_append]; simp only [lim]; omega), y1,
        decide_eq_true (show (lexL s).length ≤ 1000 from by omega), show eqK (lexL s) (lexL ((s.take c.toNat ++ g) ++ s.drop c.toNat)) = true from decide_eq_true (by rw [y2, hins.2, hLL])]
      rfl
  · have hL0 : lexL s = [] := by unfold lexL; rw [decide_eq_false he]; rfl
    rw [decide_eq_false he, x3 he, wr_lim (by omega) (by omega), hL0]
    simp
theorem bool_drop {L : List Bool} {i : Int} {t : Bool} {r : List Bool} (h0 : 0 ≤ i) (h : L.drop i.toNat = t :: r) : i < (L.length : Int) ∧ L.getD i.toNat false = t ∧ L.drop (i + 1).toNat = r := by
  have hlt : i.toNat < L.length := by
    rcases Nat.lt_or_ge i.toNat L.length with h1 | h1
    · exact h1
    · rw [List.drop_eq_nil_of_le h1] at h; cases h
  rw [List.drop_eq_getElem_cons hlt] at h
  obtain ⟨e1, e2⟩ := List.cons.inj h
  exact ⟨by omega, by simp [List.getD, hlt, e1], by rw [show (i + 1).toNat = i.toNat + 1 from by omega]; exact e2⟩
theorem loopBl (hB : Laid B) : LoopOk (E0 B) 131 sgBl bBl spBl := by
  refine loop_turns (C := Cx B lib14) (L := noL) (cxOk (lib14_ok hB)) (noL_ok _) fun vs bs e o h => ?_
  unfold spBl at h
  split at h
  · rename_i g i L
    rcases T.node_sel h with ⟨hc, h2⟩ | ⟨_, h2⟩
    · obtain ⟨h0, h1, hl, hg⟩ := of_decide_eq_true hc
      clear h hc
      simp only [T.sel, Option.some.injEq, Prod.mk.injEq] at h2
      obtain ⟨rfl, rfl⟩ := h2
      generalize hr : L.drop i.toNat = r
      induction r generalizing i g with
      | nil =>
        refine ⟨1, turns_done ((turnBl L g i).trans ?_) (by simp)⟩
        have : ¬ i < (L.length : Int) := by have := List.drop_eq_nil_iff.1 hr; omega
        rw [decide_eq_false this]
        simp [gapOf]
      | cons t r ih =>
        obtain ⟨d1, d2, d3⟩ := bool_drop h0 hr
        have ht := turnBl (B := B) L g i
        have hat : ∀ r : Option (AExit × Out), atB i L r = r := fun r => by
          unfold atB
          rw [decide_eq_true (show 0 ≤ i ∧ i < (L.length : Int) from ⟨h0, d1⟩), decide_eq_true (show i.toNat < L.length from by omega)]; rfl
        rw [decide_eq_true d1, cond_true, hat, d2, decide_eq_true (show g.length + 1 ≤ lim from by simp only [lim]; omega), wr_lim (by omega) (by omega)] at ht
        have hn : (turn (E0 B) (Cx B lib14) noL 131 sgBl bBl [.slw 0, .str g, i64 i] [blc L]).sel = some (.normal, ⟨[.slw 0, .str (g ++ [bwR t]), i64 (i + 1)], [blc L]⟩) := by
          rw [ht]; cases t <;> rfl
        obtain ⟨k, hk⟩ := ih (g ++ [bwR t]) (i + 1) (by omega) (by omega) (by simp; omega) d3
        refine ⟨k + 1, (turns_more' hn).trans (hk.trans ?_)⟩
        simp [gapOf]
    · simp [T.sel] at h2
  · simp [T.sel] at h
def sStrBls (_ : Nat → Option Obj) : FSpec
  | [.str _, .slw 0, .int .i64 _], [⟨false, .bools _⟩] => .leaf ⟨[.bool true], []⟩
  | _, _ => .bad
theorem okBlanks (hB : Laid B) : FnOk (E0 B) 6 (sStrBls B) := by
  refine fnL (lib14_ok hB) (ls := [eBl]) Tryd.func6 (by kernel_rfl) (by kernel_rfl) (fun x hx => ?_) fun vs bs r h => ?_
  · simp only [List.mem_singleton] at hx; subst hx
    exact ⟨bBl, by kernel_rfl, rfl, loopBl hB⟩
  · unfold sStrBls at h
    split at h
    · simp only [T.sel, Option.some.injEq] at h; subst h; exact blanks_true _ _ _
    · simp [T.sel] at h
end Go.Proofs.YtielnommkhfghaaDoor
