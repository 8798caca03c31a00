/-
  LexerNames, LexerError: what the laws answer.
-/
import Derived.Test.YtielnommkhfghaaDoorLexSame
namespace Go.Proofs.YtielnommkhfghaaDoor
open Go.Am
set_option maxRecDepth 100000
variable {B : Nat → Option Obj}
theorem tNames : runT B lib14 Tryd.f3 [] [] = rb true := by kernel_rfl
theorem okNames (hB : Laid B) : FnOk (E0 B) 3 sTrue0 := by
  refine fnT (lib14_ok hB) Tryd.func3 (by kernel_rfl) (by kernel_rfl) fun vs bs r h => ?_
  unfold sTrue0 at h
  split at h
  · simp only [T.sel, Option.some.injEq] at h; subst h; exact tNames
  · simp [T.sel] at h
/-! LexerError -/
def errA (s : List UInt8) : Option Out := bif decide ((s.length : Int) ≤ 400) then rb true else bif decide (lexE s = 4) then (bif decide (lexN s = 0) then (bif decide (((lexL s).length : Int) = 0) then rb true else rb false) else rb false) else rb false
def errM (s : List UInt8) : Option Out :=
  bif sL s 0 (lexN s) then (bif decide (0 ≤ lexN s ∧ lexN s ≤ (s.length : Int)) then (bif !decide (lexE (s.take (lexN s).toNat) = 0) then rb false else bif !decide (lexN (s.take (lexN s).toNat) = lexN s) then rb false else
    bif decide (lexE s = 4) then rb true else bif decide (lexE (s.drop (lexN s).toNat) = lexE s) then (bif decide (lexN (s.drop (lexN s).toNat) = 0) then rb true else rb false) else rb false) else none) else none
theorem tError (s : List UInt8) : runT B lib14 Tryd.f8 [.str s] [] =
    bif decide ((400 : Int) < (s.length : Int)) then errA s else bif decide (lexE s = 0) then errA s else bif decide (lexN s < 0) then rb false else bif decide ((s.length : Int) ≤ lexN s) then rb false else
      bif rI s (lexN s) then (bif decide (kindN (ch s (lexN s)) = 1) then rb false else errM s) else none := by kernel_rfl
theorem error_true (s : List UInt8) : runT B lib14 Tryd.f8 [.str s] [] = rb true := by
  refine (tError s).trans ?_
  by_cases h4 : (400 : Int) < (s.length : Int)
  · rw [decide_eq_true h4]
    unfold errA lexL lexE lexN lexA
    rw [decide_eq_true h4, decide_eq_false (show ¬ (s.length : Int) ≤ 400 from by omega)]; rfl
  · rw [decide_eq_false h4]
    by_cases h0 : lexE s = 0
    · rw [decide_eq_true h0]
      unfold errA
      rw [decide_eq_true (show (s.length : Int) ≤ 400 from by omega)]; rfl
    · rw [decide_eq_false h0]
      have hA := lexA_is h4
      have h0' : (lx s 0 0).e ≠ 0 := by unfold lexE at h0; rw [hA] at h0; exact h0
      obtain ⟨p, q, h1, h2, ⟨c, x, hq, hc⟩, h3, h5, h6⟩ := lx_error s 0 0 h0'
      have hn : lexN s = (p.length : Int) := by unfold lexN; rw [hA, h2]; omega
      have hlen : s.length = p.length + (x.length + 1) := by rw [h1, hq, List.length_append, List.length_cons]
      have htk : s.take p.length = p := by rw [h1]; simp
      have hdr : s.drop p.length = q := by rw [h1]; simp
      have hch : ch s (p.length : Int) = (c.toNat : Int) := (drop_cons' (s := s) (i := (p.length : Int)) (by omega) (by rw [show ((p.length : Int)).toNat = p.length from by omega, hdr, hq])).2.1
      have hp4 : ¬ (400 : Int) < (p.length : Int) := by omega
      have hq4 : ¬ (400 : Int) < (q.length : Int) := by rw [hq, List.length_cons]; omega
      have e1 : lexE p = 0 := by unfold lexE; rw [lexA_is hp4]; exact h5
      have e2 : lexN p = (p.length : Int) := by unfold lexN; rw [lexA_is hp4, h6]; omega
      rw [hn, decide_eq_false (show ¬ (p.length : Int) < 0 from by omega), decide_eq_false (show ¬ (s.length : Int) ≤ (p.length : Int) from by omega), show rI s (p.length : Int) = true from decide_eq_true ⟨by omega, by omega⟩, hch,
        decide_eq_false (show ¬ kindN (c.toNat : Int) = 1 from hc)]
      unfold errM
      rw [hn, show sL s 0 (p.length : Int) = true from decide_eq_true ⟨by omega, by omega, by omega⟩, decide_eq_true (show 0 ≤ (p.length : Int) ∧ (p.length : Int) ≤ (s.length : Int) from ⟨by omega, by omega⟩),
        show ((p.length : Int)).toNat = p.length from by omega, htk, hdr, e1, e2]
      simp only [decide_true, Bool.not_true, cond_true, cond_false]
      by_cases he : lexE s = 4
      · rw [decide_eq_true he]; rfl
      · rw [decide_eq_false he]
        have hs : (lx s 0 0).e = lexE s := by unfold lexE; rw [hA]
        have hf : tkF q = lexE s := by
          rcases h3 with h3 | h3
          · rw [hs] at h3; exact (he h3).elim
          · rw [h3, hs]
        have hl : lx q 0 0 = ⟨[], 0, tkF q⟩ := by
          rw [hq] at hf ⊢
          exact lx_bad hc (by decide) (by rw [hf]; exact h0)
        have e3 : lexE q = lexE s := by rw [← hf]; unfold lexE; rw [lexA_is hq4, hl]
        have e4 : lexN q = 0 := by unfold lexN; rw [lexA_is hq4, hl]
        rw [e3, e4]
        simp
def sStr (_ : Nat → Option Obj) : FSpec
  | [.str _], [] => .leaf ⟨[.bool true], []⟩
  | _, _ => .bad
theorem okError (hB : Laid B) : FnOk (E0 B) 8 (sStr B) := by
  refine fnT (lib14_ok hB) Tryd.func8 (by kernel_rfl) (by kernel_rfl) fun vs bs r h => ?_
  unfold sStr at h
  split at h
  · simp only [T.sel, Option.some.injEq] at h; subst h; exact error_true _
  · simp [T.sel] at h
end Go.Proofs.YtielnommkhfghaaDoor
