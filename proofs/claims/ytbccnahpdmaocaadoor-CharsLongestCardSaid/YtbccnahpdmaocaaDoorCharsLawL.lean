/-
  Chars: CharsLongest's runs.
-/
import Derived.Test.YtbccnahpdmaocaaDoorCharsLaw2
import Derived.Test.YtbccnahpdmaocaaDoorCharsPure2
namespace Go.Proofs.YtbccnahpdmaocaaDoor
open Go.Am
set_option maxRecDepth 100000
variable {B : Nat → Option Obj}
theorem okSymK (hB : Laid B) (n : Int) : FnOk (E0 B) 18 (sSymK n) := ⟨(okSymbol hB).1, fun vs bs out h => by
  refine (okSymbol hB).2 vs bs out ?_
  unfold sSymK at h
  split at h
  · rename_i s a
    rcases T.node_sel h with ⟨hc, h2⟩ | ⟨_, h2⟩
    · simp only [T.sel, Option.some.injEq] at h2; subst h2
      simp only [Bool.and_eq_true, decide_eq_true_eq] at hc
      simp [sSym, T.sel, hc.1, hc.2]
    · simp [T.sel] at h2
  · simp [T.sel] at h⟩
noncomputable def libK (n : Int) : List (FuncId × List Nat × FSpec) := [(18, [], sSymK n), (19, [], sTrue), (15, [], sLen), (21, [], sKind)]
theorem libK_ok (hB : Laid B) (n : Int) : ∀ x ∈ libK n, FnOk (E0 B) x.1 x.2.2 := by
  intro x hx
  simp only [libK, List.mem_cons, List.mem_nil_iff, or_false] at hx
  rcases hx with rfl | rfl | rfl | rfl
  · exact okSymK hB n
  · exact okAlive hB
  · exact okLen hB
  · exact okKind
theorem tLong0 (s b : List UInt8) (a : Int) : runT B (libK 0) Tryd.f6 [.str s, .int .i64 a, .str b] [] = earlyL s a b (bif decide (symN s a = 0) && decide (symE s a = 0) then rest0 s a else none) := by kernel_rfl
theorem tLong1 (s b : List UInt8) (a : Int) : runT B (libK 1) Tryd.f6 [.str s, .int .i64 a, .str b] [] = earlyL s a b (bif decide (symN s a = 1) && decide (symE s a = 0) then rest1 s a else none) := by kernel_rfl
theorem tLong2 (s b : List UInt8) (a : Int) : runT B (libK 2) Tryd.f6 [.str s, .int .i64 a, .str b] [] = earlyL s a b (bif decide (symN s a = 2) && decide (symE s a = 0) then rest2 s a b else none) := by kernel_rfl
def sLong (_ : Nat → Option Obj) : FSpec
  | [.str _, .int .i64 _, .str _], [] => .leaf ⟨[.bool true], []⟩
  | _, _ => .bad
theorem sym_in {s : List UInt8} {a : Int} (h0 : 0 ≤ a) (h1 : a ≤ (s.length : Int)) : symN s a = sym0 (s.drop a.toNat) ∧ symE s a = 0 := by
  have : outA s a = false := by unfold outA; rw [decide_eq_false (by omega), decide_eq_false (by omega)]; rfl
  unfold symN symE
  rw [this]; exact ⟨rfl, rfl⟩
theorem okRunK (hB : Laid B) (n : Int) {vs : List AV} {out : Out} (h : runT B (libK n) Tryd.f6 vs [] = some out) : ∀ (w : World) (cargs : List Value) (ps : List Pos), CfgOk (E0 B) w [] ps → VL (psRho ps) vs cargs →
    Calls (E0 B).P 6 cargs.toArray w fun e w' => ∃ cv ps', e = .returned cv ∧ CfgOk (E0 B) w' out.blks ps' ∧ V (psRho ps') (oneOrTup out.vals) cv ∧ Mv w [] ps w' out.blks ps' ∧ ∀ (j : Nat) k, (pers vs [])[j]? = some k → ps'[j]? = ps[k]? :=
  (fn_ok (s := fun vs bs => fnRun (E0 B) (Cx B (libK n)) (inlL (E0 B) (Cx B (libK n)) 300) Tryd.f6 (bodyC Tryd.f6) vs bs) Tryd.func6 (by kernel_rfl) (by kernel_rfl) (cxOk (libK_ok hB n)) (inl_ok (cxOk (libK_ok hB n)) 300 _) fun _ _ _ h => h).2 vs [] out h
theorem okLong (hB : Laid B) : FnOk (E0 B) 6 (sLong B) := by
  refine ⟨fnAt_mk (fn := Tryd.f6) Tryd.func6 (by kernel_rfl) (by kernel_rfl), fun vs bs out h => ?_⟩
  unfold sLong at h
  split at h
  · rename_i s a b
    simp only [T.sel, Option.some.injEq] at h; subst h
    rcases sym_rng (s.drop a.toNat) with hn | hn | hn
    · refine okRunK hB 0 ((tLong0 s b a).trans (early_or fun hl _ h0 h1 => ?_))
      obtain ⟨e1, e2⟩ := sym_in h0 h1
      rw [e1, hn, e2, rest0_true hl h0 h1 hn]; rfl
    · refine okRunK hB 1 ((tLong1 s b a).trans (early_or fun hl _ h0 h1 => ?_))
      obtain ⟨e1, e2⟩ := sym_in h0 h1
      rw [e1, hn, e2, rest1_true hl h0 h1 hn]; rfl
    · refine okRunK hB 2 ((tLong2 s b a).trans (early_or fun hl hb h0 h1 => ?_))
      obtain ⟨e1, e2⟩ := sym_in h0 h1
      rw [e1, hn, e2, rest2_true hl hb h0 h1 hn]; rfl
  · simp [T.sel] at h
end Go.Proofs.YtbccnahpdmaocaaDoor
