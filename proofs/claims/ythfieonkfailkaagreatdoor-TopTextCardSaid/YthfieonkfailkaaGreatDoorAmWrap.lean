/-
  AM3: the wrap of a law that keeps the listed variables and the world's shape; a flat struct among a law's arguments.
-/
import Derived.Test.YthfieonkfailkaaGreatDoorAmArg
import Derived.HandedShaped
import Derived.Handed
import Derived.Shelf.Vars
namespace Go.Am
open Go
section
variable {H : Type} {enc : TypeId × Value → H}
theorem wrap_laid {a : Assume} {C : Checked} {os : Os} {f : FuncId} {fn : Func} {s : ChangeSpec} {conds : List PathCond} {apart fresh handsOn again : Bool} {X : World → Array Value → Prop}
    (hX : ∀ (w w' : World) (args : Array Value), w.heap = w'.heap → X w args → X w' args)
    (own : ownKnob C.prog.godebug = none) (started : os.Started) (noInit : C.prog.inits.idxOf? f = none) (hfn : C.prog.funcs[f]? = some fn)
    (witness : ∃ (w : World) (tape : Tape) (i : Input), w.os = os ∧ (w.forCall tape i).Shaped C.prog ∧ i.vars = [] ∧ Input.okWide C.prog (w.forCall tape i) .any w.heap.size f i ∧
      ((s.pre enc C.prog fn conds apart (w.forCall tape i).memory i.args ∧ X (w.forCall tape i).memory i.args) ∧ sizedMet enc C.prog fn (OpenSpec.ofChange s) apart (w.forCall tape i).memory i.args) ∧ a.holds C.prog (lone (Frame.enter C.prog f i.args .normal) [] (w.forCall tape i)))
    (contract : ∀ (W : World) (base : Nat) (args : Array Value) (ds gs : List (DataW H)) (before : List MemPlace),
      (∀ (j : Nat) t v, fn.params[j]? = some t → args[j]? = some v → Value.okWide C.prog W .any base t v) →
      DataW.Whole enc C.prog fn.params.toList s.vars apart W args.toList ds gs before →
      X W args → W.ShapedOpen C.prog →
      Calls C.prog f args W fun e W' => ∃ v, e = .returned v ∧ s.post enc C.prog fn apart fresh handsOn again W args v W') :
    ReturnsInHanded a C os f .any (fun w args => (s.pre enc C.prog fn conds apart w args ∧ X w args) ∧ sizedMet enc C.prog fn (OpenSpec.ofChange s) apart w args) (s.post enc C.prog fn apart fresh handsOn again) := by
  refine returnsInHanded_of_calls own started noInit witness ?_
  intro w tape i _ hsh _ hok hpre _
  obtain ⟨_, _, _, fn', hfn', _, _, _, _, hval⟩ := hok
  have e : fn' = fn := Option.some.inj (hfn'.symm.trans hfn)
  subst e
  obtain ⟨⟨⟨ds, gs, before, hw, _⟩, hx⟩, _⟩ := hpre
  have hw' := DataW.Whole.of_heap (w' := w.forCall tape i) (by rfl) hw
  refine (contract (w.forCall tape i) w.heap.size i.args ds gs before hval hw' (hX _ _ _ (by rfl) hx) hsh).mono fun e W' ⟨v, he, hp⟩ => ?_
  subst he
  exact ChangeSpec.post_blind hp
end
theorem shaped_size {P : Program} {w : World} (h : w.ShapedOpen P) (g : Nat) (hg : g < P.globals.size) (h0 : (((begin P (fun _ _ => 0) default).world.heap[g]?).bind Obj.row?).isSome = true) : g < w.heap.size := by
  obtain ⟨⟨zero, t⟩, h1⟩ := Option.isSome_iff_exists.1 h0
  obtain ⟨cs, hh, _⟩ := h.1 g zero t hg h1
  rcases Nat.lt_or_ge g w.heap.size with h2 | h2
  · exact h2
  · rw [Array.getElem?_eq_none h2] at hh; cases hh
/-! flat structs -/
inductive CK where
  | int (k : IntKind)
  | bool
  | str
def ckIs (P : Program) (u : TypeId) : CK → Prop
  | .int k => P.underlying u = some (.int k)
  | .bool => P.underlying u = some .bool
  | .str => P.underlying u = some .string
def ckAll (P : Program) : List TypeId → List CK → Prop
  | [], [] => True
  | u :: us, k :: ks => ckIs P u k ∧ ckAll P us ks
  | _, _ => False
def ckAV : List CK → List AV → Prop
  | [], [] => True
  | .int k :: ks, .int k' n :: xs => k' = k ∧ k.has n ∧ ckAV ks xs
  | .bool :: ks, .bool _ :: xs => ckAV ks xs
  | .str :: ks, .str s :: xs => s.length ≤ maxLen ∧ ckAV ks xs
  | _, _ => False
theorem cells_av {P : Program} {w : World} {r : Reach} {base : Nat} : ∀ (K : List CK) (ts : List TypeId) (cs : List Value), ckAll P ts K → cs.length = ts.length →
    (∀ (i : Nat) v u, cs[i]? = some v → ts[i]? = some u → Cell.okWide P w r base u v) → ∃ xs, ckAV K xs ∧ VL (fun _ => none) xs cs
  | [], [], [], _, _, _ => ⟨[], trivial, by simp [VL]⟩
  | [], _ :: _, _, h, _, _ => by cases h
  | _ :: _, [], _, h, _, _ => by simp [ckAll] at h
  | [], [], _ :: _, _, h, _ => by cases h
  | k :: K, t :: ts, [], _, h, _ => by cases h
  | k :: K, t :: ts, c :: cs, h, hl, hc => by
    obtain ⟨xs, h1, h2⟩ := cells_av K ts cs h.2 (by simpa using hl) (fun i v u hi hu => hc (i + 1) v u hi hu)
    have h0 := hc 0 c t rfl rfl
    have hk := h.1
    cases k with
    | int k =>
      simp only [ckIs] at hk
      simp only [Cell.okWide, hk, Cell.ok] at h0
      cases c <;> simp only at h0
      rename_i k' n
      exact ⟨.int k n :: xs, ⟨rfl, h0.2, h1⟩, by simp only [VL, V]; exact ⟨_, _, rfl, by rw [h0.1], h2⟩⟩
    | bool =>
      simp only [ckIs] at hk
      simp only [Cell.okWide, hk, Cell.ok] at h0
      cases c <;> simp only at h0
      rename_i b
      exact ⟨.bool b :: xs, h1, by simp only [VL, V]; exact ⟨_, _, rfl, rfl, h2⟩⟩
    | str =>
      simp only [ckIs] at hk
      simp only [Cell.okWide, hk, Cell.ok] at h0
      cases c <;> simp only at h0
      rename_i s
      refine ⟨.str s.data.toList :: xs, ⟨?_, h1⟩, by simp only [VL, V]; exact ⟨_, _, rfl, by rw [bytes_mk], h2⟩⟩
      have e : (maxLen : Int) = IntKind.i64.max := by decide
      rw [Array.length_toList, show s.data.size = s.size from rfl]
      omega
theorem struct_arg {P : Program} {w : World} {r : Reach} {base : Nat} {t : TypeId} {v : Value} {fs : Array Field} {ts : List TypeId} (K : List CK) (ht : P.underlying t = some (.struct fs)) (hts : P.cellTypes P.depth t = some ts) (hn : P.cellsOf t = ts.length)
    (hK : ckAll P ts K) (hval : Value.okWide P w r base t v) : ∃ xs, ckAV K xs ∧ V (fun _ => none) (.agg xs) v := by
  simp only [Value.okWide, ht] at hval
  obtain ⟨cs, rfl, hs, ts', h1, _, h2⟩ := hval
  rw [hts] at h1
  cases h1
  have hl : cs.size = ts.length := hs.trans hn
  obtain ⟨xs, h3, h4⟩ := cells_av (P := P) (w := w) (r := r) (base := base) K ts cs.toList hK (by simpa using hl) (fun i v u hi hu => by
    obtain ⟨u', hu', hok⟩ := h2 i v (by simpa using hi)
    have hlt : i < ts.length := (List.getElem?_eq_some_iff.1 hu).1
    rw [Nat.mod_eq_of_lt hlt, hu] at hu'
    cases hu'
    exact hok)
  exact ⟨xs, h3, by simp only [V]; exact ⟨_, rfl, h4⟩⟩
end Go.Am
