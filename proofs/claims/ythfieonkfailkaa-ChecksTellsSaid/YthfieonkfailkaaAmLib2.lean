/-
  AM3: a function of the library that reads a slice and gives plain values; strings.Join.
-/
import Derived.Test.YthfieonkfailkaaPlain
import Derived.Shelf.Strings.OnBuilder
namespace Go.Am
open Go.RowKit

/-- a call that gives plain values, and lays new memory at most -/
theorem fnOk_reads {E : Env} {f : FuncId} {s : FSpec} (hat : ∃ fn c, FnAt E.P f fn c)
    (h : ∀ vs bs out, (s vs bs).sel = some out → pers vs bs = [] ∧ out.blks = [] ∧ ∀ (w : World) (cargs : List Value) (ps : List Pos), CfgOk E w bs ps → VL (psRho ps) vs cargs →
      Calls E.P f cargs.toArray w fun e w' => ∃ cv, e = .returned cv ∧ V (fun _ => none) (oneOrTup out.vals) cv ∧ Below w.heap.size w w') : FnOk E f s := by
  refine ⟨hat, fun vs bs out hsel w cargs ps hc hv => ?_⟩
  obtain ⟨h1, h3, h4⟩ := h vs bs out hsel
  have hg := gok_any hc.g
  refine (h4 w cargs ps hc hv).mono fun e w' ⟨cv, he, hcv, hb⟩ => ⟨cv, [], he, ?_, ?_, ⟨?_, ?_⟩, fun j k hj => ?_⟩
  · rw [h3]
    have hs : Stp (fun _ => False) (fun _ => False) w w' := ⟨ext_below hb, fun _ h => h.elim⟩
    exact cfg_nil (hg.step hs)
  · rw [psRho_nil]; exact hcv
  · rw [h3]
    exact ⟨(ext_below hb).mono fun _ _ h => h.elim, fun k hk => (own_nil k hk).elim⟩
  · intro k x p hk
    rw [h3] at hk; simp at hk
  · rw [h1] at hj; simp at hj
theorem cell_lt {w : World} {a : Addr} {v : Value} (h : w.cell? a = some v) : a.block < w.heap.size := by
  rcases Nat.lt_or_ge a.block w.heap.size with h1 | h1
  · exact h1
  · unfold World.cell? at h
    rw [Array.getElem?_eq_none h1] at h
    simp at h
/-- a told slice of texts -/
theorem strs_of {E : Env} {w : World} {bs : List Blk} {ps : List Pos} (hc : CfgOk E w bs ps) {k : Nat} {o : Bool} {L : List (List UInt8)} (hk : bs[k]? = some ⟨o, .strs L⟩) {v : Value} (hv : V (psRho ps) (.slw k) v) :
    ∃ a c, v = .slice a L.length c ∧ L.length ≤ c ∧ (L ≠ [] → ∃ b off, a = some ⟨b, off, none⟩ ∧ b < w.heap.size ∧ ∀ (j : Nat) (x : List UInt8), L[j]? = some x → w.cell? ⟨b, off + j, none⟩ = some (.string ⟨x.toArray⟩)) := by
  simp only [V] at hv
  obtain ⟨p, hp, hle, a, rfl, ha⟩ := hv
  have hb : blkH bs k = some ⟨o, .strs L⟩ := hk
  obtain ⟨q, hq, hs, hl, hcap, hmax⟩ := hc.sat.pos k _ hb
  rw [hp] at hq; cases hq
  have hs : p.stride = 1 := hs
  have hl : p.len = L.length := hl
  rw [hl]
  refine ⟨a, _, rfl, by omega, fun hne => ?_⟩
  have hpos : 0 < L.length := List.length_pos_iff.2 hne
  have hcells : ∀ (j : Nat) (x : List UInt8), L[j]? = some x → w.cell? ⟨p.block, p.off + j, none⟩ = some (.string ⟨x.toArray⟩) := fun j x hj => by
    have hlt : j < L.length := (List.getElem?_eq_some_iff.1 hj).1
    obtain ⟨c, h1, h2⟩ := hc.sat.cells k _ p hb hp j hlt 0 (.str x) (by simp [Dat.row, List.getD, hj])
    simp only [V] at h2
    subst h2
    simpa [Pos.addr, hs] using h1
  have := ha (by omega)
  simp only [Pos.addr, hs] at this
  refine ⟨p.block, p.off, by rw [this]; simp, ?_, hcells⟩
  obtain ⟨x, hx⟩ : ∃ x, L[0]? = some x := ⟨L[0], List.getElem?_eq_getElem hpos⟩
  exact cell_lt (hcells 0 x hx)

theorem turns_more' {E : Env} {C : CallR} {L : LoopR} {n : Nat} {sg : LSig} {body : Code} {k : Nat} {vs : List AV} {bs : List Blk} {o : Out} (h : (turn E C L n sg body vs bs).sel = some (.normal, o)) :
    (turns E C L n sg body (k + 1) vs bs).sel = (turns E C L n sg body k o.vals o.blks).sel := by
  show ((turn E C L n sg body vs bs).bind _).sel = _
  rw [sel_bind, h]

/-! strings.Join -/
def sJoin : FSpec
  | [.slw 0, .str sep], [⟨_, .strs L⟩] => .node (decide (L.length ≤ lim ∧ (Lib.join L sep).length ≤ lim)) (.leaf ⟨[.str (Lib.join L sep)], []⟩) .bad
  | _, _ => .bad
theorem join_ok {E : Env} {f : FuncId} (hat : ∃ fn c, FnAt E.P f fn c)
    (h0 : ∀ (a : Option Addr) (c : Nat) (sep : ByteArray) (w : World), Calls E.P f #[.slice a 0 c, .string sep] w fun e w' => e = .returned (.string ⟨#[]⟩) ∧ w' = w)
    (h1 : ∀ (b o c : Nat) (xs : List ByteArray) (sep : ByteArray) (w : World), (∀ (j : Nat) x, xs[j]? = some x → w.cell? ⟨b, o + j, none⟩ = some (.string x)) → b < w.heap.size → xs.length ≤ 140737488355328 → xs.length ≤ c →
      (Lib.join (xs.map (·.data.toList)) sep.data.toList).length ≤ 140737488355328 → Calls E.P f #[.slice (some ⟨b, o, none⟩) xs.length c, .string sep] w fun e w' => e = .returned (.string ⟨(Lib.join (xs.map (·.data.toList)) sep.data.toList).toArray⟩) ∧ Below w.heap.size w w') : FnOk E f sJoin := by
  refine fnOk_reads hat fun vs bs out hsel => ?_
  unfold sJoin at hsel
  split at hsel
  · rename_i sep o L
    rcases T.node_sel hsel with ⟨hc, hs2⟩ | ⟨_, hs2⟩
    · obtain ⟨hl, hj⟩ := of_decide_eq_true hc
      simp only [T.sel, Option.some.injEq] at hs2
      subst hs2
      refine ⟨rfl, rfl, fun w cargs ps hcfg hv => ?_⟩
      simp only [VL] at hv
      obtain ⟨v, r, rfl, hv0, v2, r2, rfl, hv2, rfl⟩ := hv
      simp only [V] at hv2
      subst hv2
      obtain ⟨a, c, rfl, hcap, hcell⟩ := strs_of hcfg (k := 0) rfl hv0
      by_cases hL : L = []
      · subst hL
        refine (h0 a c ⟨sep.toArray⟩ w).mono fun e w' ⟨he, hw⟩ => ⟨_, he, ?_, hw ▸ Below.refl _ _⟩
        simp [oneOrTup, V, Lib.join_nil]
      · obtain ⟨b, off, rfl, hb, hcl⟩ := hcell hL
        have e1 : (L.map fun x => (⟨x.toArray⟩ : ByteArray)).map (·.data.toList) = L := by
          simp [Function.comp_def]
        have := h1 b off c (L.map fun x => (⟨x.toArray⟩ : ByteArray)) ⟨sep.toArray⟩ w (fun j x hx => by
          rw [List.getElem?_map, Option.map_eq_some_iff] at hx
          obtain ⟨y, hy, rfl⟩ := hx
          exact hcl j y hy) hb (by rw [List.length_map]; exact Nat.le_trans hl (by decide)) (by rw [List.length_map]; exact hcap) (by rw [e1, bytes_eq]; exact Nat.le_trans hj (by decide))
        rw [e1, bytes_eq, List.length_map] at this
        refine this.mono fun e w' ⟨he, hw⟩ => ⟨_, he, ?_, hw⟩
        simp [oneOrTup, V]
    · simp [T.sel] at hs2
  · simp [T.sel] at hsel
end Go.Am
