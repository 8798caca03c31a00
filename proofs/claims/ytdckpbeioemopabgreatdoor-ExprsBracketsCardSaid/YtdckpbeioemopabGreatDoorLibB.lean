/-
  AM3: slices among a law's arguments: what is read there; a law's last step.
-/
import Derived.Test.YtdckpbeioemopabGreatDoorLibA
import Derived.Deep.Slices
import Derived.Carry
namespace Go.Am
open Go.RowKit Go.WideShapes Go.ChangeShapes
section
variable {H : Type} {enc : TypeId × Value → H} {P : Program} {w : World} {base : Nat} {spare : Nat → Bool} {held : Bool}
theorem slice_arg {α : Type} [Inhabited α] (el : α → List AV) (Q : α → Prop) {t e : TypeId} {b0 : Nat} {v : Value} {d : DataW H} {ps : List MemPlace} (ht : P.underlying t = some (.slice e)) (hval : Value.okWide P w .any b0 t v)
    (h : DataW.Trod enc P w base spare held t v d ps)
    (he : ∀ (n : Nat) (cs : List Value) (y : DataW H × List MemPlace), DataW.trod enc P w base spare held n e cs = some y → ∃ x : α, VL (fun _ => none) (el x) cs ∧ Q x) :
    ∃ (L : List α) (p : Pos), V (fun _ => some p) (.slw 0) v ∧ p.stride = P.cellsOf e ∧ p.len = L.length ∧ p.len ≤ p.cap ∧ p.cap ≤ maxLen ∧ (∀ x ∈ L, Q x) ∧
      ∀ i, i < L.length → ∀ j av, (el (L.getD i default))[j]? = some av → ∃ c, w.cell? (p.addr i j) = some c ∧ V (fun _ => none) av c := by
  obtain ⟨a0, len0, cap0, rfl⟩ := okWide_slice ht hval
  obtain ⟨n, hn⟩ := h
  rcases Go.Deep.open_slice ht hn with ⟨hcs, _⟩ | ⟨a, len, cap, m, n', D, Pl, hcs, _, hl, hm, hmm, _, hx⟩
  · simp only [Value.cells, List.cons.injEq, and_true] at hcs
    cases hcs
    refine ⟨[], ⟨0, 0, P.cellsOf e, 0, 0, none⟩, ?_, rfl, rfl, Nat.le_refl _, Nat.zero_le _, fun x hx => (by cases hx), fun i hi => (by simp at hi)⟩
    simp only [V]
    exact ⟨_, rfl, Nat.le_refl _, none, rfl, fun h => absurd h (Nat.lt_irrefl 0)⟩
  · simp only [Value.cells, List.cons.injEq, and_true] at hcs
    cases hcs
    have hsp : a.spot = none := by
      have := hval
      simp only [Value.okWide, ht, Cell.okWide, Cell.ok] at this
      exact this.2.2.2.1
    obtain ⟨b, off, spot⟩ := a
    have hsp : spot = none := hsp
    subst hsp
    have hlm : len0 ≤ m := by rw [hmm]; split <;> omega
    obtain ⟨f, hf⟩ := Go.Deep.choose_lt (α := α) (n := len0) (p := fun i x => Q x ∧ ∀ j av, (el x)[j]? = some av → ∃ c, w.cell? ⟨b, off + i * P.cellsOf e + j, none⟩ = some c ∧ V (fun _ => none) av c) (fun i hi => by
      obtain ⟨cs', h1, h2⟩ := hx i (by omega)
      obtain ⟨x, h3, h4⟩ := he _ _ _ h2
      obtain ⟨_, hlen, hcell⟩ := World.cells?_some h1
      refine ⟨x, h4, fun j av hj => ?_⟩
      obtain ⟨c, h5, h6⟩ := h3.get hj
      have hjl : j < P.cellsOf e := by rw [← hlen]; exact (List.getElem?_eq_some_iff.1 h5).1
      refine ⟨c, ?_, h6⟩
      have := hcell j hjl
      rw [h5, Go.Deep.add_add, add_plain, ← Nat.add_assoc] at this
      exact this)
    refine ⟨(List.range len0).map f, ⟨b, off, P.cellsOf e, len0, cap0, none⟩, ?_, rfl, by simp, hl, hm, fun x hx => ?_, fun i hi j av hj => ?_⟩
    · simp only [V]
      exact ⟨_, rfl, hl, _, rfl, fun _ => by simp [Pos.addr]⟩
    · obtain ⟨i, hi, rfl⟩ := List.mem_map.1 hx
      exact (hf i (List.mem_range.1 hi)).1
    · simp only [List.length_map, List.length_range] at hi
      have e1 : ((List.range len0).map f).getD i default = f i := by simp [List.getD, hi]
      rw [e1] at hj
      exact (hf i hi).2 j av hj
end
theorem cfg_reads {E : Env} {w : World} (hg : GOk E (fun _ => False) w) {bs : List Blk} {ps : List Pos} (hl : ps.length = bs.length) (hfew : bs.length ≤ 1000)
    (h : ∀ (k : Nat) x p, bs[k]? = some x → ps[k]? = some p → x.own = false ∧ RdD w x.dat p) : CfgOk E w bs ps := by
  have hps : ∀ (k : Nat) x, bs[k]? = some x → ∃ p, ps[k]? = some p := fun k x hk => ⟨_, List.getElem?_eq_getElem (by rw [hl]; exact (List.getElem?_eq_some_iff.1 hk).1)⟩
  refine ⟨⟨fun b x hb => ?_, fun b x hb => ?_, fun b x p hb hp => ?_, fun b x p hb ho hp _ => ?_, fun b x p _ _ _ hb ho hp _ _ _ _ _ => ?_⟩, ⟨hg.laid, hg.size, hg.base, ?_⟩, hl, hfew⟩
  · obtain ⟨p, hp⟩ := hps b x hb
    have := (h b x p hb hp).2
    exact ⟨p, hp, this.stride, this.len, this.cap, this.max⟩
  · obtain ⟨p, hp⟩ := hps b x hb
    exact (h b x p hb hp).2.wf
  · intro i hi j av hj
    obtain ⟨c, h1, h2⟩ := (h b x p hb hp).2.cells i hi j av hj
    exact ⟨c, h1, h2.mono (fun _ _ h => by cases h)⟩
  · rw [(h b x p hb hp).1] at ho; cases ho
  · rw [(h b x p hb hp).1] at ho; cases ho
  · rintro k ⟨b, x, p, hb, ho, hp, _, _⟩
    rw [(h b x p hb hp).1] at ho; cases ho
theorem law_calls2 {E : Env} {f : FuncId} {s : FSpec} (h : FnOk E f s) {vs : List AV} {bs : List Blk} (hs : (s vs bs).sel = some ⟨[.bool true], []⟩) {w : World} {cargs : List Value} {ps : List Pos} (hc : CfgOk E w bs ps)
    (hown : ∀ x ∈ bs, x.own = false) (hv : VL (psRho ps) vs cargs) :
    Calls E.P f cargs.toArray w fun e w' => e = .returned (.bool true) ∧ Below w.heap.size w w' := by
  refine (h.2 vs bs _ hs w cargs ps hc hv).mono fun e w' ⟨cv, ps', he, hc', hcv, hm, _⟩ => ?_
  have hps : ps' = [] := List.eq_nil_of_length_eq_zero hc'.len
  subst hps
  simp only [oneOrTup, V] at hcv
  refine ⟨by rw [he, hcv], below_ext (hm.stp.ext.mono fun k _ hk => ?_)⟩
  obtain ⟨b, x, p, hb, ho, _⟩ := hk
  rw [hown x (List.mem_of_getElem? hb)] at ho; cases ho
section
variable {H : Type} {enc : TypeId × Value → H} {P : Program} {w : World} {base : Nat} {spare : Nat → Bool} {held : Bool}
end
theorem rd_toks {w : World} {p : Pos} {L : List Tok} (h1 : p.stride = 3) (h2 : p.len = L.length) (h3 : p.len ≤ p.cap) (h4 : p.cap ≤ maxLen)
    (h5 : ∀ i, i < L.length → ∀ j av, ((L.getD i default).enc)[j]? = some av → ∃ c, w.cell? (p.addr i j) = some c ∧ V (fun _ => none) av c) : RdD w (.toks L) p :=
  ⟨h1, h2, h3, h4, fun _ _ => ⟨rfl, rfl⟩, h5⟩
theorem slw_at {ps : List Pos} {k : Nat} {p : Pos} {v : Value} (hk : ps[k]? = some p) (h : V (fun _ => some p) (.slw 0) v) : V (psRho ps) (.slw k) v := by
  simp only [V] at h ⊢
  obtain ⟨q, hq, r⟩ := h
  cases hq
  exact ⟨p, hk, r⟩
end Go.Am
