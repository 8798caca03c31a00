/-
  AM3: a strings.Builder: copyCheck, String.
-/
import Derived.Test.YthfieonkfailkaaGreatDoorLibA
import Derived.Shelf.Strings.Builder1
namespace Go.Am
open Go.RowKit

theorem setCell_heap_other (w : World) (a : Addr) (v : Value) {k : Nat} (h : k ≠ a.block) : (w.setCell a v).heap[k]? = w.heap[k]? := by
  simp only [World.setCell, Array.getElem?_modify]
  rw [if_neg (fun e => h e.symm)]
theorem setCell_heap_same (w : World) (b o : Nat) (v : Value) {cs : Array Value} {e : TypeId} {f : Nat × Nat} (h : w.heap[b]? = some (.cells cs e f)) : (w.setCell ⟨b, o, none⟩ v).heap[b]? = some (.cells (cs.setIfInBounds o v) e f) := by
  simp [World.setCell, Array.getElem?_modify, h]
theorem setCell_frozen (w : World) (a : Addr) (v : Value) (x : Addr) : (w.setCell a v).frozen? x = w.frozen? x := by
  simp only [World.frozen?, World.setCell, Array.getElem?_modify]
  by_cases e : a.block = x.block
  · simp only [e, if_true]
    cases w.heap[x.block]? with
    | none => rfl
    | some o => cases o <;> rfl
  · simp [e]
section
variable {ρ : Rho} {h : Heap} {w : World}
/-- one cell of an own variable is written -/
theorem SatH.setCell (hs : SatH ρ h w) {b : Nat} {x : Blk} {p : Pos} (hb : h b = some x) (ho : x.own = true) (hp : ρ b = some p) (hcap : 0 < p.cap) (hlen : x.dat.len = 1) {j : Nat} (hj : j < x.dat.stride) {av : AV} {c : Value} (hv : V ρ av c)
    {d : Dat} (hd : x.dat.setRow 0 ((x.dat.row 0).set j av) = some d) : SatH ρ (updF h b (some ⟨true, d⟩)) (w.setCell (p.addr 0 j) c) ∧ Stp (domB ρ h) (domB ρ (updF h b (some ⟨true, d⟩))) w (w.setCell (p.addr 0 j) c) := by
  have spec := Dat.setRow_spec hd
  have hrow0 := (hs.wf b x hb 0 (by omega)).1
  have hapart : ∀ y z q, y ≠ b → h y = some z → ρ y = some q → ((z.own = true ∧ 0 < q.cap) ∨ (0 < q.len ∧ 0 < q.stride)) → q.block ≠ p.block := fun y z q hy hz hq hl e =>
    hs.apart b x p y z q hb ho hp hcap hz hq (Ne.symm hy) hl e.symm
  have hold : ∀ y z, updF h b (some ⟨true, d⟩) y = some z → (y = b ∧ z = ⟨true, d⟩) ∨ (y ≠ b ∧ h y = some z) := fun y z hz => by
    by_cases e : y = b
    · subst e; rw [updF_same] at hz; cases hz; exact .inl ⟨rfl, rfl⟩
    · rw [updF_other _ _ _ e] at hz; exact .inr ⟨e, hz⟩
  refine ⟨⟨fun y z hz => ?_, fun y z hz => ?_, fun y z q hz hq i hi k a ha => ?_, fun y z q hz hzo hq h0 => ?_, fun y z q y' z' q' hz hzo hq h0 hz' hq' hne hl => ?_⟩, ⟨⟨rfl, rfl, rfl, by simp [World.setCell], fun k _ hk => ?_, fun a _ _ => setCell_frozen ..⟩, fun k hk => ?_, fun k hk => ?_⟩⟩
  · rcases hold y z hz with ⟨rfl, rfl⟩ | ⟨_, hz⟩
    · obtain ⟨q, hq, h1, h2, h3, h4⟩ := hs.pos y x hb
      exact ⟨q, hq, h1.trans spec.stride.symm, h2.trans spec.len.symm, h3, h4⟩
    · exact hs.pos y z hz
  · rcases hold y z hz with ⟨rfl, rfl⟩ | ⟨_, hz⟩
    · intro i hi
      have hi : i < d.len := hi
      rw [spec.len] at hi
      have : i = 0 := by omega
      subst this
      show (d.row 0).length = d.stride ∧ _
      rw [spec.row 0 (by omega), if_pos rfl, spec.stride]
      exact spec.wf
    · exact hs.wf y z hz
  · rcases hold y z hz with ⟨rfl, rfl⟩ | ⟨hne, hz⟩
    · rw [hp] at hq; cases hq
      have hi : i < d.len := hi
      rw [spec.len] at hi
      have : i = 0 := by omega
      subst this
      have ha : (d.row 0)[k]? = some a := ha
      rw [spec.row 0 (by omega), if_pos rfl, List.getElem?_set] at ha
      by_cases hk : j = k
      · subst hk
        rw [if_pos rfl, if_pos (by omega), Option.some.injEq] at ha
        subst ha
        obtain ⟨c0, hc0, _⟩ := hs.cells y x p hb hp 0 (by omega) j _ (List.getElem?_eq_getElem (by omega))
        exact ⟨c, World.cell?_setCell_same _ _ _ hc0, hv⟩
      · rw [if_neg hk] at ha
        obtain ⟨c0, hc0, hV⟩ := hs.cells y x p hb hp 0 (by omega) k a ha
        exact ⟨c0, by rw [World.cell?_setCell_other _ _ _ _ (by simp only [Pos.addr, ne_eq, Addr.mk.injEq]; omega)]; exact hc0, hV⟩
    · obtain ⟨c0, hc0, hV⟩ := hs.cells y z q hz hq i hi k a ha
      have hwf := (hs.wf y z hz i hi).1
      have hk := (List.getElem?_eq_some_iff.1 ha).1
      obtain ⟨q', hq', h1, h2, _⟩ := hs.pos y z hz
      rw [hq] at hq'; cases hq'
      have := hapart y z q hne hz hq (.inr ⟨by omega, by omega⟩)
      exact ⟨c0, by rw [World.cell?_setCell_other _ _ _ _ (by simp only [Pos.addr, ne_eq, Addr.mk.injEq]; omega)]; exact hc0, hV⟩
  · rcases hold y z hz with ⟨rfl, rfl⟩ | ⟨hne, hz⟩
    · rw [hp] at hq; cases hq
      obtain ⟨cs, e, h1, h2, h3⟩ := hs.own y x p hb ho hp hcap
      refine ⟨_, e, setCell_heap_same _ _ _ _ h1, by simpa using h2, fun T hT => ?_⟩
      obtain ⟨m1, m2, m3⟩ := h3 T (by rw [← Dat.setRow_mark hd]; exact hT)
      refine ⟨m1, m2, fun hg => ?_⟩
      rw [Array.size_setIfInBounds, m3 (by rw [← Dat.setRow_gen hd]; exact hg)]
      exact spec.stride.symm
    · obtain ⟨cs, e, h1, h2⟩ := hs.own y z q hz hzo hq h0
      exact ⟨cs, e, by rw [setCell_heap_other _ _ _ (hapart y z q hne hz hq (.inl ⟨hzo, h0⟩))]; exact h1, h2⟩
  · have old : ∀ y z, updF h b (some ⟨true, d⟩) y = some z → ∃ z0, h y = some z0 ∧ (z.own = true → z0.own = true) := fun y z hz => by
      rcases hold y z hz with ⟨rfl, rfl⟩ | ⟨_, hz⟩
      · exact ⟨x, hb, fun _ => ho⟩
      · exact ⟨z, hz, id⟩
    obtain ⟨z0, g1, g2⟩ := old y z hz
    obtain ⟨z1, g3, g4⟩ := old y' z' hz'
    exact hs.apart y z0 q y' z1 q' g1 (g2 hzo) hq h0 g3 hq' hne (hl.imp (fun h => ⟨g4 h.1, h.2⟩) id)
  · exact setCell_heap_other _ _ _ fun e => hk ⟨b, x, p, hb, ho, hp, hcap, e.symm⟩
  · obtain ⟨y, z, q, hz, hzo, hq, h0, rfl⟩ := hk
    left
    rcases hold y z hz with ⟨rfl, rfl⟩ | ⟨_, hz⟩
    · rw [hp] at hq; cases hq; exact ⟨y, x, p, hb, ho, hp, hcap, rfl⟩
    · exact ⟨y, z, q, hz, hzo, hq, h0, rfl⟩
  · obtain ⟨y, z, q, hz, hq, hl, rfl⟩ := hk
    left
    rcases hold y z hz with ⟨rfl, rfl⟩ | ⟨_, hz⟩
    · rw [hp] at hq; cases hq; exact ⟨y, x, p, hb, hp, .inl ⟨ho, hcap⟩, rfl⟩
    · exact ⟨y, z, q, hz, hq, hl, rfl⟩
end

section
variable {E : Env} {w : World} {bs : List Blk} {ps : List Pos}
/-- a told variable of two cells that is one block of its type -/
theorem var2_of (hc : CfgOk E w bs ps) {k : Nat} {s : List TypeId} {r : List AV} (hk : bs[k]? = some ⟨true, .gen s [r]⟩) {T : TypeId} (hm : markOf s = some T) (hw : wid s = 2) :
    ∃ p cs, ps[k]? = some p ∧ p.off = 0 ∧ p.stride = 2 ∧ p.len = 1 ∧ 0 < p.cap ∧ w.heap[p.block]? = some (.cells cs T (0, 0)) ∧ cs.size = 2 := by
  obtain ⟨p, hp, h1, h2, h3, _⟩ := hc.sat.pos k _ hk
  have h1 : p.stride = wid s := h1
  have h2 : p.len = 1 := h2
  obtain ⟨cs, e, g1, _, g2⟩ := hc.sat.own k _ p hk rfl hp (by omega)
  obtain ⟨m1, m2, m3⟩ := g2 T hm
  subst m1
  exact ⟨p, cs, hp, m2, by omega, h2, by omega, g1, (m3 rfl).trans hw⟩
end

/-! copyCheck -/
def sCopy (tys : List TypeId) : FSpec
  | [.ptr 0 0 0], [⟨true, .gen s [[.nilp, .slw 1]]⟩, ⟨true, .bytes t L⟩] => bif sameTys s tys then .leaf ⟨[], [⟨true, .gen s [[.ptr 0 0 0, .slw 1]]⟩, ⟨true, .bytes t L⟩]⟩ else .bad
  | [.ptr 0 0 0], [⟨true, .gen s [[.ptr 0 0 0, .slw 1]]⟩, ⟨true, .bytes t L⟩] => bif sameTys s tys then .leaf ⟨[], [⟨true, .gen s [[.ptr 0 0 0, .slw 1]]⟩, ⟨true, .bytes t L⟩]⟩ else .bad
  | _, _ => .bad
theorem addr00 {p : Pos} (h : p.off = 0) (j : Nat) : p.addr 0 j = ⟨p.block, j, none⟩ := by simp [Pos.addr, h]
theorem copy_ok {E : Env} {f : FuncId} (hat : ∃ fn c, FnAt E.P f fn c) {tys : List TypeId} {U : TypeId} (hm : markOf tys = some U) (hw2 : wid tys = 2)
    (used : ∀ (b : Nat) (w : World), w.cell? ⟨b, 0, none⟩ = some (.pointer (some ⟨b, 0, none⟩)) → Calls E.P f #[.pointer (some ⟨b, 0, none⟩)] w fun e w' => e = .returned (.tuple #[]) ∧ w' = w)
    (fresh : ∀ (b : Nat) (w : World), w.cell? ⟨b, 0, none⟩ = some (.pointer none) → w.shape? b = some (U, 2) → w.frozen? ⟨b, 0, none⟩ = false →
      Calls E.P f #[.pointer (some ⟨b, 0, none⟩)] w fun e w' => e = .returned (.tuple #[]) ∧ w' = w.setCell ⟨b, 0, none⟩ (.pointer (some ⟨b, 0, none⟩))) : FnOk E f (sCopy tys) := by
  refine ⟨hat, fun vs bs out hsel w cargs ps hc hv => ?_⟩
  unfold sCopy at hsel
  split at hsel
  · rename_i s t L
    cases hs : sameTys s tys with
    | false => rw [hs] at hsel; simp [T.sel] at hsel
    | true =>
      rw [hs] at hsel
      simp only [cond_true, T.sel, Option.some.injEq] at hsel
      subst hsel
      have := sameTys_eq hs
      subst this
      obtain ⟨p, cs, hp, h0, hst, hln, hcap, hheap, hsz⟩ := var2_of hc (k := 0) rfl hm hw2
      have hb : blkH [⟨true, Dat.gen s [[AV.nilp, .slw 1]]⟩, ⟨true, .bytes t L⟩] 0 = some ⟨true, .gen s [[.nilp, .slw 1]]⟩ := rfl
      simp only [VL, V] at hv
      obtain ⟨v, r, rfl, ⟨p', hp', rfl⟩, rfl⟩ := hv
      have : p' = p := Option.some.inj (hp'.symm.trans hp)
      subst this
      rw [addr00 h0]
      obtain ⟨c0, hc0, hV0⟩ := hc.sat.cells 0 _ p' hb hp 0 (by simp [Dat.len]) 0 .nilp rfl
      simp only [V] at hV0
      subst hV0
      rw [addr00 h0] at hc0
      have hsh : w.shape? p'.block = some (U, 2) := by simp [World.shape?, hheap, hsz]
      have hfz : w.frozen? ⟨p'.block, 0, none⟩ = false := by simp [World.frozen?, hheap]
      have hv1 : V (psRho ps) (.ptr 0 0 0) (.pointer (some ⟨p'.block, 0, none⟩)) := by
        simp only [V]; exact ⟨p', hp, by rw [addr00 h0]⟩
      have hd : (Dat.gen s [[AV.nilp, .slw 1]]).setRow 0 (((Dat.gen s [[AV.nilp, .slw 1]]).row 0).set 0 (.ptr 0 0 0)) = some (.gen s [[.ptr 0 0 0, .slw 1]]) := by
        simp [Dat.setRow, Dat.row, genDec, hw2, AV.isCell]
      obtain ⟨g1, g2⟩ := SatH.setCell hc.sat hb rfl hp hcap rfl (j := 0) (by show 0 < wid s; omega) hv1 hd
      rw [addr00 h0] at g1 g2
      have hH : updF (blkH [⟨true, Dat.gen s [[AV.nilp, .slw 1]]⟩, ⟨true, .bytes t L⟩]) 0 (some ⟨true, .gen s [[.ptr 0 0 0, .slw 1]]⟩) = blkH [⟨true, Dat.gen s [[AV.ptr 0 0 0, .slw 1]]⟩, ⟨true, .bytes t L⟩] := by
        funext k
        cases k with
        | zero => rfl
        | succ k => rfl
      rw [hH] at g1 g2
      refine (fresh p'.block w hc0 hsh hfz).mono fun e w' ⟨he, hw'⟩ => ⟨_, ps, he, ?_, by simp [oneOrTup, V, VL], ⟨?_, ?_⟩, ?_⟩
      · rw [hw']
        exact ⟨g1, hc.g.step g2, hc.len, hc.few⟩
      · rw [hw']; exact g2
      · intro k x q hk hq hl
        right
        match k, hk with
        | 0, hk => cases hk; exact ⟨0, _, q, rfl, hq, by rcases hl with h | h; exact .inl ⟨rfl, h.2⟩; exact .inr h, rfl⟩
        | 1, hk => cases hk; exact ⟨1, _, q, rfl, hq, hl, rfl⟩
      · intro j k hj
        match j, hj with
        | 0, hj => cases hj; rfl
  · rename_i s t L
    cases hs : sameTys s tys with
    | false => rw [hs] at hsel; simp [T.sel] at hsel
    | true =>
      rw [hs] at hsel
      simp only [cond_true, T.sel, Option.some.injEq] at hsel
      subst hsel
      have := sameTys_eq hs
      subst this
      obtain ⟨p, cs, hp, h0, hst, hln, hcap, hheap, hsz⟩ := var2_of hc (k := 0) rfl hm hw2
      have hb : blkH [⟨true, Dat.gen s [[AV.ptr 0 0 0, .slw 1]]⟩, ⟨true, .bytes t L⟩] 0 = some ⟨true, .gen s [[.ptr 0 0 0, .slw 1]]⟩ := rfl
      simp only [VL, V] at hv
      obtain ⟨v, r, rfl, ⟨p', hp', rfl⟩, rfl⟩ := hv
      have : p' = p := Option.some.inj (hp'.symm.trans hp)
      subst this
      rw [addr00 h0]
      obtain ⟨c0, hc0, hV0⟩ := hc.sat.cells 0 _ p' hb hp 0 (by simp [Dat.len]) 0 (.ptr 0 0 0) rfl
      simp only [V] at hV0
      obtain ⟨q, hq, rfl⟩ := hV0
      have : q = p' := Option.some.inj (hq.symm.trans hp)
      subst this
      rw [addr00 h0] at hc0
      refine (used q.block w hc0).mono fun e w' ⟨he, hw'⟩ => ⟨_, ps, he, ?_, by simp [oneOrTup, V, VL], ⟨?_, ?_⟩, ?_⟩
      · rw [hw']; exact hc
      · rw [hw']; exact Stp.refl _ _
      · intro k x q hk hq hl
        exact .inr ⟨k, x, q, hk, hq, hl, rfl⟩
      · intro j k hj
        match j, hj with
        | 0, hj => cases hj; rfl
  · simp [T.sel] at hsel
end Go.Am
