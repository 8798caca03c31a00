/-
  Texts put together: AmBuild, AmBuild2, AmDefer, AmArg.
-/
import Derived.Test.YtdckpbeioemopabGreatDoorLibA
import Derived.Shelf.Strings.Builder1
import Derived.Defers
import Derived.Deep.Slices
import Derived.Carry
namespace Go.Am
open Go.RowKit
theorem setCell_heap_other (w : World) (a : Addr) (v : Value) {k : Nat} (h : k ≠ a.block) : (w.setCell a v).heap[k]? = w.heap[k]? := by
  simp only [World.setCell, Array.getElem?_modify]
  rw [if_neg (fun e => h e.symm)]
theorem setCell_heap_same (w : World) (b o : Nat) (v : Value) {cs : Array Value} {e : TypeId} {f : Nat × Nat} (h : w.heap[b]? = some (.cells cs e f)) : (w.setCell ⟨b, o, none⟩ v).heap[b]? = some (.cells (cs.setIfInBounds o v) e f) := by
  simp [World.setCell, Array.getElem?_modify, h]
theorem setCell_frozen (w : World) (a : Addr) (v : Value) (x : Addr) : (w.setCell a v).frozen? x = w.frozen? x := by
  simp only [World.frozen?, World.setCell, Array.getElem?_modify]
  by_cases e : a.block = x.block
  · simp only [e, if_true]
    cases w.heap[x.block]? with
    | none => rfl
    | some o => cases o <;> rfl
  · simp [e]
section
variable {ρ : Rho} {h : Heap} {w : World}
theorem SatH.setCell (hs : SatH ρ h w) {b : Nat} {x : Blk} {p : Pos} (hb : h b = some x) (ho : x.own = true) (hp : ρ b = some p) (hcap : 0 < p.cap) (hlen : x.dat.len = 1) {j : Nat} (hj : j < x.dat.stride) {av : AV} {c : Value} (hv : V ρ av c)
    {d : Dat} (hd : x.dat.setRow 0 ((x.dat.row 0).set j av) = some d) : SatH ρ (updF h b (some ⟨true, d⟩)) (w.setCell (p.addr 0 j) c) ∧ Stp (domB ρ h) (domB ρ (updF h b (some ⟨true, d⟩))) w (w.setCell (p.addr 0 j) c) := by
  have spec := Dat.setRow_spec hd
  have hrow0 := (hs.wf b x hb 0 (by omega)).1
  have hapart : ∀ y z q, y ≠ b → h y = some z → ρ y = some q → ((z.own = true ∧ 0 < q.cap) ∨ (0 < q.len ∧ 0 < q.stride)) → q.block ≠ p.block := fun y z q hy hz hq hl e =>
    hs.apart b x p y z q hb ho hp hcap hz hq (Ne.symm hy) hl e.symm
  have hold : ∀ y z, updF h b (some ⟨true, d⟩) y = some z → (y = b ∧ z = ⟨true, d⟩) ∨ (y ≠ b ∧ h y = some z) := fun y z hz => by
    by_cases e : y = b
    · subst e; rw [updF_same] at hz; cases hz; exact .inl ⟨rfl, rfl⟩
    · rw [updF_other _ _ _ e] at hz; exact .inr ⟨e, hz⟩
  refine ⟨⟨fun y z hz => ?_, fun y z hz => ?_, fun y z q hz hq i hi k a ha => ?_, fun y z q hz hzo hq h0 => ?_, fun y z q y' z' q' hz hzo hq h0 hz' hq' hne hl => ?_⟩, ⟨⟨rfl, rfl, rfl, by simp [World.setCell], fun k _ hk => ?_, fun a _ _ => setCell_frozen ..⟩, fun k hk => ?_, fun k hk => ?_⟩⟩
  · rcases hold y z hz with ⟨rfl, rfl⟩ | ⟨_, hz⟩
    · obtain ⟨q, hq, h1, h2, h3, h4⟩ := hs.pos y x hb
      exact ⟨q, hq, h1.trans spec.stride.symm, h2.trans spec.len.symm, h3, h4⟩
    · exact hs.pos y z hz
  · rcases hold y z hz with ⟨rfl, rfl⟩ | ⟨_, hz⟩
    · intro i hi
      have hi : i < d.len := hi
      rw [spec.len] at hi
      have : i = 0 := by omega
      subst this
      show (d.row 0).length = d.stride ∧ _
      rw [spec.row 0 (by omega), if_pos rfl, spec.stride]
      exact spec.wf
    · exact hs.wf y z hz
  · rcases hold y z hz with ⟨rfl, rfl⟩ | ⟨hne, hz⟩
    · rw [hp] at hq; cases hq
      have hi : i < d.len := hi
      rw [spec.len] at hi
      have : i = 0 := by omega
      subst this
      have ha : (d.row 0)[k]? = some a := ha
      rw [spec.row 0 (by omega), if_pos rfl, List.getElem?_set] at ha
      by_cases hk : j = k
      · subst hk
        rw [if_pos rfl, if_pos (by omega), Option.some.injEq] at ha
        subst ha
        obtain ⟨c0, hc0, _⟩ := hs.cells y x p hb hp 0 (by omega) j _ (List.getElem?_eq_getElem (by omega))
        exact ⟨c, World.cell?_setCell_same _ _ _ hc0, hv⟩
      · rw [if_neg hk] at ha
        obtain ⟨c0, hc0, hV⟩ := hs.cells y x p hb hp 0 (by omega) k a ha
        exact ⟨c0, by rw [World.cell?_setCell_other _ _ _ _ (by simp only [Pos.addr, ne_eq, Addr.mk.injEq]; omega)]; exact hc0, hV⟩
    · obtain ⟨c0, hc0, hV⟩ := hs.cells y z q hz hq i hi k a ha
      have hwf := (hs.wf y z hz i hi).1
      have hk := (List.getElem?_eq_some_iff.1 ha).1
      obtain ⟨q', hq', h1, h2, _⟩ := hs.pos y z hz
      rw [hq] at hq'; cases hq'
      have := hapart y z q hne hz hq (.inr ⟨by omega, by omega⟩)
      exact ⟨c0, by rw [World.cell?_setCell_other _ _ _ _ (by simp only [Pos.addr, ne_eq, Addr.mk.injEq]; omega)]; exact hc0, hV⟩
  · rcases hold y z hz with ⟨rfl, rfl⟩ | ⟨hne, hz⟩
    · rw [hp] at hq; cases hq
      obtain ⟨cs, e, h1, h2, h3⟩ := hs.own y x p hb ho hp hcap
      refine ⟨_, e, setCell_heap_same _ _ _ _ h1, by simpa using h2, fun T hT => ?_⟩
      obtain ⟨m1, m2, m3⟩ := h3 T (by rw [← Dat.setRow_mark hd]; exact hT)
      refine ⟨m1, m2, fun hg => ?_⟩
      rw [Array.size_setIfInBounds, m3 (by rw [← Dat.setRow_gen hd]; exact hg)]
      exact spec.stride.symm
    · obtain ⟨cs, e, h1, h2⟩ := hs.own y z q hz hzo hq h0
      exact ⟨cs, e, by rw [setCell_heap_other _ _ _ (hapart y z q hne hz hq (.inl ⟨hzo, h0⟩))]; exact h1, h2⟩
  · have old : ∀ y z, updF h b (some ⟨true, d⟩) y = some z → ∃ z0, h y = some z0 ∧ (z.own = true → z0.own = true) := fun y z hz => by
      rcases hold y z hz with ⟨rfl, rfl⟩ | ⟨_, hz⟩
      · exact ⟨x, hb, fun _ => ho⟩
      · exact ⟨z, hz, id⟩
    obtain ⟨z0, g1, g2⟩ := old y z hz
    obtain ⟨z1, g3, g4⟩ := old y' z' hz'
    exact hs.apart y z0 q y' z1 q' g1 (g2 hzo) hq h0 g3 hq' hne (hl.imp (fun h => ⟨g4 h.1, h.2⟩) id)
  · exact setCell_heap_other _ _ _ fun e => hk ⟨b, x, p, hb, ho, hp, hcap, e.symm⟩
  · obtain ⟨y, z, q, hz, hzo, hq, h0, rfl⟩ := hk
    left
    rcases hold y z hz with ⟨rfl, rfl⟩ | ⟨_, hz⟩
    · rw [hp] at hq; cases hq; exact ⟨y, x, p, hb, ho, hp, hcap, rfl⟩
    · exact ⟨y, z, q, hz, hzo, hq, h0, rfl⟩
  · obtain ⟨y, z, q, hz, hq, hl, rfl⟩ := hk
    left
    rcases hold y z hz with ⟨rfl, rfl⟩ | ⟨_, hz⟩
    · rw [hp] at hq; cases hq; exact ⟨y, x, p, hb, hp, .inl ⟨ho, hcap⟩, rfl⟩
    · exact ⟨y, z, q, hz, hq, hl, rfl⟩
end
section
variable {E : Env} {w : World} {bs : List Blk} {ps : List Pos}
theorem var2_of (hc : CfgOk E w bs ps) {k : Nat} {s : List TypeId} {r : List AV} (hk : bs[k]? = some ⟨true, .gen s [r]⟩) {T : TypeId} (hm : markOf s = some T) (hw : wid s = 2) :
    ∃ p cs, ps[k]? = some p ∧ p.off = 0 ∧ p.stride = 2 ∧ p.len = 1 ∧ 0 < p.cap ∧ w.heap[p.block]? = some (.cells cs T (0, 0)) ∧ cs.size = 2 := by
  obtain ⟨p, hp, h1, h2, h3, _⟩ := hc.sat.pos k _ hk
  have h1 : p.stride = wid s := h1
  have h2 : p.len = 1 := h2
  obtain ⟨cs, e, g1, _, g2⟩ := hc.sat.own k _ p hk rfl hp (by omega)
  obtain ⟨m1, m2, m3⟩ := g2 T hm
  subst m1
  exact ⟨p, cs, hp, m2, by omega, h2, by omega, g1, (m3 rfl).trans hw⟩
end
def sCopy (tys : List TypeId) : FSpec
  | [.ptr 0 0 0], [⟨true, .gen s [[.nilp, .slw 1]]⟩, ⟨true, .bytes t L⟩] => bif sameTys s tys then .leaf ⟨[], [⟨true, .gen s [[.ptr 0 0 0, .slw 1]]⟩, ⟨true, .bytes t L⟩]⟩ else .bad
  | [.ptr 0 0 0], [⟨true, .gen s [[.ptr 0 0 0, .slw 1]]⟩, ⟨true, .bytes t L⟩] => bif sameTys s tys then .leaf ⟨[], [⟨true, .gen s [[.ptr 0 0 0, .slw 1]]⟩, ⟨true, .bytes t L⟩]⟩ else .bad
  | _, _ => .bad
theorem addr00 {p : Pos} (h : p.off = 0) (j : Nat) : p.addr 0 j = ⟨p.block, j, none⟩ := by simp [Pos.addr, h]
theorem copy_ok {E : Env} {f : FuncId} (hat : ∃ fn c, FnAt E.P f fn c) {tys : List TypeId} {U : TypeId} (hm : markOf tys = some U) (hw2 : wid tys = 2)
    (used : ∀ (b : Nat) (w : World), w.cell? ⟨b, 0, none⟩ = some (.pointer (some ⟨b, 0, none⟩)) → Calls E.P f #[.pointer (some ⟨b, 0, none⟩)] w fun e w' => e = .returned (.tuple #[]) ∧ w' = w)
    (fresh : ∀ (b : Nat) (w : World), w.cell? ⟨b, 0, none⟩ = some (.pointer none) → w.shape? b = some (U, 2) → w.frozen? ⟨b, 0, none⟩ = false →
      Calls E.P f #[.pointer (some ⟨b, 0, none⟩)] w fun e w' => e = .returned (.tuple #[]) ∧ w' = w.setCell ⟨b, 0, none⟩ (.pointer (some ⟨b, 0, none⟩))) : FnOk E f (sCopy tys) := by
  refine ⟨hat, fun vs bs out hsel w cargs ps hc hv => ?_⟩
  unfold sCopy at hsel
  split at hsel
  · rename_i s t L
    cases hs : sameTys s tys with
    | false => rw [hs] at hsel; simp [T.sel] at hsel
    | true =>
      rw [hs] at hsel
      simp only [cond_true, T.sel, Option.some.injEq] at hsel
      subst hsel
      have := sameTys_eq hs
      subst this
      obtain ⟨p, cs, hp, h0, hst, hln, hcap, hheap, hsz⟩ := var2_of hc (k := 0) rfl hm hw2
      have hb : blkH [⟨true, Dat.gen s [[AV.nilp, .slw 1]]⟩, ⟨true, .bytes t L⟩] 0 = some ⟨true, .gen s [[.nilp, .slw 1]]⟩ := rfl
      simp only [VL, V] at hv
      obtain ⟨v, r, rfl, ⟨p', hp', rfl⟩, rfl⟩ := hv
      have : p' = p := Option.some.inj (hp'.symm.trans hp)
      subst this
      rw [addr00 h0]
      obtain ⟨c0, hc0, hV0⟩ := hc.sat.cells 0 _ p' hb hp 0 (by simp [Dat.len]) 0 .nilp rfl
      simp only [V] at hV0
      subst hV0
      rw [addr00 h0] at hc0
      have hsh : w.shape? p'.block = some (U, 2) := by simp [World.shape?, hheap, hsz]
      have hfz : w.frozen? ⟨p'.block, 0, none⟩ = false := by simp [World.frozen?, hheap]
      have hv1 : V (psRho ps) (.ptr 0 0 0) (.pointer (some ⟨p'.block, 0, none⟩)) := by
        simp only [V]; exact ⟨p', hp, by rw [addr00 h0]⟩
      have hd : (Dat.gen s [[AV.nilp, .slw 1]]).setRow 0 (((Dat.gen s [[AV.nilp, .slw 1]]).row 0).set 0 (.ptr 0 0 0)) = some (.gen s [[.ptr 0 0 0, .slw 1]]) := by
        simp [Dat.setRow, Dat.row, genDec, hw2, AV.isCell]
      obtain ⟨g1, g2⟩ := SatH.setCell hc.sat hb rfl hp hcap rfl (j := 0) (by show 0 < wid s; omega) hv1 hd
      rw [addr00 h0] at g1 g2
      have hH : updF (blkH [⟨true, Dat.gen s [[AV.nilp, .slw 1]]⟩, ⟨true, .bytes t L⟩]) 0 (some ⟨true, .gen s [[.ptr 0 0 0, .slw 1]]⟩) = blkH [⟨true, Dat.gen s [[AV.ptr 0 0 0, .slw 1]]⟩, ⟨true, .bytes t L⟩] := by
        funext k
        cases k with
        | zero => rfl
        | succ k => rfl
      rw [hH] at g1 g2
      refine (fresh p'.block w hc0 hsh hfz).mono fun e w' ⟨he, hw'⟩ => ⟨_, ps, he, ?_, by simp [oneOrTup, V, VL], ⟨?_, ?_⟩, ?_⟩
      · rw [hw']
        exact ⟨g1, hc.g.step g2, hc.len, hc.few⟩
      · rw [hw']; exact g2
      · intro k x q hk hq hl
        right
        match k, hk with
        | 0, hk => cases hk; exact ⟨0, _, q, rfl, hq, by rcases hl with h | h; exact .inl ⟨rfl, h.2⟩; exact .inr h, rfl⟩
        | 1, hk => cases hk; exact ⟨1, _, q, rfl, hq, hl, rfl⟩
      · intro j k hj
        match j, hj with
        | 0, hj => cases hj; rfl
  · rename_i s t L
    cases hs : sameTys s tys with
    | false => rw [hs] at hsel; simp [T.sel] at hsel
    | true =>
      rw [hs] at hsel
      simp only [cond_true, T.sel, Option.some.injEq] at hsel
      subst hsel
      have := sameTys_eq hs
      subst this
      obtain ⟨p, cs, hp, h0, hst, hln, hcap, hheap, hsz⟩ := var2_of hc (k := 0) rfl hm hw2
      have hb : blkH [⟨true, Dat.gen s [[AV.ptr 0 0 0, .slw 1]]⟩, ⟨true, .bytes t L⟩] 0 = some ⟨true, .gen s [[.ptr 0 0 0, .slw 1]]⟩ := rfl
      simp only [VL, V] at hv
      obtain ⟨v, r, rfl, ⟨p', hp', rfl⟩, rfl⟩ := hv
      have : p' = p := Option.some.inj (hp'.symm.trans hp)
      subst this
      rw [addr00 h0]
      obtain ⟨c0, hc0, hV0⟩ := hc.sat.cells 0 _ p' hb hp 0 (by simp [Dat.len]) 0 (.ptr 0 0 0) rfl
      simp only [V] at hV0
      obtain ⟨q, hq, rfl⟩ := hV0
      have : q = p' := Option.some.inj (hq.symm.trans hp)
      subst this
      rw [addr00 h0] at hc0
      refine (used q.block w hc0).mono fun e w' ⟨he, hw'⟩ => ⟨_, ps, he, ?_, by simp [oneOrTup, V, VL], ⟨?_, ?_⟩, ?_⟩
      · rw [hw']; exact hc
      · rw [hw']; exact Stp.refl _ _
      · intro k x q hk hq hl
        exact .inr ⟨k, x, q, hk, hq, hl, rfl⟩
      · intro j k hj
        match j, hj with
        | 0, hj => cases hj; rfl
  · simp [T.sel] at hsel
end Go.Am
namespace Go.Am
open Go.RowKit Go.Shelf Go.Proofs
section
variable {P : Program} {ρ : Ren}
set_option maxHeartbeats 2000000 in
set_option maxRecDepth 100000 in
theorem str_walk (L : Lays.n169 P ρ) (X : Builder.Extra P ρ) (b g cap : Nat) (p : Value) (cur : Array Value) (l : List UInt8) (w : World) (hbk : w.heap[b]? = some (.cells #[p, .slice (some ⟨g, 0, none⟩) l.length cap] (ρ.t 72) (0, 0)))
    (hg : w.heap[g]? = some (.cells cur (ρ.t 5) (0, 0))) (h0 : l ≠ []) (hcap : l.length ≤ cap) (hcm : cap ≤ maxLen) (hcs : l.length ≤ cur.size) (hcell : ∀ (j : Nat) (x : UInt8), l[j]? = some x → w.cell? ⟨g, j, none⟩ = some (.int .u8 x.toNat)) :
    Calls P (ρ.f 169) #[.pointer (some ⟨b, 0, none⟩)] w fun e w' => e = .returned (.string ⟨l.toArray⟩) ∧ w' = w.drew.freeze ⟨g, 0, none⟩ l.length := by
  have hl0 : l.length ≠ 0 := by simpa using h0
  have c1 : w.drew.cell? ⟨b, 1, none⟩ = some (.slice (some ⟨g, 0, none⟩) l.length cap) := by
    have hb' : w.drew.heap[b]? = some (.cells #[p, .slice (some ⟨g, 0, none⟩) l.length cap] (ρ.t 72) (0, 0)) := hbk
    rw [Lib.cell_of_heap hb']; rfl
  have hSD : (Builtin.unsafeSliceData_ #[(ρ.t 37)] (ρ.t 127) #[.slice (some ⟨g, 0, none⟩) l.length cap]).run P w.drew = .ok (.pointer (some ⟨g, 0, none⟩)) w.drew :=
    Lib.run_unsafeSliceData_row _ _ _ _ _ _ (by omega)
  have hUS : (Builtin.unsafeString_ #[(ρ.t 127), (ρ.t 3)] (ρ.t 9) #[.pointer (some ⟨g, 0, none⟩), .int .i64 l.length]).run P w.drew = .ok (.string ⟨l.toArray⟩) (w.drew.freeze ⟨g, 0, none⟩ l.length) := by
    refine Lib.run_unsafeString_row w.drew (ρ.t 127) (ρ.t 3) (ρ.t 9) (ρ.t 5) L.t127 X.cellsByte g cur.size (by have hg' : w.drew.heap[g]? = some (.cells cur (ρ.t 5) (0, 0)) := hg; simp [World.shape?, hg']) l h0 hcs (by unfold maxLen at hcm; omega) ?_
    intro j x hx
    rw [show (⟨g, 0, none⟩ : Addr).add j = ⟨g, j, none⟩ from by unfold Addr.add; split <;> simp_all]
    exact hcell j x hx
  have mixed := L.mixed
  have t72 := L.t72; have a72 := L.a72; have z72 := L.z72; have v72 := L.v72; have u72 := run_underlying L.t72
  have t70 := L.t70; have a70 := L.a70; have z70 := L.z70; have v70 := L.v70; have u70 := run_underlying L.t70
  have t37 := L.t37; have a37 := L.a37; have z37 := L.z37; have v37 := L.v37; have u37 := run_underlying L.t37
  have t127 := L.t127; have a127 := L.a127; have z127 := L.z127; have v127 := L.v127; have u127 := run_underlying L.t127
  have t3 := L.t3; have a3 := L.a3; have z3 := L.z3; have v3 := L.v3; have u3 := run_underlying L.t3
  have t9 := L.t9; have a9 := L.a9; have z9 := L.z9; have v9 := L.v9; have u9 := run_underlying L.t9
  have t5 := X.t5; have a5 := X.a5; have z5 := X.z5; have v5 := X.v5; have u5 := run_underlying X.t5
  go_enter L.f169, Body.n169_ntmps ρ
  go_wp2
  go_region_o
  all_goals (go_wp2; go_ret; exact ⟨rfl, rfl⟩)
end
theorem freeze_heap_other (w : World) (a : Addr) (n : Nat) {k : Nat} (h : k ≠ a.block) : (w.freeze a n).heap[k]? = w.heap[k]? := by
  unfold World.freeze
  split
  · rfl
  · simp only [Array.getElem?_modify]
    rw [if_neg (fun e => h e.symm)]
theorem freeze_cell (w : World) (a : Addr) (n : Nat) (x : Addr) : (w.freeze a n).cell? x = w.cell? x := by
  unfold World.freeze
  split
  · rfl
  · simp only [World.cell?, Array.getElem?_modify]
    by_cases e : a.block = x.block
    · simp only [e, if_true]
      cases w.heap[x.block]? with
      | none => rfl
      | some o => cases o <;> rfl
    · simp [e]
theorem freeze_frozen (w : World) (a : Addr) (n : Nat) {x : Addr} (h : x.block ≠ a.block) : (w.freeze a n).frozen? x = w.frozen? x := by
  unfold World.frozen?
  rw [freeze_heap_other w a n h]
theorem freeze_size (w : World) (a : Addr) (n : Nat) : (w.freeze a n).heap.size = w.heap.size := by
  unfold World.freeze
  split
  · rfl
  · simp
def inByte (n : Int) : Bool := decide (0 ≤ n ∧ n ≤ 255)
def sBStr (tys : List TypeId) (t5 : TypeId) : FSpec
  | [.ptr 0 0 0], [⟨true, .gen s [[.ptr 0 0 0, .slw 1]]⟩, ⟨true, .bytes t L⟩] => bif sameTys s tys && Nat.beq t t5 then
      .node (decide (L ≠ []) && L.all inByte) (.leaf ⟨[.str (byteList L)], [⟨true, .gen s [[.ptr 0 0 0, .slw 1]]⟩, ⟨false, .bytes t L⟩]⟩) .bad else .bad
  | _, _ => .bad
theorem str_ok {E : Env} {f : FuncId} (hat : ∃ fn c, FnAt E.P f fn c) {tys : List TypeId} {U t5 : TypeId} (hm : markOf tys = some U) (hw2 : wid tys = 2)
    (walk : ∀ (b g cap : Nat) (p : Value) (cur : Array Value) (l : List UInt8) (w : World), w.heap[b]? = some (.cells #[p, .slice (some ⟨g, 0, none⟩) l.length cap] U (0, 0)) → w.heap[g]? = some (.cells cur t5 (0, 0)) → l ≠ [] → l.length ≤ cap → cap ≤ maxLen → l.length ≤ cur.size →
      (∀ (j : Nat) (x : UInt8), l[j]? = some x → w.cell? ⟨g, j, none⟩ = some (.int .u8 x.toNat)) → Calls E.P f #[.pointer (some ⟨b, 0, none⟩)] w fun e w' => e = .returned (.string ⟨l.toArray⟩) ∧ w' = w.drew.freeze ⟨g, 0, none⟩ l.length) : FnOk E f (sBStr tys t5) := by
  refine ⟨hat, fun vs bs out hsel w cargs ps hc hv => ?_⟩
  unfold sBStr at hsel
  split at hsel
  · rename_i s t L
    cases hs : (sameTys s tys && Nat.beq t t5) with
    | false => rw [hs] at hsel; simp [T.sel] at hsel
    | true =>
      rw [hs] at hsel
      simp only [cond_true] at hsel
      rcases T.node_sel hsel with ⟨hg, hsel⟩ | ⟨_, hsel⟩
      rotate_left
      · simp [T.sel] at hsel
      simp only [T.sel, Option.some.injEq] at hsel
      subst hsel
      simp only [Bool.and_eq_true, decide_eq_true_eq] at hs hg
      have := sameTys_eq hs.1
      subst this
      have := Nat.eq_of_beq_eq_true hs.2
      subst this
      obtain ⟨p, cs, hp, h0, hst, hln, hcap, hheap, hsz⟩ := var2_of hc (k := 0) rfl hm hw2
      have hb : blkH [⟨true, Dat.gen s [[AV.ptr 0 0 0, .slw 1]]⟩, ⟨true, .bytes t L⟩] 0 = some ⟨true, .gen s [[.ptr 0 0 0, .slw 1]]⟩ := rfl
      have hb1 : blkH [⟨true, Dat.gen s [[AV.ptr 0 0 0, .slw 1]]⟩, ⟨true, .bytes t L⟩] 1 = some ⟨true, .bytes t L⟩ := rfl
      simp only [VL, V] at hv
      obtain ⟨v, r, rfl, ⟨p', hp', rfl⟩, rfl⟩ := hv
      have : p' = p := Option.some.inj (hp'.symm.trans hp)
      subst this
      rw [addr00 h0]
      obtain ⟨q, hq, k1, k2, k3, k4⟩ := hc.sat.pos 1 _ hb1
      have ks : q.stride = 1 := k1
      have kl : q.len = L.length := k2
      have hlen0 : 0 < L.length := List.length_pos_iff.2 hg.1
      have hq0 : 0 < q.cap := by omega
      obtain ⟨cur, e, g1, g2, g3⟩ := hc.sat.own 1 _ q hb1 rfl hq hq0
      obtain ⟨m1, m2, _⟩ := g3 t rfl
      rw [m1] at g1
      have hne : p'.block ≠ q.block := hc.sat.apart 0 _ p' 1 _ q hb rfl hp hcap hb1 hq (by decide) (.inl ⟨rfl, hq0⟩)
      obtain ⟨c1, hc1, hV1⟩ := hc.sat.cells 0 _ p' hb hp 0 (by simp [Dat.len]) 1 (.slw 1) rfl
      simp only [V] at hV1
      obtain ⟨q', hq', _, a, rfl, ha⟩ := hV1
      have : q' = q := Option.some.inj (hq'.symm.trans hq)
      subst this
      have ha := ha hq0
      subst ha
      rw [addr00 m2, Nat.sub_zero] at hc1
      rw [addr00 h0] at hc1
      obtain ⟨c0, hc0, _⟩ := hc.sat.cells 0 _ p' hb hp 0 (by simp [Dat.len]) 0 (.ptr 0 0 0) rfl
      rw [addr00 h0] at hc0
      have hcs2 : cs = #[c0, .slice (some ⟨q'.block, 0, none⟩) q'.len q'.cap] := by
        have e0 : cs[0]? = some c0 := by simpa [World.cell?, hheap] using hc0
        have e1 : cs[1]? = some (.slice (some ⟨q'.block, 0, none⟩) q'.len q'.cap) := by simpa [World.cell?, hheap] using hc1
        apply Array.ext_getElem?
        intro i
        match i with
        | 0 => simpa using e0
        | 1 => simpa using e1
        | i + 2 =>
          rw [Array.getElem?_eq_none (by omega), Array.getElem?_eq_none (by simp)]
      have hbl : (byteList L).length = L.length := by simp [byteList]
      have hcell : ∀ (j : Nat) (x : UInt8), (byteList L)[j]? = some x → w.cell? ⟨q'.block, j, none⟩ = some (.int .u8 x.toNat) := fun j x hx => by
        have hj : j < L.length := by rw [← hbl]; exact (List.getElem?_eq_some_iff.1 hx).1
        obtain ⟨c, e1, e2⟩ := hc.sat.cells 1 _ q' hb1 hq j hj 0 (.int .u8 L[j]) (by simp [Dat.row, List.getD, hj])
        simp only [V] at e2
        subst e2
        simp only [Pos.addr, m2, ks] at e1
        have e3 : w.cell? ⟨q'.block, j, none⟩ = some (.int .u8 L[j]) := by simpa using e1
        rw [e3]
        have hin : inByte L[j] = true := List.all_eq_true.1 hg.2 _ (List.getElem_mem hj)
        have hin := of_decide_eq_true hin
        have hx' : x = UInt8.ofNat L[j].toNat := by
          simp only [byteList, List.getElem?_map, List.getElem?_eq_getElem hj, Option.map_some, Option.some.injEq] at hx
          exact hx.symm
        rw [hx', UInt8.toNat_ofNat']
        congr 2
        omega
      have hmul : q'.cap * 1 ≤ cur.size := by rw [m2, ks] at g2; omega
      have hcl : ∀ w', w' = w.drew.freeze ⟨q'.block, 0, none⟩ (byteList L).length → ∀ x, w'.cell? x = w.cell? x := fun w' hw' x => by rw [hw', freeze_cell]; rfl
      have hhp : ∀ w', w' = w.drew.freeze ⟨q'.block, 0, none⟩ (byteList L).length → ∀ k, k ≠ q'.block → w'.heap[k]? = w.heap[k]? := fun w' hw' k hk => by rw [hw', freeze_heap_other _ _ _ hk]; rfl
      have hstp : ∀ w', w' = w.drew.freeze ⟨q'.block, 0, none⟩ (byteList L).length → Stp (domB (psRho ps) (blkH [⟨true, Dat.gen s [[AV.ptr 0 0 0, .slw 1]]⟩, ⟨true, .bytes t L⟩])) (domB (psRho ps) (blkH [⟨true, Dat.gen s [[AV.ptr 0 0 0, .slw 1]]⟩, ⟨false, .bytes t L⟩])) w w' := fun w' hw' => by
        refine ⟨⟨by rw [hw']; unfold World.freeze; split <;> rfl, by rw [hw']; unfold World.freeze; split <;> rfl, by rw [hw']; unfold World.freeze; split <;> rfl, by rw [hw', freeze_size]; exact Nat.le_refl _, fun k _ hk => hhp w' hw' k fun e => hk ⟨1, _, q', hb1, rfl, hq, hq0, e.symm⟩, fun a _ ha => ?_⟩, ?_, ?_⟩
        · rw [hw', freeze_frozen _ _ _ (fun e => ha ⟨1, _, q', hb1, rfl, hq, hq0, e.symm⟩)]; rfl
        · rintro k ⟨b, x, p, hbx, ho, hpb, hcp, rfl⟩
          match b, hbx with
          | 0, hbx => cases hbx; exact .inl ⟨0, _, p, hb, rfl, hpb, hcp, rfl⟩
          | 1, hbx => cases hbx; cases ho
        · rintro k ⟨b, x, p, hbx, hpb, hl, rfl⟩
          match b, hbx with
          | 0, hbx => cases hbx; exact .inl ⟨0, _, p, hb, hpb, hl, rfl⟩
          | 1, hbx => cases hbx; exact .inl ⟨1, ⟨true, .bytes t L⟩, p, hb1, hpb, .inr (hl.elim (fun h => by cases h.1) id), rfl⟩
      refine (walk p'.block q'.block q'.cap c0 cur (byteList L) w (by rw [hheap, hcs2, hbl, kl]) g1 (fun h => by rw [h] at hbl; simp at hbl; omega) (by omega) k4 (by omega) hcell).mono fun e w' ⟨he, hw'⟩ => ⟨_, ps, he, ?_, by simp [oneOrTup, V], ?_, ?_⟩
      · refine ⟨⟨fun b x hbx => ?_, fun b x hbx => ?_, fun b x p hbx hpb i hi j av hav => ?_, fun b x p hbx ho hpb hcp => ?_, fun b x p b' x' p2 hbx ho hpb hcp hbx' hpb' hne' hl => ?_⟩, hc.g.step (hstp w' hw'), hc.len, hc.few⟩
        · match b, hbx with
          | 0, hbx => cases hbx; exact hc.sat.pos 0 _ hb
          | 1, hbx => cases hbx; exact hc.sat.pos 1 ⟨true, .bytes t L⟩ hb1
        · match b, hbx with
          | 0, hbx => cases hbx; exact hc.sat.wf 0 _ hb
          | 1, hbx => cases hbx; exact hc.sat.wf 1 ⟨true, .bytes t L⟩ hb1
        · rw [hcl w' hw']
          match b, hbx with
          | 0, hbx => cases hbx; exact hc.sat.cells 0 _ p hb hpb i hi j av hav
          | 1, hbx => cases hbx; exact hc.sat.cells 1 ⟨true, .bytes t L⟩ p hb1 hpb i hi j av hav
        · match b, hbx with
          | 0, hbx =>
            cases hbx
            have : p = p' := Option.some.inj (hpb.symm.trans hp)
            subst this
            rw [hhp w' hw' _ hne]
            exact hc.sat.own 0 _ p hb rfl hpb hcp
          | 1, hbx => cases hbx; cases ho
        · match b, hbx, b', hbx' with
          | 0, hbx, 0, _ => exact absurd rfl hne'
          | 0, hbx, 1, hbx' =>
            cases hbx; cases hbx'
            exact hc.sat.apart 0 _ p 1 _ p2 hb rfl hpb hcp hb1 hpb' hne' (hl.elim (fun h => by cases h.1) .inr)
          | 1, hbx, _, _ => cases hbx; cases ho
      · refine ⟨hstp w' hw', fun k x p hk hpk hl => .inr ?_⟩
        match k, hk with
        | 0, hk => cases hk; exact ⟨0, _, p, rfl, hpk, hl, rfl⟩
        | 1, hk => cases hk; exact ⟨1, _, p, rfl, hpk, hl.elim (fun h => by cases h.1) .inr, rfl⟩
      · intro j k hj
        match j, hj with
        | 0, hj => cases hj; rfl
  · simp [T.sel] at hsel
end Go.Am
namespace Go.Am
section
variable {E : Env} {ρ : Rho} {h : Heap} {w w' : World} {C : CallR} {L : LoopR}
def FnOkD (E : Env) (f : FuncId) (s : FSpec) : Prop :=
  (∃ fn c, FnAt E.P f fn c) ∧
  ∀ (vs : List AV) (bs : List Blk) (out : Out), (s vs bs).sel = some out → ∀ (w : World) (cargs : List Value) (ps : List Pos) (u : FrameMode), CfgOk E w bs ps → VL (psRho ps) vs cargs →
    CallsD E.P f cargs.toArray u w fun e u' w' => u' = u ∧ ∃ cv ps', e = .returned cv ∧ CfgOk E w' out.blks ps' ∧ V (psRho ps') (oneOrTup out.vals) cv ∧ Mv w bs ps w' out.blks ps' ∧ ∀ (j : Nat) k, (pers vs bs)[j]? = some k → ps'[j]? = ps[k]?
theorem fnRun_okD {f : FuncId} {fn : Func} {c : Code} (hat : FnAt E.P f fn c) (hC : CG E C) (hL : LoopsOk E L c) {s : FSpec}
    (hspec : ∀ vs bs r, (s vs bs).sel = some r → (fnRun E C L fn c vs bs).sel = some r) : FnOkD E f s := by
  refine ⟨⟨fn, c, hat⟩, fun vs bs out hsel w cargs ps u hcfg hv => ?_⟩
  have hrun := hspec vs bs out hsel
  unfold fnRun at hrun
  cases hc : (Nat.ble vs.length fn.ntmps && Nat.ble bs.length 1000) with
  | false => simp [hc, T.sel] at hrun
  | true =>
    simp only [hc, cond_true] at hrun
    simp only [Bool.and_eq_true] at hc
    have hsat := start_sat hcfg (fn := fn) hv (Nat.le_of_ble_eq_true hc.1)
    obtain ⟨⟨e, st'⟩, h1, h2⟩ := T.bind_sel _ _ _ hrun
    have hcs := run_ok hC c hL _ e st' h1
    refine callsD_of_wp hat.func hat.body (hcs _ _ w hsat _ fun ρ' a' w' hs' hst hle hkd => ?_)
    have key : a'.defers = [] ∧ ∃ v, (results fn a'.tmps).run E.P w' = .ok v w' ∧ ∃ cv ps', Ending.returned v = .returned cv ∧ CfgOk E w' out.blks ps' ∧ V (psRho ps') (oneOrTup out.vals) cv ∧ Mv w bs ps w' out.blks ps' ∧ ∀ (j : Nat) k, (pers vs bs)[j]? = some k → ps'[j]? = ps[k]? := by
      unfold endR at h2
      have h3 : ((resultsR E st' fn.results.toList).bind fun l => expEnd E st'.h bs.length (pers vs bs) fn.resultTypes.toList l).sel = some out := by
        cases e with
        | exit id => simp [T.sel] at h2
        | normal => exact h2
        | ret => exact h2
      obtain ⟨l, h4, h5⟩ := T.bind_sel _ _ _ h3
      obtain ⟨cvs, h6, h7⟩ := resultsR_ok hs'.h rfl hs'.t _ l h4
      obtain ⟨ps', g1, g2, g3, g4⟩ := expEnd_ok hcfg rfl (fun k hk => pers_mem hk) hs'.h hs'.g hle hst h5 h7
      refine ⟨hkd.d, (if h : cvs.toArray.size = 1 then cvs.toArray[0] else .tuple cvs.toArray), ?_, _, ps', rfl, g1, oneOrTup_V g2, g3, g4⟩
      unfold results
      rw [Array.mapM_eq_mapM_toList, map_eq_pure_bind]
      simp only [Sem.run_bind, Sem.run_pure]
      exact congrArg (fun r : Result (List Value) => (r.andThen fun a w' => Result.ok a.toArray w').andThen fun a w' => Result.ok (if h : a.size = 1 then a[0] else Value.tuple a) w') h6
    cases e with
    | exit id => simp [endR, T.sel] at h2
    | normal => exact key
    | ret => exact key
theorem specC_callD {S : FuncId → Option (List Nat × FSpec)} {f : FuncId} {s : List Nat × FSpec} (hS : S f = some s) (hD : FnOkD E f s.2) {args : List AV} {id : Nat} {v : AV} {W : Upd} (hsel : (specC E S f args h id).sel = some (v, W))
    {cargs : List Value} (u : FrameMode) (hsat : SatH ρ h w) (hg : GOk E (ownB ρ h) w) (hargs : VL ρ args cargs) (hid : ∀ b, id ≤ b → b < id + 64 → ρ b = none) :
    CallsD E.P f cargs.toArray u w fun e u' w' => u' = u ∧ ∃ cv ρ', e = .returned cv ∧ ρ.le ρ' ∧ V ρ' v cv ∧ SatH ρ' (updW h W) w' ∧ Stp (domB ρ h) (domB ρ' (updW h W)) w w' ∧ (∀ b, ρ' b ≠ none → ρ b = none → id ≤ b ∧ b < id + 64) := by
  unfold specC at hsel
  rw [hS] at hsel
  simp only at hsel
  obtain ⟨⟨fn0, c, hat⟩, hcalls⟩ := hD
  split at hsel
  · simp [T.sel] at hsel
  · rename_i fn hfn
    have hff : fn0 = fn := by have := hat.func; rw [hfn] at this; exact (Option.some.inj this).symm
    subst hff
    split at hsel
    · simp [T.sel] at hsel
    · rename_i vs bs es hx
      obtain ⟨out, h1, h2⟩ := T.bind_sel _ _ _ hsel
      cases hc : (Nat.ble out.blks.length 64 && persOk es (pers vs bs)) with
      | false => rw [hc] at h2; simp [T.sel] at h2
      | true =>
        rw [hc, cond_true] at h2
        simp only [T.sel, Option.some.injEq, Prod.mk.injEq] at h2
        obtain ⟨rfl, rfl⟩ := h2
        simp only [Bool.and_eq_true] at hc
        obtain ⟨ps, hxo⟩ := expAll_ok hsat hg hx hargs
        refine (hcalls vs bs out h1 w cargs ps u hxo.cfg hxo.vals).mono fun e u' w' ⟨hu, cv, ps', he, hcfg, hcv, hmv, hsame⟩ => ⟨hu, ?_⟩
        obtain ⟨ρ', g1, g2, g3, g4, g5⟩ := import_ok (id := id) (m := 64) hsat hxo hc.2 hcfg hmv hsame (fun b h1 h2 => hid b h1 h2) (Nat.le_of_ble_eq_true hc.1)
        exact ⟨cv, ρ', he, g1, by rw [oneOrTup_ren]; exact g5 _ _ hcv, g2, g3, g4⟩
theorem Sat.set {st : AState} {a : Act} (hs : Sat E ρ st a w) {d : Nat} {v : Value} {av : AV} (hd : d < st.n) (hv : V ρ av v) (ds : List Deferred) :
    Sat E ρ { st with t := updF st.t d av } { tmps := a.tmps.setIfInBounds d v, defers := ds } w := by
  refine ⟨hs.h, hs.g, by simpa using hs.size, fun i => ?_, hs.dom, hs.glob⟩
  have hsz := hs.size
  by_cases e : i = d
  · subst e
    show V ρ (updF st.t i av i) _
    rw [updF_same]
    have : (a.tmps.setIfInBounds i v).getD i undef = v := by simp [Array.getD, Array.setIfInBounds, hsz, hd]
    rw [this]; exact hv
  · show V ρ (updF st.t d av i) _
    rw [updF_other _ _ _ e]
    have : (a.tmps.setIfInBounds d v).getD i undef = a.tmps.getD i undef := by
      simp only [Array.getD_eq_getD_getElem?]
      rw [Array.getElem?_setIfInBounds_ne (fun h => e h.symm)]
    rw [this]; exact hs.t i
def deferT (E : Env) (L : LoopR) (S : FuncId → Option (List Nat × FSpec)) (fn : Func) (cs : List Code) (c : Nat) (x tail : Code) (s d : Nat) (fd : FuncId) (cav : AV) (vs : List AV) (bs : List Blk) : T Out :=
  bif Nat.ble vs.length fn.ntmps && Nat.ble bs.length 1000 then
    (runs E (specC E S) L cs (startSt E fn vs bs)).bind fun st => match st.t c with
      | .bool b => .node b ((run E (specC E S) L x st).bind fun r => match r.1 with
        | .normal => bif Nat.blt d r.2.n then (run E (specC E S) L tail { r.2 with t := updF r.2.t d (r.2.t s) }).bind fun r3 => match r3.1 with
          | .exit _ => .bad
          | _ => bif Nat.blt r3.2.τ 1000000 then (specC E S fd [r.2.t s, cav] r3.2.h (r3.2.τ * 262144)).bind fun q => expEnd E (updW r3.2.h q.2) bs.length (pers vs bs) [] [] else .bad
          else .bad
        | _ => .bad) .bad
      | _ => .bad
  else .bad
theorem defer_ok {S : FuncId → Option (List Nat × FSpec)} {f fd : FuncId} {fn : Func} {cs : List Code} {c s d id : Nat} {x y tail : Code} {ops : Array Oper} {cav : AV} {cv : Value}
    (hat : FnAt E.P f fn (nest (.cond (.tmp c) (.seq x (.region id ops false)) y) tail cs)) (hne : cs ≠ []) (hC : CG E (specC E S)) (hL : ∀ z ∈ cs, LoopsOk E L z) (hLx : LoopsOk E L x) (hLt : LoopsOk E L tail) (hres : fn.results = #[])
    {sd : List Nat × FSpec} (hS : S fd = some sd) (hD : FnOkD E fd sd.2) (hinv : ∀ (args : Array Value) (w : World), (invoke (.fn (.func fd) #[]) args).run E.P w = .ok (.enter fd args) w)
    (hops : ∀ (a : Act) (w : World) (Q : Exit → Act → World → Prop), d < a.tmps.size → Q .normal { tmps := a.tmps.setIfInBounds d (a.tmps.getD s undef), defers := ⟨.fn (.func fd) #[], #[a.tmps.getD s undef, cv]⟩ :: a.defers } w → (Code.region id ops false).wp E.P Q a w)
    (hcv : ∀ ρ, V ρ cav cv) {s' : FSpec} (hspec : ∀ vs bs r, (s' vs bs).sel = some r → (deferT E L S fn cs c x tail s d fd cav vs bs).sel = some r) : FnOk E f s' := by
  refine ⟨⟨fn, _, hat⟩, fun vs bs out hsel w cargs ps hcfg hv => ?_⟩
  have hrun := hspec vs bs out hsel
  unfold deferT at hrun
  cases hc : (Nat.ble vs.length fn.ntmps && Nat.ble bs.length 1000) with
  | false => simp [hc, T.sel] at hrun
  | true =>
    simp only [hc, cond_true] at hrun
    simp only [Bool.and_eq_true] at hc
    have hsat := start_sat hcfg (fn := fn) hv (Nat.le_of_ble_eq_true hc.1)
    obtain ⟨st1, h1, h2⟩ := T.bind_sel _ _ _ hrun
    refine calls_of_wp_defers hat.func hat.body ?_
    refine runs_ok hC cs hne hL _ st1 h1 _ _ w hsat fun ρ1 a1 w1 hs1 hst1 hle1 hsz1 hd1 => ?_
    have hv1 := hs1.t c
    cases hb : st1.t c with
    | bool b =>
      rw [hb] at h2 hv1
      simp only at h2
      rcases T.node_sel h2 with ⟨rfl, h3⟩ | ⟨_, h3⟩
      · simp only [V] at hv1
        refine wp_cond_true (by simpa [Act.eval] using hv1) ?_
        obtain ⟨⟨e2, st2⟩, h4, h5⟩ := T.bind_sel _ _ _ h3
        cases e2 with
        | exit _ => simp [T.sel] at h5
        | ret => simp [T.sel] at h5
        | normal =>
          simp only at h5
          cases hdn : Nat.blt d st2.n with
          | false => rw [hdn] at h5; simp [T.sel] at h5
          | true =>
            rw [hdn, cond_true] at h5
            have hdn := lt_of_blt hdn
            refine wp_seq (run_ok hC x hLx _ _ _ h4 _ _ _ hs1 _ fun ρ2 a2 w2 hs2 hst2 hle2 hk2 => ?_)
            refine hops a2 w2 _ (by rw [hs2.size]; exact hdn) ?_
            have hsv := hs2.t s
            have hs2' := hs2.set (d := d) hdn hsv (⟨.fn (.func fd) #[], #[a2.tmps.getD s undef, cv]⟩ :: a2.defers)
            obtain ⟨⟨e3, st3⟩, h6, h7⟩ := T.bind_sel _ _ _ h5
            refine run_ok hC tail hLt _ _ _ h6 _ _ _ hs2' _ fun ρ3 a3 w3 hs3 hst3 hle3 hk3 => ?_
            have h8 : (bif Nat.blt st3.τ 1000000 then (specC E S fd [st2.t s, cav] st3.h (st3.τ * 262144)).bind fun q => expEnd E (updW st3.h q.2) bs.length (pers vs bs) [] [] else .bad).sel = some out := by
              cases e3 with
              | exit _ => simp [T.sel] at h7
              | normal => exact h7
              | ret => exact h7
            have hds : a3.defers = [⟨.fn (.func fd) #[], #[a2.tmps.getD s undef, cv]⟩] := by
              rw [hk3.d]
              show _ :: a2.defers = _
              rw [hk2.d, hd1]
            have key : Leaves E.P fn a3.tmps (fun e w' => ∃ cv ps', e = .returned cv ∧ CfgOk E w' out.blks ps' ∧ V (psRho ps') (oneOrTup out.vals) cv ∧ Mv w bs ps w' out.blks ps' ∧ ∀ (j : Nat) k, (pers vs bs)[j]? = some k → ps'[j]? = ps[k]?) a3.defers .returning w3 := by
              rw [hds]
              cases hτ : Nat.blt st3.τ 1000000 with
              | false => rw [hτ] at h8; simp [T.sel] at h8
              | true =>
                rw [hτ, cond_true] at h8
                have hτ := lt_of_blt hτ
                obtain ⟨⟨v4, W4⟩, h9, h10⟩ := T.bind_sel _ _ _ h8
                have hid : ∀ b, st3.τ * 262144 ≤ b → b < st3.τ * 262144 + 64 → ρ3 b = none := by
                  intro b hb1 hb2
                  cases hρ : ρ3 b with
                  | none => rfl
                  | some p =>
                    exfalso
                    rcases hs3.dom b (by rw [hρ]; simp) with h | h
                    · omega
                    · simp only [globBase] at h; omega
                have hargs : VL ρ3 [st2.t s, cav] [a2.tmps.getD s undef, cv] := by
                  simp only [VL]
                  exact ⟨_, _, rfl, V.mono hle3 _ _ hsv, _, _, rfl, hcv _, rfl⟩
                have hcd := specC_callD hS hD h9 .returning hs3.h hs3.g hargs hid
                refine leaves_cons (by simp) (hinv _ _) (hcd.mono fun e u' w4 ⟨hu, cv4, ρ4, he, g1, g2, g3, g4, g5⟩ => ?_)
                subst hu; subst he
                obtain ⟨ps', k1, k2, k3, k4⟩ := expEnd_ok hcfg rfl (fun k hk => pers_mem hk) g3 (hs3.g.step g4) (((hle1.trans hle2).trans hle3).trans g1) (((hst1.trans hst2).trans hst3).trans g4) h10 (cvs := []) (by simp [VL])
                refine ⟨.tuple #[], ?_, _, ps', rfl, k1, ?_, k3, k4⟩
                · unfold results
                  rw [hres]
                  simp
                · have := oneOrTup_V k2
                  simpa using this
            cases e3 with
            | exit _ => simp [T.sel] at h7
            | normal => exact key
            | ret => exact key
      · simp [T.sel] at h3
    | _ => rw [hb] at h2; simp [T.sel] at h2
end
end Go.Am
namespace Go.Am
open Go.RowKit Go.WideShapes Go.ChangeShapes
section
variable {H : Type} {enc : TypeId × Value → H} {P : Program} {w : World} {base : Nat} {spare : Nat → Bool} {held : Bool}
theorem slice_arg {α : Type} [Inhabited α] (el : α → List AV) (Q : α → Prop) {t e : TypeId} {b0 : Nat} {v : Value} {d : DataW H} {ps : List MemPlace} (ht : P.underlying t = some (.slice e)) (hval : Value.okWide P w .any b0 t v)
    (h : DataW.Trod enc P w base spare held t v d ps)
    (he : ∀ (n : Nat) (cs : List Value) (y : DataW H × List MemPlace), DataW.trod enc P w base spare held n e cs = some y → ∃ x : α, VL (fun _ => none) (el x) cs ∧ Q x) :
    ∃ (L : List α) (p : Pos), V (fun _ => some p) (.slw 0) v ∧ p.stride = P.cellsOf e ∧ p.len = L.length ∧ p.len ≤ p.cap ∧ p.cap ≤ maxLen ∧ (∀ x ∈ L, Q x) ∧
      ∀ i, i < L.length → ∀ j av, (el (L.getD i default))[j]? = some av → ∃ c, w.cell? (p.addr i j) = some c ∧ V (fun _ => none) av c := by
  obtain ⟨a0, len0, cap0, rfl⟩ := okWide_slice ht hval
  obtain ⟨n, hn⟩ := h
  rcases Go.Deep.open_slice ht hn with ⟨hcs, _⟩ | ⟨a, len, cap, m, n', D, Pl, hcs, _, hl, hm, hmm, _, hx⟩
  · simp only [Value.cells, List.cons.injEq, and_true] at hcs
    cases hcs
    refine ⟨[], ⟨0, 0, P.cellsOf e, 0, 0⟩, ?_, rfl, rfl, Nat.le_refl _, Nat.zero_le _, fun x hx => (by cases hx), fun i hi => (by simp at hi)⟩
    simp only [V]
    exact ⟨_, rfl, Nat.le_refl _, none, rfl, fun h => absurd h (Nat.lt_irrefl 0)⟩
  · simp only [Value.cells, List.cons.injEq, and_true] at hcs
    cases hcs
    have hsp : a.spot = none := by
      have := hval
      simp only [Value.okWide, ht, Cell.okWide, Cell.ok] at this
      exact this.2.2.2.1
    obtain ⟨b, off, spot⟩ := a
    have hsp : spot = none := hsp
    subst hsp
    have hlm : len0 ≤ m := by rw [hmm]; split <;> omega
    obtain ⟨f, hf⟩ := Go.Deep.choose_lt (α := α) (n := len0) (p := fun i x => Q x ∧ ∀ j av, (el x)[j]? = some av → ∃ c, w.cell? ⟨b, off + i * P.cellsOf e + j, none⟩ = some c ∧ V (fun _ => none) av c) (fun i hi => by
      obtain ⟨cs', h1, h2⟩ := hx i (by omega)
      obtain ⟨x, h3, h4⟩ := he _ _ _ h2
      obtain ⟨_, hlen, hcell⟩ := World.cells?_some h1
      refine ⟨x, h4, fun j av hj => ?_⟩
      obtain ⟨c, h5, h6⟩ := h3.get hj
      have hjl : j < P.cellsOf e := by rw [← hlen]; exact (List.getElem?_eq_some_iff.1 h5).1
      refine ⟨c, ?_, h6⟩
      have := hcell j hjl
      rw [h5, Go.Deep.add_add, add_plain, ← Nat.add_assoc] at this
      exact this)
    refine ⟨(List.range len0).map f, ⟨b, off, P.cellsOf e, len0, cap0⟩, ?_, rfl, by simp, hl, hm, fun x hx => ?_, fun i hi j av hj => ?_⟩
    · simp only [V]
      exact ⟨_, rfl, hl, _, rfl, fun _ => by simp [Pos.addr]⟩
    · obtain ⟨i, hi, rfl⟩ := List.mem_map.1 hx
      exact (hf i (List.mem_range.1 hi)).1
    · simp only [List.length_map, List.length_range] at hi
      have e1 : ((List.range len0).map f).getD i default = f i := by simp [List.getD, hi]
      rw [e1] at hj
      exact (hf i hi).2 j av hj
end
theorem cfg_reads {E : Env} {w : World} (hg : GOk E (fun _ => False) w) {bs : List Blk} {ps : List Pos} (hl : ps.length = bs.length) (hfew : bs.length ≤ 1000)
    (h : ∀ (k : Nat) x p, bs[k]? = some x → ps[k]? = some p → x.own = false ∧ RdD w x.dat p) : CfgOk E w bs ps := by
  have hps : ∀ (k : Nat) x, bs[k]? = some x → ∃ p, ps[k]? = some p := fun k x hk => ⟨_, List.getElem?_eq_getElem (by rw [hl]; exact (List.getElem?_eq_some_iff.1 hk).1)⟩
  refine ⟨⟨fun b x hb => ?_, fun b x hb => ?_, fun b x p hb hp => ?_, fun b x p hb ho hp _ => ?_, fun b x p _ _ _ hb ho hp _ _ _ _ _ => ?_⟩, ⟨hg.laid, hg.size, hg.base, ?_⟩, hl, hfew⟩
  · obtain ⟨p, hp⟩ := hps b x hb
    have := (h b x p hb hp).2
    exact ⟨p, hp, this.stride, this.len, this.cap, this.max⟩
  · obtain ⟨p, hp⟩ := hps b x hb
    exact (h b x p hb hp).2.wf
  · intro i hi j av hj
    obtain ⟨c, h1, h2⟩ := (h b x p hb hp).2.cells i hi j av hj
    exact ⟨c, h1, h2.mono (fun _ _ h => by cases h)⟩
  · rw [(h b x p hb hp).1] at ho; cases ho
  · rw [(h b x p hb hp).1] at ho; cases ho
  · rintro k ⟨b, x, p, hb, ho, hp, _, _⟩
    rw [(h b x p hb hp).1] at ho; cases ho
theorem law_calls2 {E : Env} {f : FuncId} {s : FSpec} (h : FnOk E f s) {vs : List AV} {bs : List Blk} (hs : (s vs bs).sel = some ⟨[.bool true], []⟩) {w : World} {cargs : List Value} {ps : List Pos} (hc : CfgOk E w bs ps)
    (hown : ∀ x ∈ bs, x.own = false) (hv : VL (psRho ps) vs cargs) :
    Calls E.P f cargs.toArray w fun e w' => e = .returned (.bool true) ∧ Below w.heap.size w w' := by
  refine (h.2 vs bs _ hs w cargs ps hc hv).mono fun e w' ⟨cv, ps', he, hc', hcv, hm, _⟩ => ?_
  have hps : ps' = [] := List.eq_nil_of_length_eq_zero hc'.len
  subst hps
  simp only [oneOrTup, V] at hcv
  refine ⟨by rw [he, hcv], below_ext (hm.stp.ext.mono fun k _ hk => ?_)⟩
  obtain ⟨b, x, p, hb, ho, _⟩ := hk
  rw [hown x (List.mem_of_getElem? hb)] at ho; cases ho
section
variable {H : Type} {enc : TypeId × Value → H} {P : Program} {w : World} {base : Nat} {spare : Nat → Bool} {held : Bool}
end
theorem slw_at {ps : List Pos} {k : Nat} {p : Pos} {v : Value} (hk : ps[k]? = some p) (h : V (fun _ => some p) (.slw 0) v) : V (psRho ps) (.slw k) v := by
  simp only [V] at h ⊢
  obtain ⟨q, hq, r⟩ := h
  cases hq
  exact ⟨p, hk, r⟩
end Go.Am
