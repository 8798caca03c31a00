/-
  AM3: a strings.Builder's String: walked, what becomes of the world told whole.
-/
import Derived.Test.YthfieonkfailkaaGreatDoorAmBuild
namespace Go.Am
open Go.RowKit Go.Shelf Go.Proofs

section
variable {P : Program} {ρ : Ren}
set_option maxHeartbeats 2000000 in
set_option maxRecDepth 100000 in
theorem str_walk (L : Lays.n169 P ρ) (X : Builder.Extra P ρ) (b g cap : Nat) (p : Value) (cur : Array Value) (l : List UInt8) (w : World) (hbk : w.heap[b]? = some (.cells #[p, .slice (some ⟨g, 0, none⟩) l.length cap] (ρ.t 72) (0, 0)))
    (hg : w.heap[g]? = some (.cells cur (ρ.t 5) (0, 0))) (h0 : l ≠ []) (hcap : l.length ≤ cap) (hcm : cap ≤ maxLen) (hcs : l.length ≤ cur.size) (hcell : ∀ (j : Nat) (x : UInt8), l[j]? = some x → w.cell? ⟨g, j, none⟩ = some (.int .u8 x.toNat)) :
    Calls P (ρ.f 169) #[.pointer (some ⟨b, 0, none⟩)] w fun e w' => e = .returned (.string ⟨l.toArray⟩) ∧ w' = w.drew.freeze ⟨g, 0, none⟩ l.length := by
  have hl0 : l.length ≠ 0 := by simpa using h0
  have c1 : w.drew.cell? ⟨b, 1, none⟩ = some (.slice (some ⟨g, 0, none⟩) l.length cap) := by
    have hb' : w.drew.heap[b]? = some (.cells #[p, .slice (some ⟨g, 0, none⟩) l.length cap] (ρ.t 72) (0, 0)) := hbk
    rw [Lib.cell_of_heap hb']; rfl
  have hSD : (Builtin.unsafeSliceData_ #[(ρ.t 37)] (ρ.t 127) #[.slice (some ⟨g, 0, none⟩) l.length cap]).run P w.drew = .ok (.pointer (some ⟨g, 0, none⟩)) w.drew :=
    Lib.run_unsafeSliceData_row _ _ _ _ _ _ (by omega)
  have hUS : (Builtin.unsafeString_ #[(ρ.t 127), (ρ.t 3)] (ρ.t 9) #[.pointer (some ⟨g, 0, none⟩), .int .i64 l.length]).run P w.drew = .ok (.string ⟨l.toArray⟩) (w.drew.freeze ⟨g, 0, none⟩ l.length) := by
    refine Lib.run_unsafeString_row w.drew (ρ.t 127) (ρ.t 3) (ρ.t 9) (ρ.t 5) L.t127 X.cellsByte g cur.size (by have hg' : w.drew.heap[g]? = some (.cells cur (ρ.t 5) (0, 0)) := hg; simp [World.shape?, hg']) l h0 hcs (by unfold maxLen at hcm; omega) ?_
    intro j x hx
    rw [show (⟨g, 0, none⟩ : Addr).add j = ⟨g, j, none⟩ from by unfold Addr.add; split <;> simp_all]
    exact hcell j x hx
  have mixed := L.mixed
  have t72 := L.t72; have a72 := L.a72; have z72 := L.z72; have v72 := L.v72; have u72 := run_underlying L.t72
  have t70 := L.t70; have a70 := L.a70; have z70 := L.z70; have v70 := L.v70; have u70 := run_underlying L.t70
  have t37 := L.t37; have a37 := L.a37; have z37 := L.z37; have v37 := L.v37; have u37 := run_underlying L.t37
  have t127 := L.t127; have a127 := L.a127; have z127 := L.z127; have v127 := L.v127; have u127 := run_underlying L.t127
  have t3 := L.t3; have a3 := L.a3; have z3 := L.z3; have v3 := L.v3; have u3 := run_underlying L.t3
  have t9 := L.t9; have a9 := L.a9; have z9 := L.z9; have v9 := L.v9; have u9 := run_underlying L.t9
  have t5 := X.t5; have a5 := X.a5; have z5 := X.z5; have v5 := X.v5; have u5 := run_underlying X.t5
  go_enter L.f169, Body.n169_ntmps ρ
  go_wp2
  go_region_o
  all_goals (go_wp2; go_ret; exact ⟨rfl, rfl⟩)
end

theorem freeze_heap_other (w : World) (a : Addr) (n : Nat) {k : Nat} (h : k ≠ a.block) : (w.freeze a n).heap[k]? = w.heap[k]? := by
  unfold World.freeze
  split
  · rfl
  · simp only [Array.getElem?_modify]
    rw [if_neg (fun e => h e.symm)]
theorem freeze_cell (w : World) (a : Addr) (n : Nat) (x : Addr) : (w.freeze a n).cell? x = w.cell? x := by
  unfold World.freeze
  split
  · rfl
  · simp only [World.cell?, Array.getElem?_modify]
    by_cases e : a.block = x.block
    · simp only [e, if_true]
      cases w.heap[x.block]? with
      | none => rfl
      | some o => cases o <;> rfl
    · simp [e]
theorem freeze_frozen (w : World) (a : Addr) (n : Nat) {x : Addr} (h : x.block ≠ a.block) : (w.freeze a n).frozen? x = w.frozen? x := by
  unfold World.frozen?
  rw [freeze_heap_other w a n h]
theorem freeze_size (w : World) (a : Addr) (n : Nat) : (w.freeze a n).heap.size = w.heap.size := by
  unfold World.freeze
  split
  · rfl
  · simp
def inByte (n : Int) : Bool := decide (0 ≤ n ∧ n ≤ 255)
def sBStr (tys : List TypeId) (t5 : TypeId) : FSpec
  | [.ptr 0 0 0], [⟨true, .gen s [[.ptr 0 0 0, .slw 1]]⟩, ⟨true, .bytes t L⟩] => bif sameTys s tys && Nat.beq t t5 then
      .node (decide (L ≠ []) && L.all inByte) (.leaf ⟨[.str (byteList L)], [⟨true, .gen s [[.ptr 0 0 0, .slw 1]]⟩, ⟨false, .bytes t L⟩]⟩) .bad else .bad
  | _, _ => .bad
theorem str_ok {E : Env} {f : FuncId} (hat : ∃ fn c, FnAt E.P f fn c) {tys : List TypeId} {U t5 : TypeId} (hm : markOf tys = some U) (hw2 : wid tys = 2)
    (walk : ∀ (b g cap : Nat) (p : Value) (cur : Array Value) (l : List UInt8) (w : World), w.heap[b]? = some (.cells #[p, .slice (some ⟨g, 0, none⟩) l.length cap] U (0, 0)) → w.heap[g]? = some (.cells cur t5 (0, 0)) → l ≠ [] → l.length ≤ cap → cap ≤ maxLen → l.length ≤ cur.size →
      (∀ (j : Nat) (x : UInt8), l[j]? = some x → w.cell? ⟨g, j, none⟩ = some (.int .u8 x.toNat)) → Calls E.P f #[.pointer (some ⟨b, 0, none⟩)] w fun e w' => e = .returned (.string ⟨l.toArray⟩) ∧ w' = w.drew.freeze ⟨g, 0, none⟩ l.length) : FnOk E f (sBStr tys t5) := by
  refine ⟨hat, fun vs bs out hsel w cargs ps hc hv => ?_⟩
  unfold sBStr at hsel
  split at hsel
  · rename_i s t L
    cases hs : (sameTys s tys && Nat.beq t t5) with
    | false => rw [hs] at hsel; simp [T.sel] at hsel
    | true =>
      rw [hs] at hsel
      simp only [cond_true] at hsel
      rcases T.node_sel hsel with ⟨hg, hsel⟩ | ⟨_, hsel⟩
      rotate_left
      · simp [T.sel] at hsel
      simp only [T.sel, Option.some.injEq] at hsel
      subst hsel
      simp only [Bool.and_eq_true, decide_eq_true_eq] at hs hg
      have := sameTys_eq hs.1
      subst this
      have := Nat.eq_of_beq_eq_true hs.2
      subst this
      obtain ⟨p, cs, hp, h0, hst, hln, hcap, hheap, hsz⟩ := var2_of hc (k := 0) rfl hm hw2
      have hb : blkH [⟨true, Dat.gen s [[AV.ptr 0 0 0, .slw 1]]⟩, ⟨true, .bytes t L⟩] 0 = some ⟨true, .gen s [[.ptr 0 0 0, .slw 1]]⟩ := rfl
      have hb1 : blkH [⟨true, Dat.gen s [[AV.ptr 0 0 0, .slw 1]]⟩, ⟨true, .bytes t L⟩] 1 = some ⟨true, .bytes t L⟩ := rfl
      simp only [VL, V] at hv
      obtain ⟨v, r, rfl, ⟨p', hp', rfl⟩, rfl⟩ := hv
      have : p' = p := Option.some.inj (hp'.symm.trans hp)
      subst this
      rw [addr00 h0]
      -- the buffer
      obtain ⟨q, hq, k1, k2, k3, k4⟩ := hc.sat.pos 1 _ hb1
      have ks : q.stride = 1 := k1
      have kl : q.len = L.length := k2
      have hlen0 : 0 < L.length := List.length_pos_iff.2 hg.1
      have hq0 : 0 < q.cap := by omega
      obtain ⟨cur, e, g1, g2, g3⟩ := hc.sat.own 1 _ q hb1 rfl hq hq0
      obtain ⟨m1, m2, _⟩ := g3 t rfl
      rw [m1] at g1
      have hne : p'.block ≠ q.block := hc.sat.apart 0 _ p' 1 _ q hb rfl hp hcap hb1 hq (by decide) (.inl ⟨rfl, hq0⟩)
      -- its slice
      obtain ⟨c1, hc1, hV1⟩ := hc.sat.cells 0 _ p' hb hp 0 (by simp [Dat.len]) 1 (.slw 1) rfl
      simp only [V] at hV1
      obtain ⟨q', hq', _, a, rfl, ha⟩ := hV1
      have : q' = q := Option.some.inj (hq'.symm.trans hq)
      subst this
      have ha := ha hq0
      subst ha
      rw [addr00 m2, Nat.sub_zero] at hc1
      rw [addr00 h0] at hc1
      obtain ⟨c0, hc0, _⟩ := hc.sat.cells 0 _ p' hb hp 0 (by simp [Dat.len]) 0 (.ptr 0 0 0) rfl
      rw [addr00 h0] at hc0
      have hcs2 : cs = #[c0, .slice (some ⟨q'.block, 0, none⟩) q'.len q'.cap] := by
        have e0 : cs[0]? = some c0 := by simpa [World.cell?, hheap] using hc0
        have e1 : cs[1]? = some (.slice (some ⟨q'.block, 0, none⟩) q'.len q'.cap) := by simpa [World.cell?, hheap] using hc1
        apply Array.ext_getElem?
        intro i
        match i with
        | 0 => simpa using e0
        | 1 => simpa using e1
        | i + 2 =>
          rw [Array.getElem?_eq_none (by omega), Array.getElem?_eq_none (by simp)]
      have hbl : (byteList L).length = L.length := by simp [byteList]
      have hcell : ∀ (j : Nat) (x : UInt8), (byteList L)[j]? = some x → w.cell? ⟨q'.block, j, none⟩ = some (.int .u8 x.toNat) := fun j x hx => by
        have hj : j < L.length := by rw [← hbl]; exact (List.getElem?_eq_some_iff.1 hx).1
        obtain ⟨c, e1, e2⟩ := hc.sat.cells 1 _ q' hb1 hq j hj 0 (.int .u8 L[j]) (by simp [Dat.row, List.getD, hj])
        simp only [V] at e2
        subst e2
        simp only [Pos.addr, m2, ks] at e1
        have e3 : w.cell? ⟨q'.block, j, none⟩ = some (.int .u8 L[j]) := by simpa using e1
        rw [e3]
        have hin : inByte L[j] = true := List.all_eq_true.1 hg.2 _ (List.getElem_mem hj)
        have hin := of_decide_eq_true hin
        have hx' : x = UInt8.ofNat L[j].toNat := by
          simp only [byteList, List.getElem?_map, List.getElem?_eq_getElem hj, Option.map_some, Option.some.injEq] at hx
          exact hx.symm
        rw [hx', UInt8.toNat_ofNat']
        congr 2
        omega
      have hmul : q'.cap * 1 ≤ cur.size := by rw [m2, ks] at g2; omega
      have hcl : ∀ w', w' = w.drew.freeze ⟨q'.block, 0, none⟩ (byteList L).length → ∀ x, w'.cell? x = w.cell? x := fun w' hw' x => by rw [hw', freeze_cell]; rfl
      have hhp : ∀ w', w' = w.drew.freeze ⟨q'.block, 0, none⟩ (byteList L).length → ∀ k, k ≠ q'.block → w'.heap[k]? = w.heap[k]? := fun w' hw' k hk => by rw [hw', freeze_heap_other _ _ _ hk]; rfl
      have hstp : ∀ w', w' = w.drew.freeze ⟨q'.block, 0, none⟩ (byteList L).length → Stp (domB (psRho ps) (blkH [⟨true, Dat.gen s [[AV.ptr 0 0 0, .slw 1]]⟩, ⟨true, .bytes t L⟩])) (domB (psRho ps) (blkH [⟨true, Dat.gen s [[AV.ptr 0 0 0, .slw 1]]⟩, ⟨false, .bytes t L⟩])) w w' := fun w' hw' => by
        refine ⟨⟨by rw [hw']; unfold World.freeze; split <;> rfl, by rw [hw']; unfold World.freeze; split <;> rfl, by rw [hw']; unfold World.freeze; split <;> rfl, by rw [hw', freeze_size]; exact Nat.le_refl _, fun k _ hk => hhp w' hw' k fun e => hk ⟨1, _, q', hb1, rfl, hq, hq0, e.symm⟩, fun a _ ha => ?_⟩, ?_, ?_⟩
        · rw [hw', freeze_frozen _ _ _ (fun e => ha ⟨1, _, q', hb1, rfl, hq, hq0, e.symm⟩)]; rfl
        · rintro k ⟨b, x, p, hbx, ho, hpb, hcp, rfl⟩
          match b, hbx with
          | 0, hbx => cases hbx; exact .inl ⟨0, _, p, hb, rfl, hpb, hcp, rfl⟩
          | 1, hbx => cases hbx; cases ho
        · rintro k ⟨b, x, p, hbx, hpb, hl, rfl⟩
          match b, hbx with
          | 0, hbx => cases hbx; exact .inl ⟨0, _, p, hb, hpb, hl, rfl⟩
          | 1, hbx => cases hbx; exact .inl ⟨1, ⟨true, .bytes t L⟩, p, hb1, hpb, .inr (hl.elim (fun h => by cases h.1) id), rfl⟩
      refine (walk p'.block q'.block q'.cap c0 cur (byteList L) w (by rw [hheap, hcs2, hbl, kl]) g1 (fun h => by rw [h] at hbl; simp at hbl; omega) (by omega) k4 (by omega) hcell).mono fun e w' ⟨he, hw'⟩ => ⟨_, ps, he, ?_, by simp [oneOrTup, V], ?_, ?_⟩
      · refine ⟨⟨fun b x hbx => ?_, fun b x hbx => ?_, fun b x p hbx hpb i hi j av hav => ?_, fun b x p hbx ho hpb hcp => ?_, fun b x p b' x' p2 hbx ho hpb hcp hbx' hpb' hne' hl => ?_⟩, hc.g.step (hstp w' hw'), hc.len, hc.few⟩
        · match b, hbx with
          | 0, hbx => cases hbx; exact hc.sat.pos 0 _ hb
          | 1, hbx => cases hbx; exact hc.sat.pos 1 ⟨true, .bytes t L⟩ hb1
        · match b, hbx with
          | 0, hbx => cases hbx; exact hc.sat.wf 0 _ hb
          | 1, hbx => cases hbx; exact hc.sat.wf 1 ⟨true, .bytes t L⟩ hb1
        · rw [hcl w' hw']
          match b, hbx with
          | 0, hbx => cases hbx; exact hc.sat.cells 0 _ p hb hpb i hi j av hav
          | 1, hbx => cases hbx; exact hc.sat.cells 1 ⟨true, .bytes t L⟩ p hb1 hpb i hi j av hav
        · match b, hbx with
          | 0, hbx =>
            cases hbx
            have : p = p' := Option.some.inj (hpb.symm.trans hp)
            subst this
            rw [hhp w' hw' _ hne]
            exact hc.sat.own 0 _ p hb rfl hpb hcp
          | 1, hbx => cases hbx; cases ho
        · match b, hbx, b', hbx' with
          | 0, hbx, 0, _ => exact absurd rfl hne'
          | 0, hbx, 1, hbx' =>
            cases hbx; cases hbx'
            exact hc.sat.apart 0 _ p 1 _ p2 hb rfl hpb hcp hb1 hpb' hne' (hl.elim (fun h => by cases h.1) .inr)
          | 1, hbx, _, _ => cases hbx; cases ho
      · refine ⟨hstp w' hw', fun k x p hk hpk hl => .inr ?_⟩
        match k, hk with
        | 0, hk => cases hk; exact ⟨0, _, p, rfl, hpk, hl, rfl⟩
        | 1, hk => cases hk; exact ⟨1, _, p, rfl, hpk, hl.elim (fun h => by cases h.1) .inr, rfl⟩
      · intro j k hj
        match j, hj with
        | 0, hj => cases hj; rfl
  · simp [T.sel] at hsel
end Go.Am
