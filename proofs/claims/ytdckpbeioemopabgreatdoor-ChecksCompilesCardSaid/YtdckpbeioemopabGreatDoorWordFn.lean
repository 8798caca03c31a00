/-
  Chars: Word: walked.
-/
import Derived.Test.YtdckpbeioemopabGreatDoorWordIter
import Derived.Scope
import Derived.Lib.SlicesS
namespace Go.Proofs.YtdckpbeioemopabGreatDoor
open Go.RowKit Go.Shelf Go.Lib
attribute [local go_sem] Oper.semAt_some
section
variable {F : Fence} {n : Nat} {P : Program} {b : Frame} {a : Act} {k : List Item} {cs : List Frame} {w : World} {Q : Exit → Act → World → Prop}
theorem stepR_scope {c : Code} : step P (lone (b.atR a (.code (.scope c) :: k)) cs w) = .next (lone (b.atR a (.code c :: .inScope c :: k)) cs w) :=
  step_lone_go (by simp [stepG, stepG.exec, Frame.atR])
theorem stepR_inScope {c : Code} : step P (lone (b.atR a (.inScope c :: k)) cs w) = .next (lone (b.atR a k) cs w) :=
  step_lone_go (by simp [stepG, stepG.exec, Frame.atR])
theorem wpIn_scope_straight {c : Code} (h : c.wpIn F n P (Exit.noGoto Q) a w) : (Code.scope c).wpIn F n P Q a w := by
  intro b k cs hro hb hr
  have h0 : (lone (b.atR a (.code (.scope c) :: k)) cs w).fenced P F := fenced_calm hb hr rfl
  obtain ⟨e, a₁, w₁, hq, harr⟩ := h b (.inScope c :: k) cs hro hb hr
  cases e with
  | normal => exact ⟨.normal, a₁, w₁, hq, .head h0 stepR_scope (StepsIn.trans harr (.one (fenced_calm hb hr rfl) stepR_inScope))⟩
  | exit id =>
    have hx : exitTo id (.inScope c :: k) = exitTo id k := by simp [exitTo]
    exact ⟨.exit id, a₁, w₁, hq, fun k' hk => .head h0 stepR_scope (harr.1 k' (by rw [hx]; exact hk)),
      fun hr' hk => let ⟨k₁, h1, h2⟩ := harr.2 hr' (by rw [hx]; exact hk); ⟨k₁, h1, .head h0 stepR_scope h2⟩⟩
  | goto l => exact hq.elim
  | ret => exact ⟨_, a₁, w₁, hq, .of_steps (.one h0 stepR_scope) harr⟩
  | panic ch => exact ⟨_, a₁, w₁, hq, .of_steps (.one h0 stepR_scope) harr⟩
  | outgrown => exact ⟨_, a₁, w₁, hq, .of_steps (.one h0 stepR_scope) harr⟩
end
def grpS : Nat → ByteArray
  | 0 => ⟨#[115, 101, 108, 101, 99, 116, 32, 102, 114, 111, 109, 32, 119, 104, 101, 114, 101, 32, 119, 105, 110, 100, 111, 119, 32, 98, 121, 32, 107, 101, 121, 32, 108, 97, 116, 101, 32, 100, 114, 111, 112, 32, 115, 105, 100, 101]⟩
  | 1 => ⟨#[99, 111, 117, 110, 116, 32, 115, 117, 109, 32, 109, 105, 110, 32, 109, 97, 120, 32, 97, 110, 100, 32, 111, 114, 32, 110, 111, 116]⟩
  | 2 => ⟨#[117, 110, 105, 111, 110, 32, 106, 111, 105, 110, 32, 116, 117, 109, 98, 108, 101, 32, 115, 108, 105, 100, 101, 32, 101, 118, 101, 114, 121, 32, 115, 101, 115, 115, 105, 111, 110]⟩
  | _ => ⟨#[97, 32, 98, 32, 99, 32, 100, 32, 107, 32, 116, 32, 118]⟩
theorem grp_ascii (k : Nat) (hk : k < 4) : ∀ (j : Nat) b, (grpS k).data.toList[j]? = some b → b.toNat < 128 := by
  intro j b h
  have hall : (List.range 4).all (fun k => (grpS k).data.toList.all fun b => decide (b.toNat < 128)) = true := by decide +kernel
  have := List.all_eq_true.1 hall k (List.mem_range.2 hk)
  exact of_decide_eq_true (List.all_eq_true.1 this b (List.mem_of_getElem? h))
theorem grp_size (k : Nat) (hk : k < 4) : (grpS k).size < 4294967281 := by
  have hall : (List.range 4).all (fun k => decide ((grpS k).size < 4294967281)) = true := by decide +kernel
  exact of_decide_eq_true (List.all_eq_true.1 hall k (List.mem_range.2 hk))
def markOf (D : Nat) : Deferred := { target := .collected D, args := #[] }
structure Marks (W : World) (lo : Nat) (Ds : List Nat) : Prop where
  at' : ∀ D ∈ Ds, lo ≤ D ∧ W.heap[D]? = some (.deferred (some []))
  nd : Ds.Nodup
theorem Marks.put {W : World} {lo D : Nat} {Ds : List Nat} (o : Obj) (h : Marks W lo (D :: Ds)) : Marks (W.putObj D o) lo Ds where
  at' D' hD' := by
    have hne : D' ≠ D := fun e => (List.nodup_cons.1 h.nd).1 (e ▸ hD')
    exact ⟨(h.at' D' (List.mem_cons_of_mem _ hD')).1, (World.putObj_heap_other (by omega)).trans (h.at' D' (List.mem_cons_of_mem _ hD')).2⟩
  nd := (List.nodup_cons.1 h.nd).2
theorem leaves_marks {F : Fence} {n : Nat} {P : Program} {fn : Func} {tmps : Array Value} {R : Ending → World → Prop} {lo : Nat} : ∀ (Ds : List Nat) (W : World), Marks W lo Ds →
    (∀ W', Below lo W W' → LeavesIn F n P fn tmps R [] .returning W') → LeavesInM F n P fn tmps R (Ds.map markOf) .returning W
  | [], W, _, h => h W (Below.refl _ _)
  | D :: Ds, W, hm, h => by
    have hD := hm.at' D (List.mem_cons_self ..)
    have hlt : D < W.heap.size := (Array.getElem?_eq_some_iff.1 hD.2).1
    refine ⟨by simp, .inl ⟨D, _, rfl, run_takeDeferred hD.2, leaves_marks Ds _ (hm.put _) fun W' hW' => h W' (Below.trans ?_ hW')⟩⟩
    exact (Below.refl lo W).grown (grownBy_putObj' W D _) (by omega) (fun k e => by cases e; exact hD.1)
theorem ownFrom_marks {β : Type} {B lo : Nat} {Ds : List Nat} (h : ∀ D ∈ Ds, D < B) : OwnFrom B (fun (_ : β) W => Marks W lo Ds) := fun s W W' row hs hg hr =>
  ⟨fun D hD => ⟨(hs.at' D hD).1, (hg.block D (Array.getElem?_eq_some_iff.1 (hs.at' D hD).2).1 (fun e => by have := (hr D e.symm).1; have := h D hD; omega)).trans (hs.at' D hD).2⟩, hs.nd⟩
theorem Marks.keeps {W W' : World} {lo : Nat} {Ds : List Nat} (h : Marks W lo Ds) (hk : KeepsOthers W W') : Marks W' lo Ds := ⟨fun D hD => ⟨(h.at' D hD).1, hk.same D _ (h.at' D hD).2 rfl⟩, h.nd⟩
theorem Marks.lt {W : World} {lo : Nat} {Ds : List Nat} (h : Marks W lo Ds) : ∀ D ∈ Ds, D < W.heap.size := fun D hD => (Array.getElem?_eq_some_iff.1 (h.at' D hD).2).1
theorem Marks.cons {W : World} {lo D B : Nat} {Ds : List Nat} (h : Marks W lo Ds) (hlt : ∀ D ∈ Ds, D < B) (hD : B ≤ D) (hlo : lo ≤ D) (hk : W.heap[D]? = some (.deferred (some []))) : Marks W lo (D :: Ds) where
  at' D' hD' := by
    rcases List.mem_cons.1 hD' with rfl | h'
    · exact ⟨hlo, hk⟩
    · exact h.at' D' h'
  nd := List.nodup_cons.2 ⟨fun hm => by have := hlt D hm; omega, h.nd⟩
theorem kpB_b {Bn : Nat} {w : World} (_ : Bn < w.heap.size) (_ : 0 < w.heap.size) (W : World) (l : Nat) (o o' : Obj) (hl : w.heap.size ≤ l) (_ : W.heap[l]? = some o) (_ : o.isCells = false) (_ : o.isWalk = false) : KpB Bn W (W.putObj l o') :=
  ⟨World.putObj_heap_other (by omega), World.putObj_heap_other (by omega)⟩
theorem spTab.lt {w : World} (h : spTab w) : 0 < w.heap.size := World.block_lt_of_cell? _ _ (h 0 (by decide))
theorem spTab.below {n₀ : Nat} {A B : World} (hg : 0 < n₀) (h : Below n₀ A B) (ht : spTab A) : spTab B := fun c hc => (h.cell (p := ⟨0, c, none⟩) hg).trans (ht c hc)
theorem mem_words {s g : ByteArray} : s ∈ words g ↔ s.data.toList ∈ fields g.data.toList := by
  unfold words
  rw [List.mem_map]
  constructor
  · rintro ⟨l, hl, rfl⟩; exact hl
  · intro h
    exact ⟨_, h, by unfold mkS; rw [Array.toArray_toList]⟩
def inG (s : ByteArray) (k : Nat) : Bool := (fields (grpS k).data.toList).contains s.data.toList
theorem inG_no {s : ByteArray} {k : Nat} (h : ∀ x ∈ words (grpS k), x ≠ s) : inG s k = false := by
  unfold inG
  rw [Bool.eq_false_iff]
  intro hc
  exact h s (mem_words.2 (List.contains_iff_mem.1 hc)) rfl
def wordB (s : ByteArray) : Bool := (List.range 4).any (inG s)
theorem word_no {s : ByteArray} (h : ∀ j, j < 4 → inG s j = false) : wordB s = false := by
  unfold wordB
  rw [List.any_eq_false]
  intro j hj
  rw [h j (List.mem_range.1 hj)]; simp
theorem word_yes {s : ByteArray} {k : Nat} (hk : k < 4) (h : s ∈ words (grpS k)) : wordB s = true := by
  unfold wordB
  rw [List.any_eq_true]
  exact ⟨k, List.mem_range.2 hk, by unfold inG; rw [List.contains_iff_mem]; exact mem_words.1 h⟩
theorem grp_facts (s : ByteArray) (k : Nat) (hk : k < 4) : ∃ g, grpS k = g ∧ g.size < 4294967281 ∧ (∀ (j : Nat) b, g.data.toList[j]? = some b → b.toNat < 128) ∧ ((∀ x ∈ words g, x ≠ s) → inG s k = false) ∧ (s ∈ words g → wordB s = true) :=
  ⟨_, rfl, grp_size k hk, grp_ascii k hk, inG_no, word_yes hk⟩
theorem idx0 (W : World) : (Instr.index 68 (.agg #[.string (grpS 0), .string (grpS 1), .string (grpS 2), .string (grpS 3)]) (.int .i64 0)).run Tryz.prog W = .ok (.string (grpS 0)) W := by kernel_rfl
theorem idx1 (W : World) : (Instr.index 68 (.agg #[.string (grpS 0), .string (grpS 1), .string (grpS 2), .string (grpS 3)]) (.int .i64 1)).run Tryz.prog W = .ok (.string (grpS 1)) W := by kernel_rfl
theorem idx2 (W : World) : (Instr.index 68 (.agg #[.string (grpS 0), .string (grpS 1), .string (grpS 2), .string (grpS 3)]) (.int .i64 2)).run Tryz.prog W = .ok (.string (grpS 2)) W := by kernel_rfl
theorem idx3 (W : World) : (Instr.index 68 (.agg #[.string (grpS 0), .string (grpS 1), .string (grpS 2), .string (grpS 3)]) (.int .i64 3)).run Tryz.prog W = .ok (.string (grpS 3)) W := by kernel_rfl
set_option maxRecDepth 100000 in
set_option maxHeartbeats 4000000 in
theorem word_in (F : Fence) (n : Nat) (h1 : F.fn 97) (h2 : F.fn 131) (h3 : F.fn 161) (hro : F.round = none) (hn : 4 ≤ n) (s : ByteArray) (w : World) (hT : spTab w) :
    CallsIn F n Tryz.prog 97 #[.string s] w fun e W' => e = .returned (.bool (wordB s)) ∧ Below w.heap.size w W' := by
  have hn1 : 1 ≤ n := by omega
  refine callsIn_of_wp_marks Tryz.func97 rfl h1 ?_ hro
  simp only [Tryz.ntmps97, List.size_toArray, List.length_cons, List.length_nil, Nat.reduceAdd, Nat.reduceSub, Array.replicate_succ, Array.replicate_zero, List.push_toArray, List.append_toArray, List.nil_append, List.cons_append]
  gi_wp2
  refine wpIn_scope_straight ?_
  gi_wp2
  rename_i K1 hK1
  refine wpIn_label (hK1 _ _ ?_)
  clear hK1
  gi_wp2
  rename_i K2 hK2
  have HK2 : Aside (∀ a w', _ → K2 a w') := hK2
  clear hK2
  have bS0 := (Boxed.new w 9 (.string s)).alloc (.cells #[.bool false] 4)
  have bR0 := Boxed.new (w.alloc (.cells #[.string s] 9)) 4 (.bool false)
  simp only [World.size_alloc] at bR0
  have hB0 : Below w.heap.size w ((w.alloc (.cells #[.string s] 9)).alloc (.cells #[.bool false] 4)) := ((Below.refl _ w).alloc (Nat.le_refl _) _).alloc (by simp) _
  refine wpIn_loop (fun a W => ∃ (k : Nat) (u4 u5 u6 u9 u10 u11 u12 u13 u14 u15 u16 u17 u18 : Value) (Ds : List Nat), k ≤ 4 ∧
      a = { tmps := #[.string s, .pointer (some ⟨w.heap.size, 0, none⟩), .bool false, .pointer (some ⟨w.heap.size + 1, 0, none⟩), u4, u5, u6, .agg #[.string (grpS 0), .string (grpS 1), .string (grpS 2), .string (grpS 3)], .int .i64 k, u9, u10, u11, u12, u13, u14, u15, u16, u17, u18], defers := Ds.map markOf } ∧
      Marks W (w.heap.size + 2) Ds ∧ (∀ j, j < k → inG s j = false) ∧ Boxed W w.heap.size 9 (.string s) ∧ Boxed W (w.heap.size + 1) 4 (.bool false) ∧ Below w.heap.size w W)
    (fun a _ => 4 - (intOf (a.tmps.getD 8 undef)).toNat) ?start ?round
  case start =>
    exact ⟨0, _, _, _, _, _, _, _, _, _, _, _, _, _, [], by omega, rfl, ⟨(fun _ h => by cases h), List.nodup_nil⟩, (fun _ h => by omega), bS0, bR0, hB0⟩
  case round =>
    rintro a W ⟨k, u4, u5, u6, u9, u10, u11, u12, u13, u14, u15, u16, u17, u18, Ds, hk, rfl, hM, hno, bS, bR, hB⟩
    clear bS0 bR0 hB0
    have hT1 : spTab W := hT.below hT.lt hB
    have hsz := hB.size
    have hlo : w.heap.size + 2 ≤ W.heap.size := by have := bR.lt; omega
    rcases Nat.lt_or_ge k 4 with hk4 | hk4
    · have hkc : k = 0 ∨ k = 1 ∨ k = 2 ∨ k = 3 := by omega
      rcases hkc with rfl | rfl | rfl | rfl
      · gi_wp2
        rw [idx0]
        obtain ⟨g, hg, f1, f2, f3, f4⟩ := grp_facts s 0 (by omega)
        generalize hG : Value.agg #[.string (grpS 0), .string (grpS 1), .string (grpS 2), .string (grpS 3)] = G
        rw [hg]
        clear hg
        gi_wp2_with (gi_at_call 131; refine (fs_in F (n - 1) h2 hro _ _).mono ?_; rintro e w' ⟨rfl, rfl⟩)
        have bN := Boxed.new W 9 (.string g)
        have hg1 : 0 < w.heap.size := hT.lt
        have hT2 : spTab (W.alloc (.cells #[.string g] 9)) := hT.below hg1 (hB.alloc hsz _)
        have hBW : Below w.heap.size w (W.alloc (.cells #[.string g] 9)) := hB.alloc hsz _
        have hMl := hM.lt
        refine wpIn_rangeFunc_ownF hro hn1 (gf := 161) (lb := #[.pointer (some ⟨W.heap.size, 0, none⟩)]) rfl h3 (enters_of Tryz.func161 (by kernel_rfl) rfl)
          (fs_stops F (n - 1) h3 hro (by omega) W.heap.size g f1 f2 _ (by simp) bN.cell hT2) KpB.t (kpB_b (by simp) (by first | omega | (simp; omega) | (simp; done))) (Below.refl _ _) (fun _ => rfl)
          (fun pre W' => (((∀ x ∈ pre, x ≠ s) ∧ Boxed W' (w.heap.size + 1) 4 (.bool false)) ∧ Boxed W' w.heap.size 9 (.string s)) ∧ (Below w.heap.size w W' ∧ Marks W' (w.heap.size + 2) Ds))
          (fun c pre W' => (((c = .exit 0 ∧ s ∈ pre) ∧ Boxed W' (w.heap.size + 1) 4 (.bool true)) ∧ Boxed W' w.heap.size 9 (.string s)) ∧ (Below w.heap.size w W' ∧ Marks W' (w.heap.size + 2) Ds))
          (OwnFrom.and (OwnFrom.and (OwnFrom.and (ownFrom_pure _ _) (Own.from (boxed_own _ _ _) _)) (Own.from (boxed_own _ _ _) _)) (OwnFrom.and (ownFrom_below (Nat.le_refl _) (by simp; omega)) (ownFrom_marks (fun D hD => by have := hMl D hD; simp; omega))))
          (fun c => OwnFrom.and (OwnFrom.and (OwnFrom.and (ownFrom_pure _ _) (Own.from (boxed_own _ _ _) _)) (Own.from (boxed_own _ _ _) _)) (OwnFrom.and (ownFrom_below (Nat.le_refl _) (by simp; omega)) (ownFrom_marks (fun D hD => by have := hMl D hD; simp; omega))))
          ⟨⟨⟨by simp, bR.alloc _⟩, bS.alloc _⟩, hBW, hM.keeps (KeepsOthers.alloc _ _)⟩
          (fun x => { tmps := #[.string s, .pointer (some ⟨w.heap.size, 0, none⟩), .bool false, .pointer (some ⟨w.heap.size + 1, 0, none⟩), u4, .string g, .string x, G, .int .i64 0, .bool true, .string g, .string g, .func (.func 161) #[] #[.pointer (some ⟨W.heap.size, 0, none⟩)], .string x, u14, u15, u16, u17, u18], defers := [] })
          ?assign0 ?body0 ?done0 ?stop0
        case assign0 =>
          intro l x W' K hK
          gi_wp2
          exact hK
        case body0 =>
          rintro l pre x W' ⟨⟨⟨hp, bR1⟩, bS1⟩, hB1, hM1⟩ _
          have cS := bS1.cell
          have cR := bR1.cell
          have fR := bR1.frozen
          gi_wp2
          · rename_i hxy
            obtain rfl : x = s := (bytes_beq_iff x s).1 hxy
            exact ⟨KeepsOthers.setCell _ _ _, ⟨⟨⟨rfl, List.mem_append.2 (.inr (by simp))⟩, bR1.set _⟩, bS1.kept (grownBy_setCell' _ _ _) (by simp)⟩, hB1.setCell (p := ⟨w.heap.size + 1, 0, none⟩) (by simp) _, hM1.keeps (KeepsOthers.setCell _ _ _)⟩
          · rename_i hxy
            exact ⟨KeepsOthers.refl _, ⟨rfl, rfl⟩, ⟨⟨fun y hy => (List.mem_append.1 hy).elim (hp y) (fun e => by simp at e; subst e; exact (bytes_beq_false_iff _ _).1 (by simpa using hxy)), bR1⟩, bS1⟩, hB1, hM1⟩
        case done0 =>
          rintro D ys W' hD rfl ⟨⟨⟨hp, bR1⟩, bS1⟩, hB1, hM1⟩ hK
          gi_wp2
          refine ⟨⟨0 + 1, _, _, _, _, _, _, _, _, _, _, _, _, _, D :: Ds, by omega, by rw [hG]; rfl, hM1.cons (fun D' hD' => hMl D' hD') (by simp at hD; omega) (by simp at hD; omega) hK, ?_, bS1, bR1, hB1⟩, by simp [intOf]⟩
          intro j hj
          rcases Nat.lt_or_ge j 0 with h | h
          · exact hno j h
          · obtain rfl : j = 0 := by omega
            exact f3 hp
        case stop0 =>
          rintro D c pre W' hD hpre ⟨⟨⟨⟨rfl, hin⟩, bR1⟩, bS1⟩, hB1, hM1⟩ hK
          have cR := bR1.cell
          gi_wp2
          refine HK2.out _ _ ?_
          gi_wp2
          have hM2 : Marks W' (w.heap.size + 2) (D :: Ds) := hM1.cons (fun D' hD' => hMl D' hD') (by simp at hD; omega) (by simp at hD; omega) hK
          refine leaves_marks (D :: Ds) W' hM2 fun W2 hW2 => ⟨_, results_tmp rfl _ _ _, ?_, hB1.trans (hW2.mono (by omega))⟩
          rw [f4 (hpre.subset hin)]; rfl
      · gi_wp2
        rw [idx1]
        obtain ⟨g, hg, f1, f2, f3, f4⟩ := grp_facts s 1 (by omega)
        generalize hG : Value.agg #[.string (grpS 0), .string (grpS 1), .string (grpS 2), .string (grpS 3)] = G
        rw [hg]
        clear hg
        gi_wp2_with (gi_at_call 131; refine (fs_in F (n - 1) h2 hro _ _).mono ?_; rintro e w' ⟨rfl, rfl⟩)
        have bN := Boxed.new W 9 (.string g)
        have hg1 : 0 < w.heap.size := hT.lt
        have hT2 : spTab (W.alloc (.cells #[.string g] 9)) := hT.below hg1 (hB.alloc hsz _)
        have hBW : Below w.heap.size w (W.alloc (.cells #[.string g] 9)) := hB.alloc hsz _
        have hMl := hM.lt
        refine wpIn_rangeFunc_ownF hro hn1 (gf := 161) (lb := #[.pointer (some ⟨W.heap.size, 0, none⟩)]) rfl h3 (enters_of Tryz.func161 (by kernel_rfl) rfl)
          (fs_stops F (n - 1) h3 hro (by omega) W.heap.size g f1 f2 _ (by simp) bN.cell hT2) KpB.t (kpB_b (by simp) (by first | omega | (simp; omega) | (simp; done))) (Below.refl _ _) (fun _ => rfl)
          (fun pre W' => (((∀ x ∈ pre, x ≠ s) ∧ Boxed W' (w.heap.size + 1) 4 (.bool false)) ∧ Boxed W' w.heap.size 9 (.string s)) ∧ (Below w.heap.size w W' ∧ Marks W' (w.heap.size + 2) Ds))
          (fun c pre W' => (((c = .exit 0 ∧ s ∈ pre) ∧ Boxed W' (w.heap.size + 1) 4 (.bool true)) ∧ Boxed W' w.heap.size 9 (.string s)) ∧ (Below w.heap.size w W' ∧ Marks W' (w.heap.size + 2) Ds))
          (OwnFrom.and (OwnFrom.and (OwnFrom.and (ownFrom_pure _ _) (Own.from (boxed_own _ _ _) _)) (Own.from (boxed_own _ _ _) _)) (OwnFrom.and (ownFrom_below (Nat.le_refl _) (by simp; omega)) (ownFrom_marks (fun D hD => by have := hMl D hD; simp; omega))))
          (fun c => OwnFrom.and (OwnFrom.and (OwnFrom.and (ownFrom_pure _ _) (Own.from (boxed_own _ _ _) _)) (Own.from (boxed_own _ _ _) _)) (OwnFrom.and (ownFrom_below (Nat.le_refl _) (by simp; omega)) (ownFrom_marks (fun D hD => by have := hMl D hD; simp; omega))))
          ⟨⟨⟨by simp, bR.alloc _⟩, bS.alloc _⟩, hBW, hM.keeps (KeepsOthers.alloc _ _)⟩
          (fun x => { tmps := #[.string s, .pointer (some ⟨w.heap.size, 0, none⟩), .bool false, .pointer (some ⟨w.heap.size + 1, 0, none⟩), u4, .string g, .string x, G, .int .i64 1, .bool true, .string g, .string g, .func (.func 161) #[] #[.pointer (some ⟨W.heap.size, 0, none⟩)], .string x, u14, u15, u16, u17, u18], defers := [] })
          ?assign1 ?body1 ?done1 ?stop1
        case assign1 =>
          intro l x W' K hK
          gi_wp2
          exact hK
        case body1 =>
          rintro l pre x W' ⟨⟨⟨hp, bR1⟩, bS1⟩, hB1, hM1⟩ _
          have cS := bS1.cell
          have cR := bR1.cell
          have fR := bR1.frozen
          gi_wp2
          · rename_i hxy
            obtain rfl : x = s := (bytes_beq_iff x s).1 hxy
            exact ⟨KeepsOthers.setCell _ _ _, ⟨⟨⟨rfl, List.mem_append.2 (.inr (by simp))⟩, bR1.set _⟩, bS1.kept (grownBy_setCell' _ _ _) (by simp)⟩, hB1.setCell (p := ⟨w.heap.size + 1, 0, none⟩) (by simp) _, hM1.keeps (KeepsOthers.setCell _ _ _)⟩
          · rename_i hxy
            exact ⟨KeepsOthers.refl _, ⟨rfl, rfl⟩, ⟨⟨fun y hy => (List.mem_append.1 hy).elim (hp y) (fun e => by simp at e; subst e; exact (bytes_beq_false_iff _ _).1 (by simpa using hxy)), bR1⟩, bS1⟩, hB1, hM1⟩
        case done1 =>
          rintro D ys W' hD rfl ⟨⟨⟨hp, bR1⟩, bS1⟩, hB1, hM1⟩ hK
          gi_wp2
          refine ⟨⟨1 + 1, _, _, _, _, _, _, _, _, _, _, _, _, _, D :: Ds, by omega, by rw [hG]; rfl, hM1.cons (fun D' hD' => hMl D' hD') (by simp at hD; omega) (by simp at hD; omega) hK, ?_, bS1, bR1, hB1⟩, by simp [intOf]⟩
          intro j hj
          rcases Nat.lt_or_ge j 1 with h | h
          · exact hno j h
          · obtain rfl : j = 1 := by omega
            exact f3 hp
        case stop1 =>
          rintro D c pre W' hD hpre ⟨⟨⟨⟨rfl, hin⟩, bR1⟩, bS1⟩, hB1, hM1⟩ hK
          have cR := bR1.cell
          gi_wp2
          refine HK2.out _ _ ?_
          gi_wp2
          have hM2 : Marks W' (w.heap.size + 2) (D :: Ds) := hM1.cons (fun D' hD' => hMl D' hD') (by simp at hD; omega) (by simp at hD; omega) hK
          refine leaves_marks (D :: Ds) W' hM2 fun W2 hW2 => ⟨_, results_tmp rfl _ _ _, ?_, hB1.trans (hW2.mono (by omega))⟩
          rw [f4 (hpre.subset hin)]; rfl
      · gi_wp2
        rw [idx2]
        obtain ⟨g, hg, f1, f2, f3, f4⟩ := grp_facts s 2 (by omega)
        generalize hG : Value.agg #[.string (grpS 0), .string (grpS 1), .string (grpS 2), .string (grpS 3)] = G
        rw [hg]
        clear hg
        gi_wp2_with (gi_at_call 131; refine (fs_in F (n - 1) h2 hro _ _).mono ?_; rintro e w' ⟨rfl, rfl⟩)
        have bN := Boxed.new W 9 (.string g)
        have hg1 : 0 < w.heap.size := hT.lt
        have hT2 : spTab (W.alloc (.cells #[.string g] 9)) := hT.below hg1 (hB.alloc hsz _)
        have hBW : Below w.heap.size w (W.alloc (.cells #[.string g] 9)) := hB.alloc hsz _
        have hMl := hM.lt
        refine wpIn_rangeFunc_ownF hro hn1 (gf := 161) (lb := #[.pointer (some ⟨W.heap.size, 0, none⟩)]) rfl h3 (enters_of Tryz.func161 (by kernel_rfl) rfl)
          (fs_stops F (n - 1) h3 hro (by omega) W.heap.size g f1 f2 _ (by simp) bN.cell hT2) KpB.t (kpB_b (by simp) (by first | omega | (simp; omega) | (simp; done))) (Below.refl _ _) (fun _ => rfl)
          (fun pre W' => (((∀ x ∈ pre, x ≠ s) ∧ Boxed W' (w.heap.size + 1) 4 (.bool false)) ∧ Boxed W' w.heap.size 9 (.string s)) ∧ (Below w.heap.size w W' ∧ Marks W' (w.heap.size + 2) Ds))
          (fun c pre W' => (((c = .exit 0 ∧ s ∈ pre) ∧ Boxed W' (w.heap.size + 1) 4 (.bool true)) ∧ Boxed W' w.heap.size 9 (.string s)) ∧ (Below w.heap.size w W' ∧ Marks W' (w.heap.size + 2) Ds))
          (OwnFrom.and (OwnFrom.and (OwnFrom.and (ownFrom_pure _ _) (Own.from (boxed_own _ _ _) _)) (Own.from (boxed_own _ _ _) _)) (OwnFrom.and (ownFrom_below (Nat.le_refl _) (by simp; omega)) (ownFrom_marks (fun D hD => by have := hMl D hD; simp; omega))))
          (fun c => OwnFrom.and (OwnFrom.and (OwnFrom.and (ownFrom_pure _ _) (Own.from (boxed_own _ _ _) _)) (Own.from (boxed_own _ _ _) _)) (OwnFrom.and (ownFrom_below (Nat.le_refl _) (by simp; omega)) (ownFrom_marks (fun D hD => by have := hMl D hD; simp; omega))))
          ⟨⟨⟨by simp, bR.alloc _⟩, bS.alloc _⟩, hBW, hM.keeps (KeepsOthers.alloc _ _)⟩
          (fun x => { tmps := #[.string s, .pointer (some ⟨w.heap.size, 0, none⟩), .bool false, .pointer (some ⟨w.heap.size + 1, 0, none⟩), u4, .string g, .string x, G, .int .i64 2, .bool true, .string g, .string g, .func (.func 161) #[] #[.pointer (some ⟨W.heap.size, 0, none⟩)], .string x, u14, u15, u16, u17, u18], defers := [] })
          ?assign2 ?body2 ?done2 ?stop2
        case assign2 =>
          intro l x W' K hK
          gi_wp2
          exact hK
        case body2 =>
          rintro l pre x W' ⟨⟨⟨hp, bR1⟩, bS1⟩, hB1, hM1⟩ _
          have cS := bS1.cell
          have cR := bR1.cell
          have fR := bR1.frozen
          gi_wp2
          · rename_i hxy
            obtain rfl : x = s := (bytes_beq_iff x s).1 hxy
            exact ⟨KeepsOthers.setCell _ _ _, ⟨⟨⟨rfl, List.mem_append.2 (.inr (by simp))⟩, bR1.set _⟩, bS1.kept (grownBy_setCell' _ _ _) (by simp)⟩, hB1.setCell (p := ⟨w.heap.size + 1, 0, none⟩) (by simp) _, hM1.keeps (KeepsOthers.setCell _ _ _)⟩
          · rename_i hxy
            exact ⟨KeepsOthers.refl _, ⟨rfl, rfl⟩, ⟨⟨fun y hy => (List.mem_append.1 hy).elim (hp y) (fun e => by simp at e; subst e; exact (bytes_beq_false_iff _ _).1 (by simpa using hxy)), bR1⟩, bS1⟩, hB1, hM1⟩
        case done2 =>
          rintro D ys W' hD rfl ⟨⟨⟨hp, bR1⟩, bS1⟩, hB1, hM1⟩ hK
          gi_wp2
          refine ⟨⟨2 + 1, _, _, _, _, _, _, _, _, _, _, _, _, _, D :: Ds, by omega, by rw [hG]; rfl, hM1.cons (fun D' hD' => hMl D' hD') (by simp at hD; omega) (by simp at hD; omega) hK, ?_, bS1, bR1, hB1⟩, by simp [intOf]⟩
          intro j hj
          rcases Nat.lt_or_ge j 2 with h | h
          · exact hno j h
          · obtain rfl : j = 2 := by omega
            exact f3 hp
        case stop2 =>
          rintro D c pre W' hD hpre ⟨⟨⟨⟨rfl, hin⟩, bR1⟩, bS1⟩, hB1, hM1⟩ hK
          have cR := bR1.cell
          gi_wp2
          refine HK2.out _ _ ?_
          gi_wp2
          have hM2 : Marks W' (w.heap.size + 2) (D :: Ds) := hM1.cons (fun D' hD' => hMl D' hD') (by simp at hD; omega) (by simp at hD; omega) hK
          refine leaves_marks (D :: Ds) W' hM2 fun W2 hW2 => ⟨_, results_tmp rfl _ _ _, ?_, hB1.trans (hW2.mono (by omega))⟩
          rw [f4 (hpre.subset hin)]; rfl
      · gi_wp2
        rw [idx3]
        obtain ⟨g, hg, f1, f2, f3, f4⟩ := grp_facts s 3 (by omega)
        generalize hG : Value.agg #[.string (grpS 0), .string (grpS 1), .string (grpS 2), .string (grpS 3)] = G
        rw [hg]
        clear hg
        gi_wp2_with (gi_at_call 131; refine (fs_in F (n - 1) h2 hro _ _).mono ?_; rintro e w' ⟨rfl, rfl⟩)
        have bN := Boxed.new W 9 (.string g)
        have hg1 : 0 < w.heap.size := hT.lt
        have hT2 : spTab (W.alloc (.cells #[.string g] 9)) := hT.below hg1 (hB.alloc hsz _)
        have hBW : Below w.heap.size w (W.alloc (.cells #[.string g] 9)) := hB.alloc hsz _
        have hMl := hM.lt
        refine wpIn_rangeFunc_ownF hro hn1 (gf := 161) (lb := #[.pointer (some ⟨W.heap.size, 0, none⟩)]) rfl h3 (enters_of Tryz.func161 (by kernel_rfl) rfl)
          (fs_stops F (n - 1) h3 hro (by omega) W.heap.size g f1 f2 _ (by simp) bN.cell hT2) KpB.t (kpB_b (by simp) (by first | omega | (simp; omega) | (simp; done))) (Below.refl _ _) (fun _ => rfl)
          (fun pre W' => (((∀ x ∈ pre, x ≠ s) ∧ Boxed W' (w.heap.size + 1) 4 (.bool false)) ∧ Boxed W' w.heap.size 9 (.string s)) ∧ (Below w.heap.size w W' ∧ Marks W' (w.heap.size + 2) Ds))
          (fun c pre W' => (((c = .exit 0 ∧ s ∈ pre) ∧ Boxed W' (w.heap.size + 1) 4 (.bool true)) ∧ Boxed W' w.heap.size 9 (.string s)) ∧ (Below w.heap.size w W' ∧ Marks W' (w.heap.size + 2) Ds))
          (OwnFrom.and (OwnFrom.and (OwnFrom.and (ownFrom_pure _ _) (Own.from (boxed_own _ _ _) _)) (Own.from (boxed_own _ _ _) _)) (OwnFrom.and (ownFrom_below (Nat.le_refl _) (by simp; omega)) (ownFrom_marks (fun D hD => by have := hMl D hD; simp; omega))))
          (fun c => OwnFrom.and (OwnFrom.and (OwnFrom.and (ownFrom_pure _ _) (Own.from (boxed_own _ _ _) _)) (Own.from (boxed_own _ _ _) _)) (OwnFrom.and (ownFrom_below (Nat.le_refl _) (by simp; omega)) (ownFrom_marks (fun D hD => by have := hMl D hD; simp; omega))))
          ⟨⟨⟨by simp, bR.alloc _⟩, bS.alloc _⟩, hBW, hM.keeps (KeepsOthers.alloc _ _)⟩
          (fun x => { tmps := #[.string s, .pointer (some ⟨w.heap.size, 0, none⟩), .bool false, .pointer (some ⟨w.heap.size + 1, 0, none⟩), u4, .string g, .string x, G, .int .i64 3, .bool true, .string g, .string g, .func (.func 161) #[] #[.pointer (some ⟨W.heap.size, 0, none⟩)], .string x, u14, u15, u16, u17, u18], defers := [] })
          ?assign3 ?body3 ?done3 ?stop3
        case assign3 =>
          intro l x W' K hK
          gi_wp2
          exact hK
        case body3 =>
          rintro l pre x W' ⟨⟨⟨hp, bR1⟩, bS1⟩, hB1, hM1⟩ _
          have cS := bS1.cell
          have cR := bR1.cell
          have fR := bR1.frozen
          gi_wp2
          · rename_i hxy
            obtain rfl : x = s := (bytes_beq_iff x s).1 hxy
            exact ⟨KeepsOthers.setCell _ _ _, ⟨⟨⟨rfl, List.mem_append.2 (.inr (by simp))⟩, bR1.set _⟩, bS1.kept (grownBy_setCell' _ _ _) (by simp)⟩, hB1.setCell (p := ⟨w.heap.size + 1, 0, none⟩) (by simp) _, hM1.keeps (KeepsOthers.setCell _ _ _)⟩
          · rename_i hxy
            exact ⟨KeepsOthers.refl _, ⟨rfl, rfl⟩, ⟨⟨fun y hy => (List.mem_append.1 hy).elim (hp y) (fun e => by simp at e; subst e; exact (bytes_beq_false_iff _ _).1 (by simpa using hxy)), bR1⟩, bS1⟩, hB1, hM1⟩
        case done3 =>
          rintro D ys W' hD rfl ⟨⟨⟨hp, bR1⟩, bS1⟩, hB1, hM1⟩ hK
          gi_wp2
          refine ⟨⟨3 + 1, _, _, _, _, _, _, _, _, _, _, _, _, _, D :: Ds, by omega, by rw [hG]; rfl, hM1.cons (fun D' hD' => hMl D' hD') (by simp at hD; omega) (by simp at hD; omega) hK, ?_, bS1, bR1, hB1⟩, by simp [intOf]⟩
          intro j hj
          rcases Nat.lt_or_ge j 3 with h | h
          · exact hno j h
          · obtain rfl : j = 3 := by omega
            exact f3 hp
        case stop3 =>
          rintro D c pre W' hD hpre ⟨⟨⟨⟨rfl, hin⟩, bR1⟩, bS1⟩, hB1, hM1⟩ hK
          have cR := bR1.cell
          gi_wp2
          refine HK2.out _ _ ?_
          gi_wp2
          have hM2 : Marks W' (w.heap.size + 2) (D :: Ds) := hM1.cons (fun D' hD' => hMl D' hD') (by simp at hD; omega) (by simp at hD; omega) hK
          refine leaves_marks (D :: Ds) W' hM2 fun W2 hW2 => ⟨_, results_tmp rfl _ _ _, ?_, hB1.trans (hW2.mono (by omega))⟩
          rw [f4 (hpre.subset hin)]; rfl
    · obtain rfl : k = 4 := by omega
      gi_wp2
      refine HK2.out _ _ ?_
      have cR := bR.cell
      gi_wp2
      refine leaves_marks Ds W hM fun W' hW' => ⟨_, results_tmp rfl _ _ _, ?_, hB.trans (hW'.mono (by omega))⟩
      rw [word_no hno]; rfl
end Go.Proofs.YtdckpbeioemopabGreatDoor
