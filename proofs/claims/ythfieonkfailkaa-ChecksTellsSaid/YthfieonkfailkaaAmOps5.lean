import Derived.Test.YthfieonkfailkaaAmHeap
namespace Go.Am
section
variable {ρ : Rho} {E : Env} {w : World} {h : Heap}

/-- what an effect's leaf says: the value's run -/
def Eff (ρ : Rho) (P : Program) (h : Heap) (w : World) (id : Nat) (r : Res) (s : Sem Value) : Prop :=
  ∀ v W, r.sel = some (v, W) → ∃ cv w' ρ', s.run P w = .ok cv w' ∧ ρ.le ρ' ∧ V ρ' v cv ∧ SatH ρ' (updW h W) w' ∧
    Stp (ownB ρ h) (ownB ρ' (updW h W)) w w' ∧ (∀ b, ρ' b ≠ none → ρ b = none → id ≤ b ∧ b < id + 64)
theorem Eff.bad {P : Program} {id : Nat} {s : Sem Value} : Eff ρ P h w id .bad s := fun _ _ h => by simp [T.sel] at h
theorem Eff.node {P : Program} {id : Nat} {s : Sem Value} {b : Bool} {x y : Res} (hx : b = true → Eff ρ P h w id x s) (hy : b = false → Eff ρ P h w id y s) : Eff ρ P h w id (.node b x y) s := by
  intro v W h
  cases b with
  | true => exact hx rfl v W (by simpa [T.sel] using h)
  | false => exact hy rfl v W (by simpa [T.sel] using h)
theorem Eff.res {P : Program} {id : Nat} {r : Res} {s : Sem Value} {v : AV} {W : Upd} (he : Eff ρ P h w id r s) (hsel : r.sel = some (v, W)) : OpRes P ρ h w id (do pure (.value (← s))) v W := by
  obtain ⟨cv, w', ρ', h1, h2, h3, h4, h5, h6⟩ := he v W hsel
  exact ⟨cv, w', ρ', .inl (by simp [h1]), h2, h3, h4, h5, h6⟩
theorem Eff.leaf {P : Program} {id : Nat} {s : Sem Value} {v : AV} {W : Upd} (hh : ∃ cv w' ρ', s.run P w = .ok cv w' ∧ ρ.le ρ' ∧ V ρ' v cv ∧ SatH ρ' (updW h W) w' ∧
    Stp (ownB ρ h) (ownB ρ' (updW h W)) w w' ∧ (∀ b, ρ' b ≠ none → ρ b = none → id ≤ b ∧ b < id + 64)) : Eff ρ P h w id (.leaf (v, W)) s := by
  intro v' W' h'
  simp [T.sel] at h'
  obtain ⟨rfl, rfl⟩ := h'
  exact hh

theorem isCell_one {a : AV} (hc : a.isCell = true) {v : Value} (hv : V ρ a v) : v.oneCell' = true := by
  cases a <;> simp only [AV.isCell, Bool.false_eq_true] at hc <;> simp only [V] at hv
  all_goals first
    | (subst hv; rfl)
    | (obtain ⟨p, _, rfl⟩ := hv; rfl)
    | (obtain ⟨p, _, _, a, rfl, _⟩ := hv; rfl)
    | (obtain ⟨p, _, _, _, a, rfl, _⟩ := hv; rfl)
    | (obtain ⟨_, _, rfl, _⟩ := hv; rfl)
    | (obtain ⟨p, rfl, _⟩ := hv; rfl)
theorem cells_one {as : List AV} (hc : as.all AV.isCell = true) {vs : List Value} (hv : VL ρ as vs) : ∀ v ∈ vs, v.oneCell' = true := by
  intro v hm
  obtain ⟨i, hi⟩ := List.mem_iff_getElem?.1 hm
  have hlt : i < as.length := by rw [← hv.length]; exact (List.getElem?_eq_some_iff.1 hi).1
  obtain ⟨u, hu, hV⟩ := hv.get (List.getElem?_eq_getElem hlt)
  rw [hi] at hu; cases hu
  exact isCell_one (List.all_eq_true.1 hc _ (List.getElem_mem hlt)) hV

/-- a value's cells -/
theorem cells_V {a : AV} {v : Value} (hv : V ρ a v) (hc : a.cells.all AV.isCell = true) : VL ρ a.cells v.cells.toList := by
  cases a with
  | agg cs => simp only [V] at hv; obtain ⟨vs, rfl, hl⟩ := hv; exact hl
  | _ =>
    simp only [AV.cells, List.all_cons, List.all_nil, Bool.and_true] at hc
    have h1 := isCell_one hc hv
    have : v.cells = #[v] := by cases v <;> first | rfl | (simp [Value.oneCell'] at h1)
    rw [this]
    simp only [AV.cells, VL]
    exact ⟨v, [], rfl, hv, rfl⟩

theorem newR_eff (hs : SatH ρ h w) {id : Nat} (hid : ∀ b, id ≤ b → b < id + 64 → ρ b = none) (e : TypeId) (tys : List TypeId) (cs : List AV) (cv : Value) (hcv : cs.all AV.isCell = true → VL ρ cs cv.cells.toList) {s : Sem Value}
    (hr : ∀ w, s.run E.P w = .ok (.pointer (some ⟨w.heap.size, 0, none⟩)) (w.alloc (.cells cv.cells e))) : Eff ρ E.P h w id (newR id e tys cs) s := by
  unfold newR
  cases hc0 : (cs.all AV.isCell && (Nat.beq cs.length (wid tys) && markFits e tys)) with
  | false => simp only [cond_false]; exact Eff.bad
  | true =>
    simp only [cond_true]
    simp only [Bool.and_eq_true] at hc0
    obtain ⟨hc, hlt, hmf⟩ := hc0
    have hlt := Nat.eq_of_beq_eq_true hlt
    have hl := hcv hc
    have hsz : cv.cells.size = cs.length := by rw [← hl.length]; simp
    refine Eff.leaf ?_
    have hal := hs.alloc (hid id (Nat.le_refl _) (by omega)) (.gen tys [cs]) cv.cells e 1 (by simp [Dat.len]) (by simp [maxLen]) (by
        intro i hi
        have : i = 0 := by simpa [Dat.len] using hi
        subst this
        exact ⟨hlt, hc⟩) (by simp [Dat.stride, hsz, hlt]) (by
        intro i hi j av hav
        have : i = 0 := by simpa [Dat.len] using hi
        subst this
        have hav' : cs[j]? = some av := hav
        obtain ⟨c, h1, h2⟩ := hl.get hav'
        exact ⟨c, by simpa using h1, h2⟩) (fun T hT => by
        have hT : markOf tys = some T := hT
        unfold markFits at hmf
        rw [hT] at hmf
        exact ⟨(Nat.eq_of_beq_eq_true hmf).symm, fun _ => by simp [Dat.stride, hsz, hlt]⟩)
    obtain ⟨h1, h2, h3, h4⟩ := hal
    refine ⟨_, _, _, hr w, h1, ?_, h2, h3, fun b hb hn => by have := h4 b hb hn; omega⟩
    simp only [V]
    exact ⟨_, updF_same _ _ _, by simp [Pos.addr]⟩

theorem zeroCells_run {t : TypeId} {cs : List AV} (hz : zeroCells E t = some cs) : ∃ i z, E.P.info? t = some i ∧ i.zero = some z ∧ (∀ w, (zeroValue t).run E.P w = .ok z w) ∧ VL ρ cs z.cells.toList := by
  unfold zeroCells at hz
  split at hz
  · rename_i i hi
    split at hz
    · rename_i v hv
      cases hz
      refine ⟨i, v, hi, hv, fun w => by simp [zeroValue, typeInfo, hi, hv], ?_⟩
      generalize v.cells.toList = l
      induction l with
      | nil => simp [VL]
      | cons x l ih => simp only [List.map_cons, VL]; exact ⟨x, l, rfl, ofCell_V ρ x, ih⟩
    · cases hz
  · cases hz

theorem alloc_eff (hs : SatH ρ h w) {id : Nat} (hid : ∀ b, id ≤ b → b < id + 64 → ρ b = none) (t : TypeId) {cs : List AV} (hz : zeroCells E t = some cs) : Eff ρ E.P h w id (newR id t (varTys E t) cs) (Instr.alloc t true (.tuple #[])) := by
  obtain ⟨i, z, _, _, hr, hl⟩ := zeroCells_run (ρ := ρ) hz
  exact newR_eff hs hid t _ cs z (fun _ => hl) fun w => by simp [Instr.alloc, hr, newVar, newRow]

theorem box_eff (hs : SatH ρ h w) {id : Nat} (hid : ∀ b, id ≤ b → b < id + 64 → ρ b = none) (t : TypeId) {a : AV} {v : Value} (hv : V ρ a v) : Eff ρ E.P h w id (newR id t (flatTys E 8 t) a.cells) (Instr.box t v) :=
  newR_eff hs hid t _ a.cells v (fun hc => cells_V hv hc) fun w => by simp [Instr.box, newVar, newRow]

theorem setCells_len (cs : List AV) (o : Nat) (vs : List AV) : (setCells cs o vs).length = cs.length := by
  induction vs generalizing cs o with
  | nil => rfl
  | cons v r ih => simp [setCells, ih]
theorem setCells_get (cs : List AV) (o : Nat) (vs : List AV) (h : o + vs.length ≤ cs.length) (j : Nat) :
    (setCells cs o vs)[j]? = if o ≤ j ∧ j < o + vs.length then vs[j - o]? else cs[j]? := by
  induction vs generalizing cs o with
  | nil => simp only [setCells, List.length_nil, Nat.add_zero]; rw [if_neg (by omega)]
  | cons v r ih =>
    simp only [setCells, List.length_cons] at h ⊢
    rw [ih _ _ (by simp; omega)]
    by_cases h1 : o + 1 ≤ j ∧ j < o + 1 + r.length
    · rw [if_pos h1, if_pos (by omega)]
      have : j - o = (j - (o + 1)) + 1 := by omega
      rw [this]; rfl
    · rw [if_neg h1]
      by_cases h2 : j = o
      · subst h2
        rw [if_pos (by omega)]
        rw [List.getElem?_set]; simp; omega
      · rw [if_neg (by omega), List.getElem?_set, if_neg (by omega)]

theorem storeR_eff (hs : SatH ρ h w) (t : TypeId) (a v : AV) {ca cv : Value} (ha : V ρ a ca) (hv : V ρ v cv) :
    ∀ r W, (storeR E h t a v).sel = some (r, W) → r = .any ∧ ∃ w', (Instr.storeAt t ca cv).run E.P w = .ok () w' ∧ SatH ρ (updW h W) w' ∧ Stp (ownB ρ h) (ownB ρ (updW h W)) w w' := by
  intro r W hsel
  unfold storeR at hsel
  split at hsel
  rotate_left
  · simp [T.sel] at hsel
  rename_i b i j
  split at hsel
  rotate_left
  · simp [T.sel] at hsel
  rename_i x hx
  cases hcond : (x.own && v.cells.all AV.isCell && decide (sizeT E t = some v.cells.length) && Nat.ble (j + v.cells.length) x.dat.stride) with
  | false => simp only [hcond, cond_false] at hsel; simp [T.sel] at hsel
  | true =>
    simp only [hcond, cond_true] at hsel
    simp only [Bool.and_eq_true, decide_eq_true_eq] at hcond
    obtain ⟨⟨⟨hown, hcells⟩, hsize⟩, hble⟩ := hcond
    have hble := Nat.le_of_ble_eq_true hble
    split at hsel
    rotate_left
    · simp [T.sel] at hsel
    rename_i d hd
    simp only [T.sel] at hsel
    cases hi : decide (i < x.dat.len) with
    | false => simp [hi] at hsel
    | true =>
      simp only [hi, cond_true, Option.some.injEq, Prod.mk.injEq] at hsel
      obtain ⟨rfl, rfl⟩ := hsel
      have hi := of_decide_eq_true hi
      refine ⟨rfl, ?_⟩
      simp only [V] at ha
      obtain ⟨p, hp, rfl⟩ := ha
      obtain ⟨p', hp', e1, e2, e3, e4⟩ := hs.pos b x hx
      rw [hp] at hp'; cases hp'
      have hl := cells_V hv hcells
      have hone := cells_one hcells hl
      have hcap : 0 < p.cap := by omega
      obtain ⟨cs, e, hcs, hsz, hmk⟩ := hs.own b x p hx hown hp hcap
      have hwfi := hs.wf b x hx i hi
      have spec := Dat.setRow_spec hd
      have hlen : cv.cells.toList.length = v.cells.length := hl.length
      have hin : (i + 1) * p.stride ≤ p.cap * p.stride := Nat.mul_le_mul_right _ (by omega)
      have hin' : i * p.stride + p.stride ≤ p.cap * p.stride := by rw [Nat.add_mul, Nat.one_mul] at hin; exact hin
      have hst := run_storeCells_at E.P p.block (p.off + i * p.stride + j) e cv.cells.toList 0 cs w hcs (by omega) hone
      simp only [Nat.add_zero] at hst
      refine ⟨w.setRow p.block (cs.toList.take (p.off + i * p.stride + j) ++ cv.cells.toList ++ cs.toList.drop (p.off + i * p.stride + j + cv.cells.toList.length)).toArray, ?_, ?_, ?_⟩
      · unfold Instr.storeAt
        have hn : ¬ cv.cells.size ≠ v.cells.length := by simp [← hlen]
        have h2 : v.cells.length = v.cells.length := rfl
        simp only [Sem.run_bind, Instr.sureAddr, Sem.run_pure, Result.andThen_ok, storeVar, sizeT_run hsize, if_neg hn, Pos.addr, hst]
      · -- the heap
        have hgone := hs.row_gone hx hown hp hcap (cs.toList.take (p.off + i * p.stride + j) ++ cv.cells.toList ++ cs.toList.drop (p.off + i * p.stride + j + cv.cells.toList.length)).toArray
        generalize hW' : (w.setRow p.block (cs.toList.take (p.off + i * p.stride + j) ++ cv.cells.toList ++ cs.toList.drop (p.off + i * p.stride + j + cv.cells.toList.length)).toArray) = w' at hgone ⊢
        have hheap : w'.heap[p.block]? = some (.cells (cs.toList.take (p.off + i * p.stride + j) ++ cv.cells.toList ++ cs.toList.drop (p.off + i * p.stride + j + cv.cells.toList.length)).toArray e (0, 0)) := by
          rw [← hW']; exact setRow_heap w p.block cs _ e (0, 0) hcs
        have hget : ∀ q : Nat, w'.cell? ⟨p.block, q, none⟩ = if p.off + i * p.stride + j ≤ q ∧ q < p.off + i * p.stride + j + v.cells.length then cv.cells.toList[q - (p.off + i * p.stride + j)]? else cs.toList[q]? := by
          intro q
          rw [cell_of_row w' p.block q _ e (0, 0) hheap]
          have hcl : cs.toList.length = cs.size := by simp
          simp only [List.getElem?_toArray]
          rw [List.append_assoc]
          by_cases q1 : q < p.off + i * p.stride + j
          · rw [List.getElem?_append_left (by simp; omega), if_neg (by omega), List.getElem?_take, if_pos q1]
          · rw [List.getElem?_append_right (by simp; omega)]
            have hmin : (List.take (p.off + i * p.stride + j) cs.toList).length = p.off + i * p.stride + j := by simp; omega
            rw [hmin]
            by_cases q2 : q < p.off + i * p.stride + j + v.cells.length
            · rw [List.getElem?_append_left (by omega), if_pos (by omega)]
            · rw [List.getElem?_append_right (by omega), if_neg (by omega), List.getElem?_drop]
              congr 1
              omega
        have hold : ∀ q c, w.cell? ⟨p.block, q, none⟩ = some c → cs.toList[q]? = some c := by
          intro q c hc
          rw [cell_of_row w p.block q cs e (0, 0) hcs] at hc
          simpa using hc
        refine ⟨?_, ?_, ?_, ?_, ?_⟩
        · intro c y hc
          by_cases ec : c = b
          · subst ec; simp only [updW, updF_same, Option.some.injEq] at hc; subst hc
            exact ⟨p, hp, by rw [e1]; exact spec.stride.symm, by rw [e2]; exact spec.len.symm, e3, e4⟩
          · simp only [updW, updF_other _ _ _ ec] at hc; exact hs.pos c y hc
        · intro c y hc i' hi'
          by_cases ec : c = b
          · subst ec; simp only [updW, updF_same, Option.some.injEq] at hc; subst hc
            show (d.row i').length = d.stride ∧ _
            have hi'' : i' < x.dat.len := by rw [← spec.len]; exact hi'
            rw [spec.row i' hi'', spec.stride]
            split
            · exact spec.wf
            · exact hs.wf c x hx i' hi''
          · simp only [updW, updF_other _ _ _ ec] at hc; exact hs.wf c y hc i' hi'
        · intro c y q hc hq i' hi' j' av hav
          by_cases ec : c = b
          · subst ec; simp only [updW, updF_same, Option.some.injEq] at hc; subst hc
            rw [hp] at hq; cases hq
            have hi'' : i' < x.dat.len := by rw [← spec.len]; exact hi'
            have hav : (d.row i')[j']? = some av := hav
            rw [spec.row i' hi''] at hav
            show ∃ c, w'.cell? ⟨p.block, p.off + i' * p.stride + j', none⟩ = some c ∧ _
            rw [hget]
            by_cases hii : i' = i
            · subst hii
              rw [if_pos rfl, setCells_get _ _ _ (by omega)] at hav
              split at hav
              · rename_i hj
                rw [if_pos (by omega)]
                obtain ⟨c, h5, h6⟩ := hl.get hav
                exact ⟨c, by rw [← h5]; congr 1; omega, h6⟩
              · rename_i hj
                rw [if_neg (by omega)]
                obtain ⟨c, h5, h6⟩ := hs.cells _ x p hx hp i' hi'' j' av hav
                exact ⟨c, hold _ _ h5, h6⟩
            · rw [if_neg hii] at hav
              have hj' : j' < p.stride := by
                have := (List.getElem?_eq_some_iff.1 hav).1
                have := (hs.wf _ x hx i' hi'').1
                omega
              have hne : ¬ (p.off + i * p.stride + j ≤ p.off + i' * p.stride + j' ∧ p.off + i' * p.stride + j' < p.off + i * p.stride + j + v.cells.length) := by
                rcases Nat.lt_or_ge i' i with hlt | hge
                · have : (i' + 1) * p.stride ≤ i * p.stride := Nat.mul_le_mul_right _ hlt
                  rw [Nat.add_mul, Nat.one_mul] at this; omega
                · have : (i + 1) * p.stride ≤ i' * p.stride := Nat.mul_le_mul_right _ (by omega)
                  rw [Nat.add_mul, Nat.one_mul] at this; omega
              rw [if_neg hne]
              obtain ⟨c, h5, h6⟩ := hs.cells _ x p hx hp i' hi'' j' av hav
              exact ⟨c, hold _ _ h5, h6⟩
          · simp only [updW, updF_other _ _ _ ec] at hc
            exact hgone.cells c y q (by rw [updF_other _ _ _ ec]; exact hc) hq i' hi' j' av hav
        · intro c y q hc ho hq h0
          by_cases ec : c = b
          · subst ec; simp only [updW, updF_same, Option.some.injEq] at hc; subst hc
            rw [hp] at hq; cases hq
            refine ⟨_, e, hheap, by simp; omega, fun T hT => ?_⟩
            obtain ⟨m1, m2, m3⟩ := hmk T (by rw [← Dat.setRow_mark hd]; exact hT)
            refine ⟨m1, m2, fun hg => ?_⟩
            have m3 := m3 (by rw [← Dat.setRow_gen hd]; exact hg)
            have := spec.stride
            show _ = d.stride
            rw [this, ← m3]
            have e9 : cv.cells.toList.length = cv.cells.size := by simp
            simp only [List.size_toArray, List.length_append, List.length_take, List.length_drop, Array.length_toList]
            omega
          · simp only [updW, updF_other _ _ _ ec] at hc
            exact hgone.own c y q (by rw [updF_other _ _ _ ec]; exact hc) ho hq h0
        · intro c y q c' y' q' hc ho hq h0 hc' hq' hne hlv
          have old : ∀ c y, updW h [(b, some ⟨true, d⟩)] c = some y → ∃ y0, h c = some y0 ∧ (y.own = true → y0.own = true) := by
            intro c y hc
            by_cases ec : c = b
            · subst ec; exact ⟨x, hx, fun _ => hown⟩
            · simp only [updW, updF_other _ _ _ ec] at hc; exact ⟨y, hc, fun h => h⟩
          obtain ⟨y0, hy0, ho0⟩ := old c y hc
          obtain ⟨y1, hy1, ho1⟩ := old c' y' hc'
          exact hs.apart c y0 q c' y1 q' hy0 (ho0 ho) hq h0 hy1 hq' hne (by rcases hlv with ⟨h5, h6⟩ | h5; exact .inl ⟨ho1 h5, h6⟩; exact .inr h5)
      · refine ⟨⟨rfl, rfl, rfl, by simp, fun k hk hn => setRow_other w p.block k _ fun e => hn ⟨b, x, p, hx, hown, hp, hcap, e.symm⟩, fun a _ _ => frozen_setRow w _ _ a⟩, fun k hk => .inl ?_⟩
        obtain ⟨c, y, q, hc, ho, hq, h0, rfl⟩ := hk
        by_cases ec : c = b
        · subst ec; rw [hp] at hq; cases hq; exact ⟨c, x, p, hx, hown, hp, hcap, rfl⟩
        · simp only [updW, updF_other _ _ _ ec] at hc; exact ⟨c, y, q, hc, ho, hq, h0, rfl⟩
end
end Go.Am
