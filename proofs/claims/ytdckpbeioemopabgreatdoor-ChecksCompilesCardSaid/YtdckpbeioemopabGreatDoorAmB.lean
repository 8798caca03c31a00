/-
  Texts put together: AmOps5, AmOps6, AmOps7, AmOps8, AmOps9, AmRun, AmMono, AmDraw, AmRun2.
-/
import Derived.Test.YtdckpbeioemopabGreatDoorAmA
import Derived.Laws.BytesString
import Derived.Orders
import Derived.Scope
namespace Go.Am
section
variable {ρ : Rho} {E : Env} {w : World} {h : Heap}
def Eff (ρ : Rho) (P : Program) (h : Heap) (w : World) (id : Nat) (r : Res) (s : Sem Value) : Prop :=
  ∀ v W, r.sel = some (v, W) → ∃ cv w' ρ', s.run P w = .ok cv w' ∧ ρ.le ρ' ∧ V ρ' v cv ∧ SatH ρ' (updW h W) w' ∧
    Stp (domB ρ h) (domB ρ' (updW h W)) w w' ∧ (∀ b, ρ' b ≠ none → ρ b = none → id ≤ b ∧ b < id + 64)
theorem Eff.bad {P : Program} {id : Nat} {s : Sem Value} : Eff ρ P h w id .bad s := fun _ _ h => by simp [T.sel] at h
theorem Eff.node {P : Program} {id : Nat} {s : Sem Value} {b : Bool} {x y : Res} (hx : b = true → Eff ρ P h w id x s) (hy : b = false → Eff ρ P h w id y s) : Eff ρ P h w id (.node b x y) s := by
  intro v W h
  cases b with
  | true => exact hx rfl v W (by simpa [T.sel] using h)
  | false => exact hy rfl v W (by simpa [T.sel] using h)
theorem Eff.res {P : Program} {id : Nat} {r : Res} {s : Sem Value} {v : AV} {W : Upd} (he : Eff ρ P h w id r s) (hsel : r.sel = some (v, W)) : OpRes P ρ h w id (do pure (.value (← s))) v W := by
  obtain ⟨cv, w', ρ', h1, h2, h3, h4, h5, h6⟩ := he v W hsel
  exact ⟨cv, w', ρ', .inl (by simp [h1]), h2, h3, h4, h5, h6⟩
theorem Eff.leaf {P : Program} {id : Nat} {s : Sem Value} {v : AV} {W : Upd} (hh : ∃ cv w' ρ', s.run P w = .ok cv w' ∧ ρ.le ρ' ∧ V ρ' v cv ∧ SatH ρ' (updW h W) w' ∧
    Stp (domB ρ h) (domB ρ' (updW h W)) w w' ∧ (∀ b, ρ' b ≠ none → ρ b = none → id ≤ b ∧ b < id + 64)) : Eff ρ P h w id (.leaf (v, W)) s := by
  intro v' W' h'
  simp [T.sel] at h'
  obtain ⟨rfl, rfl⟩ := h'
  exact hh
theorem isCell_one {a : AV} (hc : a.isCell = true) {v : Value} (hv : V ρ a v) : v.oneCell' = true := by
  cases a <;> simp only [AV.isCell, Bool.false_eq_true] at hc <;> simp only [V] at hv
  all_goals first
    | (subst hv; rfl)
    | (obtain ⟨p, _, rfl⟩ := hv; rfl)
    | (obtain ⟨p, _, _, a, rfl, _⟩ := hv; rfl)
    | (obtain ⟨p, _, _, _, a, rfl, _⟩ := hv; rfl)
    | (obtain ⟨_, _, rfl, _⟩ := hv; rfl)
    | (obtain ⟨p, rfl, _⟩ := hv; rfl)
theorem cells_one {as : List AV} (hc : as.all AV.isCell = true) {vs : List Value} (hv : VL ρ as vs) : ∀ v ∈ vs, v.oneCell' = true := by
  intro v hm
  obtain ⟨i, hi⟩ := List.mem_iff_getElem?.1 hm
  have hlt : i < as.length := by rw [← hv.length]; exact (List.getElem?_eq_some_iff.1 hi).1
  obtain ⟨u, hu, hV⟩ := hv.get (List.getElem?_eq_getElem hlt)
  rw [hi] at hu; cases hu
  exact isCell_one (List.all_eq_true.1 hc _ (List.getElem_mem hlt)) hV
theorem cells_V {a : AV} {v : Value} (hv : V ρ a v) (hc : a.cells.all AV.isCell = true) : VL ρ a.cells v.cells.toList := by
  cases a with
  | agg cs => simp only [V] at hv; obtain ⟨vs, rfl, hl⟩ := hv; exact hl
  | _ =>
    simp only [AV.cells, List.all_cons, List.all_nil, Bool.and_true] at hc
    have h1 := isCell_one hc hv
    have : v.cells = #[v] := by cases v <;> first | rfl | (simp [Value.oneCell'] at h1)
    rw [this]
    simp only [AV.cells, VL]
    exact ⟨v, [], rfl, hv, rfl⟩
theorem newR_eff (hs : SatH ρ h w) {id : Nat} (hid : ∀ b, id ≤ b → b < id + 64 → ρ b = none) (e : TypeId) (tys : List TypeId) (cs : List AV) (cv : Value) (hcv : cs.all AV.isCell = true → VL ρ cs cv.cells.toList) {s : Sem Value}
    (hr : ∀ w, s.run E.P w = .ok (.pointer (some ⟨w.heap.size, 0, none⟩)) (w.alloc (.cells cv.cells e))) : Eff ρ E.P h w id (newR id e tys cs) s := by
  unfold newR
  cases hc0 : (cs.all AV.isCell && (Nat.beq cs.length (wid tys) && markFits e tys)) with
  | false => simp only [cond_false]; exact Eff.bad
  | true =>
    simp only [cond_true]
    simp only [Bool.and_eq_true] at hc0
    obtain ⟨hc, hlt, hmf⟩ := hc0
    have hlt := Nat.eq_of_beq_eq_true hlt
    have hl := hcv hc
    have hsz : cv.cells.size = cs.length := by rw [← hl.length]; simp
    refine Eff.leaf ?_
    have hal := hs.alloc (hid id (Nat.le_refl _) (by omega)) (.gen tys [cs]) cv.cells e 1 (by simp [Dat.len]) (by simp [maxLen]) (by
        intro i hi
        have : i = 0 := by simpa [Dat.len] using hi
        subst this
        exact ⟨hlt, hc⟩) (by simp [Dat.stride, hsz, hlt]) (by
        intro i hi j av hav
        have : i = 0 := by simpa [Dat.len] using hi
        subst this
        have hav' : cs[j]? = some av := hav
        obtain ⟨c, h1, h2⟩ := hl.get hav'
        exact ⟨c, by simpa using h1, h2⟩) (fun T hT => by
        have hT : markOf tys = some T := hT
        unfold markFits at hmf
        rw [hT] at hmf
        exact ⟨(Nat.eq_of_beq_eq_true hmf).symm, fun _ => by simp [Dat.stride, hsz, hlt]⟩)
    obtain ⟨h1, h2, h3, h4⟩ := hal
    refine ⟨_, _, _, hr w, h1, ?_, h2, h3, fun b hb hn => by have := h4 b hb hn; omega⟩
    simp only [V]
    exact ⟨_, updF_same _ _ _, by simp [Pos.addr]⟩
theorem zeroCells_run {t : TypeId} {cs : List AV} (hz : zeroCells E t = some cs) : ∃ i z, E.P.info? t = some i ∧ i.zero = some z ∧ (∀ w, (zeroValue t).run E.P w = .ok z w) ∧ VL ρ cs z.cells.toList := by
  unfold zeroCells at hz
  split at hz
  · rename_i i hi
    split at hz
    · rename_i v hv
      cases hz
      refine ⟨i, v, hi, hv, fun w => by simp [zeroValue, typeInfo, hi, hv], ?_⟩
      generalize v.cells.toList = l
      induction l with
      | nil => simp [VL]
      | cons x l ih => simp only [List.map_cons, VL]; exact ⟨x, l, rfl, ofCell_V ρ x, ih⟩
    · cases hz
  · cases hz
theorem alloc_eff (hs : SatH ρ h w) {id : Nat} (hid : ∀ b, id ≤ b → b < id + 64 → ρ b = none) (t : TypeId) {cs : List AV} (hz : zeroCells E t = some cs) : Eff ρ E.P h w id (newR id t (varTys E t) cs) (Instr.alloc t true (.tuple #[])) := by
  obtain ⟨i, z, _, _, hr, hl⟩ := zeroCells_run (ρ := ρ) hz
  exact newR_eff hs hid t _ cs z (fun _ => hl) fun w => by simp [Instr.alloc, hr, newVar, newRow]
theorem arr_eff (hs : SatH ρ h w) {id : Nat} (hid : ∀ b, id ≤ b → b < id + 64 → ρ b = none) (t : TypeId) {cs : List AV} (hz : zeroCells E t = some cs) {d : Dat} (hd : arrD E t cs = some d) :
    Eff ρ E.P h w id (.leaf (.ptr id 0 0, [(id, some ⟨true, d⟩)])) (Instr.alloc t true (.tuple #[])) := by
  obtain ⟨i, z, _, _, hr, hl⟩ := zeroCells_run (ρ := ρ) hz
  unfold arrD at hd
  split at hd
  · split at hd
    · rename_i k _
      cases hc : (Nat.ble cs.length 100000 && Nat.blt 0 cs.length) with
      | false => rw [hc] at hd; cases hd
      | true =>
        rw [hc, cond_true] at hd
        rw [Bool.and_eq_true] at hc
        have hlen := Nat.le_of_ble_eq_true hc.1
        have spec := Dat.ofRows_spec hd
        have hst : d.stride = 1 := by
          unfold Dat.ofRows at hd
          rw [Option.map_eq_some_iff] at hd
          obtain ⟨l, _, rfl⟩ := hd
          rfl
        have hmk : d.mark = none := by
          unfold Dat.ofRows at hd
          rw [Option.map_eq_some_iff] at hd
          obtain ⟨l, _, rfl⟩ := hd
          rfl
        have hdl : d.len = cs.length := by rw [spec.len]; simp
        have hzl : z.cells.toList.length = cs.length := hl.length
        have hsz : z.cells.size = cs.length := by rw [← hzl]; simp
        refine Eff.leaf ?_
        have hal := hs.alloc (hid id (Nat.le_refl _) (by omega)) d z.cells t cs.length (by omega) (by simp only [maxLen]; omega) spec.wf (by rw [hst, hsz]; omega) (by
          intro i hi j av hav
          have hi' : i < cs.length := by omega
          rw [spec.row i (by simpa using hi')] at hav
          have hrow : (cs.map fun c => [c]).getD i [] = [cs[i]] := by simp [List.getD, hi']
          rw [hrow] at hav
          cases j with
          | zero =>
            simp only [List.getElem?_cons_zero, Option.some.injEq] at hav
            subst hav
            obtain ⟨c, h1, h2⟩ := hl.get (List.getElem?_eq_getElem hi')
            exact ⟨c, by rw [hst]; simpa using h1, h2⟩
          | succ j => simp at hav) (fun T hT => by rw [hmk] at hT; cases hT)
        obtain ⟨h1, h2, h3, h4⟩ := hal
        refine ⟨.pointer (some ⟨w.heap.size, 0, none⟩), w.alloc (.cells z.cells t), _, by simp [Instr.alloc, hr, newVar, newRow], h1, ?_, h2, h3, fun b hb hn => by have := h4 b hb hn; omega⟩
        simp only [V]
        exact ⟨_, updF_same _ _ _, by simp [Pos.addr]⟩
    · cases hd
  · cases hd
theorem box_eff (hs : SatH ρ h w) {id : Nat} (hid : ∀ b, id ≤ b → b < id + 64 → ρ b = none) (t : TypeId) {a : AV} {v : Value} (hv : V ρ a v) : Eff ρ E.P h w id (newR id t (flatTys E 8 t) a.cells) (Instr.box t v) :=
  newR_eff hs hid t _ a.cells v (fun hc => cells_V hv hc) fun w => by simp [Instr.box, newVar, newRow]
theorem setCells_len (cs : List AV) (o : Nat) (vs : List AV) : (setCells cs o vs).length = cs.length := by
  induction vs generalizing cs o with
  | nil => rfl
  | cons v r ih => simp [setCells, ih]
theorem setCells_get (cs : List AV) (o : Nat) (vs : List AV) (h : o + vs.length ≤ cs.length) (j : Nat) :
    (setCells cs o vs)[j]? = if o ≤ j ∧ j < o + vs.length then vs[j - o]? else cs[j]? := by
  induction vs generalizing cs o with
  | nil => simp only [setCells, List.length_nil, Nat.add_zero]; rw [if_neg (by omega)]
  | cons v r ih =>
    simp only [setCells, List.length_cons] at h ⊢
    rw [ih _ _ (by simp; omega)]
    by_cases h1 : o + 1 ≤ j ∧ j < o + 1 + r.length
    · rw [if_pos h1, if_pos (by omega)]
      have : j - o = (j - (o + 1)) + 1 := by omega
      rw [this]; rfl
    · rw [if_neg h1]
      by_cases h2 : j = o
      · subst h2
        rw [if_pos (by omega)]
        rw [List.getElem?_set]; simp; omega
      · rw [if_neg (by omega), List.getElem?_set, if_neg (by omega)]
theorem storeR0_eff (hs : SatH ρ h w) (t : TypeId) (a v : AV) {ca cv : Value} (ha : V ρ a ca) (hv : V ρ v cv) :
    ∀ r W, (storeR0 E h t a v).sel = some (r, W) → r = .any ∧ ∃ w', (Instr.storeAt t ca cv).run E.P w = .ok () w' ∧ SatH ρ (updW h W) w' ∧ Stp (domB ρ h) (domB ρ (updW h W)) w w' := by
  intro r W hsel
  unfold storeR0 at hsel
  split at hsel
  rotate_left
  · simp [T.sel] at hsel
  rename_i b i j
  split at hsel
  rotate_left
  · simp [T.sel] at hsel
  rename_i x hx
  cases hcond : (x.own && v.cells.all AV.isCell && decide (sizeT E t = some v.cells.length) && Nat.ble (x.dat.cl j + v.cells.length) x.dat.stride) with
  | false => simp only [hcond, cond_false] at hsel; simp [T.sel] at hsel
  | true =>
    simp only [hcond, cond_true] at hsel
    simp only [Bool.and_eq_true, decide_eq_true_eq] at hcond
    obtain ⟨⟨⟨hown, hcells⟩, hsize⟩, hble⟩ := hcond
    have hble := Nat.le_of_ble_eq_true hble
    split at hsel
    rotate_left
    · simp [T.sel] at hsel
    rename_i d hd
    simp only [T.sel] at hsel
    cases hi : decide (x.dat.rw i j < x.dat.len) with
    | false => simp [hi] at hsel
    | true =>
      simp only [hi, cond_true, Option.some.injEq, Prod.mk.injEq] at hsel
      obtain ⟨rfl, rfl⟩ := hsel
      have hi := of_decide_eq_true hi
      refine ⟨rfl, ?_⟩
      simp only [V] at ha
      obtain ⟨p, hp, rfl⟩ := ha
      rw [nrm_addr hs hx hp i j]
      generalize x.dat.rw i j = i at *
      generalize x.dat.cl j = j at *
      obtain ⟨p', hp', e1, e2, e3, e4⟩ := hs.pos b x hx
      rw [hp] at hp'; cases hp'
      have hl := cells_V hv hcells
      have hone := cells_one hcells hl
      have hcap : 0 < p.cap := by omega
      obtain ⟨cs, e, hcs, hsz, hmk⟩ := hs.own b x p hx hown hp hcap
      have hwfi := hs.wf b x hx i hi
      have spec := Dat.setRow_spec hd
      have hlen : cv.cells.toList.length = v.cells.length := hl.length
      have hin : (i + 1) * p.stride ≤ p.cap * p.stride := Nat.mul_le_mul_right _ (by omega)
      have hin' : i * p.stride + p.stride ≤ p.cap * p.stride := by rw [Nat.add_mul, Nat.one_mul] at hin; exact hin
      have hst := run_storeCells_at E.P p.block (p.off + i * p.stride + j) e cv.cells.toList 0 cs w hcs (by omega) hone
      simp only [Nat.add_zero] at hst
      refine ⟨w.setRow p.block (cs.toList.take (p.off + i * p.stride + j) ++ cv.cells.toList ++ cs.toList.drop (p.off + i * p.stride + j + cv.cells.toList.length)).toArray, ?_, ?_, ?_⟩
      · unfold Instr.storeAt
        have hn : ¬ cv.cells.size ≠ v.cells.length := by simp [← hlen]
        have h2 : v.cells.length = v.cells.length := rfl
        simp only [Sem.run_bind, Instr.sureAddr, Sem.run_pure, Result.andThen_ok, storeVar, sizeT_run hsize, if_neg hn, Pos.addr, hst]
      ·
        have hgone := hs.row_gone hx hown hp hcap (cs.toList.take (p.off + i * p.stride + j) ++ cv.cells.toList ++ cs.toList.drop (p.off + i * p.stride + j + cv.cells.toList.length)).toArray
        generalize hW' : (w.setRow p.block (cs.toList.take (p.off + i * p.stride + j) ++ cv.cells.toList ++ cs.toList.drop (p.off + i * p.stride + j + cv.cells.toList.length)).toArray) = w' at hgone ⊢
        have hheap : w'.heap[p.block]? = some (.cells (cs.toList.take (p.off + i * p.stride + j) ++ cv.cells.toList ++ cs.toList.drop (p.off + i * p.stride + j + cv.cells.toList.length)).toArray e (0, 0)) := by
          rw [← hW']; exact setRow_heap w p.block cs _ e (0, 0) hcs
        have hget : ∀ q : Nat, w'.cell? ⟨p.block, q, none⟩ = if p.off + i * p.stride + j ≤ q ∧ q < p.off + i * p.stride + j + v.cells.length then cv.cells.toList[q - (p.off + i * p.stride + j)]? else cs.toList[q]? := by
          intro q
          rw [cell_of_row w' p.block q _ e (0, 0) hheap]
          have hcl : cs.toList.length = cs.size := by simp
          simp only [List.getElem?_toArray]
          rw [List.append_assoc]
          by_cases q1 : q < p.off + i * p.stride + j
          · rw [List.getElem?_append_left (by simp; omega), if_neg (by omega), List.getElem?_take, if_pos q1]
          · rw [List.getElem?_append_right (by simp; omega)]
            have hmin : (List.take (p.off + i * p.stride + j) cs.toList).length = p.off + i * p.stride + j := by simp; omega
            rw [hmin]
            by_cases q2 : q < p.off + i * p.stride + j + v.cells.length
            · rw [List.getElem?_append_left (by omega), if_pos (by omega)]
            · rw [List.getElem?_append_right (by omega), if_neg (by omega), List.getElem?_drop]
              congr 1
              omega
        have hold : ∀ q c, w.cell? ⟨p.block, q, none⟩ = some c → cs.toList[q]? = some c := by
          intro q c hc
          rw [cell_of_row w p.block q cs e (0, 0) hcs] at hc
          simpa using hc
        refine ⟨?_, ?_, ?_, ?_, ?_⟩
        · intro c y hc
          by_cases ec : c = b
          · subst ec; simp only [updW, updF_same, Option.some.injEq] at hc; subst hc
            exact ⟨p, hp, by rw [e1]; exact spec.stride.symm, by rw [e2]; exact spec.len.symm, e3, e4⟩
          · simp only [updW, updF_other _ _ _ ec] at hc; exact hs.pos c y hc
        · intro c y hc i' hi'
          by_cases ec : c = b
          · subst ec; simp only [updW, updF_same, Option.some.injEq] at hc; subst hc
            show (d.row i').length = d.stride ∧ _
            have hi'' : i' < x.dat.len := by rw [← spec.len]; exact hi'
            rw [spec.row i' hi'', spec.stride]
            split
            · exact spec.wf
            · exact hs.wf c x hx i' hi''
          · simp only [updW, updF_other _ _ _ ec] at hc; exact hs.wf c y hc i' hi'
        · intro c y q hc hq i' hi' j' av hav
          by_cases ec : c = b
          · subst ec; simp only [updW, updF_same, Option.some.injEq] at hc; subst hc
            rw [hp] at hq; cases hq
            have hi'' : i' < x.dat.len := by rw [← spec.len]; exact hi'
            have hav : (d.row i')[j']? = some av := hav
            rw [spec.row i' hi''] at hav
            show ∃ c, w'.cell? ⟨p.block, p.off + i' * p.stride + j', none⟩ = some c ∧ _
            rw [hget]
            by_cases hii : i' = i
            · subst hii
              rw [if_pos rfl, setCells_get _ _ _ (by omega)] at hav
              split at hav
              · rename_i hj
                rw [if_pos (by omega)]
                obtain ⟨c, h5, h6⟩ := hl.get hav
                exact ⟨c, by rw [← h5]; congr 1; omega, h6⟩
              · rename_i hj
                rw [if_neg (by omega)]
                obtain ⟨c, h5, h6⟩ := hs.cells _ x p hx hp i' hi'' j' av hav
                exact ⟨c, hold _ _ h5, h6⟩
            · rw [if_neg hii] at hav
              have hj' : j' < p.stride := by
                have := (List.getElem?_eq_some_iff.1 hav).1
                have := (hs.wf _ x hx i' hi'').1
                omega
              have hne : ¬ (p.off + i * p.stride + j ≤ p.off + i' * p.stride + j' ∧ p.off + i' * p.stride + j' < p.off + i * p.stride + j + v.cells.length) := by
                rcases Nat.lt_or_ge i' i with hlt | hge
                · have : (i' + 1) * p.stride ≤ i * p.stride := Nat.mul_le_mul_right _ hlt
                  rw [Nat.add_mul, Nat.one_mul] at this; omega
                · have : (i + 1) * p.stride ≤ i' * p.stride := Nat.mul_le_mul_right _ (by omega)
                  rw [Nat.add_mul, Nat.one_mul] at this; omega
              rw [if_neg hne]
              obtain ⟨c, h5, h6⟩ := hs.cells _ x p hx hp i' hi'' j' av hav
              exact ⟨c, hold _ _ h5, h6⟩
          · simp only [updW, updF_other _ _ _ ec] at hc
            exact hgone.cells c y q (by rw [updF_other _ _ _ ec]; exact hc) hq i' hi' j' av hav
        · intro c y q hc ho hq h0
          by_cases ec : c = b
          · subst ec; simp only [updW, updF_same, Option.some.injEq] at hc; subst hc
            rw [hp] at hq; cases hq
            refine ⟨_, e, hheap, by simp; omega, fun T hT => ?_, fun r hr => ?_⟩
            rotate_left
            · exact hmk.2.mid (l := cv.cells.toList) (by omega) (by omega) (by omega) r hr
            obtain ⟨m1, m2, m3⟩ := hmk.1 T (by rw [← Dat.setRow_mark hd]; exact hT)
            refine ⟨m1, m2, fun hg => ?_⟩
            have m3 := m3 (by rw [← Dat.setRow_gen hd]; exact hg)
            have := spec.stride
            show _ = d.stride
            rw [this, ← m3]
            have e9 : cv.cells.toList.length = cv.cells.size := by simp
            simp only [List.size_toArray, List.length_append, List.length_take, List.length_drop, Array.length_toList]
            omega
          · simp only [updW, updF_other _ _ _ ec] at hc
            exact hgone.own c y q (by rw [updF_other _ _ _ ec]; exact hc) ho hq h0
        · intro c y q c' y' q' hc ho hq h0 hc' hq' hne hlv
          have old : ∀ c y, updW h [(b, some ⟨true, d⟩)] c = some y → ∃ y0, h c = some y0 ∧ (y.own = true → y0.own = true) := by
            intro c y hc
            by_cases ec : c = b
            · subst ec; exact ⟨x, hx, fun _ => hown⟩
            · simp only [updW, updF_other _ _ _ ec] at hc; exact ⟨y, hc, fun h => h⟩
          obtain ⟨y0, hy0, ho0⟩ := old c y hc
          obtain ⟨y1, hy1, ho1⟩ := old c' y' hc'
          exact hs.apart c y0 q c' y1 q' hy0 (ho0 ho) hq h0 hy1 hq' hne (by rcases hlv with ⟨h5, h6⟩ | h5; exact .inl ⟨ho1 h5, h6⟩; exact .inr h5)
      · refine ⟨⟨rfl, rfl, rfl, by simp, fun k hk hn => setRow_other w p.block k _ fun e => hn ⟨b, x, p, hx, hown, hp, hcap, e.symm⟩, fun a _ _ => frozen_setRow w _ _ a⟩, fun k hk => .inl ?_, fun k hk => .inl ?_⟩
        · obtain ⟨c, y, q, hc, ho, hq, h0, rfl⟩ := hk
          by_cases ec : c = b
          · subst ec; rw [hp] at hq; cases hq; exact ⟨c, x, p, hx, hown, hp, hcap, rfl⟩
          · simp only [updW, updF_other _ _ _ ec] at hc; exact ⟨c, y, q, hc, ho, hq, h0, rfl⟩
        · obtain ⟨c, y, q, hc, hq, hl, rfl⟩ := hk
          by_cases ec : c = b
          · subst ec; rw [hp] at hq; cases hq; exact ⟨c, x, p, hx, hp, .inl ⟨hown, hcap⟩, rfl⟩
          · simp only [updW, updF_other _ _ _ ec] at hc; exact ⟨c, y, q, hc, hq, hl, rfl⟩
theorem storeA_inv {t : TypeId} {a v : AV} {b : Nat} {d : Dat} (hA : storeA E h t a v = some (b, d)) : arrD E t v.cells = some d ∧ a = .ptr b 0 0 ∧ ∃ x, h b = some x ∧ x.own = true ∧ v.cells.all AV.isCell = true ∧ sizeT E t = some v.cells.length ∧ x.dat.stride = 1 ∧ x.dat.len = d.len := by
  unfold storeA at hA
  split at hA
  · cases hA
  · rename_i d' hd
    split at hA
    · rename_i b'
      split at hA
      · rename_i x hx
        cases hc : (x.own && v.cells.all AV.isCell && decide (sizeT E t = some v.cells.length) && (Nat.beq x.dat.stride 1 && Nat.beq x.dat.len d'.len)) with
        | false => rw [hc] at hA; cases hA
        | true =>
          rw [hc, cond_true, Option.some.injEq, Prod.mk.injEq] at hA
          obtain ⟨rfl, rfl⟩ := hA
          simp only [Bool.and_eq_true, decide_eq_true_eq] at hc
          exact ⟨hd, rfl, x, hx, hc.1.1.1, hc.1.1.2, hc.1.2, Nat.eq_of_beq_eq_true hc.2.1, Nat.eq_of_beq_eq_true hc.2.2⟩
      · cases hA
    · cases hA
theorem storeA_mk {t : TypeId} {v : AV} {b : Nat} {d : Dat} {x : Blk} (hd : arrD E t v.cells = some d) (hx : h b = some x) (h1 : x.own = true) (h2 : v.cells.all AV.isCell = true) (h3 : sizeT E t = some v.cells.length) (h4 : x.dat.stride = 1) (h5 : x.dat.len = d.len) : storeA E h t (.ptr b 0 0) v = some (b, d) := by
  unfold storeA
  rw [hd]
  simp only [hx, h1, h2, h4, h5, decide_eq_true h3, Nat.beq_refl, Bool.and_self, cond_true]
theorem arrD_inv {t : TypeId} {cs : List AV} {d : Dat} (hd : arrD E t cs = some d) : RowsSpec d (cs.map fun c => [c]) ∧ d.stride = 1 ∧ d.mark = none ∧ 0 < cs.length := by
  unfold arrD at hd
  split at hd
  · split at hd
    · rename_i k _
      cases hc : (Nat.ble cs.length 100000 && Nat.blt 0 cs.length) with
      | false => rw [hc] at hd; cases hd
      | true =>
        rw [hc, cond_true] at hd
        rw [Bool.and_eq_true] at hc
        refine ⟨Dat.ofRows_spec hd, ?_, ?_, Nat.le_of_ble_eq_true hc.2⟩
        · unfold Dat.ofRows at hd
          rw [Option.map_eq_some_iff] at hd
          obtain ⟨l, _, rfl⟩ := hd
          rfl
        · unfold Dat.ofRows at hd
          rw [Option.map_eq_some_iff] at hd
          obtain ⟨l, _, rfl⟩ := hd
          rfl
    · cases hd
  · cases hd
theorem storeR_eff (hs : SatH ρ h w) (t : TypeId) (a v : AV) {ca cv : Value} (ha : V ρ a ca) (hv : V ρ v cv) :
    ∀ r W, (storeR E h t a v).sel = some (r, W) → r = .any ∧ ∃ w', (Instr.storeAt t ca cv).run E.P w = .ok () w' ∧ SatH ρ (updW h W) w' ∧ Stp (domB ρ h) (domB ρ (updW h W)) w w' := by
  intro r W hsel
  unfold storeR at hsel
  cases hA : storeA E h t a v with
  | none =>
    rw [hA] at hsel
    exact storeR0_eff hs t a v ha hv r W hsel
  | some pr =>
    obtain ⟨b, d⟩ := pr
    rw [hA] at hsel
    simp only [T.sel, Option.some.injEq, Prod.mk.injEq] at hsel
    obtain ⟨rfl, rfl⟩ := hsel
    refine ⟨rfl, ?_⟩
    obtain ⟨hd, rfl, x, hx, hown, hcells, hsize, hs1, hdl⟩ := storeA_inv hA
    obtain ⟨spec, hst1, hmk0, hpos⟩ := arrD_inv hd
    simp only [V] at ha
    obtain ⟨p, hp, rfl⟩ := ha
    obtain ⟨p', hp', e1, e2, e3, e4⟩ := hs.pos b x hx
    rw [hp] at hp'; cases hp'
    have hl := cells_V hv hcells
    have hone := cells_one hcells hl
    have hdn : d.len = v.cells.length := by rw [spec.len]; simp
    have hps : p.stride = 1 := e1.trans hs1
    have hpl : p.len = v.cells.length := by rw [e2, hdl, hdn]
    have hcap : 0 < p.cap := by omega
    obtain ⟨cs, e, hcs, hsz, hmk⟩ := hs.own b x p hx hown hp hcap
    have hlen : cv.cells.toList.length = v.cells.length := hl.length
    rw [hps, Nat.mul_one] at hsz
    have hst := run_storeCells_at E.P p.block p.off e cv.cells.toList 0 cs w hcs (by omega) hone
    simp only [Nat.add_zero] at hst
    refine ⟨w.setRow p.block (cs.toList.take p.off ++ cv.cells.toList ++ cs.toList.drop (p.off + cv.cells.toList.length)).toArray, ?_, ?_, ?_⟩
    · unfold Instr.storeAt
      have hn : ¬ cv.cells.size ≠ v.cells.length := by simp [← hlen]
      have haddr : p.addr 0 0 = ⟨p.block, p.off, none⟩ := by simp [Pos.addr]
      simp only [Sem.run_bind, Instr.sureAddr, Sem.run_pure, Result.andThen_ok, storeVar, sizeT_run hsize, if_neg hn, haddr, hst]
    · have hgone := hs.row_gone hx hown hp hcap (cs.toList.take p.off ++ cv.cells.toList ++ cs.toList.drop (p.off + cv.cells.toList.length)).toArray
      generalize hW' : (w.setRow p.block (cs.toList.take p.off ++ cv.cells.toList ++ cs.toList.drop (p.off + cv.cells.toList.length)).toArray) = w' at hgone ⊢
      have hheap : w'.heap[p.block]? = some (.cells (cs.toList.take p.off ++ cv.cells.toList ++ cs.toList.drop (p.off + cv.cells.toList.length)).toArray e (0, 0)) := by
        rw [← hW']; exact setRow_heap w p.block cs _ e (0, 0) hcs
      have hget : ∀ q : Nat, p.off ≤ q → q < p.off + v.cells.length → w'.cell? ⟨p.block, q, none⟩ = cv.cells.toList[q - p.off]? := by
        intro q q1 q2
        rw [cell_of_row w' p.block q _ e (0, 0) hheap]
        have hcl : cs.toList.length = cs.size := by simp
        simp only [List.getElem?_toArray]
        have hmin : (List.take p.off cs.toList).length = p.off := by simp; omega
        rw [List.append_assoc, List.getElem?_append_right (by omega), hmin, List.getElem?_append_left (by omega)]
      refine ⟨?_, ?_, ?_, ?_, ?_⟩
      · intro c y hc
        by_cases ec : c = b
        · subst ec; simp only [updW, updF_same, Option.some.injEq] at hc; subst hc
          exact ⟨p, hp, by rw [hps]; exact hst1.symm, by rw [hpl]; exact hdn.symm, e3, e4⟩
        · simp only [updW, updF_other _ _ _ ec] at hc; exact hs.pos c y hc
      · intro c y hc i' hi'
        by_cases ec : c = b
        · subst ec; simp only [updW, updF_same, Option.some.injEq] at hc; subst hc
          exact spec.wf i' hi'
        · simp only [updW, updF_other _ _ _ ec] at hc; exact hs.wf c y hc i' hi'
      · intro c y q hc hq i' hi' j' av hav
        by_cases ec : c = b
        · subst ec; simp only [updW, updF_same, Option.some.injEq] at hc; subst hc
          rw [hp] at hq; cases hq
          have hi2 : i' < v.cells.length := by rw [← hdn]; exact hi'
          have hav : (d.row i')[j']? = some av := hav
          rw [spec.row i' (by simpa using hi2)] at hav
          have hrow : (v.cells.map fun c => [c]).getD i' [] = [v.cells[i']] := by simp [List.getD, hi2]
          rw [hrow] at hav
          cases j' with
          | succ j => simp at hav
          | zero =>
            simp only [List.getElem?_cons_zero, Option.some.injEq] at hav
            subst hav
            obtain ⟨c, h5, h6⟩ := hl.get (List.getElem?_eq_getElem hi2)
            refine ⟨c, ?_, h6⟩
            show w'.cell? ⟨p.block, p.off + i' * p.stride + 0, none⟩ = _
            rw [hps, Nat.mul_one, Nat.add_zero, hget _ (by omega) (by omega), ← h5]
            congr 1; omega
        · simp only [updW, updF_other _ _ _ ec] at hc
          exact hgone.cells c y q (by rw [updF_other _ _ _ ec]; exact hc) hq i' hi' j' av hav
      · intro c y q hc ho hq h0
        by_cases ec : c = b
        · subst ec; simp only [updW, updF_same, Option.some.injEq] at hc; subst hc
          rw [hp] at hq; cases hq
          refine ⟨_, e, hheap, by rw [hps]; simp; omega, fun T hT => ?_, ?_⟩
          rotate_left
          · exact hmk.2.mid (l := cv.cells.toList) (by omega) (by omega) (by rw [hps]; omega)
          have hT : d.mark = some T := hT
          rw [hmk0] at hT; cases hT
        · simp only [updW, updF_other _ _ _ ec] at hc
          exact hgone.own c y q (by rw [updF_other _ _ _ ec]; exact hc) ho hq h0
      · intro c y q c' y' q' hc ho hq h0 hc' hq' hne hlv
        have old : ∀ c y, updW h [(b, some ⟨true, d⟩)] c = some y → ∃ y0, h c = some y0 ∧ (y.own = true → y0.own = true) := by
          intro c y hc
          by_cases ec : c = b
          · subst ec; exact ⟨x, hx, fun _ => hown⟩
          · simp only [updW, updF_other _ _ _ ec] at hc; exact ⟨y, hc, fun h => h⟩
        obtain ⟨y0, hy0, ho0⟩ := old c y hc
        obtain ⟨y1, hy1, ho1⟩ := old c' y' hc'
        exact hs.apart c y0 q c' y1 q' hy0 (ho0 ho) hq h0 hy1 hq' hne (by rcases hlv with ⟨h5, h6⟩ | h5; exact .inl ⟨ho1 h5, h6⟩; exact .inr h5)
    · refine ⟨⟨rfl, rfl, rfl, by simp, fun k hk hn => setRow_other w p.block k _ fun e => hn ⟨b, x, p, hx, hown, hp, hcap, e.symm⟩, fun a _ _ => frozen_setRow w _ _ a⟩, fun k hk => .inl ?_, fun k hk => .inl ?_⟩
      · obtain ⟨c, y, q, hc, ho, hq, h0, rfl⟩ := hk
        by_cases ec : c = b
        · subst ec; rw [hp] at hq; cases hq; exact ⟨c, x, p, hx, hown, hp, hcap, rfl⟩
        · simp only [updW, updF_other _ _ _ ec] at hc; exact ⟨c, y, q, hc, ho, hq, h0, rfl⟩
      · obtain ⟨c, y, q, hc, hq, hl, rfl⟩ := hk
        by_cases ec : c = b
        · subst ec; rw [hp] at hq; cases hq; exact ⟨c, x, p, hx, hp, .inl ⟨hown, hcap⟩, rfl⟩
        · simp only [updW, updF_other _ _ _ ec] at hc; exact ⟨c, y, q, hc, hq, hl, rfl⟩
end
end Go.Am
namespace Go.Am
section
variable {ρ : Rho} {E : Env} {w : World} {h : Heap}
theorem setCells_fold : ∀ (vs : List Value) (as : List AV) (k off : Nat) (cs : List AV) (zs : Array Value), VL ρ cs zs.toList → VL ρ as vs →
    VL ρ (setCells cs (off + k) as) ((vs.zipIdx k).foldl (fun (cs : Array Value) (x : Value × Nat) => cs.setIfInBounds (off + x.2) x.1) zs).toList
  | [], as, k, off, cs, zs, hz, ha => by
    have : as = [] := by have := ha.length; exact List.eq_nil_of_length_eq_zero (by simpa using this.symm)
    subst this; simpa [setCells] using hz
  | v :: vs, as, k, off, cs, zs, hz, ha => by
    cases as with
    | nil => simp only [VL] at ha; cases ha
    | cons a as =>
      simp only [VL] at ha
      obtain ⟨v', r, e, h1, h2⟩ := ha
      cases e
      simp only [setCells, List.zipIdx_cons, List.foldl_cons]
      have := setCells_fold vs as (k + 1) off (cs.set (off + k) a) (zs.setIfInBounds (off + k) v) (by rw [Array.toList_setIfInBounds]; exact hz.set _ h1) h2
      rw [Nat.add_assoc]
      exact this
inductive PL (ρ : Rho) : List (Nat × List AV) → List (Nat × Value) → Prop
  | nil : PL ρ [] []
  | cons {i : Nat} {as : List AV} {v : Value} {r : List (Nat × List AV)} {q : List (Nat × Value)} (h : VL ρ as v.cells.toList) (t : PL ρ r q) : PL ρ ((i, as) :: r) ((i, v) :: q)
theorem fill_V {place place' : Nat → Option (Nat × Nat)} (hp : ∀ i x, place i = some x → place' i = some x) : ∀ {ps : List (Nat × List AV)} {qs : List (Nat × Value)} (_ : PL ρ ps qs) (cs : List AV) (zs : Array Value) (r : List AV),
    VL ρ cs zs.toList → fillCells place cs ps = some r → ∃ rz, Instr.fill place' zs qs = some rz ∧ VL ρ r rz.toList
  | _, _, .nil, cs, zs, r, hz, hf => by
    simp [fillCells] at hf; subst hf; exact ⟨zs, rfl, hz⟩
  | _, _, .cons (i := i) (as := as) (v := v) hv ht, cs, zs, r, hz, hf => by
    unfold fillCells at hf
    split at hf
    · cases hf
    · rename_i off size hpl
      cases hc : (Nat.beq as.length size && Nat.ble (off + as.length) cs.length) with
      | false => simp [hc] at hf
      | true =>
        simp only [hc, cond_true] at hf
        simp only [Bool.and_eq_true] at hc
        have h1 := Nat.eq_of_beq_eq_true hc.1
        have h2 := Nat.le_of_ble_eq_true hc.2
        have hvl : v.cells.size = as.length := by rw [← hv.length]; simp
        have hzl : zs.size = cs.length := by rw [← hz.length]; simp
        have hset := setCells_fold v.cells.toList as 0 off cs zs hz hv
        obtain ⟨rz, hr, hV⟩ := fill_V hp ht (setCells cs off as) _ r hset hf
        refine ⟨rz, ?_, hV⟩
        unfold Instr.fill
        rw [hp i _ hpl]
        have hn : ¬ ((v.cells.size ≠ size || decide (off + v.cells.size > zs.size)) = true) := by
          simp; omega
        simp only
        rw [if_neg hn, ← hr]
        congr 1
        rw [← Array.foldl_toList]
        simp
theorem places_run : ∀ (fs : List Field) (ps : List (Nat × Nat)), placesOf E fs = some ps → (fs.mapM (m := Sem) fun f => do pure (f.offset, ← sizeOf f.type)).run E.P w = .ok ps w
  | [], ps, h => by simp [placesOf] at h; subst h; simp
  | f :: r, ps, h => by
    unfold placesOf at h
    split at h
    · rename_i s hs
      simp only [Option.map_eq_some_iff] at h
      obtain ⟨qs, hq, rfl⟩ := h
      have ih := places_run r qs hq
      simp only [List.mapM_cons, Sem.run_bind, sizeT_run hs, Result.andThen_ok, Sem.run_pure]
      rw [show (r.mapM (m := Sem) fun f => do let s ← sizeOf f.type; pure (f.offset, s)).run E.P w = .ok qs w from ih]
      rfl
    · cases h
theorem buildR_pure (t : TypeId) (parts : List (Nat × AV)) (cps : Array (Nat × Value)) (hp : (∀ p ∈ parts, p.2.cells.all AV.isCell = true) → PL ρ (parts.map fun p => (p.1, p.2.cells)) cps.toList) :
    Pure ρ E.P w (buildR E t parts) (Instr.build t cps) := by
  unfold buildR
  cases hall : parts.all (fun p => p.2.cells.all AV.isCell) with
  | false => simp only [cond_false]; exact Pure.bad
  | true =>
    simp only [cond_true]
    have hPL := hp (fun p hm => List.all_eq_true.1 hall p hm)
    split
    · exact Pure.bad
    · rename_i z hz
      obtain ⟨i, zv, hi, hiz, hzr, hzl⟩ := zeroCells_run (ρ := ρ) hz
      split
      · rename_i fs hfs
        split
        · rename_i ps hps
          refine Pure.opt fun v hv => ?_
          simp only [Option.map_eq_some_iff] at hv
          obtain ⟨r, hr, rfl⟩ := hv
          obtain ⟨rz, hrz, hV⟩ := fill_V (place' := fun i => ps.toArray[i]?) (fun i x hx => by simpa using hx) hPL z zv.cells r hzl hr
          refine ⟨.agg rz, ?_, by simp only [V]; exact ⟨_, rfl, hV⟩⟩
          have hm : (fs.mapM (m := Sem) fun f => do pure (f.offset, ← sizeOf f.type)).run E.P w = .ok ps.toArray w := by
            rw [Array.mapM_eq_mapM_toList]
            have := places_run (w := w) fs.toList ps hps
            simp only [Sem.run_map, this, Result.andThen_ok]
          unfold Instr.build
          simp only [Sem.run_bind, hzr, Result.andThen_ok, run_und hfs, hm, hrz, Sem.run_pure]
        · exact Pure.bad
      · rename_i n e he
        split
        · rename_i s hs
          refine Pure.opt fun v hv => ?_
          simp only [Option.map_eq_some_iff] at hv
          obtain ⟨r, hr, rfl⟩ := hv
          obtain ⟨rz, hrz, hV⟩ := fill_V (place' := fun i => some (i * s, s)) (fun i x hx => hx) hPL z zv.cells r hzl hr
          refine ⟨.agg rz, ?_, by simp only [V]; exact ⟨_, rfl, hV⟩⟩
          unfold Instr.build
          simp only [Sem.run_bind, hzr, Result.andThen_ok, run_und he, sizeT_run hs, hrz, Sem.run_pure]
        · exact Pure.bad
      · exact Pure.bad
theorem zeroRow_V {z : List AV} {zs : Array Value} (hz : VL ρ z zs.toList) (hpos : 0 < z.length) (n : Nat) : VL ρ (zeroRow z n) ((Array.range n).map fun i => zs[i % zs.size]!).toList := by
  have hsz : zs.size = z.length := by rw [← hz.length]; simp
  refine VL.of_get (by simp [zeroRow]) fun i a v ha hv => ?_
  simp only [zeroRow, List.getElem?_map, Option.map_eq_some_iff] at ha
  obtain ⟨i', hi', rfl⟩ := ha
  simp only [Array.toList_map, List.getElem?_map, Option.map_eq_some_iff] at hv
  obtain ⟨i2, hi2, rfl⟩ := hv
  have e1 : i' = i := by obtain ⟨h1, h2⟩ := List.getElem?_eq_some_iff.1 hi'; simpa using h2.symm
  have e2 : i2 = i := by obtain ⟨h1, h2⟩ := List.getElem?_eq_some_iff.1 hi2; simpa using h2.symm
  subst e1; subst e2
  have hlt : i2 % z.length < z.length := Nat.mod_lt _ hpos
  obtain ⟨u, hu, hV⟩ := hz.get (List.getElem?_eq_getElem hlt)
  have h3 : i2 % zs.size < zs.size := by rw [hsz]; exact hlt
  rw [getElem!_pos zs _ h3]
  have : zs[i2 % zs.size] = u := by
    have h4 : zs.toList[i2 % z.length]? = some zs[i2 % zs.size] := by
      rw [← hsz]; simp [h3]
    rw [hu] at h4; exact (Option.some.inj h4).symm
  rw [this]
  simpa [List.getD, hlt] using hV
theorem chop_len (s : Nat) : ∀ (n : Nat) (l : List AV), (chop s n l).length = n
  | 0, _ => rfl
  | n + 1, l => by simp [chop, chop_len s n]
theorem chop_get (s : Nat) : ∀ (n : Nat) (l : List AV) (i : Nat), i < n → (chop s n l).getD i [] = (l.drop (i * s)).take s
  | 0, _, i, h => by omega
  | n + 1, l, 0, _ => by simp [chop, List.getD]
  | n + 1, l, i + 1, h => by
    have := chop_get s n (l.drop s) i (by omega)
    simp only [chop]
    rw [show (List.take s l :: chop s n (List.drop s l)).getD (i + 1) [] = (chop s n (l.drop s)).getD i [] from by simp [List.getD]]
    rw [this, List.drop_drop]
    congr 2
    rw [Nat.add_mul, Nat.one_mul, Nat.add_comm]
theorem buildSliceR_eff (hs : SatH ρ h w) {id : Nat} (hid : ∀ b, id ≤ b → b < id + 64 → ρ b = none) (t : TypeId) (n : Nat) (parts : List (Nat × AV)) (cps : Array (Nat × Value))
    (hp : (∀ p ∈ parts, p.2.cells.all AV.isCell = true) → PL ρ (parts.map fun p => (p.1, p.2.cells)) cps.toList) :
    Eff ρ E.P h w id (buildSliceR E id t n parts) (Instr.buildSlice t n cps) := by
  unfold buildSliceR
  split
  rotate_left
  · exact Eff.bad
  rename_i e ht
  split
  rotate_left
  · exact Eff.bad
  rename_i z s hz hs'
  split
  · exact Eff.bad
  rename_i cs hfill
  cases hcond : (parts.all (fun p => p.2.cells.all AV.isCell) && Nat.beq z.length s && Nat.blt 0 s && Nat.ble (n * s) 1000000) with
  | false => simp only [cond_false]; exact Eff.bad
  | true =>
    simp only [cond_true]
    simp only [Bool.and_eq_true] at hcond
    obtain ⟨⟨⟨hall, hzs⟩, hpos⟩, hble⟩ := hcond
    have hzs := Nat.eq_of_beq_eq_true hzs
    have hpos : 0 < s := Nat.le_of_ble_eq_true hpos
    have hble := Nat.le_of_ble_eq_true hble
    split
    rotate_left
    · exact Eff.bad
    rename_i d hd
    cases hstr0 : (Nat.beq d.stride s && markIn e d) with
    | false => simp only [cond_false]; exact Eff.bad
    | true =>
      simp only [cond_true]
      simp only [Bool.and_eq_true] at hstr0
      obtain ⟨hstr, hmi⟩ := hstr0
      have hstr := Nat.eq_of_beq_eq_true hstr
      have hPL := hp (fun p hm => List.all_eq_true.1 hall p hm)
      obtain ⟨i, zv, hi, hiz, hzr, hzl⟩ := zeroCells_run (ρ := ρ) hz
      have hrow := zeroRow_V hzl (by omega) (n * s)
      obtain ⟨rz, hrz, hV⟩ := fill_V (place' := fun i => some (i * s, s)) (fun i x hx => hx) hPL _ _ cs hrow hfill
      have spec := Dat.ofRows_spec hd
      have hdl : d.len = n := by rw [spec.len, chop_len]
      have hcl : rz.size = cs.length := by rw [← hV.length]; simp
      have hlen2 : cs.length = n * s := by
        have : ∀ (ps : List (Nat × List AV)) (c r : List AV), fillCells (fun i => some (i * s, s)) c ps = some r → r.length = c.length := by
          intro ps
          induction ps with
          | nil => intro c r hr; simp [fillCells] at hr; subst hr; rfl
          | cons p ps ih =>
            intro c r hr
            obtain ⟨i, as⟩ := p
            unfold fillCells at hr
            simp only at hr
            cases hc : (Nat.beq as.length s && Nat.ble (i * s + as.length) c.length) with
            | false => simp [hc] at hr
            | true => simp only [hc, cond_true] at hr; rw [ih _ _ hr, setCells_len]
        rw [this _ _ _ hfill]; simp [zeroRow]
      have hal := hs.alloc (hid id (Nat.le_refl _) (by omega)) d rz e n (by omega) (by simp only [maxLen]; have := Nat.le_mul_of_pos_right n hpos; omega) spec.wf (by rw [hstr]; omega) (by
        intro i hi j av hav
        have hin : i < n := by omega
        rw [spec.row i (by rw [chop_len]; exact hin), chop_get _ _ _ _ hin] at hav
        rw [List.getElem?_take] at hav
        split at hav
        · rw [List.getElem?_drop] at hav
          obtain ⟨c, h1, h2⟩ := hV.get hav
          exact ⟨c, by rw [hstr]; simpa using h1, h2⟩
        · cases hav) (markIn_ok hmi)
      obtain ⟨h1, h2, h3, h4⟩ := hal
      refine Eff.leaf ⟨.slice (some ⟨w.heap.size, 0, none⟩) n n, _, _, ?_, h1, ?_, h2, h3, fun b hb hn => by have := h4 b hb hn; omega⟩
      · unfold Instr.buildSlice
        have hnb : ¬ n * s > 2 ^ 24 := by omega
        by_cases h0 : n * s = 0
        · have e0 : ((Array.range (n * s)).map fun i => zv.cells[i % zv.cells.size]!) = ((Array.range (n * s)).map fun i => (#[] : Array Value)[i % (#[] : Array Value).size]!) := by
            have e1 : Array.range 0 = #[] := by simp
            rw [h0, e1]; simp only [List.map_toArray, List.map_nil]
          simp only [Sem.run_bind, run_und ht, Result.andThen_ok, sizeT_run hs', Sem.run_ite, if_neg hnb, if_pos h0, Sem.run_pure]
          rw [← e0, hrz]
          simp [newRow]
        · simp only [Sem.run_bind, run_und ht, Result.andThen_ok, sizeT_run hs', Sem.run_ite, if_neg hnb, if_neg h0, hzr, Sem.run_pure, hrz]
          simp [newRow]
      · simp only [V]
        exact ⟨_, updF_same _ _ _, by simp [hdl], ⟨some ⟨w.heap.size, 0, none⟩, by simp [hdl], fun _ => by simp [Pos.addr]⟩⟩
end
end Go.Am
namespace Go.Am
section
variable {P : Program} (w : World)
theorem app_room (t u ty e : TypeId) (i : TypeInfo) (du : TypeDesc) (ht : P.underlying t = some (.slice e)) (hu : P.underlying u = some du) (hdu : (∃ e', du = .slice e') ∨ du = .string) (hi : P.info? e = some i)
    (base : Option Addr) (n c m : Nat) (y : Value) (news : List Value) (hl : (Builtin.lenOf y).run P w = .ok m w) (hn : (Builtin.firstCells i.size m y).run P w = .ok news.toArray w) (hroom : n + m ≤ c) :
    (Builtin.append_ #[t, u] ty #[.slice base n c, y]).run P w =
      ((match base with | some a => storeCells (a.add (n * i.size)) news | none => pure () : Sem Unit).run P w).andThen fun _ w' => .ok (.slice base (n + m) c) w' := by
  rcases hdu with ⟨e', rfl⟩ | rfl
  · cases base <;> simp [Builtin.append_, run_und ht, run_und hu, sizeOf, typeInfo, hi, hl, hroom, hn]
  · cases base <;> simp [Builtin.append_, run_und ht, run_und hu, sizeOf, typeInfo, hi, hl, hroom, hn]
theorem app_grow (t u ty e : TypeId) (i : TypeInfo) (z : Value) (du : TypeDesc) (ht : P.underlying t = some (.slice e)) (hu : P.underlying u = some du) (hdu : (∃ e', du = .slice e') ∨ du = .string) (hi : P.info? e = some i) (hz : i.zero = some z)
    (base : Option Addr) (n c m : Nat) (y : Value) (olds news : List Value) (hl : (Builtin.lenOf y).run P w = .ok m w) (hn : (Builtin.firstCells i.size m y).run P w.drew = .ok news.toArray w.drew)
    (ho : (Builtin.firstCells i.size n (.slice base n c)).run P w.drew = .ok olds.toArray w.drew)
    (hg : c < n + m) (h63 : n + m ≤ 9223372036854775807) (hfit : Builtin.nextslicecap (n + m) c * i.bytes ≤ 281474976710656) :
    (Builtin.append_ #[t, u] ty #[.slice base n c, y]).run P w =
      .ok (.slice (some ⟨w.heap.size, 0, none⟩) (n + m) (grownCap w (n + m) c e)) (w.drew.alloc (.cells (olds.toArray ++ news.toArray ++ Builtin.zeroCells z.cells (grownCap w (n + m) c e - (n + m))) e)) := by
  have hroom : ¬ (n + m ≤ c) := by omega
  have h63' : ¬ ((9223372036854775807 : Int) < ((n : Int) + (m : Int))) := by omega
  have h48' : ¬ (281474976710656 < Builtin.nextslicecap (n + m) c * i.bytes) := by omega
  have ho' : (Builtin.firstCells i.size n (.slice base n c)).run P w.drew = .ok olds.toArray w.drew := ho
  rcases hdu with ⟨e', rfl⟩ | rfl
  · simp [Builtin.append_, run_und ht, run_und hu, sizeOf, typeInfo, zeroValue, hi, hz, hl, hroom, h63', h48', Question.forced, hn, ho', newRow, grownCap]
    congr 2
    apply Array.ext'
    simp
  · simp [Builtin.append_, run_und ht, run_und hu, sizeOf, typeInfo, zeroValue, hi, hz, hl, hroom, h63', h48', Question.forced, hn, ho', newRow, grownCap]
    congr 2
    apply Array.ext'
    simp
end
section
variable {ρ : Rho} {E : Env} {w : World} {h : Heap}
structure Src (ρ : Rho) (P : Program) (w : World) (y : Value) (d : Dat) (s : Nat) (news : List Value) : Prop where
  len : ∀ w', (Builtin.lenOf y).run P w' = .ok d.len w'
  cells : (Builtin.firstCells s d.len y).run P w = .ok news.toArray w
  cells' : (Builtin.firstCells s d.len y).run P w.drew = .ok news.toArray w.drew
  size : news.length = d.len * s
  row : ∀ i, i < d.len → ∀ j av, (d.row i)[j]? = some av → ∃ c, news[i * s + j]? = some c ∧ V ρ av c
  one : ∀ v ∈ news, v.oneCell' = true
  wf : d.WF
  stride : d.stride = s
theorem divmod {s i j : Nat} (hj : j < s) : (i * s + j) / s = i ∧ (i * s + j) % s = j := by
  have hs : 0 < s := by omega
  constructor
  · rw [Nat.add_comm, Nat.add_mul_div_right _ _ hs, Nat.div_eq_of_lt hj, Nat.zero_add]
  · rw [Nat.add_comm, Nat.add_mul_mod_self_right, Nat.mod_eq_of_lt hj]
theorem block_cells (hs : SatH ρ h w) {b : Nat} {x : Blk} {p : Pos} (hb : h b = some x) (hp : ρ b = some p) (i n : Nat) (hin : i + n ≤ x.dat.len) :
    ∃ cs : List Value, cs.length = n * x.dat.stride ∧ (∀ k v, cs[k]? = some v → w.cell? ((p.addr i 0).add k) = some v) ∧
      (∀ e, e < n → ∀ j av, (x.dat.row (i + e))[j]? = some av → ∃ c, cs[e * x.dat.stride + j]? = some c ∧ V ρ av c) ∧ (∀ v ∈ cs, v.oneCell' = true) := by
  obtain ⟨p', hp', e1, e2, _⟩ := hs.pos b x hb
  rw [hp] at hp'; cases hp'
  generalize hst : x.dat.stride = s at *
  have cell : ∀ k, k < n * s → ∃ c av, w.cell? ((p.addr i 0).add k) = some c ∧ (x.dat.row (i + k / s))[k % s]? = some av ∧ V ρ av c ∧ av.isCell = true := by
    intro k hk
    have hs0 : 0 < s := by rcases Nat.eq_zero_or_pos s with h | h; subst h; simp at hk; exact h
    have hd : k / s < n := (Nat.div_lt_iff_lt_mul hs0).2 hk
    have hm : k % s < s := Nat.mod_lt _ hs0
    have hwf := hs.wf b x hb (i + k / s) (by omega)
    have hlt : k % s < (x.dat.row (i + k / s)).length := by rw [hwf.1, hst]; exact hm
    obtain ⟨c, hc, hV⟩ := hs.cells b x p hb hp (i + k / s) (by omega) (k % s) _ (List.getElem?_eq_getElem hlt)
    refine ⟨c, _, ?_, List.getElem?_eq_getElem hlt, hV, List.all_eq_true.1 hwf.2 _ (List.getElem_mem hlt)⟩
    rw [← hc, pos_add]
    congr 1
    simp only [Pos.addr, Addr.mk.injEq, and_true, true_and, Nat.zero_add]
    have : k = k / s * s + k % s := by rw [Nat.mul_comm]; exact (Nat.div_add_mod k s).symm
    rw [e1, Nat.add_mul]
    omega
  refine ⟨(List.range (n * s)).map fun k => (w.cell? ((p.addr i 0).add k)).getD undef, by simp, ?_, ?_, ?_⟩
  · intro k v hk
    simp only [List.getElem?_map, Option.map_eq_some_iff] at hk
    obtain ⟨k', hk', rfl⟩ := hk
    obtain ⟨h1, h2⟩ := List.getElem?_eq_some_iff.1 hk'
    have e : k' = k := by simpa using h2.symm
    subst e
    obtain ⟨c, av, hc, _⟩ := cell k' (by simpa using h1)
    rw [hc]; rfl
  · intro e he j av hav
    have hwf := hs.wf b x hb (i + e) (by omega)
    have hj : j < s := by have := (List.getElem?_eq_some_iff.1 hav).1; rw [hwf.1, hst] at this; exact this
    have hk : e * s + j < n * s := by have : (e + 1) * s ≤ n * s := Nat.mul_le_mul_right _ he; rw [Nat.add_mul, Nat.one_mul] at this; omega
    obtain ⟨c, av', hc, hrow, hV, _⟩ := cell (e * s + j) hk
    rw [(divmod hj).1, (divmod hj).2, hav] at hrow
    cases hrow
    exact ⟨c, by simp [hk, hc], hV⟩
  · intro v hv
    simp only [List.mem_map, List.mem_range] at hv
    obtain ⟨k, hk, rfl⟩ := hv
    obtain ⟨c, av, hc, _, hV, hcell⟩ := cell k hk
    rw [hc]; exact isCell_one hcell hV
theorem src_slice (hs : SatH ρ h w) {y : AV} {d : Dat} (hd : datOf h y = some d) {cv : Value} (hv : V ρ y cv) : ∃ news, Src ρ E.P w cv d d.stride news := by
  have main : ∀ (b i n : Nat) (x : Blk) (p : Pos), h b = some x → ρ b = some p → i + n ≤ x.dat.len → d.stride = x.dat.stride → d.len = n → (∀ k, k < n → d.row k = x.dat.row (i + k)) → SlV p i n cv → ∃ news, Src ρ E.P w cv d d.stride news := by
    intro b i n x p hx hp hin e1 e2 e3 hsl
    obtain ⟨p', hp', e4, e5, e6, _⟩ := hs.pos b x hx
    rw [hp] at hp'; cases hp'
    obtain ⟨a, rfl, ha⟩ := hsl
    obtain ⟨cs, hl, hc, hrow, hone⟩ := block_cells hs hx hp i n hin
    have fc : ∀ w', (∀ k v, cs[k]? = some v → w'.cell? ((p.addr i 0).add k) = some v) → (Builtin.firstCells d.stride d.len (.slice a n (p.cap - i))).run E.P w' = .ok cs.toArray w' := by
      intro w' hc'
      rw [e2]
      by_cases hlt : i < p.cap
      · rw [ha hlt]
        exact run_firstCells_some (P := E.P) w' d.stride n (p.addr i 0) n (p.cap - i) cs (by rw [hl, e1]) hc'
      · have hn0 : n = 0 := by omega
        subst hn0
        have : cs = [] := List.eq_nil_of_length_eq_zero (by simpa using hl)
        subst this
        cases a with
        | none => simp [Builtin.firstCells]
        | some a => simp [Builtin.firstCells, loadCells, loadCellsFrom]
    exact ⟨cs, ⟨fun w' => by rw [e2]; rfl, fc w hc, fc w.drew (by simpa using hc), by rw [hl, e2, e1], fun k hk j av hav => by
      rw [e3 k (by omega)] at hav
      obtain ⟨c, h1, h2⟩ := hrow k (by omega) j av hav
      exact ⟨c, by rw [e1]; exact h1, h2⟩, hone, fun k hk => by
        rw [e3 k (by omega), e1]; exact hs.wf b x hx _ (by omega), rfl⟩⟩
  unfold datOf at hd
  split at hd
  · rename_i b
    simp only [Option.map_eq_some_iff] at hd
    obtain ⟨x, hx, rfl⟩ := hd
    simp only [V] at hv
    obtain ⟨p, hp, hc, hsl⟩ := hv
    obtain ⟨p', hp', e4, e5, e6, _⟩ := hs.pos b x hx
    rw [hp] at hp'; cases hp'
    exact main b 0 x.dat.len x p hx hp (by omega) rfl rfl (fun k _ => by rw [Nat.zero_add]) (by rw [← e5]; exact hsl)
  · rename_i b i n
    simp only [Option.map_eq_some_iff] at hd
    obtain ⟨x, hx, rfl⟩ := hd
    simp only [V] at hv
    obtain ⟨p, hp, hc, hin, hsl⟩ := hv
    obtain ⟨p', hp', e4, e5, e6, _⟩ := hs.pos b x hx
    rw [hp] at hp'; cases hp'
    have sp := Dat.sub_spec x.dat i n (by omega)
    exact main b i n x p hx hp (by omega) sp.stride sp.len sp.row hsl
  · cases hd
theorem src_str (s : List UInt8) : ∃ news, Src ρ E.P w (.string ⟨s.toArray⟩) (.ints .u8 (s.map fun (c : UInt8) => (c.toNat : Int))) 1 news := by
  have hl : (Dat.ints IntKind.u8 (s.map fun (c : UInt8) => (c.toNat : Int))).len = s.length := by simp [Dat.len]
  have fc : ∀ w', (Builtin.firstCells 1 s.length (.string ⟨s.toArray⟩)).run E.P w' = .ok (s.map fun (b : UInt8) => Value.int .u8 (b.toNat : Int)).toArray w' := by
    intro w'
    simp only [Builtin.firstCells, extract_mk, Sem.run_pure]
    congr 1
    simp
  refine ⟨s.map fun (b : UInt8) => .int .u8 (b.toNat : Int), ⟨fun w' => by rw [hl]; rfl, by rw [hl]; exact fc w, by rw [hl]; exact fc w.drew, by simp [hl], fun i hi j av hav => ?_, ?_, Dat.wf_typed _ (by intro s l; simp), rfl⟩⟩
  · rw [hl] at hi
    have : j = 0 := by have := (List.getElem?_eq_some_iff.1 hav).1; simpa [Dat.row] using this
    subst this
    simp [Dat.row] at hav
    refine ⟨.int .u8 (s[i].toNat : Int), by simp [hi], ?_⟩
    subst hav
    simp [V, hi]
  · intro v hv
    simp only [List.mem_map] at hv
    obtain ⟨b, _, rfl⟩ := hv
    rfl
theorem src_nil (k : DK) (s : Nat) (hk : (Dat.empty k).stride = s) : Src ρ E.P w (.slice none 0 0) (Dat.empty k) s [] := by
  have hl : (Dat.empty k).len = 0 := by cases k <;> rfl
  refine ⟨fun w' => by rw [hl]; rfl, by rw [hl]; simp [Builtin.firstCells], by rw [hl]; simp [Builtin.firstCells], by simp [hl], (fun i hi => by omega), (fun v hv => by cases hv), (fun i hi => by omega), hk⟩
end
end Go.Am
namespace Go.Am
section
variable {ρ : Rho} {E : Env} {w : World} {h : Heap}
theorem SatH.addEmpty (hs : SatH ρ h w) {id : Nat} (hid : ρ id = none) (d : Dat) (hd : d.len = 0) :
    ρ.le (updF ρ id (some ⟨0, 0, d.stride, 0, 0, none⟩)) ∧ SatH (updF ρ id (some ⟨0, 0, d.stride, 0, 0, none⟩)) (updF h id (some ⟨true, d⟩)) w ∧
      Stp (domB ρ h) (domB (updF ρ id (some ⟨0, 0, d.stride, 0, 0, none⟩)) (updF h id (some ⟨true, d⟩))) w w ∧ (∀ b, updF ρ id (some ⟨0, 0, d.stride, 0, 0, none⟩) b ≠ none → ρ b = none → b = id) := by
  obtain ⟨h1, h2, h3, h4⟩ := hs.add hid ⟨0, 0, d.stride, 0, 0, none⟩ ⟨true, d⟩ rfl hd.symm (Nat.le_refl _) (Nat.zero_le _) (fun i hi => absurd hi (by show ¬ i < d.len; omega)) (fun i hi => absurd hi (by show ¬ i < d.len; omega)) (fun _ h0 => by simp at h0)
    (fun b y q _ _ _ hl => by rcases hl with ⟨_, h0⟩ | ⟨h0, _⟩ <;> simp at h0)
  refine ⟨h1, h2, ⟨Ext.refl _ _, fun k hk => ?_, fun k hk => ?_⟩, h4⟩
  · rcases h3 k hk with h5 | ⟨_, h5, _⟩
    · exact .inl h5
    · simp at h5
  · rcases liveB_add hk with h5 | ⟨h5, _⟩
    · exact .inl h5
    · rcases h5 with ⟨_, h5⟩ | ⟨h5, _⟩ <;> simp at h5
theorem V_empty {id : Nat} {d : Dat} (a : Option Addr) : V (updF ρ id (some ⟨0, 0, d.stride, 0, 0, none⟩)) (.slw id) (.slice a 0 0) := by
  simp only [V]
  exact ⟨_, updF_same _ _ _, Nat.le_refl _, a, rfl, fun h => by simp at h⟩
theorem datOf_len (hs : SatH ρ h w) {x : AV} {d : Dat} (hd : datOf h x = some d) {cv : Value} (hv : V ρ x cv) : slLen h x = some d.len := by
  unfold datOf at hd
  split at hd
  · rename_i b
    simp only [Option.map_eq_some_iff] at hd
    obtain ⟨y, hy, rfl⟩ := hd
    simp [slLen, hy]
  · rename_i b i n
    simp only [Option.map_eq_some_iff] at hd
    obtain ⟨y, hy, rfl⟩ := hd
    simp only [V] at hv
    obtain ⟨p, hp, _, hin, _⟩ := hv
    obtain ⟨p', hp', _, e5, _⟩ := hs.pos b y hy
    rw [hp] at hp'; cases hp'
    simp [slLen, (Dat.sub_spec y.dat i n (by omega)).len]
  · cases hd
theorem datOf_mark {x : AV} {d : Dat} (hd : datOf h x = some d) {b : Nat} (hat : slAt x 0 = some (b, 0)) {y : Blk} (hy : h b = some y) {T : TypeId} (hT : d.mark = some T) : y.dat.mark = some T := by
  unfold datOf at hd
  split at hd
  · rename_i b'
    simp [slAt] at hat; subst hat
    simp only [hy, Option.map_some, Option.some.injEq] at hd
    subst hd; exact hT
  · rename_i b' i n
    simp only [Option.map_eq_some_iff] at hd
    obtain ⟨z, _, rfl⟩ := hd
    rw [Dat.sub_mark] at hT; cases hT
  · cases hd
theorem datOf_row (hs : SatH ρ h w) {x : AV} {d : Dat} (hd : datOf h x = some d) {b : Nat} (hat : slAt x 0 = some (b, 0)) {y : Blk} (hy : h b = some y) {cv : Value} (hv : V ρ x cv) :
    d.stride = y.dat.stride ∧ d.len ≤ y.dat.len ∧ ∀ k, k < d.len → d.row k = y.dat.row k := by
  unfold datOf at hd
  split at hd
  · rename_i b'
    simp [slAt] at hat; subst hat
    simp only [hy, Option.map_some, Option.some.injEq] at hd
    subst hd
    exact ⟨rfl, Nat.le_refl _, fun _ _ => rfl⟩
  · rename_i b' i n
    simp [slAt] at hat
    obtain ⟨rfl, rfl⟩ := hat
    simp only [hy, Option.map_some, Option.some.injEq] at hd
    subst hd
    simp only [V] at hv
    obtain ⟨p, hp, _, hin, _⟩ := hv
    obtain ⟨p', hp', _, e5, _⟩ := hs.pos b' y hy
    rw [hp] at hp'; cases hp'
    have sp := Dat.sub_spec y.dat 0 n (by omega)
    exact ⟨sp.stride, by rw [sp.len]; omega, fun k hk => by rw [sp.row k (by rw [sp.len] at hk; exact hk), Nat.zero_add]⟩
  · cases hd
theorem Stp.of_drop {b : Nat} {O' : Dom} {w' : World} (h3 : Stp (domB ρ (updF h b none)) O' w.drew w') : Stp (domB ρ h) O' w w' :=
  ⟨⟨h3.ext.os, h3.ext.tape, h3.ext.output, h3.ext.size, fun k hk hn => h3.ext.block k hk fun hO => hn (ownB_drop hO), fun a ha hn => h3.ext.frozen a ha fun hO => hn (ownB_drop hO)⟩, fun k hk => by
    rcases h3.sub k hk with h5 | h5
    · exact .inl (ownB_drop h5)
    · exact .inr h5, fun k hk => by
    rcases h3.src k hk with h5 | h5
    · exact .inl (liveB_drop h5)
    · exact .inr h5⟩
theorem V_grown {id : Nat} {d' : Dat} {n m c g : Nat} (hdl : d'.len = n + m) (hc : n + m ≤ c) : V (updF ρ id (some ⟨g, 0, d'.stride, d'.len, c, none⟩)) (.slw id) (.slice (some ⟨g, 0, none⟩) (n + m) c) := by
  simp only [V]
  exact ⟨_, updF_same _ _ _, by show d'.len ≤ c; omega, ⟨some ⟨g, 0, none⟩, by simp only [Nat.sub_zero, hdl], fun _ => by simp only [Pos.addr, Nat.zero_mul, Nat.add_zero]⟩⟩
theorem seg_lt {i k s j : Nat} (hi : i < k) (hj : j < s) : i * s + j < k * s := by
  have : (i + 1) * s ≤ k * s := Nat.mul_le_mul_right _ hi
  rw [Nat.add_mul, Nat.one_mul] at this; omega
theorem grown_cells {d0 d d' : Dat} {s : Nat} {olds news : List Value} {y : Value} (zs : Array Value) (spec : AppSpec d0 d d') (hs : d0.stride = s) (hl0 : olds.length = d0.len * s)
    (hr0 : ∀ i, i < d0.len → ∀ j av, (d0.row i)[j]? = some av → ∃ c, olds[i * s + j]? = some c ∧ V ρ av c) (hw0 : d0.WF) (hsrc : Src ρ E.P w y d s news) :
    ∀ i, i < d'.len → ∀ j av, (d'.row i)[j]? = some av → ∃ c, (olds.toArray ++ news.toArray ++ zs)[i * d'.stride + j]? = some c ∧ V ρ av c := by
  intro i hi j av hav
  rw [spec.row i] at hav
  have hst : d'.stride = s := by rw [spec.stride, hs]
  rw [hst]
  have hlen := spec.len
  by_cases h1 : i < d0.len
  · rw [if_pos h1] at hav
    have hj : j < s := by have := (List.getElem?_eq_some_iff.1 hav).1; rw [(hw0 i h1).1, hs] at this; exact this
    obtain ⟨c, hc, hV⟩ := hr0 i h1 j av hav
    refine ⟨c, ?_, hV⟩
    have hlt : i * s + j < olds.length := by rw [hl0]; exact seg_lt h1 hj
    rw [Array.getElem?_append_left (by simp; omega), Array.getElem?_append_left (by simpa using hlt)]
    simpa using hc
  · rw [if_neg h1] at hav
    have hi2 : i - d0.len < d.len := by omega
    have hj : j < s := by have := (List.getElem?_eq_some_iff.1 hav).1; rw [(hsrc.wf _ hi2).1, hsrc.stride] at this; exact this
    obtain ⟨c, hc, hV⟩ := hsrc.row _ hi2 j av hav
    refine ⟨c, ?_, hV⟩
    have e : i * s + j = olds.length + ((i - d0.len) * s + j) := by
      rw [hl0]
      have : i * s = d0.len * s + (i - d0.len) * s := by rw [← Nat.add_mul]; congr 1; omega
      omega
    have hlt2 : (i - d0.len) * s + j < news.length := by rw [hsrc.size]; exact seg_lt hi2 hj
    rw [Array.getElem?_append_left (by simp; omega), Array.getElem?_append_right (by simp; omega)]
    simp only [List.size_toArray, List.getElem?_toArray]
    rw [← hc]; congr 1; omega
set_option maxHeartbeats 1000000 in
theorem appendR_eff (hs : SatH ρ h w) {id : Nat} (hid : ∀ b, id ≤ b → b < id + 64 → ρ b = none) (t u ty : TypeId) (x y : AV) {cx cy : Value} (hx : V ρ x cx) (hy : V ρ y cy)
    (htu : appOk E t u y = true) :
    Eff ρ E.P h w id (appendR E h id t x y) (Builtin.append_ #[t, u] ty #[cx, cy]) := by
  unfold appendR
  split
  rotate_left
  · exact Eff.bad
  rename_i et ht
  split
  · exact Eff.bad
  rename_i d hd
  unfold appSrc at hd
  split
  · exact Eff.bad
  rename_i i hi
  cases hcond : (Nat.beq i.size d.stride && Nat.blt 0 i.size && Nat.ble i.bytes 4096 && (match i.zero with | some z => Nat.beq z.cells.size i.size | none => false)) with
  | false => simp only [cond_false]; exact Eff.bad
  | true =>
  simp only [cond_true]
  simp only [Bool.and_eq_true] at hcond
  obtain ⟨⟨⟨c1, c2⟩, c3⟩, c4⟩ := hcond
  have c1 := Nat.eq_of_beq_eq_true c1
  have c2 : 0 < i.size := Nat.le_of_ble_eq_true c2
  have c3 := Nat.le_of_ble_eq_true c3
  obtain ⟨z, hz, hzs⟩ : ∃ z, i.zero = some z ∧ z.cells.size = i.size := by
    cases hz : i.zero with
    | none => simp [hz] at c4
    | some z => simp [hz] at c4; exact ⟨z, rfl, c4⟩
  have hsrc : ∃ news du, Src ρ E.P w cy d d.stride news ∧ E.P.underlying u = some du ∧ ((∃ e', du = .slice e') ∨ du = .string) := by
    unfold appOk at htu
    cases y with
    | str s =>
      simp only at hd htu
      cases hd
      simp only [V] at hy; subst hy
      obtain ⟨news, hn⟩ := src_str (ρ := ρ) (E := E) (w := w) s
      refine ⟨news, .string, hn, ?_, .inr rfl⟩
      split at htu
      · assumption
      · cases htu
    | nils =>
      simp only [Option.some.injEq] at hd htu
      subst hd
      have htu := of_decide_eq_true htu
      subst htu
      simp only [V] at hy; subst hy
      exact ⟨[], _, src_nil _ _ rfl, ht, .inl ⟨_, rfl⟩⟩
    | slw b =>
      simp only at hd htu
      have htu := of_decide_eq_true htu
      subst htu
      obtain ⟨news, hn⟩ := src_slice (E := E) hs hd hy
      exact ⟨news, _, hn, ht, .inl ⟨_, rfl⟩⟩
    | sl b o n =>
      simp only at hd htu
      have htu := of_decide_eq_true htu
      subst htu
      obtain ⟨news, hn⟩ := src_slice (E := E) hs hd hy
      exact ⟨news, _, hn, ht, .inl ⟨_, rfl⟩⟩
    | _ => simp [datOf] at hd
  obtain ⟨news, du, hsrc, hu, hdu⟩ := hsrc
  rw [← c1] at hsrc
  have hid0 := hid id (Nat.le_refl _) (by omega)
  have hlim : ∀ a b : Nat, a + b ≤ lim → (a + b) * i.bytes ≤ 140737488355328 := by
    intro a b hab
    have : (a + b) * i.bytes ≤ lim * 4096 := Nat.mul_le_mul hab c3
    simp only [lim] at this; omega
  split
  ·
    simp only [V] at hx; subst hx
    cases hmk : markIn et d with
    | false => simp only [cond_false]; exact Eff.bad
    | true =>
    simp only [cond_true]
    refine Eff.node (fun hl => ?_) (fun _ => Eff.bad)
    have hl : d.len ≤ lim := of_decide_eq_true hl
    by_cases h0 : d.len = 0
    · obtain ⟨h1, h2, h3, h4⟩ := hs.addEmpty hid0 d h0
      refine Eff.leaf ⟨.slice none 0 0, w, _, ?_, h1, V_empty none, h2, h3, fun b hb hn => by have := h4 b hb hn; omega⟩
      have := app_room w t u ty et i du ht hu hdu hi none 0 0 0 cy news (by rw [← h0]; exact hsrc.len w) (by rw [← h0]; exact hsrc.cells) (by omega)
      rw [this]; simp
    · have hg := app_grow w t u ty et i z du ht hu hdu hi hz none 0 0 d.len cy [] news (hsrc.len w) hsrc.cells' (by simp [Builtin.firstCells]) (by omega) (by simp only [lim] at hl; omega)
        (growslice_fits (by omega) (hlim 0 d.len (by omega)))
      have hcapge := grownCap_ge w (0 + d.len) 0 et
      have hcaple := grownCap_le_maxLen w (0 + d.len) 0 et (by simp only [lim] at hl; simp only [maxLen]; omega)
      have e0 : Dat.append (d.sub 0 0) d = some d ∨ True := .inr trivial
      obtain ⟨h1, h2, h3, h4⟩ := hs.drew.alloc hid0 d (([] : List Value).toArray ++ news.toArray ++ Builtin.zeroCells z.cells (grownCap w (0 + d.len) 0 et - (0 + d.len))) et (grownCap w (0 + d.len) 0 et) (by omega) hcaple hsrc.wf (by
          simp only [Array.size_append, List.size_toArray, size_zeroCells, hzs, hsrc.size, ← c1, List.length_nil, Nat.zero_add]
          rw [← Nat.add_mul]
          exact Nat.mul_le_mul_right _ (by omega)) (by
          intro k hk j av hav
          have hj : j < i.size := by have := (List.getElem?_eq_some_iff.1 hav).1; rw [(hsrc.wf k hk).1, hsrc.stride] at this; exact this
          obtain ⟨c, hc, hV⟩ := hsrc.row k hk j av hav
          have hlt : k * i.size + j < news.length := by rw [hsrc.size]; exact seg_lt hk hj
          refine ⟨c, ?_, hV⟩
          rw [← c1, Array.getElem?_append_left (by simp; omega)]
          simpa using hc) (markIn_ok hmk)
      refine Eff.leaf ⟨_, _, _, hg, h1, ?_, h2, ⟨⟨h3.ext.os, h3.ext.tape, h3.ext.output, h3.ext.size, h3.ext.block, h3.ext.frozen⟩, h3.sub, h3.src⟩, fun b hb hn => by have := h4 b hb hn; omega⟩
      simp only [V]
      exact ⟨_, updF_same _ _ _, Nat.le_trans (Nat.le_of_eq (Nat.zero_add _).symm) hcapge, ⟨some ⟨w.heap.size, 0, none⟩, by simp only [Nat.sub_zero, Nat.zero_add], fun _ => by simp only [Pos.addr, World.size_drew, Nat.zero_mul, Nat.add_zero]⟩⟩
  ·
    split
    rotate_left
    · exact Eff.bad
    rename_i b hat
    split
    rotate_left
    · exact Eff.bad
    rename_i d0 blk hd0 hblk
    split
    rotate_left
    · exact Eff.bad
    rename_i d' hd'
    cases hownm : (blk.own && markIn et d') with
    | false => simp only [cond_false]; exact Eff.bad
    | true =>
    simp only [cond_true]
    simp only [Bool.and_eq_true] at hownm
    obtain ⟨hown, hmi⟩ := hownm
    refine Eff.node (fun hl => ?_) (fun _ => Eff.bad)
    have hl : d0.len + d.len ≤ lim := of_decide_eq_true hl
    have spec := Dat.append_spec hd'
    have hlen0 := datOf_len hs hd0 hx
    obtain ⟨q1, q2, q3⟩ := datOf_row hs hd0 hat hblk hx
    obtain ⟨p, hp, e1, e2, e3, e4, _, e6, a, rfl, ha⟩ := slAt_V hs hlen0 hat hblk hx
    simp only [Nat.sub_self, Nat.sub_zero, Nat.zero_add] at e6 ha ⊢
    have hst0 : d0.stride = i.size := by rw [← spec.same, ← c1]
    have hw0 : d0.WF := fun k hk => by rw [q3 k hk, q1]; exact hs.wf b blk hblk k (by omega)
    have hwf' := Dat.append_wf hd' hw0 hsrc.wf
    have hdl : d'.len = d0.len + d.len := spec.len
    have hdst : d'.stride = i.size := by rw [spec.stride, hst0]
    have hidb : b ≠ id := fun e => by rw [e, hid0] at hp; cases hp
    show Eff ρ E.P h w id (.leaf (.slw id, [(b, none), (id, some ⟨true, d'⟩)])) _
    obtain ⟨olds, ol, oc, orow, _⟩ := block_cells hs hblk hp 0 d0.len (by omega)
    have hps : p.stride = i.size := by rw [e1, ← q1, hst0]
    have hbs : blk.dat.stride = i.size := by rw [← q1, hst0]
    rw [hbs] at ol orow
    by_cases hroom : d0.len + d.len ≤ p.cap
    · by_cases hc0 : p.cap = 0
      ·
        have h0 : d'.len = 0 := by omega
        obtain ⟨h1, h2, h3, h4⟩ := (hs.drop b).addEmpty hid0 d' h0
        have hr := app_room w t u ty et i du ht hu hdu hi a d0.len p.cap d.len cy news (hsrc.len w) hsrc.cells hroom
        have hn0 : news = [] := List.eq_nil_of_length_eq_zero (by rw [hsrc.size, show d.len = 0 from by omega]; simp)
        refine Eff.leaf ⟨.slice a 0 0, w, _, ?_, h1, V_empty a, h2, ⟨Ext.refl _ _, fun k hk => ?_, fun k hk => ?_⟩, fun b hb hn => by have := h4 b hb hn; omega⟩
        · rw [hr, hn0]
          have z1 : d0.len + d.len = 0 := by omega
          rw [z1, hc0]
          cases a <;> simp [storeCells]
        · rcases h3.sub k hk with h5 | h5
          · exact .inl (ownB_drop h5)
          · exact .inr h5
        · rcases h3.src k hk with h5 | h5
          · exact .inl (liveB_drop h5)
          · exact .inr h5
      ·
        have hcap : 0 < p.cap := by omega
        obtain ⟨cs, e, hcs, hsz, hmk0⟩ := hs.own b blk p hblk hown hp hcap
        have hr := app_room w t u ty et i du ht hu hdu hi a d0.len p.cap d.len cy news (hsrc.len w) hsrc.cells hroom
        have hae := ha hcap
        subst hae
        have hmul : d0.len * i.size + d.len * i.size ≤ p.cap * i.size := by rw [← Nat.add_mul]; exact Nat.mul_le_mul_right _ hroom
        rw [hps] at hsz
        have hst := run_storeCells_at E.P p.block (p.off + d0.len * i.size) e news 0 cs w hcs (by rw [hsrc.size]; omega) hsrc.one
        simp only [Nat.add_zero] at hst
        have hadd : (p.addr 0 0).add (d0.len * i.size) = ⟨p.block, p.off + d0.len * i.size, none⟩ := by rw [pos_add]; simp [Pos.addr]
        simp only [hadd, hst, Result.andThen_ok] at hr
        have hgone := hs.row_gone hblk hown hp hcap (cs.toList.take (p.off + d0.len * i.size) ++ news ++ cs.toList.drop (p.off + d0.len * i.size + news.length)).toArray
        generalize hW' : (w.setRow p.block (cs.toList.take (p.off + d0.len * i.size) ++ news ++ cs.toList.drop (p.off + d0.len * i.size + news.length)).toArray) = w' at hgone hr
        have hheap : w'.heap[p.block]? = some (.cells (cs.toList.take (p.off + d0.len * i.size) ++ news ++ cs.toList.drop (p.off + d0.len * i.size + news.length)).toArray e (0, 0)) := by
          rw [← hW']; exact setRow_heap w p.block cs _ e (0, 0) hcs
        have hwsz : w'.heap.size = w.heap.size := by rw [← hW']; simp
        obtain ⟨h1, h2, h3, h4⟩ := hgone.add hid0 ⟨p.block, p.off, i.size, d'.len, p.cap, none⟩ ⟨true, d'⟩ hdst.symm rfl (by simp only; omega) e4 hwf' (by
            intro k hk j av hav
            have hj : j < i.size := by have := (List.getElem?_eq_some_iff.1 hav).1; rw [(hwf' k hk).1, hdst] at this; exact this
            show ∃ c, w'.cell? ⟨p.block, p.off + k * i.size + j, none⟩ = some c ∧ _
            rw [cell_of_row w' p.block _ _ e (0, 0) hheap]
            have hav : (d'.row k)[j]? = some av := hav
            rw [spec.row k] at hav
            simp only [List.getElem?_toArray]
            rw [List.append_assoc]
            have htl : (List.take (p.off + d0.len * i.size) cs.toList).length = p.off + d0.len * i.size := by simp; omega
            by_cases hk0 : k < d0.len
            · rw [if_pos hk0, q3 k hk0] at hav
              obtain ⟨c, hc, hV⟩ := orow k hk0 j av (by rw [Nat.zero_add]; exact hav)
              have hlt := seg_lt hk0 hj
              refine ⟨c, ?_, hV⟩
              rw [List.getElem?_append_left (by rw [htl]; omega), List.getElem?_take, if_pos (by omega)]
              have := oc _ c hc
              rw [pos_add] at this
              have h9 : w.cell? ⟨p.block, p.off + (k * i.size + j), none⟩ = some c := by simpa [Pos.addr] using this
              rw [cell_of_row w p.block _ cs e (0, 0) hcs] at h9
              rw [Nat.add_assoc]; simpa using h9
            · rw [if_neg hk0] at hav
              have hk' : k < d'.len := hk
              have hk2 : k - d0.len < d.len := by omega
              obtain ⟨c, hc, hV⟩ := hsrc.row _ hk2 j av hav
              have hlt2 : (k - d0.len) * i.size + j < news.length := by rw [hsrc.size]; exact seg_lt hk2 hj
              have ek : k * i.size = d0.len * i.size + (k - d0.len) * i.size := by rw [← Nat.add_mul]; congr 1; omega
              refine ⟨c, ?_, hV⟩
              rw [List.getElem?_append_right (by rw [htl]; omega), htl, List.getElem?_append_left (by omega)]
              rw [← hc]; congr 1; omega)
          (fun _ _ => ⟨_, e, hheap, by
            simp only [List.size_toArray, List.length_append, List.length_take, List.length_drop, Array.length_toList]
            omega, fun T hT => by
              obtain ⟨hm1, hm2⟩ := Dat.append_mark hd' T hT
              have hbd := datOf_mark hd0 hat hblk hm1
              obtain ⟨k1, k2, _⟩ := hmk0.1 T hbd
              exact ⟨k1, k2, fun hg => by rw [show d'.isGen = true from hg] at hm2; cases hm2⟩, RestOk.none rfl⟩)
          (fun c y q hc hq hl _ => by
            have ec : c ≠ b := fun e => by subst e; rw [updF_same] at hc; cases hc
            rw [updF_other _ _ _ ec] at hc
            have := hs.apart b blk p c y q hblk hown hp hcap hc hq (Ne.symm ec) (by rcases hl with h | h; exact .inl h; exact .inr ⟨h.2.2.1, h.2.2.2⟩)
            exact fun e => this e.symm)
        refine Eff.leaf ⟨.slice (some (p.addr 0 0)) (d0.len + d.len) p.cap, w', _, hr, h1, ?_, h2, ⟨⟨?_, ?_, ?_, ?_, ?_, fun a _ _ => by rw [← hW']; exact frozen_setRow w _ _ a⟩, fun k hk => ?_, fun k hk => ?_⟩, fun b hb hn => by have := h4 b hb hn; omega⟩
        · simp only [V]
          refine ⟨_, updF_same _ _ _, by simp only; omega, ⟨some (p.addr 0 0), by simp only [Nat.sub_zero, hdl], fun _ => by simp [Pos.addr]⟩⟩
        · rw [← hW']; rfl
        · rw [← hW']; rfl
        · rw [← hW']; rfl
        · omega
        · intro k hk hn
          rw [← hW']
          exact setRow_other w p.block k _ fun e => hn ⟨b, blk, p, hblk, hown, hp, hcap, e.symm⟩
        · rcases h3 k hk with h5 | ⟨_, _, h5⟩
          · exact .inl (ownB_drop h5)
          · exact .inl ⟨b, blk, p, hblk, hown, hp, hcap, h5.symm⟩
        · rcases liveB_add hk with h5 | ⟨_, h5⟩
          · exact .inl (liveB_drop h5)
          · exact .inl ⟨b, blk, p, hblk, hp, .inl ⟨hown, hcap⟩, h5.symm⟩
    ·
      have hg := app_grow w t u ty et i z du ht hu hdu hi hz a d0.len p.cap d.len cy olds news (hsrc.len w) hsrc.cells' (by
          by_cases hc0 : 0 < p.cap
          · rw [ha hc0]
            exact run_firstCells_some (P := E.P) w.drew i.size d0.len (p.addr 0 0) d0.len p.cap olds ol (by simpa using oc)
          · have hz0 : d0.len = 0 := by omega
            have : olds = [] := List.eq_nil_of_length_eq_zero (by rw [ol, hz0]; simp)
            rw [hz0, this]
            cases a <;> simp [Builtin.firstCells, loadCells, loadCellsFrom])
        (by omega) (by simp only [lim] at hl; omega) (growslice_fits (by omega) (hlim d0.len d.len hl))
      have hcapge := grownCap_ge w (d0.len + d.len) p.cap et
      have hcaple := grownCap_le_maxLen w (d0.len + d.len) p.cap et (by simp only [lim] at hl; simp only [maxLen]; omega)
      obtain ⟨h1, h2, h3, h4⟩ := (hs.drop b).drew.alloc hid0 d' (olds.toArray ++ news.toArray ++ Builtin.zeroCells z.cells (grownCap w (d0.len + d.len) p.cap et - (d0.len + d.len))) et (grownCap w (d0.len + d.len) p.cap et) (by omega) hcaple hwf' (by
          simp only [Array.size_append, List.size_toArray, size_zeroCells, hzs, hsrc.size, hdst, ol]
          rw [← Nat.add_mul, ← Nat.add_mul]
          exact Nat.mul_le_mul_right _ (by omega))
          (grown_cells _ spec hst0 ol (fun k hk j av hav => orow k hk j av (by rw [Nat.zero_add, ← q3 k hk]; exact hav)) hw0 hsrc) (markIn_ok hmi)
      have hstp : Stp (domB ρ h) _ w _ := h3.of_drop
      exact Eff.leaf ⟨_, _, _, hg, h1, V_grown hdl hcapge, h2, hstp, fun b hb hn => by have := h4 b hb hn; omega⟩
end
end Go.Am
namespace Go.Am
section
variable {ρ : Rho} {E : Env} {w : World} {h : Heap}
theorem getD_replicate {α : Type} (n k : Nat) (x d : α) (h : k < n) : (List.replicate n x).getD k d = x := by simp [List.getD, h]
structure RepSpec (d r : Dat) (n : Nat) : Prop where
  stride : r.stride = d.stride
  len : r.len = n
  row : ∀ k, k < n → r.row k = d.row 0
theorem Dat.rep_spec (d : Dat) (n : Nat) : RepSpec d (d.rep n) n := by
  cases d <;> exact ⟨rfl, by simp [Dat.rep, Dat.len], fun k hk => by simp only [Dat.rep, Dat.row]; rw [getD_replicate _ _ _ _ hk]⟩
theorem markIn_rep (t : TypeId) (d : Dat) (n : Nat) : markIn t (d.rep n) = markIn t d := by cases d <;> rfl
theorem makeSliceR_eff (hs : SatH ρ h w) {id : Nat} (hid : ∀ b, id ≤ b → b < id + 64 → ρ b = none) (t : TypeId) (l c : AV) {cl cc : Value} (hl : V ρ l cl) (hc : V ρ c cc) :
    Eff ρ E.P h w id (makeSliceR E id t l c) (Instr.makeSlice t cl cc) := by
  unfold makeSliceR
  split
  rotate_left
  · exact Eff.bad
  rename_i kl n kc m
  simp only [V] at hl hc; subst hl; subst hc
  split
  rotate_left
  · exact Eff.bad
  rename_i e ht
  split
  rotate_left
  · exact Eff.bad
  rename_i i z hi hz
  split
  rotate_left
  · exact Eff.bad
  rename_i d1 hd1
  cases hcond : (Nat.beq i.size d1.stride && Nat.blt 0 i.size && Nat.ble i.bytes 4096 && markIn e d1) with
  | false => simp only [cond_false]; exact Eff.bad
  | true =>
  simp only [cond_true]
  simp only [Bool.and_eq_true] at hcond
  obtain ⟨⟨⟨c1, c2⟩, c3⟩, hmi⟩ := hcond
  have c1 := Nat.eq_of_beq_eq_true c1
  have c2 : 0 < i.size := Nat.le_of_ble_eq_true c2
  have c3 := Nat.le_of_ble_eq_true c3
  refine Eff.node (fun hcd => ?_) (fun _ => Eff.bad)
  obtain ⟨h0, hlim, rfl⟩ := of_decide_eq_true hcd
  obtain ⟨i', zv, hi', hiz, hzr, hzl⟩ := zeroCells_run (ρ := ρ) hz
  rw [hi] at hi'; cases hi'
  have spec := Dat.ofRows_spec hd1
  have rsp := Dat.rep_spec d1 n.toNat
  have hrow0 : d1.row 0 = z := by rw [spec.row 0 (by simp)]; rfl
  have hwf0 := spec.wf 0 (by rw [spec.len]; simp)
  have hzlen : zv.cells.size = i.size := by
    have : zv.cells.toList.length = z.length := hzl.length
    rw [← hrow0, hwf0.1, ← c1] at this
    simpa using this
  have hb : (i.bytes : Int) * n ≤ 281474976710656 := by
    have h1 : (i.bytes : Int) * n ≤ 4096 * n := Int.mul_le_mul_of_nonneg_right (by omega) h0
    simp only [lim] at hlim; omega
  have hr := run_make (P := E.P) w t e i zv ht hi hiz kl kc n n h0 (Int.le_refl _) hb (by simp only [lim] at hlim; omega)
  have hwf : (d1.rep n.toNat).WF := fun k hk => by rw [rsp.len] at hk; rw [rsp.row k hk, rsp.stride]; exact hwf0
  obtain ⟨h1, h2, h3, h4⟩ := hs.alloc (hid id (Nat.le_refl _) (by omega)) (d1.rep n.toNat) (madeCells zv.cells (n.toNat * i.size)) e n.toNat (by rw [rsp.len]; exact Nat.le_refl _) (by simp only [lim] at hlim; simp only [maxLen]; omega) hwf
    (by rw [rsp.stride, ← c1, size_madeCells]; exact Nat.le_refl _) (by
      intro k hk j av hav
      rw [rsp.len] at hk
      rw [rsp.row k hk, hrow0] at hav
      have hj : j < i.size := by have := (List.getElem?_eq_some_iff.1 hav).1; rw [← hrow0, hwf0.1, ← c1] at this; exact this
      obtain ⟨cv, hcv, hV⟩ := hzl.get hav
      have hlt := seg_lt hk hj
      refine ⟨cv, ?_, hV⟩
      rw [rsp.stride, ← c1]
      simp only [madeCells, Array.getElem?_map, Array.getElem?_range, if_pos hlt, Option.map_some, Option.some.injEq]
      rw [hzlen, (divmod hj).2]
      have hj2 : j < zv.cells.size := by omega
      rw [getElem!_pos zv.cells j hj2]
      have : zv.cells.toList[j]? = some zv.cells[j] := by simp [hj2]
      rw [hcv] at this; exact (Option.some.inj this).symm) (markIn_ok (d := d1.rep n.toNat) (by rw [markIn_rep]; exact hmi))
  refine Eff.leaf ⟨_, _, _, hr, h1, ?_, h2, h3, fun b hb hn => by have := h4 b hb hn; omega⟩
  simp only [V]
  exact ⟨_, updF_same _ _ _, by rw [rsp.len]; exact Nat.le_refl _, ⟨some ⟨w.heap.size, 0, none⟩, by simp only [Nat.sub_zero, rsp.len], fun _ => by simp only [Pos.addr, Nat.zero_mul, Nat.add_zero]⟩⟩
def CallOk (E : Env) (C : CallR) : Prop :=
  ∀ (f : FuncId) (args : List AV) (h : Heap) (id : Nat) (v : AV) (W : Upd), (C f args h id).sel = some (v, W) →
    (∃ fn, E.P.funcs[f]? = some fn ∧ fn.body.isSome = true ∧ fn.name ≠ "runtime.NumGoroutine") ∧
    ∀ (ρ : Rho) (w : World) (cargs : List Value), SatH ρ h w → GOk E (ownB ρ h) w → VL ρ args cargs → (∀ b, id ≤ b → b < id + 64 → ρ b = none) →
      Calls E.P f cargs.toArray w fun e w' => ∃ cv ρ', e = .returned cv ∧ ρ.le ρ' ∧ V ρ' v cv ∧ SatH ρ' (updW h W) w' ∧ Stp (domB ρ h) (domB ρ' (updW h W)) w w' ∧ (∀ b, ρ' b ≠ none → ρ b = none → id ≤ b ∧ b < id + 64)
def OpOk (E : Env) (o : Oper) (ρ : Rho) (h : Heap) (id : Nat) (ce : Operand → Value) (w : World) (v : AV) (W : Upd) : Prop :=
  ∀ (a : Act) (next : Act → World → Prop) (Q : Exit → Act → World → Prop), a.eval = ce →
    (∀ cv w' ρ', ρ.le ρ' → V ρ' v cv → SatH ρ' (updW h W) w' → Stp (domB ρ h) (domB ρ' (updW h W)) w w' → (∀ b, ρ' b ≠ none → ρ b = none → id ≤ b ∧ b < id + 64) → next (a.put o.dst cv) w') →
    o.wp E.P a w next Q
theorem OpRes.ok {o : Oper} {id : Nat} {ce : Operand → Value} {v : AV} {W : Upd} (hr : OpRes E.P ρ h w id (execOp ce o) v W) : OpOk E o ρ h id ce w v W := by
  intro a next Q ha hnext
  obtain ⟨cv, w', ρ', hrun, h1, h2, h3, h4, h5⟩ := hr
  unfold Oper.wp
  rw [ha]
  rcases hrun with hrun | ⟨hrun, rfl⟩
  · rw [hrun]; exact hnext cv w' ρ' h1 h2 h3 h4 h5
  · rw [hrun]; exact hnext undef w' ρ' h1 h2 h3 h4 h5
theorem VL_map {e : Operand → AV} {ce : Operand → Value} (he : ∀ x, V ρ (e x) (ce x)) (l : List Operand) : VL ρ (l.map e) (l.map ce) := by
  induction l with
  | nil => simp [VL]
  | cons x l ih => simp only [List.map_cons, VL]; exact ⟨_, _, rfl, he x, ih⟩
theorem PL_map {e : Operand → AV} {ce : Operand → Value} (he : ∀ x, V ρ (e x) (ce x)) : ∀ (l : List (Nat × Operand)), (∀ p ∈ l.map (fun p => (p.1, e p.2)), p.2.cells.all AV.isCell = true) →
    PL ρ ((l.map fun p => (p.1, e p.2)).map fun p => (p.1, p.2.cells)) (l.map fun p => (p.1, ce p.2))
  | [], _ => .nil
  | p :: l, h => by
    simp only [List.map_cons] at h ⊢
    exact .cons (cells_V (he p.2) (h _ (List.mem_cons_self ..))) (PL_map he l fun q hq => h q (List.mem_cons_of_mem _ hq))
set_option maxHeartbeats 4000000 in
theorem exR_call {C : CallR} (hC : CallOk E C) (hs : SatH ρ h w) (hgo : GOk E (ownB ρ h) w) {id : Nat} (hid : ∀ b, id ≤ b → b < id + 64 → ρ b = none) (dst : Option Tmp) (c : Call) (ty : TypeId) (pos : String) (after : Array Edge) (guard : Option (Nat × Bool))
    {e : Operand → AV} {ce : Operand → Value} (he : ∀ x, V ρ (e x) (ce x))
    {v : AV} {W : Upd} (hsel : (exR E C ⟨dst, .call c, ty, pos, after, guard⟩ id e h).sel = some (v, W)) : OpOk E ⟨dst, .call c, ty, pos, after, guard⟩ ρ h id ce w v W := by
  unfold exR at hsel
  simp only at hsel
  have bad : ∀ {P : Prop}, (T.bad : Res).sel = some (v, W) → P := fun h => by simp [T.sel] at h
  obtain ⟨callee, args, argTypes⟩ := c
  cases callee with
  | invoke r m => exact bad hsel
  | value f =>
    simp only at hsel
    split at hsel
    · rename_i g first caps hg
      have hf := he f
      rw [hg] at hf; simp only [V] at hf
      obtain ⟨us, vs, hce, hul, hcl⟩ := hf
      obtain ⟨⟨fn, hfn, hbody, hname⟩, hcalls⟩ := hC g _ h id v W hsel
      intro a next Q ha hnext
      have hcall := hcalls ρ w (us.toList ++ args.toList.map ce ++ vs.toList) hs hgo ((hul.append (VL_map he _)).append hcl) hid
      have hrun : (execOp ce ⟨dst, .call ⟨.value f, args, argTypes⟩, ty, pos, after, guard⟩).run E.P w = .ok (.enter g (us.toList ++ args.toList.map ce ++ vs.toList).toArray) w := by
        have hargs : (us ++ args.map ce : Array Value) ++ vs = (us.toList ++ args.toList.map ce ++ vs.toList).toArray := by
          apply Array.ext'; simp
        simp only [execOp, resolve, hce, Deferred.ofValue, Sem.run_bind, Sem.run_pure, Result.andThen_ok, invoke, callFunc, run_program, hfn]
        have hn : ¬ ((fn.name == "runtime.NumGoroutine") = true) := by simpa using hname
        have hb : ¬ (fn.body.isNone = true) := by cases hbb : fn.body <;> simp_all
        rw [if_neg hn, if_neg hb, hargs]
        rfl
      unfold Oper.wp
      rw [ha, hrun]
      exact hcall.mono fun e w' ⟨cv, ρ', he', h1, h2, h3, h4, h5⟩ => by
        subst he'
        exact hnext cv w' ρ' h1 h2 h3 h4 h5
    · exact bad hsel
  | builtin b =>
    simp only at hsel
    have hal := VL_map he args.toList
    split at hsel
    · rename_i t x h1 h2
      rw [h2] at hal
      simp only [VL] at hal
      obtain ⟨cv, r, hr, hV, rfl⟩ := hal
      have hat : argTypes = #[t] := by cases argTypes; simp_all
      have hargs : args.map ce = #[cv] := by apply Array.ext'; rw [Array.toList_map, hr]
      subst hat
      split at hsel
      · rename_i ht
        split at hsel
        · rename_i s
          simp only [V] at hV; subst hV
          have := (Pure.leaf (ρ := ρ) (P := E.P) (w := w) (s := Builtin.len_ #[t] ty #[.string ⟨s.toArray⟩]) (cv := .int .i64 s.length) (by simp [Builtin.len_, run_und ht, goInt, size_mk]) (by simp only [V])).res (id := id) hs hsel
          refine OpRes.ok ?_
          simpa [execOp, resolve, invoke, builtin, hargs] using this
        · exact bad hsel
      · rename_i et ht
        split at hsel
        · rename_i n hn
          obtain ⟨a, c, rfl, _⟩ := slLen_V hs hn hV
          have := (Pure.leaf (ρ := ρ) (P := E.P) (w := w) (s := Builtin.len_ #[t] ty #[.slice a n c]) (cv := .int .i64 n) (by simp [Builtin.len_, run_und ht, goInt]) (by simp only [V])).res (id := id) hs hsel
          refine OpRes.ok ?_
          simpa [execOp, resolve, invoke, builtin, hargs] using this
        · exact bad hsel
      · exact bad hsel
    · rename_i t u x y h1 h2
      rw [h2] at hal
      simp only [VL] at hal
      obtain ⟨cx, r, hr, hV, cy, r', rfl, hV', rfl⟩ := hal
      have hat : argTypes = #[t, u] := by cases argTypes; simp_all
      have hargs : args.map ce = #[cx, cy] := by apply Array.ext'; rw [Array.toList_map, hr]
      subst hat
      cases hc : appOk E t u y with
      | false => rw [hc] at hsel; exact bad hsel
      | true =>
        rw [hc] at hsel
        simp only [cond_true] at hsel
        have := (appendR_eff (ρ := ρ) (w := w) hs hid t u ty x y hV hV' hc).res hsel
        refine OpRes.ok ?_
        simpa [execOp, resolve, invoke, builtin, hargs] using this
    · rename_i kd a kb b h1
      rw [h1] at hal
      simp only [VL] at hal
      obtain ⟨cx, r, hr, hV, cy, r', rfl, hV', rfl⟩ := hal
      have hargs : args.map ce = #[cx, cy] := by apply Array.ext'; rw [Array.toList_map, hr]
      simp only [V] at hV hV'; subst hV; subst hV'
      have := (Pure.leaf (ρ := ρ) (P := E.P) (w := w) (s := Builtin.max_ argTypes ty #[.int kd a, .int kb b]) (cv := .int kd (if b > a then b else a)) (run_max_int2 w ..) (by simp only [V])).res (id := id) hs hsel
      refine OpRes.ok ?_
      simpa [execOp, resolve, invoke, builtin, hargs] using this
    · rename_i kd a kb b h1
      rw [h1] at hal
      simp only [VL] at hal
      obtain ⟨cx, r, hr, hV, cy, r', rfl, hV', rfl⟩ := hal
      have hargs : args.map ce = #[cx, cy] := by apply Array.ext'; rw [Array.toList_map, hr]
      simp only [V] at hV hV'; subst hV; subst hV'
      have := (Pure.leaf (ρ := ρ) (P := E.P) (w := w) (s := Builtin.min_ argTypes ty #[.int kd a, .int kb b]) (cv := .int kd (if b < a then b else a)) (run_min_int2 w ..) (by simp only [V])).res (id := id) hs hsel
      refine OpRes.ok ?_
      simpa [execOp, resolve, invoke, builtin, hargs] using this
    · exact bad hsel
theorem push_all (l : List Int) (f : Int → UInt8) (a : List UInt8) : l.foldl (fun (r : ByteArray) n => r.push (f n)) ⟨a.toArray⟩ = ⟨(a ++ l.map f).toArray⟩ := by
  induction l generalizing a with
  | nil => simp
  | cons n l ih =>
    simp only [List.foldl_cons, List.map_cons]
    have : (⟨a.toArray⟩ : ByteArray).push (f n) = ⟨(a ++ [f n]).toArray⟩ := by simp [ByteArray.push]
    rw [this, ih]; simp
theorem bytesR_pure (hs : SatH ρ h w) {s d et : TypeId} (h3 : E.P.underlying et = some (.int .u8)) {y : AV} {cv : Value} (hv : V ρ y cv) (h1 : E.P.underlying s = some (.slice et)) (h2 : E.P.underlying d = some .string) :
    Pure ρ E.P w (bytesR h y) (convert s d cv) := by
  have hconv : ∀ a n c, convert s d (.slice a n c) = Conv.bytesToString (.slice a n c) ∨ (convert s d (.slice a n c)).run E.P w = (Conv.bytesToString (.slice a n c)).run E.P w := fun a n c => .inr (by simp [convert, run_und h1, run_und h2, run_und h3])
  have hrun : ∀ a n c, (convert s d (.slice a n c)).run E.P w = (Conv.bytesToString (.slice a n c)).run E.P w := fun a n c => (hconv a n c).elim (fun e => by rw [e]) fun e => e
  have key : ∀ (d0 : Dat) (l : List Int), datOf h y = some d0 → d0.stride = 1 → d0.len = l.length → (∀ i, i < l.length → d0.row i = [.int .u8 (l.getD i 0)]) → Pure ρ E.P w (valR (.str (byteList l))) (convert s d cv) := by
    intro d0 l hd hstr hlen hrow
    obtain ⟨a, c, rfl, _⟩ := slLen_V hs (datOf_len hs hd hv) hv
    obtain ⟨news, hsrc⟩ := src_slice (E := E) hs hd hv
    have hnews : news = l.map (Value.int .u8) := by
      refine List.ext_getElem? fun i => ?_
      by_cases hi : i < l.length
      · obtain ⟨v, e1, e2⟩ := hsrc.row i (by rw [hlen]; exact hi) 0 (.int .u8 l[i]) (by rw [hrow i hi]; simp [List.getD, hi])
        simp only [V] at e2
        subst e2
        rw [hstr, Nat.mul_one] at e1; simpa [hi] using e1
      · rw [List.getElem?_eq_none (by rw [hsrc.size, hstr, hlen]; omega), List.getElem?_eq_none (by simpa using hi)]
    refine Pure.leaf (cv := .string ⟨(byteList l).toArray⟩) ?_ (by simp [V])
    rw [hrun]
    have hf := hsrc.cells
    cases a with
    | none =>
      simp only [Builtin.firstCells, Sem.run_pure, Result.ok.injEq] at hf
      have : news = [] := by simpa using hf.1.symm
      rw [hnews] at this
      have : l = [] := by simpa using this
      subst this
      simp [Conv.bytesToString, byteList]; rfl
    | some a =>
      have hf2 : (loadCells a l.length).run E.P w = .ok (l.map (Value.int .u8)).toArray w := by
        rw [← hnews]
        simpa [Builtin.firstCells, hlen, hstr] using hf
      rw [hlen, run_bytesToString w a l.length c l hf2]
      have := push_all l (fun n => UInt8.ofNat n.toNat) []
      simp only [List.nil_append] at this
      rw [show ByteArray.empty = (⟨([] : List UInt8).toArray⟩ : ByteArray) from rfl, this]
      rfl
  unfold bytesR
  split
  · simp only [V] at hv; subst hv
    exact Pure.leaf (cv := .string ByteArray.empty) (by rw [hrun]; simp [Conv.bytesToString]) (by simp only [V]; rfl)
  · split
    · rename_i l hd
      exact key _ l hd rfl rfl fun i _ => rfl
    · rename_i l hd
      exact key _ l hd rfl rfl fun i _ => rfl
    · exact Pure.bad
theorem eq_sn (d : Nat) {t e : TypeId} (h : E.P.underlying t = some (.slice e)) (a : Addr) (n c : Nat) : (Op.equalIn (d + 1) t (.slice (some a) n c) (.slice none 0 0)).run E.P w = .ok false w := by
  simp [Op.equalIn, run_und h]
theorem nilR_pure (hs : SatH ρ h w) (op : BinOp) (t : TypeId) {x y : AV} {a b : Value} (ha : V ρ x a) (hb : V ρ y b) (p q : Operand) :
    Pure ρ E.P w (nilR E h op t x y) (do eqGuard op t p q a b; binOp op t a b) := by
  unfold nilR
  split
  · rename_i _ _ _ e n ht hn
    simp only [V] at hb
    subst hb
    have key : 0 < n → ∃ ad c, a = .slice (some ad) n c := fun h0 => by
      unfold slLen at hn
      split at hn
      · rename_i b
        simp only [Option.map_eq_some_iff] at hn
        obtain ⟨blk, hb, rfl⟩ := hn
        simp only [V] at ha
        obtain ⟨p, hp, hle, ad, rfl, had⟩ := ha
        obtain ⟨p', hp', _, hl, _, _⟩ := hs.pos b blk hb
        rw [hp] at hp'; cases hp'
        exact ⟨_, _, by rw [had (by omega), hl]⟩
      · rename_i b i m
        cases hn
        simp only [V] at ha
        obtain ⟨p, hp, hle, hi, ad, rfl, had⟩ := ha
        exact ⟨_, _, by rw [had (by omega)]⟩
      · cases hn; omega
      · cases hn
    split
    · refine Pure.node (fun h0 => ?_) (fun _ => Pure.bad)
      obtain ⟨ad, c, rfl⟩ := key (of_decide_eq_true h0)
      refine Pure.leaf (cv := .bool false) ?_ (by simp only [V])
      have h1 : (Op.equal t (.slice (some ad) n c) (.slice none 0 0)).run E.P w = .ok false w := eq_sn 9999 ht ad n c
      have h2 : Go.binOp .eql t (.slice (some ad) n c) (.slice none 0 0) = (do pure (.bool (← Op.equal t (.slice (some ad) n c) (.slice none 0 0)))) := rfl
      rw [h2]
      simp [eqGuard, h1]
    · refine Pure.node (fun h0 => ?_) (fun _ => Pure.bad)
      obtain ⟨ad, c, rfl⟩ := key (of_decide_eq_true h0)
      refine Pure.leaf (cv := .bool true) ?_ (by simp only [V])
      have h1 : (Op.equal t (.slice (some ad) n c) (.slice none 0 0)).run E.P w = .ok false w := eq_sn 9999 ht ad n c
      have h2 : Go.binOp .neq t (.slice (some ad) n c) (.slice none 0 0) = (do pure (.bool (!(← Op.equal t (.slice (some ad) n c) (.slice none 0 0))))) := rfl
      rw [h2]
      simp [eqGuard, h1]
    · exact Pure.bad
  · exact Pure.bad
set_option maxHeartbeats 4000000 in
theorem exR_ok {C : CallR} (hC : CallOk E C) (hs : SatH ρ h w) (hgo : GOk E (ownB ρ h) w) {id : Nat} (hid : ∀ b, id ≤ b → b < id + 64 → ρ b = none) (o : Oper) {e : Operand → AV} {ce : Operand → Value} (he : ∀ x, V ρ (e x) (ce x))
    {v : AV} {W : Upd} (hsel : (exR E C o id e h).sel = some (v, W)) : OpOk E o ρ h id ce w v W := by
  obtain ⟨dst, op, ty, pos, after, guard⟩ := o
  have hsel0 := hsel
  unfold exR at hsel
  simp only at hsel
  have bad : ∀ {P : Prop}, (T.bad : Res).sel = some (v, W) → P := fun h => by simp [T.sel] at h
  cases op <;> (try simp only at hsel)
  case move x => exact OpRes.ok ((Pure.leaf (s := pure (ce x)) rfl (he x)).res hs hsel)
  case assign x => exact OpRes.ok ((Pure.leaf (s := pure (ce x)) rfl (he x)).res hs hsel)
  case pick c a b =>
    split at hsel
    · rename_i cb hcb
      have hc := he c
      rw [hcb] at hc
      simp only [V] at hc
      refine OpRes.ok ?_
      have hp : Pure ρ E.P w (match e a, e b with | .bool x, .bool y => valR (.bool (bif cb then x else y)) | x, y => .node cb (valR x) (valR y)) (do pure (if ← asBool (ce c) then ce a else ce b)) := by
        have ha := he a
        have hb := he b
        split
        · rename_i x y hx hy
          rw [hx] at ha; rw [hy] at hb
          simp only [V] at ha hb
          refine Pure.leaf (cv := .bool (bif cb then x else y)) ?_ (by simp only [V])
          rw [hc, ha, hb]
          cases cb <;> rfl
        · refine Pure.node (fun h1 => ?_) (fun h1 => ?_)
          · subst h1; exact Pure.leaf (cv := ce a) (by rw [hc]; rfl) ha
          · subst h1; exact Pure.leaf (cv := ce b) (by rw [hc]; rfl) hb
      have := hp.res (id := id) hs hsel
      simpa [execOp] using this
    · exact bad hsel
  case extract x i =>
    split at hsel
    · rename_i vs hvs
      have hx := he x
      rw [hvs] at hx
      simp only [V] at hx
      obtain ⟨us, hus, hl⟩ := hx
      refine OpRes.ok ((Pure.opt (s := Instr.extract (ce x) i) fun v hv => ?_).res hs hsel)
      obtain ⟨u, hu, hV⟩ := hl.get hv
      have hu' : us[i]? = some u := by simpa using hu
      exact ⟨u, by rw [hus]; simp [Instr.extract, hu'], hV⟩
    · exact bad hsel
  case binOp bo t x y u =>
    cases hn : nilOp y with
    | true => rw [hn, cond_true] at hsel; exact OpRes.ok ((nilR_pure hs bo t (he x) (he y) x y).res hs hsel)
    | false => rw [hn, cond_false] at hsel; exact OpRes.ok ((binR_pure bo t _ _ (he x) (he y) x y).res hs hsel)
  case unOp uo t x =>
    have hx := he x
    split at hsel
    · rename_i b hb
      rw [hb] at hx; simp only [V] at hx
      exact OpRes.ok ((Pure.leaf (s := Op.unary .not (ce x)) (cv := .bool (!b)) (by rw [hx]; rfl) (by simp only [V])).res hs hsel)
    · rename_i k n hb
      rw [hb] at hx; simp only [V] at hx
      exact OpRes.ok ((Pure.leaf (s := Op.unary .neg (ce x)) (cv := .int k (k.wrap (0 - n))) (by rw [hx]; rfl) (by simp only [V])).res hs hsel)
    · exact bad hsel
  case convert s d x =>
    have hx := he x
    split at hsel
    · rename_i ks kd kx n h1 h2 h3
      rw [h3] at hx; simp only [V] at hx
      exact OpRes.ok ((Pure.leaf (s := convert s d (ce x)) (cv := .int kd (kd.wrap n)) (by rw [hx]; simp [convert, run_und h1, run_und h2, Conv.intToInt]) (by simp only [V])).res hs hsel)
    · rename_i str h1 h2 h3
      rw [h3] at hx; simp only [V] at hx
      exact OpRes.ok ((Pure.leaf (s := convert s d (ce x)) (cv := .string ⟨str.toArray⟩) (by rw [hx]; simp [convert, run_und h1, run_und h2]) (by simp only [V])).res hs hsel)
    · rename_i et _ h1 h2
      split at hsel
      · rename_i h3
        refine OpRes.ok ((bytesR_pure (E := E) hs h3 (he x) h1 h2).res hs hsel)
      · exact bad hsel
    · exact bad hsel
  case nilCheck x =>
    have hx := he x
    split at hsel
    · rename_i b i j hb
      rw [hb] at hx; have hx' := hx; simp only [V] at hx
      obtain ⟨p, hp, hce⟩ := hx
      refine OpRes.ok ?_
      have : execOp ce ⟨dst, .nilCheck x, ty, pos, after, guard⟩ = pure (.value (ce x)) := by simp only [execOp]; rw [hce]
      rw [this]
      simp only [valR, T.sel, Option.some.injEq, Prod.mk.injEq] at hsel
      obtain ⟨rfl, rfl⟩ := hsel
      exact OpRes.val hs rfl hx'
    · rename_i f u c hb
      rw [hb] at hx; have hx' := hx; simp only [V] at hx
      obtain ⟨us, vs, hce, _⟩ := hx
      refine OpRes.ok ?_
      have : execOp ce ⟨dst, .nilCheck x, ty, pos, after, guard⟩ = pure (.value (ce x)) := by simp only [execOp]; rw [hce]
      rw [this]
      simp only [valR, T.sel, Option.some.injEq, Prod.mk.injEq] at hsel
      obtain ⟨rfl, rfl⟩ := hsel
      exact OpRes.val hs rfl hx'
    · exact bad hsel
  case makeFunc fn first caps =>
    cases fn with
    | func f =>
      simp only at hsel
      refine OpRes.ok ((Pure.leaf (s := Instr.makeFunc (.func f) (first.map ce) (caps.map ce)) (cv := .func (.func f) (first.map ce) (caps.map ce)) (by simp [Instr.makeFunc]) ?_).res hs hsel)
      simp only [V]
      exact ⟨_, _, rfl, by rw [Array.toList_map]; exact VL_map he _, by rw [Array.toList_map]; exact VL_map he _⟩
    | _ => exact bad hsel
  case makeInterface t x =>
    split at hsel
    · exact bad hsel
    · rename_i d hd h1
      refine OpRes.ok ((Pure.leaf (s := Instr.makeInterface t (ce x)) (cv := .iface t (ce x)) ?_ (by simp only [V]; exact ⟨_, rfl, he x⟩)).res hs hsel)
      unfold Instr.makeInterface
      simp only [Sem.run_bind, run_und h1, Result.andThen_ok]
      cases d <;> first | rfl | (exfalso; exact hd _ rfl)
    · exact bad hsel
  case alloc t =>
    split at hsel
    · rename_i cs hcs
      split at hsel
      · rename_i d hd
        exact OpRes.ok ((arr_eff hs hid t hcs hd).res hsel)
      · exact OpRes.ok ((alloc_eff hs hid t hcs).res hsel)
    · exact bad hsel
  case box t x => exact OpRes.ok ((box_eff hs hid t (he x)).res hsel)
  case build t parts =>
    refine OpRes.ok ((buildR_pure t _ (parts.map fun (p : Nat × Operand) => (p.1, ce p.2)) fun hall => ?_).res hs hsel)
    rw [Array.toList_map]
    exact PL_map he _ hall
  case buildSlice t n parts =>
    refine OpRes.ok ((buildSliceR_eff hs hid t n _ (parts.map fun (p : Nat × Operand) => (p.1, ce p.2)) fun hall => ?_).res hsel)
    rw [Array.toList_map]
    exact PL_map he _ hall
  case load t a => exact OpRes.ok ((loadR_pure hs t _ (he a)).res hs hsel)
  case store t a x =>
    obtain ⟨rfl, w', hr, hs', hst⟩ := storeR_eff hs t _ _ (he a) (he x) v W hsel
    exact OpRes.ok ⟨undef, w', ρ, .inr ⟨by simp [execOp, hr], rfl⟩, Rho.le.refl _, by simp [V], hs', hst, fun b h1 h2 => (h1 h2).elim⟩
  case fieldAddr t x f =>
    have hx := he x
    split at hsel
    · rename_i b i j hb
      rw [hb] at hx; simp only [V] at hx
      obtain ⟨p, hp, hce⟩ := hx
      split at hsel
      · rename_i off ft hfo
        unfold fieldOf at hfo
        split at hfo
        · rename_i fs hfs
          simp only [Option.map_eq_some_iff] at hfo
          obtain ⟨fd, hfd, hfe⟩ := hfo
          cases hfe
          split at hsel
          · rename_i s hsz
            refine OpRes.ok ((Pure.leaf (s := Instr.fieldAt t (ce x) f) (cv := .pointer (some (p.addr i (j + fd.offset)))) ?_ (by simp only [V]; exact ⟨p, hp, rfl⟩)).res hs hsel)
            rw [hce]
            simp [Instr.fieldAt, run_und hfs, hfd, Instr.sureAddr, fieldPlace, sizeT_run hsz, pos_add]
          · exact bad hsel
        · cases hfo
      · exact bad hsel
    · exact bad hsel
  case field t x f =>
    have hx := he x
    split at hsel
    · rename_i cs hb
      rw [hb] at hx; simp only [V] at hx
      obtain ⟨vs, hce, hl⟩ := hx
      split at hsel
      · rename_i off ft hfo
        unfold fieldOf at hfo
        split at hfo
        · rename_i fs hfs
          simp only [Option.map_eq_some_iff] at hfo
          obtain ⟨fd, hfd, hfe⟩ := hfo
          cases hfe
          refine OpRes.ok ((Pure.opt (s := Instr.field t (ce x) f) fun v hv => ?_).res hs hsel)
          obtain ⟨cv, hr, hV⟩ := partOf_run hv hl w
          exact ⟨cv, by rw [hce]; simp [Instr.field, run_und hfs, hfd, asAgg, hr], hV⟩
        · cases hfo
      · exact bad hsel
    · exact bad hsel
  case indexAddr t x ix => exact OpRes.ok ((indexAddrR_pure hs t _ _ (he x) (he ix)).res hs hsel)
  case index t x ix => exact OpRes.ok ((indexR_pure t _ _ (he x) (he ix)).res hs hsel)
  case slice t x lo hi mx =>
    cases mx with
    | some m => exact bad hsel
    | none =>
      refine OpRes.ok ((sliceR_pure hs t _ _ _ (vl := lo.map ce) (vh := hi.map ce) (he x) ?_ ?_).res hs hsel)
      · cases lo with
        | none => simp [OV]
        | some l => exact he l
      · cases hi with
        | none => simp [OV]
        | some l => exact he l
  case makeSlice t l c => exact OpRes.ok ((makeSliceR_eff hs hid t _ _ (he l) (he c)).res hsel)
  case call c => exact exR_call hC hs hgo hid dst c ty pos after guard he hsel0
  all_goals exact bad hsel
end
end Go.Am
namespace Go.Am
section
variable {E : Env} {C : CallR}
def idOf (τ i : Nat) : Nat := (τ * 4096 + i) * 64
structure RSat (E : Env) (ρ : Rho) (st : AState) (a : Act) (w : World) (D : Nat → Prop) : Prop where
  h : SatH ρ st.h w
  g : GOk E (ownB ρ st.h) w
  size : a.tmps.size = st.n
  t : ∀ i, V ρ (st.t i) (a.tmps.getD i undef)
  dom : ∀ b, ρ b ≠ none → b < st.τ * 262144 ∨ globBase ≤ b ∨ ∃ i, D i ∧ idOf st.τ i ≤ b ∧ b < idOf st.τ i + 64
  glob : ∀ g p, ρ (globBase + g) = some p → p.block = g ∧ p.off = 0
theorem Sat.rsat {ρ : Rho} {st : AState} {a : Act} {w : World} (h : Sat E ρ st a w) : RSat E ρ st a w (fun _ => False) :=
  ⟨h.h, h.g, h.size, h.t, fun b hb => (h.dom b hb).elim .inl fun h => .inr (.inl h), h.glob⟩
theorem RSat.drew {ρ : Rho} {st : AState} {a : Act} {w : World} {D : Nat → Prop} (h : RSat E ρ st a w D) : RSat E ρ st a w.drew D :=
  ⟨h.h.drew, h.g.step (O := domB ρ st.h) (O' := domB ρ st.h) ⟨Ext.drew _ _, fun _ h => .inl h, fun _ h => .inl h⟩, h.size, h.t, h.dom, h.glob⟩
theorem RSat.ev {ρ : Rho} {st : AState} {a : Act} {w : World} {D : Nat → Prop} (h : RSat E ρ st a w D) (o : Operand) : V ρ (Am.ev st o) (a.eval o) := by
  cases o with
  | tmp t => exact h.t t
  | const v => exact ofVal_V ρ v
  | global g =>
    simp only [Am.ev, Act.eval]
    split
    · rename_i x hx
      obtain ⟨p, hp, _⟩ := h.h.pos _ x hx
      obtain ⟨hb, ho⟩ := h.glob g p hp
      simp only [V]
      exact ⟨p, hp, by simp [Pos.addr, hb, ho]⟩
    · simp [V]
  | func f => simp [Am.ev, Act.eval, V, VL]
theorem put_t (st : AState) (d : Option Tmp) (v : AV) (i : Nat) : (st.put d v).t i = (match d with | some d => if d < st.n ∧ i = d then v else st.t i | none => st.t i) := by
  cases d with
  | none => rfl
  | some d =>
    simp only [AState.put]
    cases hlt : Nat.blt d st.n with
    | false =>
      have : ¬ d < st.n := by
        intro h
        have := Nat.ble_eq_true_of_le (show d + 1 ≤ st.n from h)
        rw [show Nat.ble (d + 1) st.n = Nat.blt d st.n from rfl, hlt] at this; cases this
      simp [this]
    | true =>
      have : d < st.n := Nat.le_of_ble_eq_true hlt
      simp only [cond_true]
      by_cases e : i = d
      · subst e; simp [updF_same, this]
      · rw [updF_other _ _ _ e]; simp [e]
theorem put_h (st : AState) (d : Option Tmp) (v : AV) : (st.put d v).h = st.h := by
  cases d with
  | none => rfl
  | some d => simp only [AState.put]; cases Nat.blt d st.n <;> rfl
theorem put_n (st : AState) (d : Option Tmp) (v : AV) : (st.put d v).n = st.n := by
  cases d with
  | none => rfl
  | some d => simp only [AState.put]; cases Nat.blt d st.n <;> rfl
theorem put_τ (st : AState) (d : Option Tmp) (v : AV) : (st.put d v).τ = st.τ := by
  cases d with
  | none => rfl
  | some d => simp only [AState.put]; cases Nat.blt d st.n <;> rfl
theorem getD_put (a : Act) (d : Option Tmp) (v : Value) (i : Nat) : (a.put d v).tmps.getD i undef = (match d with | some d => if d < a.tmps.size ∧ i = d then v else a.tmps.getD i undef | none => a.tmps.getD i undef) := by
  cases d with
  | none => rfl
  | some d =>
    simp only [Act.put, Array.getD_eq_getD_getElem?]
    by_cases e : i = d
    · subst e
      by_cases h : i < a.tmps.size
      · simp [h]
      · simp [h]
    · rw [Array.getElem?_setIfInBounds_ne (Ne.symm e)]; simp [e]
theorem RSat.put {ρ : Rho} {st : AState} {a : Act} {w : World} {D : Nat → Prop} (h : RSat E ρ st a w D) (d : Option Tmp) {v : AV} {cv : Value} (hv : V ρ v cv) : RSat E ρ (st.put d v) (a.put d cv) w D where
  h := by rw [put_h]; exact h.h
  g := by rw [put_h]; exact h.g
  size := by rw [put_n, ← h.size]; cases d <;> simp [Act.put]
  t i := by
    rw [put_t, getD_put, h.size]
    cases d with
    | none => exact h.t i
    | some d =>
      simp only
      split
      · exact hv
      · exact h.t i
  dom b hb := by rw [put_τ]; exact h.dom b hb
  glob := h.glob
theorem RSat.tell {ρ : Rho} {st : AState} {a : Act} {w : World} {D : Nat → Prop} (h : RSat E ρ st a w D) (d : Tmp) {v : AV} (hv : ∀ cv, V ρ (st.t d) cv → V ρ v cv) : RSat E ρ (st.put (some d) v) a w D where
  h := by rw [put_h]; exact h.h
  g := by rw [put_h]; exact h.g
  size := by rw [put_n]; exact h.size
  t i := by
    rw [put_t]
    simp only
    split
    · rename_i e; rw [e.2]; exact hv _ (h.t d)
    · exact h.t i
  dom b hb := by rw [put_τ]; exact h.dom b hb
  glob := h.glob
structure Keeps (D : List Nat) (a a' : Act) : Prop where
  size : a'.tmps.size = a.tmps.size
  at' : ∀ i, i ∉ D → a'.tmps.getD i undef = a.tmps.getD i undef
  d : a'.defers = a.defers
theorem Keeps.refl (D : List Nat) (a : Act) : Keeps D a a := ⟨rfl, fun _ _ => rfl, rfl⟩
theorem Keeps.trans {D D' : List Nat} {a b c : Act} (h : Keeps D a b) (h' : Keeps D' b c) : Keeps (D ++ D') a c := ⟨h'.size.trans h.size, fun i hi => by
  rw [List.mem_append] at hi
  exact (h'.at' i fun h => hi (.inr h)).trans (h.at' i fun h => hi (.inl h)), h'.d.trans h.d⟩
theorem Keeps.mono {D D' : List Nat} {a b : Act} (h : Keeps D a b) (hd : ∀ i ∈ D, i ∈ D') : Keeps D' a b := ⟨h.size, fun i hi => h.at' i fun h => hi (hd i h), h.d⟩
theorem Keeps.put (a : Act) (d : Option Tmp) (v : Value) : Keeps d.toList a (a.put d v) := ⟨by cases d <;> simp [Act.put], fun i hi => by
  rw [getD_put]
  cases d with
  | none => rfl
  | some d =>
    simp only [Option.toList_some, List.mem_singleton] at hi
    simp only
    rw [if_neg (fun h => hi h.2)], by cases d <;> rfl⟩
theorem yielded_V {ρ : Rho} {st : AState} {a : Act} {w : World} {D : Nat → Prop} (h : RSat E ρ st a w D) {ops : Array Oper} {j d : Nat} (hg : guardTmp ops j = some d) {b : Bool} (hb : st.t d = .bool b) : yielded ops a.tmps j = some b := by
  unfold yielded
  rw [show (ops[j]?).bind (·.dst) = some d from hg]
  have := h.t d
  rw [hb] at this
  simp only [V] at this
  simp only [Option.bind_some]
  by_cases hlt : d < a.tmps.size
  · have e : a.tmps.getD d undef = a.tmps[d] := by simp [hlt]
    rw [e] at this
    simp [hlt, this]
  · have e : a.tmps.getD d undef = undef := by simp [hlt]
    rw [e] at this
    simp [undef] at this
theorem yielded_tup {ρ : Rho} {st : AState} {a : Act} {w : World} {D : Nat → Prop} (h : RSat E ρ st a w D) {ops : Array Oper} {j d : Nat} (hg : guardTmp ops j = some d) (hb : st.t d = .tup []) : yielded ops a.tmps j = none := by
  unfold yielded
  rw [show (ops[j]?).bind (·.dst) = some d from hg]
  have := h.t d
  rw [hb] at this
  simp only [V] at this
  obtain ⟨vs, hv, _⟩ := this
  simp only [Option.bind_some]
  by_cases hlt : d < a.tmps.size
  · have e : a.tmps.getD d undef = a.tmps[d] := by simp [hlt]
    rw [e] at hv
    simp [hlt, hv]
  · simp [hlt]
theorem undef_tup (ρ : Rho) : V ρ (.tup []) undef := by simp only [V]; exact ⟨#[], rfl, by simp [VL]⟩
theorem T.bind_sel {α β : Type} (x : T α) (f : α → T β) (r : β) (h : (x.bind f).sel = some r) : ∃ a, x.sel = some a ∧ (f a).sel = some r := by
  induction x with
  | bad => simp [T.bind, T.sel] at h
  | leaf a => exact ⟨a, rfl, h⟩
  | node b x y ihx ihy =>
    simp only [T.bind, T.sel] at h ⊢
    cases b with
    | true => simp only [cond_true] at h ⊢; exact ihx h
    | false => simp only [cond_false] at h ⊢; exact ihy h
theorem T.node_sel {α : Type} {b : Bool} {x y : T α} {r : α} (h : (T.node b x y).sel = some r) : (b = true ∧ x.sel = some r) ∨ (b = false ∧ y.sel = some r) := by
  cases b with
  | true => exact .inl ⟨rfl, h⟩
  | false => exact .inr ⟨rfl, h⟩
theorem step1_ok (hC : CallOk E C) {o : Oper} {i : Nat} {st st' : AState} (hsel : (step1 E C o i st).sel = some st') {ρ : Rho} {a : Act} {w : World} {D : Nat → Prop} (hs : RSat E ρ st a w D) (hi : ¬ D i) (hiD : ∀ j, D j → j < 4096) (hi4 : i < 4096) (hτ : st.τ < 1000000)
    {next : Act → World → Prop} {Q : Exit → Act → World → Prop}
    (hnext : ∀ ρ' a' w', RSat E ρ' st' a' w' (fun j => D j ∨ j = i) → Stp (domB ρ st.h) (domB ρ' st'.h) w w' → ρ.le ρ' → Keeps o.dst.toList a a' → next a' w') : o.wp E.P a w next Q := by
  unfold step1 at hsel
  obtain ⟨⟨v, W⟩, h1, h2⟩ := T.bind_sel _ _ _ hsel
  simp only [T.sel, Option.some.injEq] at h2
  subst h2
  have hid : ∀ b, (idBase st + i) * 64 ≤ b → b < (idBase st + i) * 64 + 64 → ρ b = none := by
    intro b hb1 hb2
    cases hρ : ρ b with
    | none => rfl
    | some p =>
      exfalso
      rcases hs.dom b (by rw [hρ]; simp) with h | h | ⟨j, hj, h5, h6⟩
      · simp only [idBase] at hb1; omega
      · simp only [idBase, globBase] at hb2 h; omega
      · have := hiD j hj
        have : i ≠ j := fun e => hi (e ▸ hj)
        simp only [idBase, idOf] at hb1 hb2 h5 h6; omega
  have hok := exR_ok hC hs.h hs.g hid o (fun x => hs.ev x) h1
  refine hok a next Q rfl fun cv w' ρ' g1 g2 g3 g4 g5 => ?_
  have hglob : ∀ g p, ρ' (globBase + g) = some p → p.block = g ∧ p.off = 0 := by
    intro g p hp
    cases hρ : ρ (globBase + g) with
    | none =>
      exfalso
      have := g5 (globBase + g) (by rw [hp]; simp) hρ
      simp only [idBase, globBase] at this; omega
    | some q =>
      have := g1 _ _ hρ
      rw [hp] at this; cases this
      exact hs.glob g p hρ
  refine hnext ρ' _ w' ?_ (by rw [put_h]; exact g4) g1 (Keeps.put a o.dst cv)
  have base : RSat E ρ' { st with h := updW st.h W } a w' (fun j => D j ∨ j = i) :=
    ⟨g3, hs.g.step g4, hs.size, fun j => V.mono g1 _ _ (hs.t j), fun b hb => by
      cases hρ : ρ b with
      | none =>
        have := g5 b hb hρ
        exact .inr (.inr ⟨i, .inr rfl, this⟩)
      | some p =>
        rcases hs.dom b (by rw [hρ]; simp) with h | h | ⟨j, hj, h5⟩
        · exact .inl h
        · exact .inr (.inl h)
        · exact .inr (.inr ⟨j, .inl hj, h5⟩), hglob⟩
  exact base.put o.dst g2
theorem RSat.monoD {ρ : Rho} {st : AState} {a : Act} {w : World} {D D' : Nat → Prop} (h : RSat E ρ st a w D) (hD : ∀ j, D j → D' j) : RSat E ρ st a w D' :=
  ⟨h.h, h.g, h.size, h.t, fun b hb => by
    rcases h.dom b hb with h | h | ⟨i, hi, h5⟩
    · exact .inl h
    · exact .inr (.inl h)
    · exact .inr (.inr ⟨i, hD i hi, h5⟩), h.glob⟩
theorem step1_τ {o : Oper} {i : Nat} {st st' : AState} (hsel : (step1 E C o i st).sel = some st') : st'.τ = st.τ := by
  unfold step1 at hsel
  obtain ⟨⟨v, W⟩, h1, h2⟩ := T.bind_sel _ _ _ hsel
  simp only [T.sel, Option.some.injEq] at h2
  subst h2; rw [put_τ]
theorem ops_ok (hC : CallOk E C) (ops : Array Oper) : ∀ (l : List Nat) (st st' : AState), (opsT E C ops l st).sel = some st' → ∀ (ρ : Rho) (a : Act) (w : World) (D : Nat → Prop), RSat E ρ st a w D → l.Nodup → (∀ i ∈ l, ¬ D i) →
    (∀ j, D j → j < 4096) → (∀ i ∈ l, i < 4096) → st.τ < 1000000 → ∀ (Q : Exit → Act → World → Prop), (∀ ρ' a' w', RSat E ρ' st' a' w' (fun j => D j ∨ j ∈ l) → Stp (domB ρ st.h) (domB ρ' st'.h) w w' → ρ.le ρ' → Keeps (opsDst ops l) a a' → Q .normal a' w') → wpOps E.P ops Q l a w
  | [], st, st', hsel, ρ, a, w, D, hs, _, _, _, _, _, Q, hQ => by
    simp only [opsT, T.sel, Option.some.injEq] at hsel
    subst hsel
    exact hQ ρ a w (hs.monoD fun j h => .inl h) (Stp.refl _ _) (Rho.le.refl _) (Keeps.refl _ _)
  | i :: rest, st, st', hsel, ρ, a, w, D, hs, hnd, hl, hD, h4, hτ, Q, hQ => by
    have hnd' := List.nodup_cons.1 hnd
    have hi : ¬ D i := hl i (List.mem_cons_self ..)
    have hi4 : i < 4096 := h4 i (List.mem_cons_self ..)
    have after : ∀ {st1 : AState}, st1.τ = st.τ → (opsT E C ops rest st1).sel = some st' → ∀ ρ1 a1 w1, RSat E ρ1 st1 a1 w1 (fun j => D j ∨ j = i) → Stp (domB ρ st.h) (domB ρ1 st1.h) w w1 → ρ.le ρ1 → Keeps (((ops[i]?).bind (·.dst)).toList) a a1 → wpOps E.P ops Q rest a1 w1 := by
      intro st1 hτ1 hrest ρ1 a1 w1 hs1 hst1 hle1 hk1
      refine ops_ok hC ops rest st1 st' hrest ρ1 a1 w1 _ hs1 hnd'.2 (fun j hj h => ?_) (fun j h => ?_) (fun j hj => h4 j (List.mem_cons_of_mem _ hj)) (by rw [hτ1]; exact hτ) Q fun ρ' a' w' h5 h6 hle h7 => hQ ρ' a' w' (h5.monoD fun j h => ?_) (hst1.trans h6) (hle1.trans hle) ((hk1.trans h7).mono fun j hj => by
        simp only [opsDst]
        cases hd : (ops[i]?).bind (·.dst) <;> simp_all)
      · rcases h with h | h
        · exact hl j (List.mem_cons_of_mem _ hj) h
        · exact hnd'.1 (h ▸ hj)
      · rcases h with h | h
        · exact hD j h
        · omega
      · rcases h with (h | h) | h
        · exact .inl h
        · exact .inr (by rw [h]; exact List.mem_cons_self ..)
        · exact .inr (List.mem_cons_of_mem _ h)
    rw [wpOps_cons]
    unfold opsT at hsel
    unfold wpOp
    cases ho : ops[i]? with
    | none => simp only [ho] at hsel; simp [T.sel] at hsel
    | some o =>
      simp only [ho] at hsel ⊢
      have doit : ∀ {stx : AState}, stx.τ = st.τ → stx.h = st.h → RSat E ρ stx a w D → ((step1 E C o i stx).bind fun st => opsT E C ops rest st).sel = some st' → o.wp E.P a w (wpOps E.P ops Q rest) Q := by
        intro stx hτx hhx hsx hselx
        obtain ⟨st1, h1, h2⟩ := T.bind_sel _ _ _ hselx
        refine step1_ok hC h1 hsx hi hD hi4 (by rw [hτx]; exact hτ) fun ρ1 a1 w1 g1 g2 gle g3 => ?_
        exact after (by rw [step1_τ h1, hτx]) h2 ρ1 a1 w1 g1 (by rw [hhx] at g2; exact g2) gle (by simpa [ho] using g3)
      cases hg : o.guard with
      | none =>
        simp only [hg] at hsel
        rw [if_pos (by simp [Region.wanted, hg])]
        exact .inl (doit rfl rfl hs hsel)
      | some jw =>
        obtain ⟨j, want⟩ := jw
        simp only [hg] at hsel
        cases hgt : guardTmp ops j with
        | none => simp only [hgt] at hsel; simp [T.sel] at hsel
        | some d =>
          simp only [hgt] at hsel
          cases hb : st.t d with
          | bool b =>
            simp only [hb] at hsel
            have hy := yielded_V hs hgt hb
            have hw : Region.wanted o (yielded ops a.tmps) = (b == want) := by
              simp only [Region.wanted, hg, hy]
              cases b <;> cases want <;> rfl
            have htell : RSat E ρ (st.put (some d) (.bool b)) a w D := hs.tell d fun cv hcv => by rw [hb] at hcv; exact hcv
            have skip : (opsT E C ops rest ((st.put (some d) (.bool b)).put o.dst (.tup []))).sel = some st' → wpOps E.P ops Q rest (a.put o.dst undef) w := fun hsk =>
              after (by rw [put_τ, put_τ]) hsk ρ _ w ((htell.put o.dst (undef_tup _)).monoD fun j h => .inl h) (by rw [put_h, put_h]; exact Stp.refl _ _) (Rho.le.refl _) (by simpa [ho] using Keeps.put a o.dst undef)
            cases want with
            | true =>
              simp only at hsel
              rcases T.node_sel hsel with ⟨rfl, hsel⟩ | ⟨rfl, hsel⟩
              · rw [if_pos (by rw [hw]; rfl)]
                exact .inl (doit (put_τ ..) (put_h ..) htell hsel)
              · rw [if_neg (by rw [hw]; simp)]
                exact skip hsel
            | false =>
              simp only at hsel
              rcases T.node_sel hsel with ⟨rfl, hsel⟩ | ⟨rfl, hsel⟩
              · rw [if_neg (by rw [hw]; simp)]
                exact skip hsel
              · rw [if_pos (by rw [hw]; rfl)]
                exact .inl (doit (put_τ ..) (put_h ..) htell hsel)
          | tup vs =>
            cases vs with
            | nil =>
              simp only [hb] at hsel
              have hy := yielded_tup hs hgt hb
              have hw : Region.wanted o (yielded ops a.tmps) = false := by simp only [Region.wanted, hg, hy]; cases want <;> rfl
              rw [if_neg (by rw [hw]; simp)]
              exact after (by rw [put_τ]) hsel ρ _ w ((hs.put o.dst (undef_tup _)).monoD fun j h => .inl h) (by rw [put_h]; exact Stp.refl _ _) (Rho.le.refl _) (by simpa [ho] using Keeps.put a o.dst undef)
            | cons => simp only [hb] at hsel; simp [T.sel] at hsel
          | _ => simp only [hb] at hsel; simp [T.sel] at hsel
theorem lt_of_blt {a b : Nat} (h : Nat.blt a b = true) : a < b := Nat.le_of_ble_eq_true h
theorem dom_le {b τ : Nat} (h : b < τ * 262144) : b < (τ + 1) * 262144 := Nat.lt_of_lt_of_le h (Nat.mul_le_mul_right _ (Nat.le_succ _))
theorem dom_id {b τ i : Nat} (hi : i < 4096) (h : b < idOf τ i + 64) : b < (τ + 1) * 262144 := by
  unfold idOf at h
  rw [Nat.add_mul, Nat.one_mul]
  omega
theorem RSat.sat {ρ : Rho} {st : AState} {a : Act} {w : World} {D : Nat → Prop} (h : RSat E ρ st a w D) (hD : ∀ j, D j → j < 4096) : Sat E ρ { st with τ := st.τ + 1 } a w :=
  ⟨h.h, h.g, h.size, h.t, fun b hb => by
    rcases h.dom b hb with h1 | h1 | ⟨i, hi, h5, h6⟩
    · exact .inl (dom_le h1)
    · exact .inr h1
    · have := hD i hi
      exact .inl (dom_id this h6), h.glob⟩
end
end Go.Am
namespace Go.Am
def HLe (h h' : Heap) : Prop := ∀ b x, h b = some x → h' b = some x
def TLe {α : Type} (x y : T α) : Prop := ∀ r, x.sel = some r → y.sel = some r
theorem TLe.refl {α : Type} (x : T α) : TLe x x := fun _ h => h
theorem TLe.bad {α : Type} (y : T α) : TLe .bad y := fun _ h => by simp [T.sel] at h
section
variable {E : Env} {h h' : Heap}
theorem slLen_mono (hl : HLe h h') {x : AV} {n : Nat} (hx : slLen h x = some n) : slLen h' x = some n := by
  unfold slLen at hx ⊢
  split at hx
  · simp only [Option.map_eq_some_iff] at hx ⊢
    obtain ⟨y, hy, rfl⟩ := hx
    exact ⟨y, hl _ _ hy, rfl⟩
  · exact hx
  · exact hx
  · cases hx
theorem datOf_mono (hl : HLe h h') {x : AV} {d : Dat} (hx : datOf h x = some d) : datOf h' x = some d := by
  unfold datOf at hx ⊢
  split at hx
  · simp only [Option.map_eq_some_iff] at hx ⊢
    obtain ⟨y, hy, rfl⟩ := hx
    exact ⟨y, hl _ _ hy, rfl⟩
  · simp only [Option.map_eq_some_iff] at hx ⊢
    obtain ⟨y, hy, rfl⟩ := hx
    exact ⟨y, hl _ _ hy, rfl⟩
  · cases hx
theorem loadR_mono (hl : HLe h h') (t : TypeId) (a : AV) : TLe (loadR E h t a) (loadR E h' t a) := by
  unfold loadR
  split
  · split
    · rename_i x hx; rw [hl _ _ hx]; exact TLe.refl _
    · exact TLe.bad _
  · exact TLe.bad _
theorem storeR0_mono (hl : HLe h h') (t : TypeId) (a v : AV) : TLe (storeR0 E h t a v) (storeR0 E h' t a v) := by
  unfold storeR0
  split
  · split
    · rename_i x hx; rw [hl _ _ hx]; exact TLe.refl _
    · exact TLe.bad _
  · exact TLe.bad _
theorem storeR_mono (hl : HLe h h') (t : TypeId) (a v : AV) : TLe (storeR E h t a v) (storeR E h' t a v) := by
  unfold storeR
  cases hA : storeA E h t a v with
  | some p =>
    obtain ⟨b, d⟩ := p
    obtain ⟨hd, rfl, x, hx, h1, h2, h3, h4, h5⟩ := storeA_inv hA
    rw [storeA_mk hd (hl _ _ hx) h1 h2 h3 h4 h5]
    exact TLe.refl _
  | none =>
    cases hB : storeA E h' t a v with
    | none => exact storeR0_mono hl t a v
    | some p =>
      obtain ⟨b, d⟩ := p
      obtain ⟨hd, rfl, x, hx, h1, h2, h3, h4, h5⟩ := storeA_inv hB
      have hn : h b = none := by
        cases hb : h b with
        | none => rfl
        | some y =>
          have := hl _ _ hb
          rw [hx] at this
          cases this
          rw [storeA_mk hd hb h1 h2 h3 h4 h5] at hA
          cases hA
      have hz : storeR0 E h t (.ptr b 0 0) v = .bad := by
        unfold storeR0
        simp only [hn]
      show TLe (storeR0 E h t (.ptr b 0 0) v) _
      rw [hz]
      exact TLe.bad _
theorem indexAddrR_mono (hl : HLe h h') (t : TypeId) (x ix : AV) : TLe (indexAddrR E h t x ix) (indexAddrR E h' t x ix) := by
  unfold indexAddrR
  split
  · split
    · exact TLe.refl _
    · split
      · split
        · rename_i x hx; rw [hl _ _ hx]; exact TLe.refl _
        · exact TLe.bad _
      split
      · rename_i n hn
        rw [slLen_mono hl hn]
        simp only
        split
        · split
          · rename_i x hx; rw [hl _ _ hx]; exact TLe.refl _
          · exact TLe.bad _
        · exact TLe.bad _
      · exact TLe.bad _
    · exact TLe.bad _
  · exact TLe.bad _
theorem sliceR_mono (hl : HLe h h') (t : TypeId) (x : AV) (lo hi : Option AV) : TLe (sliceR E h t x lo hi) (sliceR E h' t x lo hi) := by
  unfold sliceR
  split
  · simp only
    split
    · exact TLe.refl _
    · split
      · rename_i n hn
        rw [slLen_mono hl hn]
        simp only
        split
        · split
          · rename_i x hx; rw [hl _ _ hx]; exact TLe.refl _
          · exact TLe.bad _
        · exact TLe.bad _
      · exact TLe.bad _
    · exact TLe.bad _
  · exact TLe.bad _
theorem srcOf_mono (hl : HLe h h') (et : TypeId) {y : AV} {d : Dat} (hy : appSrc E h et y = some d) : appSrc E h' et y = some d := by
  unfold appSrc at hy ⊢
  split at hy
  · exact hy
  · exact hy
  · exact datOf_mono hl hy
theorem appendR_mono (hl : HLe h h') (id : Nat) (t : TypeId) (x y : AV) : TLe (appendR E h id t x y) (appendR E h' id t x y) := by
  intro r hr
  unfold appendR at hr ⊢
  split at hr
  · split at hr
    · simp [T.sel] at hr
    · rename_i d hd
      have := srcOf_mono (E := E) hl _ hd
      rw [this]
      simp only
      split at hr
      · simp [T.sel] at hr
      · rename_i i hi
        generalize (Nat.beq i.size d.stride && Nat.blt 0 i.size && Nat.ble i.bytes 4096 && _) = c at hr ⊢
        cases c with
        | false => simp [T.sel] at hr
        | true =>
          rw [cond_true] at hr ⊢
          split at hr
          · exact hr
          · split at hr
            · split at hr
              · rename_i d0 blk h1 h2
                rw [datOf_mono hl h1, hl _ _ h2]
                exact hr
              · simp [T.sel] at hr
            · simp [T.sel] at hr
  · simp [T.sel] at hr
theorem bytesR_mono (hl : HLe h h') (y : AV) : TLe (bytesR h y) (bytesR h' y) := by
  intro r hr
  unfold bytesR at hr ⊢
  split at hr
  · exact hr
  · split at hr
    · rename_i hd
      rw [datOf_mono hl hd]; exact hr
    · rename_i hd
      rw [datOf_mono hl hd]; exact hr
    · simp [T.sel] at hr
theorem conv_mono (hl : HLe h h') (s d : TypeId) (x : AV) : TLe (match E.P.underlying s, E.P.underlying d, x with
    | some (.int _), some (.int kd), .int _ n => valR (.int kd (kd.wrap n))
    | some .string, some .string, .str s => valR (.str s)
    | some (.slice et), some .string, y => match E.P.underlying et with
      | some (.int .u8) => bytesR h y
      | _ => .bad
    | _, _, _ => (.bad : Res)) (match E.P.underlying s, E.P.underlying d, x with
    | some (.int _), some (.int kd), .int _ n => valR (.int kd (kd.wrap n))
    | some .string, some .string, .str s => valR (.str s)
    | some (.slice et), some .string, y => match E.P.underlying et with
      | some (.int .u8) => bytesR h' y
      | _ => .bad
    | _, _, _ => .bad) := by
  split
  · exact TLe.refl _
  · exact TLe.refl _
  · split
    · exact bytesR_mono hl _
    · exact TLe.refl _
  · exact TLe.refl _
theorem nilR_mono (hl : HLe h h') (op : BinOp) (t : TypeId) (x y : AV) : TLe (nilR E h op t x y) (nilR E h' op t x y) := by
  intro r hr
  unfold nilR at hr ⊢
  split at hr
  · rename_i _ _ _ e n ht hn
    rw [slLen_mono hl hn]
    simp only [ht]
    exact hr
  · simp [T.sel] at hr
theorem binOp_mono (hl : HLe h h') (op : BinOp) (t : TypeId) (x y : AV) (b : Bool) (r : Res) : TLe (bif b then nilR E h op t x y else r) (bif b then nilR E h' op t x y else r) := by
  cases b with
  | true => exact nilR_mono hl op t x y
  | false => exact TLe.refl _
def CallMono (C : CallR) : Prop := ∀ f args h h' id, HLe h h' → TLe (C f args h id) (C f args h' id)
theorem exR_mono {C : CallR} (hC : CallMono C) (hl : HLe h h') (o : Oper) (id : Nat) (e : Operand → AV) : TLe (exR E C o id e h) (exR E C o id e h') := by
  unfold exR
  split
  all_goals first
    | exact TLe.refl _
    | exact conv_mono hl _ _ _
    | exact binOp_mono hl _ _ _ _ _ _
    | exact loadR_mono hl _ _
    | exact storeR_mono hl _ _ _
    | exact indexAddrR_mono hl _ _ _
    | exact sliceR_mono hl _ _ _ _
    | skip
  split
  · split
    · exact hC _ _ _ _ _ hl
    · exact TLe.bad _
  · split
    · split
      · exact TLe.refl _
      · intro r hr
        split at hr
        · rename_i n hn; rw [slLen_mono hl hn]; exact hr
        · simp [T.sel] at hr
      · exact TLe.refl _
    · generalize appOk E _ _ _ = c
      cases c with
      | true => exact appendR_mono hl _ _ _ _
      | false => exact TLe.refl _
    · exact TLe.refl _
    · exact TLe.refl _
    · exact TLe.refl _
  · exact TLe.refl _
theorem exR_free {C : CallR} (o : Oper) (hf : heapFree o.op = true) (id : Nat) (e : Operand → AV) (h h' : Heap) : exR E C o id e h = exR E C o id e h' := by
  unfold exR
  cases ho : o.op <;> first | rfl | (rename_i fn _ _; cases fn <;> rfl) | (rw [ho] at hf; simp [heapFree] at hf; done) | (rw [ho] at hf; simp only [heapFree, Bool.not_eq_true'] at hf; simp only [hf, cond_false])
end
end Go.Am
namespace Go.Am
section ov
variable {β : Type} {b : Nat}
theorem ov_off {u : List (Nat × β)} : ∀ {f : Nat → β}, (∀ p ∈ u, p.1 ≠ b) → ov f u b = f b := by
  induction u with
  | nil => intro f _; rfl
  | cons p r ih =>
    intro f h
    simp only [ov]
    rw [ih fun q hq => h q (List.mem_cons_of_mem _ hq), updF_other _ _ _ (Ne.symm (h p (List.mem_cons_self ..)))]
theorem updF_congr {f g : Nat → β} (k : Nat) (v : β) (h : f b = g b) : updF f k v b = updF g k v b := by
  by_cases e : b = k
  · subst e; rw [updF_same, updF_same]
  · rw [updF_other _ _ _ e, updF_other _ _ _ e, h]
theorem ov_congr {u : List (Nat × β)} : ∀ {f g : Nat → β}, f b = g b → ov f u b = ov g u b := by
  induction u with
  | nil => intro f g h; exact h
  | cons p r ih => intro f g h; simp only [ov]; exact ih (updF_congr _ _ h)
theorem ov_on {u : List (Nat × β)} : ∀ {f g : Nat → β}, (∃ p ∈ u, p.1 = b) → ov f u b = ov g u b := by
  induction u with
  | nil => intro f g ⟨p, hp, _⟩; cases hp
  | cons q r ih =>
    intro f g ⟨p, hp, e⟩
    simp only [ov]
    by_cases hq : q.1 = b
    · refine ov_congr ?_
      subst hq; rw [updF_same, updF_same]
    · rcases List.mem_cons.1 hp with rfl | hp
      · exact (hq e).elim
      · exact ih ⟨p, hp, e⟩
theorem ovAll_congr {P P' : Nat → Bool} {rs : List (Nat × List (Nat × β))} : ∀ {f g : Nat → β}, (∀ x ∈ rs, (∃ p ∈ x.2, p.1 = b) → P x.1 = P' x.1) → f b = g b → ovAll P rs f b = ovAll P' rs g b := by
  induction rs with
  | nil => intro f g _ h; exact h
  | cons x r ih =>
    intro f g h e
    simp only [ovAll]
    refine ih (fun y hy => h y (List.mem_cons_of_mem _ hy)) ?_
    by_cases hx : ∃ p ∈ x.2, p.1 = b
    · rw [h x (List.mem_cons_self ..) hx]
      cases P' x.1 with
      | true => exact ov_congr e
      | false => exact e
    · have hx' : ∀ p ∈ x.2, p.1 ≠ b := fun p hp e => hx ⟨p, hp, e⟩
      cases P x.1 <;> cases P' x.1 <;> simp only [cond_true, cond_false]
      · exact e
      · rw [ov_off hx']; exact e
      · rw [ov_off hx']; exact e
      · rw [ov_off hx', ov_off hx']; exact e
theorem ovAll_append (P : Nat → Bool) (xs ys : List (Nat × List (Nat × β))) : ∀ f : Nat → β, ovAll P (xs ++ ys) f = ovAll P ys (ovAll P xs f) := by
  induction xs with
  | nil => intro f; rfl
  | cons x r ih => intro f; simp only [List.cons_append, ovAll]; exact ih _
theorem ovAll_none {P : Nat → Bool} : ∀ {rs : List (Nat × List (Nat × β))} {f : Nat → β}, (∀ x ∈ rs, P x.1 = false) → ovAll P rs f = f
  | [], _, _ => rfl
  | x :: r, f, h => by
    simp only [ovAll]
    rw [h x (List.mem_cons_self ..), cond_false]
    exact ovAll_none fun y hy => h y (List.mem_cons_of_mem _ hy)
theorem ovAll_insert {P P' : Nat → Bool} {pre post : List (Nat × List (Nat × β))} {x : Nat × List (Nat × β)} {f : Nat → β} (hk : P x.1 = false) (hk' : P' x.1 = true) (hP : ∀ k, k ≠ x.1 → P' k = P k)
    (hpre : ∀ y ∈ pre, y.1 ≠ x.1) (hpost : ∀ y ∈ post, y.1 ≠ x.1) (hd : ∀ y ∈ post, P y.1 = true → ∀ p ∈ y.2, ∀ q ∈ x.2, p.1 ≠ q.1) :
    ovAll P' (pre ++ x :: post) f b = ov (ovAll P (pre ++ x :: post) f) x.2 b := by
  rw [ovAll_append, ovAll_append]
  simp only [ovAll, hk, hk', cond_true, cond_false]
  have e0 : ovAll P' pre f b = ovAll P pre f b := ovAll_congr (fun y hy _ => hP _ (hpre y hy)) rfl
  by_cases hb : ∃ q ∈ x.2, q.1 = b
  · rw [ov_on (f := ovAll P post (ovAll P pre f)) (g := ovAll P pre f) hb]
    obtain ⟨q, hq, e⟩ := hb
    have e1 : ovAll P' post (ov (ovAll P' pre f) x.2) b = ovAll (fun _ => false) post (ov (ovAll P' pre f) x.2) b := ovAll_congr (fun y hy ⟨p, hp, e'⟩ => by
      rw [hP _ (hpost y hy)]
      cases hPy : P y.1 with
      | false => rfl
      | true => exact (hd y hy hPy p hp q hq (e'.trans e.symm)).elim) rfl
    rw [e1, ovAll_none (fun _ _ => rfl)]
    exact ov_on ⟨q, hq, e⟩
  · have hb' : ∀ p ∈ x.2, p.1 ≠ b := fun p hp e => hb ⟨p, hp, e⟩
    rw [ov_off hb']
    exact ovAll_congr (fun y hy _ => hP _ (hpost y hy)) (by rw [ov_off hb']; exact e0)
theorem updW_ov (h : Heap) (W : Upd) : updW h W = ov h W := by
  induction W generalizing h with
  | nil => rfl
  | cons p r ih => obtain ⟨b, x⟩ := p; simp only [updW, ov]; exact ih _
end ov
theorem memb_iff {l : List Nat} {k : Nat} : memb l k = true ↔ k ∈ l := by
  unfold memb
  rw [List.any_eq_true]
  exact ⟨fun ⟨x, hx, e⟩ => by rw [Nat.eq_of_beq_eq_true e]; exact hx, fun h => ⟨k, h, Nat.beq_refl k⟩⟩
theorem mem_uniq {d : Nat} : ∀ {l : List Nat}, d ∈ uniq l → d ∈ l
  | [], h => by simp [uniq] at h
  | x :: r, h => by
    unfold uniq at h
    simp only at h
    cases hm : memb (uniq r) x with
    | true => rw [hm, cond_true] at h; exact List.mem_cons_of_mem _ (mem_uniq h)
    | false =>
      rw [hm, cond_false] at h
      rcases List.mem_cons.1 h with rfl | h
      · exact List.mem_cons_self ..
      · exact List.mem_cons_of_mem _ (mem_uniq h)
theorem depsGo_prefix : ∀ (l : List Oper) (acc : List (List Nat)), ∃ t, depsGo l acc = acc ++ t
  | [], acc => ⟨[], by simp [depsGo]⟩
  | o :: r, acc => by
    obtain ⟨t, ht⟩ := depsGo_prefix r (acc ++ [uniq ((edgesOf o).flatMap fun d => d :: acc.getD d [])])
    exact ⟨_ :: t, by simp only [depsGo]; rw [ht, List.append_assoc]; rfl⟩
theorem depsGo_spec : ∀ (l : List Oper) (acc : List (List Nat)) (i : Nat) (o : Oper), l[i]? = some o →
    (depsGo l acc).getD (acc.length + i) [] = uniq ((edgesOf o).flatMap fun d => d :: ((depsGo l acc).take (acc.length + i)).getD d [])
  | [], acc, i, o, h => by simp at h
  | o' :: r, acc, 0, o, h => by
    simp at h; subst h
    simp only [depsGo, Nat.add_zero]
    obtain ⟨t, ht⟩ := depsGo_prefix r (acc ++ [uniq ((edgesOf o').flatMap fun d => d :: acc.getD d [])])
    rw [ht, List.append_assoc]
    simp
  | o' :: r, acc, i + 1, o, h => by
    have := depsGo_spec r (acc ++ [uniq ((edgesOf o').flatMap fun d => d :: acc.getD d [])]) i o (by simpa using h)
    simp only [List.length_append, List.length_cons, List.length_nil, Nat.zero_add] at this
    simp only [depsGo]
    rw [show acc.length + (i + 1) = acc.length + 1 + i from by omega]
    exact this
section
variable {E : Env} {C : CallR} {ops : Array Oper} {st : AState} {fin : List DRes}
theorem deps_mem {k : Nat} {o : Oper} (ho : ops[k]? = some o) (he : ∀ e ∈ edgesOf o, e < k) {d : Nat} (hd : d ∈ (depsGo ops.toList []).getD k []) :
    ∃ e ∈ edgesOf o, d = e ∨ d ∈ (depsGo ops.toList []).getD e [] := by
  have := depsGo_spec ops.toList [] k o (by simpa using ho)
  simp only [List.length_nil, Nat.zero_add] at this
  rw [this] at hd
  replace hd := mem_uniq hd
  rw [List.mem_flatMap] at hd
  obtain ⟨e, hee, hd⟩ := hd
  refine ⟨e, hee, ?_⟩
  rcases List.mem_cons.1 hd with h | h
  · exact .inl h
  · right
    have hlt := he e hee
    rw [List.getD_eq_getElem?_getD, List.getElem?_take, if_pos hlt, ← List.getD_eq_getElem?_getD] at h
    exact h
structure OneOk (E : Env) (C : CallR) (ops : Array Oper) (st : AState) (fin : List DRes) (k : Nat) (o : Oper) (r : DRes) : Prop where
  op : ops[k]? = some o
  hk : r.k = k
  dst : r.dst = o.dst
  fits : drawFits ops.toList (depsGo ops.toList []) ((depsGo ops.toList []).getD k []) st o k r.W (fin.take k) = true
  run : ((o.guard = none ∨ ∃ j b d, o.guard = some (j, b) ∧ guardTmp ops j = some d ∧ drawT ops.toList (depsGo ops.toList []) k st (fin.take k) d = .bool b) ∧
      (exR E C o (drawId st.τ k) (ev { st with t := drawT ops.toList (depsGo ops.toList []) k st (fin.take k), h := globH st.h }) (drawH ((depsGo ops.toList []).getD k []) st (fin.take k))).sel = some (r.v, r.W)) ∨
    (((∃ j b d, o.guard = some (j, b) ∧ guardTmp ops j = some d ∧ drawT ops.toList (depsGo ops.toList []) k st (fin.take k) d = .bool (!b)) ∨ (∃ j b d, o.guard = some (j, b) ∧ guardTmp ops j = some d ∧ drawT ops.toList (depsGo ops.toList []) k st (fin.take k) d = .tup [])) ∧ r.v = .tup [] ∧ r.W = [])
theorem drawOne_ok {k : Nat} {r : DRes} (h : (drawOne E C ops (depsGo ops.toList []) st k (fin.take k)).sel = some r) : ∃ o, OneOk E C ops st fin k o r := by
  unfold drawOne at h
  split at h
  · simp [T.sel] at h
  rename_i o ho
  refine ⟨o, ?_⟩
  simp only at h
  have go : ((exR E C o (drawId st.τ k) (ev { st with t := drawT ops.toList (depsGo ops.toList []) k st (fin.take k), h := globH st.h }) (drawH ((depsGo ops.toList []).getD k []) st (fin.take k))).bind fun r => bif drawFits ops.toList (depsGo ops.toList []) ((depsGo ops.toList []).getD k []) st o k r.2 (fin.take k) then T.leaf ⟨k, o.dst, r.1, r.2⟩ else .bad).sel = some r →
      r.k = k ∧ r.dst = o.dst ∧ drawFits ops.toList (depsGo ops.toList []) ((depsGo ops.toList []).getD k []) st o k r.W (fin.take k) = true ∧
      (exR E C o (drawId st.τ k) (ev { st with t := drawT ops.toList (depsGo ops.toList []) k st (fin.take k), h := globH st.h }) (drawH ((depsGo ops.toList []).getD k []) st (fin.take k))).sel = some (r.v, r.W) := by
    intro h
    obtain ⟨⟨v, W⟩, h1, h2⟩ := T.bind_sel _ _ _ h
    simp only at h2
    cases hf : drawFits ops.toList (depsGo ops.toList []) ((depsGo ops.toList []).getD k []) st o k W (fin.take k) with
    | false => rw [hf] at h2; simp [T.sel] at h2
    | true =>
      rw [hf] at h2
      simp only [cond_true, T.sel, Option.some.injEq] at h2
      subst h2
      exact ⟨rfl, rfl, hf, h1⟩
  have skip : (bif drawFits ops.toList (depsGo ops.toList []) ((depsGo ops.toList []).getD k []) st o k [] (fin.take k) then T.leaf (⟨k, o.dst, .tup [], []⟩ : DRes) else .bad).sel = some r →
      r.k = k ∧ r.dst = o.dst ∧ drawFits ops.toList (depsGo ops.toList []) ((depsGo ops.toList []).getD k []) st o k r.W (fin.take k) = true ∧ r.v = .tup [] ∧ r.W = [] := by
    intro h
    cases hf : drawFits ops.toList (depsGo ops.toList []) ((depsGo ops.toList []).getD k []) st o k [] (fin.take k) with
    | false => rw [hf] at h; simp [T.sel] at h
    | true =>
      rw [hf] at h
      simp only [cond_true, T.sel, Option.some.injEq] at h
      subst h
      exact ⟨rfl, rfl, hf, rfl, rfl⟩
  split at h
  · rename_i hg
    obtain ⟨h1, h2, h3, h4⟩ := go h
    exact ⟨ho, h1, h2, h3, .inl ⟨.inl hg, h4⟩⟩
  · rename_i j want hg
    split at h
    · simp [T.sel] at h
    rename_i d hd
    split at h
    · rename_i b hb
      cases want with
      | true =>
        simp only at h
        rcases T.node_sel h with ⟨rfl, h⟩ | ⟨rfl, h⟩
        · obtain ⟨h1, h2, h3, h4⟩ := go h
          exact ⟨ho, h1, h2, h3, .inl ⟨.inr ⟨j, true, d, hg, hd, hb⟩, h4⟩⟩
        · obtain ⟨h1, h2, h3, h4, h5⟩ := skip h
          exact ⟨ho, h1, h2, h3, .inr ⟨.inl ⟨j, true, d, hg, hd, hb⟩, h4, h5⟩⟩
      | false =>
        simp only at h
        rcases T.node_sel h with ⟨rfl, h⟩ | ⟨rfl, h⟩
        · obtain ⟨h1, h2, h3, h4, h5⟩ := skip h
          exact ⟨ho, h1, h2, h3, .inr ⟨.inl ⟨j, false, d, hg, hd, hb⟩, h4, h5⟩⟩
        · obtain ⟨h1, h2, h3, h4⟩ := go h
          exact ⟨ho, h1, h2, h3, .inl ⟨.inr ⟨j, false, d, hg, hd, hb⟩, h4⟩⟩
    · rename_i hb
      obtain ⟨h1, h2, h3, h4, h5⟩ := skip h
      exact ⟨ho, h1, h2, h3, .inr ⟨.inr ⟨j, want, d, hg, hd, hb⟩, h4, h5⟩⟩
    · simp [T.sel] at h
theorem T.sel_bind {α β : Type} (x : T α) (f g : α → T β) (h : ∀ a, (f a).sel = (g a).sel) : (x.bind f).sel = (x.bind g).sel := by
  induction x with
  | bad => rfl
  | leaf a => exact h a
  | node b x y ihx ihy => simp only [T.bind, T.sel, ihx, ihy]
theorem guardT_sel {β : Type} (j : Nat) (f : List DRes → T β) : ∀ (rs pre : List DRes), (guardT j f pre rs).sel = (f (pre ++ rs)).sel
  | [], pre => by simp [guardT]
  | r :: rs, pre => by
    unfold guardT
    cases Nat.beq r.k j with
    | false => rw [cond_false, guardT_sel j f rs (pre ++ [r])]; simp
    | true =>
      rw [cond_true]
      obtain ⟨k, d, v, W⟩ := r
      cases v with
      | bool b => cases b <;> rfl
      | _ => rfl
theorem drawGo2_sel {E : Env} {C : CallR} {ops : Array Oper} {ds : List (List Nat)} {st : AState} : ∀ (l : List Nat) (rs : List DRes), (drawGo2 E C ops ds st l rs).sel = (drawGo E C ops ds st l rs).sel
  | [], rs => rfl
  | k :: l, rs => by
    have key : ∀ rs, ((drawOne E C ops ds st k rs).bind fun r => drawGo2 E C ops ds st l (rs ++ [r])).sel = (drawGo E C ops ds st (k :: l) rs).sel := fun rs =>
      T.sel_bind _ _ _ fun r => drawGo2_sel l (rs ++ [r])
    unfold drawGo2
    split
    · rw [guardT_sel]; simp only [List.nil_append]; exact key rs
    · exact key rs
theorem drawGo_ok : ∀ (l : List Nat) (rs fin : List DRes), (drawGo E C ops (depsGo ops.toList []) st l rs).sel = some fin → ∃ rest, fin = rs ++ rest ∧ rest.length = l.length ∧
    ∀ i k, l[i]? = some k → ∃ r, rest[i]? = some r ∧ (drawOne E C ops (depsGo ops.toList []) st k (fin.take (rs.length + i))).sel = some r
  | [], rs, fin, h => by
    simp only [drawGo, T.sel, Option.some.injEq] at h
    subst h
    exact ⟨[], by simp, rfl, fun i k e => by simp at e⟩
  | k :: l, rs, fin, h => by
    unfold drawGo at h
    obtain ⟨r, h1, h2⟩ := T.bind_sel _ _ _ h
    obtain ⟨rest, e1, e2, e3⟩ := drawGo_ok l (rs ++ [r]) fin h2
    refine ⟨r :: rest, by rw [e1]; simp, by simp [e2], fun i k' e => ?_⟩
    cases i with
    | zero =>
      simp at e; subst e
      refine ⟨r, rfl, ?_⟩
      rw [e1, Nat.add_zero, List.append_assoc, List.take_left']
      · exact h1
      · rfl
    | succ i =>
      obtain ⟨r', h3, h4⟩ := e3 i k' (by simpa using e)
      refine ⟨r', by simpa using h3, ?_⟩
      rw [show rs.length + (i + 1) = (rs ++ [r]).length + i from by simp; omega]
      exact h4
structure AllOk (E : Env) (C : CallR) (ops : Array Oper) (st : AState) (fin : List DRes) : Prop where
  len : fin.length = ops.size
  one : ∀ k, k < ops.size → ∃ o r, fin[k]? = some r ∧ OneOk E C ops st fin k o r
structure Fits (ops : Array Oper) (st : AState) (fin : List DRes) (k : Nat) (o : Oper) (W : Upd) : Prop where
  c1 : ∀ r ∈ fin.take k, r.k ∈ (depsGo ops.toList []).getD k [] ∨ sameDst r.dst o.dst = false
  c2 : ∀ r ∈ fin.take k, r.k ∈ (depsGo ops.toList []).getD k [] ∨ ∀ p ∈ r.W, ∀ q ∈ W, p.1 ≠ q.1
  c3 : ∀ r ∈ fin.take k, ∀ p ∈ r.W, inRange (drawId st.τ k) p.1 = false
  c4 : (∀ p ∈ W, inRange (drawId st.τ k) p.1 = true) ∨ ∀ r ∈ fin.take k, r.k ∈ (depsGo ops.toList []).getD k [] ∨ ∃ q, ops[r.k]? = some q ∧ (heapFree q.op = true ∨ ∃ b, readsAt ops.toList (depsGo ops.toList []) st (fin.take k) q r.k = some b ∧ ∀ p ∈ W, b ≠ p.1)
  c5 : ∀ d, o.dst = some d → d < st.n
  c6 : ∀ e ∈ edgesOf o, e < k
  c7 : ∀ p ∈ W, p.1 < globBase
theorem hasName_false {W : Upd} {b : Nat} (h : hasName W b = false) : ∀ q ∈ W, b ≠ q.1 := by
  intro q hq e
  unfold hasName at h
  rw [List.any_eq_false] at h
  exact h q hq (by rw [e]; exact Nat.beq_refl _)
theorem hasName_true {W : Upd} {b : Nat} (h : ∃ q ∈ W, q.1 = b) : hasName W b = true := by
  obtain ⟨q, hq, e⟩ := h
  unfold hasName
  rw [List.any_eq_true]
  exact ⟨q, hq, by rw [e]; exact Nat.beq_refl _⟩
theorem OneOk.fit {k : Nat} {o : Oper} {r : DRes} (h : OneOk E C ops st fin k o r) : Fits ops st fin k o r.W := by
  have hf := h.fits
  unfold drawFits at hf
  simp only [Bool.and_eq_true] at hf
  obtain ⟨⟨⟨⟨⟨⟨h1, h2⟩, h3⟩, h4⟩, h5⟩, h6⟩, h7⟩ := hf
  rw [List.all_eq_true] at h1 h2 h3 h6 h7
  refine ⟨fun r hr => ?_, fun r hr => ?_, fun r hr p hp => ?_, ?_, fun d hd => ?_, fun e he => lt_of_blt (h6 e he), fun p hp => lt_of_blt (h7 p hp)⟩
  · have := h1 r hr
    simp only [Bool.or_eq_true, Bool.not_eq_true'] at this
    exact this.imp memb_iff.1 id
  · have := h2 r hr
    simp only [Bool.or_eq_true, List.all_eq_true, Bool.not_eq_true'] at this
    exact this.imp memb_iff.1 fun h p hp q hq => hasName_false (h p hp) q hq
  · have := h3 r hr
    rw [List.all_eq_true] at this
    simpa using this p hp
  · simp only [Bool.or_eq_true, List.all_eq_true] at h4
    refine h4.imp id fun h r hr => (h r hr).imp memb_iff.1 fun h => ?_
    split at h
    · rename_i q hq
      refine ⟨q, by simpa using hq, ?_⟩
      unfold freeOf at h
      rw [Bool.or_eq_true] at h
      refine h.imp id fun h => ?_
      split at h
      · rename_i b hb
        exact ⟨b, hb, hasName_false (by simpa using h)⟩
      · cases h
    · cases h
  · rw [hd] at h5; exact lt_of_blt h5
theorem SatH.sub {ρ : Rho} {h h' : Heap} {w : World} (hs : SatH ρ h w) (hl : HLe h' h) : SatH ρ h' w :=
  ⟨fun c x hc => hs.pos c x (hl _ _ hc), fun c x hc => hs.wf c x (hl _ _ hc), fun c x p hc => hs.cells c x p (hl _ _ hc),
   fun c x p hc => hs.own c x p (hl _ _ hc), fun c x p c' x' p' hc ho hp h0 hc' => hs.apart c x p c' x' p' (hl _ _ hc) ho hp h0 (hl _ _ hc')⟩
def dst (st : AState) (fin : List DRes) (D : Nat → Bool) : AState := { st with t := ovAll D (fin.map DRes.tu) st.t, h := ovAll D (fin.map DRes.hu) st.h }
structure Inv (E : Env) (ops : Array Oper) (st : AState) (fin : List DRes) (D : Nat → Bool) (ρ0 ρ : Rho) (a0 a : Act) (w0 w : World) : Prop where
  rs : RSat E ρ (dst st fin D) a w (fun j => D j = true)
  stp : Stp (domB ρ0 st.h) (domB ρ (dst st fin D).h) w0 w
  keeps : Keeps (opsDst ops (List.range ops.size)) a0 a
  lt : ∀ k, D k = true → k < ops.size
  closed : ∀ k, D k = true → ∀ d ∈ (depsGo ops.toList []).getD k [], D d = true
  le : ρ0.le ρ
theorem AllOk.key (ha : AllOk E C ops st fin) {i : Nat} {y : DRes} (h : fin[i]? = some y) : y.k = i ∧ i < ops.size := by
  have hi : i < ops.size := by rw [← ha.len]; exact (List.getElem?_eq_some_iff.1 h).1
  obtain ⟨o, r, h1, h2⟩ := ha.one i hi
  rw [h] at h1; cases h1
  exact ⟨h2.hk, hi⟩
theorem AllOk.take (ha : AllOk E C ops st fin) {k : Nat} {y : DRes} (h : y ∈ fin.take k) : y.k < k ∧ fin[y.k]? = some y := by
  obtain ⟨i, hi⟩ := List.mem_iff_getElem?.1 h
  rw [List.getElem?_take] at hi
  split at hi
  · rename_i hlt
    have := (ha.key hi).1
    rw [this]; exact ⟨hlt, hi⟩
  · cases hi
theorem AllOk.drop (ha : AllOk E C ops st fin) {k : Nat} {y : DRes} (h : y ∈ fin.drop k) : k ≤ y.k ∧ fin[y.k]? = some y := by
  obtain ⟨i, hi⟩ := List.mem_iff_getElem?.1 h
  rw [List.getElem?_drop] at hi
  have := (ha.key hi).1
  rw [this]; exact ⟨Nat.le_add_right _ _, hi⟩
theorem mem_take_of {k j : Nat} {y : DRes} (h : fin[j]? = some y) (hj : j < k) : y ∈ fin.take k :=
  List.mem_iff_getElem?.2 ⟨j, by rw [List.getElem?_take, if_pos hj]; exact h⟩
theorem AllOk.deps_lt (ha : AllOk E C ops st fin) : ∀ k, k < ops.size → ∀ d ∈ (depsGo ops.toList []).getD k [], d < k := by
  intro k
  induction k using Nat.strongRecOn with
  | _ k ih =>
    intro hk d hd
    obtain ⟨o, r, _, h2⟩ := ha.one k hk
    obtain ⟨e, he, h3⟩ := deps_mem h2.op h2.fit.c6 hd
    have hlt := h2.fit.c6 e he
    rcases h3 with rfl | h3
    · exact hlt
    · have := ih e hlt (by omega) d h3; omega
theorem inRange_iff {id b : Nat} : inRange id b = true ↔ id ≤ b ∧ b < id + 64 := by
  unfold inRange
  rw [Bool.and_eq_true]
  exact ⟨fun ⟨h1, h2⟩ => ⟨Nat.le_of_ble_eq_true h1, lt_of_blt h2⟩, fun ⟨h1, h2⟩ => ⟨Nat.ble_eq_true_of_le h1, Nat.ble_eq_true_of_le h2⟩⟩
section step
variable {D : Nat → Bool} {ρ0 ρ : Rho} {a0 a : Act} {w0 w : World} {k : Nat} {o : Oper} {r : DRes}
theorem later (ha : AllOk E C ops st fin) (hi : Inv E ops st fin D ρ0 ρ a0 a w0 w) (hr : fin[k]? = some r) (ho : ops[k]? = some o) (hnk : D k = false) {y : DRes} (hy : fin[y.k]? = some y) (hlt : k < y.k) (hD : D y.k = true) :
    sameDst r.dst y.dst = false ∧ (∀ p ∈ y.W, ∀ q ∈ r.W, p.1 ≠ q.1) ∧ ((∀ q ∈ y.W, inRange (drawId st.τ y.k) q.1 = true) ∨ heapFree o.op = true ∨ ∃ b, readsAt ops.toList (depsGo ops.toList []) st fin o k = some b ∧ ∀ p ∈ y.W, b ≠ p.1) ∧ ∀ z ∈ fin.take y.k, ∀ p ∈ z.W, inRange (drawId st.τ y.k) p.1 = false := by
  obtain ⟨oj, y', h1, one⟩ := ha.one y.k (hi.lt _ hD)
  rw [hy] at h1; cases h1
  have hf := one.fit
  have hrk := (ha.key hr).1
  have hm : r ∈ fin.take y.k := mem_take_of hr hlt
  have hnd : r.k ∉ (depsGo ops.toList []).getD y.k [] := fun h => by
    have := hi.closed _ hD _ h
    rw [hrk, hnk] at this; cases this
  refine ⟨?_, fun p hp q hq e => ?_, ?_, hf.c3⟩
  · rw [one.dst]; exact (hf.c1 r hm).resolve_left hnd
  · exact (hf.c2 r hm).resolve_left hnd q hq p hp e.symm
  · refine hf.c4.imp id fun h => ?_
    obtain ⟨q, hq, hq2⟩ := (h r hm).resolve_left hnd
    rw [hrk, ho] at hq; cases hq
    refine hq2.imp id fun ⟨b, hb, h⟩ => ⟨b, ?_, h⟩
    rw [← hb, hrk]
    unfold readsAt
    rw [List.take_take, Nat.min_eq_left (by omega)]
theorem sliceR_rd {b0 : Nat} {h h' : Heap} {t : TypeId} {x : AV} {lo hi : Option AV} {r : AV × Upd} (hx : rdOf x = some b0) (hh : ∀ y, h b0 = some y → h' b0 = some y) (he : (sliceR E h t x lo hi).sel = some r) : (sliceR E h' t x lo hi).sel = some r := by
  cases x with
  | slw b =>
    cases hx
    cases hb : h b0 with
    | none => simp only [sliceR, slLen, hb, Option.map_none] at he; repeat' split at he; all_goals simp_all [T.sel]
    | some y => simp only [sliceR, slLen, slAt, hb, hh y hb] at he ⊢; exact he
  | sl b i n =>
    cases hx
    cases hb : h b0 with
    | none => simp only [sliceR, slLen, slAt, hb] at he; repeat' split at he; all_goals simp_all [T.sel]
    | some y => simp only [sliceR, slLen, slAt, hb, hh y hb] at he ⊢; exact he
  | foc b t n => exact he
  | ptr b i j => exact he
  | str s => exact he
  | int k n => exact he
  | _ => cases hx
theorem indexAddrR_rd {b0 : Nat} {h h' : Heap} {t : TypeId} {x ix : AV} {r : AV × Upd} (hx : rdOf x = some b0) (hh : ∀ y, h b0 = some y → h' b0 = some y) (he : (indexAddrR E h t x ix).sel = some r) : (indexAddrR E h' t x ix).sel = some r := by
  cases x with
  | slw b =>
    cases hx
    cases hb : h b0 with
    | none => simp only [indexAddrR, slLen, hb, Option.map_none] at he; repeat' split at he; all_goals simp_all [T.sel]
    | some y => simp only [indexAddrR, slLen, slAt, hb, hh y hb] at he ⊢; exact he
  | sl b i n =>
    cases hx
    cases hb : h b0 with
    | none => simp only [indexAddrR, slLen, slAt, hb] at he; repeat' split at he; all_goals simp_all [T.sel]
    | some y => simp only [indexAddrR, slLen, slAt, hb, hh y hb] at he ⊢; exact he
  | foc b t n =>
    cases hx
    cases hb : h b0 with
    | none => simp only [indexAddrR, hb] at he; repeat' split at he; all_goals simp_all [T.sel]
    | some y => simp only [indexAddrR, hb, hh y hb] at he ⊢; exact he
  | ptr b i j => exact he
  | str s => exact he
  | int k n => exact he
  | _ => cases hx
theorem bytesR_rd {b0 : Nat} {h h' : Heap} {x : AV} {r : AV × Upd} (hx : rdOf x = some b0) (hh : ∀ y, h b0 = some y → h' b0 = some y) (he : (bytesR h x).sel = some r) : (bytesR h' x).sel = some r := by
  cases x with
  | slw b =>
    cases hx
    cases hb : h b0 with
    | none => simp only [bytesR, datOf, hb, Option.map_none] at he; simp [T.sel] at he
    | some y => simp only [bytesR, datOf, hb, hh y hb] at he ⊢; exact he
  | sl b i n =>
    cases hx
    cases hb : h b0 with
    | none => simp only [bytesR, datOf, hb, Option.map_none] at he; simp [T.sel] at he
    | some y => simp only [bytesR, datOf, hb, hh y hb] at he ⊢; exact he
  | foc b t n => exact he
  | ptr b i j => exact he
  | str s => exact he
  | int k n => exact he
  | _ => cases hx
theorem exR_load {C : CallR} {id b0 : Nat} {v : AV} {W : Upd} {h h' : Heap} (hrd : readsAt ops.toList (depsGo ops.toList []) st fin o k = some b0) (hh : ∀ x, h b0 = some x → h' b0 = some x)
    (hex : (exR E C o id (ev { st with t := drawT ops.toList (depsGo ops.toList []) k st (fin.take k), h := globH st.h }) h).sel = some (v, W)) :
    (exR E C o id (ev { st with t := drawT ops.toList (depsGo ops.toList []) k st (fin.take k), h := globH st.h }) h').sel = some (v, W) := by
  unfold readsAt at hrd
  split at hrd
  · rename_i t a hop
    split at hrd
    · rename_i b i j hev
      cases hrd
      unfold exR at hex ⊢
      rw [hop] at hex ⊢
      simp only [hev, loadR] at hex ⊢
      cases hb : h b0 with
      | none => rw [hb] at hex; simp [T.sel] at hex
      | some x => rw [hb] at hex; rw [hh x hb]; exact hex
    · cases hrd
  · rename_i hop
    unfold exR at hex ⊢
    rw [hop] at hex ⊢
    exact sliceR_rd hrd hh hex
  · rename_i hop
    unfold exR at hex ⊢
    rw [hop] at hex ⊢
    exact indexAddrR_rd hrd hh hex
  · rename_i hop
    unfold exR at hex ⊢
    rw [hop] at hex ⊢
    simp only at hex ⊢
    split at hex
    · exact hex
    · exact hex
    · split at hex
      · exact bytesR_rd hrd hh hex
      · simp [T.sel] at hex
    · simp [T.sel] at hex
  · cases hrd
theorem sees_h (ha : AllOk E C ops st fin) (hi : Inv E ops st fin D ρ0 ρ a0 a w0 w) (hst : ∀ b x, st.h b = some x → b < st.τ * 262144 ∨ globBase ≤ b) (hτ : st.τ < 1000000) (hn : ops.size ≤ 4096)
    (hr : fin[k]? = some r) (ho : ops[k]? = some o) (hnk : D k = false) (hdk : ∀ d ∈ (depsGo ops.toList []).getD k [], D d = true) (hfree : ¬ heapFree o.op = true) {b : Nat} {x : Blk} (hb : drawH ((depsGo ops.toList []).getD k []) st (fin.take k) b = some x)
    (hrd : ∀ b', readsAt ops.toList (depsGo ops.toList []) st fin o k = some b' → b' = b) : (dst st fin D).h b = some x := by
  unfold drawH at hb
  cases hany : ((fin.take k).any fun r => !memb ((depsGo ops.toList []).getD k []) r.k && hasName r.W b) with
  | true => rw [hany] at hb; cases hb
  | false =>
    rw [hany, cond_false] at hb
    rw [List.any_eq_false] at hany
    have hex : ∀ y ∈ fin.take k, (∃ p ∈ y.W, p.1 = b) → memb ((depsGo ops.toList []).getD k []) y.k = true := by
      intro y hy hp
      cases hm : memb ((depsGo ops.toList []).getD k []) y.k with
      | true => rfl
      | false => exact (hany y hy (by rw [hm, hasName_true hp]; rfl)).elim
    show ovAll D (fin.map DRes.hu) st.h b = some x
    rw [← List.take_append_drop k fin, List.map_append, ovAll_append]
    have e1 : ovAll D ((fin.take k).map DRes.hu) st.h b = some x := by
      rw [← hb]
      refine ovAll_congr (fun z hz hp => ?_) rfl
      obtain ⟨y, hy, rfl⟩ := List.mem_map.1 hz
      have hm := hex y hy hp
      show D y.k = memb _ y.k
      rw [hm]; exact hdk _ (memb_iff.1 hm)
    rw [ovAll_congr (P' := fun _ => false) (g := ovAll D ((fin.take k).map DRes.hu) st.h) (fun z hz hp => ?_) rfl, ovAll_none (fun _ _ => rfl)]
    · exact e1
    · obtain ⟨y, hy, rfl⟩ := List.mem_map.1 hz
      obtain ⟨hky, hfy⟩ := ha.drop hy
      show D y.k = false
      cases hDy : D y.k with
      | false => rfl
      | true =>
        exfalso
        have hne : y.k ≠ k := fun e => by rw [e, hnk] at hDy; cases hDy
        obtain ⟨_, _, l3, l4⟩ := later ha hi hr ho hnk hfy (by omega) hDy
        rcases l3 with l3 | l3
        · obtain ⟨p, hp, e⟩ := hp
          have hin := l3 p hp
          rw [e] at hin
          have e2 : ovAll (memb ((depsGo ops.toList []).getD k [])) ((fin.take k).map DRes.hu) st.h b = st.h b := by
            refine (ovAll_congr (P' := fun _ => false) (g := st.h) (fun z hz hzp => ?_) rfl).trans (congrFun (ovAll_none (fun _ _ => rfl)) b)
            obtain ⟨p', hp', e'⟩ := hzp
            obtain ⟨z', hz', rfl⟩ := List.mem_map.1 hz
            have hlt := (ha.take hz').1
            have := l4 z' (mem_take_of (ha.take hz').2 (by omega)) p' hp'
            rw [e', hin] at this; cases this
          rw [e2] at hb
          have hylt := (ha.key hfy).2
          rw [inRange_iff] at hin
          unfold drawId at hin
          rcases hst b x hb with h | h
          · omega
          · simp only [globBase] at h; omega
        · rcases l3 with l3 | ⟨b', hb', l3⟩
          · exact hfree l3
          · obtain ⟨p, hp, e⟩ := hp
            exact l3 p hp ((hrd b' hb').trans e.symm)
theorem sees_t (ha : AllOk E C ops st fin) (hi : Inv E ops st fin D ρ0 ρ a0 a w0 w) (hk : k < ops.size) (hnk : D k = false) (hdk : ∀ d ∈ (depsGo ops.toList []).getD k [], D d = true) (i : Nat) :
    V ρ (drawT ops.toList (depsGo ops.toList []) k st (fin.take k) i) (a.tmps.getD i undef) := by
  unfold drawT
  cases hany : (ops.toList.zipIdx.any fun p => (match p.1.dst with | some d => Nat.beq d i | none => false) && (!memb ((depsGo ops.toList []).getD k []) p.2 && !memb ((depsGo ops.toList []).getD p.2 []) k)) with
  | true => rw [cond_true]; simp [V]
  | false =>
    rw [cond_false]
    rw [List.any_eq_false] at hany
    have hex : ∀ j y, fin[j]? = some y → y.dst = some i → memb ((depsGo ops.toList []).getD k []) j = true ∨ memb ((depsGo ops.toList []).getD j []) k = true := by
      intro j y hy hd
      obtain ⟨hyk, hj⟩ := ha.key hy
      obtain ⟨oj, y', h1, one⟩ := ha.one j hj
      rw [hy] at h1; cases h1
      cases hm : memb ((depsGo ops.toList []).getD k []) j with
      | true => exact .inl rfl
      | false =>
        cases hm2 : memb ((depsGo ops.toList []).getD j []) k with
        | true => exact .inr rfl
        | false =>
          refine (hany (oj, j) ?_ ?_).elim
          · rw [List.mem_zipIdx_iff_getElem?]
            simpa using one.op
          · have : oj.dst = some i := by rw [← one.dst]; exact hd
            simp only [this]
            rw [hm, hm2, Nat.beq_refl]; rfl
    have e : ovAll (memb ((depsGo ops.toList []).getD k [])) ((fin.take k).map DRes.tu) st.t i = (dst st fin D).t i := by
      show _ = ovAll D (fin.map DRes.tu) st.t i
      have hd : ∀ y : DRes, (∃ p ∈ y.tu.2, p.1 = i) → y.dst = some i := by
        intro y hp
        obtain ⟨p, hp, e⟩ := hp
        unfold DRes.tu at hp
        cases hyd : y.dst with
        | none => rw [hyd] at hp; cases hp
        | some d => rw [hyd] at hp; simp only [List.mem_singleton] at hp; subst hp; rw [← e]
      rw [← List.take_append_drop k fin, List.map_append, ovAll_append]
      have e1 : ovAll (memb ((depsGo ops.toList []).getD k [])) ((fin.take k).map DRes.tu) st.t i = ovAll D ((fin.take k).map DRes.tu) st.t i := by
        refine ovAll_congr (fun z hz hp => ?_) rfl
        obtain ⟨y, hy, rfl⟩ := List.mem_map.1 hz
        show memb _ y.k = D y.k
        rcases hex y.k y (ha.take hy).2 (hd y hp) with hm | hm
        · rw [hm]; exact (hdk _ (memb_iff.1 hm)).symm
        · have h1 := (ha.take hy).1
          have h2 := ha.deps_lt y.k (by omega) _ (memb_iff.1 hm)
          omega
      have e2 : ovAll D ((fin.drop k).map DRes.tu) (ovAll D ((fin.take k).map DRes.tu) st.t) i = ovAll D ((fin.take k).map DRes.tu) st.t i := by
        refine (ovAll_congr (P' := fun _ => false) (fun z hz hp => ?_) rfl).trans (congrFun (ovAll_none (fun _ _ => rfl)) i)
        obtain ⟨y, hy, rfl⟩ := List.mem_map.1 hz
        obtain ⟨hky, hfy⟩ := ha.drop hy
        rcases hex y.k y hfy (hd y hp) with hm | hm
        · have := ha.deps_lt k hk _ (memb_iff.1 hm)
          omega
        · show D y.k = false
          cases hD : D y.k with
          | false => rfl
          | true =>
            have := hi.closed y.k hD k (memb_iff.1 hm)
            rw [hnk] at this; cases this
      rw [List.take_append_drop, e1]
      exact e2.symm
    rw [e]
    exact hi.rs.t i
theorem insert_eq (ha : AllOk E C ops st fin) (hi : Inv E ops st fin D ρ0 ρ a0 a w0 w) (hr : fin[k]? = some r) (ho : ops[k]? = some o) (hnk : D k = false) :
    (dst st fin (fun j => D j || Nat.beq j k)).h = updW (dst st fin D).h r.W ∧
    ∀ i, (dst st fin (fun j => D j || Nat.beq j k)).t i = (match r.dst with | some d => if i = d then r.v else (dst st fin D).t i | none => (dst st fin D).t i) := by
  have hrk := (ha.key hr).1
  have hsplit : fin = fin.take k ++ r :: fin.drop (k + 1) := by
    have h1 := (List.getElem?_eq_some_iff.1 hr).1
    have h2 := (List.getElem?_eq_some_iff.1 hr).2
    rw [← h2, ← List.drop_eq_getElem_cons h1, List.take_append_drop]
  have hP : ∀ j, j ≠ k → (D j || Nat.beq j k) = D j := by
    intro j hj
    have : Nat.beq j k = false := by
      cases hb : Nat.beq j k with
      | false => rfl
      | true => exact (hj (Nat.eq_of_beq_eq_true hb)).elim
    rw [this, Bool.or_false]
  have hP1 : (D k || Nat.beq k k) = true := by rw [Nat.beq_refl, Bool.or_true]
  have hpre : ∀ y ∈ fin.take k, y.k ≠ k := fun y hy => by have := (ha.take hy).1; omega
  have hpost : ∀ y ∈ fin.drop (k + 1), y.k ≠ k := fun y hy => by have := (ha.drop hy).1; omega
  constructor
  · funext b
    show ovAll _ (fin.map DRes.hu) st.h b = _
    rw [updW_ov]
    show _ = ov (ovAll D (fin.map DRes.hu) st.h) r.W b
    rw [hsplit, List.map_append, List.map_cons]
    refine ovAll_insert (x := r.hu) (by show D r.k = false; rw [hrk]; exact hnk) (by show (D r.k || Nat.beq r.k k) = true; rw [hrk]; exact hP1) (fun j hj => hP j (by rw [← hrk]; exact hj)) ?_ ?_ ?_
    · intro z hz
      obtain ⟨y, hy, rfl⟩ := List.mem_map.1 hz
      show y.k ≠ r.k
      rw [hrk]; exact hpre y hy
    · intro z hz
      obtain ⟨y, hy, rfl⟩ := List.mem_map.1 hz
      show y.k ≠ r.k
      rw [hrk]; exact hpost y hy
    · intro z hz hD p hp q hq
      obtain ⟨y, hy, rfl⟩ := List.mem_map.1 hz
      obtain ⟨h1, h2⟩ := ha.drop hy
      exact (later ha hi hr ho hnk h2 (by omega) hD).2.1 p hp q hq
  · intro i
    have e : ovAll (fun j => D j || Nat.beq j k) (fin.map DRes.tu) st.t i = ov (ovAll D (fin.map DRes.tu) st.t) r.tu.2 i := by
      rw [hsplit, List.map_append, List.map_cons]
      refine ovAll_insert (x := r.tu) (by show D r.k = false; rw [hrk]; exact hnk) (by show (D r.k || Nat.beq r.k k) = true; rw [hrk]; exact hP1) (fun j hj => hP j (by rw [← hrk]; exact hj)) ?_ ?_ ?_
      · intro z hz
        obtain ⟨y, hy, rfl⟩ := List.mem_map.1 hz
        show y.k ≠ r.k
        rw [hrk]; exact hpre y hy
      · intro z hz
        obtain ⟨y, hy, rfl⟩ := List.mem_map.1 hz
        show y.k ≠ r.k
        rw [hrk]; exact hpost y hy
      · intro z hz hD p hp q hq
        obtain ⟨y, hy, rfl⟩ := List.mem_map.1 hz
        obtain ⟨h1, h2⟩ := ha.drop hy
        have hs := (later ha hi hr ho hnk h2 (by omega) hD).1
        unfold DRes.tu at hp hq
        cases hd1 : y.dst with
        | none => rw [hd1] at hp; cases hp
        | some d1 =>
          cases hd2 : r.dst with
          | none => rw [hd2] at hq; cases hq
          | some d2 =>
            rw [hd1] at hp; rw [hd2] at hq
            simp only [List.mem_singleton] at hp hq
            subst hp; subst hq
            rw [hd1, hd2] at hs
            simp only [sameDst] at hs
            intro e
            simp only at e
            rw [e, Nat.beq_refl] at hs; cases hs
    show ovAll (fun j => D j || Nat.beq j k) (fin.map DRes.tu) st.t i = _
    rw [e]
    unfold DRes.tu
    cases r.dst with
    | none => rfl
    | some d =>
      simp only [ov]
      by_cases hid : i = d
      · subst hid; rw [updF_same, if_pos rfl]
      · rw [updF_other _ _ _ hid, if_neg hid]; rfl
theorem opsDst_mem {l : List Nat} (hl : k ∈ l) (ho : ops[k]? = some o) {d : Nat} (hd : o.dst = some d) : d ∈ opsDst ops l := by
  induction l with
  | nil => cases hl
  | cons x l ih =>
    rcases List.mem_cons.1 hl with rfl | hl
    · simp only [opsDst, ho, Option.bind_some, hd]; exact List.mem_cons_self ..
    · simp only [opsDst]
      cases (ops[x]?).bind (·.dst) with
      | none => exact ih hl
      | some e => exact List.mem_cons_of_mem _ (ih hl)
theorem draw_step (hC : CallOk E C) (hM : CallMono C) (ha : AllOk E C ops st fin) (hst : ∀ b x, st.h b = some x → b < st.τ * 262144 ∨ globBase ≤ b) (hτ : st.τ < 1000000) (hn : ops.size ≤ 4096)
    (hi : Inv E ops st fin D ρ0 ρ a0 a w0 w) (hk : k < ops.size) (hnk : D k = false) (hready : ∀ o, ops[k]? = some o → ∀ e ∈ edgesOf o, D e = true) {K : Act → World → Prop} {Q : Exit → Act → World → Prop}
    (hK : ∀ ρ' a' w', Inv E ops st fin (fun j => D j || Nat.beq j k) ρ0 ρ' a0 a' w0 w' → K a' w') : wpOp E.P ops Q k K a w := by
  obtain ⟨o, r, hr, one⟩ := ha.one k hk
  have hf := one.fit
  have hdk : ∀ d ∈ (depsGo ops.toList []).getD k [], D d = true := by
    intro d hd
    obtain ⟨e, he, h⟩ := deps_mem one.op hf.c6 hd
    have := hready o one.op e he
    rcases h with rfl | h
    · exact this
    · exact hi.closed e this d h
  obtain ⟨hh, ht⟩ := insert_eq ha hi hr one.op hnk
  have hlt' : ∀ j, (D j || Nat.beq j k) = true → j < ops.size := by
    intro j hj
    rcases Bool.or_eq_true_iff.1 hj with h | h
    · exact hi.lt j h
    · rw [Nat.eq_of_beq_eq_true h]; exact hk
  have hcl' : ∀ j, (D j || Nat.beq j k) = true → ∀ d ∈ (depsGo ops.toList []).getD j [], (D d || Nat.beq d k) = true := by
    intro j hj d hd
    rcases Bool.or_eq_true_iff.1 hj with h | h
    · rw [hi.closed j h d hd]; rfl
    · rw [Nat.eq_of_beq_eq_true h] at hd; rw [hdk d hd]; rfl
  have hglob : HLe (globH st.h) (dst st fin D).h := by
    intro b x hb
    unfold globH at hb
    cases hbb : Nat.ble globBase b with
    | false => rw [hbb] at hb; cases hb
    | true =>
      rw [hbb, cond_true] at hb
      have hge := Nat.le_of_ble_eq_true hbb
      show ovAll D (fin.map DRes.hu) st.h b = some x
      rw [← hb]
      refine (ovAll_congr (P' := fun _ => false) (g := st.h) (fun z hz hp => ?_) rfl).trans (congrFun (ovAll_none (fun _ _ => rfl)) b)
      obtain ⟨y, hy, rfl⟩ := List.mem_map.1 hz
      obtain ⟨p, hp, e⟩ := hp
      obtain ⟨i, hi'⟩ := List.mem_iff_getElem?.1 hy
      obtain ⟨oi, yi, h1, onei⟩ := ha.one i (ha.key hi').2
      rw [hi'] at h1; cases h1
      have := onei.fit.c7 p hp
      omega
  have hsk : RSat E ρ { st with t := drawT ops.toList (depsGo ops.toList []) k st (fin.take k), h := globH st.h } a w (fun j => D j = true) :=
    ⟨hi.rs.h.sub hglob, ⟨hi.rs.g.laid, hi.rs.g.size, hi.rs.g.base, fun j ⟨b, x, p, hb, h⟩ => hi.rs.g.own j ⟨b, x, p, hglob _ _ hb, h⟩⟩, hi.rs.size, sees_t ha hi hk hnk hdk, hi.rs.dom, hi.rs.glob⟩
  have hid : ∀ b, drawId st.τ k ≤ b → b < drawId st.τ k + 64 → ρ b = none := by
    intro b hb1 hb2
    cases hρ : ρ b with
    | none => rfl
    | some p =>
      exfalso
      rcases hi.rs.dom b (by rw [hρ]; simp) with h | h | ⟨j, hj, h5, h6⟩
      · simp only [drawId] at hb1; simp only [dst] at h; omega
      · simp only [drawId, globBase] at hb2 h; omega
      · have hjlt := hi.lt j hj
        have : k ≠ j := fun e => by rw [← e, hnk] at hj; cases hj
        simp only [drawId] at hb1 hb2
        simp only [dst, idOf] at h5 h6
        omega
  have hkeep : ∀ v, Keeps (opsDst ops (List.range ops.size)) a0 (a.put o.dst v) := fun v =>
    (hi.keeps.trans (Keeps.put a o.dst v)).mono fun d hd => by
      rcases List.mem_append.1 hd with h | h
      · exact h
      · cases hod : o.dst with
        | none => rw [hod] at h; cases h
        | some d' =>
          rw [hod] at h
          simp only [Option.toList_some, List.mem_singleton] at h
          subst h
          exact opsDst_mem (List.mem_range.2 hk) one.op hod
  have htmp : ∀ (ρ' : Rho) (cv : Value), ρ.le ρ' → V ρ' r.v cv → ∀ i, V ρ' ((dst st fin (fun j => D j || Nat.beq j k)).t i) ((a.put o.dst cv).tmps.getD i undef) := by
    intro ρ' cv hle hv i
    rw [ht i, getD_put, one.dst]
    cases hod : o.dst with
    | none => exact V.mono hle _ _ (hi.rs.t i)
    | some d =>
      have hd5 := hf.c5 d hod
      have hsz : a.tmps.size = st.n := hi.rs.size
      simp only
      by_cases e : i = d
      · rw [if_pos e, if_pos ⟨by rw [hsz]; exact hd5, e⟩]; exact hv
      · rw [if_neg e, if_neg fun h => e h.2]; exact V.mono hle _ _ (hi.rs.t i)
  unfold wpOp
  rw [one.op]
  simp only
  have hwant : ∀ j b d (v : Bool), o.guard = some (j, b) → guardTmp ops j = some d → drawT ops.toList (depsGo ops.toList []) k st (fin.take k) d = .bool v → Region.wanted o (yielded ops a.tmps) = (v == b) := by
    intro j b d v hg hgt hb
    have hy := yielded_V hsk hgt hb
    simp only [Region.wanted, hg, hy]
    cases v <;> cases b <;> rfl
  rcases one.run with ⟨hg, hex⟩ | ⟨hskip, hv, hW⟩
  · have hw : Region.wanted o (yielded ops a.tmps) = true := by
      rcases hg with hg | ⟨j, b, d, hg, hgt, hb⟩
      · simp [Region.wanted, hg]
      · rw [hwant j b d b hg hgt hb]; cases b <;> rfl
    rw [if_pos hw]
    left
    have hex' : (exR E C o (drawId st.τ k) (ev { st with t := drawT ops.toList (depsGo ops.toList []) k st (fin.take k), h := globH st.h }) (dst st fin D).h).sel = some (r.v, r.W) := by
      by_cases hfree : heapFree o.op = true
      · rw [exR_free o hfree _ _ _ (drawH ((depsGo ops.toList []).getD k []) st (fin.take k))]; exact hex
      · cases hrd : readsAt ops.toList (depsGo ops.toList []) st fin o k with
        | none => exact exR_mono hM (fun b x hb => sees_h ha hi hst hτ hn hr one.op hnk hdk hfree hb fun b' h => by rw [hrd] at h; cases h) o _ _ _ hex
        | some b0 => exact exR_load hrd (fun x hb => sees_h ha hi hst hτ hn hr one.op hnk hdk hfree hb fun b' h => by rw [hrd] at h; exact (Option.some.inj h).symm) hex
    have hok := exR_ok hC hi.rs.h hi.rs.g hid o (fun x => hsk.ev x) hex'
    refine hok a K Q rfl fun cv w' ρ' g1 g2 g3 g4 g5 => hK ρ' _ w' ?_
    have g4' : Stp (domB ρ (dst st fin D).h) (domB ρ' (dst st fin (fun j => D j || Nat.beq j k)).h) w w' := by rw [hh]; exact g4
    refine ⟨⟨by rw [hh]; exact g3, hi.rs.g.step g4', ?_, htmp ρ' cv g1 g2, fun b hb => ?_, ?_⟩, hi.stp.trans g4', hkeep cv, hlt', hcl', hi.le.trans g1⟩
    · have := hi.rs.size; rw [(Keeps.put a o.dst cv).size]; exact this
    · cases hρ : ρ b with
      | none =>
        have := g5 b hb hρ
        refine .inr (.inr ⟨k, ?_, this⟩)
        show (D k || Nat.beq k k) = true
        rw [Nat.beq_refl, Bool.or_true]
      | some p =>
        rcases hi.rs.dom b (by rw [hρ]; simp) with h | h | ⟨j, hj, h5⟩
        · exact .inl h
        · exact .inr (.inl h)
        · refine .inr (.inr ⟨j, ?_, h5⟩)
          show (D j || Nat.beq j k) = true
          rw [hj]; rfl
    · intro g p hp
      cases hρ : ρ (globBase + g) with
      | none =>
        exfalso
        have := g5 (globBase + g) (by rw [hp]; simp) hρ
        simp only [drawId, globBase] at this; omega
      | some q =>
        have := g1 _ _ hρ
        rw [hp] at this; cases this
        exact hi.rs.glob g p hρ
  · have hw : Region.wanted o (yielded ops a.tmps) = false := by
      rcases hskip with ⟨j, b, d, hg, hgt, hb⟩ | ⟨j, b, d, hg, hgt, hb⟩
      · rw [hwant j b d (!b) hg hgt hb]; cases b <;> rfl
      · have hy := yielded_tup hsk hgt hb
        simp only [Region.wanted, hg, hy]; cases b <;> rfl
    rw [if_neg (by rw [hw]; simp)]
    rw [hW] at hh
    refine hK ρ _ w ⟨⟨by rw [hh]; exact hi.rs.h, by rw [hh]; exact hi.rs.g, ?_, htmp ρ undef (Rho.le.refl _) (by rw [hv]; exact undef_tup _), fun b hb => ?_, hi.rs.glob⟩, by rw [hh]; exact hi.stp, hkeep undef, hlt', hcl', hi.le⟩
    · have := hi.rs.size; rw [(Keeps.put a o.dst undef).size]; exact this
    · rcases hi.rs.dom b hb with h | h | ⟨j, hj, h5⟩
      · exact .inl h
      · exact .inr (.inl h)
      · refine .inr (.inr ⟨j, ?_, h5⟩)
        show (D j || Nat.beq j k) = true
        rw [hj]; rfl
end step
def left (n : Nat) (listed : Array Bool) : Nat := ((List.range n).filter fun i => !listed.getD i true).length
theorem filter_less (l : List Nat) (p : Nat → Bool) (k : Nat) (hk : k ∈ l) (hp : p k = true) : (l.filter fun i => p i && !Nat.beq i k).length < (l.filter p).length := by
  induction l with
  | nil => cases hk
  | cons x l ih =>
    have hle : (l.filter fun i => p i && !Nat.beq i k).length ≤ (l.filter p).length := by
      clear ih hk
      induction l with
      | nil => simp
      | cons y l ih2 =>
        simp only [List.filter_cons]
        cases hpy : p y <;> cases hyk : Nat.beq y k <;> simp <;> omega
    simp only [List.filter_cons]
    by_cases hx : x = k
    · subst hx
      rw [hp, Nat.beq_refl]
      simp; omega
    · have hxk : Nat.beq x k = false := by
        cases hb : Nat.beq x k with
        | false => rfl
        | true => exact (hx (Nat.eq_of_beq_eq_true hb)).elim
      have := ih ((List.mem_cons.1 hk).resolve_left (Ne.symm hx))
      rw [hxk]
      cases p x <;> simp <;> omega
theorem draw_any (hC : CallOk E C) (hM : CallMono C) (ha : AllOk E C ops st fin) (hst : ∀ b x, st.h b = some x → b < st.τ * 262144 ∨ globBase ≤ b) (hτ : st.τ < 1000000) (hn : ops.size ≤ 4096)
    {ρ0 : Rho} {a0 : Act} {w0 : World} {Q : Exit → Act → World → Prop}
    (hQ : ∀ ρ' a' w', Inv E ops st fin (fun j => decide (j < ops.size)) ρ0 ρ' a0 a' w0 w' → Q .normal a' w') :
    ∀ (fuel : Nat) (listed : Array Bool) (ρ : Rho) (a : Act) (w : World), listed.size = ops.size → left ops.size listed ≤ fuel → Inv E ops st fin (fun j => listed.getD j false) ρ0 ρ a0 a w0 w → wpAny E.P .any ops Q fuel listed a w := by
  have done : ∀ (listed : Array Bool) (ρ : Rho) (a : Act) (w : World), listed.size = ops.size → Inv E ops st fin (fun j => listed.getD j false) ρ0 ρ a0 a w0 w → Region.ready .any ops listed = [] → Q .normal a w := by
    intro listed ρ a w hsz hi hr
    have hall : ∀ j, j < ops.size → listed.getD j false = true := by
      intro j
      induction j using Nat.strongRecOn with
      | _ j ih =>
        intro hj
        cases hl : listed.getD j false with
        | true => rfl
        | false =>
          exfalso
          obtain ⟨o, r, hrr, one⟩ := ha.one j hj
          have hmem : j ∈ Region.ready .any ops listed := by
            unfold Region.ready
            rw [List.mem_filter]
            refine ⟨List.mem_range.2 hj, ?_⟩
            have h1 : listed.getD j true = false := by
              rw [Array.getD_eq_getD_getElem?] at hl ⊢
              have : j < listed.size := by omega
              simp [this] at hl ⊢; exact hl
            rw [h1, one.op]
            simp only [Option.map_some, Option.getD_some, Bool.not_false, Bool.true_and]
            rw [Array.all_eq_true']
            intro e he
            cases hb : Region.binds .any e with
            | false => rfl
            | true =>
              have hmem : e.on ∈ edgesOf o := by
                unfold edgesOf
                rw [List.mem_filterMap]
                exact ⟨e, by simpa using he, by rw [hb]; rfl⟩
              have hlt := one.fit.c6 _ hmem
              rw [ih e.on hlt (by omega)]; rfl
          rw [hr] at hmem; cases hmem
    refine hQ ρ a w ?_
    have e : (fun j => listed.getD j false) = (fun j => decide (j < ops.size)) := by
      funext j
      by_cases hj : j < ops.size
      · rw [hall j hj]; simp [hj]
      · rw [Array.getD_eq_getD_getElem?]
        have : ¬ j < listed.size := by omega
        simp [this, hj]
    rw [← e]; exact hi
  intro fuel
  induction fuel with
  | zero =>
    intro listed ρ a w hsz hl hi
    have hr : Region.ready .any ops listed = [] := by
      unfold Region.ready
      rw [List.filter_eq_nil_iff]
      intro j hj
      have h0 : (List.range ops.size).filter (fun i => !listed.getD i true) = [] := List.eq_nil_of_length_eq_zero (by unfold left at hl; omega)
      rw [List.filter_eq_nil_iff] at h0
      have := h0 j hj
      simp only [Bool.not_eq_true] at this
      rw [this]; simp
    exact ⟨hr, done listed ρ a w hsz hi hr⟩
  | succ fuel ih =>
    intro listed ρ a w hsz hl hi
    refine ⟨done listed ρ a w hsz hi, fun k hk => ?_⟩
    unfold Region.ready at hk
    rw [List.mem_filter] at hk
    obtain ⟨hk1, hk2⟩ := hk
    have hkn := List.mem_range.1 hk1
    rw [Bool.and_eq_true] at hk2
    have hkl : listed.getD k true = false := by simpa using hk2.1
    have hnk : listed.getD k false = false := by
      rw [Array.getD_eq_getD_getElem?] at hkl ⊢
      have : k < listed.size := by omega
      simp [this] at hkl ⊢; exact hkl
    refine draw_step hC hM ha hst hτ hn hi hkn hnk (fun o ho e he => ?_) fun ρ' a' w' hi' => ?_
    · have h3 := hk2.2
      rw [ho] at h3
      simp only [Option.map_some, Option.getD_some] at h3
      rw [Array.all_eq_true'] at h3
      unfold edgesOf at he
      rw [List.mem_filterMap] at he
      obtain ⟨x, hx, hx2⟩ := he
      cases hb : Region.binds .any x with
      | false => rw [hb] at hx2; cases hx2
      | true =>
        rw [hb, cond_true, Option.some.injEq] at hx2
        have := h3 x (by simpa using hx)
        rw [hb] at this
        rw [← hx2]
        simpa using this
    · have e : (fun j => (listed.setIfInBounds k true).getD j false) = (fun j => listed.getD j false || Nat.beq j k) := by
        funext j
        rw [Array.getD_eq_getD_getElem?, Array.getD_eq_getD_getElem?]
        by_cases hj : j = k
        · subst hj
          have : j < listed.size := by omega
          simp [this]
        · have hb : Nat.beq j k = false := by
            cases hb : Nat.beq j k with
            | false => rfl
            | true => exact (hj (Nat.eq_of_beq_eq_true hb)).elim
          rw [Array.getElem?_setIfInBounds_ne (Ne.symm hj), hb, Bool.or_false]
      refine ih _ ρ' a' w' (by simpa using hsz) ?_ (by rw [e]; exact hi')
      have : left ops.size (listed.setIfInBounds k true) < left ops.size listed := by
        unfold left
        have := filter_less (List.range ops.size) (fun i => !listed.getD i true) k hk1 (by rw [hkl]; rfl)
        refine Nat.lt_of_le_of_lt (Nat.le_of_eq ?_) this
        congr 1
        refine List.filter_congr fun j hj => ?_
        rw [Array.getD_eq_getD_getElem?, Array.getD_eq_getD_getElem?]
        by_cases hjk : j = k
        · subst hjk
          have : j < listed.size := by omega
          simp [this]
        · have hb : Nat.beq j k = false := by
            cases hb : Nat.beq j k with
            | false => rfl
            | true => exact (hjk (Nat.eq_of_beq_eq_true hb)).elim
          rw [Array.getElem?_setIfInBounds_ne (Ne.symm hjk), hb]; simp
      omega
theorem draw_ok (hC : CallOk E C) (hM : CallMono C) {st1 : AState} {id : Nat} (h : (drawAll E C ops st).sel = some st1) (hn : ops.size ≤ 4096) (hτ : st.τ < 1000000) {ρ : Rho} {a : Act} {w : World} (hs : Sat E ρ st a w) {Q : Exit → Act → World → Prop}
    (hQ : ∀ ρ' a' w', Sat E ρ' { st1 with τ := st1.τ + 1 } a' w' → Stp (domB ρ st.h) (domB ρ' st1.h) w w' → ρ.le ρ' → Keeps (opsDst ops (List.range ops.size)) a a' → Q .normal a' w') : (Code.region id ops true).wp E.P Q a w := by
  unfold drawAll at h
  cases hm : E.P.follows .mixedOrders with
  | false => rw [hm] at h; simp [T.sel] at h
  | true =>
    rw [hm, cond_true] at h
    obtain ⟨fin, h1, h2⟩ := T.bind_sel _ _ _ h
    rw [drawGo2_sel] at h1
    simp only [T.sel, Option.some.injEq] at h2
    obtain ⟨rest, e1, e2, e3⟩ := drawGo_ok _ _ _ h1
    simp only [List.nil_append] at e1
    subst e1
    have hlen : fin.length = ops.size := by rw [e2, List.length_range]
    have ha : AllOk E C ops st fin := ⟨hlen, fun k hk => by
      obtain ⟨r, h3, h4⟩ := e3 k k (by rw [List.getElem?_range hk])
      rw [List.length_nil, Nat.zero_add] at h4
      obtain ⟨o, one⟩ := drawOne_ok h4
      exact ⟨o, r, h3, one⟩⟩
    have hst : ∀ b x, st.h b = some x → b < st.τ * 262144 ∨ globBase ≤ b := fun b x hb => by
      obtain ⟨p, hp, _⟩ := hs.h.pos b x hb
      exact hs.dom b (by rw [hp]; simp)
    have hnone : ∀ j, (Array.replicate ops.size false).getD j false = false := by
      intro j
      rw [Array.getD_eq_getD_getElem?]
      by_cases hj : j < ops.size <;> simp [hj]
    have e0 : (fun j => (Array.replicate ops.size false).getD j false) = (fun _ => false) := funext hnone
    have hd0 : dst st fin (fun _ => false) = st := by
      unfold dst
      rw [ovAll_none (fun _ _ => rfl), ovAll_none (fun _ _ => rfl)]
    refine wp_region_any hm ?_
    refine draw_any hC hM ha hst hτ hn (ρ0 := ρ) (a0 := a) (w0 := w) (fun ρ' a' w' hi => ?_) ops.size _ ρ a w.drew (by simp) ?_ ?_
    · have hall : dst st fin (fun j => decide (j < ops.size)) = dst st fin (fun _ => true) := by
        unfold dst
        congr 1
        · funext i
          refine ovAll_congr (fun z hz _ => ?_) rfl
          obtain ⟨y, hy, rfl⟩ := List.mem_map.1 hz
          obtain ⟨i', hi'⟩ := List.mem_iff_getElem?.1 hy
          have := ha.key hi'
          show decide (y.k < ops.size) = true
          rw [this.1]; simp [this.2]
        · funext i
          refine ovAll_congr (fun z hz _ => ?_) rfl
          obtain ⟨y, hy, rfl⟩ := List.mem_map.1 hz
          obtain ⟨i', hi'⟩ := List.mem_iff_getElem?.1 hy
          have := ha.key hi'
          show decide (y.k < ops.size) = true
          rw [this.1]; simp [this.2]
      have hst1 : dst st fin (fun j => decide (j < ops.size)) = st1 := by rw [hall]; exact h2
      have hrs := hi.rs
      have hstp := hi.stp
      rw [hst1] at hrs hstp
      refine hQ ρ' a' w' (hrs.sat fun j hj => by have := of_decide_eq_true hj; omega) hstp hi.le hi.keeps
    · unfold left
      exact Nat.le_trans (List.length_filter_le _ _) (by simp)
    · rw [e0]
      refine ⟨?_, ?_, Keeps.refl _ _, fun k hk => by simp at hk, fun k hk => by simp at hk, Rho.le.refl _⟩
      · rw [hd0]
        exact (hs.rsat.drew).monoD fun j h => h.elim
      · rw [hd0]
        exact ⟨Ext.drew _ _, fun _ h => .inl h, fun _ h => .inl h⟩
end
end Go.Am
namespace Go.Am
section
variable {E : Env} {C : CallR}
def toExit : AExit → Exit
  | .normal => .normal
  | .exit id => .exit id
  | .ret => .ret
def CSem (E : Env) (c : Code) (st : AState) (e : AExit) (st' : AState) : Prop :=
  ∀ (ρ : Rho) (a : Act) (w : World), Sat E ρ st a w → ∀ (Q : Exit → Act → World → Prop), (∀ ρ' a' w', Sat E ρ' st' a' w' → Stp (domB ρ st.h) (domB ρ' st'.h) w w' → ρ.le ρ' → Keeps (writes c) a a' → Q (toExit e) a' w') → c.wp E.P Q a w
def LoopsOk (E : Env) (L : LoopR) : Code → Prop
  | .loop a => ∀ st e st', (L a st).sel = some (e, st') → CSem E (.loop a) st e st'
  | .scope a => LoopsOk E L a
  | .seq a b => LoopsOk E L a ∧ LoopsOk E L b
  | .cond _ a b => LoopsOk E L a ∧ LoopsOk E L b
  | .block _ a => LoopsOk E L a
  | _ => True
theorem litSt_same {st : AState} {c : Operand} {v : Bool} (h : Am.ev st c = .bool v) : litSt st c v = st := by
  unfold litSt
  split
  · rename_i d
    have h : st.t d = .bool v := h
    unfold AState.put
    simp only
    cases hb : Nat.blt d st.n with
    | false => rfl
    | true =>
      rw [cond_true]
      have : updF st.t d (.bool v) = st.t := by
        funext x
        unfold updF
        cases hx : Nat.beq x d with
        | false => rfl
        | true => rw [cond_true, Nat.eq_of_beq_eq_true hx, h]
      rw [this]
  · rfl
structure CG (E : Env) (C : CallR) : Prop where
  ok : CallOk E C
  mono : CallMono C
theorem run_ok (hC : CG E C) {L : LoopR} : ∀ (c : Code), LoopsOk E L c → ∀ (st : AState) (e : AExit) (st' : AState), (run E C L c st).sel = some (e, st') → CSem E c st e st'
  | .skip, _, st, e, st', h => by
    simp only [run, T.sel, Option.some.injEq, Prod.mk.injEq] at h
    obtain ⟨rfl, rfl⟩ := h
    intro ρ a w hs Q hQ
    exact wp_skip (hQ ρ a w hs (Stp.refl _ _) (Rho.le.refl _) (Keeps.refl _ _))
  | .exit id, _, st, e, st', h => by
    simp only [run, T.sel, Option.some.injEq, Prod.mk.injEq] at h
    obtain ⟨rfl, rfl⟩ := h
    intro ρ a w hs Q hQ
    exact wp_exit (hQ ρ a w hs (Stp.refl _ _) (Rho.le.refl _) (Keeps.refl _ _))
  | .ret, _, st, e, st', h => by
    simp only [run, T.sel, Option.some.injEq, Prod.mk.injEq] at h
    obtain ⟨rfl, rfl⟩ := h
    intro ρ a w hs Q hQ
    exact wp_ret (hQ ρ a w hs (Stp.refl _ _) (Rho.le.refl _) (Keeps.refl _ _))
  | .region id ops draw, _, st, e, st', h => by
    unfold run at h
    cases hc : (Nat.ble ops.size 4096 && Nat.blt st.τ 1000000) with
    | false => simp only [hc, cond_false] at h; simp [T.sel] at h
    | true =>
      simp only [hc, cond_true] at h
      simp only [Bool.and_eq_true] at hc
      obtain ⟨h2, h3⟩ := hc
      have h2 := Nat.le_of_ble_eq_true h2
      have h3 : st.τ < 1000000 := lt_of_blt h3
      obtain ⟨st1, g1, g2⟩ := T.bind_sel _ _ _ h
      simp only [T.sel, Option.some.injEq, Prod.mk.injEq] at g2
      obtain ⟨rfl, rfl⟩ := g2
      intro ρ a w hs Q hQ
      cases draw with
      | true =>
        rw [cond_true] at g1
        exact draw_ok hC.ok hC.mono g1 h2 h3 hs hQ
      | false =>
      rw [cond_false] at g1
      refine wp_region ?_
      refine ops_ok hC.ok ops _ st st1 g1 ρ a w _ hs.rsat List.nodup_range (fun _ _ h => h) (fun _ h => h.elim) (fun i hi => by have := List.mem_range.1 hi; omega) h3 Q fun ρ' a' w' h5 h6 hle h7 => ?_
      exact hQ ρ' a' w' (h5.sat fun j hj => by rcases hj with h | h; exact h.elim; have := List.mem_range.1 h; omega) h6 hle h7
  | .seq x y, hL, st, e, st', h => by
    unfold run at h
    obtain ⟨⟨e1, st1⟩, g1, g2⟩ := T.bind_sel _ _ _ h
    have hx := run_ok hC x hL.1 st e1 st1 g1
    intro ρ a w hs Q hQ
    refine wp_seq (hx ρ a w hs _ fun ρ1 a1 w1 h5 h6 hle hk => ?_)
    cases e1 with
    | normal => exact run_ok hC y hL.2 st1 e st' g2 ρ1 a1 w1 h5 Q fun ρ2 a2 w2 h7 h8 hle2 hk2 => hQ ρ2 a2 w2 h7 (h6.trans h8) (hle.trans hle2) (hk.trans hk2)
    | exit id =>
      simp only [T.sel, Option.some.injEq, Prod.mk.injEq] at g2
      obtain ⟨rfl, rfl⟩ := g2
      exact hQ ρ1 a1 w1 h5 h6 hle (hk.mono fun i hi => List.mem_append_left _ hi)
    | ret =>
      simp only [T.sel, Option.some.injEq, Prod.mk.injEq] at g2
      obtain ⟨rfl, rfl⟩ := g2
      exact hQ ρ1 a1 w1 h5 h6 hle (hk.mono fun i hi => List.mem_append_left _ hi)
  | .cond c x y, hL, st, e, st', h => by
    unfold run at h
    intro ρ a w hs Q hQ
    have hv := hs.ev c
    cases hc : Am.ev st c with
    | bool b =>
      simp only [hc] at h
      rw [hc] at hv; simp only [V] at hv
      rcases T.node_sel h with ⟨rfl, h⟩ | ⟨rfl, h⟩ <;> rw [litSt_same hc] at h
      · exact wp_cond_true hv (run_ok hC x hL.1 st e st' h ρ a w hs Q fun ρ' a' w' h1 h2 hle h3 => hQ ρ' a' w' h1 h2 hle (h3.mono fun i hi => List.mem_append_left _ hi))
      · exact wp_cond_false hv (run_ok hC y hL.2 st e st' h ρ a w hs Q fun ρ' a' w' h1 h2 hle h3 => hQ ρ' a' w' h1 h2 hle (h3.mono fun i hi => List.mem_append_right _ hi))
    | _ => simp only [hc] at h; simp [T.sel] at h
  | .block id x, hL, st, e, st', h => by
    unfold run at h
    obtain ⟨⟨e1, st1⟩, g1, g2⟩ := T.bind_sel _ _ _ h
    have hx := run_ok hC x hL st e1 st1 g1
    intro ρ a w hs Q hQ
    refine wp_block (hx ρ a w hs _ fun ρ1 a1 w1 h5 h6 hle hk => ?_)
    cases e1 with
    | normal =>
      simp only [T.sel, Option.some.injEq, Prod.mk.injEq] at g2
      obtain ⟨rfl, rfl⟩ := g2
      exact hQ ρ1 a1 w1 h5 h6 hle hk
    | ret =>
      simp only [T.sel, Option.some.injEq, Prod.mk.injEq] at g2
      obtain ⟨rfl, rfl⟩ := g2
      exact hQ ρ1 a1 w1 h5 h6 hle hk
    | exit j =>
      simp only [toExit, Exit.inBlock]
      cases hj : Nat.beq j id with
      | true =>
        have := Nat.eq_of_beq_eq_true hj
        simp only [hj, cond_true, T.sel, Option.some.injEq, Prod.mk.injEq] at g2
        obtain ⟨rfl, rfl⟩ := g2
        rw [if_pos this]
        exact hQ ρ1 a1 w1 h5 h6 hle hk
      | false =>
        simp only [hj, cond_false, T.sel, Option.some.injEq, Prod.mk.injEq] at g2
        obtain ⟨rfl, rfl⟩ := g2
        rw [if_neg (by intro e; rw [e] at hj; simp at hj)]
        exact hQ ρ1 a1 w1 h5 h6 hle hk
  | .loop x, hL, st, e, st', h => hL st e st' h
  | .rangeFunc .., _, st, e, st', h => by simp [run, T.sel] at h
  | .scope x, hL, st, e, st', h => by
    unfold run at h
    have hx := run_ok hC x hL st e st' h
    intro ρ a w hs Q hQ
    refine wp_scope_straight (hx ρ a w hs _ fun ρ1 a1 w1 h5 h6 hle hk => ?_)
    cases e with
    | normal => exact hQ ρ1 a1 w1 h5 h6 hle hk
    | exit j => exact hQ ρ1 a1 w1 h5 h6 hle hk
    | ret => exact hQ ρ1 a1 w1 h5 h6 hle hk
  | .label l, _, st, e, st', h => by
    simp only [run, T.sel, Option.some.injEq, Prod.mk.injEq] at h
    obtain ⟨rfl, rfl⟩ := h
    intro ρ a w hs Q hQ
    exact wp_label (hQ ρ a w hs (Stp.refl _ _) (Rho.le.refl _) (Keeps.refl _ _))
  | .goto _, _, st, e, st', h => by simp [run, T.sel] at h
  | .refuse _, _, st, e, st', h => by simp [run, T.sel] at h
end
end Go.Am
