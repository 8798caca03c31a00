import Derived.Test.YthfieonkfailkaaAmOps5
namespace Go.Am
section
variable {ρ : Rho} {E : Env} {w : World} {h : Heap}

theorem setCells_fold : ∀ (vs : List Value) (as : List AV) (k off : Nat) (cs : List AV) (zs : Array Value), VL ρ cs zs.toList → VL ρ as vs →
    VL ρ (setCells cs (off + k) as) ((vs.zipIdx k).foldl (fun (cs : Array Value) (x : Value × Nat) => cs.setIfInBounds (off + x.2) x.1) zs).toList
  | [], as, k, off, cs, zs, hz, ha => by
    have : as = [] := by have := ha.length; exact List.eq_nil_of_length_eq_zero (by simpa using this.symm)
    subst this; simpa [setCells] using hz
  | v :: vs, as, k, off, cs, zs, hz, ha => by
    cases as with
    | nil => simp only [VL] at ha; cases ha
    | cons a as =>
      simp only [VL] at ha
      obtain ⟨v', r, e, h1, h2⟩ := ha
      cases e
      simp only [setCells, List.zipIdx_cons, List.foldl_cons]
      have := setCells_fold vs as (k + 1) off (cs.set (off + k) a) (zs.setIfInBounds (off + k) v) (by rw [Array.toList_setIfInBounds]; exact hz.set _ h1) h2
      rw [Nat.add_assoc]
      exact this

/-- parts and their values -/
inductive PL (ρ : Rho) : List (Nat × List AV) → List (Nat × Value) → Prop
  | nil : PL ρ [] []
  | cons {i : Nat} {as : List AV} {v : Value} {r : List (Nat × List AV)} {q : List (Nat × Value)} (h : VL ρ as v.cells.toList) (t : PL ρ r q) : PL ρ ((i, as) :: r) ((i, v) :: q)

theorem fill_V {place place' : Nat → Option (Nat × Nat)} (hp : ∀ i x, place i = some x → place' i = some x) : ∀ {ps : List (Nat × List AV)} {qs : List (Nat × Value)} (_ : PL ρ ps qs) (cs : List AV) (zs : Array Value) (r : List AV),
    VL ρ cs zs.toList → fillCells place cs ps = some r → ∃ rz, Instr.fill place' zs qs = some rz ∧ VL ρ r rz.toList
  | _, _, .nil, cs, zs, r, hz, hf => by
    simp [fillCells] at hf; subst hf; exact ⟨zs, rfl, hz⟩
  | _, _, .cons (i := i) (as := as) (v := v) hv ht, cs, zs, r, hz, hf => by
    unfold fillCells at hf
    split at hf
    · cases hf
    · rename_i off size hpl
      cases hc : (Nat.beq as.length size && Nat.ble (off + as.length) cs.length) with
      | false => simp [hc] at hf
      | true =>
        simp only [hc, cond_true] at hf
        simp only [Bool.and_eq_true] at hc
        have h1 := Nat.eq_of_beq_eq_true hc.1
        have h2 := Nat.le_of_ble_eq_true hc.2
        have hvl : v.cells.size = as.length := by rw [← hv.length]; simp
        have hzl : zs.size = cs.length := by rw [← hz.length]; simp
        have hset := setCells_fold v.cells.toList as 0 off cs zs hz hv
        obtain ⟨rz, hr, hV⟩ := fill_V hp ht (setCells cs off as) _ r hset hf
        refine ⟨rz, ?_, hV⟩
        unfold Instr.fill
        rw [hp i _ hpl]
        have hn : ¬ ((v.cells.size ≠ size || decide (off + v.cells.size > zs.size)) = true) := by
          simp; omega
        simp only
        rw [if_neg hn, ← hr]
        congr 1
        rw [← Array.foldl_toList]
        simp

theorem places_run : ∀ (fs : List Field) (ps : List (Nat × Nat)), placesOf E fs = some ps → (fs.mapM (m := Sem) fun f => do pure (f.offset, ← sizeOf f.type)).run E.P w = .ok ps w
  | [], ps, h => by simp [placesOf] at h; subst h; simp
  | f :: r, ps, h => by
    unfold placesOf at h
    split at h
    · rename_i s hs
      simp only [Option.map_eq_some_iff] at h
      obtain ⟨qs, hq, rfl⟩ := h
      have ih := places_run r qs hq
      simp only [List.mapM_cons, Sem.run_bind, sizeT_run hs, Result.andThen_ok, Sem.run_pure]
      rw [show (r.mapM (m := Sem) fun f => do let s ← sizeOf f.type; pure (f.offset, s)).run E.P w = .ok qs w from ih]
      rfl
    · cases h

theorem buildR_pure (t : TypeId) (parts : List (Nat × AV)) (cps : Array (Nat × Value)) (hp : (∀ p ∈ parts, p.2.cells.all AV.isCell = true) → PL ρ (parts.map fun p => (p.1, p.2.cells)) cps.toList) :
    Pure ρ E.P w (buildR E t parts) (Instr.build t cps) := by
  unfold buildR
  cases hall : parts.all (fun p => p.2.cells.all AV.isCell) with
  | false => simp only [cond_false]; exact Pure.bad
  | true =>
    simp only [cond_true]
    have hPL := hp (fun p hm => List.all_eq_true.1 hall p hm)
    split
    · exact Pure.bad
    · rename_i z hz
      obtain ⟨i, zv, hi, hiz, hzr, hzl⟩ := zeroCells_run (ρ := ρ) hz
      split
      · rename_i fs hfs
        split
        · rename_i ps hps
          refine Pure.opt fun v hv => ?_
          simp only [Option.map_eq_some_iff] at hv
          obtain ⟨r, hr, rfl⟩ := hv
          obtain ⟨rz, hrz, hV⟩ := fill_V (place' := fun i => ps.toArray[i]?) (fun i x hx => by simpa using hx) hPL z zv.cells r hzl hr
          refine ⟨.agg rz, ?_, by simp only [V]; exact ⟨_, rfl, hV⟩⟩
          have hm : (fs.mapM (m := Sem) fun f => do pure (f.offset, ← sizeOf f.type)).run E.P w = .ok ps.toArray w := by
            rw [Array.mapM_eq_mapM_toList]
            have := places_run (w := w) fs.toList ps hps
            simp only [Sem.run_map, this, Result.andThen_ok]
          unfold Instr.build
          simp only [Sem.run_bind, hzr, Result.andThen_ok, run_und hfs, hm, hrz, Sem.run_pure]
        · exact Pure.bad
      · rename_i n e he
        split
        · rename_i s hs
          refine Pure.opt fun v hv => ?_
          simp only [Option.map_eq_some_iff] at hv
          obtain ⟨r, hr, rfl⟩ := hv
          obtain ⟨rz, hrz, hV⟩ := fill_V (place' := fun i => some (i * s, s)) (fun i x hx => hx) hPL z zv.cells r hzl hr
          refine ⟨.agg rz, ?_, by simp only [V]; exact ⟨_, rfl, hV⟩⟩
          unfold Instr.build
          simp only [Sem.run_bind, hzr, Result.andThen_ok, run_und he, sizeT_run hs, hrz, Sem.run_pure]
        · exact Pure.bad
      · exact Pure.bad

theorem zeroRow_V {z : List AV} {zs : Array Value} (hz : VL ρ z zs.toList) (hpos : 0 < z.length) (n : Nat) : VL ρ (zeroRow z n) ((Array.range n).map fun i => zs[i % zs.size]!).toList := by
  have hsz : zs.size = z.length := by rw [← hz.length]; simp
  refine VL.of_get (by simp [zeroRow]) fun i a v ha hv => ?_
  simp only [zeroRow, List.getElem?_map, Option.map_eq_some_iff] at ha
  obtain ⟨i', hi', rfl⟩ := ha
  simp only [Array.toList_map, List.getElem?_map, Option.map_eq_some_iff] at hv
  obtain ⟨i2, hi2, rfl⟩ := hv
  have e1 : i' = i := by obtain ⟨h1, h2⟩ := List.getElem?_eq_some_iff.1 hi'; simpa using h2.symm
  have e2 : i2 = i := by obtain ⟨h1, h2⟩ := List.getElem?_eq_some_iff.1 hi2; simpa using h2.symm
  subst e1; subst e2
  have hlt : i2 % z.length < z.length := Nat.mod_lt _ hpos
  obtain ⟨u, hu, hV⟩ := hz.get (List.getElem?_eq_getElem hlt)
  have h3 : i2 % zs.size < zs.size := by rw [hsz]; exact hlt
  rw [getElem!_pos zs _ h3]
  have : zs[i2 % zs.size] = u := by
    have h4 : zs.toList[i2 % z.length]? = some zs[i2 % zs.size] := by
      rw [← hsz]; simp [h3]
    rw [hu] at h4; exact (Option.some.inj h4).symm
  rw [this]
  simpa [List.getD, hlt] using hV
theorem chop_len (s : Nat) : ∀ (n : Nat) (l : List AV), (chop s n l).length = n
  | 0, _ => rfl
  | n + 1, l => by simp [chop, chop_len s n]
theorem chop_get (s : Nat) : ∀ (n : Nat) (l : List AV) (i : Nat), i < n → (chop s n l).getD i [] = (l.drop (i * s)).take s
  | 0, _, i, h => by omega
  | n + 1, l, 0, _ => by simp [chop, List.getD]
  | n + 1, l, i + 1, h => by
    have := chop_get s n (l.drop s) i (by omega)
    simp only [chop]
    rw [show (List.take s l :: chop s n (List.drop s l)).getD (i + 1) [] = (chop s n (l.drop s)).getD i [] from by simp [List.getD]]
    rw [this, List.drop_drop]
    congr 2
    rw [Nat.add_mul, Nat.one_mul, Nat.add_comm]

theorem buildSliceR_eff (hs : SatH ρ h w) {id : Nat} (hid : ∀ b, id ≤ b → b < id + 64 → ρ b = none) (t : TypeId) (n : Nat) (parts : List (Nat × AV)) (cps : Array (Nat × Value))
    (hp : (∀ p ∈ parts, p.2.cells.all AV.isCell = true) → PL ρ (parts.map fun p => (p.1, p.2.cells)) cps.toList) :
    Eff ρ E.P h w id (buildSliceR E id t n parts) (Instr.buildSlice t n cps) := by
  unfold buildSliceR
  split
  rotate_left
  · exact Eff.bad
  rename_i e ht
  split
  rotate_left
  · exact Eff.bad
  rename_i z s hz hs'
  split
  · exact Eff.bad
  rename_i cs hfill
  cases hcond : (parts.all (fun p => p.2.cells.all AV.isCell) && Nat.beq z.length s && Nat.blt 0 s && Nat.ble (n * s) 1000000) with
  | false => simp only [cond_false]; exact Eff.bad
  | true =>
    simp only [cond_true]
    simp only [Bool.and_eq_true] at hcond
    obtain ⟨⟨⟨hall, hzs⟩, hpos⟩, hble⟩ := hcond
    have hzs := Nat.eq_of_beq_eq_true hzs
    have hpos : 0 < s := Nat.le_of_ble_eq_true hpos
    have hble := Nat.le_of_ble_eq_true hble
    split
    rotate_left
    · exact Eff.bad
    rename_i d hd
    cases hstr0 : (Nat.beq d.stride s && markIn e d) with
    | false => simp only [cond_false]; exact Eff.bad
    | true =>
      simp only [cond_true]
      simp only [Bool.and_eq_true] at hstr0
      obtain ⟨hstr, hmi⟩ := hstr0
      have hstr := Nat.eq_of_beq_eq_true hstr
      have hPL := hp (fun p hm => List.all_eq_true.1 hall p hm)
      obtain ⟨i, zv, hi, hiz, hzr, hzl⟩ := zeroCells_run (ρ := ρ) hz
      have hrow := zeroRow_V hzl (by omega) (n * s)
      obtain ⟨rz, hrz, hV⟩ := fill_V (place' := fun i => some (i * s, s)) (fun i x hx => hx) hPL _ _ cs hrow hfill
      have spec := Dat.ofRows_spec hd
      have hdl : d.len = n := by rw [spec.len, chop_len]
      have hcl : rz.size = cs.length := by rw [← hV.length]; simp
      have hlen2 : cs.length = n * s := by
        have : ∀ (ps : List (Nat × List AV)) (c r : List AV), fillCells (fun i => some (i * s, s)) c ps = some r → r.length = c.length := by
          intro ps
          induction ps with
          | nil => intro c r hr; simp [fillCells] at hr; subst hr; rfl
          | cons p ps ih =>
            intro c r hr
            obtain ⟨i, as⟩ := p
            unfold fillCells at hr
            simp only at hr
            cases hc : (Nat.beq as.length s && Nat.ble (i * s + as.length) c.length) with
            | false => simp [hc] at hr
            | true => simp only [hc, cond_true] at hr; rw [ih _ _ hr, setCells_len]
        rw [this _ _ _ hfill]; simp [zeroRow]
      have hal := hs.alloc (hid id (Nat.le_refl _) (by omega)) d rz e n (by omega) (by simp only [maxLen]; have := Nat.le_mul_of_pos_right n hpos; omega) spec.wf (by rw [hstr]; omega) (by
        intro i hi j av hav
        have hin : i < n := by omega
        rw [spec.row i (by rw [chop_len]; exact hin), chop_get _ _ _ _ hin] at hav
        rw [List.getElem?_take] at hav
        split at hav
        · rw [List.getElem?_drop] at hav
          obtain ⟨c, h1, h2⟩ := hV.get hav
          exact ⟨c, by rw [hstr]; simpa using h1, h2⟩
        · cases hav) (markIn_ok hmi)
      obtain ⟨h1, h2, h3, h4⟩ := hal
      refine Eff.leaf ⟨.slice (some ⟨w.heap.size, 0, none⟩) n n, _, _, ?_, h1, ?_, h2, h3, fun b hb hn => by have := h4 b hb hn; omega⟩
      · unfold Instr.buildSlice
        have hnb : ¬ n * s > 2 ^ 24 := by omega
        by_cases h0 : n * s = 0
        · have e0 : ((Array.range (n * s)).map fun i => zv.cells[i % zv.cells.size]!) = ((Array.range (n * s)).map fun i => (#[] : Array Value)[i % (#[] : Array Value).size]!) := by
            have e1 : Array.range 0 = #[] := by simp
            rw [h0, e1]; simp only [List.map_toArray, List.map_nil]
          simp only [Sem.run_bind, run_und ht, Result.andThen_ok, sizeT_run hs', Sem.run_ite, if_neg hnb, if_pos h0, Sem.run_pure]
          rw [← e0, hrz]
          simp [newRow]
        · simp only [Sem.run_bind, run_und ht, Result.andThen_ok, sizeT_run hs', Sem.run_ite, if_neg hnb, if_neg h0, hzr, Sem.run_pure, hrz]
          simp [newRow]
      · simp only [V]
        exact ⟨_, updF_same _ _ _, by simp [hdl], ⟨some ⟨w.heap.size, 0, none⟩, by simp [hdl], fun _ => by simp [Pos.addr]⟩⟩
end
end Go.Am
