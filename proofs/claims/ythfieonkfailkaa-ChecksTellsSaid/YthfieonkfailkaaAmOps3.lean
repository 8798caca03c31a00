import Derived.Test.YthfieonkfailkaaAmOps2
import Derived.Test.YthfieonkfailkaaAmDat
namespace Go.Am
section
variable {ρ : Rho} {E : Env} {w : World} {h : Heap}

theorem pos_add (p : Pos) (i j k : Nat) : (p.addr i j).add k = p.addr i (j + k) := by
  simp [Pos.addr, Addr.add_lit, Nat.add_assoc]

theorem cells_list (hs : SatH ρ h w) {b : Nat} {x : Blk} {p : Pos} (hb : h b = some x) (hp : ρ b = some p) {i : Nat} (hi : i < x.dat.len) (j s : Nat) (hjs : j + s ≤ (x.dat.row i).length) :
    ∃ cs : List Value, cs.length = s ∧ (∀ k v, cs[k]? = some v → w.cell? ((p.addr i j).add k) = some v) ∧ VL ρ (((x.dat.row i).drop j).take s) cs := by
  refine ⟨(List.range s).map fun k => (w.cell? (p.addr i (j + k))).getD undef, by simp, ?_, ?_⟩
  · intro k v hk
    simp only [List.getElem?_map, Option.map_eq_some_iff] at hk
    obtain ⟨k', hk', rfl⟩ := hk
    have hks : k < s ∧ k' = k := by
      have := List.getElem?_eq_some_iff.1 hk'
      obtain ⟨h1, h2⟩ := this
      simp at h1 h2
      exact ⟨h1, h2.symm⟩
    obtain ⟨hks, rfl⟩ := hks
    have hlt : j + k' < (x.dat.row i).length := by omega
    obtain ⟨c, hc, hv⟩ := hs.cells b x p hb hp i hi (j + k') _ (List.getElem?_eq_getElem hlt)
    rw [pos_add, hc]; rfl
  · refine VL.of_get (by simp; omega) fun k a v ha hv => ?_
    rw [List.getElem?_take] at ha
    split at ha
    · rename_i hks
      rw [List.getElem?_drop] at ha
      obtain ⟨c, hc, hV⟩ := hs.cells b x p hb hp i hi (j + k) a ha
      simp only [List.getElem?_map, Option.map_eq_some_iff] at hv
      obtain ⟨k', hk', rfl⟩ := hv
      have : k' = k := by
        have := List.getElem?_eq_some_iff.1 hk'
        obtain ⟨h1, h2⟩ := this
        simpa using h2.symm
      subst this
      rw [hc]; exact hV
    · cases ha

theorem loadR_pure (hs : SatH ρ h w) (t : TypeId) (a : AV) {ca : Value} (ha : V ρ a ca) : Pure ρ E.P w (loadR E h t a) (Instr.loadAt t ca) := by
  unfold loadR
  split
  · rename_i b i j
    split
    · rename_i x hx
      refine Pure.node (fun hi => ?_) (fun _ => Pure.bad)
      have hi : i < x.dat.len := of_decide_eq_true hi
      refine Pure.opt fun v hv => ?_
      simp only [V] at ha
      obtain ⟨p, hp, rfl⟩ := ha
      unfold partOf at hv
      split at hv
      · cases hv
      rename_i d hd
      have hagg := run_isAgg_of hd w
      cases hda : descAgg d with
      | true =>
        rw [hda] at hagg
        simp only [hda, cond_true] at hv
        split at hv
        · rename_i s hsz
          cases hble : Nat.ble (j + s) (x.dat.row i).length with
          | false => simp [hble] at hv
          | true =>
            simp [hble] at hv; subst hv
            obtain ⟨cs, hl, hc, hV⟩ := cells_list hs hx hp hi j s (Nat.le_of_ble_eq_true hble)
            refine ⟨.agg cs.toArray, ?_, ?_⟩
            · have hr := run_loadCells_list (P := E.P) w (p.addr i j) cs hc
              rw [hl] at hr
              simp [Instr.loadAt, Instr.sureAddr, loadVar, hagg, sizeT_run hsz, hr]
            · simp only [V]; exact ⟨_, rfl, hV⟩
        · cases hv
      | false =>
        rw [hda] at hagg
        simp only [hda, cond_false] at hv
        obtain ⟨c, hc, hV⟩ := hs.cells b x p hx hp i hi j v hv
        exact ⟨c, by simp [Instr.loadAt, Instr.sureAddr, loadVar, hagg, hc], hV⟩
    · exact Pure.bad
  · exact Pure.bad

theorem slLen_V (hs : SatH ρ h w) {x : AV} {n : Nat} (hn : slLen h x = some n) {cv : Value} (hv : V ρ x cv) : ∃ a c, cv = .slice a n c ∧ n ≤ c := by
  unfold slLen at hn
  split at hn
  · rename_i b
    simp only [Option.map_eq_some_iff] at hn
    obtain ⟨y, hy, rfl⟩ := hn
    simp only [V] at hv
    obtain ⟨p, hp, hc, a, rfl, _⟩ := hv
    obtain ⟨p', hp', _, h2, _⟩ := hs.pos b y hy
    rw [hp] at hp'; cases hp'
    exact ⟨a, _, by rw [h2], by omega⟩
  · cases hn
    simp only [V] at hv
    obtain ⟨p, hp, hc, hl, a, rfl, _⟩ := hv
    exact ⟨a, _, rfl, by omega⟩
  · cases hn; simp only [V] at hv; exact ⟨none, 0, hv, Nat.le_refl _⟩
  · cases hn

/-- a slice with an element at i: where it lies -/
theorem slAt_V (hs : SatH ρ h w) {x : AV} {n i b e : Nat} {y : Blk} (hn : slLen h x = some n) (hat : slAt x i = some (b, e)) (hy : h b = some y) {cv : Value} (hv : V ρ x cv) :
    ∃ p, ρ b = some p ∧ p.stride = y.dat.stride ∧ p.len = y.dat.len ∧ p.len ≤ p.cap ∧ p.cap ≤ maxLen ∧ e = (e - i) + i ∧ (e - i) + n ≤ p.len ∧ SlV p (e - i) n cv := by
  unfold slAt at hat
  split at hat
  · rename_i b'
    cases hat
    simp only [V] at hv
    obtain ⟨p, hp, hc, hsl⟩ := hv
    obtain ⟨p', hp', h1, h2, h3, h4⟩ := hs.pos b y hy
    rw [hp] at hp'; cases hp'
    simp only [slLen, hy, Option.map_some, Option.some.injEq] at hn
    subst hn
    simp only [Nat.sub_self, Nat.zero_add, true_and]
    refine ⟨p, hp, h1, h2, h3, h4, by omega, ?_⟩
    rw [← h2]; exact hsl
  · rename_i b' o n'
    cases hat
    simp only [V] at hv
    obtain ⟨p, hp, hc, hl, hsl⟩ := hv
    obtain ⟨p', hp', h1, h2, h3, h4⟩ := hs.pos b y hy
    rw [hp] at hp'; cases hp'
    simp only [slLen, Option.some.injEq] at hn
    subst hn
    exact ⟨p, hp, h1, h2, h3, h4, by omega, by omega, by simpa using hsl⟩
  · cases hat

theorem asInt_run (k : IntKind) (n : Int) (w : World) : (asIntOf (.int k n)).run E.P w = .ok (k, n) w := rfl

theorem indexAddrR_pure (hs : SatH ρ h w) (t : TypeId) (x ix : AV) {cx ci : Value} (hx : V ρ x cx) (hi : V ρ ix ci) : Pure ρ E.P w (indexAddrR E h t x ix) (Instr.indexAt t cx ci) := by
  unfold indexAddrR
  split
  · rename_i k i
    simp only [V] at hi; subst hi
    split
    · rename_i n et ht
      split
      · rename_i b e j
        split
        · rename_i s hsz
          refine Pure.node (fun hc => ?_) (fun _ => Pure.bad)
          have hc : 0 ≤ i ∧ i < (n : Int) := of_decide_eq_true hc
          simp only [V] at hx
          obtain ⟨p, hp, rfl⟩ := hx
          refine Pure.leaf (cv := .pointer (some (p.addr e (j + i.toNat * s)))) ?_ (by simp only [V]; exact ⟨p, hp, rfl⟩)
          simp [Instr.indexAt, asInt_run, run_und ht, Instr.sureAddr, hc, sizeT_run hsz, pos_add]
        · exact Pure.bad
      · exact Pure.bad
    · rename_i et ht
      split
      · rename_i n hn
        split
        · rename_i b e hat
          split
          · rename_i blk hblk
            by_cases hsz : sizeT E et = some blk.dat.stride
            · simp only [hsz, decide_true, cond_true]
              refine Pure.node (fun hc => ?_) (fun _ => Pure.bad)
              have hc : 0 ≤ i ∧ i < (n : Int) := of_decide_eq_true hc
              obtain ⟨p, hp, h1, h2, h3, h4, h5, h6, a, rfl, ha⟩ := slAt_V hs hn hat hblk hx
              have hin : i.toNat < n := by omega
              have ha' := ha (by omega)
              subst ha'
              refine Pure.leaf (cv := .pointer (some (p.addr e 0))) ?_ (by simp only [V]; exact ⟨p, hp, rfl⟩)
              have hadd : (p.addr (e - i.toNat) 0).add (i.toNat * blk.dat.stride) = p.addr e 0 := by
                have e1 : e * p.stride = (e - i.toNat) * p.stride + i.toNat * p.stride := by rw [← Nat.add_mul]; congr 1
                rw [pos_add, Pos.addr, Pos.addr, ← h1, e1]
                simp [Nat.add_assoc]
              simp [Instr.indexAt, asInt_run, run_und ht, hc, sizeT_run hsz, hadd]
            · simp only [hsz, decide_false, cond_false]; exact Pure.bad
          · exact Pure.bad
        · exact Pure.bad
      · exact Pure.bad
    · exact Pure.bad
  · exact Pure.bad

theorem indexR_pure (t : TypeId) (x ix : AV) {cx ci : Value} (hx : V ρ x cx) (hi : V ρ ix ci) : Pure ρ E.P w (indexR E t x ix) (Instr.index t cx ci) := by
  unfold indexR
  split
  · rename_i k i
    simp only [V] at hi; subst hi
    split
    · rename_i ht
      split
      · rename_i s
        refine Pure.node (fun hc => ?_) (fun _ => Pure.bad)
        have hc : 0 ≤ i ∧ i < (s.length : Int) := of_decide_eq_true hc
        simp only [V] at hx; subst hx
        refine Pure.leaf (cv := .int .u8 (s.getD i.toNat 0).toNat) ?_ (by simp only [V])
        have hlt : i.toNat < s.length := by omega
        have e : (⟨s.toArray⟩ : ByteArray)[i.toNat]? = some (s.getD i.toNat 0) := by
          show (if h : i.toNat < (⟨s.toArray⟩ : ByteArray).size then some ((⟨s.toArray⟩ : ByteArray)[i.toNat]'h) else none) = _
          rw [dif_pos (by simpa [size_mk] using hlt)]
          simp [List.getD, hlt]
          rfl
        simp [Instr.index, asInt_run, run_und ht, hc.1, e]
      · exact Pure.bad
    · rename_i n e ht
      split
      · rename_i cs
        split
        · rename_i s hsz
          refine Pure.node (fun hc => ?_) (fun _ => Pure.bad)
          have hc : 0 ≤ i ∧ i < (n : Int) := of_decide_eq_true hc
          refine Pure.opt fun v hv => ?_
          simp only [V] at hx
          obtain ⟨vs, rfl, hl⟩ := hx
          obtain ⟨cv, hr, hV⟩ := partOf_run hv hl w
          exact ⟨cv, by simp [Instr.index, asInt_run, run_und ht, hc, sizeT_run hsz, hr], hV⟩
        · exact Pure.bad
      · exact Pure.bad
    · exact Pure.bad
  · exact Pure.bad
end
end Go.Am
