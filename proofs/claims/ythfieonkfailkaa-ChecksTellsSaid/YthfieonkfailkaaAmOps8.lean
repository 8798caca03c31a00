import Derived.Test.YthfieonkfailkaaAmOps7
namespace Go.Am
section
variable {ρ : Rho} {E : Env} {w : World} {h : Heap}

/-- an empty datum needs no place -/
theorem SatH.addEmpty (hs : SatH ρ h w) {id : Nat} (hid : ρ id = none) (d : Dat) (hd : d.len = 0) :
    ρ.le (updF ρ id (some ⟨0, 0, d.stride, 0, 0⟩)) ∧ SatH (updF ρ id (some ⟨0, 0, d.stride, 0, 0⟩)) (updF h id (some ⟨true, d⟩)) w ∧
      Stp (ownB ρ h) (ownB (updF ρ id (some ⟨0, 0, d.stride, 0, 0⟩)) (updF h id (some ⟨true, d⟩))) w w ∧ (∀ b, updF ρ id (some ⟨0, 0, d.stride, 0, 0⟩) b ≠ none → ρ b = none → b = id) := by
  obtain ⟨h1, h2, h3, h4⟩ := hs.add hid ⟨0, 0, d.stride, 0, 0⟩ ⟨true, d⟩ rfl hd.symm (Nat.le_refl _) (Nat.zero_le _) (fun i hi => absurd hi (by show ¬ i < d.len; omega)) (fun i hi => absurd hi (by show ¬ i < d.len; omega)) (fun _ h0 => by simp at h0)
    (fun b y q _ _ _ hl => by rcases hl with ⟨_, h0⟩ | ⟨h0, _⟩ <;> simp at h0)
  refine ⟨h1, h2, ⟨Ext.refl _ _, fun k hk => ?_⟩, h4⟩
  rcases h3 k hk with h5 | ⟨_, h5, _⟩
  · exact .inl h5
  · simp at h5

theorem V_empty {id : Nat} {d : Dat} (a : Option Addr) : V (updF ρ id (some ⟨0, 0, d.stride, 0, 0⟩)) (.slw id) (.slice a 0 0) := by
  simp only [V]
  exact ⟨_, updF_same _ _ _, Nat.le_refl _, a, rfl, fun h => by simp at h⟩

theorem datOf_len (hs : SatH ρ h w) {x : AV} {d : Dat} (hd : datOf h x = some d) {cv : Value} (hv : V ρ x cv) : slLen h x = some d.len := by
  unfold datOf at hd
  split at hd
  · rename_i b
    simp only [Option.map_eq_some_iff] at hd
    obtain ⟨y, hy, rfl⟩ := hd
    simp [slLen, hy]
  · rename_i b i n
    simp only [Option.map_eq_some_iff] at hd
    obtain ⟨y, hy, rfl⟩ := hd
    simp only [V] at hv
    obtain ⟨p, hp, _, hin, _⟩ := hv
    obtain ⟨p', hp', _, e5, _⟩ := hs.pos b y hy
    rw [hp] at hp'; cases hp'
    simp [slLen, (Dat.sub_spec y.dat i n (by omega)).len]
  · cases hd

/-- a marked slice is its whole block -/
theorem datOf_mark {x : AV} {d : Dat} (hd : datOf h x = some d) {b : Nat} (hat : slAt x 0 = some (b, 0)) {y : Blk} (hy : h b = some y) {T : TypeId} (hT : d.mark = some T) : y.dat.mark = some T := by
  unfold datOf at hd
  split at hd
  · rename_i b'
    simp [slAt] at hat; subst hat
    simp only [hy, Option.map_some, Option.some.injEq] at hd
    subst hd; exact hT
  · rename_i b' i n
    simp only [Option.map_eq_some_iff] at hd
    obtain ⟨z, _, rfl⟩ := hd
    rw [Dat.sub_mark] at hT; cases hT
  · cases hd
/-- the rows of a slice from its block's first element on -/
theorem datOf_row (hs : SatH ρ h w) {x : AV} {d : Dat} (hd : datOf h x = some d) {b : Nat} (hat : slAt x 0 = some (b, 0)) {y : Blk} (hy : h b = some y) {cv : Value} (hv : V ρ x cv) :
    d.stride = y.dat.stride ∧ d.len ≤ y.dat.len ∧ ∀ k, k < d.len → d.row k = y.dat.row k := by
  unfold datOf at hd
  split at hd
  · rename_i b'
    simp [slAt] at hat; subst hat
    simp only [hy, Option.map_some, Option.some.injEq] at hd
    subst hd
    exact ⟨rfl, Nat.le_refl _, fun _ _ => rfl⟩
  · rename_i b' i n
    simp [slAt] at hat
    obtain ⟨rfl, rfl⟩ := hat
    simp only [hy, Option.map_some, Option.some.injEq] at hd
    subst hd
    simp only [V] at hv
    obtain ⟨p, hp, _, hin, _⟩ := hv
    obtain ⟨p', hp', _, e5, _⟩ := hs.pos b' y hy
    rw [hp] at hp'; cases hp'
    have sp := Dat.sub_spec y.dat 0 n (by omega)
    exact ⟨sp.stride, by rw [sp.len]; omega, fun k hk => by rw [sp.row k (by rw [sp.len] at hk; exact hk), Nat.zero_add]⟩
  · cases hd

theorem Stp.of_drop {b : Nat} {O' : Nat → Prop} {w' : World} (h3 : Stp (ownB ρ (updF h b none)) O' w.drew w') : Stp (ownB ρ h) O' w w' :=
  ⟨⟨h3.ext.os, h3.ext.tape, h3.ext.output, h3.ext.size, fun k hk hn => h3.ext.block k hk fun hO => hn (ownB_drop hO), fun a ha hn => h3.ext.frozen a ha fun hO => hn (ownB_drop hO)⟩, fun k hk => by
    rcases h3.sub k hk with h5 | h5
    · exact .inl (ownB_drop h5)
    · exact .inr h5⟩
theorem V_grown {id : Nat} {d' : Dat} {n m c g : Nat} (hdl : d'.len = n + m) (hc : n + m ≤ c) : V (updF ρ id (some ⟨g, 0, d'.stride, d'.len, c⟩)) (.slw id) (.slice (some ⟨g, 0, none⟩) (n + m) c) := by
  simp only [V]
  exact ⟨_, updF_same _ _ _, by show d'.len ≤ c; omega, ⟨some ⟨g, 0, none⟩, by simp only [Nat.sub_zero, hdl], fun _ => by simp only [Pos.addr, Nat.zero_mul, Nat.add_zero]⟩⟩
theorem seg_lt {i k s j : Nat} (hi : i < k) (hj : j < s) : i * s + j < k * s := by
  have : (i + 1) * s ≤ k * s := Nat.mul_le_mul_right _ hi
  rw [Nat.add_mul, Nat.one_mul] at this; omega

theorem grown_cells {d0 d d' : Dat} {s : Nat} {olds news : List Value} {y : Value} (zs : Array Value) (spec : AppSpec d0 d d') (hs : d0.stride = s) (hl0 : olds.length = d0.len * s)
    (hr0 : ∀ i, i < d0.len → ∀ j av, (d0.row i)[j]? = some av → ∃ c, olds[i * s + j]? = some c ∧ V ρ av c) (hw0 : d0.WF) (hsrc : Src ρ E.P w y d s news) :
    ∀ i, i < d'.len → ∀ j av, (d'.row i)[j]? = some av → ∃ c, (olds.toArray ++ news.toArray ++ zs)[i * d'.stride + j]? = some c ∧ V ρ av c := by
  intro i hi j av hav
  rw [spec.row i] at hav
  have hst : d'.stride = s := by rw [spec.stride, hs]
  rw [hst]
  have hlen := spec.len
  by_cases h1 : i < d0.len
  · rw [if_pos h1] at hav
    have hj : j < s := by have := (List.getElem?_eq_some_iff.1 hav).1; rw [(hw0 i h1).1, hs] at this; exact this
    obtain ⟨c, hc, hV⟩ := hr0 i h1 j av hav
    refine ⟨c, ?_, hV⟩
    have hlt : i * s + j < olds.length := by rw [hl0]; exact seg_lt h1 hj
    rw [Array.getElem?_append_left (by simp; omega), Array.getElem?_append_left (by simpa using hlt)]
    simpa using hc
  · rw [if_neg h1] at hav
    have hi2 : i - d0.len < d.len := by omega
    have hj : j < s := by have := (List.getElem?_eq_some_iff.1 hav).1; rw [(hsrc.wf _ hi2).1, hsrc.stride] at this; exact this
    obtain ⟨c, hc, hV⟩ := hsrc.row _ hi2 j av hav
    refine ⟨c, ?_, hV⟩
    have e : i * s + j = olds.length + ((i - d0.len) * s + j) := by
      rw [hl0]
      have : i * s = d0.len * s + (i - d0.len) * s := by rw [← Nat.add_mul]; congr 1; omega
      omega
    have hlt2 : (i - d0.len) * s + j < news.length := by rw [hsrc.size]; exact seg_lt hi2 hj
    rw [Array.getElem?_append_left (by simp; omega), Array.getElem?_append_right (by simp; omega)]
    simp only [List.size_toArray, List.getElem?_toArray]
    rw [← hc]; congr 1; omega

set_option maxHeartbeats 1000000 in
theorem appendR_eff (hs : SatH ρ h w) {id : Nat} (hid : ∀ b, id ≤ b → b < id + 64 → ρ b = none) (t u ty : TypeId) (x y : AV) {cx cy : Value} (hx : V ρ x cx) (hy : V ρ y cy)
    (htu : appOk E t u y = true) :
    Eff ρ E.P h w id (appendR E h id t x y) (Builtin.append_ #[t, u] ty #[cx, cy]) := by
  unfold appendR
  split
  rotate_left
  · exact Eff.bad
  rename_i et ht
  split
  · exact Eff.bad
  rename_i d hd
  unfold appSrc at hd
  split
  · exact Eff.bad
  rename_i i hi
  cases hcond : (Nat.beq i.size d.stride && Nat.blt 0 i.size && Nat.ble i.bytes 4096 && (match i.zero with | some z => Nat.beq z.cells.size i.size | none => false)) with
  | false => simp only [cond_false]; exact Eff.bad
  | true =>
  simp only [cond_true]
  simp only [Bool.and_eq_true] at hcond
  obtain ⟨⟨⟨c1, c2⟩, c3⟩, c4⟩ := hcond
  have c1 := Nat.eq_of_beq_eq_true c1
  have c2 : 0 < i.size := Nat.le_of_ble_eq_true c2
  have c3 := Nat.le_of_ble_eq_true c3
  obtain ⟨z, hz, hzs⟩ : ∃ z, i.zero = some z ∧ z.cells.size = i.size := by
    cases hz : i.zero with
    | none => simp [hz] at c4
    | some z => simp [hz] at c4; exact ⟨z, rfl, c4⟩
  -- the source
  have hsrc : ∃ news du, Src ρ E.P w cy d d.stride news ∧ E.P.underlying u = some du ∧ ((∃ e', du = .slice e') ∨ du = .string) := by
    unfold appOk at htu
    cases y with
    | str s =>
      simp only at hd htu
      cases hd
      simp only [V] at hy; subst hy
      obtain ⟨news, hn⟩ := src_str (ρ := ρ) (E := E) (w := w) s
      refine ⟨news, .string, hn, ?_, .inr rfl⟩
      split at htu
      · assumption
      · cases htu
    | nils =>
      simp only [Option.some.injEq] at hd htu
      subst hd
      have htu := of_decide_eq_true htu
      subst htu
      simp only [V] at hy; subst hy
      exact ⟨[], _, src_nil _ _ rfl, ht, .inl ⟨_, rfl⟩⟩
    | slw b =>
      simp only at hd htu
      have htu := of_decide_eq_true htu
      subst htu
      obtain ⟨news, hn⟩ := src_slice (E := E) hs hd hy
      exact ⟨news, _, hn, ht, .inl ⟨_, rfl⟩⟩
    | sl b o n =>
      simp only at hd htu
      have htu := of_decide_eq_true htu
      subst htu
      obtain ⟨news, hn⟩ := src_slice (E := E) hs hd hy
      exact ⟨news, _, hn, ht, .inl ⟨_, rfl⟩⟩
    | _ => simp [datOf] at hd
  obtain ⟨news, du, hsrc, hu, hdu⟩ := hsrc
  rw [← c1] at hsrc
  have hid0 := hid id (Nat.le_refl _) (by omega)
  have hlim : ∀ a b : Nat, a + b ≤ lim → (a + b) * i.bytes ≤ 140737488355328 := by
    intro a b hab
    have : (a + b) * i.bytes ≤ lim * 4096 := Nat.mul_le_mul hab c3
    simp only [lim] at this; omega
  split
  · -- a nil slice
    simp only [V] at hx; subst hx
    cases hmk : markIn et d with
    | false => simp only [cond_false]; exact Eff.bad
    | true =>
    simp only [cond_true]
    refine Eff.node (fun hl => ?_) (fun _ => Eff.bad)
    have hl : d.len ≤ lim := of_decide_eq_true hl
    by_cases h0 : d.len = 0
    · obtain ⟨h1, h2, h3, h4⟩ := hs.addEmpty hid0 d h0
      refine Eff.leaf ⟨.slice none 0 0, w, _, ?_, h1, V_empty none, h2, h3, fun b hb hn => by have := h4 b hb hn; omega⟩
      have := app_room w t u ty et i du ht hu hdu hi none 0 0 0 cy news (by rw [← h0]; exact hsrc.len w) (by rw [← h0]; exact hsrc.cells) (by omega)
      rw [this]; simp
    · have hg := app_grow w t u ty et i z du ht hu hdu hi hz none 0 0 d.len cy [] news (hsrc.len w) hsrc.cells' (by simp [Builtin.firstCells]) (by omega) (by simp only [lim] at hl; omega)
        (growslice_fits (by omega) (hlim 0 d.len (by omega)))
      have hcapge := grownCap_ge w (0 + d.len) 0 et
      have hcaple := grownCap_le_maxLen w (0 + d.len) 0 et (by simp only [lim] at hl; simp only [maxLen]; omega)
      have e0 : Dat.append (d.sub 0 0) d = some d ∨ True := .inr trivial
      obtain ⟨h1, h2, h3, h4⟩ := hs.drew.alloc hid0 d (([] : List Value).toArray ++ news.toArray ++ Builtin.zeroCells z.cells (grownCap w (0 + d.len) 0 et - (0 + d.len))) et (grownCap w (0 + d.len) 0 et) (by omega) hcaple hsrc.wf (by
          simp only [Array.size_append, List.size_toArray, size_zeroCells, hzs, hsrc.size, ← c1, List.length_nil, Nat.zero_add]
          rw [← Nat.add_mul]
          exact Nat.mul_le_mul_right _ (by omega)) (by
          intro k hk j av hav
          have hj : j < i.size := by have := (List.getElem?_eq_some_iff.1 hav).1; rw [(hsrc.wf k hk).1, hsrc.stride] at this; exact this
          obtain ⟨c, hc, hV⟩ := hsrc.row k hk j av hav
          have hlt : k * i.size + j < news.length := by rw [hsrc.size]; exact seg_lt hk hj
          refine ⟨c, ?_, hV⟩
          rw [← c1, Array.getElem?_append_left (by simp; omega)]
          simpa using hc) (markIn_ok hmk)
      refine Eff.leaf ⟨_, _, _, hg, h1, ?_, h2, ⟨⟨h3.ext.os, h3.ext.tape, h3.ext.output, h3.ext.size, h3.ext.block, h3.ext.frozen⟩, h3.sub⟩, fun b hb hn => by have := h4 b hb hn; omega⟩
      simp only [V]
      exact ⟨_, updF_same _ _ _, Nat.le_trans (Nat.le_of_eq (Nat.zero_add _).symm) hcapge, ⟨some ⟨w.heap.size, 0, none⟩, by simp only [Nat.sub_zero, Nat.zero_add], fun _ => by simp only [Pos.addr, World.size_drew, Nat.zero_mul, Nat.add_zero]⟩⟩
  · -- a slice of an own block
    split
    rotate_left
    · exact Eff.bad
    rename_i b hat
    split
    rotate_left
    · exact Eff.bad
    rename_i d0 blk hd0 hblk
    split
    rotate_left
    · exact Eff.bad
    rename_i d' hd'
    cases hownm : (blk.own && markIn et d') with
    | false => simp only [cond_false]; exact Eff.bad
    | true =>
    simp only [cond_true]
    simp only [Bool.and_eq_true] at hownm
    obtain ⟨hown, hmi⟩ := hownm
    refine Eff.node (fun hl => ?_) (fun _ => Eff.bad)
    have hl : d0.len + d.len ≤ lim := of_decide_eq_true hl
    have spec := Dat.append_spec hd'
    have hlen0 := datOf_len hs hd0 hx
    obtain ⟨q1, q2, q3⟩ := datOf_row hs hd0 hat hblk hx
    obtain ⟨p, hp, e1, e2, e3, e4, _, e6, a, rfl, ha⟩ := slAt_V hs hlen0 hat hblk hx
    simp only [Nat.sub_self, Nat.sub_zero, Nat.zero_add] at e6 ha ⊢
    have hst0 : d0.stride = i.size := by rw [← spec.same, ← c1]
    have hw0 : d0.WF := fun k hk => by rw [q3 k hk, q1]; exact hs.wf b blk hblk k (by omega)
    have hwf' := Dat.append_wf hd' hw0 hsrc.wf
    have hdl : d'.len = d0.len + d.len := spec.len
    have hdst : d'.stride = i.size := by rw [spec.stride, hst0]
    have hidb : b ≠ id := fun e => by rw [e, hid0] at hp; cases hp
    show Eff ρ E.P h w id (.leaf (.slw id, [(b, none), (id, some ⟨true, d'⟩)])) _
    obtain ⟨olds, ol, oc, orow, _⟩ := block_cells hs hblk hp 0 d0.len (by omega)
    have hps : p.stride = i.size := by rw [e1, ← q1, hst0]
    have hbs : blk.dat.stride = i.size := by rw [← q1, hst0]
    rw [hbs] at ol orow
    by_cases hroom : d0.len + d.len ≤ p.cap
    · by_cases hc0 : p.cap = 0
      · -- nothing at all
        have h0 : d'.len = 0 := by omega
        obtain ⟨h1, h2, h3, h4⟩ := (hs.drop b).addEmpty hid0 d' h0
        have hr := app_room w t u ty et i du ht hu hdu hi a d0.len p.cap d.len cy news (hsrc.len w) hsrc.cells hroom
        have hn0 : news = [] := List.eq_nil_of_length_eq_zero (by rw [hsrc.size, show d.len = 0 from by omega]; simp)
        refine Eff.leaf ⟨.slice a 0 0, w, _, ?_, h1, V_empty a, h2, ⟨Ext.refl _ _, fun k hk => ?_⟩, fun b hb hn => by have := h4 b hb hn; omega⟩
        · rw [hr, hn0]
          have z1 : d0.len + d.len = 0 := by omega
          rw [z1, hc0]
          cases a <;> simp [storeCells]
        · rcases h3.sub k hk with h5 | h5
          · exact .inl (ownB_drop h5)
          · exact .inr h5
      · -- in place
        have hcap : 0 < p.cap := by omega
        obtain ⟨cs, e, hcs, hsz, hmk0⟩ := hs.own b blk p hblk hown hp hcap
        have hr := app_room w t u ty et i du ht hu hdu hi a d0.len p.cap d.len cy news (hsrc.len w) hsrc.cells hroom
        have hae := ha hcap
        subst hae
        have hmul : d0.len * i.size + d.len * i.size ≤ p.cap * i.size := by rw [← Nat.add_mul]; exact Nat.mul_le_mul_right _ hroom
        rw [hps] at hsz
        have hst := run_storeCells_at E.P p.block (p.off + d0.len * i.size) e news 0 cs w hcs (by rw [hsrc.size]; omega) hsrc.one
        simp only [Nat.add_zero] at hst
        have hadd : (p.addr 0 0).add (d0.len * i.size) = ⟨p.block, p.off + d0.len * i.size, none⟩ := by rw [pos_add]; simp [Pos.addr]
        simp only [hadd, hst, Result.andThen_ok] at hr
        have hgone := hs.row_gone hblk hown hp hcap (cs.toList.take (p.off + d0.len * i.size) ++ news ++ cs.toList.drop (p.off + d0.len * i.size + news.length)).toArray
        generalize hW' : (w.setRow p.block (cs.toList.take (p.off + d0.len * i.size) ++ news ++ cs.toList.drop (p.off + d0.len * i.size + news.length)).toArray) = w' at hgone hr
        have hheap : w'.heap[p.block]? = some (.cells (cs.toList.take (p.off + d0.len * i.size) ++ news ++ cs.toList.drop (p.off + d0.len * i.size + news.length)).toArray e (0, 0)) := by
          rw [← hW']; exact setRow_heap w p.block cs _ e (0, 0) hcs
        have hwsz : w'.heap.size = w.heap.size := by rw [← hW']; simp
        obtain ⟨h1, h2, h3, h4⟩ := hgone.add hid0 ⟨p.block, p.off, i.size, d'.len, p.cap⟩ ⟨true, d'⟩ hdst.symm rfl (by simp only; omega) e4 hwf' (by
            intro k hk j av hav
            have hj : j < i.size := by have := (List.getElem?_eq_some_iff.1 hav).1; rw [(hwf' k hk).1, hdst] at this; exact this
            show ∃ c, w'.cell? ⟨p.block, p.off + k * i.size + j, none⟩ = some c ∧ _
            rw [cell_of_row w' p.block _ _ e (0, 0) hheap]
            have hav : (d'.row k)[j]? = some av := hav
            rw [spec.row k] at hav
            simp only [List.getElem?_toArray]
            rw [List.append_assoc]
            have htl : (List.take (p.off + d0.len * i.size) cs.toList).length = p.off + d0.len * i.size := by simp; omega
            by_cases hk0 : k < d0.len
            · rw [if_pos hk0, q3 k hk0] at hav
              obtain ⟨c, hc, hV⟩ := orow k hk0 j av (by rw [Nat.zero_add]; exact hav)
              have hlt := seg_lt hk0 hj
              refine ⟨c, ?_, hV⟩
              rw [List.getElem?_append_left (by rw [htl]; omega), List.getElem?_take, if_pos (by omega)]
              have := oc _ c hc
              rw [pos_add] at this
              have h9 : w.cell? ⟨p.block, p.off + (k * i.size + j), none⟩ = some c := by simpa [Pos.addr] using this
              rw [cell_of_row w p.block _ cs e (0, 0) hcs] at h9
              rw [Nat.add_assoc]; simpa using h9
            · rw [if_neg hk0] at hav
              have hk' : k < d'.len := hk
              have hk2 : k - d0.len < d.len := by omega
              obtain ⟨c, hc, hV⟩ := hsrc.row _ hk2 j av hav
              have hlt2 : (k - d0.len) * i.size + j < news.length := by rw [hsrc.size]; exact seg_lt hk2 hj
              have ek : k * i.size = d0.len * i.size + (k - d0.len) * i.size := by rw [← Nat.add_mul]; congr 1; omega
              refine ⟨c, ?_, hV⟩
              rw [List.getElem?_append_right (by rw [htl]; omega), htl, List.getElem?_append_left (by omega)]
              rw [← hc]; congr 1; omega)
          (fun _ _ => ⟨_, e, hheap, by
            simp only [List.size_toArray, List.length_append, List.length_take, List.length_drop, Array.length_toList]
            omega, fun T hT => by
              obtain ⟨hm1, hm2⟩ := Dat.append_mark hd' T hT
              have hbd := datOf_mark hd0 hat hblk hm1
              obtain ⟨k1, k2, _⟩ := hmk0 T hbd
              exact ⟨k1, k2, fun hg => by rw [show d'.isGen = true from hg] at hm2; cases hm2⟩⟩)
          (fun c y q hc hq hl _ => by
            have ec : c ≠ b := fun e => by subst e; rw [updF_same] at hc; cases hc
            rw [updF_other _ _ _ ec] at hc
            have := hs.apart b blk p c y q hblk hown hp hcap hc hq (Ne.symm ec) (by rcases hl with h | h; exact .inl h; exact .inr ⟨h.2.2.1, h.2.2.2⟩)
            exact fun e => this e.symm)
        refine Eff.leaf ⟨.slice (some (p.addr 0 0)) (d0.len + d.len) p.cap, w', _, hr, h1, ?_, h2, ⟨⟨?_, ?_, ?_, ?_, ?_, fun a _ _ => by rw [← hW']; exact frozen_setRow w _ _ a⟩, fun k hk => ?_⟩, fun b hb hn => by have := h4 b hb hn; omega⟩
        · simp only [V]
          refine ⟨_, updF_same _ _ _, by simp only; omega, ⟨some (p.addr 0 0), by simp only [Nat.sub_zero, hdl], fun _ => by simp [Pos.addr]⟩⟩
        · rw [← hW']; rfl
        · rw [← hW']; rfl
        · rw [← hW']; rfl
        · omega
        · intro k hk hn
          rw [← hW']
          exact setRow_other w p.block k _ fun e => hn ⟨b, blk, p, hblk, hown, hp, hcap, e.symm⟩
        · rcases h3 k hk with h5 | ⟨_, _, h5⟩
          · exact .inl (ownB_drop h5)
          · exact .inl ⟨b, blk, p, hblk, hown, hp, hcap, h5.symm⟩
    · -- a new row
      have hg := app_grow w t u ty et i z du ht hu hdu hi hz a d0.len p.cap d.len cy olds news (hsrc.len w) hsrc.cells' (by
          by_cases hc0 : 0 < p.cap
          · rw [ha hc0]
            exact run_firstCells_some (P := E.P) w.drew i.size d0.len (p.addr 0 0) d0.len p.cap olds ol (by simpa using oc)
          · have hz0 : d0.len = 0 := by omega
            have : olds = [] := List.eq_nil_of_length_eq_zero (by rw [ol, hz0]; simp)
            rw [hz0, this]
            cases a <;> simp [Builtin.firstCells, loadCells, loadCellsFrom])
        (by omega) (by simp only [lim] at hl; omega) (growslice_fits (by omega) (hlim d0.len d.len hl))
      have hcapge := grownCap_ge w (d0.len + d.len) p.cap et
      have hcaple := grownCap_le_maxLen w (d0.len + d.len) p.cap et (by simp only [lim] at hl; simp only [maxLen]; omega)
      obtain ⟨h1, h2, h3, h4⟩ := (hs.drop b).drew.alloc hid0 d' (olds.toArray ++ news.toArray ++ Builtin.zeroCells z.cells (grownCap w (d0.len + d.len) p.cap et - (d0.len + d.len))) et (grownCap w (d0.len + d.len) p.cap et) (by omega) hcaple hwf' (by
          simp only [Array.size_append, List.size_toArray, size_zeroCells, hzs, hsrc.size, hdst, ol]
          rw [← Nat.add_mul, ← Nat.add_mul]
          exact Nat.mul_le_mul_right _ (by omega))
          (grown_cells _ spec hst0 ol (fun k hk j av hav => orow k hk j av (by rw [Nat.zero_add, ← q3 k hk]; exact hav)) hw0 hsrc) (markIn_ok hmi)
      have hstp : Stp (ownB ρ h) _ w _ := h3.of_drop
      exact Eff.leaf ⟨_, _, _, hg, h1, V_grown hdl hcapge, h2, hstp, fun b hb hn => by have := h4 b hb hn; omega⟩
end
end Go.Am
