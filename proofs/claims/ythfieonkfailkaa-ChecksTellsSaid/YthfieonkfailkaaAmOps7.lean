import Derived.Test.YthfieonkfailkaaAmOps6
namespace Go.Am
section
variable {P : Program} (w : World)

/-- append within the capacity -/
theorem app_room (t u ty e : TypeId) (i : TypeInfo) (du : TypeDesc) (ht : P.underlying t = some (.slice e)) (hu : P.underlying u = some du) (hdu : (∃ e', du = .slice e') ∨ du = .string) (hi : P.info? e = some i)
    (base : Option Addr) (n c m : Nat) (y : Value) (news : List Value) (hl : (Builtin.lenOf y).run P w = .ok m w) (hn : (Builtin.firstCells i.size m y).run P w = .ok news.toArray w) (hroom : n + m ≤ c) :
    (Builtin.append_ #[t, u] ty #[.slice base n c, y]).run P w =
      ((match base with | some a => storeCells (a.add (n * i.size)) news | none => pure () : Sem Unit).run P w).andThen fun _ w' => .ok (.slice base (n + m) c) w' := by
  rcases hdu with ⟨e', rfl⟩ | rfl
  · cases base <;> simp [Builtin.append_, run_und ht, run_und hu, sizeOf, typeInfo, hi, hl, hroom, hn]
  · cases base <;> simp [Builtin.append_, run_und ht, run_und hu, sizeOf, typeInfo, hi, hl, hroom, hn]

/-- append beyond the capacity -/
theorem app_grow (t u ty e : TypeId) (i : TypeInfo) (z : Value) (du : TypeDesc) (ht : P.underlying t = some (.slice e)) (hu : P.underlying u = some du) (hdu : (∃ e', du = .slice e') ∨ du = .string) (hi : P.info? e = some i) (hz : i.zero = some z)
    (base : Option Addr) (n c m : Nat) (y : Value) (olds news : List Value) (hl : (Builtin.lenOf y).run P w = .ok m w) (hn : (Builtin.firstCells i.size m y).run P w.drew = .ok news.toArray w.drew)
    (ho : (Builtin.firstCells i.size n (.slice base n c)).run P w.drew = .ok olds.toArray w.drew)
    (hg : c < n + m) (h63 : n + m ≤ 9223372036854775807) (hfit : Builtin.nextslicecap (n + m) c * i.bytes ≤ 281474976710656) :
    (Builtin.append_ #[t, u] ty #[.slice base n c, y]).run P w =
      .ok (.slice (some ⟨w.heap.size, 0, none⟩) (n + m) (grownCap w (n + m) c e)) (w.drew.alloc (.cells (olds.toArray ++ news.toArray ++ Builtin.zeroCells z.cells (grownCap w (n + m) c e - (n + m))) e)) := by
  have hroom : ¬ (n + m ≤ c) := by omega
  have h63' : ¬ ((9223372036854775807 : Int) < ((n : Int) + (m : Int))) := by omega
  have h48' : ¬ (281474976710656 < Builtin.nextslicecap (n + m) c * i.bytes) := by omega
  have ho' : (Builtin.firstCells i.size n (.slice base n c)).run P w.drew = .ok olds.toArray w.drew := ho
  rcases hdu with ⟨e', rfl⟩ | rfl
  · simp [Builtin.append_, run_und ht, run_und hu, sizeOf, typeInfo, zeroValue, hi, hz, hl, hroom, h63', h48', Question.forced, hn, ho', newRow, grownCap]
    congr 2
    apply Array.ext'
    simp
  · simp [Builtin.append_, run_und ht, run_und hu, sizeOf, typeInfo, zeroValue, hi, hz, hl, hroom, h63', h48', Question.forced, hn, ho', newRow, grownCap]
    congr 2
    apply Array.ext'
    simp

end

section
variable {ρ : Rho} {E : Env} {w : World} {h : Heap}

/-- the source of an append, in the machine's words -/
structure Src (ρ : Rho) (P : Program) (w : World) (y : Value) (d : Dat) (s : Nat) (news : List Value) : Prop where
  len : ∀ w', (Builtin.lenOf y).run P w' = .ok d.len w'
  cells : (Builtin.firstCells s d.len y).run P w = .ok news.toArray w
  cells' : (Builtin.firstCells s d.len y).run P w.drew = .ok news.toArray w.drew
  size : news.length = d.len * s
  row : ∀ i, i < d.len → ∀ j av, (d.row i)[j]? = some av → ∃ c, news[i * s + j]? = some c ∧ V ρ av c
  one : ∀ v ∈ news, v.oneCell' = true
  wf : d.WF
  stride : d.stride = s

theorem lenOf_slice {P : Program} (a : Option Addr) (n c : Nat) (w : World) : (Builtin.lenOf (.slice a n c)).run P w = .ok n w := rfl
theorem divmod {s i j : Nat} (hj : j < s) : (i * s + j) / s = i ∧ (i * s + j) % s = j := by
  have hs : 0 < s := by omega
  constructor
  · rw [Nat.add_comm, Nat.add_mul_div_right _ _ hs, Nat.div_eq_of_lt hj, Nat.zero_add]
  · rw [Nat.add_comm, Nat.add_mul_mod_self_right, Nat.mod_eq_of_lt hj]

/-- the cells of elements i .. i + n - 1 of a block -/
theorem block_cells (hs : SatH ρ h w) {b : Nat} {x : Blk} {p : Pos} (hb : h b = some x) (hp : ρ b = some p) (i n : Nat) (hin : i + n ≤ x.dat.len) :
    ∃ cs : List Value, cs.length = n * x.dat.stride ∧ (∀ k v, cs[k]? = some v → w.cell? ((p.addr i 0).add k) = some v) ∧
      (∀ e, e < n → ∀ j av, (x.dat.row (i + e))[j]? = some av → ∃ c, cs[e * x.dat.stride + j]? = some c ∧ V ρ av c) ∧ (∀ v ∈ cs, v.oneCell' = true) := by
  obtain ⟨p', hp', e1, e2, _⟩ := hs.pos b x hb
  rw [hp] at hp'; cases hp'
  generalize hst : x.dat.stride = s at *
  have cell : ∀ k, k < n * s → ∃ c av, w.cell? ((p.addr i 0).add k) = some c ∧ (x.dat.row (i + k / s))[k % s]? = some av ∧ V ρ av c ∧ av.isCell = true := by
    intro k hk
    have hs0 : 0 < s := by rcases Nat.eq_zero_or_pos s with h | h; subst h; simp at hk; exact h
    have hd : k / s < n := (Nat.div_lt_iff_lt_mul hs0).2 hk
    have hm : k % s < s := Nat.mod_lt _ hs0
    have hwf := hs.wf b x hb (i + k / s) (by omega)
    have hlt : k % s < (x.dat.row (i + k / s)).length := by rw [hwf.1, hst]; exact hm
    obtain ⟨c, hc, hV⟩ := hs.cells b x p hb hp (i + k / s) (by omega) (k % s) _ (List.getElem?_eq_getElem hlt)
    refine ⟨c, _, ?_, List.getElem?_eq_getElem hlt, hV, List.all_eq_true.1 hwf.2 _ (List.getElem_mem hlt)⟩
    rw [← hc, pos_add]
    congr 1
    simp only [Pos.addr, Addr.mk.injEq, and_true, true_and, Nat.zero_add]
    have : k = k / s * s + k % s := by rw [Nat.mul_comm]; exact (Nat.div_add_mod k s).symm
    rw [e1, Nat.add_mul]
    omega
  refine ⟨(List.range (n * s)).map fun k => (w.cell? ((p.addr i 0).add k)).getD undef, by simp, ?_, ?_, ?_⟩
  · intro k v hk
    simp only [List.getElem?_map, Option.map_eq_some_iff] at hk
    obtain ⟨k', hk', rfl⟩ := hk
    obtain ⟨h1, h2⟩ := List.getElem?_eq_some_iff.1 hk'
    have e : k' = k := by simpa using h2.symm
    subst e
    obtain ⟨c, av, hc, _⟩ := cell k' (by simpa using h1)
    rw [hc]; rfl
  · intro e he j av hav
    have hwf := hs.wf b x hb (i + e) (by omega)
    have hj : j < s := by have := (List.getElem?_eq_some_iff.1 hav).1; rw [hwf.1, hst] at this; exact this
    have hk : e * s + j < n * s := by have : (e + 1) * s ≤ n * s := Nat.mul_le_mul_right _ he; rw [Nat.add_mul, Nat.one_mul] at this; omega
    obtain ⟨c, av', hc, hrow, hV, _⟩ := cell (e * s + j) hk
    rw [(divmod hj).1, (divmod hj).2, hav] at hrow
    cases hrow
    exact ⟨c, by simp [hk, hc], hV⟩
  · intro v hv
    simp only [List.mem_map, List.mem_range] at hv
    obtain ⟨k, hk, rfl⟩ := hv
    obtain ⟨c, av, hc, _, hV, hcell⟩ := cell k hk
    rw [hc]; exact isCell_one hcell hV

theorem src_slice (hs : SatH ρ h w) {y : AV} {d : Dat} (hd : datOf h y = some d) {cv : Value} (hv : V ρ y cv) : ∃ news, Src ρ E.P w cv d d.stride news := by
  have main : ∀ (b i n : Nat) (x : Blk) (p : Pos), h b = some x → ρ b = some p → i + n ≤ x.dat.len → d.stride = x.dat.stride → d.len = n → (∀ k, k < n → d.row k = x.dat.row (i + k)) → SlV p i n cv → ∃ news, Src ρ E.P w cv d d.stride news := by
    intro b i n x p hx hp hin e1 e2 e3 hsl
    obtain ⟨p', hp', e4, e5, e6, _⟩ := hs.pos b x hx
    rw [hp] at hp'; cases hp'
    obtain ⟨a, rfl, ha⟩ := hsl
    obtain ⟨cs, hl, hc, hrow, hone⟩ := block_cells hs hx hp i n hin
    have fc : ∀ w', (∀ k v, cs[k]? = some v → w'.cell? ((p.addr i 0).add k) = some v) → (Builtin.firstCells d.stride d.len (.slice a n (p.cap - i))).run E.P w' = .ok cs.toArray w' := by
      intro w' hc'
      rw [e2]
      by_cases hlt : i < p.cap
      · rw [ha hlt]
        exact run_firstCells_some (P := E.P) w' d.stride n (p.addr i 0) n (p.cap - i) cs (by rw [hl, e1]) hc'
      · have hn0 : n = 0 := by omega
        subst hn0
        have : cs = [] := List.eq_nil_of_length_eq_zero (by simpa using hl)
        subst this
        cases a with
        | none => simp [Builtin.firstCells]
        | some a => simp [Builtin.firstCells, loadCells, loadCellsFrom]
    exact ⟨cs, ⟨fun w' => by rw [e2]; rfl, fc w hc, fc w.drew (by simpa using hc), by rw [hl, e2, e1], fun k hk j av hav => by
      rw [e3 k (by omega)] at hav
      obtain ⟨c, h1, h2⟩ := hrow k (by omega) j av hav
      exact ⟨c, by rw [e1]; exact h1, h2⟩, hone, fun k hk => by
        rw [e3 k (by omega), e1]; exact hs.wf b x hx _ (by omega), rfl⟩⟩
  unfold datOf at hd
  split at hd
  · rename_i b
    simp only [Option.map_eq_some_iff] at hd
    obtain ⟨x, hx, rfl⟩ := hd
    simp only [V] at hv
    obtain ⟨p, hp, hc, hsl⟩ := hv
    obtain ⟨p', hp', e4, e5, e6, _⟩ := hs.pos b x hx
    rw [hp] at hp'; cases hp'
    exact main b 0 x.dat.len x p hx hp (by omega) rfl rfl (fun k _ => by rw [Nat.zero_add]) (by rw [← e5]; exact hsl)
  · rename_i b i n
    simp only [Option.map_eq_some_iff] at hd
    obtain ⟨x, hx, rfl⟩ := hd
    simp only [V] at hv
    obtain ⟨p, hp, hc, hin, hsl⟩ := hv
    obtain ⟨p', hp', e4, e5, e6, _⟩ := hs.pos b x hx
    rw [hp] at hp'; cases hp'
    have sp := Dat.sub_spec x.dat i n (by omega)
    exact main b i n x p hx hp (by omega) sp.stride sp.len sp.row hsl
  · cases hd

theorem src_str (s : List UInt8) : ∃ news, Src ρ E.P w (.string ⟨s.toArray⟩) (.ints .u8 (s.map fun (c : UInt8) => (c.toNat : Int))) 1 news := by
  have hl : (Dat.ints IntKind.u8 (s.map fun (c : UInt8) => (c.toNat : Int))).len = s.length := by simp [Dat.len]
  have fc : ∀ w', (Builtin.firstCells 1 s.length (.string ⟨s.toArray⟩)).run E.P w' = .ok (s.map fun (b : UInt8) => Value.int .u8 (b.toNat : Int)).toArray w' := by
    intro w'
    simp only [Builtin.firstCells, extract_mk, Sem.run_pure]
    congr 1
    simp
  refine ⟨s.map fun (b : UInt8) => .int .u8 (b.toNat : Int), ⟨fun w' => by rw [hl]; rfl, by rw [hl]; exact fc w, by rw [hl]; exact fc w.drew, by simp [hl], fun i hi j av hav => ?_, ?_, Dat.wf_typed _ (by intro s l; simp), rfl⟩⟩
  · rw [hl] at hi
    have : j = 0 := by have := (List.getElem?_eq_some_iff.1 hav).1; simpa [Dat.row] using this
    subst this
    simp [Dat.row] at hav
    refine ⟨.int .u8 (s[i].toNat : Int), by simp [hi], ?_⟩
    subst hav
    simp [V, hi]
  · intro v hv
    simp only [List.mem_map] at hv
    obtain ⟨b, _, rfl⟩ := hv
    rfl
theorem src_nil (k : DK) (s : Nat) (hk : (Dat.empty k).stride = s) : Src ρ E.P w (.slice none 0 0) (Dat.empty k) s [] := by
  have hl : (Dat.empty k).len = 0 := by cases k <;> rfl
  refine ⟨fun w' => by rw [hl]; rfl, by rw [hl]; simp [Builtin.firstCells], by rw [hl]; simp [Builtin.firstCells], by simp [hl], (fun i hi => by omega), (fun v hv => by cases hv), (fun i hi => by omega), hk⟩
end
end Go.Am
