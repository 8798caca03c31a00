/-
  AM3: what is told of a state is true of its world.
-/
import Derived.Test.YthfieonkfailkaaAmCfg
namespace Go.Am

def Live (p : Pos) : Prop := 0 < p.len ∧ 0 < p.stride
def OwnCell (w : World) (p : Pos) : Prop := ∃ cs e, w.heap[p.block]? = some (.cells cs e (0, 0)) ∧ p.off + p.cap * p.stride ≤ cs.size
/-- a datum lies at a place, its values told by ρ -/
structure RdP (ρ : Rho) (w : World) (d : Dat) (p : Pos) : Prop where
  stride : p.stride = d.stride
  len : p.len = d.len
  cap : p.len ≤ p.cap
  max : p.cap ≤ maxLen
  wf : ∀ i, i < d.len → (d.row i).length = d.stride ∧ (d.row i).all AV.isCell = true
  cells : ∀ i, i < d.len → ∀ j av, (d.row i)[j]? = some av → ∃ c, w.cell? (p.addr i j) = some c ∧ V ρ av c
/-- a window of a place -/
def Pos.win (p : Pos) (i n : Nat) : Pos := ⟨p.block, p.off + i * p.stride, p.stride, n, p.cap - i⟩
theorem Pos.win_zero (p : Pos) : p.win 0 p.len = p := by simp [Pos.win]
/-- where a told block lies -/
def place (ρ : Rho) (e : Ent) : Option Pos := match e.src with
  | none => some ⟨0, 0, e.blk.dat.stride, 0, 0⟩
  | some b => (ρ b).map fun p => p.win e.i e.blk.dat.len
def Agree (ρ ρ' : Rho) (es : List Ent) : Prop := ∀ k e, es[k]? = some e → ∃ p, place ρ e = some p ∧ ρ' k = some p
theorem Agree.pre {ρ ρ' : Rho} {es es' : List Ent} (h : Agree ρ ρ' es') (hp : es <+: es') : Agree ρ ρ' es := by
  obtain ⟨t, rfl⟩ := hp
  exact fun k e hk => h k e (by rw [List.getElem?_append_left (List.getElem?_eq_some_iff.1 hk).1]; exact hk)

theorem Agree.last {ρ ρ' : Rho} {es : List Ent} {e : Ent} (h : Agree ρ ρ' (es ++ [e])) : ∃ p, place ρ e = some p ∧ ρ' es.length = some p := h es.length e (by simp)

section
variable {E : Env} {ρ ρ' : Rho} {h : Heap} {w : World} {fl : Fl}

theorem SatH.rdP (hs : SatH ρ h w) {b : Nat} {x : Blk} {p : Pos} (hb : h b = some x) (hp : ρ b = some p) : RdP ρ w x.dat p := by
  obtain ⟨p', hp', h1, h2, h3, h4⟩ := hs.pos b x hb
  rw [hp] at hp'; cases hp'
  exact ⟨h1, h2, h3, h4, hs.wf b x hb, hs.cells b x p hb hp⟩
theorem RdP.sub {d : Dat} {p : Pos} (hd : RdP ρ w d p) (i n : Nat) (hin : i + n ≤ d.len) : RdP ρ w (d.sub i n) (p.win i n) := by
  have sp := Dat.sub_spec d i n hin
  refine ⟨by rw [sp.stride]; exact hd.stride, sp.len.symm, by have := hd.cap; have := hd.len; simp only [Pos.win]; omega, by have := hd.max; simp only [Pos.win]; omega, fun k hk => ?_, fun k hk j av hav => ?_⟩
  · rw [sp.len] at hk; rw [sp.row k hk, sp.stride]; exact hd.wf _ (by omega)
  · rw [sp.len] at hk
    rw [sp.row k hk] at hav
    obtain ⟨c, hc, hv⟩ := hd.cells (i + k) (by omega) j av hav
    refine ⟨c, ?_, hv⟩
    rw [← hc]
    simp only [Pos.addr, Pos.win]
    congr 2
    rw [Nat.add_mul]; omega
theorem RdP.mono {d : Dat} {p : Pos} (hd : RdP ρ w d p) (hv : ∀ (i : Nat), i < d.len → ∀ (j : Nat) (av : AV), (d.row i)[j]? = some av → ∀ c, V ρ av c → V ρ' av c) : RdP ρ' w d p :=
  ⟨hd.stride, hd.len, hd.cap, hd.max, hd.wf, fun i hi j av hav => by
    obtain ⟨c, hc, h⟩ := hd.cells i hi j av hav
    exact ⟨c, hc, hv i hi j av hav c h⟩⟩

/-- what an entry says -/
def EntRd (ρ : Rho) (h : Heap) (w : World) (e : Ent) : Prop :=
  ∃ p, place ρ e = some p ∧ RdP ρ w e.blk.dat p ∧ match e.src with
    | none => p.cap = 0
    | some b => ∃ x q, h b = some x ∧ ρ b = some q ∧ p.block = q.block ∧ p.off + p.cap * p.stride ≤ q.off + q.cap * q.stride ∧ p.cap ≤ q.cap ∧ (Live p → Live q) ∧ (e.box = true → p = q) ∧ (∀ T, e.blk.dat.mark = some T → p = q ∧ x.dat.mark = some T ∧ e.blk.dat.isGen = x.dat.isGen)
/-- the told entries, and that they grow -/
structure Vis (ρ : Rho) (h : Heap) (w : World) (es es' : List Ent) : Prop where
  pre : es <+: es'
  rd : ∀ e ∈ es', e ∈ es ∨ EntRd ρ h w e
theorem Vis.refl (es : List Ent) : Vis ρ h w es es := ⟨List.prefix_refl _, fun _ h => .inl h⟩
theorem Vis.trans {a b c : List Ent} (h1 : Vis ρ h w a b) (h2 : Vis ρ h w b c) : Vis ρ h w a c :=
  ⟨h1.pre.trans h2.pre, fun e he => (h2.rd e he).elim (h1.rd e) .inr⟩
theorem Vis.add {es : List Ent} {e : Ent} (he : EntRd ρ h w e) : Vis ρ h w es (es ++ [e]) :=
  ⟨List.prefix_append _ _, fun x hx => by
    rcases List.mem_append.1 hx with h | h
    · exact .inl h
    · simp only [List.mem_singleton] at h; subst h; exact .inr he⟩

theorem entRd_whole (hs : SatH ρ h w) {b : Nat} {x : Blk} (hb : h b = some x) {box o : Bool} : EntRd ρ h w ⟨some b, 0, box, ⟨o, x.dat⟩⟩ := by
  obtain ⟨p, hp, h1, h2, _⟩ := hs.pos b x hb
  have hw : p.win 0 x.dat.len = p := by rw [← h2]; exact p.win_zero
  exact ⟨p, by simp only [place, hp, Option.map_some, hw], (hs.rdP hb hp : RdP ρ w x.dat p), x, p, hb, hp, rfl, Nat.le_refl _, Nat.le_refl _, id, fun _ => rfl, fun T hT => ⟨rfl, hT, rfl⟩⟩
theorem entRd_win (hs : SatH ρ h w) {b i n : Nat} {x : Blk} (hb : h b = some x) {p : Pos} (hp : ρ b = some p) (hc : p.len ≤ p.cap) (hin : i + n ≤ p.len) {o : Bool} : EntRd ρ h w ⟨some b, i, false, ⟨o, x.dat.sub i n⟩⟩ := by
  have hd := hs.rdP hb hp
  have hl := hd.len
  have hsub := hd.sub i n (by omega)
  have sp := Dat.sub_spec x.dat i n (by omega)
  refine ⟨p.win i n, by simp only [place, hp, Option.map_some, sp.len], hsub, x, p, hb, hp, rfl, ?_, by simp only [Pos.win]; omega, fun hl => ⟨by have := hl.1; simp only [Pos.win] at this; omega, hl.2⟩, (fun h => by cases h), fun T hT => by rw [Dat.sub_mark] at hT; cases hT⟩
  simp only [Pos.win]
  have : i * p.stride + (p.cap - i) * p.stride = p.cap * p.stride := by rw [← Nat.add_mul]; congr 1; omega
  omega
theorem empty_len (k : DK) : (Dat.empty k).len = 0 := by cases k <;> rfl
theorem entRd_nil {k : DK} {o : Bool} : EntRd ρ h w ⟨none, 0, false, ⟨o, Dat.empty k⟩⟩ :=
  ⟨_, rfl, ⟨rfl, (empty_len k).symm, Nat.le_refl _, Nat.zero_le _, fun i hi => by rw [empty_len] at hi; omega, fun i hi => by rw [empty_len] at hi; omega⟩, rfl⟩

theorem boxAt_spec {b : Nat} : ∀ {es : List Ent} {i k : Nat}, boxAt b es i = some k → i ≤ k ∧ ∃ e, es[k - i]? = some e ∧ e.box = true ∧ e.src = some b
  | [], i, k, hk => by simp [boxAt] at hk
  | e :: r, i, k, hk => by
    unfold boxAt at hk
    cases hc : (e.box && srcIs b e.src) with
    | true =>
      rw [hc, cond_true, Option.some.injEq] at hk
      subst hk
      simp only [Bool.and_eq_true] at hc
      refine ⟨Nat.le_refl _, e, by simp, hc.1, ?_⟩
      have := hc.2
      unfold srcIs at this
      split at this
      · rename_i c hsrc; rw [hsrc, Nat.eq_of_beq_eq_true this]
      · cases this
    | false =>
      rw [hc, cond_false] at hk
      obtain ⟨h1, e', h2, h3⟩ := boxAt_spec hk
      refine ⟨by omega, e', ?_, h3⟩
      rw [show k - i = (k - (i + 1)) + 1 from by omega]; simpa using h2

/-- boxes stand under their own names -/
def BoxAll (ρ : Rho) (h : Heap) (w : World) (es : List Ent) : Prop := ∀ e ∈ es, EntRd ρ h w e
theorem Vis.all {es es' : List Ent} (h1 : Vis ρ h w es es') (h2 : BoxAll ρ h w es) : BoxAll ρ h w es' := fun e he => (h1.rd e he).elim (h2 e) id

mutual
theorem visA_ok (hs : SatH ρ h w) : ∀ (g : Nat) (t : TypeId) (a : AV) (es : List Ent) (a' : AV) (es' : List Ent), visA E h fl g t a es = some (a', es') → ∀ (v : Value), V ρ a v → BoxAll ρ h w es →
    Vis ρ h w es es' ∧ (∀ ρ', Agree ρ ρ' es' → V ρ' a' v) ∧ (a.isCell = true → a'.isCell = true)
  | 0, t, a, es, a', es', he => by simp [visA] at he
  | g + 1, t, a, es, a', es', he => by
    intro v hv hall
    unfold visA at he
    split at he
    · cases he; exact ⟨Vis.refl _, fun _ _ => hv, fun h => h⟩
    · cases he; exact ⟨Vis.refl _, fun _ _ => hv, fun h => h⟩
    · cases he; exact ⟨Vis.refl _, fun _ _ => hv, fun h => h⟩
    · cases he; exact ⟨Vis.refl _, fun _ _ => hv, fun h => h⟩
    · cases he; exact ⟨Vis.refl _, fun _ _ => hv, fun h => h⟩
    · cases he; exact ⟨Vis.refl _, fun _ _ => hv, fun h => h⟩
    · cases he; exact ⟨Vis.refl _, fun _ _ => hv, fun h => h⟩
    · split at he
      · cases he
        refine ⟨Vis.add entRd_nil, fun ρ' ha => ?_, fun _ => rfl⟩
        obtain ⟨p, hp, hρ⟩ := ha.last
        simp only [place, Option.some.injEq] at hp
        subst hp
        simp only [V] at hv ⊢
        exact ⟨_, hρ, Nat.le_refl _, none, hv, fun h => by simp at h⟩
      · cases he; exact ⟨Vis.refl _, fun _ _ => hv, fun h => h⟩
    · rename_i b
      split at he
      · rename_i x hx
        simp only [V] at hv
        obtain ⟨q, hq, hc, hsl⟩ := hv
        cases hfl : fl es.length false x.own with
        | true =>
          rw [hfl, cond_true] at he
          split at he
          · rename_i k hk
            cases he
            refine ⟨Vis.refl _, fun ρ' ha => ?_, fun _ => rfl⟩
            obtain ⟨_, e, h1, h2, h3⟩ := boxAt_spec hk
            rw [Nat.sub_zero] at h1
            obtain ⟨p, hp, hρ⟩ := ha k e h1
            obtain ⟨p', hp', _, hr⟩ := hall e (List.mem_of_getElem? h1)
            rw [hp] at hp'; cases hp'
            rw [h3] at hr
            obtain ⟨_, q1, _, hq1, _, _, _, _, hpq, _⟩ := hr
            have := hpq h2; subst this
            rw [hq] at hq1; cases hq1
            simp only [V]
            exact ⟨_, hρ, hc, hsl⟩
          · cases he
            have hr := entRd_whole (box := true) (o := fl es.length true x.own) hs hx
            refine ⟨Vis.add hr, fun ρ' ha => ?_, fun _ => rfl⟩
            obtain ⟨p, hp, hρ⟩ := ha.last
            obtain ⟨q', hq', h1, h2, _⟩ := hs.pos b x hx
            rw [hq] at hq'; cases hq'
            have : q.win 0 x.dat.len = q := by rw [← h2]; exact q.win_zero
            simp only [place, hq, Option.map_some, this, Option.some.injEq] at hp
            subst hp
            simp only [V]
            exact ⟨_, hρ, hc, hsl⟩
        | false =>
          rw [hfl, cond_false] at he
          cases he
          have hr := entRd_whole (box := false) (o := false) hs hx
          refine ⟨Vis.add hr, fun ρ' ha => ?_, fun _ => rfl⟩
          obtain ⟨p, hp, hρ⟩ := ha.last
          simp only [V]
          obtain ⟨q', hq', h1, h2, _⟩ := hs.pos b x hx
          rw [hq] at hq'; cases hq'
          have : q.win 0 x.dat.len = q := by rw [← h2]; exact q.win_zero
          simp only [place, hq, Option.map_some, this, Option.some.injEq] at hp
          subst hp
          exact ⟨_, hρ, hc, hsl⟩
      · cases he
    · rename_i b i n
      split at he
      · rename_i x hx
        simp only [V] at hv
        obtain ⟨q, hq, hc, hin, hsl⟩ := hv
        cases hfl : fl es.length false x.own with
        | true =>
          rw [hfl, cond_true] at he
          split at he
          · rename_i k hk
            cases he
            refine ⟨Vis.refl _, fun ρ' ha => ?_, fun _ => rfl⟩
            obtain ⟨_, e, h1, h2, h3⟩ := boxAt_spec hk
            rw [Nat.sub_zero] at h1
            obtain ⟨p, hp, hρ⟩ := ha k e h1
            obtain ⟨p', hp', _, hr⟩ := hall e (List.mem_of_getElem? h1)
            rw [hp] at hp'; cases hp'
            rw [h3] at hr
            obtain ⟨_, q1, _, hq1, _, _, _, _, hpq, _⟩ := hr
            have := hpq h2; subst this
            rw [hq] at hq1; cases hq1
            simp only [V]
            exact ⟨_, hρ, hc, hin, hsl⟩
          · cases he
            have hr := entRd_whole (box := true) (o := fl es.length true x.own) hs hx
            refine ⟨Vis.add hr, fun ρ' ha => ?_, fun _ => rfl⟩
            obtain ⟨p, hp, hρ⟩ := ha.last
            obtain ⟨q', hq', h1, h2, _⟩ := hs.pos b x hx
            rw [hq] at hq'; cases hq'
            have : q.win 0 x.dat.len = q := by rw [← h2]; exact q.win_zero
            simp only [place, hq, Option.map_some, this, Option.some.injEq] at hp
            subst hp
            simp only [V]
            exact ⟨_, hρ, hc, hin, hsl⟩
        | false =>
        rw [hfl, cond_false] at he
        cases he
        have hr := entRd_win (o := false) hs hx hq hc hin
        refine ⟨Vis.add hr, fun ρ' ha => ?_, fun _ => rfl⟩
        obtain ⟨p, hp, hρ⟩ := ha.last
        obtain ⟨q', hq', h1, h2, _⟩ := hs.pos b x hx
        rw [hq] at hq'; cases hq'
        have sp := Dat.sub_spec x.dat i n (by omega)
        simp only [place, hq, Option.map_some, sp.len, Option.some.injEq] at hp
        subst hp
        simp only [V]
        refine ⟨_, hρ, by simp only [Pos.win]; omega, ?_⟩
        obtain ⟨a, e, ha⟩ := hsl
        refine ⟨a, by simpa [Pos.win] using e, fun hlt => ?_⟩
        simp only [Pos.win] at hlt
        rw [ha (by omega)]
        simp [Pos.addr, Pos.win]
      · cases he
    · rename_i b
      split at he
      · rename_i k hk
        cases he
        refine ⟨Vis.refl _, fun ρ' ha => ?_, fun _ => rfl⟩
        obtain ⟨_, e, h1, h2, h3⟩ := boxAt_spec hk
        rw [Nat.sub_zero] at h1
        obtain ⟨p, hp, hρ⟩ := ha k e h1
        obtain ⟨p', hp', _, hr⟩ := hall e (List.mem_of_getElem? h1)
        rw [hp] at hp'; cases hp'
        rw [h3] at hr
        obtain ⟨x, q, _, hq, _, _, _, _, hpq, _⟩ := hr
        have := hpq h2; subst this
        simp only [V] at hv ⊢
        obtain ⟨r, hr1, hr2⟩ := hv
        rw [hq] at hr1; cases hr1
        exact ⟨_, hρ, hr2⟩
      · split at he
        · rename_i x hx
          cases he
          have hr := entRd_whole (box := true) (o := fl es.length true x.own) hs hx
          refine ⟨Vis.add hr, fun ρ' ha => ?_, fun _ => rfl⟩
          obtain ⟨p, hp, hρ⟩ := ha.last
          simp only [V] at hv ⊢
          obtain ⟨q, hq, hv⟩ := hv
          obtain ⟨q', hq', h1, h2, _⟩ := hs.pos b x hx
          rw [hq] at hq'; cases hq'
          have : q.win 0 x.dat.len = q := by rw [← h2]; exact q.win_zero
          simp only [place, hq, Option.map_some, this, Option.some.injEq] at hp
          subst hp
          exact ⟨_, hρ, hv⟩
        · cases he
    · split at he
      · rename_i us es1 h1
        split at he
        · rename_i cs es2 h2
          cases he
          simp only [V] at hv
          obtain ⟨fs, vs, rfl, hu, hc⟩ := hv
          obtain ⟨v1, r1, _⟩ := visL_ok hs g [] _ es us es1 h1 _ hu hall
          obtain ⟨v2, r2, _⟩ := visL_ok hs g [] _ es1 cs es' h2 _ hc (v1.all hall)
          refine ⟨v1.trans v2, fun ρ' ha => ?_, fun _ => rfl⟩
          simp only [V]
          exact ⟨fs, vs, rfl, r1 ρ' (ha.pre v2.pre), r2 ρ' ha⟩
        · cases he
      · cases he
    · split at he
      · rename_i x1 es1 h1
        cases he
        simp only [V] at hv
        obtain ⟨y, rfl, hy⟩ := hv
        obtain ⟨v1, r1, _⟩ := visA_ok hs g _ _ es x1 es' h1 _ hy hall
        refine ⟨v1, fun ρ' ha => ?_, fun _ => rfl⟩
        simp only [V]
        exact ⟨y, rfl, r1 ρ' ha⟩
      · cases he
    · split at he
      · rename_i cs es1 h1
        cases he
        simp only [V] at hv
        obtain ⟨vs, rfl, hy⟩ := hv
        obtain ⟨v1, r1, _⟩ := visL_ok hs g _ _ es cs es' h1 _ hy hall
        refine ⟨v1, fun ρ' ha => ?_, fun h => by simp [AV.isCell] at h⟩
        simp only [V]
        exact ⟨vs, rfl, r1 ρ' ha⟩
      · cases he
    · cases he
theorem visL_ok (hs : SatH ρ h w) : ∀ (g : Nat) (ts : List TypeId) (as : List AV) (es : List Ent) (as' : List AV) (es' : List Ent), visL E h fl g ts as es = some (as', es') → ∀ (vs : List Value), VL ρ as vs → BoxAll ρ h w es →
    Vis ρ h w es es' ∧ (∀ ρ', Agree ρ ρ' es' → VL ρ' as' vs) ∧ (as.all AV.isCell = true → as'.all AV.isCell = true)
  | g, ts, [], es, as', es', he => by
    intro vs hv hall
    have : some (([] : List AV), es) = some (as', es') := by cases g <;> simpa only [visL] using he
    cases this
    exact ⟨Vis.refl _, fun _ _ => by simpa only [VL] using hv, fun h => h⟩
  | 0, ts, a :: as, es, as', es', he => by simp [visL] at he
  | g + 1, ts, a :: as, es, as', es', he => by
    intro vs hv hall
    unfold visL at he
    split at he
    · rename_i a1 es1 h1
      split at he
      · rename_i as1 es2 h2
        cases he
        simp only [VL] at hv
        obtain ⟨v, r, rfl, hv1, hv2⟩ := hv
        obtain ⟨v1, r1, c1⟩ := visA_ok hs g _ _ es a1 es1 h1 _ hv1 hall
        obtain ⟨v2, r2, c2⟩ := visL_ok hs g _ _ es1 as1 es' h2 _ hv2 (v1.all hall)
        refine ⟨v1.trans v2, fun ρ' ha => ?_, fun h => ?_⟩
        · simp only [VL]
          exact ⟨v, r, rfl, r1 ρ' (ha.pre v2.pre), r2 ρ' ha⟩
        · simp only [List.all_cons, Bool.and_eq_true] at h ⊢
          exact ⟨c1 h.1, c2 h.2⟩
      · cases he
    · cases he
end
end
end Go.Am
