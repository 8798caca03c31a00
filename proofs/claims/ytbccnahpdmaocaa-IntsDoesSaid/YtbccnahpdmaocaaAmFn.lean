/-
  AM: functions: a contract is a function on deep values; a call by contract, and a function by its text.
-/
import Derived.Test.YtbccnahpdmaocaaAmRun
namespace Go.Am

def R0 : Rho := fun _ => none
/-- deep values, read in a world; the places that they take -/
def RdC (w : World) : RC → Value → List Pos → Prop
  | .any, _, ps => ps = []
  | .bool b, v, ps => v = .bool b ∧ ps = []
  | .int k n, v, ps => v = .int k n ∧ ps = []
  | .str s, v, ps => v = .string ⟨s.toArray⟩ ∧ ps = []
  | .nilp, v, ps => v = .pointer none ∧ ps = []
  | .nili, v, ps => v = .nilIface ∧ ps = []
  | .nilf, v, ps => v = .nilFunc ∧ ps = []
  | .sl d, v, ps => ∃ p, ps = [p] ∧ RdD w d p ∧ SlV p 0 p.len v
  | .fn f, v, ps => v = .func (.func f) #[] #[] ∧ ps = []
  | .ifc t, v, ps => (∃ x, v = .iface t x) ∧ ps = []
def RdCs (w : World) : List RC → List Value → List Pos → Prop
  | [], vs, ps => vs = [] ∧ ps = []
  | x :: r, vs, ps => ∃ v us p q, vs = v :: us ∧ ps = p ++ q ∧ RdC w x v p ∧ RdCs w r us q
def RdA (w : World) : RA → Value → List Pos → Prop
  | .c x, v, ps => RdC w x v ps
  | .agg l, v, ps => ∃ vs, v = .agg vs ∧ RdCs w l vs.toList ps
def RdAs (w : World) : List RA → List Value → List Pos → Prop
  | [], vs, ps => vs = [] ∧ ps = []
  | x :: r, vs, ps => ∃ v us p q, vs = v :: us ∧ ps = p ++ q ∧ RdA w x v p ∧ RdAs w r us q
def RdV (w : World) : RV → Value → List Pos → Prop
  | .one x, v, ps => RdA w x v ps
  | .tup l, v, ps => ∃ vs, v = .tuple vs ∧ RdAs w l vs.toList ps

/-- places that are new, and one's own -/
def OwnPs (base : Nat) (w : World) (ps : List Pos) : Prop :=
  (∀ p ∈ ps, 0 < p.cap → base ≤ p.block ∧ ∃ cs e, w.heap[p.block]? = some (.cells cs e (0, 0)) ∧ p.off + p.cap * p.stride ≤ cs.size) ∧
  ps.Pairwise fun p q => 0 < p.cap → 0 < q.cap → p.block ≠ q.block

structure FnAt (P : Program) (f : FuncId) (fn : Func) (c : Code) : Prop where
  func : P.funcs[f]? = some fn
  body : fn.body = some c
  name : fn.name ≠ "runtime.NumGoroutine"

/-- a contract -/
def FnOk (E : Env) (f : FuncId) (s : FSpec) : Prop :=
  (∃ fn c, FnAt E.P f fn c) ∧
  ∀ (ras : List RA) (r : RV), (s ras).sel = some r → ∀ (w : World) (cargs : List Value) (ps : List Pos), GOk E (fun _ => False) w → RdAs w ras cargs ps →
    Calls E.P f cargs.toArray w fun e w' => ∃ cv qs, e = .returned cv ∧ Ext (fun _ => False) w w' ∧ RdV w' r cv qs ∧ OwnPs w.heap.size w' qs

section
variable {E : Env} {ρ : Rho} {h : Heap} {w : World}

/-! from the machine's state to deep values -/
theorem V_scalar {a : AV} (ha : a.isScalar = true) {v : Value} (hv : V ρ a v) : V (fun _ => none) a v := by
  cases a <;> simp only [AV.isScalar, Bool.false_eq_true] at ha <;> simpa only [V] using hv
theorem rdD_of (hs : SatH ρ h w) {b : Nat} {x : Blk} {p : Pos} (hb : h b = some x) (hp : ρ b = some p) (hpl : x.dat.plain = true) : RdD w x.dat p := by
  obtain ⟨p', hp', h1, h2, h3, h4⟩ := hs.pos b x hb
  rw [hp] at hp'; cases hp'
  refine ⟨h1, h2, h3, h4, hs.wf b x hb, fun i hi j av hav => ?_⟩
  obtain ⟨c, hc, hv⟩ := hs.cells b x p hb hp i hi j av hav
  refine ⟨c, hc, ?_⟩
  have hsc : av.isScalar = true ∨ (∀ ρ' : Rho, V ρ av c → V (fun _ => none) av c) := by
    cases hd : x.dat with
    | gen s rows =>
      rw [hd] at hpl hav hi
      simp only [Dat.plain, List.all_eq_true] at hpl
      simp only [Dat.len] at hi
      have e1 : rows.getD i [] = rows[i] := by simp [List.getD, hi]
      simp only [Dat.row, e1] at hav
      exact .inl (hpl _ (List.getElem_mem hi) _ (List.mem_of_getElem? hav))
    | _ =>
      rw [hd] at hav
      simp only [Dat.row, Tok.enc, Nod.enc, Top.enc, Sgn.enc, Opr.enc, Chn.enc] at hav
      refine .inl ?_
      have hm := List.mem_of_getElem? hav
      simp only [List.mem_cons, List.mem_nil_iff, or_false] at hm
      rcases hm with rfl | rfl | rfl | rfl | rfl <;> rfl
  rcases hsc with h5 | h5
  · exact V_scalar h5 hv
  · exact h5 ρ hv

theorem rdD_sub {d : Dat} {p : Pos} (hd : RdD w d p) (i n : Nat) (hin : i + n ≤ d.len) : RdD w (d.sub i n) ⟨p.block, p.off + i * p.stride, p.stride, n, p.cap - i⟩ := by
  have sp := Dat.sub_spec d i n hin
  refine ⟨by rw [sp.stride]; exact hd.stride, sp.len.symm, by have := hd.cap; have := hd.len; simp only; omega, by have := hd.max; simp only; omega, fun k hk => ?_, fun k hk j av hav => ?_⟩
  · rw [sp.len] at hk; rw [sp.row k hk, sp.stride]; exact hd.wf _ (by omega)
  · rw [sp.len] at hk
    rw [sp.row k hk] at hav
    obtain ⟨c, hc, hv⟩ := hd.cells (i + k) (by omega) j av hav
    refine ⟨c, ?_, hv⟩
    rw [← hc]
    simp only [Pos.addr]
    congr 2
    rw [Nat.add_mul]; omega

/-- the place that a told block leads to: a window of the block's -/
structure Win (p q : Pos) : Prop where
  block : q.block = p.block
  room : q.off + q.cap * q.stride ≤ p.off + p.cap * p.stride
  cap : q.cap ≤ p.cap
  len : 0 < q.len → 0 < p.len
  stride : q.stride = p.stride

theorem nil_read {P : Program} (k : DK) (v : Value) (hv : v = .slice none 0 0) : RdC w (.sl (Dat.empty k)) v [⟨w.heap.size, 0, (Dat.empty k).stride, 0, 0⟩] ∨ P = P → ∃ p, RdC w (.sl (Dat.empty k)) v [p] ∧ p.cap = 0 := by
  intro _
  have hl : (Dat.empty k).len = 0 := by cases k <;> rfl
  refine ⟨⟨0, 0, (Dat.empty k).stride, 0, 0⟩, ?_, rfl⟩
  simp only [RdC]
  exact ⟨_, rfl, ⟨rfl, hl.symm, Nat.le_refl _, Nat.zero_le _, fun i hi => by omega, fun i hi => by omega⟩, none, hv, fun h => by simp at h⟩

/-- the places of a told value: windows of the blocks that it leads to, or none at all -/
def Leads (ρ : Rho) (ps : List Pos) (bs : List Nat) : Prop :=
  ∃ qs : List (Pos × Option Nat), ps = qs.map (·.1) ∧ bs = qs.filterMap (·.2) ∧ ∀ x ∈ qs, (x.2 = none ∧ x.1.cap = 0) ∨ ∃ b p, x.2 = some b ∧ ρ b = some p ∧ Win p x.1
theorem Leads.nil : Leads ρ [] [] := ⟨[], rfl, rfl, fun _ h => by cases h⟩
theorem Leads.append {ps qs : List Pos} {as bs : List Nat} (h : Leads ρ ps as) (h' : Leads ρ qs bs) : Leads ρ (ps ++ qs) (as ++ bs) := by
  obtain ⟨x, rfl, rfl, h1⟩ := h
  obtain ⟨y, rfl, rfl, h2⟩ := h'
  refine ⟨x ++ y, by simp, by simp, fun z hz => ?_⟩
  rcases List.mem_append.1 hz with h | h
  · exact h1 z h
  · exact h2 z h

theorem expC_read (hs : SatH ρ h w) {t : TypeId} {a : AV} {x : RC} {bs : List Nat} (he : expC E h t a = some (x, bs)) {v : Value} (hv : V ρ a v) : ∃ ps, RdC w x v ps ∧ Leads ρ ps bs := by
  unfold expC at he
  split at he
  all_goals first
    | (simp only [Option.some.injEq, Prod.mk.injEq] at he; obtain ⟨rfl, rfl⟩ := he; exact ⟨[], (rfl : ([] : List Pos) = []), Leads.nil⟩)
    | (simp only [Option.some.injEq, Prod.mk.injEq] at he; obtain ⟨rfl, rfl⟩ := he; simp only [V] at hv; exact ⟨[], by simpa only [RdC, and_true] using hv, Leads.nil⟩)
    | skip
  · -- a nil slice
    split at he
    · rename_i e _
      cases he
      simp only [V] at hv
      obtain ⟨p, hp, hc⟩ := nil_read (P := E.P) (w := w) (E.kind e) v hv (.inr rfl)
      exact ⟨[p], hp, ⟨[(p, none)], rfl, rfl, fun z hz => by simp at hz; subst hz; exact .inl ⟨rfl, hc⟩⟩⟩
    · cases he
  · rename_i b
    split at he
    · rename_i y hy
      cases hpl : y.dat.plain with
      | false => simp [hpl] at he
      | true =>
        simp only [hpl, cond_true, Option.some.injEq, Prod.mk.injEq] at he
        obtain ⟨rfl, rfl⟩ := he
        simp only [V] at hv
        obtain ⟨p, hp, hc, hsl⟩ := hv
        refine ⟨[p], ?_, [(p, some b)], rfl, rfl, fun z hz => by simp at hz; subst hz; exact   .inr ⟨b, p, rfl, hp, rfl, Nat.le_refl _, Nat.le_refl _, id, rfl⟩⟩
        simp only [RdC]
        exact ⟨p, rfl, rdD_of hs hy hp hpl, hsl⟩
    · cases he
  · rename_i b i n
    split at he
    · rename_i y hy
      cases hpl : y.dat.plain with
      | false => simp [hpl] at he
      | true =>
        simp only [hpl, cond_true, Option.some.injEq, Prod.mk.injEq] at he
        obtain ⟨rfl, rfl⟩ := he
        simp only [V] at hv
        obtain ⟨p, hp, hc, hin, hsl⟩ := hv
        have hd := rdD_of hs hy hp hpl
        have hsub := rdD_sub hd i n (by have := hd.len; omega)
        have hw : Win p ⟨p.block, p.off + i * p.stride, p.stride, n, p.cap - i⟩ := ⟨rfl, by
          simp only
          have : i * p.stride + (p.cap - i) * p.stride = p.cap * p.stride := by rw [← Nat.add_mul]; congr 1; omega
          omega, by simp only; omega, by simp only; omega, rfl⟩
        refine ⟨[_], ?_, [(_, some b)], rfl, rfl, fun z hz => by simp at hz; subst hz; exact .inr ⟨b, p, rfl, hp, hw⟩⟩
        simp only [RdC]
        refine ⟨_, rfl, hsub, ?_⟩
        obtain ⟨a, e, ha⟩ := hsl
        refine ⟨a, by simpa using e, fun hlt => ?_⟩
        rw [ha (by simp only at hlt; omega)]
        simp [Pos.addr]
    · cases he
  · rename_i f
    cases he
    simp only [V, VL] at hv
    obtain ⟨vs, rfl, hvs⟩ := hv
    have : vs = #[] := by cases vs; simp_all
    subst this
    exact ⟨[], by simp [RdC], Leads.nil⟩
  · rename_i t' x'
    cases he
    simp only [V] at hv
    obtain ⟨y, rfl, _⟩ := hv
    exact ⟨[], by simp [RdC], Leads.nil⟩
  · cases he

theorem expCs_read (hs : SatH ρ h w) : ∀ {ts : List TypeId} {as : List AV} {xs : List RC} {bs : List Nat}, expCs E h ts as = some (xs, bs) → ∀ {vs : List Value}, VL ρ as vs → ∃ ps, RdCs w xs vs ps ∧ Leads ρ ps bs
  | _, [], xs, bs, he, vs, hv => by
    simp only [expCs, Option.some.injEq, Prod.mk.injEq] at he
    obtain ⟨rfl, rfl⟩ := he
    simp only [VL] at hv; subst hv
    exact ⟨[], ⟨rfl, rfl⟩, Leads.nil⟩
  | [], a :: as, xs, bs, he, vs, hv => by simp [expCs] at he
  | t :: ts, a :: as, xs, bs, he, vs, hv => by
    unfold expCs at he
    split at he
    · rename_i x ps hx
      split at he
      · rename_i ys qs hy
        cases he
        simp only [VL] at hv
        obtain ⟨v, r, rfl, h1, h2⟩ := hv
        obtain ⟨p1, r1, l1⟩ := expC_read hs hx h1
        obtain ⟨p2, r2, l2⟩ := expCs_read hs hy h2
        exact ⟨p1 ++ p2, ⟨v, r, p1, p2, rfl, rfl, r1, r2⟩, l1.append l2⟩
      · cases he
    · cases he
theorem expA_read (hs : SatH ρ h w) {t : TypeId} {a : AV} {x : RA} {bs : List Nat} (he : expA E h t a = some (x, bs)) {v : Value} (hv : V ρ a v) : ∃ ps, RdA w x v ps ∧ Leads ρ ps bs := by
  unfold expA at he
  split at he
  · rename_i cs
    split at he
    · rename_i xs ps hx
      cases he
      simp only [V] at hv
      obtain ⟨vs, rfl, hl⟩ := hv
      obtain ⟨ps, h1, h2⟩ := expCs_read hs hx hl
      exact ⟨ps, ⟨vs, rfl, h1⟩, h2⟩
    · cases he
  · split at he
    · rename_i y ps hy
      cases he
      exact expC_read hs hy hv
    · cases he
theorem expAs_read (hs : SatH ρ h w) : ∀ {ts : List TypeId} {as : List AV} {xs : List RA} {bs : List Nat}, expAs E h ts as = some (xs, bs) → ∀ {vs : List Value}, VL ρ as vs → ∃ ps, RdAs w xs vs ps ∧ Leads ρ ps bs
  | [], [], xs, bs, he, vs, hv => by
    simp only [expAs, Option.some.injEq, Prod.mk.injEq] at he
    obtain ⟨rfl, rfl⟩ := he
    simp only [VL] at hv; subst hv
    exact ⟨[], ⟨rfl, rfl⟩, Leads.nil⟩
  | [], a :: as, xs, bs, he, vs, hv => by simp [expAs] at he
  | t :: ts, [], xs, bs, he, vs, hv => by simp [expAs] at he
  | t :: ts, a :: as, xs, bs, he, vs, hv => by
    unfold expAs at he
    split at he
    · rename_i x ps hx
      split at he
      · rename_i ys qs hy
        cases he
        simp only [VL] at hv
        obtain ⟨v, r, rfl, h1, h2⟩ := hv
        obtain ⟨p1, r1, l1⟩ := expA_read hs hx h1
        obtain ⟨p2, r2, l2⟩ := expAs_read hs hy h2
        exact ⟨p1 ++ p2, ⟨v, r, p1, p2, rfl, rfl, r1, r2⟩, l1.append l2⟩
      · cases he
    · cases he

/-! from deep values to the machine's -/
/-- the names id, id + 1, .. of places -/
def Named (ρ : Rho) (id : Nat) (ps : List Pos) : Prop := ∀ k p, ps[k]? = some p → ρ (id + k) = some p
theorem Named.left {id : Nat} {ps qs : List Pos} (h : Named ρ id (ps ++ qs)) : Named ρ id ps := fun k p hk => h k p (by rw [List.getElem?_append_left (List.getElem?_eq_some_iff.1 hk).1]; exact hk)
theorem Named.right {id : Nat} {ps qs : List Pos} (h : Named ρ id (ps ++ qs)) : Named ρ (id + ps.length) qs := fun k p hk => by
  have := h (ps.length + k) p (by rw [List.getElem?_append_right (by omega)]; simpa using hk)
  rw [Nat.add_assoc]; exact this

/-- the places of data -/
def RdDs (w : World) : List Dat → List Pos → Prop
  | [], ps => ps = []
  | d :: r, ps => ∃ p q, ps = p :: q ∧ RdD w d p ∧ RdDs w r q
theorem RdDs.append {ds es : List Dat} {ps qs : List Pos} (h : RdDs w ds ps) (h' : RdDs w es qs) : RdDs w (ds ++ es) (ps ++ qs) := by
  induction ds generalizing ps with
  | nil => simp only [RdDs] at h; subst h; simpa using h'
  | cons d r ih =>
    simp only [RdDs] at h
    obtain ⟨p, q, rfl, h1, h2⟩ := h
    exact ⟨p, _, rfl, h1, ih h2⟩
theorem RdDs.length {ds : List Dat} {ps : List Pos} (h : RdDs w ds ps) : ps.length = ds.length := by
  induction ds generalizing ps with
  | nil => simp only [RdDs] at h; subst h; rfl
  | cons d r ih => obtain ⟨p, q, rfl, _, h2⟩ := h; simp [ih h2]

theorem impC_V {x : RC} {v : Value} {ps : List Pos} (hr : RdC w x v ps) : ∀ id, RdDs w (impC id x).2 ps ∧ ∀ ρ, Named ρ id ps → V ρ (impC id x).1 v := by
  intro id
  cases x <;> simp only [RdC] at hr <;> simp only [impC, RdDs]
  case any => exact ⟨hr, fun ρ _ => by simp [V]⟩
  case sl d =>
    obtain ⟨p, rfl, hd, hsl⟩ := hr
    exact ⟨⟨p, [], rfl, hd, rfl⟩, fun ρ hn => by simp only [V]; exact ⟨p, hn 0 p rfl, hd.cap, hsl⟩⟩
  case fn f => obtain ⟨rfl, rfl⟩ := hr; exact ⟨rfl, fun ρ _ => by simp [V, VL]⟩
  case ifc t => obtain ⟨⟨y, rfl⟩, rfl⟩ := hr; exact ⟨rfl, fun ρ _ => by simp [V]⟩
  all_goals (obtain ⟨rfl, rfl⟩ := hr; exact ⟨rfl, fun ρ _ => by simp [V]⟩)
theorem impCs_V : ∀ {xs : List RC} {vs : List Value} {ps : List Pos}, RdCs w xs vs ps → ∀ id, RdDs w (impCs id xs).2 ps ∧ ∀ ρ, Named ρ id ps → VL ρ (impCs id xs).1 vs
  | [], vs, ps, hr, id => by
    obtain ⟨rfl, rfl⟩ := hr
    exact ⟨rfl, fun ρ _ => by simp [impCs, VL]⟩
  | x :: r, vs, ps, hr, id => by
    obtain ⟨v, us, p, q, rfl, rfl, h1, h2⟩ := hr
    obtain ⟨d1, e1⟩ := impC_V h1 id
    obtain ⟨d2, e2⟩ := impCs_V h2 (id + (impC id x).2.length)
    simp only [impCs]
    exact ⟨d1.append d2, fun ρ hn => by simp only [VL]; exact ⟨v, us, rfl, e1 ρ hn.left, e2 ρ (by rw [← d1.length]; exact hn.right)⟩⟩
theorem impA_V {x : RA} {v : Value} {ps : List Pos} (hr : RdA w x v ps) (id : Nat) : RdDs w (impA id x).2 ps ∧ ∀ ρ, Named ρ id ps → V ρ (impA id x).1 v := by
  cases x with
  | c x => exact impC_V hr id
  | agg l =>
    obtain ⟨vs, rfl, hl⟩ := hr
    obtain ⟨d1, e1⟩ := impCs_V hl id
    simp only [impA]
    exact ⟨d1, fun ρ hn => by simp only [V]; exact ⟨vs, rfl, e1 ρ hn⟩⟩
theorem impAs_V : ∀ {xs : List RA} {vs : List Value} {ps : List Pos}, RdAs w xs vs ps → ∀ id, RdDs w (impAs id xs).2 ps ∧ ∀ ρ, Named ρ id ps → VL ρ (impAs id xs).1 vs
  | [], vs, ps, hr, id => by
    obtain ⟨rfl, rfl⟩ := hr
    exact ⟨rfl, fun ρ _ => by simp [impAs, VL]⟩
  | x :: r, vs, ps, hr, id => by
    obtain ⟨v, us, p, q, rfl, rfl, h1, h2⟩ := hr
    obtain ⟨d1, e1⟩ := impA_V h1 id
    obtain ⟨d2, e2⟩ := impAs_V h2 (id + (impA id x).2.length)
    simp only [impAs]
    exact ⟨d1.append d2, fun ρ hn => by simp only [VL]; exact ⟨v, us, rfl, e1 ρ hn.left, e2 ρ (by rw [← d1.length]; exact hn.right)⟩⟩
theorem impV_V {x : RV} {v : Value} {ps : List Pos} (hr : RdV w x v ps) (id : Nat) : RdDs w (impV id x).2 ps ∧ ∀ ρ, Named ρ id ps → V ρ (impV id x).1 v := by
  cases x with
  | one x => exact impA_V hr id
  | tup l =>
    obtain ⟨vs, rfl, hl⟩ := hr
    obtain ⟨d1, e1⟩ := impAs_V hl id
    simp only [impV]
    exact ⟨d1, fun ρ hn => by simp only [V]; exact ⟨vs, rfl, e1 ρ hn⟩⟩

/-- new own blocks, named -/
theorem addAll (base : Nat) : ∀ (ds : List Dat) (ps : List Pos) (id : Nat) (ρ : Rho) (h : Heap), SatH ρ h w → RdDs w ds ps → OwnPs base w ps → (∀ k, ownB ρ h k → k < base ∨ ∀ p ∈ ps, 0 < p.cap → p.block ≠ k) →
    (∀ b y q, h b = some y → ρ b = some q → ((y.own = true ∧ 0 < q.cap) ∨ (0 < q.len ∧ 0 < q.stride)) → q.block < base ∨ ∀ p ∈ ps, 0 < p.cap → p.block ≠ q.block) → (∀ k, k < ds.length → ρ (id + k) = none) →
    ∃ ρ' : Rho, ρ.le ρ' ∧ Named ρ' id ps ∧ SatH ρ' (updW h (updsOf true id ds)) w ∧ (∀ k, ownB ρ' (updW h (updsOf true id ds)) k → ownB ρ h k ∨ ∃ p ∈ ps, 0 < p.cap ∧ p.block = k) ∧ (∀ b, ρ' b ≠ none → ρ b = none → id ≤ b ∧ b < id + ds.length)
  | [], ps, id, ρ, h, hs, hr, _, _, _, _ => by
    simp only [RdDs] at hr; subst hr
    exact ⟨ρ, Rho.le.refl _, fun k p hk => by simp at hk, hs, fun k hk => .inl hk, fun b h1 h2 => (h1 h2).elim⟩
  | d :: ds, ps, id, ρ, h, hs, hr, ho, hb, hlv, hid => by
    obtain ⟨p, q, rfl, hd, hr2⟩ := hr
    have hp := ho.1 p (List.mem_cons_self ..)
    have hpw := List.pairwise_cons.1 ho.2
    have hid0 : ρ id = none := hid 0 (by simp)
    obtain ⟨h1, h2, h3, h4⟩ := hs.add hid0 p ⟨true, d⟩ hd.stride hd.len hd.cap hd.max hd.wf
      (fun i hi j av hav => by
        obtain ⟨c, hc, hv⟩ := hd.cells i hi j av hav
        exact ⟨c, hc, V.mono (fun _ _ h => by cases h) _ _ hv⟩)
      (fun _ h0 => (hp h0).2)
      (fun b y r hb' hr' hl hl2 => by
        have h0 : 0 < p.cap := by
          rcases hl2 with h | h
          · exact h.2
          · have := hd.cap; omega
        rcases hlv b y r hb' hr' (by rcases hl with h | h; exact .inl h; exact .inr ⟨h.2.2.1, h.2.2.2⟩) with h | h
        · have := (hp h0).1; omega
        · exact fun e => h p (List.mem_cons_self ..) h0 e.symm)
    obtain ⟨ρ', g1, g2, g3, g4, g5⟩ := addAll base ds q (id + 1) (updF ρ id (some p)) (updF h id (some ⟨true, d⟩)) h2 hr2 ⟨fun r hr => ho.1 r (List.mem_cons_of_mem _ hr), hpw.2⟩
      (fun k hk => by
        rcases h3 k hk with h5 | ⟨_, h6, rfl⟩
        · rcases hb k h5 with h | h
          · exact .inl h
          · exact .inr fun r hr => h r (List.mem_cons_of_mem _ hr)
        · exact .inr fun r hr h7 e => hpw.1 r hr h6 h7 e.symm)
      (fun b y r hb' hr' hl => by
        by_cases e : b = id
        · subst e; rw [updF_same] at hb' hr'; cases hb'; cases hr'
          have h0 : 0 < p.cap := by
            rcases hl with h | h
            · exact h.2
            · have := hd.cap; omega
          exact .inr fun s hs h7 e => hpw.1 s hs h0 h7 e.symm
        · rw [updF_other _ _ _ e] at hb' hr'
          rcases hlv b y r hb' hr' hl with h | h
          · exact .inl h
          · exact .inr fun s hs => h s (List.mem_cons_of_mem _ hs))
      (fun k hk => by
        have := hid (k + 1) (by simpa using hk)
        rw [updF_other _ _ _ (by omega), Nat.add_assoc, Nat.add_comm 1 k]; exact this)
    refine ⟨ρ', h1.trans g1, ?_, g3, ?_, ?_⟩
    · intro k r hk
      cases k with
      | zero => simp at hk; subst hk; exact g1 _ _ (updF_same _ _ _)
      | succ k => rw [show id + (k + 1) = id + 1 + k from by omega]; exact g2 k r (by simpa using hk)
    · intro k hk
      rcases g4 k hk with h5 | ⟨r, hr, h5⟩
      · rcases h3 k h5 with h6 | ⟨_, h6, rfl⟩
        · exact .inl h6
        · exact .inr ⟨p, List.mem_cons_self .., h6, rfl⟩
      · exact .inr ⟨r, List.mem_cons_of_mem _ hr, h5⟩
    · intro b hb1 hb2
      simp only [List.length_cons]
      by_cases e : b = id
      · omega
      · have := g5 b hb1 (by rw [updF_other _ _ _ e]; exact hb2)
        omega

/-- calls by their contracts -/
theorem specC_ok {S : FuncId → Option FSpec} (hS : ∀ f s, S f = some s → FnOk E f s) : CallOk E (specC E S) := by
  intro f args h id v W hsel
  unfold specC at hsel
  split at hsel
  · simp [T.sel] at hsel
  rename_i s hs
  split at hsel
  · simp [T.sel] at hsel
  rename_i fn hfn
  split at hsel
  · simp [T.sel] at hsel
  rename_i ras bs he
  obtain ⟨r, h1, h2⟩ := T.bind_sel _ _ _ hsel
  obtain ⟨⟨fn', c, hat⟩, hcalls⟩ := hS f s hs
  refine ⟨⟨fn', hat.func, by rw [hat.body]; rfl, hat.name⟩, fun ρ w cargs hsat hgo hv hid => ?_⟩
  obtain ⟨ps, hrd, _⟩ := expAs_read hsat he hv
  have hgo' : GOk E (fun _ => False) w := ⟨hgo.laid, hgo.size, fun _ h => h.elim⟩
  refine (hcalls ras r h1 w cargs ps hgo' hrd).mono fun e w' ⟨cv, qs, he', hext, hrv, hown⟩ => ?_
  subst he'
  cases himp : impV id r with
  | mk a ds =>
    rw [himp] at h2
    simp only at h2
    cases hble : Nat.ble ds.length 64 with
    | false => simp [hble, T.sel] at h2
    | true =>
      simp only [hble, cond_true, T.sel, Option.some.injEq, Prod.mk.injEq] at h2
      obtain ⟨rfl, rfl⟩ := h2
      have hlen := Nat.le_of_ble_eq_true hble
      obtain ⟨d1, e1⟩ := impV_V hrv id
      rw [himp] at d1 e1
      have hsat' : SatH ρ h w' := hsat.world fun b x p hb hp hl hlt => hext.block _ hlt fun h => h
      have hlt : ∀ b y q, h b = some y → ρ b = some q → ((y.own = true ∧ 0 < q.cap) ∨ (0 < q.len ∧ 0 < q.stride)) → q.block < w.heap.size := fun b y q hb hq hl => hsat.lt hb hq hl
      obtain ⟨ρ', g1, g2, g3, g4, g5⟩ := addAll w.heap.size ds qs id ρ h hsat' d1 hown (fun k ⟨b, y, q, hb, ho, hq, h0, hk⟩ => .inl (by rw [← hk]; exact hlt b y q hb hq (.inl ⟨ho, h0⟩))) (fun b y q hb hq hl => .inl (hlt b y q hb hq hl)) (fun k hk => hid _ (by omega) (by omega))
      refine ⟨cv, ρ', rfl, g1, e1 ρ' g2, g3, ⟨⟨hext.os, hext.tape, hext.output, hext.size, fun k hk _ => hext.block k hk fun h => h, hext.frozen⟩, fun k hk => (g4 k hk).imp (fun h => h) fun ⟨p, hp, h0, e⟩ => e ▸ (hown.1 p hp h0).1⟩, fun b hb hn => ?_⟩
      have := g5 b hb hn
      omega
end
end Go.Am
