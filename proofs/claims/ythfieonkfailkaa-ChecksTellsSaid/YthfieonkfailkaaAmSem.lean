/-
  AM: what its values and states say of the model's worlds.
-/
import Derived.Test.YthfieonkfailkaaAmCore
import Derived.Below
namespace Go.Am

structure Pos where
  block : Nat
  off : Nat
  stride : Nat
  len : Nat
  cap : Nat
def Pos.addr (p : Pos) (i j : Nat) : Addr := ⟨p.block, p.off + i * p.stride + j, none⟩
abbrev Rho := Nat → Option Pos
def SlV (p : Pos) (i n : Nat) (v : Value) : Prop := ∃ a, v = .slice a n (p.cap - i) ∧ (i < p.cap → a = some (p.addr i 0))

mutual
def V (ρ : Rho) : AV → Value → Prop
  | .any, _ => True
  | .bool b, v => v = .bool b
  | .int k n, v => v = .int k n
  | .str s, v => v = .string ⟨s.toArray⟩
  | .nilp, v => v = .pointer none
  | .ptr b i j, v => ∃ p, ρ b = some p ∧ v = .pointer (some (p.addr i j))
  | .nils, v => v = .slice none 0 0
  | .slw b, v => ∃ p, ρ b = some p ∧ p.len ≤ p.cap ∧ SlV p 0 p.len v
  | .sl b i n, v => ∃ p, ρ b = some p ∧ p.len ≤ p.cap ∧ i + n ≤ p.len ∧ SlV p i n v
  | .nilf, v => v = .nilFunc
  | .fn f us cs, v => ∃ fs vs, v = .func (.func f) fs vs ∧ VL ρ us fs.toList ∧ VL ρ cs vs.toList
  | .nili, v => v = .nilIface
  | .iface t x, v => ∃ y, v = .iface t y ∧ V ρ x y
  | .agg cs, v => ∃ vs, v = .agg vs ∧ VL ρ cs vs.toList
  | .tup cs, v => ∃ vs, v = .tuple vs ∧ VL ρ cs vs.toList
def VL (ρ : Rho) : List AV → List Value → Prop
  | [], vs => vs = []
  | a :: as, vs => ∃ v r, vs = v :: r ∧ V ρ a v ∧ VL ρ as r
end

def Rho.le (ρ ρ' : Rho) : Prop := ∀ b p, ρ b = some p → ρ' b = some p
theorem Rho.le.refl (ρ : Rho) : ρ.le ρ := fun _ _ h => h
theorem Rho.le.trans {a b c : Rho} (h : a.le b) (h' : b.le c) : a.le c := fun x p hx => h' x p (h x p hx)

mutual
theorem V.mono {ρ ρ' : Rho} (h : ρ.le ρ') : ∀ (a : AV) (v : Value), V ρ a v → V ρ' a v
  | .any, _, hv => hv
  | .bool _, _, hv => hv
  | .int .., _, hv => hv
  | .str _, _, hv => hv
  | .nilp, _, hv => hv
  | .ptr .., _, hv => by
    simp only [V] at hv ⊢; obtain ⟨p, hp, e⟩ := hv; exact ⟨p, h _ _ hp, e⟩
  | .nils, _, hv => hv
  | .slw _, _, hv => by
    simp only [V] at hv ⊢; obtain ⟨p, hp, e⟩ := hv; exact ⟨p, h _ _ hp, e⟩
  | .sl .., _, hv => by
    simp only [V] at hv ⊢; obtain ⟨p, hp, e⟩ := hv; exact ⟨p, h _ _ hp, e⟩
  | .nilf, _, hv => hv
  | .fn _ us cs, _, hv => by
    simp only [V] at hv ⊢; obtain ⟨fs, vs, e, hu, hl⟩ := hv; exact ⟨fs, vs, e, VL.mono h us _ hu, VL.mono h cs _ hl⟩
  | .nili, _, hv => hv
  | .iface _ x, _, hv => by
    simp only [V] at hv ⊢; obtain ⟨y, e, hl⟩ := hv; exact ⟨y, e, V.mono h x _ hl⟩
  | .agg cs, _, hv => by
    simp only [V] at hv ⊢; obtain ⟨vs, e, hl⟩ := hv; exact ⟨vs, e, VL.mono h cs _ hl⟩
  | .tup cs, _, hv => by
    simp only [V] at hv ⊢; obtain ⟨vs, e, hl⟩ := hv; exact ⟨vs, e, VL.mono h cs _ hl⟩
theorem VL.mono {ρ ρ' : Rho} (h : ρ.le ρ') : ∀ (as : List AV) (vs : List Value), VL ρ as vs → VL ρ' as vs
  | [], _, hv => hv
  | a :: as, _, hv => by
    simp only [VL] at hv ⊢; obtain ⟨v, r, e, h1, h2⟩ := hv; exact ⟨v, r, e, V.mono h a _ h1, VL.mono h as _ h2⟩
end

section VL
variable {ρ : Rho}
theorem VL.length : ∀ {as : List AV} {vs : List Value}, VL ρ as vs → vs.length = as.length
  | [], _, h => by simp only [VL] at h; subst h; rfl
  | a :: as, _, h => by
    simp only [VL] at h; obtain ⟨v, r, rfl, _, h2⟩ := h; simp [VL.length h2]
theorem VL.get : ∀ {as : List AV} {vs : List Value}, VL ρ as vs → ∀ {i : Nat} {a : AV}, as[i]? = some a → ∃ v, vs[i]? = some v ∧ V ρ a v
  | [], _, _, i, a, e => by simp at e
  | x :: as, _, h, i, a, e => by
    simp only [VL] at h; obtain ⟨v, r, rfl, h1, h2⟩ := h
    cases i with
    | zero => simp at e; subst e; exact ⟨v, rfl, h1⟩
    | succ i => simp at e; obtain ⟨w, hw, hv⟩ := VL.get h2 e; exact ⟨w, by simpa using hw, hv⟩
theorem VL.of_get : ∀ {as : List AV} {vs : List Value}, vs.length = as.length → (∀ (i : Nat) (a : AV) (v : Value), as[i]? = some a → vs[i]? = some v → V ρ a v) → VL ρ as vs
  | [], vs, hl, _ => by simp only [VL]; exact List.eq_nil_of_length_eq_zero hl
  | a :: as, [], hl, _ => by simp at hl
  | a :: as, v :: vs, hl, h => by
    simp only [VL]
    exact ⟨v, vs, rfl, h 0 a v rfl rfl, VL.of_get (by simpa using hl) fun i b u e1 e2 => h (i + 1) b u (by simpa using e1) (by simpa using e2)⟩
theorem VL.append {as bs : List AV} {vs us : List Value} (h : VL ρ as vs) (h' : VL ρ bs us) : VL ρ (as ++ bs) (vs ++ us) := by
  induction as generalizing vs with
  | nil => simp only [VL] at h; subst h; simpa using h'
  | cons a as ih =>
    simp only [VL] at h; obtain ⟨v, r, rfl, h1, h2⟩ := h
    simp only [List.cons_append, VL]
    exact ⟨v, _, rfl, h1, ih h2⟩
theorem VL.drop {as : List AV} {vs : List Value} (h : VL ρ as vs) (n : Nat) : VL ρ (as.drop n) (vs.drop n) :=
  VL.of_get (by simp [h.length]) fun i a v e1 e2 => by
    rw [List.getElem?_drop] at e1 e2
    obtain ⟨u, hu, hv⟩ := h.get e1
    rw [e2] at hu; cases hu; exact hv
theorem VL.take {as : List AV} {vs : List Value} (h : VL ρ as vs) (n : Nat) : VL ρ (as.take n) (vs.take n) :=
  VL.of_get (by simp [h.length]) fun i a v e1 e2 => by
    rw [List.getElem?_take] at e1 e2
    split at e1
    · rename_i hlt; rw [if_pos hlt] at e2
      obtain ⟨u, hu, hv⟩ := h.get e1
      rw [e2] at hu; cases hu; exact hv
    · cases e1
theorem VL.set {as : List AV} {vs : List Value} (h : VL ρ as vs) (n : Nat) {a : AV} {v : Value} (hv : V ρ a v) : VL ρ (as.set n a) (vs.set n v) :=
  VL.of_get (by simp [h.length]) fun i b u e1 e2 => by
    rw [List.getElem?_set] at e1 e2
    split at e1
    · rename_i hn
      subst hn
      simp only [if_true] at e2
      split at e1
      · cases e1
        split at e2
        · cases e2; exact hv
        · cases e2
      · cases e1
    · rename_i hn
      rw [if_neg hn] at e2
      obtain ⟨w, hw, hv'⟩ := h.get e1
      rw [e2] at hw; cases hw; exact hv'
theorem VL.map {f : AV → AV} {g : Value → Value} {as : List AV} {vs : List Value} (h : VL ρ as vs) (hf : ∀ a v, V ρ a v → V ρ (f a) (g v)) : VL ρ (as.map f) (vs.map g) := by
  induction as generalizing vs with
  | nil => simp only [VL] at h; subst h; simp [VL]
  | cons a as ih =>
    simp only [VL] at h; obtain ⟨v, r, rfl, h1, h2⟩ := h
    simp only [List.map_cons, VL]
    exact ⟨_, _, rfl, hf _ _ h1, ih h2⟩
end VL

/-- a marked variable is a whole block of its type -/
def MarkOk (d : Dat) (p : Pos) (cs : Array Value) (e : TypeId) : Prop := ∀ T, d.mark = some T → e = T ∧ p.off = 0 ∧ (d.isGen = true → cs.size = d.stride)
theorem MarkOk.none {d : Dat} {p : Pos} {cs : Array Value} {e : TypeId} (h : d.mark = none) : MarkOk d p cs e := fun T hT => by rw [h] at hT; cases hT
/-- what the abstract heap says of a world -/
structure SatH (ρ : Rho) (h : Heap) (w : World) : Prop where
  pos : ∀ b x, h b = some x → ∃ p, ρ b = some p ∧ p.stride = x.dat.stride ∧ p.len = x.dat.len ∧ p.len ≤ p.cap ∧ p.cap ≤ maxLen
  wf : ∀ b x, h b = some x → ∀ i, i < x.dat.len → (x.dat.row i).length = x.dat.stride ∧ (x.dat.row i).all AV.isCell = true
  cells : ∀ b x p, h b = some x → ρ b = some p → ∀ i, i < x.dat.len → ∀ j av, (x.dat.row i)[j]? = some av → ∃ c, w.cell? (p.addr i j) = some c ∧ V ρ av c
  own : ∀ b x p, h b = some x → x.own = true → ρ b = some p → 0 < p.cap → ∃ cs e, w.heap[p.block]? = some (.cells cs e (0, 0)) ∧ p.off + p.cap * p.stride ≤ cs.size ∧ MarkOk x.dat p cs e
  apart : ∀ b x p b' x' p', h b = some x → x.own = true → ρ b = some p → 0 < p.cap → h b' = some x' → ρ b' = some p' → b ≠ b' →
    ((x'.own = true ∧ 0 < p'.cap) ∨ (0 < p'.len ∧ 0 < p'.stride)) → p.block ≠ p'.block

/-- the blocks of the model's that are the state's own -/
def ownB (ρ : Rho) (h : Heap) (k : Nat) : Prop := ∃ b x p, h b = some x ∧ x.own = true ∧ ρ b = some p ∧ 0 < p.cap ∧ p.block = k

structure Ext (O : Nat → Prop) (w w' : World) : Prop where
  os : w'.os = w.os
  tape : w'.tape = w.tape
  output : w'.output = w.output
  size : w.heap.size ≤ w'.heap.size
  block : ∀ k, k < w.heap.size → ¬ O k → w'.heap[k]? = w.heap[k]?
  frozen : ∀ a : Addr, a.block < w.heap.size → ¬ O a.block → w'.frozen? a = w.frozen? a
theorem Ext.refl (O : Nat → Prop) (w : World) : Ext O w w := ⟨rfl, rfl, rfl, Nat.le_refl _, fun _ _ _ => rfl, fun _ _ _ => rfl⟩
theorem Ext.drew (O : Nat → Prop) (w : World) : Ext O w w.drew := ⟨rfl, rfl, rfl, Nat.le_refl _, fun _ _ _ => rfl, fun _ _ _ => rfl⟩
theorem Ext.mono {O O' : Nat → Prop} {w w' : World} (h : Ext O w w') (ho : ∀ k, k < w.heap.size → O k → O' k) : Ext O' w w' :=
  ⟨h.os, h.tape, h.output, h.size, fun k hk hn => h.block k hk fun hO => hn (ho k hk hO), fun a ha hn => h.frozen a ha fun hO => hn (ho _ ha hO)⟩

/-- one step: from O (the own blocks before) to O' (those behind) -/
structure Stp (O O' : Nat → Prop) (w w' : World) : Prop where
  ext : Ext O w w'
  sub : ∀ k, O' k → O k ∨ w.heap.size ≤ k
theorem Stp.refl (O : Nat → Prop) (w : World) : Stp O O w w := ⟨Ext.refl _ _, fun _ h => .inl h⟩
theorem Stp.trans {A B C : Nat → Prop} {u v w : World} (h : Stp A B u v) (h' : Stp B C v w) : Stp A C u w where
  ext := ⟨h'.ext.os.trans h.ext.os, h'.ext.tape.trans h.ext.tape, h'.ext.output.trans h.ext.output, Nat.le_trans h.ext.size h'.ext.size, fun k hk hn => by
    rw [h'.ext.block k (Nat.lt_of_lt_of_le hk h.ext.size) fun hB => ?_, h.ext.block k hk hn]
    rcases h.sub k hB with h1 | h1
    · exact hn h1
    · omega, fun a ha hn => (h'.ext.frozen a (Nat.lt_of_lt_of_le ha h.ext.size) fun hB => by
      rcases h.sub _ hB with h1 | h1
      · exact hn h1
      · omega).trans (h.ext.frozen a ha hn)⟩
  sub k hC := by
    rcases h'.sub k hC with h1 | h1
    · exact h.sub k h1
    · exact .inr (Nat.le_trans h.ext.size h1)

/-- a datum lies at a place -/
structure RdD (w : World) (d : Dat) (p : Pos) : Prop where
  stride : p.stride = d.stride
  len : p.len = d.len
  cap : p.len ≤ p.cap
  max : p.cap ≤ maxLen
  wf : ∀ i, i < d.len → (d.row i).length = d.stride ∧ (d.row i).all AV.isCell = true
  cells : ∀ i, i < d.len → ∀ j av, (d.row i)[j]? = some av → ∃ c, w.cell? (p.addr i j) = some c ∧ V (fun _ => none) av c
def globPos (g : Nat) (d : Dat) : Pos := ⟨g, 0, d.stride, d.len, d.len⟩
/-- the package-level variables hold what is said of them, and none of them is the state's own -/
structure GOk (E : Env) (O : Nat → Prop) (w : World) : Prop where
  laid : ∀ g d, E.glob g = some d → g < E.ng ∧ RdD w d (globPos g d)
  size : E.ng ≤ w.heap.size
  base : ∀ g, g < E.ng → w.heap[g]? = E.base g
  own : ∀ k, O k → E.ng ≤ k
theorem GOk.step {E : Env} {O O' : Nat → Prop} {w w' : World} (h : GOk E O w) (hs : Stp O O' w w') : GOk E O' w' where
  laid g d hg := by
    obtain ⟨h1, h2⟩ := h.laid g d hg
    refine ⟨h1, h2.stride, h2.len, h2.cap, h2.max, h2.wf, fun i hi j av hav => ?_⟩
    obtain ⟨c, hc, hv⟩ := h2.cells i hi j av hav
    refine ⟨c, ?_, hv⟩
    have : w'.heap[g]? = w.heap[g]? := hs.ext.block g (by have := h.size; omega) fun hO => by have := h.own g hO; omega
    unfold World.cell? at hc ⊢
    simp only [Pos.addr, globPos] at hc ⊢
    rw [this]; exact hc
  size := Nat.le_trans h.size hs.ext.size
  base g hg := (hs.ext.block g (by have := h.size; omega) fun hO => by have := h.own g hO; omega).trans (h.base g hg)
  own k hk := by
    rcases hs.sub k hk with h1 | h1
    · exact h.own k h1
    · exact Nat.le_trans h.size h1

structure Sat (E : Env) (ρ : Rho) (st : AState) (a : Act) (w : World) : Prop where
  h : SatH ρ st.h w
  g : GOk E (ownB ρ st.h) w
  size : a.tmps.size = st.n
  t : ∀ i, V ρ (st.t i) (a.tmps.getD i undef)
  dom : ∀ b, ρ b ≠ none → b < st.τ * 262144 ∨ globBase ≤ b
  glob : ∀ g p, ρ (globBase + g) = some p → p.block = g ∧ p.off = 0

theorem bytes_mk (s : ByteArray) : (⟨s.data.toList.toArray⟩ : ByteArray) = s := by cases s; simp

theorem ofCell_V (ρ : Rho) (v : Value) : V ρ (AV.ofCell v) v := by
  unfold AV.ofCell
  split <;> simp [V]
theorem ofVal_V (ρ : Rho) (v : Value) : V ρ (AV.ofVal v) v := by
  unfold AV.ofVal
  have key : ∀ l : List Value, VL ρ (l.map AV.ofCell) l := by
    intro l
    induction l with
    | nil => simp [VL]
    | cons x l ih => simp only [List.map_cons, VL]; exact ⟨x, l, rfl, ofCell_V ρ x, ih⟩
  split
  · simp only [V]; exact ⟨_, rfl, key _⟩
  · simp only [V]; exact ⟨_, rfl, key _⟩
  · exact ofCell_V ρ _

theorem Sat.ev {E : Env} {ρ : Rho} {st : AState} {a : Act} {w : World} (h : Sat E ρ st a w) (o : Operand) : V ρ (Am.ev st o) (a.eval o) := by
  cases o with
  | tmp t => exact h.t t
  | const v => exact ofVal_V ρ v
  | global g =>
    simp only [Am.ev, Act.eval]
    split
    · rename_i x hx
      obtain ⟨p, hp, _⟩ := h.h.pos _ x hx
      obtain ⟨hb, ho⟩ := h.glob g p hp
      simp only [V]
      exact ⟨p, hp, by simp [Pos.addr, hb, ho]⟩
    · simp [V]
  | func f => simp [Am.ev, Act.eval, V, VL]

end Go.Am
