/-
  Texts put together: OrdPure, JoinPure, CircPure, EndPure.
-/
import Derived.Test.YtdckpbeioemopaaGrA
namespace Go.Am
theorem sub_perm {α : Type} [DecidableEq α] : ∀ {l1 l2 : List α}, l1.Nodup → l1 ⊆ l2 → ∃ r, (l1 ++ r).Perm l2
  | [], l2, _, _ => ⟨l2, List.Perm.refl _⟩
  | x :: t, l2, h1, h2 => by
    obtain ⟨hx, ht⟩ := List.nodup_cons.1 h1
    have hm : x ∈ l2 := h2 (List.mem_cons_self ..)
    obtain ⟨r, hr⟩ := sub_perm (l2 := l2.erase x) ht fun y hy => (List.mem_erase_of_ne (a := y) (b := x) (by rintro rfl; exact hx hy)).2 (h2 (List.mem_cons_of_mem _ hy))
    exact ⟨r, (hr.cons x).trans (List.perm_cons_erase hm).symm⟩
theorem sub_len {α : Type} [DecidableEq α] {l1 l2 : List α} (h1 : l1.Nodup) (h2 : l1 ⊆ l2) : l1.length ≤ l2.length := by
  obtain ⟨r, hr⟩ := sub_perm h1 h2
  have := hr.length_eq
  simp at this; omega
theorem sub_perm_le {α : Type} [DecidableEq α] {l1 l2 : List α} (h1 : l1.Nodup) (h2 : l1 ⊆ l2) (h3 : l2.length ≤ l1.length) : l1.Perm l2 := by
  obtain ⟨r, hr⟩ := sub_perm h1 h2
  have := hr.length_eq
  have hz : r = [] := List.eq_nil_of_length_eq_zero (by simp at this; omega)
  subst hz
  simpa using hr
def cntP (C : List Chn) (p : List Int) (v : Int) : Nat := (C.filter fun c => decide (c.dst = v) && !p.contains c.src).length
def rdyN (C : List Chn) (p : List Int) (i : Int) : Bool := !p.contains i && decide (cntP C p i = 0)
def nextN (n : Nat) (C : List Chn) (p : List Int) : Int := match (List.range n).find? fun (i : Nat) => rdyN C p (i : Int) with
  | none => -1
  | some i => (i : Int)
def ordGo (n : Nat) (C : List Chn) : Nat → List Int → List Int
  | 0, p => p
  | k + 1, p => bif decide (nextN n C p < 0) then p else ordGo n C k (p ++ [nextN n C p])
def ordN (n : Nat) (C : List Chn) : List Int := ordGo n C n []
structure Plc (n : Nat) (C : List Chn) (p : List Int) : Prop where
  nd : p.Nodup
  rng : ∀ x ∈ p, 0 ≤ x ∧ x < (n : Int)
  shut : ∀ c ∈ C, c.dst ∈ p → c.src ∈ p
theorem Plc.nil (n : Nat) (C : List Chn) : Plc n C [] := ⟨List.nodup_nil, (fun _ h => by cases h), (fun _ _ h => by cases h)⟩
theorem rdyN_is {C : List Chn} {p : List Int} {i : Int} : rdyN C p i = true ↔ i ∉ p ∧ cntP C p i = 0 := by
  unfold rdyN
  simp
theorem cntP_zero {C : List Chn} {p : List Int} {v : Int} : cntP C p v = 0 ↔ ∀ c ∈ C, c.dst = v → c.src ∈ p := by
  unfold cntP
  rw [List.length_eq_zero_iff, List.filter_eq_nil_iff]
  simp
def Least (n : Nat) (C : List Chn) (p : List Int) (x : Int) : Prop :=
  (x = -1 ∧ ∀ y : Int, 0 ≤ y → y < (n : Int) → rdyN C p y = false) ∨ (0 ≤ x ∧ x < (n : Int) ∧ rdyN C p x = true ∧ ∀ y : Int, 0 ≤ y → y < (n : Int) → rdyN C p y = true → x ≤ y)
theorem least_next (n : Nat) (C : List Chn) (p : List Int) : Least n C p (nextN n C p) := by
  unfold nextN
  split
  · rename_i h
    refine .inl ⟨rfl, fun y h0 hn => ?_⟩
    have := List.find?_eq_none.1 h y.toNat (List.mem_range.2 (by omega))
    rw [show ((y.toNat : Nat) : Int) = y by omega] at this
    simpa using this
  · rename_i i h
    have h1 := List.find?_some h
    have h2 := List.mem_range.1 (List.mem_of_find?_eq_some h)
    refine .inr ⟨by omega, by omega, h1, fun y h0 hn hy => ?_⟩
    rcases Nat.lt_or_ge y.toNat i with h3 | h3
    · exfalso
      obtain ⟨_, aa, bs, he, hno⟩ := List.find?_eq_some_iff_append.1 h
      have hlen : aa.length = i := by
        have h4 : (List.range n)[aa.length]? = some i := by rw [he]; simp
        rw [List.getElem?_range (by
          have := congrArg List.length he
          simp at this; omega)] at h4
        exact Option.some.inj h4
      have h5 : y.toNat ∈ aa := by
        have h6 : (List.range n)[y.toNat]? = some y.toNat := List.getElem?_range (by omega)
        rw [he, List.getElem?_append_left (by omega)] at h6
        exact List.mem_of_getElem? h6
      have := hno _ h5
      rw [show ((y.toNat : Nat) : Int) = y by omega, hy] at this
      cases this
    · omega
theorem least_one {n : Nat} {C : List Chn} {p : List Int} {x y : Int} (hx : Least n C p x) (hy : Least n C p y) : x = y := by
  rcases hx with ⟨rfl, h1⟩ | ⟨a1, a2, a3, a4⟩ <;> rcases hy with ⟨rfl, h2⟩ | ⟨b1, b2, b3, b4⟩
  · rfl
  · rw [h1 y b1 b2] at b3; cases b3
  · rw [h2 x a1 a2] at a3; cases a3
  · have := a4 y b1 b2 b3
    have := b4 x a1 a2 a3
    omega
theorem Plc.next {n : Nat} {C : List Chn} {p : List Int} (h : Plc n C p) {x : Int} (h0 : 0 ≤ x) (hn : x < (n : Int)) (hr : rdyN C p x = true) : Plc n C (p ++ [x]) := by
  obtain ⟨hx, hc⟩ := rdyN_is.1 hr
  refine ⟨?_, fun y hy => ?_, fun c hc' hd => ?_⟩
  · rw [List.nodup_append]
    refine ⟨h.nd, by simp, fun a ha b hb => ?_⟩
    simp at hb
    subst hb
    exact fun e => hx (e ▸ ha)
  · rcases List.mem_append.1 hy with hy | hy
    · exact h.rng y hy
    · simp at hy; subst hy; exact ⟨h0, hn⟩
  · rcases List.mem_append.1 hd with hd | hd
    · exact List.mem_append.2 (.inl (h.shut c hc' hd))
    · simp at hd
      exact List.mem_append.2 (.inl (cntP_zero.1 hc c hc' hd))
theorem Plc.le {n : Nat} {C : List Chn} {p : List Int} (h : Plc n C p) : p.length ≤ n := by
  have h1 : (p.map Int.toNat).Nodup := by
    rw [List.nodup_iff_pairwise_ne, List.pairwise_map]
    refine List.Pairwise.imp_of_mem ?_ h.nd
    intro a b ha hb hne
    have := h.rng a ha
    have := h.rng b hb
    omega
  have h2 : (p.map Int.toNat) ⊆ List.range n := fun y hy => by
    obtain ⟨x, hx, rfl⟩ := List.mem_map.1 hy
    have := h.rng x hx
    exact List.mem_range.2 (by omega)
  have := sub_len h1 h2
  simpa using this
def dnK (C : List Chn) (x v : Int) (k : Nat) : Nat := ((C.take k).filter fun c => decide (c.dst = v) && decide (c.src = x)).length
theorem dnK_zero (C : List Chn) (x v : Int) : dnK C x v 0 = 0 := by simp [dnK]
theorem dnK_succ {C : List Chn} {k : Nat} {c : Chn} (h : C[k]? = some c) (x v : Int) : dnK C x v (k + 1) = dnK C x v k + (if c.dst = v ∧ c.src = x then 1 else 0) := by
  unfold dnK
  rw [List.take_add_one, h, Option.toList_some, List.filter_append, List.length_append]
  congr 1
  by_cases h1 : c.dst = v <;> by_cases h2 : c.src = x <;> simp [h1, h2]
theorem dnK_le (C : List Chn) (x v : Int) (k : Nat) : dnK C x v k ≤ C.length := by
  unfold dnK
  refine Nat.le_trans (List.length_filter_le _ _) ?_
  rw [List.length_take]; omega
theorem cntP_le (C : List Chn) (p : List Int) (v : Int) : cntP C p v ≤ C.length := List.length_filter_le _ _
theorem cnt_place (C : List Chn) (p : List Int) (x v : Int) (hx : x ∉ p) : ∀ C' : List Chn, (C'.filter fun c => decide (c.dst = v) && !(p ++ [x]).contains c.src).length + (C'.filter fun c => decide (c.dst = v) && decide (c.src = x)).length = (C'.filter fun c => decide (c.dst = v) && !p.contains c.src).length
  | [] => rfl
  | c :: r => by
    have ih := cnt_place C p x v hx r
    have h4 : p.contains x = false := by simpa using hx
    have h3 : (p ++ [x]).contains c.src = (p.contains c.src || decide (c.src = x)) := by
      rw [Bool.eq_iff_iff]; simp
    simp only [List.filter_cons, h3]
    by_cases h1 : c.dst = v
    · by_cases h2 : c.src = x
      · rw [h2, h4]
        simp only [h1, decide_true, Bool.true_and, Bool.false_or, Bool.not_true, Bool.not_false, if_true, List.length_cons, Bool.false_eq_true, if_false]
        rw [← ih]; omega
      · cases h5 : p.contains c.src
        · simp only [h1, h2, decide_true, decide_false, Bool.true_and, Bool.false_or, Bool.not_false, if_true, List.length_cons, Bool.false_eq_true, if_false]
          rw [← ih]; omega
        · simp only [h1, h2, decide_true, decide_false, Bool.true_and, Bool.true_or, Bool.not_true, Bool.false_eq_true, if_false]
          exact ih
    · simp only [h1, decide_false, Bool.false_and, Bool.false_eq_true, if_false]
      exact ih
theorem cntP_place {C : List Chn} {p : List Int} {x : Int} (hx : x ∉ p) (v : Int) : (cntP C (p ++ [x]) v : Int) = (cntP C p v : Int) - (dnK C x v C.length : Int) := by
  have := cnt_place C p x v hx C
  unfold cntP dnK
  rw [List.take_length]
  omega
theorem Plc.lead {n : Nat} {C : List Chn} {p : List Int} (h : Plc n C p) {x : Int} (hr : rdyN C p x = true) {c : Chn} (hc : c ∈ C) (hs : c.src = x) : c.dst ∉ p ++ [x] := by
  obtain ⟨hx, h0⟩ := rdyN_is.1 hr
  intro hd
  rcases List.mem_append.1 hd with hd | hd
  · exact hx (hs ▸ h.shut c hc hd)
  · simp at hd
    exact hx (hs ▸ cntP_zero.1 h0 c hc hd)
def inK (C : List Chn) (v : Int) (k : Nat) : Nat := ((C.take k).filter fun c => decide (c.dst = v)).length
theorem inK_zero (C : List Chn) (v : Int) : inK C v 0 = 0 := by simp [inK]
theorem inK_succ {C : List Chn} {k : Nat} {c : Chn} (h : C[k]? = some c) (v : Int) : inK C v (k + 1) = inK C v k + (if c.dst = v then 1 else 0) := by
  unfold inK
  rw [List.take_add_one, h, Option.toList_some, List.filter_append, List.length_append]
  congr 1
  by_cases h1 : c.dst = v <;> simp [h1]
theorem inK_le (C : List Chn) (v : Int) (k : Nat) : inK C v k ≤ C.length := by
  unfold inK
  refine Nat.le_trans (List.length_filter_le _ _) ?_
  rw [List.length_take]; omega
theorem inK_all (C : List Chn) (v : Int) : inK C v C.length = cntP C [] v := by
  unfold inK cntP
  rw [List.take_length]
  congr 1
  apply List.filter_congr
  intro c _
  simp
theorem ordGo_stop {n : Nat} {C : List Chn} {p : List Int} (h : nextN n C p = -1) : ∀ k, ordGo n C k p = p
  | 0 => rfl
  | k + 1 => by unfold ordGo; rw [h]; rfl
theorem ordGo_more {n : Nat} {C : List Chn} {p : List Int} {k : Nat} (h : 0 ≤ nextN n C p) : ordGo n C (k + 1) p = ordGo n C k (p ++ [nextN n C p]) := by
  rw [ordGo, decide_eq_false (by omega), cond_false]
end Go.Am
namespace Go.Am
def insN (C : List Chn) (i : Int) : List Int := (C.filter fun c => decide (c.dst = i)).map fun c => c.inp
def outsN (C : List Chn) (i : Int) : List Int := (C.filter fun c => decide (c.src = i)).map fun c => c.out
def fullN (l : List Int) : Bool := (List.range l.length).all fun j => l.contains (j : Int)
def endsN (l : List Int) (b : Int × Int) : Bool := fullN l && (decide (b.1 ≤ (l.length : Int)) && decide ((l.length : Int) ≤ b.2))
def bndI (k : Int) : Int × Int := bif decide (k = 1) then (0, 0) else bif decide (k = 2) then (1, 1) else bif decide (k = 3) then (1, 1) else bif decide (k = 4) then (1, 4) else bif decide (k = 5) then (2, 2) else bif decide (k = 6) then (1, 3) else (1, 4)
def bndO (k : Int) : Int × Int := bif decide (k = 1) then (1, 1) else bif decide (k = 2) then (1, 2) else bif decide (k = 3) then (1, 3) else bif decide (k = 4) then (1, 1) else bif decide (k = 5) then (1, 1) else (0, 0)
def adjN (b c : Chn) : Bool := decide (c.src < b.src) || (decide (b.src = c.src) && decide (c.out ≤ b.out))
def chn1 (n : Nat) (C : List Chn) (i : Nat) : Bool := chOk n (C.getD i default) && (decide (i = 0) || !adjN (C.getD (i - 1) default) (C.getD i default))
def opr1 (O : List Opr) (C : List Chn) (i : Nat) : Bool := endsN (insN C i) (bndI (O.getD i default).kind) && endsN (outsN C i) (bndO (O.getD i default).kind)
def jnN (O : List Opr) (C : List Chn) : Bool := (List.range C.length).all (chn1 O.length C) && (List.range O.length).all (opr1 O C)
def oprK (o : Opr) : Bool := decide (1 ≤ o.kind ∧ o.kind ≤ 7 ∧ 0 ≤ o.n ∧ o.n ≤ 3)
theorem nat_perm {l : List Int} (hn : l.Nodup) (h : ∀ x ∈ l, 0 ≤ x ∧ x < (l.length : Int)) : (l.map Int.toNat).Perm (List.range l.length) := by
  have h1 : (l.map Int.toNat).Nodup := by
    rw [List.nodup_iff_pairwise_ne, List.pairwise_map]
    refine List.Pairwise.imp_of_mem ?_ hn
    intro a b ha hb hne
    have := h a ha
    have := h b hb
    omega
  have h2 : (l.map Int.toNat) ⊆ List.range l.length := fun y hy => by
    obtain ⟨x, hx, rfl⟩ := List.mem_map.1 hy
    have := h x hx
    exact List.mem_range.2 (by omega)
  exact sub_perm_le h1 h2 (by simp)
theorem full_of {l : List Int} (hn : l.Nodup) (h : ∀ x ∈ l, 0 ≤ x ∧ x < (l.length : Int)) : fullN l = true := by
  unfold fullN
  refine List.all_eq_true.2 fun j hj => List.contains_iff_mem.2 ?_
  have := (nat_perm hn h).mem_iff.2 hj
  obtain ⟨x, hx, rfl⟩ := List.mem_map.1 this
  have := h x hx
  rw [show ((x.toNat : Nat) : Int) = x by omega]
  exact hx
theorem full_perm {l : List Int} (h : fullN l = true) : ((List.range l.length).map fun j : Nat => (j : Int)).Perm l := by
  have h1 : ((List.range l.length).map fun j : Nat => (j : Int)).Nodup := by
    rw [List.nodup_iff_pairwise_ne, List.pairwise_map]
    refine List.Pairwise.imp ?_ (List.nodup_iff_pairwise_ne.1 List.nodup_range)
    intro a b hne; omega
  have h2 : ((List.range l.length).map fun j : Nat => (j : Int)) ⊆ l := fun y hy => by
    obtain ⟨x, hx, rfl⟩ := List.mem_map.1 hy
    exact List.contains_iff_mem.1 (List.all_eq_true.1 h x hx)
  exact sub_perm_le h1 h2 (by simp)
theorem full_mem {l : List Int} (h : fullN l = true) {x : Int} (hx : x ∈ l) : 0 ≤ x ∧ x < (l.length : Int) := by
  obtain ⟨j, hj, rfl⟩ := List.mem_map.1 ((full_perm h).mem_iff.2 hx)
  have := List.mem_range.1 hj
  omega
theorem full_nodup {l : List Int} (h : fullN l = true) : l.Nodup := by
  refine (full_perm h).nodup_iff.1 ?_
  rw [List.nodup_iff_pairwise_ne, List.pairwise_map]
  refine List.Pairwise.imp ?_ (List.nodup_iff_pairwise_ne.1 List.nodup_range)
  intro a b hne; omega
theorem adj_false {b c : Chn} : adjN b c = false ↔ b.src < c.src ∨ (b.src = c.src ∧ b.out < c.out) := by
  unfold adjN
  rw [Bool.or_eq_false_iff, Bool.and_eq_false_iff, decide_eq_false_iff_not, decide_eq_false_iff_not, decide_eq_false_iff_not]
  omega
theorem badC_false {d c : Chn} : badC d c = false ↔ adjN d c = false ∧ ¬ (d.dst = c.dst ∧ d.inp = c.inp) := by
  unfold badC adjN
  by_cases h1 : c.src < d.src <;> by_cases h2 : d.src = c.src <;> by_cases h3 : c.out ≤ d.out <;> simp [h1, h2, h3]
theorem apN_is {C : List Chn} {i : Nat} : apN C i = true ↔ ∀ k, k < i → badC (C.getD k default) (C.getD i default) = false := by
  unfold apN
  rw [Bool.not_eq_true', List.any_eq_false]
  constructor
  · intro h k hk
    have := h k (by rw [List.mem_range'_1]; omega)
    simpa using this
  · intro h k hk
    rw [List.mem_range'_1] at hk
    simpa using h k (by omega)
theorem pair_at {R : Chn → Chn → Prop} {C : List Chn} (h : ∀ i, i < C.length → ∀ k, k < i → R (C.getD k default) (C.getD i default)) : C.Pairwise R := by
  rw [List.pairwise_iff_getElem]
  intro k i hk hi hki
  have := h i hi k hki
  simpa [List.getD, hk, hi] using this
theorem at_pair {R : Chn → Chn → Prop} {C : List Chn} (h : C.Pairwise R) {i k : Nat} (hi : i < C.length) (hk : k < i) : R (C.getD k default) (C.getD i default) := by
  have := List.pairwise_iff_getElem.1 h k i (by omega) hi hk
  simpa [List.getD, hi, show k < C.length by omega] using this
theorem ris_all {n : Nat} {C : List Chn} (h : (List.range C.length).all (chn1 n C) = true) : ∀ i, i < C.length → ∀ k, k < i → adjN (C.getD k default) (C.getD i default) = false := by
  intro i
  induction i with
  | zero => intro _ k hk; omega
  | succ i ih =>
    intro hi k hk
    have h1 := List.all_eq_true.1 h (i + 1) (List.mem_range.2 hi)
    unfold chn1 at h1
    simp only [Bool.and_eq_true, Bool.or_eq_true, decide_eq_true_eq, Bool.not_eq_true'] at h1
    have h2 : adjN (C.getD i default) (C.getD (i + 1) default) = false := by
      rcases h1.2 with h2 | h2
      · omega
      · exact h2
    by_cases hk' : k = i
    · rw [hk']; exact h2
    · have h3 := ih (by omega) k (by omega)
      rw [adj_false] at h2 h3 ⊢
      omega
theorem outs_nodup {C : List Chn} (h : C.Pairwise fun b c => adjN b c = false) (i : Int) : (outsN C i).Nodup := by
  unfold outsN
  rw [List.nodup_iff_pairwise_ne, List.pairwise_map]
  refine List.Pairwise.imp_of_mem ?_ (h.filter _)
  intro a b ha hb hab
  have h1 := (List.mem_filter.1 ha).2
  have h2 := (List.mem_filter.1 hb).2
  simp only [decide_eq_true_eq] at h1 h2
  rw [adj_false] at hab
  omega
theorem ins_nodup {C : List Chn} (h : C.Pairwise fun d c => ¬ (d.dst = c.dst ∧ d.inp = c.inp)) (i : Int) : (insN C i).Nodup := by
  unfold insN
  rw [List.nodup_iff_pairwise_ne, List.pairwise_map]
  refine List.Pairwise.imp_of_mem ?_ (h.filter _)
  intro a b ha hb hab e
  have h1 := (List.mem_filter.1 ha).2
  have h2 := (List.mem_filter.1 hb).2
  simp only [decide_eq_true_eq] at h1 h2
  exact hab ⟨h1.trans h2.symm, e⟩
theorem ins_pair {C : List Chn} (h : ∀ i : Int, (∃ c ∈ C, c.dst = i) → (insN C i).Nodup) : C.Pairwise fun d c => ¬ (d.dst = c.dst ∧ d.inp = c.inp) := by
  induction C with
  | nil => exact List.Pairwise.nil
  | cons c r ih =>
    refine List.Pairwise.cons (fun d hd => ?_) (ih fun i hi => ?_)
    · rintro ⟨e1, e2⟩
      have h1 := h c.dst ⟨c, List.mem_cons_self .., rfl⟩
      unfold insN at h1
      rw [List.filter_cons_of_pos (by simp), List.map_cons, List.nodup_cons] at h1
      exact h1.1 (List.mem_map.2 ⟨d, List.mem_filter.2 ⟨hd, by simp [e1]⟩, e2.symm⟩)
    · obtain ⟨d, hd, rfl⟩ := hi
      have h1 := h d.dst ⟨d, List.mem_cons_of_mem _ hd, rfl⟩
      unfold insN at h1 ⊢
      by_cases hc : c.dst = d.dst
      · rw [List.filter_cons_of_pos (by simp [hc]), List.map_cons, List.nodup_cons] at h1
        exact h1.2
      · rw [List.filter_cons_of_neg (by simp [hc])] at h1
        exact h1
theorem many_is {k a b : Int} : manyN k a b = true ↔ (1 ≤ k ∧ k ≤ 7) ∧ ((bndI k).1 ≤ a ∧ a ≤ (bndI k).2) ∧ ((bndO k).1 ≤ b ∧ b ≤ (bndO k).2) := by
  unfold manyN bndI bndO
  by_cases h1 : k = 1
  · subst h1; simp; omega
  by_cases h2 : k = 2
  · subst h2; simp; omega
  by_cases h3 : k = 3
  · subst h3; simp; omega
  by_cases h4 : k = 4
  · subst h4; simp; omega
  by_cases h5 : k = 5
  · subst h5; simp; omega
  by_cases h6 : k = 6
  · subst h6; simp; omega
  by_cases h7 : k = 7
  · subst h7; simp; omega
  simp [h1, h2, h3, h4, h5, h6, h7]; omega
theorem inpN_len (C : List Chn) (i : Int) : inpN C i = ((insN C i).length : Int) := by unfold inpN insN; rw [List.length_map]
theorem outpN_len (C : List Chn) (i : Int) : outpN C i = ((outsN C i).length : Int) := by unfold outpN outsN; rw [List.length_map]
def noCir (n : Nat) (C : List Chn) : Bool := (List.range n).all fun i => !(reachN n C (i : Int)).getD i false
theorem getD_mem {C : List Chn} {i : Nat} (h : i < C.length) : C.getD i default ∈ C := by
  rw [show C.getD i default = C[i] by simp [List.getD, h]]
  exact List.getElem_mem h
theorem mem_getD {C : List Chn} {c : Chn} (h : c ∈ C) : ∃ i, i < C.length ∧ C.getD i default = c := by
  obtain ⟨i, hi, e⟩ := List.getElem_of_mem h
  exact ⟨i, hi, by simp [List.getD, hi, e]⟩
theorem validN_is {O : List Opr} {C : List Chn} : validN O C = true ↔ (O.all oprK = true ∧ jnN O C = true) ∧ noCir O.length C = true := by
  constructor
  · intro h
    unfold validN at h
    rw [Bool.and_eq_true, Bool.and_eq_true] at h
    obtain ⟨h1, h2, h3⟩ := h
    have hc2 : ∀ i, i < C.length → ch2 C i = true := fun i hi => List.all_eq_true.1 h2 i (by rw [List.mem_range'_1]; omega)
    have ho : ∀ i, i < O.length → opOk O C i = true := fun i hi => List.all_eq_true.1 h3 i (by rw [List.mem_range'_1]; omega)
    have hap : ∀ i, i < C.length → ∀ k, k < i → badC (C.getD k default) (C.getD i default) = false := fun i hi => by
      have := hc2 i hi
      unfold ch2 at this
      rw [Bool.and_eq_true] at this
      exact apN_is.1 this.1
    have p1 : C.Pairwise fun b c => adjN b c = false := pair_at fun i hi k hk => (badC_false.1 (hap i hi k hk)).1
    have p2 : C.Pairwise fun d c => ¬ (d.dst = c.dst ∧ d.inp = c.inp) := pair_at fun i hi k hk => (badC_false.1 (hap i hi k hk)).2
    have hfo : ∀ i : Int, fullN (outsN C i) = true := fun i => full_of (outs_nodup p1 i) fun x hx => by
      unfold outsN at hx
      obtain ⟨c, hc, rfl⟩ := List.mem_map.1 hx
      obtain ⟨hc1, hc3⟩ := List.mem_filter.1 hc
      simp only [decide_eq_true_eq] at hc3
      obtain ⟨k, hk, rfl⟩ := mem_getD hc1
      have := hc2 k hk
      unfold ch2 at this
      simp only [Bool.and_eq_true, decide_eq_true_eq] at this
      rw [← outpN_len]
      exact ⟨this.2.1, hc3 ▸ this.2.2.1⟩
    have hfi : ∀ i : Int, fullN (insN C i) = true := fun i => full_of (ins_nodup p2 i) fun x hx => by
      unfold insN at hx
      obtain ⟨c, hc, rfl⟩ := List.mem_map.1 hx
      obtain ⟨hc1, hc3⟩ := List.mem_filter.1 hc
      simp only [decide_eq_true_eq] at hc3
      obtain ⟨k, hk, rfl⟩ := mem_getD hc1
      have := hc2 k hk
      unfold ch2 at this
      simp only [Bool.and_eq_true, decide_eq_true_eq] at this
      rw [← inpN_len]
      exact ⟨this.2.2.2.1, hc3 ▸ this.2.2.2.2⟩
    refine ⟨⟨?_, ?_⟩, ?_⟩
    · refine List.all_eq_true.2 fun o hmem => ?_
      obtain ⟨i, hi, e⟩ := List.getElem_of_mem hmem
      have := ho i hi
      unfold opOk at this
      simp only [Bool.and_eq_true, decide_eq_true_eq] at this
      have e2 : O.getD i default = o := by simp [List.getD, hi, e]
      rw [e2] at this
      unfold oprK
      exact decide_eq_true ⟨(many_is.1 this.2.1).1.1, (many_is.1 this.2.1).1.2, this.1.1, this.1.2⟩
    · unfold jnN
      rw [Bool.and_eq_true]
      refine ⟨List.all_eq_true.2 fun i hi => ?_, List.all_eq_true.2 fun i hi => ?_⟩
      · have hi := List.mem_range.1 hi
        unfold chn1
        rw [Bool.and_eq_true, Bool.or_eq_true, decide_eq_true_eq, Bool.not_eq_true']
        refine ⟨List.all_eq_true.1 h1 _ (getD_mem hi), ?_⟩
        rcases Nat.eq_zero_or_pos i with h0 | h0
        · exact .inl h0
        · exact .inr (badC_false.1 (hap i hi (i - 1) (by omega))).1
      · have hi := List.mem_range.1 hi
        have := ho i hi
        unfold opOk at this
        simp only [Bool.and_eq_true, decide_eq_true_eq] at this
        have hm := many_is.1 this.2.1
        rw [inpN_len, outpN_len] at hm
        unfold opr1 endsN
        rw [hfi, hfo, decide_eq_true hm.2.1.1, decide_eq_true hm.2.1.2, decide_eq_true hm.2.2.1, decide_eq_true hm.2.2.2]; rfl
    · unfold noCir
      refine List.all_eq_true.2 fun i hi => ?_
      have := ho i (List.mem_range.1 hi)
      unfold opOk at this
      simp only [Bool.and_eq_true] at this
      exact this.2.2
  · rintro ⟨⟨h1, h2⟩, h3⟩
    unfold jnN at h2
    rw [Bool.and_eq_true] at h2
    obtain ⟨h2, h4⟩ := h2
    have hr := ris_all h2
    have hch : ∀ c ∈ C, chOk O.length c = true := fun c hc => by
      obtain ⟨i, hi, rfl⟩ := mem_getD hc
      have := List.all_eq_true.1 h2 i (List.mem_range.2 hi)
      unfold chn1 at this
      rw [Bool.and_eq_true] at this
      exact this.1
    have hop : ∀ i, i < O.length → fullN (insN C i) = true ∧ fullN (outsN C i) = true ∧ ((bndI (O.getD i default).kind).1 ≤ inpN C i ∧ inpN C i ≤ (bndI (O.getD i default).kind).2) ∧ ((bndO (O.getD i default).kind).1 ≤ outpN C i ∧ outpN C i ≤ (bndO (O.getD i default).kind).2) := fun i hi => by
      have := List.all_eq_true.1 h4 i (List.mem_range.2 hi)
      unfold opr1 endsN at this
      simp only [Bool.and_eq_true, decide_eq_true_eq] at this
      rw [inpN_len, outpN_len]
      exact ⟨this.1.1, this.2.1, this.1.2, this.2.2⟩
    have hb : ∀ c ∈ C, 0 ≤ c.src ∧ 0 ≤ c.dst ∧ c.src < (O.length : Int) ∧ c.dst < (O.length : Int) := fun c hc => by
      have := hch c hc
      unfold chOk at this
      have := of_decide_eq_true this
      exact ⟨this.1, this.2.1, this.2.2.1, this.2.2.2.1⟩
    have p2 : C.Pairwise fun d c => ¬ (d.dst = c.dst ∧ d.inp = c.inp) := ins_pair fun i hi => by
      obtain ⟨c, hc, rfl⟩ := hi
      have := hb c hc
      have := (hop c.dst.toNat (by omega)).1
      rw [show ((c.dst.toNat : Nat) : Int) = c.dst by omega] at this
      exact full_nodup this
    unfold validN
    rw [Bool.and_eq_true, Bool.and_eq_true]
    refine ⟨List.all_eq_true.2 hch, List.all_eq_true.2 fun i hi => ?_, List.all_eq_true.2 fun i hi => ?_⟩
    · rw [List.mem_range'_1] at hi
      have hi : i < C.length := by omega
      have hm := getD_mem hi
      have hbb := hb _ hm
      have f1 := (hop (C.getD i default).src.toNat (by omega)).2.1
      have f2 := (hop (C.getD i default).dst.toNat (by omega)).1
      rw [show (((C.getD i default).src.toNat : Nat) : Int) = (C.getD i default).src by omega] at f1
      rw [show (((C.getD i default).dst.toNat : Nat) : Int) = (C.getD i default).dst by omega] at f2
      have g1 := full_mem f1 (x := (C.getD i default).out) (List.mem_map.2 ⟨_, List.mem_filter.2 ⟨hm, by simp⟩, rfl⟩)
      have g2 := full_mem f2 (x := (C.getD i default).inp) (List.mem_map.2 ⟨_, List.mem_filter.2 ⟨hm, by simp⟩, rfl⟩)
      rw [← outpN_len] at g1
      rw [← inpN_len] at g2
      unfold ch2
      rw [apN_is.2 fun k hk => badC_false.2 ⟨hr i hi k hk, at_pair p2 hi hk⟩, decide_eq_true g1.1, decide_eq_true g1.2, decide_eq_true g2.1, decide_eq_true g2.2]; rfl
    · rw [List.mem_range'_1] at hi
      have hi : i < O.length := by omega
      have hk : oprK (O.getD i default) = true := by
        refine List.all_eq_true.1 h1 _ ?_
        rw [show O.getD i default = O[i] by simp [List.getD, hi]]
        exact List.getElem_mem hi
      unfold oprK at hk
      have hk := of_decide_eq_true hk
      have h5 := hop i hi
      have h6 := List.all_eq_true.1 h3 i (List.mem_range.2 hi)
      unfold opOk
      rw [decide_eq_true (show 0 ≤ (O.getD i default).n ∧ (O.getD i default).n ≤ 3 from ⟨hk.2.2.1, hk.2.2.2⟩), many_is.2 ⟨⟨hk.1, hk.2.1⟩, h5.2.2.1, h5.2.2.2⟩, h6]; rfl
end Go.Am
namespace Go.Am
inductive Way (C : List Chn) : Int → Int → Prop
  | one {c : Chn} : c ∈ C → Way C c.src c.dst
  | more {a : Int} {c : Chn} : Way C a c.src → c ∈ C → Way C a c.dst
theorem Way.trans {C : List Chn} {a b d : Int} (h : Way C a b) (k : Way C b d) : Way C a d := by
  induction k with
  | one hc => exact .more h hc
  | more _ hc ih => exact .more (ih h) hc
theorem getB_set (R : List Bool) (i v : Nat) : (R.set i true).getD v false = true ↔ (R.getD v false = true ∨ (v = i ∧ i < R.length)) := by
  simp only [List.getD, List.getElem?_set]
  by_cases h : i = v
  · subst h
    by_cases h2 : i < R.length
    · simp [h2]
    · simp [h2]
  · rw [if_neg h]
    constructor
    · exact fun h => .inl h
    · rintro (h1 | ⟨h1, _⟩)
      · exact h1
      · exact absurd h1.symm h
theorem rchGo_way {n : Nat} {C0 : List Chn} (hb : bndC n C0 = true) (f : Int) : ∀ (C : List Chn), C ⊆ C0 → ∀ (R : List Bool), (∀ v : Nat, R.getD v false = true → Way C0 f v) → ∀ v : Nat, (rchGo f C R).getD v false = true → Way C0 f v
  | [], _, R, h => h
  | c :: r, hs, R, h => by
    have hc := hs (List.mem_cons_self ..)
    obtain ⟨b1, _, b3, _⟩ := bndC_mem hb hc
    unfold rchGo
    refine rchGo_way hb f r (fun x hx => hs (List.mem_cons_of_mem _ hx)) _ fun v hv => ?_
    cases hg : (decide (c.src = f) || R.getD c.src.toNat false) with
    | false => rw [hg, cond_false] at hv; exact h v hv
    | true =>
      rw [hg, cond_true] at hv
      rcases (getB_set _ _ _).1 hv with h1 | ⟨rfl, _⟩
      · exact h v h1
      · rw [show ((c.dst.toNat : Nat) : Int) = c.dst by omega]
        rw [Bool.or_eq_true, decide_eq_true_eq] at hg
        rcases hg with rfl | hg
        · exact .one hc
        · have := h _ hg
          rw [show ((c.src.toNat : Nat) : Int) = c.src by omega] at this
          exact .more this hc
theorem rchIt_way {n : Nat} {C : List Chn} (hb : bndC n C = true) (f : Int) : ∀ (k : Nat) (R : List Bool), (∀ v : Nat, R.getD v false = true → Way C f v) → ∀ v : Nat, (rchIt f C k R).getD v false = true → Way C f v
  | 0, _, h => h
  | k + 1, R, h => by
    unfold rchIt
    exact rchIt_way hb f k _ (rchGo_way hb f C (fun _ h => h) R h)
theorem reach_way {n : Nat} {C : List Chn} (hb : bndC n C = true) {f : Int} {v : Nat} (h : (reachN n C f).getD v false = true) : Way C f v :=
  rchIt_way hb f _ _ (fun v hv => by
    simp only [List.getD, List.getElem?_replicate] at hv
    split at hv <;> cases hv) v h
def LeB (A B : List Bool) : Prop := A.length = B.length ∧ ∀ v : Nat, A.getD v false = true → B.getD v false = true
theorem LeB.refl (A : List Bool) : LeB A A := ⟨rfl, fun _ h => h⟩
theorem LeB.trans {A B C : List Bool} (h : LeB A B) (k : LeB B C) : LeB A C := ⟨h.1.trans k.1, fun v hv => k.2 v (h.2 v hv)⟩
theorem LeB.tail {a b : Bool} {A B : List Bool} (h : LeB (a :: A) (b :: B)) : LeB A B := ⟨by simpa using h.1, fun v hv => h.2 (v + 1) hv⟩
theorem LeB.count : ∀ {A B : List Bool}, LeB A B → A.count true ≤ B.count true ∧ (A.count true = B.count true → A = B)
  | [], [], _ => ⟨Nat.le_refl _, fun _ => rfl⟩
  | [], _ :: _, h => by have := h.1; simp at this
  | _ :: _, [], h => by have := h.1; simp at this
  | a :: A, b :: B, h => by
    obtain ⟨h1, h2⟩ := LeB.count h.tail
    have h0 : a = true → b = true := h.2 0
    cases a <;> cases b
    · simp only [List.count_cons, beq_iff_eq]
      exact ⟨by simpa using h1, fun e => by rw [h2 (by simpa using e)]⟩
    · simp only [List.count_cons]
      exact ⟨by simp; omega, fun e => by simp at e; omega⟩
    · exact absurd (h0 rfl) (by simp)
    · simp only [List.count_cons]
      exact ⟨by simpa using h1, fun e => by rw [h2 (by simpa using e)]⟩
theorem LeB.anti {A B : List Bool} (h : LeB A B) (k : LeB B A) : A = B := h.count.2 (Nat.le_antisymm h.count.1 k.count.1)
def stepB (f : Int) (c : Chn) (R : List Bool) : List Bool := bif decide (c.src = f) || R.getD c.src.toNat false then R.set c.dst.toNat true else R
theorem step_le (f : Int) (c : Chn) (R : List Bool) : LeB R (stepB f c R) := by
  unfold stepB
  cases decide (c.src = f) || R.getD c.src.toNat false with
  | false => exact LeB.refl _
  | true => exact ⟨by simp, fun v hv => (getB_set _ _ _).2 (.inl hv)⟩
theorem rchGo_cons (f : Int) (c : Chn) (r : List Chn) (R : List Bool) : rchGo f (c :: r) R = rchGo f r (stepB f c R) := rfl
theorem rchGo_le (f : Int) : ∀ (C : List Chn) (R : List Bool), LeB R (rchGo f C R)
  | [], R => LeB.refl R
  | c :: r, R => (step_le f c R).trans (rchGo_le f r _)
theorem rchGo_shut (f : Int) : ∀ (C : List Chn) (R : List Bool), rchGo f C R = R → ∀ c ∈ C, c.dst.toNat < R.length → (c.src = f ∨ R.getD c.src.toNat false = true) → R.getD c.dst.toNat false = true
  | [], _, _, c, hc, _, _ => by cases hc
  | d :: r, R, h, c, hc, hlt, hg => by
    rw [rchGo_cons] at h
    have h1 : stepB f d R = R := LeB.anti (by have := rchGo_le f r (stepB f d R); rw [h] at this; exact this) (step_le f d R)
    rcases List.mem_cons.1 hc with rfl | hc
    · have h2 : (stepB f c R).getD c.dst.toNat false = true := by
        unfold stepB
        rw [show (decide (c.src = f) || R.getD c.src.toNat false) = true by rw [Bool.or_eq_true, decide_eq_true_eq]; exact hg, cond_true]
        exact (getB_set _ _ _).2 (.inr ⟨rfl, hlt⟩)
      rw [h1] at h2; exact h2
    · rw [h1] at h
      exact rchGo_shut f r R h c hc hlt hg
theorem rchIt_fix (f : Int) (C : List Chn) {R : List Bool} (h : rchGo f C R = R) : ∀ k, rchIt f C k R = R
  | 0 => rfl
  | k + 1 => by
    unfold rchIt
    rw [h]; exact rchIt_fix f C h k
theorem rchIt_end (f : Int) (C : List Chn) : ∀ (k : Nat) (R : List Bool), R.length < k + R.count true → rchGo f C (rchIt f C k R) = rchIt f C k R
  | 0, R, h => by have := List.count_le_length (a := true) (l := R); omega
  | k + 1, R, h => by
    by_cases he : rchGo f C R = R
    · rw [rchIt_fix f C he (k + 1)]; exact he
    · unfold rchIt
      have hl := rchGo_le f C R
      have hc := hl.count
      refine rchIt_end f C k _ ?_
      rw [rchGo_len]
      have : R.count true ≠ (rchGo f C R).count true := fun e => he (hc.2 e).symm
      omega
theorem way_reach {n : Nat} {C : List Chn} (hb : bndC n C = true) {a b : Int} (h : Way C a b) : (reachN n C a).getD b.toNat false = true := by
  have hfix : ∀ a, rchGo a C (reachN n C a) = reachN n C a := fun a => by
    unfold reachN
    refine rchIt_end a C (n + 1) _ ?_
    rw [List.length_replicate]; omega
  have hlt : ∀ a, ∀ c ∈ C, c.dst.toNat < (reachN n C a).length := fun a c hc => by
    have := bndC_mem hb hc
    rw [reachN_len n C a]; omega
  induction h with
  | one hc => exact rchGo_shut _ C _ (hfix _) _ hc (hlt _ _ hc) (.inl rfl)
  | more _ hc ih => exact rchGo_shut _ C _ (hfix _) _ hc (hlt _ _ hc) (.inr ih)
theorem noC_is {n : Nat} {C : List Chn} (hb : bndC n C = true) : noCir n C = true ↔ ∀ i : Nat, i < n → ¬ Way C i i := by
  unfold noCir
  rw [List.all_eq_true]
  constructor
  · intro h i hi hw
    have h1 := h i (List.mem_range.2 hi)
    have h2 := way_reach hb hw
    rw [Int.toNat_natCast] at h2
    rw [h2] at h1
    cases h1
  · intro h i hi
    cases hr : (reachN n C (i : Int)).getD i false with
    | false => rfl
    | true => exact absurd (reach_way hb hr) (h i (List.mem_range.1 hi))
def Topo (C : List Chn) (p : List Int) : Prop := ∀ (k : Nat) (x : Int), p[k]? = some x → ∀ c ∈ C, c.dst = x → ∃ j, j < k ∧ p[j]? = some c.src
theorem Topo.nil (C : List Chn) : Topo C [] := fun k x h => by simp at h
theorem Topo.next {C : List Chn} {p : List Int} (h : Topo C p) {x : Int} (hr : rdyN C p x = true) : Topo C (p ++ [x]) := by
  intro k y hk c hc hd
  rcases Nat.lt_or_ge k p.length with h1 | h1
  · rw [List.getElem?_append_left h1] at hk
    obtain ⟨j, hj, e⟩ := h k y hk c hc hd
    exact ⟨j, hj, by rw [List.getElem?_append_left (by omega)]; exact e⟩
  · have hk2 : k = p.length := by
      have := (List.getElem?_eq_some_iff.1 hk).1
      simp at this; omega
    subst hk2
    simp at hk
    subst hk
    have := cntP_zero.1 (rdyN_is.1 hr).2 c hc hd
    obtain ⟨j, hj⟩ := List.getElem?_of_mem this
    have hjl := (List.getElem?_eq_some_iff.1 hj).1
    exact ⟨j, hjl, by rw [List.getElem?_append_left hjl]; exact hj⟩
theorem Topo.way {C : List Chn} {p : List Int} (h : Topo C p) {a b : Int} (hw : Way C a b) : ∀ k : Nat, p[k]? = some b → ∃ j, j < k ∧ p[j]? = some a := by
  induction hw with
  | one hc => exact fun k hk => h k _ hk _ hc rfl
  | more _ hc ih =>
    intro k hk
    obtain ⟨j, hj, e⟩ := h k _ hk _ hc rfl
    obtain ⟨i, hi, e2⟩ := ih j e
    exact ⟨i, by omega, e2⟩
theorem Topo.free {C : List Chn} {p : List Int} (h : Topo C p) {a : Int} (hw : Way C a a) : a ∉ p := by
  have key : ∀ k : Nat, p[k]? ≠ some a := by
    intro k
    induction k using Nat.strongRecOn with
    | _ k ih =>
      intro hk
      obtain ⟨j, hj, e⟩ := h.way hw k hk
      exact ih j hj e
  intro hm
  obtain ⟨k, hk⟩ := List.getElem?_of_mem hm
  exact key k hk
theorem ordGo_end {n : Nat} {C : List Chn} : ∀ (k : Nat) (p : List Int), Plc n C p → Topo C p → p.length + k = n →
    Plc n C (ordGo n C k p) ∧ Topo C (ordGo n C k p) ∧ ((ordGo n C k p).length = n ∨ nextN n C (ordGo n C k p) = -1)
  | 0, p, h, t, e => ⟨h, t, .inl e⟩
  | k + 1, p, h, t, e => by
    rcases least_next n C p with ⟨h1, _⟩ | ⟨h0, hn, hr, _⟩
    · rw [ordGo_stop h1]
      exact ⟨h, t, .inr h1⟩
    · rw [ordGo_more h0]
      exact ordGo_end k _ (h.next h0 hn hr) (t.next hr) (by simp; omega)
theorem ordN_end (n : Nat) (C : List Chn) : Plc n C (ordN n C) ∧ Topo C (ordN n C) ∧ ((ordN n C).length = n ∨ nextN n C (ordN n C) = -1) :=
  ordGo_end n [] (Plc.nil n C) (Topo.nil C) (by simp)
theorem Plc.all {n : Nat} {C : List Chn} {p : List Int} (h : Plc n C p) (hl : p.length = n) {i : Nat} (hi : i < n) : (i : Int) ∈ p := by
  have h1 := nat_perm h.nd fun x hx => by rw [hl]; exact h.rng x hx
  have := h1.mem_iff.2 (List.mem_range.2 (show i < p.length by omega))
  obtain ⟨x, hx, e⟩ := List.mem_map.1 this
  have := h.rng x hx
  rw [show (i : Int) = x by omega]
  exact hx
theorem pigeon {n : Nat} (f : Nat → Int) (h : ∀ k, 0 ≤ f k ∧ f k < (n : Int)) : ∃ i j, i < j ∧ f i = f j := by
  by_cases hnd : ((List.range (n + 1)).map fun k => (f k).toNat).Nodup
  · have h2 : ((List.range (n + 1)).map fun k => (f k).toNat) ⊆ List.range n := fun y hy => by
      obtain ⟨x, _, rfl⟩ := List.mem_map.1 hy
      have := h x
      exact List.mem_range.2 (by omega)
    have := sub_len hnd h2
    simp at this
    omega
  · rw [List.nodup_iff_pairwise_ne, List.pairwise_map, List.pairwise_iff_getElem] at hnd
    have : ∃ i j, i < j ∧ (f i).toNat = (f j).toNat := by
      refine Classical.byContradiction fun hno => hnd fun i j hi hj hij he => hno ?_
      simp at he
      exact ⟨i, j, hij, he⟩
    obtain ⟨i, j, hij, he⟩ := this
    have := h i
    have := h j
    exact ⟨i, j, hij, by omega⟩
theorem circle {n : Nat} {C : List Chn} (U : Int → Prop) (hU : ∀ x, U x → 0 ≤ x ∧ x < (n : Int)) (hp : ∀ x, U x → ∃ y, U y ∧ Way C y x) {u : Int} (hu : U u) : ∃ i : Nat, i < n ∧ Way C i i := by
  have hp' : ∀ x : { x // U x }, ∃ y : { x // U x }, Way C y.1 x.1 := fun x => by
    obtain ⟨y, h1, h2⟩ := hp x.1 x.2
    exact ⟨⟨y, h1⟩, h2⟩
  let g : { x // U x } → { x // U x } := fun x => Classical.choose (hp' x)
  have hg : ∀ x, Way C (g x).1 x.1 := fun x => Classical.choose_spec (hp' x)
  let s : Nat → { x // U x } := fun k => Nat.rec ⟨u, hu⟩ (fun _ x => g x) k
  have hs : ∀ k, Way C (s (k + 1)).1 (s k).1 := fun k => hg (s k)
  have hw : ∀ i d, Way C (s (i + d + 1)).1 (s i).1 := by
    intro i d
    induction d with
    | zero => exact hs i
    | succ d ih => exact (hs (i + d + 1)).trans ih
  obtain ⟨i, j, hij, he⟩ := pigeon (n := n) (fun k => (s k).1) fun k => hU _ (s k).2
  have h1 := hw i (j - i - 1)
  rw [show i + (j - i - 1) + 1 = j by omega] at h1
  have he : (s i).1 = (s j).1 := he
  rw [← he] at h1
  have h2 := hU _ (s i).2
  refine ⟨(s i).1.toNat, by omega, ?_⟩
  rw [show (((s i).1.toNat : Nat) : Int) = (s i).1 by omega]
  exact h1
theorem ord_full {n : Nat} {C : List Chn} (hb : bndC n C = true) : (ordN n C).length = n ↔ noCir n C = true := by
  obtain ⟨h1, h2, h3⟩ := ordN_end n C
  rw [noC_is hb]
  constructor
  · intro hl i hi hw
    exact h2.free hw (h1.all hl hi)
  · intro hno
    rcases h3 with h3 | h3
    · exact h3
    · refine Classical.byContradiction fun hne => ?_
      have hle := h1.le
      have hmiss : ∃ u : Int, (0 ≤ u ∧ u < (n : Int)) ∧ u ∉ ordN n C := by
        refine Classical.byContradiction fun hno2 => ?_
        have hsub : List.range n ⊆ (ordN n C).map Int.toNat := fun i hi => by
          have hi := List.mem_range.1 hi
          have : (i : Int) ∈ ordN n C := Classical.byContradiction fun hn => hno2 ⟨i, ⟨by omega, by omega⟩, hn⟩
          exact List.mem_map.2 ⟨_, this, by simp⟩
        have := sub_len List.nodup_range hsub
        simp at this
        omega
      obtain ⟨u, hu, hup⟩ := hmiss
      obtain ⟨i, hi, hw⟩ := circle (n := n) (C := C) (fun x => (0 ≤ x ∧ x < (n : Int)) ∧ x ∉ ordN n C) (fun x hx => hx.1) (fun x hx => by
        rcases least_next n C (ordN n C) with ⟨_, hl⟩ | ⟨h0, _⟩
        · have hr := hl x hx.1.1 hx.1.2
          have hc : ¬ cntP C (ordN n C) x = 0 := fun e => by
            rw [rdyN_is.2 ⟨hx.2, e⟩] at hr; cases hr
          rw [cntP_zero] at hc
          have : ∃ c ∈ C, c.dst = x ∧ c.src ∉ ordN n C := by
            refine Classical.byContradiction fun hno2 => hc fun c hcc hd => Classical.byContradiction fun hs => hno2 ⟨c, hcc, hd, hs⟩
          obtain ⟨c, hcc, rfl, hs⟩ := this
          have := bndC_mem hb hcc
          exact ⟨c.src, ⟨⟨this.1, this.2.1⟩, hs⟩, .one hcc⟩
        · omega) ⟨hu, hup⟩
      exact hno i hi hw
theorem valid_ord {O : List Opr} {C : List Chn} : validN O C = true ↔ (O.all oprK = true ∧ jnN O C = true) ∧ (ordN O.length C).length = O.length := by
  constructor
  · intro h
    have h' := validN_is.1 h
    refine ⟨h'.1, (ord_full ?_).2 h'.2⟩
    unfold validN at h
    rw [Bool.and_eq_true] at h
    exact chOk_bnd h.1
  · rintro ⟨h1, h2⟩
    refine validN_is.2 ⟨h1, (ord_full ?_).1 h2⟩
    have h3 := h1.2
    unfold jnN at h3
    rw [Bool.and_eq_true] at h3
    refine chOk_bnd (List.all_eq_true.2 fun c hc => ?_)
    obtain ⟨i, hi, rfl⟩ := mem_getD hc
    have := List.all_eq_true.1 h3.1 i (List.mem_range.2 hi)
    unfold chn1 at this
    rw [Bool.and_eq_true] at this
    exact this.1
end Go.Am
namespace Go.Am
def srt (l : List Int) : List Int := l.mergeSort fun x y => decide (x ≤ y)
theorem srt_perm (l : List Int) : (srt l).Perm l := List.mergeSort_perm l _
theorem srt_len (l : List Int) : (srt l).length = l.length := (srt_perm l).length_eq
theorem srt_sorted (l : List Int) : (srt l).Pairwise (· ≤ ·) := by
  have := List.pairwise_mergeSort (le := fun x y : Int => decide (x ≤ y)) (fun a b c h1 h2 => by
    simp only [decide_eq_true_eq] at h1 h2 ⊢; omega) (fun a b => by
    simp only [Bool.or_eq_true, decide_eq_true_eq]; omega) l
  exact this.imp fun h => of_decide_eq_true h
theorem srt_full {l : List Int} : fullN l = true ↔ ∀ j, j < l.length → (srt l).getD j 0 = (j : Int) := by
  constructor
  · intro h j hj
    have h1 : srt l = (List.range l.length).map fun j : Nat => (j : Int) := by
      refine ((srt_perm l).trans (full_perm h).symm).eq_of_pairwise (le := (· ≤ ·)) (fun a b _ _ h1 h2 => by omega) (srt_sorted l) ?_
      rw [List.pairwise_map]
      refine List.Pairwise.imp ?_ List.pairwise_lt_range
      intro a b hab; omega
    rw [h1]
    simp [List.getD, hj]
  · intro h
    unfold fullN
    refine List.all_eq_true.2 fun j hj => List.contains_iff_mem.2 ?_
    have hj := List.mem_range.1 hj
    refine (srt_perm l).mem_iff.1 ?_
    have h1 := h j hj
    have hlt : j < (srt l).length := by rw [srt_len]; exact hj
    rw [← h1, show (srt l).getD j 0 = (srt l)[j] by simp [List.getD, hlt]]
    exact List.getElem_mem hlt
def badE (s : List Int) (k : Nat) : Bool := !decide (s.getD k 0 = (k : Int))
theorem ends_any (l : List Int) : (List.range' 0 (srt l).length).any (badE (srt l)) = !fullN l := by
  rw [Bool.eq_iff_iff, List.any_eq_true, Bool.not_eq_true', ← Bool.not_eq_true, srt_full]
  constructor
  · rintro ⟨k, hk, hb⟩ h
    rw [List.mem_range'_1, srt_len] at hk
    unfold badE at hb
    rw [h k (by omega)] at hb
    simp at hb
  · intro h
    refine Classical.byContradiction fun hno => h fun j hj => ?_
    refine Classical.byContradiction fun hne => hno ⟨j, by rw [List.mem_range'_1, srt_len]; omega, ?_⟩
    unfold badE
    simp only [Bool.not_eq_true', decide_eq_false_iff_not]
    exact hne
end Go.Am
