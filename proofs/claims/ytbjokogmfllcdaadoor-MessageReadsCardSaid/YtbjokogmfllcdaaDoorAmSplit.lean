/-
  AM3: strings.Split.
-/
import Derived.Test.YtbjokogmfllcdaaDoorPlain
import Derived.Lib.SplitLaws
import Derived.Lib.CountLaws
namespace Go.Am
open Go.RowKit
/-- the pieces between blanks -/
def spl : List UInt8 → List (List UInt8)
  | [] => [[]]
  | c :: r => bif c == 32 then [] :: spl r else match spl r with
    | [] => [[c]]
    | x :: xs => (c :: x) :: xs
theorem spl_cons (c : UInt8) (r : List UInt8) : spl (c :: r) = bif c == 32 then [] :: spl r else match spl r with | [] => [[c]] | x :: xs => (c :: x) :: xs := rfl
theorem spl_ne (s : List UInt8) : spl s ≠ [] := by
  cases s with
  | nil => simp [spl]
  | cons c r =>
    unfold spl
    cases c == 32 with
    | true => simp
    | false =>
      simp only [cond_false]
      split <;> simp
theorem spl_blank : ∀ (a b : List UInt8), (∀ c ∈ a, c ≠ 32) → spl (a ++ 32 :: b) = a :: spl b
  | [], b, _ => rfl
  | c :: a, b, h => by
    have hc : (c == 32) = false := beq_eq_false_iff_ne.2 (h c (List.mem_cons_self ..))
    rw [List.cons_append, spl_cons, hc, cond_false, spl_blank a b fun x hx => h x (List.mem_cons_of_mem _ hx)]
theorem spl_whole : ∀ (a : List UInt8), (∀ c ∈ a, c ≠ 32) → spl a = [a]
  | [], _ => rfl
  | c :: a, h => by
    have hc : (c == 32) = false := beq_eq_false_iff_ne.2 (h c (List.mem_cons_self ..))
    rw [spl_cons, hc, cond_false, spl_whole a fun x hx => h x (List.mem_cons_of_mem _ hx)]
theorem occ_one (s : List UInt8) (i : Nat) : Lib.occAt s [32] i = (s[i]? == some 32) := by
  unfold Lib.occAt
  rw [Bool.eq_iff_iff]
  cases hd : s.drop i with
  | nil =>
    have : s[i]? = none := by
      rw [List.getElem?_eq_none_iff]; have := List.drop_eq_nil_iff.1 hd; omega
    rw [this]; simp
  | cons c r =>
    have : s[i]? = some c := by rw [← List.head?_drop, hd]; rfl
    rw [this]
    simp
    exact ⟨fun h => h.symm, fun h => h.symm⟩
theorem split_spl : ∀ (n : Nat) (s : List UInt8), s.length ≤ n → Lib.splitK [32] 0 (Lib.count s [32]) s = spl s := by
  intro n
  induction n with
  | zero =>
    intro s hs
    have : s = [] := List.eq_nil_of_length_eq_zero (by omega)
    subst this; rfl
  | succ n ih =>
    intro s hs
    rcases Lib.index_spec s [32] with ⟨h1, h2⟩ | ⟨i, h1, h2, h3, h4⟩
    · have hc : Lib.count s [32] = 0 := Lib.count_miss h1
      rw [hc]
      show [s] = spl s
      rw [spl_whole]
      intro c hc e
      subst e
      obtain ⟨j, hj⟩ := List.getElem?_of_mem hc
      have hjl := (List.getElem?_eq_some_iff.1 hj).1
      have := h2 j (by omega)
      rw [occ_one, hj] at this
      simp at this
    · rw [occ_one] at h3
      have h3 : s[i]? = some 32 := by simpa using h3
      have hil := (List.getElem?_eq_some_iff.1 h3).1
      have hsplit : s = s.take i ++ 32 :: s.drop (i + 1) := by
        have h5 : s.drop i = 32 :: s.drop (i + 1) := by
          rw [List.drop_eq_getElem_cons hil]
          congr 1
          exact (List.getElem?_eq_some_iff.1 h3).2
        rw [← h5, List.take_append_drop]
      have hno : ∀ c ∈ s.take i, c ≠ 32 := by
        intro c hc e
        subst e
        obtain ⟨j, hj⟩ := List.getElem?_of_mem hc
        have hjl : j < i := by have := (List.getElem?_eq_some_iff.1 hj).1; rw [List.length_take] at this; omega
        rw [List.getElem?_take, if_pos hjl] at hj
        have := h4 j hjl
        rw [occ_one, hj] at this
        simp at this
      have hc : Lib.count s [32] = 1 + Lib.count (s.drop (i + 1)) [32] := Lib.count_hit (by simp) h1
      rw [hc, Nat.add_comm]
      have hm : ¬ (Lib.index s [32] == -1) = true := fun e => by have := beq_iff_eq.1 e; omega
      rw [Lib.splitK, if_neg hm, h1]
      have ih' := ih (s.drop (i + 1)) (by rw [List.length_drop]; omega)
      show s.take ((i : Int).toNat + 0) :: Lib.splitK [32] 0 _ (s.drop ((i : Int).toNat + 1)) = spl s
      rw [show ((i : Int)).toNat = i from by omega, Nat.add_zero, ih']
      conv => rhs; rw [hsplit]
      rw [spl_blank _ _ hno]
def sSplit : FSpec
  | [.str s, .str sep], [] => .node (decide (s.length ≤ lim ∧ sep = [32])) (.leaf ⟨[.slw 0], [⟨true, .strs (spl s)⟩]⟩) .bad
  | _, _ => .bad
theorem split_ok {E : Env} {f : FuncId} (hat : ∃ fn c, FnAt E.P f fn c) {t9 : TypeId}
    (h : ∀ (s : ByteArray) (w : World), GOk E (fun _ => False) w → s.size ≤ lim → Calls E.P f #[.string s, .string ⟨#[32]⟩] w fun e w' =>
      e = .returned (.slice (some ⟨w.heap.size, 0, none⟩) (Lib.countB s ⟨#[32]⟩ + 1) (Lib.countB s ⟨#[32]⟩ + 1)) ∧ w' = w.alloc (.cells ((Lib.splitB ⟨#[32]⟩ 0 (Lib.countB s ⟨#[32]⟩) s).map Value.string).toArray t9)) : FnOk E f sSplit := by
  refine ⟨hat, fun vs bs out hsel w cargs ps hc hv => ?_⟩
  unfold sSplit at hsel
  split at hsel
  · rename_i s sep
    rcases T.node_sel hsel with ⟨hg, h2⟩ | ⟨_, h2⟩
    rotate_left
    · simp [T.sel] at h2
    obtain ⟨hl, rfl⟩ := of_decide_eq_true hg
    simp only [T.sel, Option.some.injEq] at h2
    subst h2
    have hps : ps = [] := List.eq_nil_of_length_eq_zero hc.len
    subst hps
    simp only [VL, V] at hv
    obtain ⟨_, _, rfl, rfl, _, _, rfl, rfl, rfl⟩ := hv
    have hdat : (Lib.splitB ⟨#[32]⟩ 0 (Lib.countB ⟨s.toArray⟩ ⟨#[32]⟩) ⟨s.toArray⟩).map (·.data.toList) = spl s := by
      rw [Lib.splitB_data]
      show Lib.splitK [32] 0 (Lib.count (⟨s.toArray⟩ : ByteArray).data.toList [32]) (⟨s.toArray⟩ : ByteArray).data.toList = _
      rw [bytes_eq]
      exact split_spl s.length s (Nat.le_refl _)
    have hlen : Lib.countB ⟨s.toArray⟩ ⟨#[32]⟩ + 1 = (spl s).length := by
      rw [← hdat, List.length_map]
      exact (Lib.splitB_all ⟨#[32]⟩ (Nat.le_refl 1) 0 _ _ rfl).symm
    have hcnt := Lib.countB_le ⟨#[32]⟩ (Nat.le_refl 1) _ (⟨s.toArray⟩ : ByteArray) (Nat.le_refl _)
    rw [size_eq] at hcnt
    obtain ⟨xs, hxs⟩ : ∃ xs : List ByteArray, xs = Lib.splitB ⟨#[32]⟩ 0 (Lib.countB ⟨s.toArray⟩ ⟨#[32]⟩) ⟨s.toArray⟩ := ⟨_, rfl⟩
    have hxl : xs.length = (spl s).length := by rw [hxs, ← hdat, List.length_map]
    have hal := hc.sat.alloc (id := 0) rfl (.strs (spl s)) ((xs.map Value.string).toArray) t9 (spl s).length (Nat.le_refl _) (by simp only [lim] at hl; simp only [maxLen]; omega) (Dat.wf_typed _ (by intro s l; simp)) (by simp [Dat.stride, hxl])
      (by
        intro i hi j av hav
        have hi : i < (spl s).length := hi
        match j, hav with
        | 0, hav =>
          have hav : some (AV.str ((spl s).getD i [])) = some av := hav
          cases hav
          refine ⟨.string (xs.getD i default), ?_, ?_⟩
          · simp [Dat.stride, List.getD, hxl, hi]
          · simp only [V]
            have : (spl s).getD i [] = (xs.getD i default).data.toList := by
              rw [← hdat, ← hxs]
              simp [List.getD, hxl, hi]
            rw [this, bytes_mk]) (fun T hT => by cases hT)
    obtain ⟨g1, g2, g3, _⟩ := hal
    have hH : updF (blkH []) 0 (some ⟨true, Dat.strs (spl s)⟩) = blkH [⟨true, .strs (spl s)⟩] := by
      funext k
      cases k with
      | zero => rfl
      | succ k => rfl
    have hR : updF (psRho []) 0 (some (⟨w.heap.size, 0, (Dat.strs (spl s)).stride, (Dat.strs (spl s)).len, (spl s).length⟩ : Pos)) = psRho [⟨w.heap.size, 0, 1, (spl s).length, (spl s).length⟩] := by
      funext k
      cases k with
      | zero => rfl
      | succ k => rfl
    rw [hH, hR] at g2
    rw [hH, hR] at g3
    refine (h ⟨s.toArray⟩ w (gok_any hc.g) (by rw [size_eq]; exact hl)).mono fun e w' ⟨he, hw'⟩ => ⟨_, [⟨w.heap.size, 0, 1, (spl s).length, (spl s).length⟩], he, ?_, ?_, ⟨?_, ?_⟩, ?_⟩
    · rw [hw', ← hxs]
      exact ⟨g2, hc.g.step g3, rfl, by simp⟩
    · simp only [oneOrTup, V]
      exact ⟨_, rfl, Nat.le_refl _, some ⟨w.heap.size, 0, none⟩, by rw [hlen]; simp, fun _ => by simp [Pos.addr]⟩
    · rw [hw', ← hxs]; exact g3
    · intro k x p hk hp _
      match k, hk, hp with
      | 0, hk, hp => cases hp; exact .inl (Nat.le_refl _)
    · intro j k hj
      cases hj
  · simp [T.sel] at hsel
end Go.Am
