/-
  AM: an operation that succeeds on a heap has the same outcome on a heap that knows more; some do not look at the heap at all.
-/
import Derived.Test.YthfieonkfailkaaAmOps9
namespace Go.Am
def HLe (h h' : Heap) : Prop := ∀ b x, h b = some x → h' b = some x
def TLe {α : Type} (x y : T α) : Prop := ∀ r, x.sel = some r → y.sel = some r
theorem TLe.refl {α : Type} (x : T α) : TLe x x := fun _ h => h
theorem TLe.bad {α : Type} (y : T α) : TLe .bad y := fun _ h => by simp [T.sel] at h
section
variable {E : Env} {h h' : Heap}
theorem slLen_mono (hl : HLe h h') {x : AV} {n : Nat} (hx : slLen h x = some n) : slLen h' x = some n := by
  unfold slLen at hx ⊢
  split at hx
  · simp only [Option.map_eq_some_iff] at hx ⊢
    obtain ⟨y, hy, rfl⟩ := hx
    exact ⟨y, hl _ _ hy, rfl⟩
  · exact hx
  · exact hx
  · cases hx
theorem datOf_mono (hl : HLe h h') {x : AV} {d : Dat} (hx : datOf h x = some d) : datOf h' x = some d := by
  unfold datOf at hx ⊢
  split at hx
  · simp only [Option.map_eq_some_iff] at hx ⊢
    obtain ⟨y, hy, rfl⟩ := hx
    exact ⟨y, hl _ _ hy, rfl⟩
  · simp only [Option.map_eq_some_iff] at hx ⊢
    obtain ⟨y, hy, rfl⟩ := hx
    exact ⟨y, hl _ _ hy, rfl⟩
  · cases hx
theorem loadR_mono (hl : HLe h h') (t : TypeId) (a : AV) : TLe (loadR E h t a) (loadR E h' t a) := by
  unfold loadR
  split
  · split
    · rename_i x hx; rw [hl _ _ hx]; exact TLe.refl _
    · exact TLe.bad _
  · exact TLe.bad _
theorem storeR_mono (hl : HLe h h') (t : TypeId) (a v : AV) : TLe (storeR E h t a v) (storeR E h' t a v) := by
  unfold storeR
  split
  · split
    · rename_i x hx; rw [hl _ _ hx]; exact TLe.refl _
    · exact TLe.bad _
  · exact TLe.bad _
theorem indexAddrR_mono (hl : HLe h h') (t : TypeId) (x ix : AV) : TLe (indexAddrR E h t x ix) (indexAddrR E h' t x ix) := by
  unfold indexAddrR
  split
  · split
    · exact TLe.refl _
    · split
      · rename_i n hn
        rw [slLen_mono hl hn]
        simp only
        split
        · split
          · rename_i x hx; rw [hl _ _ hx]; exact TLe.refl _
          · exact TLe.bad _
        · exact TLe.bad _
      · exact TLe.bad _
    · exact TLe.bad _
  · exact TLe.bad _
theorem sliceR_mono (hl : HLe h h') (t : TypeId) (x : AV) (lo hi : Option AV) : TLe (sliceR E h t x lo hi) (sliceR E h' t x lo hi) := by
  unfold sliceR
  split
  · simp only
    split
    · exact TLe.refl _
    · split
      · rename_i n hn
        rw [slLen_mono hl hn]
        simp only
        split
        · split
          · rename_i x hx; rw [hl _ _ hx]; exact TLe.refl _
          · exact TLe.bad _
        · exact TLe.bad _
      · exact TLe.bad _
    · exact TLe.bad _
  · exact TLe.bad _
theorem srcOf_mono (hl : HLe h h') (et : TypeId) {y : AV} {d : Dat} (hy : appSrc E h et y = some d) : appSrc E h' et y = some d := by
  unfold appSrc at hy ⊢
  split at hy
  · exact hy
  · exact hy
  · exact datOf_mono hl hy
theorem appendR_mono (hl : HLe h h') (id : Nat) (t : TypeId) (x y : AV) : TLe (appendR E h id t x y) (appendR E h' id t x y) := by
  intro r hr
  unfold appendR at hr ⊢
  split at hr
  · split at hr
    · simp [T.sel] at hr
    · rename_i d hd
      have := srcOf_mono (E := E) hl _ hd
      rw [this]
      simp only
      split at hr
      · simp [T.sel] at hr
      · rename_i i hi
        generalize (Nat.beq i.size d.stride && Nat.blt 0 i.size && Nat.ble i.bytes 4096 && _) = c at hr ⊢
        cases c with
        | false => simp [T.sel] at hr
        | true =>
          rw [cond_true] at hr ⊢
          split at hr
          · exact hr
          · split at hr
            · split at hr
              · rename_i d0 blk h1 h2
                rw [datOf_mono hl h1, hl _ _ h2]
                exact hr
              · simp [T.sel] at hr
            · simp [T.sel] at hr
  · simp [T.sel] at hr

theorem bytesR_mono (hl : HLe h h') (y : AV) : TLe (bytesR h y) (bytesR h' y) := by
  intro r hr
  unfold bytesR at hr ⊢
  split at hr
  · exact hr
  · split at hr
    · rename_i hd
      rw [datOf_mono hl hd]; exact hr
    · rename_i hd
      rw [datOf_mono hl hd]; exact hr
    · simp [T.sel] at hr
theorem conv_mono (hl : HLe h h') (s d : TypeId) (x : AV) : TLe (match E.P.underlying s, E.P.underlying d, x with
    | some (.int _), some (.int kd), .int _ n => valR (.int kd (kd.wrap n))
    | some .string, some .string, .str s => valR (.str s)
    | some (.slice et), some .string, y => match E.P.underlying et with
      | some (.int .u8) => bytesR h y
      | _ => .bad
    | _, _, _ => (.bad : Res)) (match E.P.underlying s, E.P.underlying d, x with
    | some (.int _), some (.int kd), .int _ n => valR (.int kd (kd.wrap n))
    | some .string, some .string, .str s => valR (.str s)
    | some (.slice et), some .string, y => match E.P.underlying et with
      | some (.int .u8) => bytesR h' y
      | _ => .bad
    | _, _, _ => .bad) := by
  split
  · exact TLe.refl _
  · exact TLe.refl _
  · split
    · exact bytesR_mono hl _
    · exact TLe.refl _
  · exact TLe.refl _
def CallMono (C : CallR) : Prop := ∀ f args h h' id, HLe h h' → TLe (C f args h id) (C f args h' id)
theorem exR_mono {C : CallR} (hC : CallMono C) (hl : HLe h h') (o : Oper) (id : Nat) (e : Operand → AV) : TLe (exR E C o id e h) (exR E C o id e h') := by
  unfold exR
  split
  all_goals first
    | exact TLe.refl _
    | exact conv_mono hl _ _ _
    | exact loadR_mono hl _ _
    | exact storeR_mono hl _ _ _
    | exact indexAddrR_mono hl _ _ _
    | exact sliceR_mono hl _ _ _ _
    | skip
  split
  · split
    · exact hC _ _ _ _ _ hl
    · exact TLe.bad _
  · split
    · split
      · exact TLe.refl _
      · intro r hr
        split at hr
        · rename_i n hn; rw [slLen_mono hl hn]; exact hr
        · simp [T.sel] at hr
      · exact TLe.refl _
    · generalize appOk E _ _ _ = c
      cases c with
      | true => exact appendR_mono hl _ _ _ _
      | false => exact TLe.refl _
    · exact TLe.refl _
    · exact TLe.refl _
    · exact TLe.refl _
  · exact TLe.refl _
theorem exR_free {C : CallR} (o : Oper) (hf : heapFree o.op = true) (id : Nat) (e : Operand → AV) (h h' : Heap) : exR E C o id e h = exR E C o id e h' := by
  unfold exR
  cases ho : o.op <;> first | rfl | (rw [ho] at hf; simp [heapFree] at hf)
end
end Go.Am
