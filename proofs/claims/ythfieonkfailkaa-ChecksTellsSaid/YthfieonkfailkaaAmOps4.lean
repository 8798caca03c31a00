import Derived.Test.YthfieonkfailkaaAmOps3
namespace Go.Am
section
variable {ρ : Rho} {E : Env} {w : World} {h : Heap}

theorem extract_mk (s : List UInt8) (l u : Nat) : (⟨s.toArray⟩ : ByteArray).extract l u = ⟨((s.take u).drop l).toArray⟩ := by
  apply ByteArray.ext
  rw [ByteArray.data_extract]
  simp [List.drop_take]

/-- an optional bound and its value -/
def OV (ρ : Rho) : Option AV → Option Value → Prop
  | none, none => True
  | some a, some v => V ρ a v
  | _, _ => False
theorem boundOf_V {o : Option AV} {r : Option Int} (hb : boundOf o = some r) {v : Option Value} (hv : OV ρ o v) :
    (r = none ∧ v = none) ∨ ∃ k n, r = some n ∧ v = some (.int k n) := by
  unfold boundOf at hb
  split at hb
  · cases hb
    cases v with
    | none => exact .inl ⟨rfl, rfl⟩
    | some v => simp [OV] at hv
  · rename_i k n
    cases hb
    cases v with
    | none => simp [OV] at hv
    | some v => simp only [OV, V] at hv; subst hv; exact .inr ⟨k, n, rfl, rfl⟩
  · cases hb

theorem bound_run (k : IntKind) (i : Int) (y : Nat) (c : BoundsCode) (h0 : 0 ≤ i) (h1 : i ≤ (y : Int)) (w : World) : (Instr.sliceBound (.int k i) y c).run E.P w = .ok i.toNat w := by
  unfold Instr.sliceBound
  simp [asInt_run, h0, h1]

theorem bounds_run (isS : Bool) (n c : Nat) (hnc : n ≤ c) {lo hi : Option Int} {vl vh : Option Value}
    (hl : (lo = none ∧ vl = none) ∨ ∃ k m, lo = some m ∧ vl = some (.int k m)) (hh : (hi = none ∧ vh = none) ∨ ∃ k m, hi = some m ∧ vh = some (.int k m))
    (u : Int) (hu : hi.getD n = u) (h0 : 0 ≤ lo.getD 0) (h1 : lo.getD 0 ≤ u) (h2 : u ≤ (n : Int)) (w : World) :
    (Instr.sliceBounds isS n c vl vh none).run E.P w = .ok ((lo.getD 0).toNat, u.toNat, c) w := by
  unfold Instr.sliceBounds
  have hu' : u.toNat = u.toNat := rfl
  rcases hh with ⟨rfl, rfl⟩ | ⟨kh, mh, rfl, rfl⟩
  · simp at hu
    subst hu
    rcases hl with ⟨rfl, rfl⟩ | ⟨kl, ml, rfl, rfl⟩
    · simp
    · simp at h0 h1
      simp [bound_run kl ml n _ h0 h1]
  · simp at hu; subst hu
    have b1 := fun cd => bound_run (E := E) kh mh c cd (by omega) (by omega) w
    rcases hl with ⟨rfl, rfl⟩ | ⟨kl, ml, rfl, rfl⟩
    · cases isS <;> simp [b1]
    · simp at h0 h1
      have b2 := fun cd => bound_run (E := E) kl ml mh.toNat cd h0 (by omega) w
      cases isS <;> simp [b1, b2]

theorem sliceR_pure (hs : SatH ρ h w) (t : TypeId) (x : AV) (lo hi : Option AV) {cx : Value} {vl vh : Option Value} (hx : V ρ x cx) (hlo : OV ρ lo vl) (hhi : OV ρ hi vh) :
    Pure ρ E.P w (sliceR E h t x lo hi) (Instr.sliceAt t cx vl vh none) := by
  unfold sliceR
  split
  rotate_left
  · exact Pure.bad
  rename_i lo' hi' e1 e2
  have bl := boundOf_V e1 hlo
  have bh := boundOf_V e2 hhi
  dsimp only
  split
  · rename_i ht
    split
    · rename_i s
      simp only [V] at hx; subst hx
      have hat : ∀ u : Int, hi'.getD s.length = u → 0 ≤ lo'.getD 0 → lo'.getD 0 ≤ u → u ≤ (s.length : Int) →
          (Instr.sliceAt t (.string ⟨s.toArray⟩) vl vh none).run E.P w = .ok (.string ⟨((s.take u.toNat).drop (lo'.getD 0).toNat).toArray⟩) w := by
        intro u hu h0 h1 h2
        have hb := bounds_run (E := E) false s.length s.length (Nat.le_refl _) bl bh u hu h0 h1 h2 w
        unfold Instr.sliceAt
        simp only [Sem.run_bind, run_und ht, Result.andThen_ok]
        unfold Instr.slice
        simp [run_und ht, size_mk, hb, extract_mk]
      split
      · refine Pure.node (fun hc => ?_) (fun _ => Pure.bad)
        have hc := of_decide_eq_true hc
        refine Pure.leaf (hat s.length (by simp) hc.1 hc.2 (Int.le_refl _)) ?_
        simp [V]
      · rename_i u
        refine Pure.node (fun hc => ?_) (fun _ => Pure.bad)
        have hc := of_decide_eq_true hc
        refine Pure.leaf (hat u (by simp) hc.1 hc.2.1 hc.2.2) ?_
        simp [V]
    · exact Pure.bad
  · rename_i et ht
    split
    · rename_i n hn
      split
      · rename_i b e hat
        split
        · rename_i blk hblk
          by_cases hsz : sizeT E et = some blk.dat.stride
          · simp only [hsz, decide_true, cond_true]
            obtain ⟨p, hp, h1, h2, h3, h4, h5, h6, a, rfl, ha⟩ := slAt_V hs hn hat hblk hx
            have key : ∀ u : Int, hi'.getD n = u → 0 ≤ lo'.getD 0 → lo'.getD 0 ≤ u → u ≤ (n : Int) →
                ∃ cv, (Instr.sliceAt t (.slice a n (p.cap - (e - (lo'.getD 0).toNat))) vl vh none).run E.P w = .ok cv w ∧ V ρ (.sl b e (u.toNat - (lo'.getD 0).toNat)) cv := by
              intro u hu h0 h1' h2'
              have hb := bounds_run (E := E) true n (p.cap - (e - (lo'.getD 0).toNat)) (by omega) bl bh u hu h0 h1' h2' w
              refine ⟨.slice (if p.cap - (e - (lo'.getD 0).toNat) = (lo'.getD 0).toNat then a else a.map (·.add ((lo'.getD 0).toNat * blk.dat.stride))) (u.toNat - (lo'.getD 0).toNat) (p.cap - (e - (lo'.getD 0).toNat) - (lo'.getD 0).toNat), ?_, ?_⟩
              · unfold Instr.sliceAt
                simp only [Sem.run_bind, run_und ht, Result.andThen_ok]
                unfold Instr.slice
                simp [run_und ht, hb, sizeT_run hsz]
              · simp only [V]
                refine ⟨p, hp, h3, by omega, _, by rw [show p.cap - (e - (lo'.getD 0).toNat) - (lo'.getD 0).toNat = p.cap - e from by omega], fun hlt => ?_⟩
                rw [if_neg (by omega), ha (by omega)]
                simp only [Option.map_some, Option.some.injEq]
                have e1 : e * p.stride = (e - (lo'.getD 0).toNat) * p.stride + (lo'.getD 0).toNat * p.stride := by rw [← Nat.add_mul]; congr 1
                rw [pos_add, Pos.addr, Pos.addr, ← h1, e1]
                simp [Nat.add_assoc]
            split
            · refine Pure.node (fun hc => ?_) (fun _ => Pure.bad)
              have hc := of_decide_eq_true hc
              obtain ⟨cv, hr, hv⟩ := key n (by simp) hc.1 hc.2 (Int.le_refl _)
              exact Pure.leaf hr (by simpa using hv)
            · rename_i u
              refine Pure.node (fun hc => ?_) (fun _ => Pure.bad)
              have hc := of_decide_eq_true hc
              obtain ⟨cv, hr, hv⟩ := key u (by simp) hc.1 hc.2.1 hc.2.2
              exact Pure.leaf hr hv
          · simp only [hsz, decide_false, cond_false]; exact Pure.bad
        · exact Pure.bad
      · exact Pure.bad
    · exact Pure.bad
  · exact Pure.bad
end
end Go.Am
