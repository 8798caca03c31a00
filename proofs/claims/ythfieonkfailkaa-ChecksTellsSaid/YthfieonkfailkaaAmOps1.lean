/-
  AM: its pure operations are the model's.
-/
import Derived.Test.YthfieonkfailkaaAmSem
import Derived.Laws.StructEq
import Derived.Laws.Slices
import Derived.Laws.AppendOwn
import Derived.Laws.MakeOwn
import Derived.Laws.Strings
namespace Go.Am

/-- what an operation's run does, in the machine's words -/
def OpRes (P : Program) (ρ : Rho) (h : Heap) (w : World) (id : Nat) (s : Sem Next) (v : AV) (W : Upd) : Prop :=
  ∃ cv w' ρ', (s.run P w = .ok (.value cv) w' ∨ (s.run P w = .ok .skip w' ∧ cv = undef)) ∧ ρ.le ρ' ∧ V ρ' v cv ∧ SatH ρ' (updW h W) w' ∧
    Stp (ownB ρ h) (ownB ρ' (updW h W)) w w' ∧ (∀ b, ρ' b ≠ none → ρ b = none → id ≤ b ∧ b < id + 64)

theorem OpRes.val {P : Program} {ρ : Rho} {h : Heap} {w : World} {id : Nat} {s : Sem Next} {v : AV} {cv : Value} (hs : SatH ρ h w)
    (hr : s.run P w = .ok (.value cv) w) (hv : V ρ v cv) : OpRes P ρ h w id s v [] :=
  ⟨cv, w, ρ, .inl hr, Rho.le.refl _, hv, hs, Stp.refl _ _, fun _ h1 h2 => (h1 h2).elim⟩

/-- a pure result: whichever leaf is chosen -/
def Pure (ρ : Rho) (P : Program) (w : World) (r : Res) (s : Sem Value) : Prop :=
  ∀ v W, r.sel = some (v, W) → W = [] ∧ ∃ cv, s.run P w = .ok cv w ∧ V ρ v cv

theorem Pure.bad {ρ : Rho} {P : Program} {w : World} {s : Sem Value} : Pure ρ P w .bad s := fun _ _ h => by simp [T.sel] at h
theorem Pure.leaf {ρ : Rho} {P : Program} {w : World} {s : Sem Value} {v : AV} {cv : Value} (hr : s.run P w = .ok cv w) (hv : V ρ v cv) : Pure ρ P w (valR v) s := by
  intro v' W h
  simp [valR, T.sel] at h
  obtain ⟨rfl, rfl⟩ := h
  exact ⟨rfl, cv, hr, hv⟩
theorem Pure.node {ρ : Rho} {P : Program} {w : World} {s : Sem Value} {b : Bool} {x y : Res} (hx : b = true → Pure ρ P w x s) (hy : b = false → Pure ρ P w y s) : Pure ρ P w (.node b x y) s := by
  intro v W h
  cases b with
  | true => exact hx rfl v W (by simpa [T.sel] using h)
  | false => exact hy rfl v W (by simpa [T.sel] using h)
theorem Pure.opt {ρ : Rho} {P : Program} {w : World} {s : Sem Value} {o : Option AV} (h : ∀ v, o = some v → ∃ cv, s.run P w = .ok cv w ∧ V ρ v cv) : Pure ρ P w (optR o) s := by
  cases o with
  | none => exact Pure.bad
  | some v => obtain ⟨cv, hr, hv⟩ := h v rfl; exact Pure.leaf hr hv
theorem Pure.res {ρ : Rho} {P : Program} {w : World} {r : Res} {s : Sem Value} {h : Heap} {id : Nat} {v : AV} {W : Upd} (hp : Pure ρ P w r s) (hs : SatH ρ h w)
    (hsel : r.sel = some (v, W)) : OpRes P ρ h w id (do pure (.value (← s))) v W := by
  obtain ⟨rfl, cv, hr, hv⟩ := hp v W hsel
  exact OpRes.val hs (by simp [hr]) hv

section
variable {ρ : Rho} {E : Env} {w : World}

theorem beq_eq_dec (a b : Int) : (a == b) = decide (a = b) := by rw [Bool.eq_iff_iff]; simp
theorem bne_eq_dec (a b : Int) : (a != b) = !decide (a = b) := by rw [Bool.eq_iff_iff]; simp
theorem toList_mk (l : List UInt8) : (⟨l.toArray⟩ : ByteArray).toList = l := by rw [ByteArray.toList_eq]
theorem size_mk (l : List UInt8) : (⟨l.toArray⟩ : ByteArray).size = l.length := rfl

theorem intBin_pure (op : BinOp) (t : TypeId) (k : IntKind) (a b : Int) : Pure ρ E.P w (intBin op k a b) (binOp op t (.int k a) (.int k b)) := by
  cases op <;> simp only [intBin] <;> try exact Pure.bad
  case quo =>
    refine Pure.node (fun _ => Pure.bad) fun hb => ?_
    have hb' : ¬ b = 0 := by simpa using hb
    exact Pure.leaf (cv := .int k (k.wrap (a.tdiv b))) (by simp [binOp, Op.intDiv, hb']) (by simp [V])
  case rem =>
    refine Pure.node (fun _ => Pure.bad) fun hb => ?_
    have hb' : ¬ b = 0 := by simpa using hb
    exact Pure.leaf (cv := .int k (a.tmod b)) (by simp [binOp, Op.intDiv, hb']) (by simp [V])
  case eql => exact Pure.leaf (cv := .bool (a == b)) (by simp [binOp, Op.intCmp]) (by simp only [V, beq_eq_dec])
  case neq => exact Pure.leaf (cv := .bool (a != b)) (by simp [binOp, Op.intCmp]) (by simp only [V, bne_eq_dec])
  all_goals
    refine Pure.leaf (by simp [binOp, Op.intArith, Op.intBits, Op.intCmp]; rfl) ?_
    simp [V]
theorem shiftR_pure (k : IntKind) (n b : Int) (s : Sem Value) (hs : 0 ≤ b → s.run E.P w = .ok (.int k n) w) : Pure ρ E.P w (shiftR k n b) s := by
  unfold shiftR
  refine Pure.node (fun hb => ?_) (fun _ => Pure.bad)
  exact Pure.leaf (hs (by simpa using hb)) (by simp [V])

theorem run_und {P : Program} {t : TypeId} {d : TypeDesc} (h : P.underlying t = some d) (w : World) : (underlying t).run P w = .ok d w := run_underlying h w

/-! parts -/
theorem run_isAgg_of {P : Program} {t : TypeId} {d : TypeDesc} (h : P.underlying t = some d) (w : World) :
    (isAgg t).run P w = .ok (descAgg d) w := by
  unfold isAgg
  simp only [Sem.run_bind, run_und h, Result.andThen_ok]
  cases d <;> rfl
theorem sizeT_run {t : TypeId} {s : Nat} (h : sizeT E t = some s) (w : World) : (sizeOf t).run E.P w = .ok s w := by
  unfold sizeT at h
  cases hi : E.P.info? t with
  | none => simp [hi] at h
  | some i => simp [hi] at h; subst h; simp [sizeOf, typeInfo, hi]
theorem partOf_run {t : TypeId} {cs : List AV} {off : Nat} {v : AV} (h : partOf E t cs off = some v) {vs : Array Value} (hv : VL ρ cs vs.toList) (w : World) :
    ∃ cv, (part t vs off).run E.P w = .ok cv w ∧ V ρ v cv := by
  unfold partOf at h
  split at h
  · cases h
  rename_i d hd
  have hp := run_isAgg_of hd w
  cases hda : descAgg d with
  | true =>
    rw [hda] at hp
    simp only [hda, cond_true] at h
    split at h
    · rename_i s hs
      cases hb : Nat.ble (off + s) cs.length with
      | false => simp [hb] at h
      | true =>
        simp [hb] at h; subst h
        refine ⟨.agg (vs.extract off (off + s)), ?_, ?_⟩
        · unfold part; simp [hp, sizeT_run hs]
        · simp only [V]
          refine ⟨_, rfl, ?_⟩
          rw [Array.toList_extract]
          have := (hv.drop off).take s
          simpa [List.take_drop, List.extract_eq_take_drop, Nat.add_sub_cancel_left] using this
    · cases h
  | false =>
    rw [hda] at hp
    simp only [hda, cond_false] at h
    obtain ⟨cv, hcv, hV⟩ := hv.get h
    have hcv' : vs[off]? = some cv := by simpa using hcv
    exact ⟨cv, by unfold part; simp [hp, hcv'], hV⟩

/-! comparison -/
theorem dec_beq_int (a b : Int) : (a == b) = decide (a = b) := by rw [Bool.eq_iff_iff]; simp
theorem dec_beq_bytes (a b : List UInt8) : (a == b) = decide (a = b) := by rw [Bool.eq_iff_iff]; simp

theorem cellEqT_run {t : TypeId} {x y : AV} {r : Bool} (h : cellEqT E t x y = some r) {a b : Value} (ha : V ρ x a) (hb : V ρ y b) (d : Nat) (w : World) :
    (Op.equalIn (d + 1) t a b).run E.P w = .ok r w := by
  unfold cellEqT at h
  split at h
  · rename_i kk hk
    split at h
    · rename_i k1 n1 k2 n2
      simp only [V] at ha hb; subst ha; subst hb
      by_cases he : k1 = k2
      · subst he; simp at h; subst h
        rw [run_equalIn_int w d t k1 _ n1 n2 hk, dec_beq_int]
      · simp [he] at h
    · cases h
  · rename_i hk
    split at h
    · simp only [V] at ha hb; subst ha; subst hb
      simp at h; subst h
      rw [run_equalIn_bool w d t _ _ hk]
    · cases h
  · rename_i hk
    split at h
    · simp only [V] at ha hb; subst ha; subst hb
      simp at h; subst h
      rw [run_equalIn_string w d t _ _ hk, toList_mk, toList_mk, dec_beq_bytes]
    · cases h
  · cases h

theorem eqFields_run {d : Nat} {f : TypeId → AV → AV → Option Bool}
    (hf : ∀ t x y r, f t x y = some r → ∀ a b, V ρ x a → V ρ y b → (Op.equalIn d t a b).run E.P w = .ok r w)
    {xs ys : List AV} {as bs : Array Value} (ha : VL ρ xs as.toList) (hb : VL ρ ys bs.toList) :
    ∀ (fs : List Field) (r : Bool), eqFields f (partOf E) xs ys fs = some r → (Op.eqFields d as bs fs).run E.P w = .ok r w
  | [], r, h => by simp [eqFields] at h; subst h; simp [Op.eqFields]
  | x :: fs, r, h => by
    unfold eqFields at h
    cases hn : (x.name != "_") with
    | false => simp [hn] at h
    | true =>
      simp only [hn, cond_true] at h
      have hn' : x.name ≠ "_" := by simpa using hn
      split at h
      · rename_i p q hp hq
        split at h
        · rename_i u hu
          split at h
          · rename_i v hv
            simp at h; subst h
            obtain ⟨cp, hrp, hVp⟩ := partOf_run hp ha w
            obtain ⟨cq, hrq, hVq⟩ := partOf_run hq hb w
            have he := hf _ _ _ _ hu cp cq hVp hVq
            have ih := eqFields_run hf ha hb fs v hv
            unfold Op.eqFields
            rw [if_pos hn']
            simp only [Sem.run_bind, hrp, hrq, he, Result.andThen_ok]
            cases u <;> simp [ih]
          · cases h
        · cases h
      · cases h

theorem eqElems_run {d : Nat} {e : TypeId} {s : Nat} (hs : (sizeOf e).run E.P w = .ok s w) {f : AV → AV → Option Bool}
    (hf : ∀ x y r, f x y = some r → ∀ a b, V ρ x a → V ρ y b → (Op.equalIn d e a b).run E.P w = .ok r w)
    {xs ys : List AV} {as bs : Array Value} (ha : VL ρ xs as.toList) (hb : VL ρ ys bs.toList) :
    ∀ (n i : Nat) (r : Bool), eqElems f (partOf E e) xs ys s i n = some r →
      (forIn (List.range' i n) ((none, ()) : Option Bool × Unit) fun j _ => do
          let a ← part e as (j * s)
          let b ← part e bs (j * s)
          let q ← Op.equalIn d e a b
          if (!q) = true then pure (ForInStep.done (some false, ())) else pure (ForInStep.yield (none, ())) : Sem (Option Bool × Unit)).run E.P w = .ok (bif r then (none, ()) else (some false, ())) w
  | 0, i, r, h => by simp [eqElems] at h; subst h; simp
  | n + 1, i, r, h => by
    unfold eqElems at h
    split at h
    · rename_i p q hp hq
      split at h
      · rename_i u hu
        split at h
        · rename_i v hv
          simp at h; subst h
          obtain ⟨cp, hrp, hVp⟩ := partOf_run hp ha w
          obtain ⟨cq, hrq, hVq⟩ := partOf_run hq hb w
          have he := hf _ _ _ hu cp cq hVp hVq
          have ih := eqElems_run hs hf ha hb n (i + 1) v hv
          rw [List.range'_succ]
          simp only [List.forIn_cons, Sem.run_bind, hrp, hrq, he, Result.andThen_ok]
          cases u
          · simp
          · simp only [Bool.not_true, Bool.false_eq_true, if_false, Sem.run_pure, Result.andThen_ok, Bool.true_and]
            exact ih
        · cases h
      · cases h
    · cases h
end
end Go.Am
