import Derived.Test.YthfieonkfailkaaAmOps1
namespace Go.Am
section
variable {ρ : Rho} {E : Env} {w : World}

theorem range_forIn {β : Type} (n : Nat) (b : β) (f : Nat → β → Sem (ForInStep β)) :
    (forIn (Std.Legacy.Range.mk 0 n 1 (by decide)) b f) = forIn (List.range' 0 n) b f := by
  rw [Std.Legacy.Range.forIn_eq_forIn_range']
  simp [Std.Legacy.Range.size]

theorem eqT_run : ∀ (d : Nat) (t : TypeId) (x y : AV) (r : Bool), eqT E d t x y = some r → ∀ a b, V ρ x a → V ρ y b → ∀ k, (Op.equalIn (d + k) t a b).run E.P w = .ok r w
  | 0, _, _, _, _, h => by simp [eqT] at h
  | d + 1, t, x, y, r, h => by
    intro a b ha hb k
    rw [show d + 1 + k = (d + k) + 1 from by omega]
    have ih : ∀ t x y r, eqT E d t x y = some r → ∀ a b, V ρ x a → V ρ y b → (Op.equalIn (d + k) t a b).run E.P w = .ok r w :=
      fun t x y r h a b ha hb => eqT_run d t x y r h a b ha hb k
    unfold eqT at h
    split at h
    · exact cellEqT_run h ha hb _ w
    · exact cellEqT_run h ha hb _ w
    · exact cellEqT_run h ha hb _ w
    · rename_i fs hfs
      split at h
      · rename_i xs ys
        simp only [V] at ha hb
        obtain ⟨as, rfl, ha⟩ := ha
        obtain ⟨bs, rfl, hb⟩ := hb
        cases hp : E.P.stoodInHeld t with
        | true => simp [hp] at h
        | false =>
          simp only [hp, cond_false] at h
          have hfs' : E.P.underlying t = some (.struct (E.P.fieldsOf t)) := by simp [Program.fieldsOf, hfs]
          have hfo : E.P.fieldsOf t = fs := by simp [Program.fieldsOf, hfs]
          rw [run_equalIn_struct w (d + k) t as bs hfs' hp, hfo]
          exact eqFields_run (fun t x y r h a b ha hb => ih t x y r h a b ha hb) ha hb _ r h
      · cases h
    · rename_i n e hne
      split at h
      · rename_i xs ys
        simp only [V] at ha hb
        obtain ⟨as, rfl, ha⟩ := ha
        obtain ⟨bs, rfl, hb⟩ := hb
        split at h
        · rename_i s hs
          have hq := eqElems_run (sizeT_run hs w) (fun x y r h a b ha hb => ih e x y r h a b ha hb) ha hb n 0 r h
          unfold Op.equalIn
          simp only [Sem.run_bind, run_und hne, Result.andThen_ok, sizeT_run hs]
          rw [range_forIn]
          simp only [hq, Result.andThen_ok]
          cases r <;> rfl
        · cases h
      · cases h
    · cases h

theorem pure_eq {s : Sem Bool} {r : Bool} (h : s.run E.P w = .ok r w) : (do pure (.bool (← s)) : Sem Value).run E.P w = .ok (.bool r) w := by simp [h]
theorem pure_neq {s : Sem Bool} {r : Bool} (h : s.run E.P w = .ok r w) : (do pure (.bool (!(← s))) : Sem Value).run E.P w = .ok (.bool (!r)) w := by simp [h]

theorem eq_pp (d : Nat) {t e : TypeId} (h : E.P.underlying t = some (.pointer e)) (x : Option Addr) : (Op.equalIn (d + 1) t (.pointer none) (.pointer x)).run E.P w = .ok x.isNone w := by
  simp [Op.equalIn, run_und h]
theorem eq_pn (d : Nat) {t e : TypeId} (h : E.P.underlying t = some (.pointer e)) (x : Addr) : (Op.equalIn (d + 1) t (.pointer (some x)) (.pointer none)).run E.P w = .ok false w := by
  simp [Op.equalIn, run_und h]
theorem eq_in (d : Nat) {t : TypeId} {m : Array (String × TypeId)} (h : E.P.underlying t = some (.interface m)) (u : TypeId) (x : Value) : (Op.equalIn (d + 1) t .nilIface (.iface u x)).run E.P w = .ok false w ∧ (Op.equalIn (d + 1) t (.iface u x) .nilIface).run E.P w = .ok false w := by
  constructor <;> simp [Op.equalIn, run_und h]
theorem eq_nn (d : Nat) {t : TypeId} {m : Array (String × TypeId)} (h : E.P.underlying t = some (.interface m)) : (Op.equalIn (d + 1) t .nilIface .nilIface).run E.P w = .ok true w := by
  simp [Op.equalIn, run_und h]
theorem eq_fn (d : Nat) {t : TypeId} {a b : Array TypeId} {v : Bool} (h : E.P.underlying t = some (.func a b v)) (f : Fn) (x y : Array Value) : (Op.equalIn (d + 1) t .nilFunc (.func f x y)).run E.P w = .ok false w ∧ (Op.equalIn (d + 1) t (.func f x y) .nilFunc).run E.P w = .ok false w := by
  constructor <;> simp [Op.equalIn, run_und h]

theorem eqAV_run (w : World) {t : TypeId} {x y : AV} {r : Bool} {p q : Operand} (h : eqAV E t (litOp p || litOp q) x y = some r) {a b : Value} (ha : V ρ x a) (hb : V ρ y b) :
    (eqGuard .eql t p q a b).run E.P w = .ok () w ∧ (eqGuard .neq t p q a b).run E.P w = .ok () w ∧ (Op.equalIn 10000 t a b).run E.P w = .ok r w ∧
    (binOp .eql t a b = do pure (.bool (← Op.equal t a b))) ∧ (binOp .neq t a b = do pure (.bool (!(← Op.equal t a b)))) := by
  unfold eqAV at h
  split at h
  · rename_i xs ys
    cases hg : E.P.eqGuardType E.P.depth t with
    | true => simp [hg] at h
    | false =>
      simp only [hg, cond_false] at h
      have he := eqT_run (w := w) 10 t _ _ r h a b ha hb 9990
      simp only [V] at ha hb
      obtain ⟨as, rfl, ha⟩ := ha
      obtain ⟨bs, rfl, hb⟩ := hb
      exact ⟨run_eqGuard_agg w .eql t p q as bs hg, run_eqGuard_agg w .neq t p q as bs hg, he, rfl, rfl⟩
  · split at h
    · rename_i e he
      split at h
      · cases h; simp only [V] at ha hb; subst ha; subst hb
        exact ⟨by simp [eqGuard], by simp [eqGuard], eq_pp 9999 he none, rfl, rfl⟩
      · cases h; simp only [V] at ha hb; obtain ⟨p1, hp1, rfl⟩ := hb; subst ha
        exact ⟨by simp [eqGuard], by simp [eqGuard], eq_pp 9999 he _, rfl, rfl⟩
      · cases h; simp only [V] at ha hb; obtain ⟨p1, hp1, rfl⟩ := ha; subst hb
        exact ⟨by simp [eqGuard], by simp [eqGuard], eq_pn 9999 he _, rfl, rfl⟩
      · cases h
    · rename_i e he
      split at h
      · cases h; simp only [V] at ha hb; obtain ⟨p1, rfl, hp1⟩ := hb; subst ha
        exact ⟨by simp [eqGuard], by simp [eqGuard], (eq_in 9999 he _ _).1, rfl, rfl⟩
      · cases h; simp only [V] at ha hb; obtain ⟨p1, rfl, hp1⟩ := ha; subst hb
        exact ⟨by simp [eqGuard], by simp [eqGuard], (eq_in 9999 he _ _).2, rfl, rfl⟩
      · cases hl : (litOp p || litOp q) with
        | false => rw [hl] at h; cases h
        | true =>
          rw [hl, cond_true, Option.some.injEq] at h; subst h
          simp only [V] at ha hb; subst ha; subst hb
          refine ⟨?_, ?_, eq_nn 9999 he, rfl, rfl⟩ <;> (cases p <;> cases q <;> first | (simp [litOp] at hl; done) | simp [eqGuard])
      · cases h
    · rename_i e1 e2 e3 he
      split at h
      · cases h; simp only [V] at ha hb; obtain ⟨p0, p1, rfl, hp1⟩ := hb; subst ha
        exact ⟨by simp [eqGuard], by simp [eqGuard], (eq_fn 9999 he _ _ _).1, rfl, rfl⟩
      · cases h; simp only [V] at ha hb; obtain ⟨p0, p1, rfl, hp1⟩ := ha; subst hb
        exact ⟨by simp [eqGuard], by simp [eqGuard], (eq_fn 9999 he _ _ _).2, rfl, rfl⟩
      · cases h
    · rename_i he
      split at h
      · cases h
        simp only [V] at ha hb; subst ha; subst hb
        exact ⟨by simp [eqGuard], by simp [eqGuard], run_equalIn_bool w 9999 t _ _ he, rfl, rfl⟩
      · cases h
    · cases h

theorem eqGuard_int (op : BinOp) (t : TypeId) (p q : Operand) (k k' : IntKind) (a b : Int) : (eqGuard op t p q (.int k a) (.int k' b)).run E.P w = .ok () w := by
  cases op <;> simp [eqGuard]
theorem eqGuard_str (op : BinOp) (t : TypeId) (p q : Operand) (a b : ByteArray) : (eqGuard op t p q (.string a) (.string b)).run E.P w = .ok () w := by
  cases op <;> simp [eqGuard]

theorem str_append (a b : List UInt8) : (⟨a.toArray⟩ ++ ⟨b.toArray⟩ : ByteArray) = ⟨(a ++ b).toArray⟩ := by
  apply ByteArray.ext
  simp [ByteArray.data_append]

theorem binR_pure (op : BinOp) (t : TypeId) (x y : AV) {a b : Value} (ha : V ρ x a) (hb : V ρ y b) (p q : Operand) :
    Pure ρ E.P w (binR E op t (litOp p || litOp q) x y) (do eqGuard op t p q a b; binOp op t a b) := by
  have lift : ∀ {r : Res} {s : Sem Value}, (eqGuard op t p q a b).run E.P w = .ok () w → Pure ρ E.P w r s → Pure ρ E.P w r (do eqGuard op t p q a b; s) := by
    intro r s hg hp v W hsel
    obtain ⟨rfl, cv, hr, hv⟩ := hp v W hsel
    exact ⟨rfl, cv, by simp [hg, hr], hv⟩
  unfold binR
  split
  · rename_i k1 n1 k2 n2
    simp only [V] at ha hb; subst ha; subst hb
    refine lift (eqGuard_int ..) ?_
    split
    · exact shiftR_pure _ _ _ _ fun h0 => by
        simp [binOp, Op.shift, show ¬ n2 < 0 from by omega]
    · exact shiftR_pure _ _ _ _ fun h0 => by
        simp [binOp, Op.shift, show ¬ n2 < 0 from by omega]
    · rename_i h1 h2
      by_cases hk : k1 = k2
      · subst hk; simpa using intBin_pure op t k1 n1 n2
      · simp [hk]; exact Pure.bad
  · rename_i s1 s2
    simp only [V] at ha hb; subst ha; subst hb
    refine lift (eqGuard_str ..) ?_
    split
    · refine Pure.node (fun hl => ?_) (fun _ => Pure.bad)
      have hl' : s1.length + s2.length ≤ lim := of_decide_eq_true hl
      simp only [lim] at hl'
      refine Pure.leaf (cv := .string ⟨(s1 ++ s2).toArray⟩) ?_ (by simp [V])
      have hn : ¬ (((⟨s1.toArray⟩ : ByteArray).size + (⟨s2.toArray⟩ : ByteArray).size : Nat) : Int) > IntKind.i64.max := by
        rw [size_mk, size_mk, show IntKind.i64.max = 9223372036854775807 from rfl]; omega
      simp only [binOp, Op.stringOp]
      rw [if_neg hn, str_append]
      rfl
    · exact Pure.leaf (cv := .bool (decide (s1 = s2))) (by simp only [binOp, Op.stringOp, toList_mk, dec_beq_bytes]; rfl) (by simp only [V])
    · exact Pure.leaf (cv := .bool (!decide (s1 = s2))) (by simp only [binOp, Op.stringOp, toList_mk, dec_beq_bytes]; rfl) (by simp only [V])
    · exact Pure.bad
  · split
    · refine Pure.opt fun v hv => ?_
      simp only [Option.map_eq_some_iff] at hv
      obtain ⟨r, hr, rfl⟩ := hv
      obtain ⟨h1, h2, h3, h4, h5⟩ := eqAV_run w hr ha hb
      have h3' : (Op.equal t a b).run E.P w = .ok r w := h3
      exact ⟨.bool r, by rw [h4]; simp [h1, h3'], by simp [V]⟩
    · refine Pure.opt fun v hv => ?_
      simp only [Option.map_eq_some_iff] at hv
      obtain ⟨r, hr, rfl⟩ := hv
      obtain ⟨h1, h2, h3, h4, h5⟩ := eqAV_run w hr ha hb
      have h3' : (Op.equal t a b).run E.P w = .ok r w := h3
      exact ⟨.bool (!r), by rw [h5]; simp [h2, h3'], by simp [V]⟩
    · exact Pure.bad
end
end Go.Am
