import Derived.Test.YthfieonkfailkaaAmOps8
import Derived.Laws.BytesString
namespace Go.Am
section
variable {ρ : Rho} {E : Env} {w : World} {h : Heap}

theorem getD_replicate {α : Type} (n k : Nat) (x d : α) (h : k < n) : (List.replicate n x).getD k d = x := by simp [List.getD, h]
structure RepSpec (d r : Dat) (n : Nat) : Prop where
  stride : r.stride = d.stride
  len : r.len = n
  row : ∀ k, k < n → r.row k = d.row 0
theorem Dat.rep_spec (d : Dat) (n : Nat) : RepSpec d (d.rep n) n := by
  cases d <;> exact ⟨rfl, by simp [Dat.rep, Dat.len], fun k hk => by simp only [Dat.rep, Dat.row]; rw [getD_replicate _ _ _ _ hk]⟩

theorem markIn_rep (t : TypeId) (d : Dat) (n : Nat) : markIn t (d.rep n) = markIn t d := by cases d <;> rfl
theorem makeSliceR_eff (hs : SatH ρ h w) {id : Nat} (hid : ∀ b, id ≤ b → b < id + 64 → ρ b = none) (t : TypeId) (l c : AV) {cl cc : Value} (hl : V ρ l cl) (hc : V ρ c cc) :
    Eff ρ E.P h w id (makeSliceR E id t l c) (Instr.makeSlice t cl cc) := by
  unfold makeSliceR
  split
  rotate_left
  · exact Eff.bad
  rename_i kl n kc m
  simp only [V] at hl hc; subst hl; subst hc
  split
  rotate_left
  · exact Eff.bad
  rename_i e ht
  split
  rotate_left
  · exact Eff.bad
  rename_i i z hi hz
  split
  rotate_left
  · exact Eff.bad
  rename_i d1 hd1
  cases hcond : (Nat.beq i.size d1.stride && Nat.blt 0 i.size && Nat.ble i.bytes 4096 && markIn e d1) with
  | false => simp only [cond_false]; exact Eff.bad
  | true =>
  simp only [cond_true]
  simp only [Bool.and_eq_true] at hcond
  obtain ⟨⟨⟨c1, c2⟩, c3⟩, hmi⟩ := hcond
  have c1 := Nat.eq_of_beq_eq_true c1
  have c2 : 0 < i.size := Nat.le_of_ble_eq_true c2
  have c3 := Nat.le_of_ble_eq_true c3
  refine Eff.node (fun hcd => ?_) (fun _ => Eff.bad)
  obtain ⟨h0, hlim, rfl⟩ := of_decide_eq_true hcd
  obtain ⟨i', zv, hi', hiz, hzr, hzl⟩ := zeroCells_run (ρ := ρ) hz
  rw [hi] at hi'; cases hi'
  have spec := Dat.ofRows_spec hd1
  have rsp := Dat.rep_spec d1 n.toNat
  have hrow0 : d1.row 0 = z := by rw [spec.row 0 (by simp)]; rfl
  have hwf0 := spec.wf 0 (by rw [spec.len]; simp)
  have hzlen : zv.cells.size = i.size := by
    have : zv.cells.toList.length = z.length := hzl.length
    rw [← hrow0, hwf0.1, ← c1] at this
    simpa using this
  have hb : (i.bytes : Int) * n ≤ 281474976710656 := by
    have h1 : (i.bytes : Int) * n ≤ 4096 * n := Int.mul_le_mul_of_nonneg_right (by omega) h0
    simp only [lim] at hlim; omega
  have hr := run_make (P := E.P) w t e i zv ht hi hiz kl kc n n h0 (Int.le_refl _) hb (by simp only [lim] at hlim; omega)
  have hwf : (d1.rep n.toNat).WF := fun k hk => by rw [rsp.len] at hk; rw [rsp.row k hk, rsp.stride]; exact hwf0
  obtain ⟨h1, h2, h3, h4⟩ := hs.alloc (hid id (Nat.le_refl _) (by omega)) (d1.rep n.toNat) (madeCells zv.cells (n.toNat * i.size)) e n.toNat (by rw [rsp.len]; exact Nat.le_refl _) (by simp only [lim] at hlim; simp only [maxLen]; omega) hwf
    (by rw [rsp.stride, ← c1, size_madeCells]; exact Nat.le_refl _) (by
      intro k hk j av hav
      rw [rsp.len] at hk
      rw [rsp.row k hk, hrow0] at hav
      have hj : j < i.size := by have := (List.getElem?_eq_some_iff.1 hav).1; rw [← hrow0, hwf0.1, ← c1] at this; exact this
      obtain ⟨cv, hcv, hV⟩ := hzl.get hav
      have hlt := seg_lt hk hj
      refine ⟨cv, ?_, hV⟩
      rw [rsp.stride, ← c1]
      simp only [madeCells, Array.getElem?_map, Array.getElem?_range, if_pos hlt, Option.map_some, Option.some.injEq]
      rw [hzlen, (divmod hj).2]
      have hj2 : j < zv.cells.size := by omega
      rw [getElem!_pos zv.cells j hj2]
      have : zv.cells.toList[j]? = some zv.cells[j] := by simp [hj2]
      rw [hcv] at this; exact (Option.some.inj this).symm) (markIn_ok (d := d1.rep n.toNat) (by rw [markIn_rep]; exact hmi))
  refine Eff.leaf ⟨_, _, _, hr, h1, ?_, h2, h3, fun b hb hn => by have := h4 b hb hn; omega⟩
  simp only [V]
  exact ⟨_, updF_same _ _ _, by rw [rsp.len]; exact Nat.le_refl _, ⟨some ⟨w.heap.size, 0, none⟩, by simp only [Nat.sub_zero, rsp.len], fun _ => by simp only [Pos.addr, Nat.zero_mul, Nat.add_zero]⟩⟩

/-! the calls of the model's own -/
theorem undef_V (a : AV) (ha : a = .any) : V ρ a undef := by subst ha; simp [V]

/-- what is asked of the calls -/
def CallOk (E : Env) (C : CallR) : Prop :=
  ∀ (f : FuncId) (args : List AV) (h : Heap) (id : Nat) (v : AV) (W : Upd), (C f args h id).sel = some (v, W) →
    (∃ fn, E.P.funcs[f]? = some fn ∧ fn.body.isSome = true ∧ fn.name ≠ "runtime.NumGoroutine") ∧
    ∀ (ρ : Rho) (w : World) (cargs : List Value), SatH ρ h w → GOk E (ownB ρ h) w → VL ρ args cargs → (∀ b, id ≤ b → b < id + 64 → ρ b = none) →
      Calls E.P f cargs.toArray w fun e w' => ∃ cv ρ', e = .returned cv ∧ ρ.le ρ' ∧ V ρ' v cv ∧ SatH ρ' (updW h W) w' ∧ Stp (ownB ρ h) (ownB ρ' (updW h W)) w w' ∧ (∀ b, ρ' b ≠ none → ρ b = none → id ≤ b ∧ b < id + 64)

/-- one operation's effect, as the walk wants it -/
def OpOk (E : Env) (o : Oper) (ρ : Rho) (h : Heap) (id : Nat) (ce : Operand → Value) (w : World) (v : AV) (W : Upd) : Prop :=
  ∀ (a : Act) (next : Act → World → Prop) (Q : Exit → Act → World → Prop), a.eval = ce →
    (∀ cv w' ρ', ρ.le ρ' → V ρ' v cv → SatH ρ' (updW h W) w' → Stp (ownB ρ h) (ownB ρ' (updW h W)) w w' → (∀ b, ρ' b ≠ none → ρ b = none → id ≤ b ∧ b < id + 64) → next (a.put o.dst cv) w') →
    o.wp E.P a w next Q

theorem OpRes.ok {o : Oper} {id : Nat} {ce : Operand → Value} {v : AV} {W : Upd} (hr : OpRes E.P ρ h w id (execOp ce o) v W) : OpOk E o ρ h id ce w v W := by
  intro a next Q ha hnext
  obtain ⟨cv, w', ρ', hrun, h1, h2, h3, h4, h5⟩ := hr
  unfold Oper.wp
  rw [ha]
  rcases hrun with hrun | ⟨hrun, rfl⟩
  · rw [hrun]; exact hnext cv w' ρ' h1 h2 h3 h4 h5
  · rw [hrun]; exact hnext undef w' ρ' h1 h2 h3 h4 h5

theorem VL_map {e : Operand → AV} {ce : Operand → Value} (he : ∀ x, V ρ (e x) (ce x)) (l : List Operand) : VL ρ (l.map e) (l.map ce) := by
  induction l with
  | nil => simp [VL]
  | cons x l ih => simp only [List.map_cons, VL]; exact ⟨_, _, rfl, he x, ih⟩
theorem PL_map {e : Operand → AV} {ce : Operand → Value} (he : ∀ x, V ρ (e x) (ce x)) : ∀ (l : List (Nat × Operand)), (∀ p ∈ l.map (fun p => (p.1, e p.2)), p.2.cells.all AV.isCell = true) →
    PL ρ ((l.map fun p => (p.1, e p.2)).map fun p => (p.1, p.2.cells)) (l.map fun p => (p.1, ce p.2))
  | [], _ => .nil
  | p :: l, h => by
    simp only [List.map_cons] at h ⊢
    exact .cons (cells_V (he p.2) (h _ (List.mem_cons_self ..))) (PL_map he l fun q hq => h q (List.mem_cons_of_mem _ hq))

set_option maxHeartbeats 4000000 in
theorem exR_call {C : CallR} (hC : CallOk E C) (hs : SatH ρ h w) (hgo : GOk E (ownB ρ h) w) {id : Nat} (hid : ∀ b, id ≤ b → b < id + 64 → ρ b = none) (dst : Option Tmp) (c : Call) (ty : TypeId) (pos : String) (after : Array Edge) (guard : Option (Nat × Bool))
    {e : Operand → AV} {ce : Operand → Value} (he : ∀ x, V ρ (e x) (ce x))
    {v : AV} {W : Upd} (hsel : (exR E C ⟨dst, .call c, ty, pos, after, guard⟩ id e h).sel = some (v, W)) : OpOk E ⟨dst, .call c, ty, pos, after, guard⟩ ρ h id ce w v W := by
  unfold exR at hsel
  simp only at hsel
  have bad : ∀ {P : Prop}, (T.bad : Res).sel = some (v, W) → P := fun h => by simp [T.sel] at h
  obtain ⟨callee, args, argTypes⟩ := c
  cases callee with
  | invoke r m => exact bad hsel
  | value f =>
    simp only at hsel
    split at hsel
    · rename_i g first caps hg
      have hf := he f
      rw [hg] at hf; simp only [V] at hf
      obtain ⟨us, vs, hce, hul, hcl⟩ := hf
      obtain ⟨⟨fn, hfn, hbody, hname⟩, hcalls⟩ := hC g _ h id v W hsel
      intro a next Q ha hnext
      have hcall := hcalls ρ w (us.toList ++ args.toList.map ce ++ vs.toList) hs hgo ((hul.append (VL_map he _)).append hcl) hid
      have hrun : (execOp ce ⟨dst, .call ⟨.value f, args, argTypes⟩, ty, pos, after, guard⟩).run E.P w = .ok (.enter g (us.toList ++ args.toList.map ce ++ vs.toList).toArray) w := by
        have hargs : (us ++ args.map ce : Array Value) ++ vs = (us.toList ++ args.toList.map ce ++ vs.toList).toArray := by
          apply Array.ext'; simp
        simp only [execOp, resolve, hce, Deferred.ofValue, Sem.run_bind, Sem.run_pure, Result.andThen_ok, invoke, callFunc, run_program, hfn]
        have hn : ¬ ((fn.name == "runtime.NumGoroutine") = true) := by simpa using hname
        have hb : ¬ (fn.body.isNone = true) := by cases hbb : fn.body <;> simp_all
        rw [if_neg hn, if_neg hb, hargs]
        rfl
      unfold Oper.wp
      rw [ha, hrun]
      exact hcall.mono fun e w' ⟨cv, ρ', he', h1, h2, h3, h4, h5⟩ => by
        subst he'
        exact hnext cv w' ρ' h1 h2 h3 h4 h5
    · exact bad hsel
  | builtin b =>
    simp only at hsel
    have hal := VL_map he args.toList
    split at hsel
    · rename_i t x h1 h2
      rw [h2] at hal
      simp only [VL] at hal
      obtain ⟨cv, r, hr, hV, rfl⟩ := hal
      have hat : argTypes = #[t] := by cases argTypes; simp_all
      have hargs : args.map ce = #[cv] := by apply Array.ext'; rw [Array.toList_map, hr]
      subst hat
      split at hsel
      · rename_i ht
        split at hsel
        · rename_i s
          simp only [V] at hV; subst hV
          have := (Pure.leaf (ρ := ρ) (P := E.P) (w := w) (s := Builtin.len_ #[t] ty #[.string ⟨s.toArray⟩]) (cv := .int .i64 s.length) (by simp [Builtin.len_, run_und ht, goInt, size_mk]) (by simp only [V])).res (id := id) hs hsel
          refine OpRes.ok ?_
          simpa [execOp, resolve, invoke, builtin, hargs] using this
        · exact bad hsel
      · rename_i et ht
        split at hsel
        · rename_i n hn
          obtain ⟨a, c, rfl, _⟩ := slLen_V hs hn hV
          have := (Pure.leaf (ρ := ρ) (P := E.P) (w := w) (s := Builtin.len_ #[t] ty #[.slice a n c]) (cv := .int .i64 n) (by simp [Builtin.len_, run_und ht, goInt]) (by simp only [V])).res (id := id) hs hsel
          refine OpRes.ok ?_
          simpa [execOp, resolve, invoke, builtin, hargs] using this
        · exact bad hsel
      · exact bad hsel
    · rename_i t u x y h1 h2
      rw [h2] at hal
      simp only [VL] at hal
      obtain ⟨cx, r, hr, hV, cy, r', rfl, hV', rfl⟩ := hal
      have hat : argTypes = #[t, u] := by cases argTypes; simp_all
      have hargs : args.map ce = #[cx, cy] := by apply Array.ext'; rw [Array.toList_map, hr]
      subst hat
      cases hc : appOk E t u y with
      | false => rw [hc] at hsel; exact bad hsel
      | true =>
        rw [hc] at hsel
        simp only [cond_true] at hsel
        have := (appendR_eff (ρ := ρ) (w := w) hs hid t u ty x y hV hV' hc).res hsel
        refine OpRes.ok ?_
        simpa [execOp, resolve, invoke, builtin, hargs] using this
    · rename_i kd a kb b h1
      rw [h1] at hal
      simp only [VL] at hal
      obtain ⟨cx, r, hr, hV, cy, r', rfl, hV', rfl⟩ := hal
      have hargs : args.map ce = #[cx, cy] := by apply Array.ext'; rw [Array.toList_map, hr]
      simp only [V] at hV hV'; subst hV; subst hV'
      have := (Pure.leaf (ρ := ρ) (P := E.P) (w := w) (s := Builtin.max_ argTypes ty #[.int kd a, .int kb b]) (cv := .int kd (if b > a then b else a)) (run_max_int2 w ..) (by simp only [V])).res (id := id) hs hsel
      refine OpRes.ok ?_
      simpa [execOp, resolve, invoke, builtin, hargs] using this
    · rename_i kd a kb b h1
      rw [h1] at hal
      simp only [VL] at hal
      obtain ⟨cx, r, hr, hV, cy, r', rfl, hV', rfl⟩ := hal
      have hargs : args.map ce = #[cx, cy] := by apply Array.ext'; rw [Array.toList_map, hr]
      simp only [V] at hV hV'; subst hV; subst hV'
      have := (Pure.leaf (ρ := ρ) (P := E.P) (w := w) (s := Builtin.min_ argTypes ty #[.int kd a, .int kb b]) (cv := .int kd (if b < a then b else a)) (run_min_int2 w ..) (by simp only [V])).res (id := id) hs hsel
      refine OpRes.ok ?_
      simpa [execOp, resolve, invoke, builtin, hargs] using this
    · exact bad hsel

/-- bytes as a text -/
theorem push_all (l : List Int) (f : Int → UInt8) (a : List UInt8) : l.foldl (fun (r : ByteArray) n => r.push (f n)) ⟨a.toArray⟩ = ⟨(a ++ l.map f).toArray⟩ := by
  induction l generalizing a with
  | nil => simp
  | cons n l ih =>
    simp only [List.foldl_cons, List.map_cons]
    have : (⟨a.toArray⟩ : ByteArray).push (f n) = ⟨(a ++ [f n]).toArray⟩ := by simp [ByteArray.push]
    rw [this, ih]; simp
theorem bytesR_pure (hs : SatH ρ h w) {s d et : TypeId} (h3 : E.P.underlying et = some (.int .u8)) {y : AV} {cv : Value} (hv : V ρ y cv) (h1 : E.P.underlying s = some (.slice et)) (h2 : E.P.underlying d = some .string) :
    Pure ρ E.P w (bytesR h y) (convert s d cv) := by
  have hconv : ∀ a n c, convert s d (.slice a n c) = Conv.bytesToString (.slice a n c) ∨ (convert s d (.slice a n c)).run E.P w = (Conv.bytesToString (.slice a n c)).run E.P w := fun a n c => .inr (by simp [convert, run_und h1, run_und h2, run_und h3])
  have hrun : ∀ a n c, (convert s d (.slice a n c)).run E.P w = (Conv.bytesToString (.slice a n c)).run E.P w := fun a n c => (hconv a n c).elim (fun e => by rw [e]) fun e => e
  have key : ∀ (d0 : Dat) (l : List Int), datOf h y = some d0 → d0.stride = 1 → d0.len = l.length → (∀ i, i < l.length → d0.row i = [.int .u8 (l.getD i 0)]) → Pure ρ E.P w (valR (.str (byteList l))) (convert s d cv) := by
    intro d0 l hd hstr hlen hrow
    obtain ⟨a, c, rfl, _⟩ := slLen_V hs (datOf_len hs hd hv) hv
    obtain ⟨news, hsrc⟩ := src_slice (E := E) hs hd hv
    have hnews : news = l.map (Value.int .u8) := by
      refine List.ext_getElem? fun i => ?_
      by_cases hi : i < l.length
      · obtain ⟨v, e1, e2⟩ := hsrc.row i (by rw [hlen]; exact hi) 0 (.int .u8 l[i]) (by rw [hrow i hi]; simp [List.getD, hi])
        simp only [V] at e2
        subst e2
        rw [hstr, Nat.mul_one] at e1; simpa [hi] using e1
      · rw [List.getElem?_eq_none (by rw [hsrc.size, hstr, hlen]; omega), List.getElem?_eq_none (by simpa using hi)]
    refine Pure.leaf (cv := .string ⟨(byteList l).toArray⟩) ?_ (by simp [V])
    rw [hrun]
    have hf := hsrc.cells
    cases a with
    | none =>
      simp only [Builtin.firstCells, Sem.run_pure, Result.ok.injEq] at hf
      have : news = [] := by simpa using hf.1.symm
      rw [hnews] at this
      have : l = [] := by simpa using this
      subst this
      simp [Conv.bytesToString, byteList]; rfl
    | some a =>
      have hf2 : (loadCells a l.length).run E.P w = .ok (l.map (Value.int .u8)).toArray w := by
        rw [← hnews]
        simpa [Builtin.firstCells, hlen, hstr] using hf
      rw [hlen, run_bytesToString w a l.length c l hf2]
      have := push_all l (fun n => UInt8.ofNat n.toNat) []
      simp only [List.nil_append] at this
      rw [show ByteArray.empty = (⟨([] : List UInt8).toArray⟩ : ByteArray) from rfl, this]
      rfl
  unfold bytesR
  split
  · simp only [V] at hv; subst hv
    exact Pure.leaf (cv := .string ByteArray.empty) (by rw [hrun]; simp [Conv.bytesToString]) (by simp only [V]; rfl)
  · split
    · rename_i l hd
      exact key _ l hd rfl rfl fun i _ => rfl
    · rename_i l hd
      exact key _ l hd rfl rfl fun i _ => rfl
    · exact Pure.bad

set_option maxHeartbeats 4000000 in
theorem exR_ok {C : CallR} (hC : CallOk E C) (hs : SatH ρ h w) (hgo : GOk E (ownB ρ h) w) {id : Nat} (hid : ∀ b, id ≤ b → b < id + 64 → ρ b = none) (o : Oper) {e : Operand → AV} {ce : Operand → Value} (he : ∀ x, V ρ (e x) (ce x))
    {v : AV} {W : Upd} (hsel : (exR E C o id e h).sel = some (v, W)) : OpOk E o ρ h id ce w v W := by
  obtain ⟨dst, op, ty, pos, after, guard⟩ := o
  have hsel0 := hsel
  unfold exR at hsel
  simp only at hsel
  have bad : ∀ {P : Prop}, (T.bad : Res).sel = some (v, W) → P := fun h => by simp [T.sel] at h
  cases op <;> (try simp only at hsel)
  case move x => exact OpRes.ok ((Pure.leaf (s := pure (ce x)) rfl (he x)).res hs hsel)
  case assign x => exact OpRes.ok ((Pure.leaf (s := pure (ce x)) rfl (he x)).res hs hsel)
  case pick c a b =>
    split at hsel
    · rename_i cb hcb
      have hc := he c
      rw [hcb] at hc
      simp only [V] at hc
      refine OpRes.ok ?_
      have hp : Pure ρ E.P w (match e a, e b with | .bool x, .bool y => valR (.bool (bif cb then x else y)) | x, y => .node cb (valR x) (valR y)) (do pure (if ← asBool (ce c) then ce a else ce b)) := by
        have ha := he a
        have hb := he b
        split
        · rename_i x y hx hy
          rw [hx] at ha; rw [hy] at hb
          simp only [V] at ha hb
          refine Pure.leaf (cv := .bool (bif cb then x else y)) ?_ (by simp only [V])
          rw [hc, ha, hb]
          cases cb <;> rfl
        · refine Pure.node (fun h1 => ?_) (fun h1 => ?_)
          · subst h1; exact Pure.leaf (cv := ce a) (by rw [hc]; rfl) ha
          · subst h1; exact Pure.leaf (cv := ce b) (by rw [hc]; rfl) hb
      have := hp.res (id := id) hs hsel
      simpa [execOp] using this
    · exact bad hsel
  case extract x i =>
    split at hsel
    · rename_i vs hvs
      have hx := he x
      rw [hvs] at hx
      simp only [V] at hx
      obtain ⟨us, hus, hl⟩ := hx
      refine OpRes.ok ((Pure.opt (s := Instr.extract (ce x) i) fun v hv => ?_).res hs hsel)
      obtain ⟨u, hu, hV⟩ := hl.get hv
      have hu' : us[i]? = some u := by simpa using hu
      exact ⟨u, by rw [hus]; simp [Instr.extract, hu'], hV⟩
    · exact bad hsel
  case binOp bo t x y u => exact OpRes.ok ((binR_pure bo t _ _ (he x) (he y) x y).res hs hsel)
  case unOp uo t x =>
    have hx := he x
    split at hsel
    · rename_i b hb
      rw [hb] at hx; simp only [V] at hx
      exact OpRes.ok ((Pure.leaf (s := Op.unary .not (ce x)) (cv := .bool (!b)) (by rw [hx]; rfl) (by simp only [V])).res hs hsel)
    · rename_i k n hb
      rw [hb] at hx; simp only [V] at hx
      exact OpRes.ok ((Pure.leaf (s := Op.unary .neg (ce x)) (cv := .int k (k.wrap (0 - n))) (by rw [hx]; rfl) (by simp only [V])).res hs hsel)
    · exact bad hsel
  case convert s d x =>
    have hx := he x
    split at hsel
    · rename_i ks kd kx n h1 h2 h3
      rw [h3] at hx; simp only [V] at hx
      exact OpRes.ok ((Pure.leaf (s := convert s d (ce x)) (cv := .int kd (kd.wrap n)) (by rw [hx]; simp [convert, run_und h1, run_und h2, Conv.intToInt]) (by simp only [V])).res hs hsel)
    · rename_i str h1 h2 h3
      rw [h3] at hx; simp only [V] at hx
      exact OpRes.ok ((Pure.leaf (s := convert s d (ce x)) (cv := .string ⟨str.toArray⟩) (by rw [hx]; simp [convert, run_und h1, run_und h2]) (by simp only [V])).res hs hsel)
    · rename_i et _ h1 h2
      split at hsel
      · rename_i h3
        refine OpRes.ok ((bytesR_pure (E := E) hs h3 (he x) h1 h2).res hs hsel)
      · exact bad hsel
    · exact bad hsel
  case nilCheck x =>
    have hx := he x
    split at hsel
    · rename_i b i j hb
      rw [hb] at hx; have hx' := hx; simp only [V] at hx
      obtain ⟨p, hp, hce⟩ := hx
      refine OpRes.ok ?_
      have : execOp ce ⟨dst, .nilCheck x, ty, pos, after, guard⟩ = pure (.value (ce x)) := by simp only [execOp]; rw [hce]
      rw [this]
      simp only [valR, T.sel, Option.some.injEq, Prod.mk.injEq] at hsel
      obtain ⟨rfl, rfl⟩ := hsel
      exact OpRes.val hs rfl hx'
    · rename_i f u c hb
      rw [hb] at hx; have hx' := hx; simp only [V] at hx
      obtain ⟨us, vs, hce, _⟩ := hx
      refine OpRes.ok ?_
      have : execOp ce ⟨dst, .nilCheck x, ty, pos, after, guard⟩ = pure (.value (ce x)) := by simp only [execOp]; rw [hce]
      rw [this]
      simp only [valR, T.sel, Option.some.injEq, Prod.mk.injEq] at hsel
      obtain ⟨rfl, rfl⟩ := hsel
      exact OpRes.val hs rfl hx'
    · exact bad hsel
  case makeFunc fn first caps =>
    cases fn with
    | func f =>
      simp only at hsel
      refine OpRes.ok ((Pure.leaf (s := Instr.makeFunc (.func f) (first.map ce) (caps.map ce)) (cv := .func (.func f) (first.map ce) (caps.map ce)) (by simp [Instr.makeFunc]) ?_).res hs hsel)
      simp only [V]
      exact ⟨_, _, rfl, by rw [Array.toList_map]; exact VL_map he _, by rw [Array.toList_map]; exact VL_map he _⟩
    | _ => exact bad hsel
  case makeInterface t x =>
    split at hsel
    · exact bad hsel
    · rename_i d hd h1
      refine OpRes.ok ((Pure.leaf (s := Instr.makeInterface t (ce x)) (cv := .iface t (ce x)) ?_ (by simp only [V]; exact ⟨_, rfl, he x⟩)).res hs hsel)
      unfold Instr.makeInterface
      simp only [Sem.run_bind, run_und h1, Result.andThen_ok]
      cases d <;> first | rfl | (exfalso; exact hd _ rfl)
    · exact bad hsel
  case alloc t =>
    split at hsel
    · rename_i cs hcs
      exact OpRes.ok ((alloc_eff hs hid t hcs).res hsel)
    · exact bad hsel
  case box t x => exact OpRes.ok ((box_eff hs hid t (he x)).res hsel)
  case build t parts =>
    refine OpRes.ok ((buildR_pure t _ (parts.map fun (p : Nat × Operand) => (p.1, ce p.2)) fun hall => ?_).res hs hsel)
    rw [Array.toList_map]
    exact PL_map he _ hall
  case buildSlice t n parts =>
    refine OpRes.ok ((buildSliceR_eff hs hid t n _ (parts.map fun (p : Nat × Operand) => (p.1, ce p.2)) fun hall => ?_).res hsel)
    rw [Array.toList_map]
    exact PL_map he _ hall
  case load t a => exact OpRes.ok ((loadR_pure hs t _ (he a)).res hs hsel)
  case store t a x =>
    obtain ⟨rfl, w', hr, hs', hst⟩ := storeR_eff hs t _ _ (he a) (he x) v W hsel
    exact OpRes.ok ⟨undef, w', ρ, .inr ⟨by simp [execOp, hr], rfl⟩, Rho.le.refl _, by simp [V], hs', hst, fun b h1 h2 => (h1 h2).elim⟩
  case fieldAddr t x f =>
    have hx := he x
    split at hsel
    · rename_i b i j hb
      rw [hb] at hx; simp only [V] at hx
      obtain ⟨p, hp, hce⟩ := hx
      split at hsel
      · rename_i off ft hfo
        unfold fieldOf at hfo
        split at hfo
        · rename_i fs hfs
          simp only [Option.map_eq_some_iff] at hfo
          obtain ⟨fd, hfd, hfe⟩ := hfo
          cases hfe
          split at hsel
          · rename_i s hsz
            refine OpRes.ok ((Pure.leaf (s := Instr.fieldAt t (ce x) f) (cv := .pointer (some (p.addr i (j + fd.offset)))) ?_ (by simp only [V]; exact ⟨p, hp, rfl⟩)).res hs hsel)
            rw [hce]
            simp [Instr.fieldAt, run_und hfs, hfd, Instr.sureAddr, fieldPlace, sizeT_run hsz, pos_add]
          · exact bad hsel
        · cases hfo
      · exact bad hsel
    · exact bad hsel
  case field t x f =>
    have hx := he x
    split at hsel
    · rename_i cs hb
      rw [hb] at hx; simp only [V] at hx
      obtain ⟨vs, hce, hl⟩ := hx
      split at hsel
      · rename_i off ft hfo
        unfold fieldOf at hfo
        split at hfo
        · rename_i fs hfs
          simp only [Option.map_eq_some_iff] at hfo
          obtain ⟨fd, hfd, hfe⟩ := hfo
          cases hfe
          refine OpRes.ok ((Pure.opt (s := Instr.field t (ce x) f) fun v hv => ?_).res hs hsel)
          obtain ⟨cv, hr, hV⟩ := partOf_run hv hl w
          exact ⟨cv, by rw [hce]; simp [Instr.field, run_und hfs, hfd, asAgg, hr], hV⟩
        · cases hfo
      · exact bad hsel
    · exact bad hsel
  case indexAddr t x ix => exact OpRes.ok ((indexAddrR_pure hs t _ _ (he x) (he ix)).res hs hsel)
  case index t x ix => exact OpRes.ok ((indexR_pure t _ _ (he x) (he ix)).res hs hsel)
  case slice t x lo hi mx =>
    cases mx with
    | some m => exact bad hsel
    | none =>
      refine OpRes.ok ((sliceR_pure hs t _ _ _ (vl := lo.map ce) (vh := hi.map ce) (he x) ?_ ?_).res hs hsel)
      · cases lo with
        | none => simp [OV]
        | some l => exact he l
      · cases hi with
        | none => simp [OV]
        | some l => exact he l
  case makeSlice t l c => exact OpRes.ok ((makeSliceR_eff hs hid t _ _ (he l) (he c)).res hsel)
  case call c => exact exR_call hC hs hgo hid dst c ty pos after guard he hsel0
  all_goals exact bad hsel
end
end Go.Am
