/-
  Texts put together: LexFn, LexAll, LexRef, LexJo, LexLong.
-/
import Derived.Test.YtdckpbeioemopaaGreatDoorLxA
import Derived.Test.YtdckpbeioemopaaGreatDoorPureA
namespace Go.Proofs.YtdckpbeioemopaaGreatDoor.Lx
open Go.Am
set_option maxRecDepth 100000
variable {B : Nat → Option Obj}
theorem drop_cons' {s : List UInt8} {i : Int} {c : UInt8} {r : List UInt8} (h0 : 0 ≤ i) (h : s.drop i.toNat = c :: r) : i < (s.length : Int) ∧ ch s i = (c.toNat : Int) ∧ s.drop (i + 1).toNat = r ∧ rI s i = true := by
  obtain ⟨h1, h2, h3⟩ := drop_cons h
  refine ⟨by omega, by unfold ch; rw [h2], by rw [show (i + 1).toNat = i.toNat + 1 from by omega]; exact h3, decide_eq_true ⟨h0, by omega⟩⟩
theorem drop_nil' {s : List UInt8} {i : Int} (h0 : 0 ≤ i) (h : s.drop i.toNat = []) : ¬ i < (s.length : Int) := by
  have := List.drop_eq_nil_iff.1 h
  omega
theorem wr_lim {n : Int} (h0 : -1000 ≤ n) (h1 : n ≤ 3000000000) : wr n = n := by unfold wr; rw [IntKind.wrap_i64]; omega
noncomputable def bSm : Code := loopAt 2 (loopsOf (bodyC Tryz.f95))
def sgSm : LSig := { cs := [(0, 0)], mv := [(3, 0)], mo := [(3, 0)], take := [] }
theorem turnSm (s : List UInt8) (n : Int) : (turn (E0 B) (Cx B lib6) noL 21 sgSm bSm [.str s, i64 n] []).sel =
    bif decide (n < (s.length : Int)) then (bif rI s n then (bif rI s 0 then (bif decide (kindN (ch s n) = kindN (ch s 0)) then some (.normal, ⟨[.str s, i64 (wr (n + 1))], []⟩) else some (.exit 0, ⟨[i64 n], []⟩)) else none) else none) else some (.exit 0, ⟨[i64 n], []⟩) := by kernel_rfl
def spSm : LSpec
  | [.str s, .int .i64 n], [] => .node (decide (1 ≤ n ∧ n ≤ (s.length : Int) ∧ s.length ≤ lim)) (.leaf (.exit 0, ⟨[i64 (n + (runK (kindN (ch s 0)) (s.drop n.toNat) : Int))], []⟩)) .bad
  | _, _ => .bad
theorem loopSm (hB : Laid B) : LoopOk (E0 B) 21 sgSm bSm spSm := by
  refine loop_turns (C := Cx B lib6) (L := noL) (cxOk (lib6_ok hB)) (noL_ok _) fun vs bs e o h => ?_
  unfold spSm at h
  split at h
  · rename_i s n
    rcases T.node_sel h with ⟨hc, h2⟩ | ⟨_, h2⟩
    · obtain ⟨h0, h1, hl⟩ := of_decide_eq_true hc
      clear hc h
      simp only [lim] at hl
      simp only [T.sel, Option.some.injEq, Prod.mk.injEq] at h2
      obtain ⟨rfl, rfl⟩ := h2
      have hs0 : rI s 0 = true := decide_eq_true ⟨by omega, by omega⟩
      generalize hr : s.drop n.toNat = r
      induction r generalizing n with
      | nil =>
        refine ⟨1, turns_done ((turnSm s n).trans ?_) (by simp)⟩
        rw [decide_eq_false (drop_nil' (by omega) hr)]
        simp [runK]
      | cons c r ih =>
        obtain ⟨d1, d2, d3, d4⟩ := drop_cons' (by omega) hr
        have ht := turnSm (B := B) s n
        rw [decide_eq_true d1, d4, hs0, d2, wr_lim (by omega) (by omega)] at ht
        rw [runK_cons]
        show ∃ k, _ = some (AExit.exit 0, (⟨[i64 (n + ((bif decide (kindN (c.toNat : Int) = kindN (ch s 0)) then runK (kindN (ch s 0)) r + 1 else 0 : Nat) : Int))], []⟩ : Out))
        by_cases hk : kindN (c.toNat : Int) = kindN (ch s 0)
        · rw [decide_eq_true hk] at ht ⊢
          obtain ⟨k, hk2⟩ := ih (n + 1) (by omega) (by omega) d3
          refine ⟨k + 1, turns_more ht ?_⟩
          rw [cond_true, show n + ((runK (kindN (ch s 0)) r + 1 : Nat) : Int) = n + 1 + (runK (kindN (ch s 0)) r : Int) from by omega]
          exact hk2
        · rw [decide_eq_false hk] at ht ⊢
          exact ⟨1, turns_done (ht.trans (by simp)) (by simp)⟩
    · simp [T.sel] at h2
  · simp [T.sel] at h
noncomputable def eSm : LEnt := { id := 2, n := 21, sg := sgSm, wr := writes bSm, s := spSm }
def sSame : FSpec
  | [.str s], [] => .node (decide (0 < s.length ∧ s.length ≤ lim)) (.leaf ⟨[i64 (runK (kindN (ch s 0)) s : Int)], []⟩) .bad
  | _, _ => .bad
theorem tSame (s : List UInt8) : runL B lib6 [eSm] Tryz.f95 [.str s] [] =
    bif decide (1 ≤ (1 : Int) ∧ (1 : Int) ≤ (s.length : Int) ∧ s.length ≤ lim) then some ⟨[i64 (1 + (runK (kindN (ch s 0)) (s.drop 1) : Int))], []⟩ else none := by kernel_rfl
theorem okSame (hB : Laid B) : FnOk (E0 B) 95 sSame := by
  refine fnL (lib6_ok hB) (ls := [eSm]) Tryz.func95 (by kernel_rfl) (by kernel_rfl) (fun x hx => ?_) fun vs bs r h => ?_
  · simp only [List.mem_singleton] at hx; subst hx
    exact ⟨bSm, by kernel_rfl, rfl, loopSm hB⟩
  · unfold sSame at h
    split at h
    · rename_i s
      rcases T.node_sel h with ⟨hc, h2⟩ | ⟨_, h2⟩
      · obtain ⟨h0, hl⟩ := of_decide_eq_true hc
        simp only [T.sel, Option.some.injEq] at h2; subst h2
        rw [tSame, decide_eq_true (show 1 ≤ (1 : Int) ∧ (1 : Int) ≤ (s.length : Int) ∧ s.length ≤ lim from ⟨by omega, by omega, hl⟩)]
        cases s with
        | nil => simp at h0
        | cons c r =>
          rw [cond_true]
          rw [runK_cons, decide_eq_true (show kd c = kindN (ch (c :: r) 0) from rfl), cond_true, List.drop_one, List.tail_cons]
          congr 4; simp [Int.add_comm]
      · simp [T.sel] at h2
    · simp [T.sel] at h
def r1 (n : Int) : Option Out := some ⟨[i64 n], []⟩
theorem tCheck (k a : Int) (t : List UInt8) : runT B lib6 Tryz.f69 [.agg [.int .u8 k, .str t, .int .i64 a]] [] =
    bif decide (k = 1) then (bif decide (t.length ≤ lim) then r1 (rdE t) else none) else bif decide (k = 2) then (bif isWord t then r1 0 else r1 32) else
      bif decide (k = 3) then (bif decide (symE t 0 = 0) then (bif decide (0 < symN t 0) then (bif decide (symN t 0 = (t.length : Int)) then r1 0 else r1 32) else r1 32) else r1 32) else r1 32 := by kernel_rfl
def sCheck : FSpec
  | [.agg [.int .u8 k, .str t, .int .i64 _]], [] => .node (decide (t.length ≤ lim)) (.leaf ⟨[i64 (tokE k t)], []⟩) .bad
  | _, _ => .bad
theorem sym_at0 (t : List UInt8) : symN t 0 = sym0 t ∧ symE t 0 = 0 := by
  have : outA t 0 = false := by unfold outA; rw [decide_eq_false (by omega), decide_eq_false (by omega)]; rfl
  unfold symN symE
  rw [this]; exact ⟨by simp, rfl⟩
theorem okCheck (hB : Laid B) : FnOk (E0 B) 69 sCheck := by
  refine fnT (lib6_ok hB) Tryz.func69 (by kernel_rfl) (by kernel_rfl) fun vs bs r h => ?_
  unfold sCheck at h
  split at h
  · rename_i k t a
    rcases T.node_sel h with ⟨hc, h2⟩ | ⟨_, h2⟩
    · simp only [T.sel, Option.some.injEq] at h2; subst h2
      refine (tCheck k a t).trans ?_
      obtain ⟨e1, e2⟩ := sym_at0 t
      rw [hc, e1, e2]
      unfold tokE r1
      cases decide (k = 1) <;> cases decide (k = 2) <;> cases decide (k = 3) <;> cases isWord t <;> cases decide (0 < sym0 t) <;> cases decide (sym0 t = (t.length : Int)) <;> rfl
    · simp [T.sel] at h2
  · simp [T.sel] at h
def av (t : Tok) : AV := .agg [.int .u8 t.kind, .str t.text, .int .i64 t.pos]
def oTk (k : Int) (t : List UInt8) : Option Out := some ⟨[av ⟨k, t, 0⟩], []⟩
noncomputable def lib7 : Tb := (95, [], sSame) :: (69, [], sCheck) :: lib6
theorem lib7_ok (hB : Laid B) : TbOk B lib7 := lib6_ok hB |>.add (okCheck hB) |>.add (okSame hB)
theorem tToken (s : List UInt8) : runT B lib7 Tryz.f68 [.str s] [] =
    bif rI s 0 then (bif decide (kindN (ch s 0) = 2) then (bif decide (0 < s.length ∧ s.length ≤ lim) then (bif sL s 0 (runK (kindN (ch s 0)) s : Int) then oTk 1 (s.take (runK (kindN (ch s 0)) s)) else none) else none) else
      bif decide (kindN (ch s 0) = 3) then (bif decide (0 < s.length ∧ s.length ≤ lim) then (bif sL s 0 (runK (kindN (ch s 0)) s : Int) then oTk 2 (s.take (runK (kindN (ch s 0)) s)) else none) else none) else
      bif sL s 0 (symN s 0) then oTk 3 (s.take (symN s 0).toNat) else none) else none := by kernel_rfl
end Go.Proofs.YtdckpbeioemopaaGreatDoor.Lx
namespace Go.Proofs.YtdckpbeioemopaaGreatDoor.Lx
open Go.Am
set_option maxRecDepth 100000
variable {B : Nat → Option Obj}
def sToken : FSpec
  | [.str s], [] => .node (decide (0 < s.length ∧ s.length ≤ lim)) (.leaf ⟨[av ⟨tkK s, tkT s, 0⟩], []⟩) .bad
  | _, _ => .bad
theorem sL_0 {s : List UInt8} {n : Nat} (h : n ≤ s.length) : sL s 0 (n : Int) = true := decide_eq_true ⟨Int.le_refl _, by omega, by omega⟩
theorem okToken (hB : Laid B) : FnOk (E0 B) 68 sToken := by
  refine fnT (lib7_ok hB) Tryz.func68 (by kernel_rfl) (by kernel_rfl) fun vs bs r h => ?_
  unfold sToken at h
  split at h
  · rename_i s
    rcases T.node_sel h with ⟨hc, h2⟩ | ⟨_, h2⟩
    · simp only [T.sel, Option.some.injEq] at h2; subst h2
      obtain ⟨h0, hl⟩ := of_decide_eq_true hc
      refine (tToken s).trans ?_
      rw [hc, show rI s 0 = true from decide_eq_true ⟨Int.le_refl _, by omega⟩, (sym_at0 s).1]
      have e : c0 s = ch s 0 := rfl
      have h4 : sL s 0 (sym0 s) = true := by
        have := sym_len s
        have h5 : 0 ≤ sym0 s := by rcases sym_rng s with h | h | h <;> omega
        exact decide_eq_true ⟨Int.le_refl _, by omega, by omega⟩
      rw [h4, sL_0 (runK_le _ s)]
      unfold tkK tkT tkN oTk
      rw [e]
      by_cases h2 : kindN (ch s 0) = 2
      · rw [decide_eq_true h2, h2]; rfl
      · rw [decide_eq_false h2]
        by_cases h3 : kindN (ch s 0) = 3
        · rw [decide_eq_true h3, h3]; rfl
        · rw [decide_eq_false h3]; rfl
    · simp [T.sel] at h2
  · simp [T.sel] at h
noncomputable def lib8 : Tb := (68, [], sToken) :: lib7
theorem lib8_ok (hB : Laid B) : TbOk B lib8 := lib7_ok hB |>.add (okToken hB)
noncomputable def bAl : Code := loopAt 5 (loopsOf (bodyC Tryz.f55))
def sgAl : LSig := { cs := [(0, 0)], mv := [(5, 97), (6, 0)], mo := [(2, 97), (3, 0), (4, 0), (5, 97)], take := [0] }
def tkb (l : List Tok) : Blk := ⟨true, .toks l⟩
def goAl (s : List UInt8) (a : Int) (L : List Tok) : Option (AExit × Out) := some (.normal, ⟨[.str s, .slw 0, i64 a], [tkb L]⟩)
def reAl (a e : Int) (L : List Tok) : Option (AExit × Out) := some (.ret, ⟨[.slw 0, i64 a, i64 e, .slw 1], [tkb [], tkb L]⟩)
def exAl (L : List Tok) : Option (AExit × Out) := some (.exit 0, ⟨[.any, .any, .any, .slw 0], [tkb L]⟩)
theorem turnAl (s : List UInt8) (a : Int) (L : List Tok) : (turn (E0 B) (Cx B lib8) noL 51 sgAl bAl [.str s, .slw 0, i64 a] [tkb L]).sel =
    bif decide (a < (s.length : Int)) then (bif rI s a then (bif decide (kindN (ch s a) = 1) then goAl s (wr (a + 1)) L else bif decide ((L.length : Int) = 200) then reAl a 4 L else
      bif decide (0 ≤ a ∧ a ≤ (s.length : Int)) then (bif decide (0 < (s.drop a.toNat).length ∧ (s.drop a.toNat).length ≤ lim) then (bif decide ((tkT (s.drop a.toNat)).length ≤ lim) then
        (bif !decide (tokE (tkK (s.drop a.toNat)) (tkT (s.drop a.toNat)) = 0) then reAl a (tokE (tkK (s.drop a.toNat)) (tkT (s.drop a.toNat))) L else bif decide (L.length + 1 ≤ lim) then
          goAl s (wr (a + ((tkT (s.drop a.toNat)).length : Int))) (L ++ [⟨tkK (s.drop a.toNat), tkT (s.drop a.toNat), a⟩]) else none) else none) else none) else none) else none) else exAl L := by kernel_rfl
def outAl (L : List Tok) (o : LexO) : Option (AExit × Out) := bif decide (o.e = 0) then exAl (L ++ o.l) else reAl o.n o.e (L ++ o.l)
def okAl (s : List UInt8) (a : Int) (L : List Tok) : Bool := decide (0 ≤ a ∧ a ≤ (s.length : Int) ∧ s.length ≤ 1000 ∧ L.length ≤ 200)
def spAl : LSpec
  | [.str s, .slw 0, .int .i64 a], [⟨true, .toks L⟩] => .node (okAl s a L) (.node (decide ((lx (s.drop a.toNat) a L.length).e = 0)) (.leaf (.exit 0, ⟨[.any, .any, .any, .slw 0], [tkb (L ++ (lx (s.drop a.toNat) a L.length).l)]⟩))
      (.leaf (.ret, ⟨[.slw 0, i64 (lx (s.drop a.toNat) a L.length).n, i64 (lx (s.drop a.toNat) a L.length).e, .slw 1], [tkb [], tkb (L ++ (lx (s.drop a.toNat) a L.length).l)]⟩))) .bad
  | _, _ => .bad
theorem runAl (s : List UInt8) (hl : s.length ≤ 1000) : ∀ r a k, ∀ L : List Tok, L.length = k → k ≤ 200 → s.drop a.toNat = r → 0 ≤ a → a ≤ (s.length : Int) →
    ∃ m, (turns (E0 B) (Cx B lib8) noL 51 sgAl bAl m [.str s, .slw 0, i64 a] [tkb L]).sel = outAl L (lx r a k) := by
  have hr : ∀ {c r} {a : Int}, s.drop a.toNat = c :: r → 0 ≤ a → (0 ≤ a ∧ a ≤ (s.length : Int)) ∧ (0 < (s.drop a.toNat).length ∧ (s.drop a.toNat).length ≤ lim) ∧ (tkT (s.drop a.toNat)).length ≤ lim := fun {c r a} h h0 => by
    have h1 := (drop_cons' h0 h).1
    have e := drop_len s h0 (by omega)
    have e2 := tkN_le (s.drop a.toNat)
    rw [tkT_len]
    simp only [lim]
    omega
  refine lx_ind ?_ ?_ ?_ ?_ ?_
  · intro a k L hL hk hd h0 h1
    rw [lx_nil]
    refine ⟨1, turns_done ((turnAl s a L).trans ?_) (by simp)⟩
    rw [decide_eq_false (drop_nil' h0 hd)]
    show exAl L = exAl (L ++ [])
    rw [List.append_nil]
  · intro c r a k h ih L hL hk hd h0 h1
    obtain ⟨d1, d2, d3, d4⟩ := drop_cons' h0 hd
    have ht := turnAl (B := B) s a L
    rw [decide_eq_true d1, d4, d2, decide_eq_true (show kindN (c.toNat : Int) = 1 from h), wr_lim (by omega) (by omega)] at ht
    obtain ⟨m, hm⟩ := ih L hL hk d3 (by omega) (by omega)
    rw [lx_blank h]
    exact ⟨m + 1, (turns_more' ht).trans hm⟩
  · intro c r a h L hL hk hd h0 h1
    obtain ⟨d1, d2, d3, d4⟩ := drop_cons' h0 hd
    rw [lx_many h rfl]
    refine ⟨1, turns_done ((turnAl s a L).trans ?_) (by simp)⟩
    rw [decide_eq_true d1, d4, d2, decide_eq_false (show ¬ kindN (c.toNat : Int) = 1 from h), decide_eq_true (show (L.length : Int) = 200 from by omega)]
    show reAl a 4 L = reAl a 4 (L ++ [])
    rw [List.append_nil]
  · intro c r a k h hk2 hf L hL hk hd h0 h1
    obtain ⟨d1, d2, d3, d4⟩ := drop_cons' h0 hd
    obtain ⟨e1, e2, e3⟩ := hr hd h0
    have hout : outAl L ⟨[], a, tkF (c :: r)⟩ = some (.ret, ⟨[.slw 0, i64 a, i64 (tkF (c :: r)), .slw 1], [tkb [], tkb L]⟩) := by
      unfold outAl
      rw [decide_eq_false hf, List.append_nil]; rfl
    rw [lx_bad h hk2 hf, hout]
    refine ⟨1, turns_done ((turnAl s a L).trans ?_) (by simp)⟩
    rw [decide_eq_true d1, d4, d2, decide_eq_false (show ¬ kindN (c.toNat : Int) = 1 from h), decide_eq_false (show ¬ (L.length : Int) = 200 from by omega), decide_eq_true e1, decide_eq_true e2, decide_eq_true e3, hd]
    rw [show decide (tokE (tkK (c :: r)) (tkT (c :: r)) = 0) = false from decide_eq_false hf]; rfl
  · intro c r a k h hk2 hf ih L hL hk hd h0 h1
    obtain ⟨d1, d2, d3, d4⟩ := drop_cons' h0 hd
    obtain ⟨e1, e2, e3⟩ := hr hd h0
    have e := tkN_le (c :: r)
    have e4 := drop_len s h0 h1
    rw [hd] at e4
    have ht := turnAl (B := B) s a L
    rw [decide_eq_true d1, d4, d2, decide_eq_false (show ¬ kindN (c.toNat : Int) = 1 from h), decide_eq_false (show ¬ (L.length : Int) = 200 from by omega), decide_eq_true e1, decide_eq_true e2, decide_eq_true e3, hd,
      show decide (tokE (tkK (c :: r)) (tkT (c :: r)) = 0) = true from decide_eq_true hf, decide_eq_true (show L.length + 1 ≤ lim from by simp only [lim]; omega), tkT_len, wr_lim (n := a + (tkN (c :: r) : Int)) (by omega) (by omega)] at ht
    obtain ⟨m, hm⟩ := ih (L ++ [⟨tkK (c :: r), tkT (c :: r), a⟩]) (by simp [hL]) (by omega) (by rw [show (a + (tkN (c :: r) : Int)).toNat = a.toNat + tkN (c :: r) from by omega, ← List.drop_drop, hd]) (by omega) (by omega)
    have hout : outAl (L ++ [⟨tkK (c :: r), tkT (c :: r), a⟩]) (lx ((c :: r).drop (tkN (c :: r))) (a + (tkN (c :: r) : Int)) (k + 1)) = outAl L (lx (c :: r) a k) := by
      rw [lx_tok h hk2 hf]
      unfold outAl LexO.cons
      simp only [List.append_assoc, List.singleton_append]
    rw [hout] at hm
    exact ⟨m + 1, (turns_more' ht).trans hm⟩
theorem loopAl (hB : Laid B) : LoopOk (E0 B) 51 sgAl bAl spAl := by
  refine loop_turns (C := Cx B lib8) (L := noL) (cxOk (lib8_ok hB)) (noL_ok _) fun vs bs e o h => ?_
  unfold spAl at h
  split at h
  · rename_i s a L
    rcases T.node_sel h with ⟨hc, h2⟩ | ⟨_, h2⟩
    · obtain ⟨h0, h1, hl, hk⟩ := of_decide_eq_true hc
      obtain ⟨m, hm⟩ := runAl s hl _ a L.length L rfl hk rfl h0 h1
      refine ⟨m, hm.trans ?_⟩
      rw [← h2]
      unfold outAl
      simp only [T.sel]
      cases decide ((lx (s.drop a.toNat) a L.length).e = 0) <;> rfl
    · simp [T.sel] at h2
  · simp [T.sel] at h
noncomputable def eAl : LEnt := { id := 5, n := 51, sg := sgAl, wr := writes bAl, s := spAl }
theorem tAll (s : List UInt8) : runL B lib8 [eAl] Tryz.f55 [.str s] [] =
    bif decide ((400 : Int) < (s.length : Int)) then some ⟨[.slw 0, i64 0, i64 4], [tkb []]⟩ else bif okAl s 0 [] then (bif decide ((lx s 0 0).e = 0) then some ⟨[.slw 0, i64 s.length, i64 0], [tkb (lx s 0 0).l]⟩ else some ⟨[.slw 0, i64 (lx s 0 0).n, i64 (lx s 0 0).e], [tkb []]⟩) else none := by kernel_rfl
def sAll : FSpec
  | [.str s], [] => .leaf ⟨[.slw 0, i64 (lexN s), i64 (lexE s)], [tkb (lexL s)]⟩
  | _, _ => .bad
theorem lexA_is {s : List UInt8} (h : ¬ (400 : Int) < (s.length : Int)) : lexA s = lx s 0 0 := by
  unfold lexA
  rw [decide_eq_false h]; rfl
theorem all_is (s : List UInt8) : (bif decide ((400 : Int) < (s.length : Int)) then some (⟨[.slw 0, i64 0, i64 4], [tkb []]⟩ : Out) else bif okAl s 0 [] then (bif decide ((lx s 0 0).e = 0) then some ⟨[.slw 0, i64 s.length, i64 0], [tkb (lx s 0 0).l]⟩ else some ⟨[.slw 0, i64 (lx s 0 0).n, i64 (lx s 0 0).e], [tkb []]⟩) else none) =
    some ⟨[.slw 0, i64 (lexN s), i64 (lexE s)], [tkb (lexL s)]⟩ := by
  by_cases h : (400 : Int) < (s.length : Int)
  · unfold lexL lexN lexE lexA
    rw [decide_eq_true h]; rfl
  · have hok : okAl s 0 [] = true := decide_eq_true ⟨by omega, by omega, by omega, by simp⟩
    unfold lexL lexN lexE
    rw [decide_eq_false h, hok, lexA_is h]
    by_cases he : (lx s 0 0).e = 0
    · rw [decide_eq_true he, lx_end s 0 0 he, he]
      simp
    · rw [decide_eq_false he]; rfl
theorem okAll (hB : Laid B) : FnOk (E0 B) 55 sAll := by
  refine fnL (lib8_ok hB) (ls := [eAl]) Tryz.func55 (by kernel_rfl) (by kernel_rfl) (fun x hx => ?_) fun vs bs r h => ?_
  · simp only [List.mem_singleton] at hx; subst hx
    exact ⟨bAl, by kernel_rfl, rfl, loopAl hB⟩
  · unfold sAll at h
    split at h
    · rename_i s
      simp only [T.sel, Option.some.injEq] at h; subst h
      exact (tAll s).trans (all_is s)
    · simp [T.sel] at h
end Go.Proofs.YtdckpbeioemopaaGreatDoor.Lx
namespace Go.Proofs.YtdckpbeioemopaaGreatDoor.Lx
open Go.Am
set_option maxRecDepth 100000
variable {B : Nat → Option Obj}
noncomputable def lib9 : Tb := (55, [], sAll) :: lib8
theorem lib9_ok (hB : Laid B) : TbOk B lib9 := lib8_ok hB |>.add (okAll hB)
noncomputable def lib10 : Tb := lib9
theorem lib10_ok (hB : Laid B) : TbOk B lib10 := lib9_ok hB
noncomputable def lib11 : Tb := lib10
theorem lib11_ok (hB : Laid B) : TbOk B lib11 := lib10_ok hB
end Go.Proofs.YtdckpbeioemopaaGreatDoor.Lx
namespace Go.Proofs.YtdckpbeioemopaaGreatDoor.Lx
open Go.Am
set_option maxRecDepth 100000
variable {B : Nat → Option Obj}
noncomputable def bJn : Code := loopAt 5 (loopsOf (bodyC Tryz.f120))
def sgJn : LSig := { cs := [(11, 97), (12, 0)], mv := [(13, 0), (4, 160)], mo := [(2, 0), (3, 0), (4, 160)], take := [1] }
def stb (l : List (List UInt8)) : Blk := ⟨true, .strs l⟩
def tkc (l : List Tok) : Blk := ⟨false, .toks l⟩
theorem turnJn (L : List Tok) (n i : Int) (X : List (List UInt8)) : (turn (E0 B) (Cx B lib11) noL 32 sgJn bJn [.slw 0, i64 n, i64 i, .slw 1] [tkc L, stb X]).sel =
    bif decide (i < n) then atT i L (bif decide ((gT L i).text.length ≤ lim) then (bif !decide (tokE (gT L i).kind (gT L i).text = 0) then some (.ret, ⟨[.str [], i64 8, .slw 0], [stb X]⟩) else
      bif decide (X.length + 1 ≤ lim) then some (.normal, ⟨[.slw 0, i64 n, i64 (wr (i + 1)), .slw 1], [tkc L, stb (X ++ [(gT L i).text])]⟩) else none) else none) else some (.exit 0, ⟨[.any, .any, .slw 0], [stb X]⟩) := by kernel_rfl
def sValid : FSpec
  | [.agg [.int .u8 k, .str t, .int .i64 _]], [] => .node (decide (t.length ≤ 900)) (.leaf ⟨[.bool (decide (tokE k t = 0))], []⟩) .bad
  | _, _ => .bad
noncomputable def lib12 : Tb := lib11
theorem lib12_ok (hB : Laid B) : TbOk B lib12 := lib11_ok hB
def okJn (L : List Tok) (n i : Int) (X : List (List UInt8)) : Bool := decide (n = (L.length : Int) ∧ 0 ≤ i ∧ i ≤ n ∧ n ≤ 1000 ∧ (X.length : Int) ≤ i + 1000) && shortT L
def spJn : LSpec
  | [.slw 0, .int .i64 n, .int .i64 i, .slw 1], [⟨false, .toks L⟩, ⟨true, .strs X⟩] => .node (okJn L n i X) (.node ((L.drop i.toNat).all validB) (.leaf (.exit 0, ⟨[.any, .any, .slw 0], [stb (X ++ txt (L.drop i.toNat))]⟩))
      (.leaf (.ret, ⟨[.str [], i64 8, .slw 0], [stb (X ++ txt ((L.drop i.toNat).takeWhile validB))]⟩))) .bad
  | _, _ => .bad
theorem loopJn (hB : Laid B) : LoopOk (E0 B) 32 sgJn bJn spJn := by
  refine loop_turns (C := Cx B lib11) (L := noL) (cxOk (lib11_ok hB)) (noL_ok _) fun vs bs e o h => ?_
  unfold spJn at h
  split at h
  · rename_i n i L X
    rcases T.node_sel h with ⟨hc, h2⟩ | ⟨_, h2⟩
    · simp only [okJn, Bool.and_eq_true, decide_eq_true_eq] at hc
      obtain ⟨⟨hn, h0, h1, hl, hX⟩, hsh⟩ := hc
      subst hn
      clear h
      generalize hr : L.drop i.toNat = r at h2
      induction r generalizing i X with
      | nil =>
        simp only [List.all_nil, T.sel, cond_true, Option.some.injEq, Prod.mk.injEq] at h2
        obtain ⟨rfl, rfl⟩ := h2
        refine ⟨1, turns_done ((turnJn L _ i X).trans ?_) (by simp)⟩
        rw [decide_eq_false (tok_end h0 hr)]
        simp [txt]
      | cons t r ih =>
        obtain ⟨d1, d2, d3, d4⟩ := tok_drop h0 hr
        have ht := turnJn (B := B) L (L.length : Int) i X
        have hm := short_mem hsh d4
        rw [decide_eq_true d1, cond_true, atT_in h0 d1, d2, decide_eq_true (show t.text.length ≤ lim from by simp only [lim]; omega), decide_eq_true (show X.length + 1 ≤ lim from by simp only [lim]; omega), wr_lim (by omega) (by omega)] at ht
        cases hv : validB t with
        | true =>
          rw [show decide (tokE t.kind t.text = 0) = true from hv] at ht
          obtain ⟨k, hk⟩ := ih (X := X ++ [t.text]) (i + 1) (by omega) (by simp; omega) (by omega) d3 (by
            simp only [List.all_cons, hv, Bool.true_and, List.takeWhile_cons, if_true] at h2
            simp only [txt, List.map_cons] at h2
            simp only [txt, List.append_assoc, List.singleton_append]
            exact h2)
          exact ⟨k + 1, turns_more ht hk⟩
        | false =>
          rw [show decide (tokE t.kind t.text = 0) = false from hv] at ht
          simp only [List.all_cons, hv, Bool.false_and, List.takeWhile_cons, Bool.false_eq_true, if_false, T.sel, cond_false, Option.some.injEq, Prod.mk.injEq] at h2
          obtain ⟨rfl, rfl⟩ := h2
          refine ⟨1, turns_done (ht.trans ?_) (by simp)⟩
          simp [txt]
    · simp [T.sel] at h2
  · simp [T.sel] at h
noncomputable def eJn : LEnt := { id := 5, n := 32, sg := sgJn, wr := writes bJn, s := spJn }
def so (s : List UInt8) (e : Int) : Option Out := some ⟨[.str s, i64 e], []⟩
theorem tJn (L : List Tok) : runL B lib12 [eJn] Tryz.f120 [.slw 0] [tkc L] =
    bif decide ((200 : Int) < (L.length : Int)) then so [] 4 else bif okJn L (L.length : Int) 0 [] then (bif L.all validB then (bif decide ((txt L).length ≤ lim ∧ (Lib.join (txt L) [32]).length ≤ lim) then
      (bif decide ((400 : Int) < ((Lib.join (txt L) [32]).length : Int)) then so [] 18 else so (Lib.join (txt L) [32]) 0) else none) else so [] 8) else none := by kernel_rfl
def sJn : FSpec
  | [.slw 0], [⟨false, .toks L⟩] => .node (shortT L) (.leaf ⟨[.str (jS L), i64 (jE L)], []⟩) .bad
  | _, _ => .bad
theorem txt_len (L : List Tok) : (txt L).length = L.length := by unfold txt; simp
theorem okJoin (hB : Laid B) : FnOk (E0 B) 120 sJn := by
  refine fnL (lib12_ok hB) (ls := [eJn]) Tryz.func120 (by kernel_rfl) (by kernel_rfl) (fun x hx => ?_) fun vs bs r h => ?_
  · simp only [List.mem_singleton] at hx; subst hx
    exact ⟨bJn, by kernel_rfl, rfl, loopJn hB⟩
  · unfold sJn at h
    split at h
    · rename_i L
      rcases T.node_sel h with ⟨hc, h2⟩ | ⟨_, h2⟩
      · simp only [T.sel, Option.some.injEq] at h2; subst h2
        refine (tJn L).trans ?_
        unfold jS jE
        rw [joinT_is]
        by_cases h4 : (200 : Int) < (L.length : Int)
        · rw [decide_eq_true h4]; rfl
        · have hj := jT_len hc
          have hok : okJn L (L.length : Int) 0 [] = true := by
            unfold okJn
            rw [hc, decide_eq_true (by refine ⟨rfl, by omega, by omega, by omega, by simp⟩)]; rfl
          have e : joinT (txt L) = jT L := rfl
          rw [decide_eq_false h4, hok, e, decide_eq_true (show (txt L).length ≤ lim ∧ (jT L).length ≤ lim from by rw [txt_len]; simp only [lim]; omega)]
          cases L.all validB <;> cases decide ((400 : Int) < ((jT L).length : Int)) <;> rfl
      · simp [T.sel] at h2
    · simp [T.sel] at h
noncomputable def lib13 : Tb := (120, [], sJn) :: lib12
end Go.Proofs.YtdckpbeioemopaaGreatDoor.Lx
namespace Go.Proofs.YtdckpbeioemopaaGreatDoor.Lx
open Go.Am
set_option maxRecDepth 100000
variable {B : Nat → Option Obj}
def lim2 : Nat := 9223372036854775807
end Go.Proofs.YtdckpbeioemopaaGreatDoor.Lx
