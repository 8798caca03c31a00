/-
  Texts put together: LexFn, LexAll, LexRef, LexJo, LexLong.
-/
import Derived.Test.YtdckpbeioemopabGreatDoorLxA
import Derived.Test.YtdckpbeioemopabGreatDoorPureA
namespace Go.Proofs.YtdckpbeioemopabGreatDoor.Lx
open Go.Am
set_option maxRecDepth 100000
variable {B : Nat → Option Obj}
theorem drop_cons' {s : List UInt8} {i : Int} {c : UInt8} {r : List UInt8} (h0 : 0 ≤ i) (h : s.drop i.toNat = c :: r) : i < (s.length : Int) ∧ ch s i = (c.toNat : Int) ∧ s.drop (i + 1).toNat = r ∧ rI s i = true := by
  obtain ⟨h1, h2, h3⟩ := drop_cons h
  refine ⟨by omega, by unfold ch; rw [h2], by rw [show (i + 1).toNat = i.toNat + 1 from by omega]; exact h3, decide_eq_true ⟨h0, by omega⟩⟩
theorem drop_nil' {s : List UInt8} {i : Int} (h0 : 0 ≤ i) (h : s.drop i.toNat = []) : ¬ i < (s.length : Int) := by
  have := List.drop_eq_nil_iff.1 h
  omega
theorem wr_lim {n : Int} (h0 : -1000 ≤ n) (h1 : n ≤ 3000000000) : wr n = n := by unfold wr; rw [IntKind.wrap_i64]; omega
noncomputable def bSm : Code := loopAt 2 (loopsOf (bodyC Tryz.f94))
def sgSm : LSig := { cs := [(0, 0)], mv := [(3, 0)], mo := [(3, 0)], take := [] }
theorem turnSm (s : List UInt8) (n : Int) : (turn (E0 B) (Cx B lib6) noL 21 sgSm bSm [.str s, i64 n] []).sel =
    bif decide (n < (s.length : Int)) then (bif rI s n then (bif rI s 0 then (bif decide (kindN (ch s n) = kindN (ch s 0)) then some (.normal, ⟨[.str s, i64 (wr (n + 1))], []⟩) else some (.exit 0, ⟨[i64 n], []⟩)) else none) else none) else some (.exit 0, ⟨[i64 n], []⟩) := by kernel_rfl
def spSm : LSpec
  | [.str s, .int .i64 n], [] => .node (decide (1 ≤ n ∧ n ≤ (s.length : Int) ∧ s.length ≤ lim)) (.leaf (.exit 0, ⟨[i64 (n + (runK (kindN (ch s 0)) (s.drop n.toNat) : Int))], []⟩)) .bad
  | _, _ => .bad
theorem loopSm (hB : Laid B) : LoopOk (E0 B) 21 sgSm bSm spSm := by
  refine loop_turns (C := Cx B lib6) (L := noL) (cxOk (lib6_ok hB)) (noL_ok _) fun vs bs e o h => ?_
  unfold spSm at h
  split at h
  · rename_i s n
    rcases T.node_sel h with ⟨hc, h2⟩ | ⟨_, h2⟩
    · obtain ⟨h0, h1, hl⟩ := of_decide_eq_true hc
      clear hc h
      simp only [lim] at hl
      simp only [T.sel, Option.some.injEq, Prod.mk.injEq] at h2
      obtain ⟨rfl, rfl⟩ := h2
      have hs0 : rI s 0 = true := decide_eq_true ⟨by omega, by omega⟩
      generalize hr : s.drop n.toNat = r
      induction r generalizing n with
      | nil =>
        refine ⟨1, turns_done ((turnSm s n).trans ?_) (by simp)⟩
        rw [decide_eq_false (drop_nil' (by omega) hr)]
        simp [runK]
      | cons c r ih =>
        obtain ⟨d1, d2, d3, d4⟩ := drop_cons' (by omega) hr
        have ht := turnSm (B := B) s n
        rw [decide_eq_true d1, d4, hs0, d2, wr_lim (by omega) (by omega)] at ht
        rw [runK_cons]
        show ∃ k, _ = some (AExit.exit 0, (⟨[i64 (n + ((bif decide (kindN (c.toNat : Int) = kindN (ch s 0)) then runK (kindN (ch s 0)) r + 1 else 0 : Nat) : Int))], []⟩ : Out))
        by_cases hk : kindN (c.toNat : Int) = kindN (ch s 0)
        · rw [decide_eq_true hk] at ht ⊢
          obtain ⟨k, hk2⟩ := ih (n + 1) (by omega) (by omega) d3
          refine ⟨k + 1, turns_more ht ?_⟩
          rw [cond_true, show n + ((runK (kindN (ch s 0)) r + 1 : Nat) : Int) = n + 1 + (runK (kindN (ch s 0)) r : Int) from by omega]
          exact hk2
        · rw [decide_eq_false hk] at ht ⊢
          exact ⟨1, turns_done (ht.trans (by simp)) (by simp)⟩
    · simp [T.sel] at h2
  · simp [T.sel] at h
noncomputable def eSm : LEnt := { id := 2, n := 21, sg := sgSm, wr := writes bSm, s := spSm }
def sSame : FSpec
  | [.str s], [] => .node (decide (0 < s.length ∧ s.length ≤ lim)) (.leaf ⟨[i64 (runK (kindN (ch s 0)) s : Int)], []⟩) .bad
  | _, _ => .bad
theorem tSame (s : List UInt8) : runL B lib6 [eSm] Tryz.f94 [.str s] [] =
    bif decide (1 ≤ (1 : Int) ∧ (1 : Int) ≤ (s.length : Int) ∧ s.length ≤ lim) then some ⟨[i64 (1 + (runK (kindN (ch s 0)) (s.drop 1) : Int))], []⟩ else none := by kernel_rfl
theorem okSame (hB : Laid B) : FnOk (E0 B) 94 sSame := by
  refine fnL (lib6_ok hB) (ls := [eSm]) Tryz.func94 (by kernel_rfl) (by kernel_rfl) (fun x hx => ?_) fun vs bs r h => ?_
  · simp only [List.mem_singleton] at hx; subst hx
    exact ⟨bSm, by kernel_rfl, rfl, loopSm hB⟩
  · unfold sSame at h
    split at h
    · rename_i s
      rcases T.node_sel h with ⟨hc, h2⟩ | ⟨_, h2⟩
      · obtain ⟨h0, hl⟩ := of_decide_eq_true hc
        simp only [T.sel, Option.some.injEq] at h2; subst h2
        rw [tSame, decide_eq_true (show 1 ≤ (1 : Int) ∧ (1 : Int) ≤ (s.length : Int) ∧ s.length ≤ lim from ⟨by omega, by omega, hl⟩)]
        cases s with
        | nil => simp at h0
        | cons c r =>
          rw [cond_true]
          rw [runK_cons, decide_eq_true (show kd c = kindN (ch (c :: r) 0) from rfl), cond_true, List.drop_one, List.tail_cons]
          congr 4; simp [Int.add_comm]
      · simp [T.sel] at h2
    · simp [T.sel] at h
def r1 (n : Int) : Option Out := some ⟨[i64 n], []⟩
theorem tCheck (k a : Int) (t : List UInt8) : runT B lib6 Tryz.f60 [.agg [.int .u8 k, .str t, .int .i64 a]] [] =
    bif decide (k = 1) then (bif decide (t.length ≤ lim) then r1 (rdE t) else none) else bif decide (k = 2) then (bif isWord t then r1 0 else r1 32) else
      bif decide (k = 3) then (bif decide (symE t 0 = 0) then (bif decide (0 < symN t 0) then (bif decide (symN t 0 = (t.length : Int)) then r1 0 else r1 32) else r1 32) else r1 32) else r1 32 := by kernel_rfl
def sCheck : FSpec
  | [.agg [.int .u8 k, .str t, .int .i64 _]], [] => .node (decide (t.length ≤ lim)) (.leaf ⟨[i64 (tokE k t)], []⟩) .bad
  | _, _ => .bad
theorem sym_at0 (t : List UInt8) : symN t 0 = sym0 t ∧ symE t 0 = 0 := by
  have : outA t 0 = false := by unfold outA; rw [decide_eq_false (by omega), decide_eq_false (by omega)]; rfl
  unfold symN symE
  rw [this]; exact ⟨by simp, rfl⟩
theorem okCheck (hB : Laid B) : FnOk (E0 B) 60 sCheck := by
  refine fnT (lib6_ok hB) Tryz.func60 (by kernel_rfl) (by kernel_rfl) fun vs bs r h => ?_
  unfold sCheck at h
  split at h
  · rename_i k t a
    rcases T.node_sel h with ⟨hc, h2⟩ | ⟨_, h2⟩
    · simp only [T.sel, Option.some.injEq] at h2; subst h2
      refine (tCheck k a t).trans ?_
      obtain ⟨e1, e2⟩ := sym_at0 t
      rw [hc, e1, e2]
      unfold tokE r1
      cases decide (k = 1) <;> cases decide (k = 2) <;> cases decide (k = 3) <;> cases isWord t <;> cases decide (0 < sym0 t) <;> cases decide (sym0 t = (t.length : Int)) <;> rfl
    · simp [T.sel] at h2
  · simp [T.sel] at h
def av (t : Tok) : AV := .agg [.int .u8 t.kind, .str t.text, .int .i64 t.pos]
def oTk (k : Int) (t : List UInt8) : Option Out := some ⟨[av ⟨k, t, 0⟩], []⟩
noncomputable def lib7 : Tb := (94, [], sSame) :: (60, [], sCheck) :: lib6
theorem lib7_ok (hB : Laid B) : TbOk B lib7 := lib6_ok hB |>.add (okCheck hB) |>.add (okSame hB)
theorem tToken (s : List UInt8) : runT B lib7 Tryz.f59 [.str s] [] =
    bif rI s 0 then (bif decide (kindN (ch s 0) = 2) then (bif decide (0 < s.length ∧ s.length ≤ lim) then (bif sL s 0 (runK (kindN (ch s 0)) s : Int) then oTk 1 (s.take (runK (kindN (ch s 0)) s)) else none) else none) else
      bif decide (kindN (ch s 0) = 3) then (bif decide (0 < s.length ∧ s.length ≤ lim) then (bif sL s 0 (runK (kindN (ch s 0)) s : Int) then oTk 2 (s.take (runK (kindN (ch s 0)) s)) else none) else none) else
      bif sL s 0 (symN s 0) then oTk 3 (s.take (symN s 0).toNat) else none) else none := by kernel_rfl
end Go.Proofs.YtdckpbeioemopabGreatDoor.Lx
namespace Go.Proofs.YtdckpbeioemopabGreatDoor.Lx
open Go.Am
set_option maxRecDepth 100000
variable {B : Nat → Option Obj}
def sToken : FSpec
  | [.str s], [] => .node (decide (0 < s.length ∧ s.length ≤ lim)) (.leaf ⟨[av ⟨tkK s, tkT s, 0⟩], []⟩) .bad
  | _, _ => .bad
theorem sL_0 {s : List UInt8} {n : Nat} (h : n ≤ s.length) : sL s 0 (n : Int) = true := decide_eq_true ⟨Int.le_refl _, by omega, by omega⟩
theorem okToken (hB : Laid B) : FnOk (E0 B) 59 sToken := by
  refine fnT (lib7_ok hB) Tryz.func59 (by kernel_rfl) (by kernel_rfl) fun vs bs r h => ?_
  unfold sToken at h
  split at h
  · rename_i s
    rcases T.node_sel h with ⟨hc, h2⟩ | ⟨_, h2⟩
    · simp only [T.sel, Option.some.injEq] at h2; subst h2
      obtain ⟨h0, hl⟩ := of_decide_eq_true hc
      refine (tToken s).trans ?_
      rw [hc, show rI s 0 = true from decide_eq_true ⟨Int.le_refl _, by omega⟩, (sym_at0 s).1]
      have e : c0 s = ch s 0 := rfl
      have h4 : sL s 0 (sym0 s) = true := by
        have := sym_len s
        have h5 : 0 ≤ sym0 s := by rcases sym_rng s with h | h | h <;> omega
        exact decide_eq_true ⟨Int.le_refl _, by omega, by omega⟩
      rw [h4, sL_0 (runK_le _ s)]
      unfold tkK tkT tkN oTk
      rw [e]
      by_cases h2 : kindN (ch s 0) = 2
      · rw [decide_eq_true h2, h2]; rfl
      · rw [decide_eq_false h2]
        by_cases h3 : kindN (ch s 0) = 3
        · rw [decide_eq_true h3, h3]; rfl
        · rw [decide_eq_false h3]; rfl
    · simp [T.sel] at h2
  · simp [T.sel] at h
noncomputable def lib8 : Tb := (59, [], sToken) :: lib7
theorem lib8_ok (hB : Laid B) : TbOk B lib8 := lib7_ok hB |>.add (okToken hB)
noncomputable def bAl : Code := loopAt 5 (loopsOf (bodyC Tryz.f25))
def sgAl : LSig := { cs := [(0, 0)], mv := [(5, 51), (6, 0)], mo := [(2, 51), (3, 0), (4, 0), (5, 51)], take := [0] }
def tkb (l : List Tok) : Blk := ⟨true, .toks l⟩
def goAl (s : List UInt8) (a : Int) (L : List Tok) : Option (AExit × Out) := some (.normal, ⟨[.str s, .slw 0, i64 a], [tkb L]⟩)
def reAl (a e : Int) (L : List Tok) : Option (AExit × Out) := some (.ret, ⟨[.slw 0, i64 a, i64 e, .slw 1], [tkb [], tkb L]⟩)
def exAl (L : List Tok) : Option (AExit × Out) := some (.exit 0, ⟨[.any, .any, .any, .slw 0], [tkb L]⟩)
theorem turnAl (s : List UInt8) (a : Int) (L : List Tok) : (turn (E0 B) (Cx B lib8) noL 51 sgAl bAl [.str s, .slw 0, i64 a] [tkb L]).sel =
    bif decide (a < (s.length : Int)) then (bif rI s a then (bif decide (kindN (ch s a) = 1) then goAl s (wr (a + 1)) L else bif decide ((L.length : Int) = 200) then reAl a 4 L else
      bif decide (0 ≤ a ∧ a ≤ (s.length : Int)) then (bif decide (0 < (s.drop a.toNat).length ∧ (s.drop a.toNat).length ≤ lim) then (bif decide ((tkT (s.drop a.toNat)).length ≤ lim) then
        (bif !decide (tokE (tkK (s.drop a.toNat)) (tkT (s.drop a.toNat)) = 0) then reAl a (tokE (tkK (s.drop a.toNat)) (tkT (s.drop a.toNat))) L else bif decide (L.length + 1 ≤ lim) then
          goAl s (wr (a + ((tkT (s.drop a.toNat)).length : Int))) (L ++ [⟨tkK (s.drop a.toNat), tkT (s.drop a.toNat), a⟩]) else none) else none) else none) else none) else none) else exAl L := by kernel_rfl
def outAl (L : List Tok) (o : LexO) : Option (AExit × Out) := bif decide (o.e = 0) then exAl (L ++ o.l) else reAl o.n o.e (L ++ o.l)
def okAl (s : List UInt8) (a : Int) (L : List Tok) : Bool := decide (0 ≤ a ∧ a ≤ (s.length : Int) ∧ s.length ≤ 1000 ∧ L.length ≤ 200)
def spAl : LSpec
  | [.str s, .slw 0, .int .i64 a], [⟨true, .toks L⟩] => .node (okAl s a L) (.node (decide ((lx (s.drop a.toNat) a L.length).e = 0)) (.leaf (.exit 0, ⟨[.any, .any, .any, .slw 0], [tkb (L ++ (lx (s.drop a.toNat) a L.length).l)]⟩))
      (.leaf (.ret, ⟨[.slw 0, i64 (lx (s.drop a.toNat) a L.length).n, i64 (lx (s.drop a.toNat) a L.length).e, .slw 1], [tkb [], tkb (L ++ (lx (s.drop a.toNat) a L.length).l)]⟩))) .bad
  | _, _ => .bad
theorem runAl (s : List UInt8) (hl : s.length ≤ 1000) : ∀ r a k, ∀ L : List Tok, L.length = k → k ≤ 200 → s.drop a.toNat = r → 0 ≤ a → a ≤ (s.length : Int) →
    ∃ m, (turns (E0 B) (Cx B lib8) noL 51 sgAl bAl m [.str s, .slw 0, i64 a] [tkb L]).sel = outAl L (lx r a k) := by
  have hr : ∀ {c r} {a : Int}, s.drop a.toNat = c :: r → 0 ≤ a → (0 ≤ a ∧ a ≤ (s.length : Int)) ∧ (0 < (s.drop a.toNat).length ∧ (s.drop a.toNat).length ≤ lim) ∧ (tkT (s.drop a.toNat)).length ≤ lim := fun {c r a} h h0 => by
    have h1 := (drop_cons' h0 h).1
    have e := drop_len s h0 (by omega)
    have e2 := tkN_le (s.drop a.toNat)
    rw [tkT_len]
    simp only [lim]
    omega
  refine lx_ind ?_ ?_ ?_ ?_ ?_
  · intro a k L hL hk hd h0 h1
    rw [lx_nil]
    refine ⟨1, turns_done ((turnAl s a L).trans ?_) (by simp)⟩
    rw [decide_eq_false (drop_nil' h0 hd)]
    show exAl L = exAl (L ++ [])
    rw [List.append_nil]
  · intro c r a k h ih L hL hk hd h0 h1
    obtain ⟨d1, d2, d3, d4⟩ := drop_cons' h0 hd
    have ht := turnAl (B := B) s a L
    rw [decide_eq_true d1, d4, d2, decide_eq_true (show kindN (c.toNat : Int) = 1 from h), wr_lim (by omega) (by omega)] at ht
    obtain ⟨m, hm⟩ := ih L hL hk d3 (by omega) (by omega)
    rw [lx_blank h]
    exact ⟨m + 1, (turns_more' ht).trans hm⟩
  · intro c r a h L hL hk hd h0 h1
    obtain ⟨d1, d2, d3, d4⟩ := drop_cons' h0 hd
    rw [lx_many h rfl]
    refine ⟨1, turns_done ((turnAl s a L).trans ?_) (by simp)⟩
    rw [decide_eq_true d1, d4, d2, decide_eq_false (show ¬ kindN (c.toNat : Int) = 1 from h), decide_eq_true (show (L.length : Int) = 200 from by omega)]
    show reAl a 4 L = reAl a 4 (L ++ [])
    rw [List.append_nil]
  · intro c r a k h hk2 hf L hL hk hd h0 h1
    obtain ⟨d1, d2, d3, d4⟩ := drop_cons' h0 hd
    obtain ⟨e1, e2, e3⟩ := hr hd h0
    have hout : outAl L ⟨[], a, tkF (c :: r)⟩ = some (.ret, ⟨[.slw 0, i64 a, i64 (tkF (c :: r)), .slw 1], [tkb [], tkb L]⟩) := by
      unfold outAl
      rw [decide_eq_false hf, List.append_nil]; rfl
    rw [lx_bad h hk2 hf, hout]
    refine ⟨1, turns_done ((turnAl s a L).trans ?_) (by simp)⟩
    rw [decide_eq_true d1, d4, d2, decide_eq_false (show ¬ kindN (c.toNat : Int) = 1 from h), decide_eq_false (show ¬ (L.length : Int) = 200 from by omega), decide_eq_true e1, decide_eq_true e2, decide_eq_true e3, hd]
    rw [show decide (tokE (tkK (c :: r)) (tkT (c :: r)) = 0) = false from decide_eq_false hf]; rfl
  · intro c r a k h hk2 hf ih L hL hk hd h0 h1
    obtain ⟨d1, d2, d3, d4⟩ := drop_cons' h0 hd
    obtain ⟨e1, e2, e3⟩ := hr hd h0
    have e := tkN_le (c :: r)
    have e4 := drop_len s h0 h1
    rw [hd] at e4
    have ht := turnAl (B := B) s a L
    rw [decide_eq_true d1, d4, d2, decide_eq_false (show ¬ kindN (c.toNat : Int) = 1 from h), decide_eq_false (show ¬ (L.length : Int) = 200 from by omega), decide_eq_true e1, decide_eq_true e2, decide_eq_true e3, hd,
      show decide (tokE (tkK (c :: r)) (tkT (c :: r)) = 0) = true from decide_eq_true hf, decide_eq_true (show L.length + 1 ≤ lim from by simp only [lim]; omega), tkT_len, wr_lim (n := a + (tkN (c :: r) : Int)) (by omega) (by omega)] at ht
    obtain ⟨m, hm⟩ := ih (L ++ [⟨tkK (c :: r), tkT (c :: r), a⟩]) (by simp [hL]) (by omega) (by rw [show (a + (tkN (c :: r) : Int)).toNat = a.toNat + tkN (c :: r) from by omega, ← List.drop_drop, hd]) (by omega) (by omega)
    have hout : outAl (L ++ [⟨tkK (c :: r), tkT (c :: r), a⟩]) (lx ((c :: r).drop (tkN (c :: r))) (a + (tkN (c :: r) : Int)) (k + 1)) = outAl L (lx (c :: r) a k) := by
      rw [lx_tok h hk2 hf]
      unfold outAl LexO.cons
      simp only [List.append_assoc, List.singleton_append]
    rw [hout] at hm
    exact ⟨m + 1, (turns_more' ht).trans hm⟩
theorem loopAl (hB : Laid B) : LoopOk (E0 B) 51 sgAl bAl spAl := by
  refine loop_turns (C := Cx B lib8) (L := noL) (cxOk (lib8_ok hB)) (noL_ok _) fun vs bs e o h => ?_
  unfold spAl at h
  split at h
  · rename_i s a L
    rcases T.node_sel h with ⟨hc, h2⟩ | ⟨_, h2⟩
    · obtain ⟨h0, h1, hl, hk⟩ := of_decide_eq_true hc
      obtain ⟨m, hm⟩ := runAl s hl _ a L.length L rfl hk rfl h0 h1
      refine ⟨m, hm.trans ?_⟩
      rw [← h2]
      unfold outAl
      simp only [T.sel]
      cases decide ((lx (s.drop a.toNat) a L.length).e = 0) <;> rfl
    · simp [T.sel] at h2
  · simp [T.sel] at h
noncomputable def eAl : LEnt := { id := 5, n := 51, sg := sgAl, wr := writes bAl, s := spAl }
theorem tAll (s : List UInt8) : runL B lib8 [eAl] Tryz.f25 [.str s] [] =
    bif decide ((400 : Int) < (s.length : Int)) then some ⟨[.slw 0, i64 0, i64 4], [tkb []]⟩ else bif okAl s 0 [] then (bif decide ((lx s 0 0).e = 0) then some ⟨[.slw 0, i64 s.length, i64 0], [tkb (lx s 0 0).l]⟩ else some ⟨[.slw 0, i64 (lx s 0 0).n, i64 (lx s 0 0).e], [tkb []]⟩) else none := by kernel_rfl
def sAll : FSpec
  | [.str s], [] => .leaf ⟨[.slw 0, i64 (lexN s), i64 (lexE s)], [tkb (lexL s)]⟩
  | _, _ => .bad
theorem lexA_is {s : List UInt8} (h : ¬ (400 : Int) < (s.length : Int)) : lexA s = lx s 0 0 := by
  unfold lexA
  rw [decide_eq_false h]; rfl
theorem all_is (s : List UInt8) : (bif decide ((400 : Int) < (s.length : Int)) then some (⟨[.slw 0, i64 0, i64 4], [tkb []]⟩ : Out) else bif okAl s 0 [] then (bif decide ((lx s 0 0).e = 0) then some ⟨[.slw 0, i64 s.length, i64 0], [tkb (lx s 0 0).l]⟩ else some ⟨[.slw 0, i64 (lx s 0 0).n, i64 (lx s 0 0).e], [tkb []]⟩) else none) =
    some ⟨[.slw 0, i64 (lexN s), i64 (lexE s)], [tkb (lexL s)]⟩ := by
  by_cases h : (400 : Int) < (s.length : Int)
  · unfold lexL lexN lexE lexA
    rw [decide_eq_true h]; rfl
  · have hok : okAl s 0 [] = true := decide_eq_true ⟨by omega, by omega, by omega, by simp⟩
    unfold lexL lexN lexE
    rw [decide_eq_false h, hok, lexA_is h]
    by_cases he : (lx s 0 0).e = 0
    · rw [decide_eq_true he, lx_end s 0 0 he, he]
      simp
    · rw [decide_eq_false he]; rfl
theorem okAll (hB : Laid B) : FnOk (E0 B) 25 sAll := by
  refine fnL (lib8_ok hB) (ls := [eAl]) Tryz.func25 (by kernel_rfl) (by kernel_rfl) (fun x hx => ?_) fun vs bs r h => ?_
  · simp only [List.mem_singleton] at hx; subst hx
    exact ⟨bAl, by kernel_rfl, rfl, loopAl hB⟩
  · unfold sAll at h
    split at h
    · rename_i s
      simp only [T.sel, Option.some.injEq] at h; subst h
      exact (tAll s).trans (all_is s)
    · simp [T.sel] at h
end Go.Proofs.YtdckpbeioemopabGreatDoor.Lx
namespace Go.Proofs.YtdckpbeioemopabGreatDoor.Lx
open Go.Am
set_option maxRecDepth 100000
variable {B : Nat → Option Obj}
noncomputable def bRn : Code := loopAt 1 (loopsOf (bodyC Tryz.f116))
def sgRn : LSig := { cs := [(0, 0), (2, 0)], mv := [(1, 0)], mo := [(1, 0)], take := [] }
theorem turnRn (s : List UInt8) (k a : Int) : (turn (E0 B) (Cx B lib8) noL 22 sgRn bRn [.str s, .int .u8 k, i64 a] []).sel =
    bif decide (a < (s.length : Int)) then (bif rI s a then (bif decide (kindN (ch s a) = k) then some (.normal, ⟨[.str s, .int .u8 k, i64 (wr (a + 1))], []⟩) else some (.exit 0, ⟨[i64 a], []⟩)) else none) else some (.exit 0, ⟨[i64 a], []⟩) := by kernel_rfl
def spRn : LSpec
  | [.str s, .int .u8 k, .int .i64 a], [] => .node (decide (0 ≤ a ∧ a ≤ (s.length : Int) ∧ s.length ≤ lim)) (.leaf (.exit 0, ⟨[i64 (a + (runK k (s.drop a.toNat) : Int))], []⟩)) .bad
  | _, _ => .bad
theorem loopRn (hB : Laid B) : LoopOk (E0 B) 22 sgRn bRn spRn := by
  refine loop_turns (C := Cx B lib8) (L := noL) (cxOk (lib8_ok hB)) (noL_ok _) fun vs bs e o h => ?_
  unfold spRn at h
  split at h
  · rename_i s k a
    rcases T.node_sel h with ⟨hc, h2⟩ | ⟨_, h2⟩
    · obtain ⟨h0, h1, hl⟩ := of_decide_eq_true hc
      clear hc h
      simp only [lim] at hl
      simp only [T.sel, Option.some.injEq, Prod.mk.injEq] at h2
      obtain ⟨rfl, rfl⟩ := h2
      generalize hr : s.drop a.toNat = r
      induction r generalizing a with
      | nil =>
        refine ⟨1, turns_done ((turnRn s k a).trans ?_) (by simp)⟩
        rw [decide_eq_false (drop_nil' h0 hr)]
        simp [runK]
      | cons c r ih =>
        obtain ⟨d1, d2, d3, d4⟩ := drop_cons' h0 hr
        have ht := turnRn (B := B) s k a
        rw [decide_eq_true d1, d4, d2, wr_lim (by omega) (by omega)] at ht
        rw [runK_cons]
        by_cases hk : kindN (c.toNat : Int) = k
        · rw [decide_eq_true hk] at ht
          rw [decide_eq_true (show kd c = k from hk)]
          obtain ⟨m, hm⟩ := ih (a + 1) (by omega) (by omega) d3
          refine ⟨m + 1, turns_more ht ?_⟩
          rw [cond_true, show a + ((runK k r + 1 : Nat) : Int) = a + 1 + (runK k r : Int) from by omega]
          exact hm
        · rw [decide_eq_false hk] at ht
          rw [decide_eq_false (show ¬ kd c = k from hk)]
          exact ⟨1, turns_done (ht.trans (by simp)) (by simp)⟩
    · simp [T.sel] at h2
  · simp [T.sel] at h
noncomputable def eRn : LEnt := { id := 1, n := 22, sg := sgRn, wr := writes bRn, s := spRn }
def sRun : FSpec
  | [.str s, .int .i64 a, .int .u8 k], [] => .node (decide (0 ≤ a ∧ a ≤ (s.length : Int) ∧ s.length ≤ lim)) (.leaf ⟨[i64 (a + (runK k (s.drop a.toNat) : Int))], []⟩) .bad
  | _, _ => .bad
theorem tRun (s : List UInt8) (a k : Int) : runL B lib8 [eRn] Tryz.f116 [.str s, .int .i64 a, .int .u8 k] [] =
    bif decide (0 ≤ a ∧ a ≤ (s.length : Int) ∧ s.length ≤ lim) then some ⟨[i64 (a + (runK k (s.drop a.toNat) : Int))], []⟩ else none := by kernel_rfl
theorem okRun (hB : Laid B) : FnOk (E0 B) 116 sRun := by
  refine fnL (lib8_ok hB) (ls := [eRn]) Tryz.func116 (by kernel_rfl) (by kernel_rfl) (fun x hx => ?_) fun vs bs r h => ?_
  · simp only [List.mem_singleton] at hx; subst hx
    exact ⟨bRn, by kernel_rfl, rfl, loopRn hB⟩
  · unfold sRun at h
    split at h
    · rename_i s a k
      rcases T.node_sel h with ⟨hc, h2⟩ | ⟨_, h2⟩
      · simp only [T.sel, Option.some.injEq] at h2; subst h2
        rw [tRun, hc]; rfl
      · simp [T.sel] at h2
    · simp [T.sel] at h
noncomputable def lib9 : Tb := (116, [], sRun) :: (25, [], sAll) :: lib8
theorem lib9_ok (hB : Laid B) : TbOk B lib9 := lib8_ok hB |>.add (okAll hB) |>.add (okRun hB)
def rN (k : Int) (t : List UInt8) (a e : Int) : Option Out := some ⟨[av ⟨k, t, a⟩, i64 e], []⟩
theorem tNext (s : List UInt8) (a : Int) : runT B lib9 Tryz.f117 [.str s, .int .i64 a] [] =
    bif rI s a then (bif decide (kindN (ch s a) = 2) then (bif decide (0 ≤ a ∧ a ≤ (s.length : Int) ∧ s.length ≤ lim) then (bif sL s a (a + (runK 2 (s.drop a.toNat) : Int)) then (bif decide ((cut s a (a + (runK 2 (s.drop a.toNat) : Int))).length ≤ lim) then
        rN 1 (cut s a (a + (runK 2 (s.drop a.toNat) : Int))) a (rdE (cut s a (a + (runK 2 (s.drop a.toNat) : Int)))) else none) else none) else none) else
      bif decide (kindN (ch s a) = 3) then (bif decide (0 ≤ a ∧ a ≤ (s.length : Int) ∧ s.length ≤ lim) then (bif sL s a (a + (runK 3 (s.drop a.toNat) : Int)) then (bif !isWord (cut s a (a + (runK 3 (s.drop a.toNat) : Int))) then
        rN 2 (cut s a (a + (runK 3 (s.drop a.toNat) : Int))) a 32 else rN 2 (cut s a (a + (runK 3 (s.drop a.toNat) : Int))) a 0) else none) else none) else
      bif decide (0 ≤ a ∧ a ≤ (s.length : Int) ∧ (s.length : Int) ≤ 900) then (bif decide (sym0 (s.drop a.toNat) = 0) then rN 0 [] 0 32 else bif sL s a (wr (a + sym0 (s.drop a.toNat))) then rN 3 (cut s a (wr (a + sym0 (s.drop a.toNat)))) a 0 else none) else none) else none := by kernel_rfl
def nxT (r : List UInt8) (a : Int) : Tok := bif decide (kindN (c0 r) = 2) then ⟨1, tkT r, a⟩ else bif decide (kindN (c0 r) = 3) then ⟨2, tkT r, a⟩ else bif decide (sym0 r = 0) then ⟨0, [], 0⟩ else ⟨3, tkT r, a⟩
def sNext : FSpec
  | [.str s, .int .i64 a], [] => .node (decide (0 ≤ a ∧ a < (s.length : Int) ∧ (s.length : Int) ≤ 900)) (.leaf ⟨[av (nxT (s.drop a.toNat) a), i64 (tkF (s.drop a.toNat))], []⟩) .bad
  | _, _ => .bad
theorem sym_take (r : List UInt8) : sym0 (r.take (sym0 r).toNat) = sym0 r := by
  match r with
  | [] => decide
  | [c] =>
    have := sym_one c
    cases h4 : decide (kindN (c.toNat : Int) = 4) <;> cases h3 : decide ((c.toNat : Int) = 33) <;> rw [h4, h3] at this <;> simp at this <;> rw [this] <;> first | exact this | (show sym0 [] = 0; decide)
  | c :: d :: x =>
    rcases sym_rng (c :: d :: x) with h | h | h
    · rw [h]; show sym0 [] = 0; decide
    · have := sym_not2 c (d :: x) (by omega)
      rw [h] at this ⊢
      exact this.symm
    · have h' := h
      rw [sym_two] at h'
      rw [h]; exact h'
theorem tkF_sym {r : List UInt8} (h2 : kindN (c0 r) ≠ 2) (h3 : kindN (c0 r) ≠ 3) : tkF r = bif decide (sym0 r = 0) then 32 else 0 := by
  have e1 : tkK r = 3 := by unfold tkK; rw [decide_eq_false h2, decide_eq_false h3]; rfl
  have e2 : tkT r = r.take (sym0 r).toNat := by unfold tkT tkN; rw [decide_eq_false h2, decide_eq_false h3]; rfl
  have e3 := sym_len r
  unfold tkF
  rw [e1, e2]
  unfold tokE
  rw [sym_take, List.length_take]
  have e4 : sym0 r = ((min (sym0 r).toNat r.length : Nat) : Int) := by
    have : 0 ≤ sym0 r := by rcases sym_rng r with h | h | h <;> omega
    omega
  rw [decide_eq_true e4]
  by_cases h : sym0 r = 0
  · rw [decide_eq_true h, h]; rfl
  · have : 0 < sym0 r := by rcases sym_rng r with h | h | h <;> omega
    rw [decide_eq_false h, decide_eq_true this]; rfl
theorem cut_tk {s : List UInt8} {a : Int} {n : Nat} (h0 : 0 ≤ a) : cut s a (a + (n : Int)) = (s.drop a.toNat).take n := by
  rw [cut_is s h0 (by omega)]
  congr 1; omega
theorem okNext (hB : Laid B) : FnOk (E0 B) 117 sNext := by
  refine fnT (lib9_ok hB) Tryz.func117 (by kernel_rfl) (by kernel_rfl) fun vs bs r h => ?_
  unfold sNext at h
  split at h
  · rename_i s a
    rcases T.node_sel h with ⟨hc, h2⟩ | ⟨_, h2⟩
    · simp only [T.sel, Option.some.injEq] at h2; subst h2
      obtain ⟨h0, h1, hl⟩ := of_decide_eq_true hc
      have hd := drop_len s h0 (show a ≤ (s.length : Int) from by omega)
      have hch : ch s a = c0 (s.drop a.toNat) := by
        have := ch_is s 0 h0
        simpa [c0] using this
      refine (tNext s a).trans ?_
      rw [show rI s a = true from decide_eq_true ⟨h0, h1⟩, hch]
      have hg : (0 ≤ a ∧ a ≤ (s.length : Int) ∧ s.length ≤ lim) := ⟨h0, by omega, by simp only [lim]; omega⟩
      have run2 := runK_le 2 (s.drop a.toNat)
      have run3 := runK_le 3 (s.drop a.toNat)
      have hsl := sym_len (s.drop a.toNat)
      have hs0 : 0 ≤ sym0 (s.drop a.toNat) := by rcases sym_rng (s.drop a.toNat) with h | h | h <;> omega
      rw [decide_eq_true hg, decide_eq_true (show 0 ≤ a ∧ a ≤ (s.length : Int) ∧ (s.length : Int) ≤ 900 from ⟨h0, by omega, hl⟩), cut_tk h0, cut_tk h0, wr_lim (by omega) (by omega),
        show sL s a (a + (runK 2 (s.drop a.toNat) : Int)) = true from decide_eq_true ⟨h0, by omega, by omega⟩, show sL s a (a + (runK 3 (s.drop a.toNat) : Int)) = true from decide_eq_true ⟨h0, by omega, by omega⟩,
        show sL s a (a + sym0 (s.drop a.toNat)) = true from decide_eq_true ⟨h0, by omega, by omega⟩,
        show cut s a (a + sym0 (s.drop a.toNat)) = (s.drop a.toNat).take (sym0 (s.drop a.toNat)).toNat from by rw [cut_is s h0 (by omega)]; congr 1; omega]
      generalize s.drop a.toNat = r at *
      have hlt : ((r.take (runK 2 r)).length ≤ lim) := by rw [List.length_take]; simp only [lim]; omega
      rw [decide_eq_true hlt]
      unfold nxT
      by_cases k2 : kindN (c0 r) = 2
      · have e : tkF r = rdE (r.take (runK 2 r)) := by unfold tkF tokE tkK tkT tkN; rw [k2]; rfl
        have e2 : tkT r = r.take (runK 2 r) := by unfold tkT tkN; rw [k2]; rfl
        rw [e, e2, decide_eq_true k2]; rfl
      · rw [decide_eq_false k2]
        by_cases k3 : kindN (c0 r) = 3
        · have e : tkF r = bif isWord (r.take (runK 3 r)) then 0 else 32 := by unfold tkF tokE tkK tkT tkN; rw [k3]; rfl
          have e2 : tkT r = r.take (runK 3 r) := by unfold tkT tkN; rw [k3]; rfl
          rw [e, e2, decide_eq_true k3]
          cases isWord (r.take (runK 3 r)) <;> rfl
        · have e2 : tkT r = r.take (sym0 r).toNat := by unfold tkT tkN; rw [decide_eq_false k2, decide_eq_false k3]; rfl
          rw [tkF_sym k2 k3, e2, decide_eq_false k3]
          cases decide (sym0 r = 0) <;> rfl
    · simp [T.sel] at h2
  · simp [T.sel] at h
noncomputable def lib10 : Tb := (117, [], sNext) :: lib9
theorem lib10_ok (hB : Laid B) : TbOk B lib10 := lib9_ok hB |>.add (okNext hB)
noncomputable def bAr : Code := loopAt 5 (loopsOf (bodyC Tryz.f84))
theorem turnAr (s : List UInt8) (a : Int) (L : List Tok) : (turn (E0 B) (Cx B lib10) noL 46 sgAl bAr [.str s, .slw 0, i64 a] [tkb L]).sel =
    bif decide (a < (s.length : Int)) then (bif decide ((L.length : Int) = 200) then reAl a 4 L else
      bif decide (0 ≤ a ∧ a < (s.length : Int) ∧ (s.length : Int) ≤ 900) then (bif !decide (tkF (s.drop a.toNat) = 0) then reAl a (tkF (s.drop a.toNat)) L else bif decide (L.length + 1 ≤ lim) then
        (bif decide (0 ≤ wr (a + ((nxT (s.drop a.toNat) a).text.length : Int)) ∧ wr (a + ((nxT (s.drop a.toNat) a).text.length : Int)) ≤ (s.length : Int) ∧ s.length ≤ lim) then
          goAl s (wr (a + ((nxT (s.drop a.toNat) a).text.length : Int)) + (runK 1 (s.drop (wr (a + ((nxT (s.drop a.toNat) a).text.length : Int))).toNat) : Int)) (L ++ [nxT (s.drop a.toNat) a]) else none) else none) else none) else exAl L := by kernel_rfl
theorem lx_run : ∀ (r : List UInt8) (a : Int) (k : Nat), lx r a k = lx (r.drop (runK 1 r)) (a + (runK 1 r : Int)) k
  | [], a, k => by simp [runK]
  | c :: r, a, k => by
    rw [runK_cons]
    by_cases h : kd c = 1
    · rw [decide_eq_true h, lx_blank h, lx_run r]
      simp only [cond_true, List.drop_succ_cons]
      congr 1; omega
    · rw [decide_eq_false h]; simp
theorem runK_drop : ∀ r : List UInt8, runK 1 (r.drop (runK 1 r)) = 0
  | [] => rfl
  | c :: r => by
    rw [runK_cons]
    by_cases h : kd c = 1
    · rw [decide_eq_true h]
      simp only [cond_true, List.drop_succ_cons]
      exact runK_drop r
    · rw [decide_eq_false h]
      simp only [cond_false, List.drop_zero]
      rw [runK_cons, decide_eq_false h]; rfl
theorem nxT_is {r : List UInt8} (a : Int) (hf : tkF r = 0) : nxT r a = ⟨tkK r, tkT r, a⟩ := by
  unfold nxT
  by_cases k2 : kindN (c0 r) = 2
  · rw [decide_eq_true k2]; unfold tkK; rw [decide_eq_true k2]; rfl
  · by_cases k3 : kindN (c0 r) = 3
    · rw [decide_eq_false k2, decide_eq_true k3]; unfold tkK; rw [decide_eq_false k2, decide_eq_true k3]; rfl
    · rw [tkF_sym k2 k3] at hf
      rw [decide_eq_false k2, decide_eq_false k3]
      cases hs : decide (sym0 r = 0) with
      | true => rw [hs] at hf; cases hf
      | false => unfold tkK; rw [decide_eq_false k2, decide_eq_false k3]; rfl
theorem runAr (s : List UInt8) (hl : s.length ≤ 900) : ∀ r a k, ∀ L : List Tok, L.length = k → k ≤ 200 → s.drop a.toNat = r → 0 ≤ a → a ≤ (s.length : Int) →
    ∃ m, (turns (E0 B) (Cx B lib10) noL 46 sgAl bAr m [.str s, .slw 0, i64 (a + (runK 1 r : Int))] [tkb L]).sel = outAl L (lx r a k) := by
  refine lx_ind ?_ ?_ ?_ ?_ ?_
  · intro a k L hL hk hd h0 h1
    rw [lx_nil]
    have e : a + (runK 1 [] : Int) = a := by simp [runK]
    rw [e]
    refine ⟨1, turns_done ((turnAr s a L).trans ?_) (by simp)⟩
    rw [decide_eq_false (drop_nil' h0 hd)]
    show exAl L = exAl (L ++ [])
    rw [List.append_nil]
  · intro c r a k h ih L hL hk hd h0 h1
    obtain ⟨d1, d2, d3, d4⟩ := drop_cons' h0 hd
    obtain ⟨m, hm⟩ := ih L hL hk d3 (by omega) (by omega)
    rw [lx_blank h, runK_cons, decide_eq_true h, cond_true, show a + ((runK 1 r + 1 : Nat) : Int) = a + 1 + (runK 1 r : Int) from by omega]
    exact ⟨m, hm⟩
  · intro c r a h L hL hk hd h0 h1
    obtain ⟨d1, d2, d3, d4⟩ := drop_cons' h0 hd
    have e : a + (runK 1 (c :: r) : Int) = a := by rw [runK_cons, decide_eq_false h]; simp
    rw [lx_many h rfl, e]
    refine ⟨1, turns_done ((turnAr s a L).trans ?_) (by simp)⟩
    rw [decide_eq_true d1, decide_eq_true (show (L.length : Int) = 200 from by omega)]
    show reAl a 4 L = reAl a 4 (L ++ [])
    rw [List.append_nil]
  · intro c r a k h hk2 hf L hL hk hd h0 h1
    obtain ⟨d1, d2, d3, d4⟩ := drop_cons' h0 hd
    have e : a + (runK 1 (c :: r) : Int) = a := by rw [runK_cons, decide_eq_false h]; simp
    have hout : outAl L ⟨[], a, tkF (c :: r)⟩ = some (.ret, ⟨[.slw 0, i64 a, i64 (tkF (c :: r)), .slw 1], [tkb [], tkb L]⟩) := by
      unfold outAl
      rw [decide_eq_false hf, List.append_nil]; rfl
    rw [lx_bad h hk2 hf, hout, e]
    refine ⟨1, turns_done ((turnAr s a L).trans ?_) (by simp)⟩
    rw [decide_eq_true d1, decide_eq_false (show ¬ (L.length : Int) = 200 from by omega), decide_eq_true (show 0 ≤ a ∧ a < (s.length : Int) ∧ (s.length : Int) ≤ 900 from ⟨h0, d1, by omega⟩), hd, decide_eq_false hf]; rfl
  · intro c r a k h hk2 hf ih L hL hk hd h0 h1
    obtain ⟨d1, d2, d3, d4⟩ := drop_cons' h0 hd
    have e : a + (runK 1 (c :: r) : Int) = a := by rw [runK_cons, decide_eq_false h]; simp
    have e2 := tkN_le (c :: r)
    have e4 := drop_len s h0 h1
    rw [hd] at e4
    have ht := turnAr (B := B) s a L
    rw [decide_eq_true d1, decide_eq_false (show ¬ (L.length : Int) = 200 from by omega), decide_eq_true (show 0 ≤ a ∧ a < (s.length : Int) ∧ (s.length : Int) ≤ 900 from ⟨h0, d1, by omega⟩), hd, decide_eq_true hf,
      decide_eq_true (show L.length + 1 ≤ lim from by simp only [lim]; omega), nxT_is a hf, tkT_len, wr_lim (n := a + (tkN (c :: r) : Int)) (by omega) (by omega),
      decide_eq_true (show 0 ≤ a + (tkN (c :: r) : Int) ∧ a + (tkN (c :: r) : Int) ≤ (s.length : Int) ∧ s.length ≤ lim from ⟨by omega, by omega, by simp only [lim]; omega⟩)] at ht
    have hdr : s.drop (a + (tkN (c :: r) : Int)).toNat = (c :: r).drop (tkN (c :: r)) := by rw [show (a + (tkN (c :: r) : Int)).toNat = a.toNat + tkN (c :: r) from by omega, ← List.drop_drop, hd]
    obtain ⟨m, hm⟩ := ih (L ++ [⟨tkK (c :: r), tkT (c :: r), a⟩]) (by simp [hL]) (by omega) hdr (by omega) (by omega)
    have hout : outAl (L ++ [⟨tkK (c :: r), tkT (c :: r), a⟩]) (lx ((c :: r).drop (tkN (c :: r))) (a + (tkN (c :: r) : Int)) (k + 1)) = outAl L (lx (c :: r) a k) := by
      rw [lx_tok h hk2 hf]
      unfold outAl LexO.cons
      simp only [List.append_assoc, List.singleton_append]
    rw [hout] at hm
    rw [hdr] at ht
    rw [e]
    exact ⟨m + 1, (turns_more' ht).trans hm⟩
def okAr (s : List UInt8) (a : Int) (L : List Tok) : Bool := decide (0 ≤ a ∧ a ≤ (s.length : Int) ∧ s.length ≤ 900 ∧ L.length ≤ 200 ∧ runK 1 (s.drop a.toNat) = 0)
def spAr : LSpec
  | [.str s, .slw 0, .int .i64 a], [⟨true, .toks L⟩] => .node (okAr s a L) (.node (decide ((lx (s.drop a.toNat) a L.length).e = 0)) (.leaf (.exit 0, ⟨[.any, .any, .any, .slw 0], [tkb (L ++ (lx (s.drop a.toNat) a L.length).l)]⟩))
      (.leaf (.ret, ⟨[.slw 0, i64 (lx (s.drop a.toNat) a L.length).n, i64 (lx (s.drop a.toNat) a L.length).e, .slw 1], [tkb [], tkb (L ++ (lx (s.drop a.toNat) a L.length).l)]⟩))) .bad
  | _, _ => .bad
theorem loopAr (hB : Laid B) : LoopOk (E0 B) 46 sgAl bAr spAr := by
  refine loop_turns (C := Cx B lib10) (L := noL) (cxOk (lib10_ok hB)) (noL_ok _) fun vs bs e o h => ?_
  unfold spAr at h
  split at h
  · rename_i s a L
    rcases T.node_sel h with ⟨hc, h2⟩ | ⟨_, h2⟩
    · obtain ⟨h0, h1, hl, hk, hz⟩ := of_decide_eq_true hc
      obtain ⟨m, hm⟩ := runAr (B := B) s hl _ a L.length L rfl hk rfl h0 h1
      rw [hz, show a + ((0 : Nat) : Int) = a from by omega] at hm
      refine ⟨m, hm.trans ?_⟩
      rw [← h2]
      unfold outAl
      simp only [T.sel]
      cases decide ((lx (s.drop a.toNat) a L.length).e = 0) <;> rfl
    · simp [T.sel] at h2
  · simp [T.sel] at h
noncomputable def eAr : LEnt := { id := 5, n := 46, sg := sgAl, wr := writes bAr, s := spAr }
theorem tAr (s : List UInt8) : runL B lib10 [eAr] Tryz.f84 [.str s] [] =
    bif decide ((400 : Int) < (s.length : Int)) then some ⟨[.slw 0, i64 0, i64 4], [tkb []]⟩ else bif decide (0 ≤ (0 : Int) ∧ (0 : Int) ≤ (s.length : Int) ∧ s.length ≤ lim) then (bif okAr s (0 + (runK 1 s : Int)) [] then (bif decide ((lx (s.drop (0 + (runK 1 s : Int)).toNat) (0 + (runK 1 s : Int)) 0).e = 0) then
      some ⟨[.slw 0, i64 s.length, i64 0], [tkb (lx (s.drop (0 + (runK 1 s : Int)).toNat) (0 + (runK 1 s : Int)) 0).l]⟩ else some ⟨[.slw 0, i64 (lx (s.drop (0 + (runK 1 s : Int)).toNat) (0 + (runK 1 s : Int)) 0).n, i64 (lx (s.drop (0 + (runK 1 s : Int)).toNat) (0 + (runK 1 s : Int)) 0).e], [tkb []]⟩) else none) else none := by kernel_rfl
theorem okAllR (hB : Laid B) : FnOk (E0 B) 84 sAll := by
  refine fnL (lib10_ok hB) (ls := [eAr]) Tryz.func84 (by kernel_rfl) (by kernel_rfl) (fun x hx => ?_) fun vs bs r h => ?_
  · simp only [List.mem_singleton] at hx; subst hx
    exact ⟨bAr, by kernel_rfl, rfl, loopAr hB⟩
  · unfold sAll at h
    split at h
    · rename_i s
      simp only [T.sel, Option.some.injEq] at h; subst h
      refine (tAr s).trans ((Eq.trans ?_ (all_is s)))
      by_cases h4 : (400 : Int) < (s.length : Int)
      · rw [decide_eq_true h4]; rfl
      · have hk := runK_le 1 s
        have hok : okAl s 0 [] = true := decide_eq_true ⟨by omega, by omega, by omega, by simp⟩
        have e : (0 + (runK 1 s : Int)).toNat = runK 1 s := by omega
        have hok2 : okAr s (0 + (runK 1 s : Int)) [] = true := decide_eq_true ⟨by omega, by omega, by omega, by simp, by rw [e]; exact runK_drop s⟩
        rw [decide_eq_false h4, hok, hok2, e, ← lx_run s 0 0, decide_eq_true (show 0 ≤ (0 : Int) ∧ (0 : Int) ≤ (s.length : Int) ∧ s.length ≤ lim from ⟨by omega, by omega, by simp only [lim]; omega⟩)]
        rfl
    · simp [T.sel] at h
noncomputable def lib11 : Tb := (84, [], sAll) :: lib10
theorem lib11_ok (hB : Laid B) : TbOk B lib11 := lib10_ok hB |>.add (okAllR hB)
end Go.Proofs.YtdckpbeioemopabGreatDoor.Lx
namespace Go.Proofs.YtdckpbeioemopabGreatDoor.Lx
open Go.Am
set_option maxRecDepth 100000
variable {B : Nat → Option Obj}
noncomputable def bJn : Code := loopAt 5 (loopsOf (bodyC Tryz.f61))
def sgJn : LSig := { cs := [(11, 51), (12, 0)], mv := [(13, 0), (4, 67)], mo := [(2, 0), (3, 0), (4, 67)], take := [1] }
def stb (l : List (List UInt8)) : Blk := ⟨true, .strs l⟩
def tkc (l : List Tok) : Blk := ⟨false, .toks l⟩
theorem turnJn (L : List Tok) (n i : Int) (X : List (List UInt8)) : (turn (E0 B) (Cx B lib11) noL 32 sgJn bJn [.slw 0, i64 n, i64 i, .slw 1] [tkc L, stb X]).sel =
    bif decide (i < n) then atT i L (bif decide ((gT L i).text.length ≤ lim) then (bif !decide (tokE (gT L i).kind (gT L i).text = 0) then some (.ret, ⟨[.str [], i64 8, .slw 0], [stb X]⟩) else
      bif decide (X.length + 1 ≤ lim) then some (.normal, ⟨[.slw 0, i64 n, i64 (wr (i + 1)), .slw 1], [tkc L, stb (X ++ [(gT L i).text])]⟩) else none) else none) else some (.exit 0, ⟨[.any, .any, .slw 0], [stb X]⟩) := by kernel_rfl
theorem tValid (k a : Int) (t : List UInt8) : runT B lib11 Tryz.f54 [.agg [.int .u8 k, .str t, .int .i64 a]] [] =
    bif decide (k = 1) then (bif decide (t.length ≤ lim) then rb (decide (rdE t = 0)) else none) else bif decide (k = 2) then rb (isWord t) else
      bif decide (k = 3) then (bif decide ((0 : Int) < (t.length : Int)) then (bif decide (0 ≤ (0 : Int) ∧ (0 : Int) ≤ (t.length : Int) ∧ (t.length : Int) ≤ 900) then rb (decide (sym0 t = (t.length : Int))) else none) else rb false) else rb false := by kernel_rfl
def sValid : FSpec
  | [.agg [.int .u8 k, .str t, .int .i64 _]], [] => .node (decide (t.length ≤ 900)) (.leaf ⟨[.bool (decide (tokE k t = 0))], []⟩) .bad
  | _, _ => .bad
theorem okValid (hB : Laid B) : FnOk (E0 B) 54 sValid := by
  refine fnT (lib11_ok hB) Tryz.func54 (by kernel_rfl) (by kernel_rfl) fun vs bs r h => ?_
  unfold sValid at h
  split at h
  · rename_i k t a
    rcases T.node_sel h with ⟨hc, h2⟩ | ⟨_, h2⟩
    · simp only [T.sel, Option.some.injEq] at h2; subst h2
      have hl := of_decide_eq_true hc
      refine (tValid k a t).trans ?_
      rw [decide_eq_true (show t.length ≤ lim from by simp only [lim]; omega), decide_eq_true (show 0 ≤ (0 : Int) ∧ (0 : Int) ≤ (t.length : Int) ∧ (t.length : Int) ≤ 900 from ⟨by omega, by omega, by omega⟩)]
      unfold tokE
      cases decide (k = 1)
      · cases decide (k = 2)
        · cases decide (k = 3)
          · rfl
          · by_cases h5 : sym0 t = (t.length : Int)
            · rw [h5]
              cases decide ((0 : Int) < (t.length : Int)) <;> simp [rb]
            · rw [decide_eq_false h5, Bool.and_false]
              cases decide ((0 : Int) < (t.length : Int)) <;> rfl
        · cases isWord t <;> rfl
      · rfl
    · simp [T.sel] at h2
  · simp [T.sel] at h
noncomputable def lib12 : Tb := (54, [], sValid) :: lib11
theorem lib12_ok (hB : Laid B) : TbOk B lib12 := lib11_ok hB |>.add (okValid hB)
def okJn (L : List Tok) (n i : Int) (X : List (List UInt8)) : Bool := decide (n = (L.length : Int) ∧ 0 ≤ i ∧ i ≤ n ∧ n ≤ 1000 ∧ (X.length : Int) ≤ i + 1000) && shortT L
def spJn : LSpec
  | [.slw 0, .int .i64 n, .int .i64 i, .slw 1], [⟨false, .toks L⟩, ⟨true, .strs X⟩] => .node (okJn L n i X) (.node ((L.drop i.toNat).all validB) (.leaf (.exit 0, ⟨[.any, .any, .slw 0], [stb (X ++ txt (L.drop i.toNat))]⟩))
      (.leaf (.ret, ⟨[.str [], i64 8, .slw 0], [stb (X ++ txt ((L.drop i.toNat).takeWhile validB))]⟩))) .bad
  | _, _ => .bad
theorem loopJn (hB : Laid B) : LoopOk (E0 B) 32 sgJn bJn spJn := by
  refine loop_turns (C := Cx B lib11) (L := noL) (cxOk (lib11_ok hB)) (noL_ok _) fun vs bs e o h => ?_
  unfold spJn at h
  split at h
  · rename_i n i L X
    rcases T.node_sel h with ⟨hc, h2⟩ | ⟨_, h2⟩
    · simp only [okJn, Bool.and_eq_true, decide_eq_true_eq] at hc
      obtain ⟨⟨hn, h0, h1, hl, hX⟩, hsh⟩ := hc
      subst hn
      clear h
      generalize hr : L.drop i.toNat = r at h2
      induction r generalizing i X with
      | nil =>
        simp only [List.all_nil, T.sel, cond_true, Option.some.injEq, Prod.mk.injEq] at h2
        obtain ⟨rfl, rfl⟩ := h2
        refine ⟨1, turns_done ((turnJn L _ i X).trans ?_) (by simp)⟩
        rw [decide_eq_false (tok_end h0 hr)]
        simp [txt]
      | cons t r ih =>
        obtain ⟨d1, d2, d3, d4⟩ := tok_drop h0 hr
        have ht := turnJn (B := B) L (L.length : Int) i X
        have hm := short_mem hsh d4
        rw [decide_eq_true d1, cond_true, atT_in h0 d1, d2, decide_eq_true (show t.text.length ≤ lim from by simp only [lim]; omega), decide_eq_true (show X.length + 1 ≤ lim from by simp only [lim]; omega), wr_lim (by omega) (by omega)] at ht
        cases hv : validB t with
        | true =>
          rw [show decide (tokE t.kind t.text = 0) = true from hv] at ht
          obtain ⟨k, hk⟩ := ih (X := X ++ [t.text]) (i + 1) (by omega) (by simp; omega) (by omega) d3 (by
            simp only [List.all_cons, hv, Bool.true_and, List.takeWhile_cons, if_true] at h2
            simp only [txt, List.map_cons] at h2
            simp only [txt, List.append_assoc, List.singleton_append]
            exact h2)
          exact ⟨k + 1, turns_more ht hk⟩
        | false =>
          rw [show decide (tokE t.kind t.text = 0) = false from hv] at ht
          simp only [List.all_cons, hv, Bool.false_and, List.takeWhile_cons, Bool.false_eq_true, if_false, T.sel, cond_false, Option.some.injEq, Prod.mk.injEq] at h2
          obtain ⟨rfl, rfl⟩ := h2
          refine ⟨1, turns_done (ht.trans ?_) (by simp)⟩
          simp [txt]
    · simp [T.sel] at h2
  · simp [T.sel] at h
noncomputable def eJn : LEnt := { id := 5, n := 32, sg := sgJn, wr := writes bJn, s := spJn }
def so (s : List UInt8) (e : Int) : Option Out := some ⟨[.str s, i64 e], []⟩
theorem tJn (L : List Tok) : runL B lib12 [eJn] Tryz.f61 [.slw 0] [tkc L] =
    bif decide ((200 : Int) < (L.length : Int)) then so [] 4 else bif okJn L (L.length : Int) 0 [] then (bif L.all validB then (bif decide ((txt L).length ≤ lim ∧ (Lib.join (txt L) [32]).length ≤ lim) then
      (bif decide ((400 : Int) < ((Lib.join (txt L) [32]).length : Int)) then so [] 18 else so (Lib.join (txt L) [32]) 0) else none) else so [] 8) else none := by kernel_rfl
def sJn : FSpec
  | [.slw 0], [⟨false, .toks L⟩] => .node (shortT L) (.leaf ⟨[.str (jS L), i64 (jE L)], []⟩) .bad
  | _, _ => .bad
theorem txt_len (L : List Tok) : (txt L).length = L.length := by unfold txt; simp
theorem okJoin (hB : Laid B) : FnOk (E0 B) 61 sJn := by
  refine fnL (lib12_ok hB) (ls := [eJn]) Tryz.func61 (by kernel_rfl) (by kernel_rfl) (fun x hx => ?_) fun vs bs r h => ?_
  · simp only [List.mem_singleton] at hx; subst hx
    exact ⟨bJn, by kernel_rfl, rfl, loopJn hB⟩
  · unfold sJn at h
    split at h
    · rename_i L
      rcases T.node_sel h with ⟨hc, h2⟩ | ⟨_, h2⟩
      · simp only [T.sel, Option.some.injEq] at h2; subst h2
        refine (tJn L).trans ?_
        unfold jS jE
        rw [joinT_is]
        by_cases h4 : (200 : Int) < (L.length : Int)
        · rw [decide_eq_true h4]; rfl
        · have hj := jT_len hc
          have hok : okJn L (L.length : Int) 0 [] = true := by
            unfold okJn
            rw [hc, decide_eq_true (by refine ⟨rfl, by omega, by omega, by omega, by simp⟩)]; rfl
          have e : joinT (txt L) = jT L := rfl
          rw [decide_eq_false h4, hok, e, decide_eq_true (show (txt L).length ≤ lim ∧ (jT L).length ≤ lim from by rw [txt_len]; simp only [lim]; omega)]
          cases L.all validB <;> cases decide ((400 : Int) < ((jT L).length : Int)) <;> rfl
      · simp [T.sel] at h2
    · simp [T.sel] at h
noncomputable def lib13 : Tb := (61, [], sJn) :: lib12
end Go.Proofs.YtdckpbeioemopabGreatDoor.Lx
namespace Go.Proofs.YtdckpbeioemopabGreatDoor.Lx
open Go.Am
set_option maxRecDepth 100000
variable {B : Nat → Option Obj}
def lim2 : Nat := 9223372036854775807
theorem w64_iL {i : Int} (h0 : 0 ≤ i) (h1 : i < lim2) : w64 (i + 1) = i + 1 := by
  apply w64_rng; unfold Rng; simp only [lim2] at h1; omega
def sReadL : FSpec
  | [.str s], [] => .node (decide (s.length ≤ lim2)) (.leaf ⟨[i64 (rdN s), i64 (rdE s)], []⟩) .bad
  | _, _ => .bad
def okLL (s : List UInt8) (a i : Int) (L : List (List UInt8)) : Bool := decide (0 ≤ i ∧ i ≤ (L.length : Int) ∧ (L.length : Int) ≤ 900 ∧ 0 ≤ a ∧ a ≤ (s.length : Int) ∧ (s.length : Int) ≤ 9223372036854775807) && shortL L
theorem wr_inL {n : Int} (h0 : -1000 ≤ n) (h1 : n ≤ 9223372036854775807) : wr n = n := by unfold wr; rw [IntKind.wrap_i64]; omega
def sAL : LSpec
  | [.str s, .int .i64 i], [] => .node (decide (0 ≤ i ∧ i ≤ s.length ∧ s.length ≤ lim2)) (.node ((s.drop i.toNat).all isDig) (.leaf (.exit 0, ⟨[.any, .any], []⟩)) (.leaf (.ret, ⟨[i64 0, i64 12], []⟩))) .bad
  | _, _ => .bad
theorem loopAL : LoopOk (E0 B) 47 sgA bA sAL := by
  refine loop_turns (C := C0 B) (L := noL) c0Ok (noL_ok _) fun vs bs e o h => ?_
  unfold sAL at h
  split at h
  · rename_i s i
    rcases T.node_sel h with ⟨hc, h2⟩ | ⟨_, h2⟩
    · obtain ⟨h0, h1, hl⟩ := of_decide_eq_true hc
      clear hc h
      generalize hr : s.drop i.toNat = r at h2
      induction r generalizing i with
      | nil =>
        have hi : ¬ i < s.length := by
          have := List.drop_eq_nil_iff.1 hr
          omega
        simp only [List.all_nil, T.sel, cond_true, Option.some.injEq, Prod.mk.injEq] at h2
        obtain ⟨rfl, rfl⟩ := h2
        refine ⟨1, turns_done ((turnA s i).trans ?_) (by simp)⟩
        rw [decide_eq_false hi]; rfl
      | cons c r ih =>
        obtain ⟨d1, d2, d3⟩ := drop_cons hr
        have hi : i < s.length := by omega
        have ht := turnA (B := B) s i
        rw [decide_eq_true hi, cond_true, decide_eq_true (show 0 ≤ i ∧ i < s.length from ⟨h0, hi⟩), cond_true, d2] at ht
        cases hd : isDig c with
        | true =>
          have hn := dig_nat hd
          rw [decide_eq_false (show ¬ (c.toNat : Int) < 48 from by omega), cond_false, cond_true, decide_eq_false (show ¬ 57 < (c.toNat : Int) from by omega), cond_false, w64_iL h0 (by omega)] at ht
          obtain ⟨k, hk⟩ := ih (i + 1) (by omega) (by omega) (by rw [show (i + 1).toNat = i.toNat + 1 from by omega]; exact d3) (by simpa [hd] using h2)
          exact ⟨k + 1, turns_more ht hk⟩
        | false =>
          simp only [List.all_cons, hd, Bool.false_and, T.sel, cond_false, Option.some.injEq, Prod.mk.injEq] at h2
          obtain ⟨rfl, rfl⟩ := h2
          have hn : ¬ (48 ≤ c.toNat ∧ c.toNat ≤ 57) := by
            intro hh
            have : isDig c = true := by simp [isDig, hh.1, hh.2]
            rw [hd] at this; cases this
          refine ⟨1, turns_done (ht.trans ?_) (by simp)⟩
          by_cases h5 : (c.toNat : Int) < 48
          · rw [decide_eq_true h5]; rfl
          · rw [decide_eq_false h5, cond_false, cond_true, decide_eq_true (show 57 < (c.toNat : Int) from by omega)]; rfl
    · simp [T.sel] at h2
  · simp [T.sel] at h
def okBL (s : List UInt8) (i n : Int) : Bool := decide (0 ≤ i ∧ i ≤ s.length ∧ s.length ≤ lim2 ∧ 0 ≤ n ∧ n ≤ most) && (s.drop i.toNat).all isDig
def sBL : LSpec
  | [.str s, .int .i64 n, .int .i64 i], [] => .node (okBL s i n) (.node (rdF n (s.drop i.toNat)).isSome (.leaf (.exit 2, ⟨[.any, .any, i64 (lastN n (s.drop i.toNat))], []⟩)) (.leaf (.ret, ⟨[i64 0, i64 16, i64 (lastN n (s.drop i.toNat))], []⟩))) .bad
  | _, _ => .bad
theorem loopBL : LoopOk (E0 B) 47 sgB bB sBL := by
  refine loop_turns (C := C0 B) (L := noL) c0Ok (noL_ok _) fun vs bs e o h => ?_
  unfold sBL at h
  split at h
  · rename_i s n i
    rcases T.node_sel h with ⟨hc, h2⟩ | ⟨_, h2⟩
    · simp only [okBL, Bool.and_eq_true, decide_eq_true_eq] at hc
      obtain ⟨⟨h0, h1, hl, hn0, hn1⟩, hall⟩ := hc
      clear h
      generalize hr : s.drop i.toNat = r at h2 hall
      induction r generalizing i n with
      | nil =>
        have hi : ¬ i < s.length := by
          have := List.drop_eq_nil_iff.1 hr
          omega
        simp only [rdF, lastN, Option.isSome_some, T.sel, cond_true, Option.some.injEq, Prod.mk.injEq] at h2
        obtain ⟨rfl, rfl⟩ := h2
        refine ⟨1, turns_done ((turnB s n i).trans ?_) (by simp)⟩
        rw [decide_eq_false hi]; rfl
      | cons c r ih =>
        simp only [List.all_cons, Bool.and_eq_true] at hall
        obtain ⟨d1, d2, d3⟩ := drop_cons hr
        have hi : i < s.length := by omega
        have ht := turnB (B := B) s n i
        have hd := dg_rng hall.1
        have hmost : most = 9223372036854775807 := rfl
        have e1 : w64 (9223372036854775807 - dg c) = most - dg c := by rw [hmost]; apply w64_rng; unfold Rng; omega
        have e2 : w64 ((most - dg c).tdiv 10) = (most - dg c).tdiv 10 := by
          rw [Int.tdiv_eq_ediv_of_nonneg (by omega)]; apply w64_rng; unfold Rng; omega
        rw [decide_eq_true hi, cond_true, decide_eq_true (show 0 ≤ i ∧ i < s.length from ⟨h0, hi⟩), cond_true, d2, dgW_eq hall.1, e1, e2] at ht
        cases hq : decide ((most - dg c).tdiv 10 < n) with
        | true =>
          rw [hq, cond_true] at ht
          simp only [rdF, lastN, hq, cond_true, Option.isSome_none, T.sel, cond_false, Option.some.injEq, Prod.mk.injEq] at h2
          obtain ⟨rfl, rfl⟩ := h2
          exact ⟨1, turns_done ht (by simp)⟩
        | false =>
          rw [hq, cond_false] at ht
          have hq' := of_decide_eq_false hq
          rw [Int.tdiv_eq_ediv_of_nonneg (by omega)] at hq'
          have e3 : w64 (10 * n) = 10 * n := by apply w64_rng; unfold Rng; omega
          have e4 : w64 (10 * n + dg c) = 10 * n + dg c := by apply w64_rng; unfold Rng; omega
          rw [e3, e4, w64_iL h0 (by omega)] at ht
          obtain ⟨k, hk⟩ := ih (10 * n + dg c) (i + 1) (by omega) (by omega) (by omega) (by omega) (by rw [show (i + 1).toNat = i.toNat + 1 from by omega]; exact d3) (by simpa only [rdF, lastN, hq, cond_false] using h2) hall.2
          exact ⟨k + 1, turns_more ht hk⟩
    · simp [T.sel] at h2
  · simp [T.sel] at h
def eAL : LEnt := { id := 4, n := 47, sg := sgA, wr := [10, 11, 12, 13, 16, 17, 18, 19, 20, 21, 22, 23, 24, 25, 2, 3, 14, 15, 4], s := sAL }
def eBL : LEnt := { id := 10, n := 47, sg := sgB, wr := [26, 27, 28, 29, 32, 33, 34, 35, 36, 7, 37, 38, 39, 40, 41, 2, 3, 42, 43, 44, 45, 5, 30, 31, 6], s := sBL }
theorem tRefReadL (s : List UInt8) : (fnRun (E0 B) (C0 B) (loopL (E0 B) noL [eAL, eBL]) Tryz.f89 (bodyC Tryz.f89) [.str s] []).sel =
    bif decide (s = []) then rp 0 12 else bif decide (0 ≤ (0 : Int) ∧ (0 : Int) ≤ s.length ∧ s.length ≤ lim2) then (bif s.all isDig then (bif okBL s 0 0 then (bif (rdF 0 s).isSome then rp (lastN 0 s) 0 else rp 0 16) else none) else rp 0 12) else none := by kernel_rfl
theorem okRefReadL : FnOk (E0 B) 89 sReadL := by
  refine fn_ok (C := C0 B) (L := loopL (E0 B) noL [eAL, eBL]) (c := bodyC Tryz.f89) Tryz.func89 (by kernel_rfl) (by kernel_rfl) c0Ok (loopL_fits (fun x hx => ?_) noL_ok) fun vs bs r h => ?_
  · simp only [List.mem_cons, List.mem_nil_iff, or_false] at hx
    rcases hx with rfl | rfl
    · exact ⟨bA, by kernel_rfl, by kernel_rfl, loopAL⟩
    · exact ⟨bB, by kernel_rfl, by kernel_rfl, loopBL⟩
  · unfold sReadL at h
    split at h
    · rename_i s
      rcases T.node_sel h with ⟨hc, h2⟩ | ⟨_, h2⟩
      · simp only [T.sel, Option.some.injEq] at h2; subst h2
        refine (tRefReadL s).trans ?_
        have hs := of_decide_eq_true hc
        unfold rdN rdE
        by_cases h0 : s = []
        · subst h0; rfl
        · rw [decide_eq_false h0, cond_false, decide_eq_true (show 0 ≤ (0 : Int) ∧ (0 : Int) ≤ s.length ∧ s.length ≤ lim2 from ⟨Int.le_refl _, by omega, hs⟩), cond_true]
          cases h1 : s.all isDig with
          | false => rfl
          | true =>
            have hok : okBL s 0 0 = true := by
              simp only [okBL, Bool.and_eq_true, decide_eq_true_eq]
              exact ⟨⟨by omega, by omega, hs, by omega, by decide⟩, h1⟩
            rw [hok]
            cases h3 : (rdF 0 s).isSome with
            | true => have := rdF_last h3; rw [this]; rfl
            | false =>
              have : rdF 0 s = none := by simpa using h3
              rw [this]; rfl
      · simp [T.sel] at h2
    · simp [T.sel] at h
def spLL : LSpec
  | [.str s, .int .i64 a, .slw 0, .int .i64 i], [⟨false, .strs L⟩] => .node (okLL s a i L) (.node (longF s a (L.drop i.toNat)).isSome (.leaf (.ret, ⟨[i64 ((longF s a (L.drop i.toNat)).getD 0 : Nat)], []⟩)) (.leaf (.exit 0, ⟨[.any], []⟩))) .bad
  | _, _ => .bad
theorem loopLgL : LoopOk (E0 B) 46 sgL bL spLL := by
  refine loop_turns (C := C0 B) (L := noL) c0Ok (noL_ok _) fun vs bs e o h => ?_
  unfold spLL at h
  split at h
  · rename_i s a i L
    rcases T.node_sel h with ⟨hc, h2⟩ | ⟨_, h2⟩
    · simp only [okLL, Bool.and_eq_true, decide_eq_true_eq] at hc
      obtain ⟨⟨h0, h1, hl, ha0, ha1, hs⟩, hsh⟩ := hc
      clear h
      generalize hr : L.drop i.toNat = r at h2
      induction r generalizing i with
      | nil =>
        have hi : ¬ i < (L.length : Int) := by
          have := List.drop_eq_nil_iff.1 hr
          omega
        simp only [longF, Option.isSome_none, T.sel, cond_false, Option.some.injEq, Prod.mk.injEq] at h2
        obtain ⟨rfl, rfl⟩ := h2
        refine ⟨1, turns_done ((turnL s a i L).trans ?_) (by simp)⟩
        rw [decide_eq_false hi]; rfl
      | cons l r ih =>
        obtain ⟨d1, d2, d3⟩ := getD_drop hr
        have hi : i < (L.length : Int) := by omega
        have hll : l.length ≤ 10 := by
          have hm : l ∈ L := List.mem_of_mem_drop (i := i.toNat) (by rw [hr]; exact List.mem_cons_self ..)
          exact of_decide_eq_true (List.all_eq_true.1 hsh l hm)
        have ht := turnL (B := B) s a i L
        rw [decide_eq_true hi, cond_true, at0_in _ h0 hi, at0_in _ h0 hi, at0_in _ h0 hi, at0_in _ h0 hi, d1, wr_inL (n := (s.length : Int) - a) (by omega) (by omega), wr_inL (n := i + 1) (by omega) (by omega)] at ht
        have next : (longF s a (l :: r) = longF s a r) → (turn (E0 B) (C0 B) noL 46 sgL bL [.str s, i64 a, .slw 0, i64 i] [⟨false, .strs L⟩]).sel = some (.normal, ⟨[.str s, i64 a, .slw 0, i64 (i + 1)], [⟨false, .strs L⟩]⟩) → ∃ k, (turns (E0 B) (C0 B) noL 46 sgL bL k [.str s, i64 a, .slw 0, i64 i] [⟨false, .strs L⟩]).sel = some (e, o) := fun hq hturn => by
          obtain ⟨k, hk⟩ := ih (i + 1) (by omega) (by omega) (by rw [show (i + 1).toNat = i.toNat + 1 from by omega]; exact d3) (by rw [← hq]; exact h2)
          exact ⟨k + 1, turns_more hturn hk⟩
        by_cases hA : (l.length : Int) ≤ (s.length : Int) - a
        · rw [wr_inL (n := a + (l.length : Int)) (by omega) (by omega), decide_eq_true hA, cond_true, show sL s a (a + (l.length : Int)) = true from decide_eq_true ⟨by omega, by omega, by omega⟩, cond_true] at ht
          by_cases hE : cut s a (a + (l.length : Int)) = l
          · rw [decide_eq_true hE, cond_true] at ht
            have hq : longF s a (l :: r) = some l.length := by unfold longF; rw [decide_eq_true hA, decide_eq_true hE]; rfl
            rw [hq] at h2
            simp only [Option.isSome_some, T.sel, cond_true, Option.some.injEq, Prod.mk.injEq] at h2
            obtain ⟨rfl, rfl⟩ := h2
            exact ⟨1, turns_done ht (by simp)⟩
          · rw [decide_eq_false hE, cond_false] at ht
            exact next (by conv => lhs; unfold longF
                           rw [decide_eq_false hE, Bool.and_false]; rfl) ht
        · rw [decide_eq_false hA, cond_false] at ht
          exact next (by conv => lhs; unfold longF
                         rw [decide_eq_false hA, Bool.false_and]; rfl) ht
    · simp [T.sel] at h2
  · simp [T.sel] at h
def eLL : LEnt := { id := 3, n := 46, sg := sgL, wr := [8, 9, 10, 11, 14, 15, 16, 17, 18, 19, 20, 21, 22, 23, 24, 25, 26, 27, 28, 29, 30, 31, 32, 33, 34, 35, 36, 37, 38, 39, 40, 41, 42, 43, 44, 45, 4, 12, 13, 6], s := spLL }
noncomputable def specLgL (B : Nat → Option Obj) : FSpec := fun vs bs => fnRun (E0 B) (Cx B []) (loopL (E0 B) (inlL (E0 B) (Cx B []) 300) [eLL]) Tryz.f91 (bodyC Tryz.f91) vs bs
theorem okLg0L : FnOk (E0 B) 91 (specLgL B) :=
  fn_ok (c := bodyC Tryz.f91) Tryz.func91 (by kernel_rfl) (by kernel_rfl) (cxOk (l := []) (fun _ h => by cases h))
    (loopL_fits (fun x hx => by simp only [List.mem_singleton] at hx; subst hx; exact ⟨bL, by kernel_rfl, by kernel_rfl, loopLgL⟩) (inl_ok (cxOk (l := []) (fun _ h => by cases h)) 300)) fun _ _ _ h => h
theorem tLgL (s : List UInt8) (a : Int) : (specLgL B [.str s, i64 a] []).sel = bif okLL s a 0 symbols then (bif (longF s a symbols).isSome then some ⟨[i64 ((longF s a symbols).getD 0 : Nat)], []⟩ else some ⟨[i64 0], []⟩) else none := by kernel_rfl
def sLgL : FSpec
  | [.str s, .int .i64 a], [] => .node (decide (0 ≤ a ∧ a ≤ (s.length : Int) ∧ (s.length : Int) ≤ 9223372036854775807)) (.leaf ⟨[i64 (sym0 (s.drop a.toNat))], []⟩) .bad
  | _, _ => .bad
theorem okLgL : FnOk (E0 B) 91 sLgL := ⟨okLg0L.1, fun vs bs out h => by
  refine (okLg0L (B := B)).2 vs bs out ?_
  unfold sLgL at h
  split at h
  · rename_i s a
    rcases T.node_sel h with ⟨hc, h2⟩ | ⟨_, h2⟩
    · obtain ⟨h0, h1, hl⟩ := of_decide_eq_true hc
      simp only [T.sel, Option.some.injEq] at h2; subst h2
      have hok : okLL s a 0 symbols = true := by
        unfold okLL
        rw [Bool.and_eq_true]
        exact ⟨decide_eq_true ⟨by decide, by decide, by decide, h0, h1, hl⟩, by decide⟩
      refine (tLgL s a).trans ?_
      rw [hok, cond_true, ← long_sym h0 h1]
      unfold longN
      cases longF s a symbols <;> rfl
    · simp [T.sel] at h2
  · simp [T.sel] at h⟩
noncomputable def libV : Tb := (89, [], sReadL) :: (91, [], sLgL) :: (90, [], sWord) :: []
theorem libV_ok : TbOk B libV := ((TbOk.nil.add okWord').add okLgL).add okRefReadL
theorem tValidL (k a : Int) (t : List UInt8) : runT B libV Tryz.f54 [.agg [.int .u8 k, .str t, .int .i64 a]] [] =
    bif decide (k = 1) then (bif decide (t.length ≤ lim2) then rb (decide (rdE t = 0)) else none) else bif decide (k = 2) then rb (isWord t) else
      bif decide (k = 3) then (bif decide ((0 : Int) < (t.length : Int)) then (bif decide (0 ≤ (0 : Int) ∧ (0 : Int) ≤ (t.length : Int) ∧ (t.length : Int) ≤ 9223372036854775807) then rb (decide (sym0 t = (t.length : Int))) else none) else rb false) else rb false := by kernel_rfl
def sValidL : FSpec
  | [.agg [.int .u8 k, .str t, .int .i64 _]], [] => .node (decide (t.length ≤ lim2)) (.leaf ⟨[.bool (decide (tokE k t = 0))], []⟩) .bad
  | _, _ => .bad
theorem okValidL : FnOk (E0 B) 54 sValidL := by
  refine fnT libV_ok Tryz.func54 (by kernel_rfl) (by kernel_rfl) fun vs bs r h => ?_
  unfold sValidL at h
  split at h
  · rename_i k t a
    rcases T.node_sel h with ⟨hc, h2⟩ | ⟨_, h2⟩
    · simp only [T.sel, Option.some.injEq] at h2; subst h2
      have hl := of_decide_eq_true hc
      refine (tValidL k a t).trans ?_
      rw [hc, decide_eq_true (show 0 ≤ (0 : Int) ∧ (0 : Int) ≤ (t.length : Int) ∧ (t.length : Int) ≤ 9223372036854775807 from ⟨by omega, by omega, by simp only [lim2] at hl; omega⟩)]
      unfold tokE
      cases decide (k = 1)
      · cases decide (k = 2)
        · cases decide (k = 3)
          · rfl
          · by_cases h5 : sym0 t = (t.length : Int)
            · rw [h5]
              cases decide ((0 : Int) < (t.length : Int)) <;> simp [rb]
            · rw [decide_eq_false h5, Bool.and_false]
              cases decide ((0 : Int) < (t.length : Int)) <;> rfl
        · cases isWord t <;> rfl
      · rfl
    · simp [T.sel] at h2
  · simp [T.sel] at h
end Go.Proofs.YtdckpbeioemopabGreatDoor.Lx
