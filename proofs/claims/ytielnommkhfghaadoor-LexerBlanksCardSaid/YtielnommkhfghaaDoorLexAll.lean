/-
  Lexer: token and All by contract.
-/
import Derived.Test.YtielnommkhfghaaDoorLexFn
namespace Go.Proofs.YtielnommkhfghaaDoor
open Go.Am
set_option maxRecDepth 100000
variable {B : Nat → Option Obj}
def sToken : FSpec
  | [.str s], [] => .node (decide (0 < s.length ∧ s.length ≤ lim)) (.leaf ⟨[av ⟨tkK s, tkT s, 0⟩], []⟩) .bad
  | _, _ => .bad
theorem sL_0 {s : List UInt8} {n : Nat} (h : n ≤ s.length) : sL s 0 (n : Int) = true := decide_eq_true ⟨Int.le_refl _, by omega, by omega⟩
theorem okToken (hB : Laid B) : FnOk (E0 B) 24 sToken := by
  refine fnT (lib7_ok hB) Tryd.func24 (by kernel_rfl) (by kernel_rfl) fun vs bs r h => ?_
  unfold sToken at h
  split at h
  · rename_i s
    rcases T.node_sel h with ⟨hc, h2⟩ | ⟨_, h2⟩
    · simp only [T.sel, Option.some.injEq] at h2; subst h2
      obtain ⟨h0, hl⟩ := of_decide_eq_true hc
      refine (tToken s).trans ?_
      rw [hc, show rI s 0 = true from decide_eq_true ⟨Int.le_refl _, by omega⟩, (sym_at0 s).1]
      have e : c0 s = ch s 0 := rfl
      have h4 : sL s 0 (sym0 s) = true := by
        have := sym_len s
        have h5 : 0 ≤ sym0 s := by rcases sym_rng s with h | h | h <;> omega
        exact decide_eq_true ⟨Int.le_refl _, by omega, by omega⟩
      rw [h4, sL_0 (runK_le _ s)]
      unfold tkK tkT tkN oTk
      rw [e]
      by_cases h2 : kindN (ch s 0) = 2
      · rw [decide_eq_true h2, h2]; rfl
      · rw [decide_eq_false h2]
        by_cases h3 : kindN (ch s 0) = 3
        · rw [decide_eq_true h3, h3]; rfl
        · rw [decide_eq_false h3]; rfl
    · simp [T.sel] at h2
  · simp [T.sel] at h
noncomputable def lib8 : Tb := (24, [], sToken) :: lib7
theorem lib8_ok (hB : Laid B) : TbOk B lib8 := lib7_ok hB |>.add (okToken hB)
/-! All -/
noncomputable def bAl : Code := loopAt 5 (loopsOf (bodyC Tryd.f15))
def sgAl : LSig := { cs := [(0, 0)], mv := [(5, 28), (6, 0)], mo := [(2, 28), (3, 0), (4, 0), (5, 28)], take := [0] }
def tkb (l : List Tok) : Blk := ⟨true, .toks l⟩
def goAl (s : List UInt8) (a : Int) (L : List Tok) : Option (AExit × Out) := some (.normal, ⟨[.str s, .slw 0, i64 a], [tkb L]⟩)
def reAl (a e : Int) (L : List Tok) : Option (AExit × Out) := some (.ret, ⟨[.slw 0, i64 a, i64 e, .slw 1], [tkb [], tkb L]⟩)
def exAl (L : List Tok) : Option (AExit × Out) := some (.exit 0, ⟨[.any, .any, .any, .slw 0], [tkb L]⟩)
theorem turnAl (s : List UInt8) (a : Int) (L : List Tok) : (turn (E0 B) (Cx B lib8) noL 51 sgAl bAl [.str s, .slw 0, i64 a] [tkb L]).sel =
    bif decide (a < (s.length : Int)) then (bif rI s a then (bif decide (kindN (ch s a) = 1) then goAl s (wr (a + 1)) L else bif decide ((L.length : Int) = 200) then reAl a 4 L else
      bif decide (0 ≤ a ∧ a ≤ (s.length : Int)) then (bif decide (0 < (s.drop a.toNat).length ∧ (s.drop a.toNat).length ≤ lim) then (bif decide ((tkT (s.drop a.toNat)).length ≤ lim) then
        (bif !decide (tokE (tkK (s.drop a.toNat)) (tkT (s.drop a.toNat)) = 0) then reAl a (tokE (tkK (s.drop a.toNat)) (tkT (s.drop a.toNat))) L else bif decide (L.length + 1 ≤ lim) then
          goAl s (wr (a + ((tkT (s.drop a.toNat)).length : Int))) (L ++ [⟨tkK (s.drop a.toNat), tkT (s.drop a.toNat), a⟩]) else none) else none) else none) else none) else none) else exAl L := by kernel_rfl
def outAl (L : List Tok) (o : LexO) : Option (AExit × Out) := bif decide (o.e = 0) then exAl (L ++ o.l) else reAl o.n o.e (L ++ o.l)
def okAl (s : List UInt8) (a : Int) (L : List Tok) : Bool := decide (0 ≤ a ∧ a ≤ (s.length : Int) ∧ s.length ≤ 1000 ∧ L.length ≤ 200)
def spAl : LSpec
  | [.str s, .slw 0, .int .i64 a], [⟨true, .toks L⟩] => .node (okAl s a L) (.node (decide ((lx (s.drop a.toNat) a L.length).e = 0)) (.leaf (.exit 0, ⟨[.any, .any, .any, .slw 0], [tkb (L ++ (lx (s.drop a.toNat) a L.length).l)]⟩))
      (.leaf (.ret, ⟨[.slw 0, i64 (lx (s.drop a.toNat) a L.length).n, i64 (lx (s.drop a.toNat) a L.length).e, .slw 1], [tkb [], tkb (L ++ (lx (s.drop a.toNat) a L.length).l)]⟩))) .bad
  | _, _ => .bad
theorem runAl (s : List UInt8) (hl : s.length ≤ 1000) : ∀ r a k, ∀ L : List Tok, L.length = k → k ≤ 200 → s.drop a.toNat = r → 0 ≤ a → a ≤ (s.length : Int) →
    ∃ m, (turns (E0 B) (Cx B lib8) noL 51 sgAl bAl m [.str s, .slw 0, i64 a] [tkb L]).sel = outAl L (lx r a k) := by
  have hr : ∀ {c r} {a : Int}, s.drop a.toNat = c :: r → 0 ≤ a → (0 ≤ a ∧ a ≤ (s.length : Int)) ∧ (0 < (s.drop a.toNat).length ∧ (s.drop a.toNat).length ≤ lim) ∧ (tkT (s.drop a.toNat)).length ≤ lim := fun {c r a} h h0 => by
    have h1 := (drop_cons' h0 h).1
    have e := drop_len s h0 (by omega)
    have e2 := tkN_le (s.drop a.toNat)
    rw [tkT_len]
    simp only [lim]
    omega
  refine lx_ind ?_ ?_ ?_ ?_ ?_
  · intro a k L hL hk hd h0 h1
    rw [lx_nil]
    refine ⟨1, turns_done ((turnAl s a L).trans ?_) (by simp)⟩
    rw [decide_eq_false (drop_nil' h0 hd)]
    show exAl L = exAl (L ++ [])
    rw [List.append_nil]
  · intro c r a k h ih L hL hk hd h0 h1
    obtain ⟨d1, d2, d3, d4⟩ := drop_cons' h0 hd
    have ht := turnAl (B := B) s a L
    rw [decide_eq_true d1, d4, d2, decide_eq_true (show kindN (c.toNat : Int) = 1 from h), wr_lim (by omega) (by omega)] at ht
    obtain ⟨m, hm⟩ := ih L hL hk d3 (by omega) (by omega)
    rw [lx_blank h]
    exact ⟨m + 1, (turns_more' ht).trans hm⟩
  · intro c r a h L hL hk hd h0 h1
    obtain ⟨d1, d2, d3, d4⟩ := drop_cons' h0 hd
    rw [lx_many h rfl]
    refine ⟨1, turns_done ((turnAl s a L).trans ?_) (by simp)⟩
    rw [decide_eq_true d1, d4, d2, decide_eq_false (show ¬ kindN (c.toNat : Int) = 1 from h), decide_eq_true (show (L.length : Int) = 200 from by omega)]
    show reAl a 4 L = reAl a 4 (L ++ [])
    rw [List.append_nil]
  · intro c r a k h hk2 hf L hL hk hd h0 h1
    obtain ⟨d1, d2, d3, d4⟩ := drop_cons' h0 hd
    obtain ⟨e1, e2, e3⟩ := hr hd h0
    have hout : outAl L ⟨[], a, tkF (c :: r)⟩ = some (.ret, ⟨[.slw 0, i64 a, i64 (tkF (c :: r)), .slw 1], [tkb [], tkb L]⟩) := by
      unfold outAl
      rw [decide_eq_false hf, List.append_nil]; rfl
    rw [lx_bad h hk2 hf, hout]
    refine ⟨1, turns_done ((turnAl s a L).trans ?_) (by simp)⟩
    rw [decide_eq_true d1, d4, d2, decide_eq_false (show ¬ kindN (c.toNat : Int) = 1 from h), decide_eq_false (show ¬ (L.length : Int) = 200 from by omega), decide_eq_true e1, decide_eq_true e2, decide_eq_true e3, hd]
    rw [show decide (tokE (tkK (c :: r)) (tkT (c :: r)) = 0) = false from decide_eq_false hf]; rfl
  · intro c r a k h hk2 hf ih L hL hk hd h0 h1
    obtain ⟨d1, d2, d3, d4⟩ := drop_cons' h0 hd
    obtain ⟨e1, e2, e3⟩ := hr hd h0
    have e := tkN_le (c :: r)
    have e4 := drop_len s h0 h1
    rw [hd] at e4
    have ht := turnAl (B := B) s a L
    rw [decide_eq_true d1, d4, d2, decide_eq_false (show ¬ kindN (c.toNat : Int) = 1 from h), decide_eq_false (show ¬ (L.length : Int) = 200 from by omega), decide_eq_true e1, decide_eq_true e2, decide_eq_true e3, hd,
      show decide (tokE (tkK (c :: r)) (tkT (c :: r)) = 0) = true from decide_eq_true hf, decide_eq_true (show L.length + 1 ≤ lim from by simp only [lim]; omega), tkT_len, wr_lim (n := a + (tkN (c :: r) : Int)) (by omega) (by omega)] at ht
    obtain ⟨m, hm⟩ := ih (L ++ [⟨tkK (c :: r), tkT (c :: r), a⟩]) (by simp [hL]) (by omega) (by rw [show (a + (tkN (c :: r) : Int)).toNat = a.toNat + tkN (c :: r) from by omega, ← List.drop_drop, hd]) (by omega) (by omega)
    have hout : outAl (L ++ [⟨tkK (c :: r), tkT (c :: r), a⟩]) (lx ((c :: r).drop (tkN (c :: r))) (a + (tkN (c :: r) : Int)) (k + 1)) = outAl L (lx (c :: r) a k) := by
      rw [lx_tok h hk2 hf]
      unfold outAl LexO.cons
      simp only [List.append_assoc, List.singleton_append]
    rw [hout] at hm
    exact ⟨m + 1, (turns_more' ht).trans hm⟩
theorem loopAl (hB : Laid B) : LoopOk (E0 B) 51 sgAl bAl spAl := by
  refine loop_turns (C := Cx B lib8) (L := noL) (cxOk (lib8_ok hB)) (noL_ok _) fun vs bs e o h => ?_
  unfold spAl at h
  split at h
  · rename_i s a L
    rcases T.node_sel h with ⟨hc, h2⟩ | ⟨_, h2⟩
    · obtain ⟨h0, h1, hl, hk⟩ := of_decide_eq_true hc
      obtain ⟨m, hm⟩ := runAl s hl _ a L.length L rfl hk rfl h0 h1
      refine ⟨m, hm.trans ?_⟩
      rw [← h2]
      unfold outAl
      simp only [T.sel]
      cases decide ((lx (s.drop a.toNat) a L.length).e = 0) <;> rfl
    · simp [T.sel] at h2
  · simp [T.sel] at h
noncomputable def eAl : LEnt := { id := 5, n := 51, sg := sgAl, wr := writes bAl, s := spAl }
theorem tAll (s : List UInt8) : runL B lib8 [eAl] Tryd.f15 [.str s] [] =
    bif decide ((400 : Int) < (s.length : Int)) then some ⟨[.slw 0, i64 0, i64 4], [tkb []]⟩ else bif okAl s 0 [] then (bif decide ((lx s 0 0).e = 0) then some ⟨[.slw 0, i64 s.length, i64 0], [tkb (lx s 0 0).l]⟩ else some ⟨[.slw 0, i64 (lx s 0 0).n, i64 (lx s 0 0).e], [tkb []]⟩) else none := by kernel_rfl
def sAll : FSpec
  | [.str s], [] => .leaf ⟨[.slw 0, i64 (lexN s), i64 (lexE s)], [tkb (lexL s)]⟩
  | _, _ => .bad
theorem lexA_is {s : List UInt8} (h : ¬ (400 : Int) < (s.length : Int)) : lexA s = lx s 0 0 := by
  unfold lexA
  rw [decide_eq_false h]; rfl
theorem all_is (s : List UInt8) : (bif decide ((400 : Int) < (s.length : Int)) then some (⟨[.slw 0, i64 0, i64 4], [tkb []]⟩ : Out) else bif okAl s 0 [] then (bif decide ((lx s 0 0).e = 0) then some ⟨[.slw 0, i64 s.length, i64 0], [tkb (lx s 0 0).l]⟩ else some ⟨[.slw 0, i64 (lx s 0 0).n, i64 (lx s 0 0).e], [tkb []]⟩) else none) =
    some ⟨[.slw 0, i64 (lexN s), i64 (lexE s)], [tkb (lexL s)]⟩ := by
  by_cases h : (400 : Int) < (s.length : Int)
  · unfold lexL lexN lexE lexA
    rw [decide_eq_true h]; rfl
  · have hok : okAl s 0 [] = true := decide_eq_true ⟨by omega, by omega, by omega, by simp⟩
    unfold lexL lexN lexE
    rw [decide_eq_false h, hok, lexA_is h]
    by_cases he : (lx s 0 0).e = 0
    · rw [decide_eq_true he, lx_end s 0 0 he, he]
      simp
    · rw [decide_eq_false he]; rfl
theorem okAll (hB : Laid B) : FnOk (E0 B) 15 sAll := by
  refine fnL (lib8_ok hB) (ls := [eAl]) Tryd.func15 (by kernel_rfl) (by kernel_rfl) (fun x hx => ?_) fun vs bs r h => ?_
  · simp only [List.mem_singleton] at hx; subst hx
    exact ⟨bAl, by kernel_rfl, rfl, loopAl hB⟩
  · unfold sAll at h
    split at h
    · rename_i s
      simp only [T.sel, Option.some.injEq] at h; subst h
      exact (tAll s).trans (all_is s)
    · simp [T.sel] at h
end Go.Proofs.YtielnommkhfghaaDoor
