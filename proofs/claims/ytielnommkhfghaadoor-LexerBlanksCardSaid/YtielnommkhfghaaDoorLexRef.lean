/-
  Lexer: the reference's run, Next, All by contract.
-/
import Derived.Test.YtielnommkhfghaaDoorLexAll
namespace Go.Proofs.YtielnommkhfghaaDoor
open Go.Am
set_option maxRecDepth 100000
variable {B : Nat → Option Obj}
/-! run -/
noncomputable def bRn : Code := loopAt 1 (loopsOf (bodyC Tryd.f25))
def sgRn : LSig := { cs := [(0, 0), (2, 0)], mv := [(1, 0)], mo := [(1, 0)], take := [] }
theorem turnRn (s : List UInt8) (k a : Int) : (turn (E0 B) (Cx B lib8) noL 22 sgRn bRn [.str s, .int .u8 k, i64 a] []).sel =
    bif decide (a < (s.length : Int)) then (bif rI s a then (bif decide (kindN (ch s a) = k) then some (.normal, ⟨[.str s, .int .u8 k, i64 (wr (a + 1))], []⟩) else some (.exit 0, ⟨[i64 a], []⟩)) else none) else some (.exit 0, ⟨[i64 a], []⟩) := by kernel_rfl
def spRn : LSpec
  | [.str s, .int .u8 k, .int .i64 a], [] => .node (decide (0 ≤ a ∧ a ≤ (s.length : Int) ∧ s.length ≤ lim)) (.leaf (.exit 0, ⟨[i64 (a + (runK k (s.drop a.toNat) : Int))], []⟩)) .bad
  | _, _ => .bad
theorem loopRn (hB : Laid B) : LoopOk (E0 B) 22 sgRn bRn spRn := by
  refine loop_turns (C := Cx B lib8) (L := noL) (cxOk (lib8_ok hB)) (noL_ok _) fun vs bs e o h => ?_
  unfold spRn at h
  split at h
  · rename_i s k a
    rcases T.node_sel h with ⟨hc, h2⟩ | ⟨_, h2⟩
    · obtain ⟨h0, h1, hl⟩ := of_decide_eq_true hc
      clear hc h
      simp only [lim] at hl
      simp only [T.sel, Option.some.injEq, Prod.mk.injEq] at h2
      obtain ⟨rfl, rfl⟩ := h2
      generalize hr : s.drop a.toNat = r
      induction r generalizing a with
      | nil =>
        refine ⟨1, turns_done ((turnRn s k a).trans ?_) (by simp)⟩
        rw [decide_eq_false (drop_nil' h0 hr)]
        simp [runK]
      | cons c r ih =>
        obtain ⟨d1, d2, d3, d4⟩ := drop_cons' h0 hr
        have ht := turnRn (B := B) s k a
        rw [decide_eq_true d1, d4, d2, wr_lim (by omega) (by omega)] at ht
        rw [runK_cons]
        by_cases hk : kindN (c.toNat : Int) = k
        · rw [decide_eq_true hk] at ht
          rw [decide_eq_true (show kd c = k from hk)]
          obtain ⟨m, hm⟩ := ih (a + 1) (by omega) (by omega) d3
          refine ⟨m + 1, turns_more ht ?_⟩
          rw [cond_true, show a + ((runK k r + 1 : Nat) : Int) = a + 1 + (runK k r : Int) from by omega]
          exact hm
        · rw [decide_eq_false hk] at ht
          rw [decide_eq_false (show ¬ kd c = k from hk)]
          exact ⟨1, turns_done (ht.trans (by simp)) (by simp)⟩
    · simp [T.sel] at h2
  · simp [T.sel] at h
noncomputable def eRn : LEnt := { id := 1, n := 22, sg := sgRn, wr := writes bRn, s := spRn }
def sRun : FSpec
  | [.str s, .int .i64 a, .int .u8 k], [] => .node (decide (0 ≤ a ∧ a ≤ (s.length : Int) ∧ s.length ≤ lim)) (.leaf ⟨[i64 (a + (runK k (s.drop a.toNat) : Int))], []⟩) .bad
  | _, _ => .bad
theorem tRun (s : List UInt8) (a k : Int) : runL B lib8 [eRn] Tryd.f25 [.str s, .int .i64 a, .int .u8 k] [] =
    bif decide (0 ≤ a ∧ a ≤ (s.length : Int) ∧ s.length ≤ lim) then some ⟨[i64 (a + (runK k (s.drop a.toNat) : Int))], []⟩ else none := by kernel_rfl
theorem okRun (hB : Laid B) : FnOk (E0 B) 25 sRun := by
  refine fnL (lib8_ok hB) (ls := [eRn]) Tryd.func25 (by kernel_rfl) (by kernel_rfl) (fun x hx => ?_) fun vs bs r h => ?_
  · simp only [List.mem_singleton] at hx; subst hx
    exact ⟨bRn, by kernel_rfl, rfl, loopRn hB⟩
  · unfold sRun at h
    split at h
    · rename_i s a k
      rcases T.node_sel h with ⟨hc, h2⟩ | ⟨_, h2⟩
      · simp only [T.sel, Option.some.injEq] at h2; subst h2
        rw [tRun, hc]; rfl
      · simp [T.sel] at h2
    · simp [T.sel] at h
noncomputable def lib9 : Tb := (25, [], sRun) :: (15, [], sAll) :: lib8
theorem lib9_ok (hB : Laid B) : TbOk B lib9 := lib8_ok hB |>.add (okAll hB) |>.add (okRun hB)
/-! Next -/
def rN (k : Int) (t : List UInt8) (a e : Int) : Option Out := some ⟨[av ⟨k, t, a⟩, i64 e], []⟩
theorem tNext (s : List UInt8) (a : Int) : runT B lib9 Tryd.f26 [.str s, .int .i64 a] [] =
    bif rI s a then (bif decide (kindN (ch s a) = 2) then (bif decide (0 ≤ a ∧ a ≤ (s.length : Int) ∧ s.length ≤ lim) then (bif sL s a (a + (runK 2 (s.drop a.toNat) : Int)) then (bif decide ((cut s a (a + (runK 2 (s.drop a.toNat) : Int))).length ≤ lim) then
        rN 1 (cut s a (a + (runK 2 (s.drop a.toNat) : Int))) a (rdE (cut s a (a + (runK 2 (s.drop a.toNat) : Int)))) else none) else none) else none) else
      bif decide (kindN (ch s a) = 3) then (bif decide (0 ≤ a ∧ a ≤ (s.length : Int) ∧ s.length ≤ lim) then (bif sL s a (a + (runK 3 (s.drop a.toNat) : Int)) then (bif !isWord (cut s a (a + (runK 3 (s.drop a.toNat) : Int))) then
        rN 2 (cut s a (a + (runK 3 (s.drop a.toNat) : Int))) a 32 else rN 2 (cut s a (a + (runK 3 (s.drop a.toNat) : Int))) a 0) else none) else none) else
      bif decide (0 ≤ a ∧ a ≤ (s.length : Int) ∧ (s.length : Int) ≤ 900) then (bif decide (sym0 (s.drop a.toNat) = 0) then rN 0 [] 0 32 else bif sL s a (wr (a + sym0 (s.drop a.toNat))) then rN 3 (cut s a (wr (a + sym0 (s.drop a.toNat)))) a 0 else none) else none) else none := by kernel_rfl
def nxT (r : List UInt8) (a : Int) : Tok := bif decide (kindN (c0 r) = 2) then ⟨1, tkT r, a⟩ else bif decide (kindN (c0 r) = 3) then ⟨2, tkT r, a⟩ else bif decide (sym0 r = 0) then ⟨0, [], 0⟩ else ⟨3, tkT r, a⟩
def sNext : FSpec
  | [.str s, .int .i64 a], [] => .node (decide (0 ≤ a ∧ a < (s.length : Int) ∧ (s.length : Int) ≤ 900)) (.leaf ⟨[av (nxT (s.drop a.toNat) a), i64 (tkF (s.drop a.toNat))], []⟩) .bad
  | _, _ => .bad
theorem sym_take (r : List UInt8) : sym0 (r.take (sym0 r).toNat) = sym0 r := by
  match r with
  | [] => decide
  | [c] =>
    have := sym_one c
    cases h4 : decide (kindN (c.toNat : Int) = 4) <;> cases h3 : decide ((c.toNat : Int) = 33) <;> rw [h4, h3] at this <;> simp at this <;> rw [this] <;> first | exact this | (show sym0 [] = 0; decide)
  | c :: d :: x =>
    rcases sym_rng (c :: d :: x) with h | h | h
    · rw [h]; show sym0 [] = 0; decide
    · have := sym_not2 c (d :: x) (by omega)
      rw [h] at this ⊢
      exact this.symm
    · have h' := h
      rw [sym_two] at h'
      rw [h]; exact h'
theorem tkF_sym {r : List UInt8} (h2 : kindN (c0 r) ≠ 2) (h3 : kindN (c0 r) ≠ 3) : tkF r = bif decide (sym0 r = 0) then 32 else 0 := by
  have e1 : tkK r = 3 := by unfold tkK; rw [decide_eq_false h2, decide_eq_false h3]; rfl
  have e2 : tkT r = r.take (sym0 r).toNat := by unfold tkT tkN; rw [decide_eq_false h2, decide_eq_false h3]; rfl
  have e3 := sym_len r
  unfold tkF
  rw [e1, e2]
  unfold tokE
  rw [sym_take, List.length_take]
  have e4 : sym0 r = ((min (sym0 r).toNat r.length : Nat) : Int) := by
    have : 0 ≤ sym0 r := by rcases sym_rng r with h | h | h <;> omega
    omega
  rw [decide_eq_true e4]
  by_cases h : sym0 r = 0
  · rw [decide_eq_true h, h]; rfl
  · have : 0 < sym0 r := by rcases sym_rng r with h | h | h <;> omega
    rw [decide_eq_false h, decide_eq_true this]; rfl
theorem cut_tk {s : List UInt8} {a : Int} {n : Nat} (h0 : 0 ≤ a) : cut s a (a + (n : Int)) = (s.drop a.toNat).take n := by
  rw [cut_is s h0 (by omega)]
  congr 1; omega
theorem okNext (hB : Laid B) : FnOk (E0 B) 26 sNext := by
  refine fnT (lib9_ok hB) Tryd.func26 (by kernel_rfl) (by kernel_rfl) fun vs bs r h => ?_
  unfold sNext at h
  split at h
  · rename_i s a
    rcases T.node_sel h with ⟨hc, h2⟩ | ⟨_, h2⟩
    · simp only [T.sel, Option.some.injEq] at h2; subst h2
      obtain ⟨h0, h1, hl⟩ := of_decide_eq_true hc
      have hd := drop_len s h0 (show a ≤ (s.length : Int) from by omega)
      have hch : ch s a = c0 (s.drop a.toNat) := by
        have := ch_is s 0 h0
        simpa [c0] using this
      refine (tNext s a).trans ?_
      rw [show rI s a = true from decide_eq_true ⟨h0, h1⟩, hch]
      have hg : (0 ≤ a ∧ a ≤ (s.length : Int) ∧ s.length ≤ lim) := ⟨h0, by omega, by simp only [lim]; omega⟩
      have run2 := runK_le 2 (s.drop a.toNat)
      have run3 := runK_le 3 (s.drop a.toNat)
      have hsl := sym_len (s.drop a.toNat)
      have hs0 : 0 ≤ sym0 (s.drop a.toNat) := by rcases sym_rng (s.drop a.toNat) with h | h | h <;> omega
      rw [decide_eq_true hg, decide_eq_true (show 0 ≤ a ∧ a ≤ (s.length : Int) ∧ (s.length : Int) ≤ 900 from ⟨h0, by omega, hl⟩), cut_tk h0, cut_tk h0, wr_lim (by omega) (by omega),
        show sL s a (a + (runK 2 (s.drop a.toNat) : Int)) = true from decide_eq_true ⟨h0, by omega, by omega⟩, show sL s a (a + (runK 3 (s.drop a.toNat) : Int)) = true from decide_eq_true ⟨h0, by omega, by omega⟩,
        show sL s a (a + sym0 (s.drop a.toNat)) = true from decide_eq_true ⟨h0, by omega, by omega⟩,
        show cut s a (a + sym0 (s.drop a.toNat)) = (s.drop a.toNat).take (sym0 (s.drop a.toNat)).toNat from by rw [cut_is s h0 (by omega)]; congr 1; omega]
      generalize s.drop a.toNat = r at *
      have hlt : ((r.take (runK 2 r)).length ≤ lim) := by rw [List.length_take]; simp only [lim]; omega
      rw [decide_eq_true hlt]
      unfold nxT
      by_cases k2 : kindN (c0 r) = 2
      · have e : tkF r = rdE (r.take (runK 2 r)) := by unfold tkF tokE tkK tkT tkN; rw [k2]; rfl
        have e2 : tkT r = r.take (runK 2 r) := by unfold tkT tkN; rw [k2]; rfl
        rw [e, e2, decide_eq_true k2]; rfl
      · rw [decide_eq_false k2]
        by_cases k3 : kindN (c0 r) = 3
        · have e : tkF r = bif isWord (r.take (runK 3 r)) then 0 else 32 := by unfold tkF tokE tkK tkT tkN; rw [k3]; rfl
          have e2 : tkT r = r.take (runK 3 r) := by unfold tkT tkN; rw [k3]; rfl
          rw [e, e2, decide_eq_true k3]
          cases isWord (r.take (runK 3 r)) <;> rfl
        · have e2 : tkT r = r.take (sym0 r).toNat := by unfold tkT tkN; rw [decide_eq_false k2, decide_eq_false k3]; rfl
          rw [tkF_sym k2 k3, e2, decide_eq_false k3]
          cases decide (sym0 r = 0) <;> rfl
    · simp [T.sel] at h2
  · simp [T.sel] at h
noncomputable def lib10 : Tb := (26, [], sNext) :: lib9
theorem lib10_ok (hB : Laid B) : TbOk B lib10 := lib9_ok hB |>.add (okNext hB)
/-! the reference's All -/
noncomputable def bAr : Code := loopAt 5 (loopsOf (bodyC Tryd.f16))
theorem turnAr (s : List UInt8) (a : Int) (L : List Tok) : (turn (E0 B) (Cx B lib10) noL 46 sgAl bAr [.str s, .slw 0, i64 a] [tkb L]).sel =
    bif decide (a < (s.length : Int)) then (bif decide ((L.length : Int) = 200) then reAl a 4 L else
      bif decide (0 ≤ a ∧ a < (s.length : Int) ∧ (s.length : Int) ≤ 900) then (bif !decide (tkF (s.drop a.toNat) = 0) then reAl a (tkF (s.drop a.toNat)) L else bif decide (L.length + 1 ≤ lim) then
        (bif decide (0 ≤ wr (a + ((nxT (s.drop a.toNat) a).text.length : Int)) ∧ wr (a + ((nxT (s.drop a.toNat) a).text.length : Int)) ≤ (s.length : Int) ∧ s.length ≤ lim) then
          goAl s (wr (a + ((nxT (s.drop a.toNat) a).text.length : Int)) + (runK 1 (s.drop (wr (a + ((nxT (s.drop a.toNat) a).text.length : Int))).toNat) : Int)) (L ++ [nxT (s.drop a.toNat) a]) else none) else none) else none) else exAl L := by kernel_rfl
theorem lx_run : ∀ (r : List UInt8) (a : Int) (k : Nat), lx r a k = lx (r.drop (runK 1 r)) (a + (runK 1 r : Int)) k
  | [], a, k => by simp [runK]
  | c :: r, a, k => by
    rw [runK_cons]
    by_cases h : kd c = 1
    · rw [decide_eq_true h, lx_blank h, lx_run r]
      simp only [cond_true, List.drop_succ_cons]
      congr 1; omega
    · rw [decide_eq_false h]; simp
theorem runK_drop : ∀ r : List UInt8, runK 1 (r.drop (runK 1 r)) = 0
  | [] => rfl
  | c :: r => by
    rw [runK_cons]
    by_cases h : kd c = 1
    · rw [decide_eq_true h]
      simp only [cond_true, List.drop_succ_cons]
      exact runK_drop r
    · rw [decide_eq_false h]
      simp only [cond_false, List.drop_zero]
      rw [runK_cons, decide_eq_false h]; rfl
theorem nxT_is {r : List UInt8} (a : Int) (hf : tkF r = 0) : nxT r a = ⟨tkK r, tkT r, a⟩ := by
  unfold nxT
  by_cases k2 : kindN (c0 r) = 2
  · rw [decide_eq_true k2]; unfold tkK; rw [decide_eq_true k2]; rfl
  · by_cases k3 : kindN (c0 r) = 3
    · rw [decide_eq_false k2, decide_eq_true k3]; unfold tkK; rw [decide_eq_false k2, decide_eq_true k3]; rfl
    · rw [tkF_sym k2 k3] at hf
      rw [decide_eq_false k2, decide_eq_false k3]
      cases hs : decide (sym0 r = 0) with
      | true => rw [hs] at hf; cases hf
      | false => unfold tkK; rw [decide_eq_false k2, decide_eq_false k3]; rfl
theorem runAr (s : List UInt8) (hl : s.length ≤ 900) : ∀ r a k, ∀ L : List Tok, L.length = k → k ≤ 200 → s.drop a.toNat = r → 0 ≤ a → a ≤ (s.length : Int) →
    ∃ m, (turns (E0 B) (Cx B lib10) noL 46 sgAl bAr m [.str s, .slw 0, i64 (a + (runK 1 r : Int))] [tkb L]).sel = outAl L (lx r a k) := by
  refine lx_ind ?_ ?_ ?_ ?_ ?_
  · intro a k L hL hk hd h0 h1
    rw [lx_nil]
    have e : a + (runK 1 [] : Int) = a := by simp [runK]
    rw [e]
    refine ⟨1, turns_done ((turnAr s a L).trans ?_) (by simp)⟩
    rw [decide_eq_false (drop_nil' h0 hd)]
    show exAl L = exAl (L ++ [])
    rw [List.append_nil]
  · intro c r a k h ih L hL hk hd h0 h1
    obtain ⟨d1, d2, d3, d4⟩ := drop_cons' h0 hd
    obtain ⟨m, hm⟩ := ih L hL hk d3 (by omega) (by omega)
    rw [lx_blank h, runK_cons, decide_eq_true h, cond_true, show a + ((runK 1 r + 1 : Nat) : Int) = a + 1 + (runK 1 r : Int) from by omega]
    exact ⟨m, hm⟩
  · intro c r a h L hL hk hd h0 h1
    obtain ⟨d1, d2, d3, d4⟩ := drop_cons' h0 hd
    have e : a + (runK 1 (c :: r) : Int) = a := by rw [runK_cons, decide_eq_false h]; simp
    rw [lx_many h rfl, e]
    refine ⟨1, turns_done ((turnAr s a L).trans ?_) (by simp)⟩
    rw [decide_eq_true d1, decide_eq_true (show (L.length : Int) = 200 from by omega)]
    show reAl a 4 L = reAl a 4 (L ++ [])
    rw [List.append_nil]
  · intro c r a k h hk2 hf L hL hk hd h0 h1
    obtain ⟨d1, d2, d3, d4⟩ := drop_cons' h0 hd
    have e : a + (runK 1 (c :: r) : Int) = a := by rw [runK_cons, decide_eq_false h]; simp
    have hout : outAl L ⟨[], a, tkF (c :: r)⟩ = some (.ret, ⟨[.slw 0, i64 a, i64 (tkF (c :: r)), .slw 1], [tkb [], tkb L]⟩) := by
      unfold outAl
      rw [decide_eq_false hf, List.append_nil]; rfl
    rw [lx_bad h hk2 hf, hout, e]
    refine ⟨1, turns_done ((turnAr s a L).trans ?_) (by simp)⟩
    rw [decide_eq_true d1, decide_eq_false (show ¬ (L.length : Int) = 200 from by omega), decide_eq_true (show 0 ≤ a ∧ a < (s.length : Int) ∧ (s.length : Int) ≤ 900 from ⟨h0, d1, by omega⟩), hd, decide_eq_false hf]; rfl
  · intro c r a k h hk2 hf ih L hL hk hd h0 h1
    obtain ⟨d1, d2, d3, d4⟩ := drop_cons' h0 hd
    have e : a + (runK 1 (c :: r) : Int) = a := by rw [runK_cons, decide_eq_false h]; simp
    have e2 := tkN_le (c :: r)
    have e4 := drop_len s h0 h1
    rw [hd] at e4
    have ht := turnAr (B := B) s a L
    rw [decide_eq_true d1, decide_eq_false (show ¬ (L.length : Int) = 200 from by omega), decide_eq_true (show 0 ≤ a ∧ a < (s.length : Int) ∧ (s.length : Int) ≤ 900 from ⟨h0, d1, by omega⟩), hd, decide_eq_true hf,
      decide_eq_true (show L.length + 1 ≤ lim from by simp only [lim]; omega), nxT_is a hf, tkT_len, wr_lim (n := a + (tkN (c :: r) : Int)) (by omega) (by omega),
      decide_eq_true (show 0 ≤ a + (tkN (c :: r) : Int) ∧ a + (tkN (c :: r) : Int) ≤ (s.length : Int) ∧ s.length ≤ lim from ⟨by omega, by omega, by simp only [lim]; omega⟩)] at ht
    have hdr : s.drop (a + (tkN (c :: r) : Int)).toNat = (c :: r).drop (tkN (c :: r)) := by rw [show (a + (tkN (c :: r) : Int)).toNat = a.toNat + tkN (c :: r) from by omega, ← List.drop_drop, hd]
    obtain ⟨m, hm⟩ := ih (L ++ [⟨tkK (c :: r), tkT (c :: r), a⟩]) (by simp [hL]) (by omega) hdr (by omega) (by omega)
    have hout : outAl (L ++ [⟨tkK (c :: r), tkT (c :: r), a⟩]) (lx ((c :: r).drop (tkN (c :: r))) (a + (tkN (c :: r) : Int)) (k + 1)) = outAl L (lx (c :: r) a k) := by
      rw [lx_tok h hk2 hf]
      unfold outAl LexO.cons
      simp only [List.append_assoc, List.singleton_append]
    rw [hout] at hm
    rw [hdr] at ht
    rw [e]
    exact ⟨m + 1, (turns_more' ht).trans hm⟩
def okAr (s : List UInt8) (a : Int) (L : List Tok) : Bool := decide (0 ≤ a ∧ a ≤ (s.length : Int) ∧ s.length ≤ 900 ∧ L.length ≤ 200 ∧ runK 1 (s.drop a.toNat) = 0)
def spAr : LSpec
  | [.str s, .slw 0, .int .i64 a], [⟨true, .toks L⟩] => .node (okAr s a L) (.node (decide ((lx (s.drop a.toNat) a L.length).e = 0)) (.leaf (.exit 0, ⟨[.any, .any, .any, .slw 0], [tkb (L ++ (lx (s.drop a.toNat) a L.length).l)]⟩))
      (.leaf (.ret, ⟨[.slw 0, i64 (lx (s.drop a.toNat) a L.length).n, i64 (lx (s.drop a.toNat) a L.length).e, .slw 1], [tkb [], tkb (L ++ (lx (s.drop a.toNat) a L.length).l)]⟩))) .bad
  | _, _ => .bad
theorem loopAr (hB : Laid B) : LoopOk (E0 B) 46 sgAl bAr spAr := by
  refine loop_turns (C := Cx B lib10) (L := noL) (cxOk (lib10_ok hB)) (noL_ok _) fun vs bs e o h => ?_
  unfold spAr at h
  split at h
  · rename_i s a L
    rcases T.node_sel h with ⟨hc, h2⟩ | ⟨_, h2⟩
    · obtain ⟨h0, h1, hl, hk, hz⟩ := of_decide_eq_true hc
      obtain ⟨m, hm⟩ := runAr (B := B) s hl _ a L.length L rfl hk rfl h0 h1
      rw [hz, show a + ((0 : Nat) : Int) = a from by omega] at hm
      refine ⟨m, hm.trans ?_⟩
      rw [← h2]
      unfold outAl
      simp only [T.sel]
      cases decide ((lx (s.drop a.toNat) a L.length).e = 0) <;> rfl
    · simp [T.sel] at h2
  · simp [T.sel] at h
noncomputable def eAr : LEnt := { id := 5, n := 46, sg := sgAl, wr := writes bAr, s := spAr }
theorem tAr (s : List UInt8) : runL B lib10 [eAr] Tryd.f16 [.str s] [] =
    bif decide ((400 : Int) < (s.length : Int)) then some ⟨[.slw 0, i64 0, i64 4], [tkb []]⟩ else bif decide (0 ≤ (0 : Int) ∧ (0 : Int) ≤ (s.length : Int) ∧ s.length ≤ lim) then (bif okAr s (0 + (runK 1 s : Int)) [] then (bif decide ((lx (s.drop (0 + (runK 1 s : Int)).toNat) (0 + (runK 1 s : Int)) 0).e = 0) then
      some ⟨[.slw 0, i64 s.length, i64 0], [tkb (lx (s.drop (0 + (runK 1 s : Int)).toNat) (0 + (runK 1 s : Int)) 0).l]⟩ else some ⟨[.slw 0, i64 (lx (s.drop (0 + (runK 1 s : Int)).toNat) (0 + (runK 1 s : Int)) 0).n, i64 (lx (s.drop (0 + (runK 1 s : Int)).toNat) (0 + (runK 1 s : Int)) 0).e], [tkb []]⟩) else none) else none := by kernel_rfl
theorem okAllR (hB : Laid B) : FnOk (E0 B) 16 sAll := by
  refine fnL (lib10_ok hB) (ls := [eAr]) Tryd.func16 (by kernel_rfl) (by kernel_rfl) (fun x hx => ?_) fun vs bs r h => ?_
  · simp only [List.mem_singleton] at hx; subst hx
    exact ⟨bAr, by kernel_rfl, rfl, loopAr hB⟩
  · unfold sAll at h
    split at h
    · rename_i s
      simp only [T.sel, Option.some.injEq] at h; subst h
      refine (tAr s).trans ((Eq.trans ?_ (all_is s)))
      by_cases h4 : (400 : Int) < (s.length : Int)
      · rw [decide_eq_true h4]; rfl
      · have hk := runK_le 1 s
        have hok : okAl s 0 [] = true := decide_eq_true ⟨by omega, by omega, by omega, by simp⟩
        have e : (0 + (runK 1 s : Int)).toNat = runK 1 s := by omega
        have hok2 : okAr s (0 + (runK 1 s : Int)) [] = true := decide_eq_true ⟨by omega, by omega, by omega, by simp, by rw [e]; exact runK_drop s⟩
        rw [decide_eq_false h4, hok, hok2, e, ← lx_run s 0 0, decide_eq_true (show 0 ≤ (0 : Int) ∧ (0 : Int) ≤ (s.length : Int) ∧ s.length ≤ lim from ⟨by omega, by omega, by simp only [lim]; omega⟩)]
        rfl
    · simp [T.sel] at h
noncomputable def lib11 : Tb := (16, [], sAll) :: lib10
theorem lib11_ok (hB : Laid B) : TbOk B lib11 := lib10_ok hB |>.add (okAllR hB)
end Go.Proofs.YtielnommkhfghaaDoor
