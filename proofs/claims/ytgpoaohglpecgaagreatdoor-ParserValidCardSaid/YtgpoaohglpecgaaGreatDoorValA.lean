/-
  Texts put together: ParVal, ParVal2.
-/
import Derived.Test.YtgpoaohglpecgaaGreatDoorAlkA
import Derived.Test.YtgpoaohglpecgaaGreatDoorLitA
import Derived.Test.YtgpoaohglpecgaaGreatDoorChtA
namespace Go.Proofs.YtgpoaohglpecgaaGreatDoor.Vl
open Go.Am Go Go.Proofs.YtgpoaohglpecgaaGreatDoor Go.Proofs.YtgpoaohglpecgaaGreatDoor.Pr
set_option maxRecDepth 100000
variable {B : Nat → Option Obj}
noncomputable def lib1 : Tb := (15, [], sTrueF) :: (19, [], sAlk) :: (18, [], sPar) :: (16, [], Lx.sAll) :: Ck.lib15
theorem lib1_ok (hB : Laid B) : TbOk B lib1 := (((Ck.lib15_ok.add (Lx.okAll hB)).add (okPar hB)).add okAlk).add (okAl9 hB)
noncomputable def bA : Code := loopAt 10 (loopsOf (bodyC Tryz.f4))
def sgA : LSig := { cs := [(4, 0), (6, 23)], mv := [(9, 0), (10, 0)], mo := [(9, 0)], take := [] }
def vA (n : Int) (b : Bool) (i : Int) : List AV := [i64 n, .slw 0, .bool b, i64 i]
theorem turnA (L : List Tok) (n : Int) (b : Bool) (i : Int) : (turn (E0 B) (Cx B lib1) noL 163 sgA bA (vA n b i) [tb L]).sel =
    bif decide (i < (L.length : Int)) then (bif b then some (.normal, ⟨vA n true (w64 (i + 1)), [tb L]⟩) else Ck.inb i L.length (some (.normal, ⟨vA n (decide ((tkA L i).pos = n)) (w64 (i + 1)), [tb L]⟩))) else some (.exit 0, ⟨[.bool b], []⟩) := by
  cases b <;> kernel_rfl
def hasP (n : Int) (L : List Tok) : Bool := L.any fun t => decide (t.pos = n)
theorem runA (L : List Tok) (n : Int) (hL : L.length ≤ 1000) : ∀ (r : List Tok) (i : Nat) (b : Bool), L.drop i = r → i ≤ L.length → ∃ m, (turns (E0 B) (Cx B lib1) noL 163 sgA bA m (vA n b i) [tb L]).sel = some (.exit 0, ⟨[.bool (b || hasP n r)], []⟩)
  | [], i, b, hd, hi => by
    have hl : L.length ≤ i := by have := List.drop_eq_nil_iff.1 hd; exact this
    refine ⟨1, turns_done ((turnA L n b i).trans ?_) (by simp)⟩
    rw [decide_eq_false (by omega), hasP, List.any_nil, Bool.or_false]; rfl
  | t :: r, i, b, hd, hi => by
    have hlt : i < L.length := by
      rcases Nat.lt_or_ge i L.length with h | h
      · exact h
      · rw [List.drop_eq_nil_of_le h] at hd; cases hd
    have hg : tkA L (i : Int) = t := by
      unfold tkA
      have h1 : L[i]? = some t := by
        have := List.getElem?_drop (xs := L) (i := i) (j := 0)
        rw [hd] at this
        simpa using this.symm
      rw [Int.toNat_natCast, List.getD, h1]; rfl
    have hd' : L.drop (i + 1) = r := by rw [← List.drop_drop, hd]; rfl
    have hw : w64 ((i : Int) + 1) = ((i + 1 : Nat) : Int) := by rw [w64_rng (show Rng ((i : Int) + 1) by unfold Rng; omega)]; omega
    have ht := turnA (B := B) L n b i
    rw [decide_eq_true (show (i : Int) < (L.length : Int) by omega), Ck.inb_is hlt, hw, hg] at ht
    obtain ⟨m, hm⟩ := runA L n hL r (i + 1) (b || decide (t.pos = n)) hd' hlt
    refine ⟨m + 1, ?_⟩
    have e : (turn (E0 B) (Cx B lib1) noL 163 sgA bA (vA n b i) [tb L]).sel = some (.normal, ⟨vA n (b || decide (t.pos = n)) ((i + 1 : Nat) : Int), [tb L]⟩) := by
      rw [ht]; cases b <;> rfl
    refine (turns_more' e).trans (hm.trans ?_)
    unfold hasP
    rw [List.any_cons, Bool.or_assoc]
def spA : LSpec
  | [.int .i64 n, .slw 0, .bool b, .int .i64 i], [⟨false, .toks L⟩] => .node (decide (i = 0 ∧ L.length ≤ 1000) && (b || hasP n L)) (.leaf (.exit 0, ⟨[.bool true], []⟩)) .bad
  | _, _ => .bad
theorem loopA (hB : Laid B) : LoopOk (E0 B) 163 sgA bA spA := by
  refine loop_turns (C := Cx B lib1) (L := noL) (cxOk (lib1_ok hB)) (noL_ok _) fun vs bs e o h => ?_
  unfold spA at h
  split at h
  · rename_i n b i L
    rcases T.node_sel h with ⟨hc, h2⟩ | ⟨_, h2⟩
    · simp only [Bool.and_eq_true] at hc
      obtain ⟨rfl, hl⟩ := of_decide_eq_true hc.1
      obtain ⟨m, hm⟩ := runA (B := B) L n hl L 0 b rfl (Nat.zero_le _)
      refine ⟨m, hm.trans ?_⟩
      rw [hc.2, ← h2]; rfl
    · simp [T.sel] at h2
  · simp [T.sel] at h
noncomputable def eA : LEnt := { id := 10, n := 163, sg := sgA, wr := writes bA, s := spA }
noncomputable def bO : Code := loopAt 18 (loopsOf (bodyC Tryz.f4))
noncomputable def bI : Code := loopAt 22 (loopsOf bO)
def sgI : LSig := { cs := [(6, 23), (11, 29), (12, 0)], mv := [(13, 0), (14, 0)], mo := [(13, 0)], take := [] }
def vI (j : Int) (b : Bool) (i : Int) : List AV := [.slw 0, .slw 1, i64 j, .bool b, i64 i]
def ndA (A : List Nod) (j : Int) : Nod := A.getD j.toNat default
theorem turnI (L : List Tok) (A : List Nod) (j : Int) (b : Bool) (i : Int) : (turn (E0 B) (Cx B lib1) noL 163 sgI bI (vI j b i) [tb L, nb false A]).sel =
    bif decide (i < (L.length : Int)) then (bif b then some (.normal, ⟨vI j true (w64 (i + 1)), [tb L, nb false A]⟩) else Ck.inb i L.length (Ck.inb j A.length (some (.normal, ⟨vI j (decide ((tkA L i).pos = (ndA A j).pos)) (w64 (i + 1)), [tb L, nb false A]⟩)))) else some (.exit 4, ⟨[.bool b], []⟩) := by
  cases b <;> kernel_rfl
theorem drop_cons {α : Type} [Inhabited α] {L : List α} {i : Nat} {t : α} {r : List α} (hd : L.drop i = t :: r) : i < L.length ∧ L.getD i default = t ∧ L.drop (i + 1) = r := by
  have hlt : i < L.length := by
    rcases Nat.lt_or_ge i L.length with h | h
    · exact h
    · rw [List.drop_eq_nil_of_le h] at hd; cases hd
  have h1 : L[i]? = some t := by
    have := List.getElem?_drop (xs := L) (i := i) (j := 0)
    rw [hd] at this
    simpa using this.symm
  exact ⟨hlt, by rw [List.getD, h1]; rfl, by rw [← List.drop_drop, hd]; rfl⟩
theorem runI (L : List Tok) (A : List Nod) (j : Nat) (hj : j < A.length) (hL : L.length ≤ 1000) : ∀ (r : List Tok) (i : Nat) (b : Bool), L.drop i = r → i ≤ L.length → ∃ m, (turns (E0 B) (Cx B lib1) noL 163 sgI bI m (vI j b i) [tb L, nb false A]).sel = some (.exit 4, ⟨[.bool (b || hasP (ndA A j).pos r)], []⟩)
  | [], i, b, hd, hi => by
    have hl : L.length ≤ i := by have := List.drop_eq_nil_iff.1 hd; exact this
    refine ⟨1, turns_done ((turnI L A j b i).trans ?_) (by simp)⟩
    rw [decide_eq_false (by omega), hasP, List.any_nil, Bool.or_false]; rfl
  | t :: r, i, b, hd, hi => by
    obtain ⟨hlt, hg, hd'⟩ := drop_cons hd
    have hg : tkA L (i : Int) = t := by unfold tkA; rw [Int.toNat_natCast]; exact hg
    have hw : w64 ((i : Int) + 1) = ((i + 1 : Nat) : Int) := by rw [w64_rng (show Rng ((i : Int) + 1) by unfold Rng; omega)]; omega
    have ht := turnI (B := B) L A j b i
    rw [decide_eq_true (show (i : Int) < (L.length : Int) by omega), Ck.inb_is hlt, Ck.inb_is hj, hw, hg] at ht
    obtain ⟨m, hm⟩ := runI L A j hj hL r (i + 1) (b || decide (t.pos = (ndA A j).pos)) hd' hlt
    refine ⟨m + 1, ?_⟩
    have e : (turn (E0 B) (Cx B lib1) noL 163 sgI bI (vI j b i) [tb L, nb false A]).sel = some (.normal, ⟨vI j (b || decide (t.pos = (ndA A j).pos)) ((i + 1 : Nat) : Int), [tb L, nb false A]⟩) := by
      rw [ht]; cases b <;> rfl
    refine (turns_more' e).trans (hm.trans ?_)
    unfold hasP
    rw [List.any_cons, Bool.or_assoc]
def spI : LSpec
  | [.slw 0, .slw 1, .int .i64 j, .bool false, .int .i64 i], [⟨false, .toks L⟩, ⟨false, .nodes A⟩] => .node (decide (i = 0 ∧ L.length ≤ 1000 ∧ 0 ≤ j ∧ j < (A.length : Int)) && hasP (ndA A j).pos L) (.leaf (.exit 4, ⟨[.bool true], []⟩)) .bad
  | _, _ => .bad
theorem loopI (hB : Laid B) : LoopOk (E0 B) 163 sgI bI spI := by
  refine loop_turns (C := Cx B lib1) (L := noL) (cxOk (lib1_ok hB)) (noL_ok _) fun vs bs e o h => ?_
  unfold spI at h
  split at h
  · rename_i j i L A
    rcases T.node_sel h with ⟨hc, h2⟩ | ⟨_, h2⟩
    · simp only [Bool.and_eq_true] at hc
      obtain ⟨rfl, hl, h0, h1⟩ := of_decide_eq_true hc.1
      obtain ⟨k, rfl⟩ : ∃ k : Nat, j = (k : Int) := ⟨j.toNat, by omega⟩
      obtain ⟨m, hm⟩ := runI (B := B) L A k (by omega) hl L 0 false rfl (Nat.zero_le _)
      refine ⟨m, hm.trans ?_⟩
      rw [hc.2, ← h2]; rfl
    · simp [T.sel] at h2
  · simp [T.sel] at h
noncomputable def eI : LEnt := { id := 22, n := 163, sg := sgI, wr := writes bI, s := spI }
def sgO : LSig := { cs := [(6, 23), (11, 29)], mv := [(12, 0)], mo := [], take := [] }
noncomputable abbrev LO1 (B : Nat → Option Obj) : LoopR := loopL (E0 B) noL [eI]
def vO (j : Int) : List AV := [.slw 0, .slw 1, i64 j]
theorem turnO (L : List Tok) (A : List Nod) (j : Int) : (turn (E0 B) (Cx B lib1) (LO1 B) 163 sgO bO (vO j) [tb L, nb false A]).sel =
    bif decide (j < (A.length : Int)) then (bif decide ((0 : Int) = 0 ∧ L.length ≤ 1000 ∧ 0 ≤ j ∧ j < (A.length : Int)) && hasP (ndA A j).pos L then some (.normal, ⟨vO (w64 (j + 1)), [tb L, nb false A]⟩) else none) else some (.exit 2, ⟨[], []⟩) := by kernel_rfl
def allP (L : List Tok) (A : List Nod) : Bool := A.all fun x => hasP x.pos L
theorem runO (L : List Tok) (A : List Nod) (hL : L.length ≤ 1000) (hA : A.length ≤ 1000) : ∀ (r : List Nod) (j : Nat), A.drop j = r → j ≤ A.length → allP L r = true → ∃ m, (turns (E0 B) (Cx B lib1) (LO1 B) 163 sgO bO m (vO j) [tb L, nb false A]).sel = some (.exit 2, ⟨[], []⟩)
  | [], j, hd, hj, _ => by
    have hl : A.length ≤ j := by have := List.drop_eq_nil_iff.1 hd; exact this
    refine ⟨1, turns_done ((turnO L A j).trans ?_) (by simp)⟩
    rw [decide_eq_false (by omega)]; rfl
  | x :: r, j, hd, hj, hp => by
    obtain ⟨hlt, hg, hd'⟩ := drop_cons hd
    unfold allP at hp
    rw [List.all_cons, Bool.and_eq_true] at hp
    have hg : ndA A (j : Int) = x := by unfold ndA; rw [Int.toNat_natCast]; exact hg
    have hw : w64 ((j : Int) + 1) = ((j + 1 : Nat) : Int) := by rw [w64_rng (show Rng ((j : Int) + 1) by unfold Rng; omega)]; omega
    have ht := turnO (B := B) L A j
    rw [decide_eq_true (show (j : Int) < (A.length : Int) by omega), decide_eq_true (show (0 : Int) = 0 ∧ L.length ≤ 1000 ∧ 0 ≤ (j : Int) ∧ (j : Int) < (A.length : Int) by omega), hg, hp.1, hw] at ht
    obtain ⟨m, hm⟩ := runO L A hL hA r (j + 1) hd' hlt hp.2
    exact ⟨m + 1, (turns_more' ht).trans hm⟩
def spO : LSpec
  | [.slw 0, .slw 1, .int .i64 j], [⟨false, .toks L⟩, ⟨false, .nodes A⟩] => .node (decide (j = 0 ∧ L.length ≤ 1000 ∧ A.length ≤ 1000) && allP L A) (.leaf (.exit 2, ⟨[], []⟩)) .bad
  | _, _ => .bad
theorem loopO (hB : Laid B) : LoopOk (E0 B) 163 sgO bO spO := by
  refine loop_turns (C := Cx B lib1) (L := LO1 B) (cxOk (lib1_ok hB)) (loopL_fits (fun x hx => ?_) noL_ok) fun vs bs e o h => ?_
  · simp only [List.mem_singleton] at hx; subst hx
    exact ⟨bI, by kernel_rfl, rfl, loopI hB⟩
  unfold spO at h
  split at h
  · rename_i j L A
    rcases T.node_sel h with ⟨hc, h2⟩ | ⟨_, h2⟩
    · simp only [Bool.and_eq_true] at hc
      obtain ⟨rfl, hl, ha⟩ := of_decide_eq_true hc.1
      obtain ⟨m, hm⟩ := runO (B := B) L A hl ha A 0 rfl (Nat.zero_le _) hc.2
      refine ⟨m, hm.trans ?_⟩
      rw [← h2]; rfl
    · simp [T.sel] at h2
  · simp [T.sel] at h
noncomputable def eO : LEnt := { id := 18, n := 163, sg := sgO, wr := writes bO, s := spO }
end Go.Proofs.YtgpoaohglpecgaaGreatDoor.Vl
namespace Go.Proofs.YtgpoaohglpecgaaGreatDoor.Vl
open Go.Am Go Go.Proofs.YtgpoaohglpecgaaGreatDoor Go.Proofs.YtgpoaohglpecgaaGreatDoor.Pr
set_option maxRecDepth 100000
variable {B : Nat → Option Obj}
def ct (L : List Tok) : Int := (tkA L (w64 ((L.length : Int) - 1))).pos
def upT (s : List UInt8) : List UInt8 := (s.take (ct (lexL s)).toNat).drop 0
def okAl (s : List UInt8) : Option Out := bif !decide (prE (upT s) = 0) then rb true else rS (shQ (prQ (upT s))) (bif !alkB (prQ (upT s)) (prQ s) then rb true else rb false)
def vlO (s : List UInt8) : Option Out :=
  bif decide ((400 : Int) < (s.length : Int)) then rb true else bif !decide (lexE s = 0) then fbQ (decide (prE s = lexE s)) (fbQ (decide (prN s = lexN s)) (rb true)) else
    bif !decide (prE s = 0) then rS (decide ((0 : Int) = 0 ∧ (lexL s).length ≤ 1000) && (decide (prN s = (s.length : Int)) || hasP (prN s) (lexL s))) (fbQ (decide (((prQ s).src.length : Int) = 0)) (rb true)) else
    bif !decide (prN s = (s.length : Int)) then rb false else bif !decide (clkE (prQ s) = 0) then rb false else bif decide (((lexL s).length : Int) = 0) then rb false else
      rS (decide (([] : List Nod).length + (prQ s).arg.length ≤ lim)) (rS (decide (([] ++ (prQ s).arg).length + (prQ s).whr.length ≤ lim)) (rS (decide ((0 : Int) = 0 ∧ (lexL s).length ≤ 1000 ∧ ([] ++ (prQ s).arg ++ (prQ s).whr).length ≤ 1000) && allP (lexL s) ([] ++ (prQ s).arg ++ (prQ s).whr))
        (Ck.inb (w64 (((lexL s).length : Int) - 1)) (lexL s).length (bif decide (ct (lexL s) < 0) then rb false else bif decide ((s.length : Int) < ct (lexL s)) then rb false else rS (decide ((0 : Int) ≤ 0 ∧ 0 ≤ ct (lexL s) ∧ ct (lexL s) ≤ (s.length : Int))) (okAl s)))))
theorem tValid (s : List UInt8) : runL B lib1 [eA, eO] Tryz.f4 [.str s] [] = vlO s := by kernel_rfl
theorem hasP_mem {n : Int} {L : List Tok} (h : ∃ t ∈ L, t.pos = n) : hasP n L = true := by
  obtain ⟨t, ht, e⟩ := h
  exact List.any_eq_true.2 ⟨t, ht, decide_eq_true e⟩
theorem qv_len {L : List Tok} {q : Qry} (h : QV L q) : q.arg.length ≤ 60 ∧ q.src.length ≤ 4 ∧ q.whr.length ≤ 60 := by
  obtain ⟨c1, c2, c3, c4, c5, c6⟩ := clk_inv h.ok
  obtain ⟨s1, s2, _⟩ := srcE_inv c5
  refine ⟨?_, s1, ?_⟩
  · by_cases h1 : q.agg = 1
    · rw [c2 h1]; simp
    · exact (chk_len (c3 h1)).2
  · by_cases h1 : 0 < q.whr.length
    · exact (chk_len (c4 h1)).2
    · omega
theorem sh_any (s : List UInt8) : shQ (prQ s) = true := by
  rcases Tx.par_cases s with ⟨_, h, _⟩ | ⟨_, _, he, hd, h⟩
  · rw [h]; rfl
  · have hv := qv_len (invQ (lex_tk he).1 hd)
    rw [← h] at hv
    exact decide_eq_true ⟨by omega, by omega, by omega⟩
theorem valid_true (s : List UInt8) : vlO s = rb true := by
  unfold vlO
  by_cases hb : (400 : Int) < (s.length : Int)
  · rw [decide_eq_true hb]; rfl
  rw [decide_eq_false hb, cond_false]
  by_cases he : lexE s = 0
  · rw [decide_eq_true he]
    obtain ⟨hL, hl, hle, hs⟩ := lex_tk he
    have hn := hL.n
    have e1 : prE s = (pQ (lexL s) 0).d := by unfold prE; rw [decide_eq_true he]; rfl
    by_cases hp : prE s = 0
    · rw [decide_eq_true hp]
      rcases Tx.par_cases s with ⟨h1, _⟩ | ⟨_, h2, _, hd, h5⟩
      · exact (h1 hp).elim
      · have hv := invQ hL hd
        rw [← h5] at hv
        obtain ⟨l1, l2, l3⟩ := qv_len hv
        have hne : 0 < (lexL s).length := by
          have hd2 := hd
          unfold pQ at hd2
          obtain ⟨g1, _⟩ := nd_need (show (12 : Int) ≠ 0 by decide) hd2
          have := nxB_lt g1
          omega
        obtain ⟨t, ht⟩ : ∃ t, (lexL s).getLast? = some t := by
          cases hx : (lexL s).getLast? with
          | some t => exact ⟨t, rfl⟩
          | none => rw [List.getLast?_eq_none_iff] at hx; rw [hx] at hne; simp at hne
        have hw : w64 (((lexL s).length : Int) - 1) = (((lexL s).length - 1 : Nat) : Int) := by rw [w64_rng (show Rng (((lexL s).length : Int) - 1) by unfold Rng; omega)]; omega
        have hct : ct (lexL s) = t.pos := by
          unfold ct tkA
          rw [hw, Int.toNat_natCast]
          rw [List.getLast?_eq_getElem?] at ht
          rw [List.getD, ht]; rfl
        have htm : t ∈ lexL s := List.mem_of_getLast? ht
        have hin := Tx.tok_in he htm
        have hal : allP (lexL s) ([] ++ (prQ s).arg ++ (prQ s).whr) = true := List.all_eq_true.2 fun x hx => by
          rw [List.nil_append, List.mem_append] at hx
          rcases hx with hx | hx
          · exact hasP_mem (Tx.prsd_pos hL hv.a hx)
          · exact hasP_mem (Tx.prsd_pos hL hv.w hx)
        have hlen : decide ((0 : Int) = 0 ∧ (lexL s).length ≤ 1000 ∧ ([] ++ (prQ s).arg ++ (prQ s).whr).length ≤ 1000) = true := decide_eq_true ⟨rfl, by omega, by simp only [List.nil_append, List.length_append]; omega⟩
        have hlim : decide (([] ++ (prQ s).arg).length + (prQ s).whr.length ≤ lim) = true := decide_eq_true (by rw [List.nil_append]; simp only [lim]; omega)
        have hok : okAl s = rb true := by
          unfold okAl rS
          by_cases hu : prE (upT s) = 0
          · rw [decide_eq_true hu, sh_any]
            simp only [Bool.not_true, cond_false, cond_true]
            cases ha : alkB (prQ (upT s)) (prQ s) with
            | false => rfl
            | true =>
              obtain ⟨m, hm⟩ := par_same hu hp ha
              have hsp : s = upT s ++ s.drop (ct (lexL s)).toNat := by
                unfold upT
                rw [List.drop_zero, List.take_append_drop]
              have hul : t.pos = 0 + ((upT s).length : Int) := by
                unfold upT
                rw [List.drop_zero, List.length_take, hct]; omega
              obtain ⟨c1, c2⟩ := lx_cut s 0 0 (upT s) _ hsp t (by rw [← hl]; exact ht) hul hle
              have hue : lexE (upT s) = 0 := by
                unfold prE at hu
                by_cases he2 : lexE (upT s) = 0
                · exact he2
                · rw [decide_eq_false he2] at hu; exact hu
              have hll := (lex_tk hue).2.1
              rw [← hll, ← hl] at c2
              exfalso
              omega
          · rw [decide_eq_false hu]; rfl
        rw [decide_eq_true h2, decide_eq_true hv.ok, decide_eq_false (show ¬ ((lexL s).length : Int) = 0 by omega), hal, hlen,
          decide_eq_true (show ([] : List Nod).length + (prQ s).arg.length ≤ lim by simp only [List.length_nil, lim]; omega), hlim,
          hw, Ck.inb_is (by omega), hct, decide_eq_false (show ¬ t.pos < 0 by omega), decide_eq_false (show ¬ (s.length : Int) < t.pos by omega), decide_eq_true (show (0 : Int) ≤ 0 ∧ 0 ≤ t.pos ∧ t.pos ≤ (s.length : Int) by omega), hok]
        rfl
    · rw [decide_eq_false hp]
      have hd : (pQ (lexL s) 0).d ≠ 0 := fun h => hp (e1.trans h)
      have hpn : (decide (prN s = (s.length : Int)) || hasP (prN s) (lexL s)) = true := by
        unfold prN prC
        rw [decide_eq_true he, decide_eq_false hd]
        simp only [cond_true, cond_false]
        obtain ⟨k1, k2⟩ := cQ hL hd
        by_cases hk : (pQ (lexL s) 0).c < ((lexL s).length : Int)
        · rw [decide_eq_true hk, cond_true, hasP_mem ⟨_, tkA_mem k1 hk, rfl⟩, Bool.or_true]
        · rw [decide_eq_false hk, cond_false, decide_eq_true rfl]; rfl
      rcases Tx.par_cases s with ⟨_, h2, _⟩ | ⟨h1, _⟩
      · rw [hpn, h2, decide_eq_true (show (0 : Int) = 0 ∧ (lexL s).length ≤ 1000 from ⟨rfl, by omega⟩)]; rfl
      · exact (hp h1).elim
  · rw [decide_eq_false he]
    have e1 : prE s = lexE s := by unfold prE; rw [decide_eq_false he]; rfl
    have e2 : prN s = lexN s := by unfold prN; rw [decide_eq_false he]; rfl
    rw [e1, e2]
    unfold fbQ
    simp
def sStr (_ : Nat → Option Obj) : FSpec
  | [.str _], [] => .leaf ⟨[.bool true], []⟩
  | _, _ => .bad
theorem okValid (hB : Laid B) : FnOk (E0 B) 4 (sStr B) := by
  refine fnL (lib1_ok hB) (ls := [eA, eO]) Tryz.func4 (by kernel_rfl) (by kernel_rfl) (fun x hx => ?_) fun vs bs r h => ?_
  · rcases List.mem_cons.1 hx with rfl | hx
    · exact ⟨bA, by kernel_rfl, rfl, loopA hB⟩
    · simp only [List.mem_singleton] at hx; subst hx
      exact ⟨bO, by kernel_rfl, rfl, loopO hB⟩
  unfold sStr at h
  split at h
  · rename_i s
    simp only [T.sel, Option.some.injEq] at h; subst h
    exact (tValid s).trans (valid_true s)
  · simp [T.sel] at h
end Go.Proofs.YtgpoaohglpecgaaGreatDoor.Vl
