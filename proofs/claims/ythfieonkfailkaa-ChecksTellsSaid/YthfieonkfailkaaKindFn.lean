/-
  Kinds: told, Of and the reference's by contract.
-/
import Derived.Test.YthfieonkfailkaaNodRef
import Derived.Test.YthfieonkfailkaaKindPure
namespace Go.Proofs.Ythfieonkfailkaa
open Go.Am
set_option maxRecDepth 100000
variable {B : Nat → Option Obj}
noncomputable def bTd : Code := loopAt 4 (loopsOf (bodyC Try.f76))
def sgTd : LSig := { cs := [(12, 22), (13, 0), (4, 0), (5, 0)], mv := [(14, 0)], mo := [(2, 86), (3, 0)], take := [2] }
def bbl (l : List Bool) : Blk := ⟨true, .bools l⟩
def bxd (k : Nat) : Blk := ⟨true, .gen [86] [[.slw k]]⟩
def fnTk (k : Nat) : AV := .fn 83 [] [.ptr k 0 0]
def goTd (L : List Nod) (n i : Int) (I : List Bool) : Option (AExit × Out) := some (.normal, ⟨[.slw 0, i64 n, .ptr 1 0 0, fnTk 1, i64 i], [⟨false, .nodes L⟩, bxd 2, bbl I]⟩)
def exTd (I : List Bool) : Option (AExit × Out) := some (.exit 0, ⟨[.any, .any], [bxd 1, bbl I]⟩)
def bdTd (i : Int) (I : List Bool) : Option (AExit × Out) := some (.ret, ⟨[.slw 1, i64 i], [bxd 2, bbl [], bbl I]⟩)
def apTd (L : List Nod) (n i : Int) (I : List Bool) (g : Bool) : Option (AExit × Out) := bif decide (I.length + 1 ≤ lim) then goTd L n (w64 (i + 1)) (I ++ [g]) else none
def iAt (I : List Bool) (p : Int) (f : Bool → Option (AExit × Out)) : Option (AExit × Out) := bif decide (0 ≤ p ∧ p < (I.length : Int)) then (bif decide (p.toNat < I.length) then f (I.getD p.toNat false) else none) else none
def tk1 (t : Bool) (a : Int) (I : List Bool) (x y : Option (AExit × Out)) : Option (AExit × Out) := iAt I a fun v => bif !(v == t) then y else x
def tk2 (t : Bool) (a b : Int) (I : List Bool) (x y : Option (AExit × Out)) : Option (AExit × Out) := iAt I a fun v => bif !(v == t) then y else iAt I b fun u => bif !(u == t) then y else x
def kTd (L : List Nod) (n i : Int) (I : List Bool) (x : Nod) : Option (AExit × Out) :=
  bif decide (x.kind ≤ 4) then apTd L n i I false else bif decide (x.kind = 5) then tk1 false x.a I (apTd L n i I false) (bdTd i I) else bif decide (x.kind = 6) then tk1 true x.a I (apTd L n i I true) (bdTd i I)
  else bif decide (x.kind ≤ 11) then tk2 false x.a x.b I (apTd L n i I false) (bdTd i I) else bif decide (x.kind ≤ 15) then tk2 false x.a x.b I (apTd L n i I true) (bdTd i I)
  else bif decide (x.kind ≤ 17) then tk2 false x.a x.b I (apTd L n i I true) (tk2 true x.a x.b I (apTd L n i I true) (bdTd i I)) else tk2 true x.a x.b I (apTd L n i I true) (bdTd i I)
theorem turnTd (L : List Nod) (n i : Int) (I : List Bool) : (turn (E0 B) (Cx B lib5) (inlL (E0 B) (Cx B lib5) 450) 88 sgTd bTd [.slw 0, i64 n, .ptr 1 0 0, fnTk 1, i64 i] [⟨false, .nodes L⟩, bxd 2, bbl I]).sel =
    bif decide (i < n) then (bif decide (0 ≤ i ∧ i < (L.length : Int)) then (bif decide (i.toNat < L.length) then kTd L n i I (L.getD i.toNat default) else none) else none) else exTd I := by kernel_rfl
theorem iAt_is {L : List Nod} {i : Nat} {p : Int} (h0 : 0 ≤ p) (h1 : p < i) (h2 : i ≤ L.length) (f : Bool → Option (AExit × Out)) : iAt (giv L i) p f = f (givesN (kindAt L p)) := by
  unfold iAt
  rw [giv_len h2, decide_eq_true (show 0 ≤ p ∧ p < (i : Int) from ⟨h0, h1⟩), decide_eq_true (show p.toNat < i by omega), giv_at h0 h1 h2]; rfl
theorem kTd_is {L : List Nod} {n : Int} {i : Nat} {x : Nod} (hx : L[i]? = some x) (hi : i ≤ 1000) (ha : NodAt i x) :
    kTd L n i (giv L i) x = bif fitsN L x then goTd L n (i + 1) (giv L (i + 1)) else bdTd i (giv L i) := by
  have hlt := (List.getElem?_eq_some_iff.1 hx).1
  have hap : ∀ g, g = givesN x.kind → apTd L n i (giv L i) g = goTd L n (i + 1) (giv L (i + 1)) := fun g hg => by
    unfold apTd
    rw [giv_len (by omega), decide_eq_true (show i + 1 ≤ lim by simp only [lim]; omega), w64_rng (show Rng ((i : Int) + 1) by unfold Rng; omega), giv_snoc hx, hg]; rfl
  obtain ⟨h1, h2, h3, h4, h5, h6, h7, h8, h9, h10, h11, h12⟩ := ha
  have ea : 4 < x.kind → ∀ f, iAt (giv L i) x.a f = f (givesN (kindAt L x.a)) := fun h f => iAt_is h7 (h11 h) (by omega) f
  have eb : 6 < x.kind → ∀ f, iAt (giv L i) x.b f = f (givesN (kindAt L x.b)) := fun h f => iAt_is h8 (h12 h) (by omega) f
  unfold kTd fitsN tk1 tk2
  by_cases k4 : x.kind ≤ 4
  · rw [decide_eq_true k4]
    exact hap _ (by unfold givesN; rw [decide_eq_false (by omega), decide_eq_false (by omega)]; rfl)
  rw [decide_eq_false k4, cond_false, cond_false]
  by_cases k5 : x.kind = 5
  · rw [decide_eq_true k5, cond_true, cond_true, ea (by omega), hap false (by unfold givesN; rw [decide_eq_false (by omega), decide_eq_false (by omega)]; rfl)]
    cases givesN (kindAt L x.a) <;> rfl
  rw [decide_eq_false k5, cond_false, cond_false]
  by_cases k6 : x.kind = 6
  · rw [decide_eq_true k6, cond_true, cond_true, ea (by omega), hap true (by unfold givesN; rw [decide_eq_true k6]; rfl)]
    cases givesN (kindAt L x.a) <;> rfl
  rw [decide_eq_false k6, cond_false, cond_false]
  simp only [ea (show 4 < x.kind by omega), eb (show 6 < x.kind by omega)]
  by_cases k11 : x.kind ≤ 11
  · rw [decide_eq_true k11, cond_true, hap false (by unfold givesN; rw [decide_eq_false (by omega), decide_eq_false (by omega)]; rfl), decide_eq_false (show ¬ x.kind = 16 by omega), decide_eq_false (show ¬ x.kind = 17 by omega), decide_eq_false (show ¬ 18 ≤ x.kind by omega)]
    cases givesN (kindAt L x.a) <;> cases givesN (kindAt L x.b) <;> rfl
  have hg : givesN x.kind = true := by unfold givesN; rw [decide_eq_true (show 12 ≤ x.kind by omega), Bool.or_true]
  rw [decide_eq_false k11, cond_false, hap true hg.symm]
  by_cases k15 : x.kind ≤ 15
  · rw [decide_eq_true k15, decide_eq_false (show ¬ x.kind = 16 by omega), decide_eq_false (show ¬ x.kind = 17 by omega), decide_eq_false (show ¬ 18 ≤ x.kind by omega)]
    cases givesN (kindAt L x.a) <;> cases givesN (kindAt L x.b) <;> rfl
  rw [decide_eq_false k15]
  by_cases k17 : x.kind ≤ 17
  · rw [decide_eq_true k17, show (decide (x.kind = 16) || decide (x.kind = 17)) = true from by rw [Bool.or_eq_true, decide_eq_true_eq, decide_eq_true_eq]; omega]
    cases givesN (kindAt L x.a) <;> cases givesN (kindAt L x.b) <;> rfl
  · rw [decide_eq_false k17, decide_eq_false (show ¬ x.kind = 16 by omega), decide_eq_false (show ¬ x.kind = 17 by omega), decide_eq_true (show 18 ≤ x.kind by omega)]
    cases givesN (kindAt L x.a) <;> cases givesN (kindAt L x.b) <;> rfl
def endTd (L : List Nod) (w : Int) : Option (AExit × Out) := bif decide (w = (L.length : Int)) then exTd (giv L L.length) else bdTd w (giv L w.toNat)
theorem runTd (L : List Nod) (hc : chkN L = 0) : ∀ (r : List Nod) (i : Nat), L.drop i = r → i ≤ L.length →
    ∃ m, (turns (E0 B) (Cx B lib5) (inlL (E0 B) (Cx B lib5) 450) 88 sgTd bTd m [.slw 0, i64 L.length, .ptr 1 0 0, fnTk 1, i64 i] [⟨false, .nodes L⟩, bxd 2, bbl (giv L i)]).sel = endTd L (wrongGo L r i)
  | [], i, hr, hi => by
    have : L.length ≤ i := List.drop_eq_nil_iff.1 hr
    have e : i = L.length := by omega
    subst e
    refine ⟨1, (turns_done (e := .exit 0) (o := ⟨[.any, .any], [bxd 1, bbl (giv L L.length)]⟩) ((turnTd L L.length L.length (giv L L.length)).trans ?_) (by simp)).trans ?_⟩
    · rw [decide_eq_false (show ¬ ((L.length : Nat) : Int) < (L.length : Int) by omega)]; rfl
    · unfold wrongGo endTd
      rw [decide_eq_true rfl]; rfl
  | x :: r, i, hr, hi => by
    obtain ⟨d1, d2, d3⟩ := nod_at hr
    have hl := (chk_len hc).2
    have hx : L[i]? = some x := by rw [List.getElem?_eq_getElem d1]; simpa [List.getD, d1] using d2
    have ht := turnTd (B := B) L L.length i (giv L i)
    rw [decide_eq_true (show (i : Int) < (L.length : Int) by omega), decide_eq_true (show (0 : Int) ≤ (i : Int) ∧ (i : Int) < (L.length : Int) from ⟨by omega, by omega⟩), decide_eq_true (show ((i : Int)).toNat < L.length by omega),
      show ((i : Int)).toNat = i by omega, d2, kTd_is hx (by omega) (chk_at hc i x hx)] at ht
    simp only [cond_true] at ht
    unfold wrongGo
    cases hf : fitsN L x with
    | true =>
      rw [hf] at ht
      obtain ⟨m, hm⟩ := runTd L hc r (i + 1) d3 (by omega)
      exact ⟨m + 1, (turns_more' ht).trans hm⟩
    | false =>
      rw [hf] at ht
      refine ⟨1, (turns_done ht (by simp)).trans ?_⟩
      unfold endTd
      simp only [cond_false]
      rw [decide_eq_false (show ¬ (i : Int) = (L.length : Int) by omega), show ((i : Int)).toNat = i by omega]; rfl
def okTd (f t u : Nat) (L : List Nod) (n i : Int) (I : List Bool) : Bool := Nat.beq f 83 && (Nat.beq t 86 && (Nat.beq u 0 && decide (chkN L = 0 ∧ n = (L.length : Int) ∧ i = 0 ∧ I = [])))
def spTd : LSpec
  | [.slw 0, .int .i64 n, .ptr 1 0 0, .fn f [] [.ptr 1 0 u], .int .i64 i], [⟨false, .nodes L⟩, ⟨true, .gen [t] [[.slw 2]]⟩, ⟨true, .bools I⟩] => .node (okTd f t u L n i I)
      (.node (decide (wrongN L = (L.length : Int))) (.leaf (.exit 0, ⟨[.any, .any], [bxd 1, bbl (giv L L.length)]⟩)) (.leaf (.ret, ⟨[.slw 1, i64 (wrongN L)], [bxd 2, bbl [], bbl (giv L (wrongN L).toNat)]⟩))) .bad
  | _, _ => .bad
theorem loopTd : LoopOk (E0 B) 88 sgTd bTd spTd := by
  refine loop_turns (C := Cx B lib5) (L := inlL (E0 B) (Cx B lib5) 450) (cxOk lib5_ok) (inl_ok (cxOk lib5_ok) 450 _) fun vs bs e o h => ?_
  unfold spTd at h
  split at h
  · rename_i n f u i L t I
    rcases T.node_sel h with ⟨hc, h2⟩ | ⟨_, h2⟩
    · unfold okTd at hc
      simp only [Bool.and_eq_true] at hc
      obtain ⟨hf, ht, hu, hk⟩ := hc
      obtain ⟨hk', rfl, rfl, rfl⟩ := of_decide_eq_true hk
      have hf := Nat.eq_of_beq_eq_true hf
      have ht := Nat.eq_of_beq_eq_true ht
      have hu := Nat.eq_of_beq_eq_true hu
      subst hf; subst ht; subst hu
      obtain ⟨m, hm⟩ := runTd (B := B) L hk' L 0 rfl (Nat.zero_le _)
      refine ⟨m, hm.trans ?_⟩
      rw [← h2]
      unfold endTd
      show (bif decide (wrongN L = (L.length : Int)) then exTd (giv L L.length) else bdTd (wrongN L) (giv L (wrongN L).toNat)) = _
      simp only [T.sel]
      cases decide (wrongN L = (L.length : Int)) <;> rfl
    · simp [T.sel] at h2
  · simp [T.sel] at h
noncomputable def eTd : LEnt := { id := 4, n := 88, sg := sgTd, wr := writes bTd, s := spTd }
/-! told -/
def tdL (L : List Nod) : List Bool := bif decide (wrongN L = (L.length : Int)) then giv L L.length else []
theorem tTold (L : List Nod) : runM B lib5 [eTd] Try.f76 [.slw 0] [⟨false, .nodes L⟩] =
    bif okTd 83 86 0 L L.length 0 [] then (bif decide (wrongN L = (L.length : Int)) then some ⟨[.slw 0, i64 L.length], [bbl (giv L L.length)]⟩ else some ⟨[.slw 0, i64 (wrongN L)], [bbl []]⟩) else none := by kernel_rfl
def sTold : FSpec
  | [.slw 0], [⟨false, .nodes L⟩] => .node (decide (chkN L = 0)) (.leaf ⟨[.slw 0, .int .i64 (wrongN L)], [bbl (tdL L)]⟩) .bad
  | _, _ => .bad
theorem okTold : FnOk (E0 B) 76 sTold := by
  refine fnM lib5_ok (ls := [eTd]) Try.func76 (by kernel_rfl) (by kernel_rfl) (fun x hx => ?_) fun vs bs r h => ?_
  · simp only [List.mem_singleton] at hx; subst hx
    exact ⟨bTd, by kernel_rfl, rfl, loopTd⟩
  unfold sTold at h
  split at h
  · rename_i L
    rcases T.node_sel h with ⟨hc, h2⟩ | ⟨_, h2⟩
    · simp only [T.sel, Option.some.injEq] at h2; subst h2
      refine (tTold L).trans ?_
      unfold okTd tdL
      rw [decide_eq_true (show chkN L = 0 ∧ (L.length : Int) = (L.length : Int) ∧ (0 : Int) = 0 ∧ ([] : List Bool) = [] from ⟨of_decide_eq_true hc, rfl, rfl, rfl⟩)]
      by_cases hw : wrongN L = (L.length : Int)
      · rw [decide_eq_true hw, hw]; rfl
      · rw [decide_eq_false hw]; rfl
    · simp [T.sel] at h2
  · simp [T.sel] at h
noncomputable def lib6 : Tb := (76, [], sTold) :: lib5
theorem lib6_ok : TbOk B lib6 := lib5_ok.add okTold
/-! Of, want -/
def rOf (b : Bool) (a e : Int) : Option Out := some ⟨[.bool b, i64 a, i64 e], []⟩
theorem tOf (L : List Nod) : runT B lib6 Try.f68 [.slw 0] [⟨false, .nodes L⟩] =
    bif !decide (chkN L = 0) then rOf false 0 (chkN L) else bif decide (chkN L = 0) then (bif decide (wrongN L < (L.length : Int)) then rOf false (wrongN L) 42 else
      bif decide (0 ≤ w64 (wrongN L - 1) ∧ w64 (wrongN L - 1) < ((tdL L).length : Int)) then (bif decide ((w64 (wrongN L - 1)).toNat < (tdL L).length) then rOf ((tdL L).getD (w64 (wrongN L - 1)).toNat false) (w64 (wrongN L - 1)) 0 else none) else none) else none := by kernel_rfl
def sOf : FSpec
  | [.slw 0], [⟨false, .nodes L⟩] => .leaf ⟨[.bool (kOf L).1, .int .i64 (kOf L).2.1, .int .i64 (kOf L).2.2], []⟩
  | _, _ => .bad
theorem of_is (L : List Nod) : runT B lib6 Try.f68 [.slw 0] [⟨false, .nodes L⟩] = rOf (kOf L).1 (kOf L).2.1 (kOf L).2.2 := by
  refine (tOf L).trans ?_
  unfold kOf
  by_cases hc : chkN L = 0
  · rw [decide_eq_true hc]
    simp only [Bool.not_true, cond_false, cond_true]
    by_cases hw : wrongN L < (L.length : Int)
    · rw [decide_eq_true hw]; rfl
    · obtain ⟨l1, l2⟩ := chk_len hc
      have hw2 := wrongN_le L
      have e : wrongN L = (L.length : Int) := by omega
      rw [decide_eq_false hw, e]
      unfold tdL
      rw [decide_eq_true e, cond_true, giv_len (Nat.le_refl _), w64_rng (show Rng ((L.length : Int) - 1) by unfold Rng; omega), decide_eq_true (show 0 ≤ (L.length : Int) - 1 ∧ (L.length : Int) - 1 < (L.length : Int) from ⟨by omega, by omega⟩),
        decide_eq_true (show ((L.length : Int) - 1).toNat < L.length by omega), giv_at (by omega) (by omega) (Nat.le_refl _)]
      rfl
  · rw [decide_eq_false hc]; rfl
theorem okOf : FnOk (E0 B) 68 sOf := by
  refine fnT lib6_ok Try.func68 (by kernel_rfl) (by kernel_rfl) fun vs bs r h => ?_
  unfold sOf at h
  split at h
  · simp only [T.sel, Option.some.injEq] at h; subst h
    exact of_is _
  · simp [T.sel] at h
noncomputable def lib7 : Tb := (68, [], sOf) :: lib6
theorem lib7_ok : TbOk B lib7 := lib6_ok.add okOf
end Go.Proofs.Ythfieonkfailkaa
