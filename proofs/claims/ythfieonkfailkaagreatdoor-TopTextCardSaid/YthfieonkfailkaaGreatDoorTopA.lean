/-
  Texts put together: KindFn, ExSub, PartFn, TopLoop, TopKind, TopNum, TopPlain, RefW5, TopLaw, TopTrue.
-/
import Derived.Test.YthfieonkfailkaaGreatDoorNodA
import Derived.Test.YthfieonkfailkaaGreatDoorKindPure
import Derived.Test.YthfieonkfailkaaGreatDoorNodB
import Derived.Test.YthfieonkfailkaaGreatDoorPrsD
import Derived.Test.YthfieonkfailkaaGreatDoorPureA
import Derived.Test.YthfieonkfailkaaGreatDoorRefInt
import Derived.Test.YthfieonkfailkaaGreatDoorPrsLawB
import Derived.Test.YthfieonkfailkaaGreatDoorCntB
/-
  Kinds: told, Of and the reference's by contract.
-/
namespace Go.Proofs.YthfieonkfailkaaGreatDoor.Kd
open Go.Am
set_option maxRecDepth 100000
variable {B : Nat → Option Obj}
noncomputable def bTd : Code := loopAt 4 (loopsOf (bodyC Tryz.f58))
def sgTd : LSig := { cs := [(12, 29), (13, 0), (4, 0), (5, 0)], mv := [(14, 0)], mo := [(2, 103), (3, 0)], take := [2] }
def bbl (l : List Bool) : Blk := ⟨true, .bools l⟩
def bxd (k : Nat) : Blk := ⟨true, .gen [103] [[.slw k]]⟩
def fnTk (k : Nat) : AV := .fn 98 [] [.ptr k 0 0]
def goTd (L : List Nod) (n i : Int) (I : List Bool) : Option (AExit × Out) := some (.normal, ⟨[.slw 0, i64 n, .ptr 1 0 0, fnTk 1, i64 i], [⟨false, .nodes L⟩, bxd 2, bbl I]⟩)
def exTd (I : List Bool) : Option (AExit × Out) := some (.exit 0, ⟨[.any, .any], [bxd 1, bbl I]⟩)
def bdTd (i : Int) (I : List Bool) : Option (AExit × Out) := some (.ret, ⟨[.slw 1, i64 i], [bxd 2, bbl [], bbl I]⟩)
def apTd (L : List Nod) (n i : Int) (I : List Bool) (g : Bool) : Option (AExit × Out) := bif decide (I.length + 1 ≤ lim) then goTd L n (w64 (i + 1)) (I ++ [g]) else none
def iAt (I : List Bool) (p : Int) (f : Bool → Option (AExit × Out)) : Option (AExit × Out) := bif decide (0 ≤ p ∧ p < (I.length : Int)) then (bif decide (p.toNat < I.length) then f (I.getD p.toNat false) else none) else none
def tk1 (t : Bool) (a : Int) (I : List Bool) (x y : Option (AExit × Out)) : Option (AExit × Out) := iAt I a fun v => bif !(v == t) then y else x
def tk2 (t : Bool) (a b : Int) (I : List Bool) (x y : Option (AExit × Out)) : Option (AExit × Out) := iAt I a fun v => bif !(v == t) then y else iAt I b fun u => bif !(u == t) then y else x
def kTd (L : List Nod) (n i : Int) (I : List Bool) (x : Nod) : Option (AExit × Out) :=
  bif decide (x.kind ≤ 4) then apTd L n i I false else bif decide (x.kind = 5) then tk1 false x.a I (apTd L n i I false) (bdTd i I) else bif decide (x.kind = 6) then tk1 true x.a I (apTd L n i I true) (bdTd i I)
  else bif decide (x.kind ≤ 11) then tk2 false x.a x.b I (apTd L n i I false) (bdTd i I) else bif decide (x.kind ≤ 15) then tk2 false x.a x.b I (apTd L n i I true) (bdTd i I)
  else bif decide (x.kind ≤ 17) then tk2 false x.a x.b I (apTd L n i I true) (tk2 true x.a x.b I (apTd L n i I true) (bdTd i I)) else tk2 true x.a x.b I (apTd L n i I true) (bdTd i I)
theorem turnTd (L : List Nod) (n i : Int) (I : List Bool) : (turn (E0 B) (Cx B lib5) (inlL (E0 B) (Cx B lib5) 450) 88 sgTd bTd [.slw 0, i64 n, .ptr 1 0 0, fnTk 1, i64 i] [⟨false, .nodes L⟩, bxd 2, bbl I]).sel =
    bif decide (i < n) then (bif decide (0 ≤ i ∧ i < (L.length : Int)) then (bif decide (i.toNat < L.length) then kTd L n i I (L.getD i.toNat default) else none) else none) else exTd I := by kernel_rfl
theorem iAt_is {L : List Nod} {i : Nat} {p : Int} (h0 : 0 ≤ p) (h1 : p < i) (h2 : i ≤ L.length) (f : Bool → Option (AExit × Out)) : iAt (giv L i) p f = f (givesN (kindAt L p)) := by
  unfold iAt
  rw [giv_len h2, decide_eq_true (show 0 ≤ p ∧ p < (i : Int) from ⟨h0, h1⟩), decide_eq_true (show p.toNat < i by omega), giv_at h0 h1 h2]; rfl
theorem kTd_is {L : List Nod} {n : Int} {i : Nat} {x : Nod} (hx : L[i]? = some x) (hi : i ≤ 1000) (ha : NodAt i x) :
    kTd L n i (giv L i) x = bif fitsN L x then goTd L n (i + 1) (giv L (i + 1)) else bdTd i (giv L i) := by
  have hlt := (List.getElem?_eq_some_iff.1 hx).1
  have hap : ∀ g, g = givesN x.kind → apTd L n i (giv L i) g = goTd L n (i + 1) (giv L (i + 1)) := fun g hg => by
    unfold apTd
    rw [giv_len (by omega), decide_eq_true (show i + 1 ≤ lim by simp only [lim]; omega), w64_rng (show Rng ((i : Int) + 1) by unfold Rng; omega), giv_snoc hx, hg]; rfl
  obtain ⟨h1, h2, h3, h4, h5, h6, h7, h8, h9, h10, h11, h12⟩ := ha
  have ea : 4 < x.kind → ∀ f, iAt (giv L i) x.a f = f (givesN (kindAt L x.a)) := fun h f => iAt_is h7 (h11 h) (by omega) f
  have eb : 6 < x.kind → ∀ f, iAt (giv L i) x.b f = f (givesN (kindAt L x.b)) := fun h f => iAt_is h8 (h12 h) (by omega) f
  unfold kTd fitsN tk1 tk2
  by_cases k4 : x.kind ≤ 4
  · rw [decide_eq_true k4]
    exact hap _ (by unfold givesN; rw [decide_eq_false (by omega), decide_eq_false (by omega)]; rfl)
  rw [decide_eq_false k4, cond_false, cond_false]
  by_cases k5 : x.kind = 5
  · rw [decide_eq_true k5, cond_true, cond_true, ea (by omega), hap false (by unfold givesN; rw [decide_eq_false (by omega), decide_eq_false (by omega)]; rfl)]
    cases givesN (kindAt L x.a) <;> rfl
  rw [decide_eq_false k5, cond_false, cond_false]
  by_cases k6 : x.kind = 6
  · rw [decide_eq_true k6, cond_true, cond_true, ea (by omega), hap true (by unfold givesN; rw [decide_eq_true k6]; rfl)]
    cases givesN (kindAt L x.a) <;> rfl
  rw [decide_eq_false k6, cond_false, cond_false]
  simp only [ea (show 4 < x.kind by omega), eb (show 6 < x.kind by omega)]
  by_cases k11 : x.kind ≤ 11
  · rw [decide_eq_true k11, cond_true, hap false (by unfold givesN; rw [decide_eq_false (by omega), decide_eq_false (by omega)]; rfl), decide_eq_false (show ¬ x.kind = 16 by omega), decide_eq_false (show ¬ x.kind = 17 by omega), decide_eq_false (show ¬ 18 ≤ x.kind by omega)]
    cases givesN (kindAt L x.a) <;> cases givesN (kindAt L x.b) <;> rfl
  have hg : givesN x.kind = true := by unfold givesN; rw [decide_eq_true (show 12 ≤ x.kind by omega), Bool.or_true]
  rw [decide_eq_false k11, cond_false, hap true hg.symm]
  by_cases k15 : x.kind ≤ 15
  · rw [decide_eq_true k15, decide_eq_false (show ¬ x.kind = 16 by omega), decide_eq_false (show ¬ x.kind = 17 by omega), decide_eq_false (show ¬ 18 ≤ x.kind by omega)]
    cases givesN (kindAt L x.a) <;> cases givesN (kindAt L x.b) <;> rfl
  rw [decide_eq_false k15]
  by_cases k17 : x.kind ≤ 17
  · rw [decide_eq_true k17, show (decide (x.kind = 16) || decide (x.kind = 17)) = true from by rw [Bool.or_eq_true, decide_eq_true_eq, decide_eq_true_eq]; omega]
    cases givesN (kindAt L x.a) <;> cases givesN (kindAt L x.b) <;> rfl
  · rw [decide_eq_false k17, decide_eq_false (show ¬ x.kind = 16 by omega), decide_eq_false (show ¬ x.kind = 17 by omega), decide_eq_true (show 18 ≤ x.kind by omega)]
    cases givesN (kindAt L x.a) <;> cases givesN (kindAt L x.b) <;> rfl
def endTd (L : List Nod) (w : Int) : Option (AExit × Out) := bif decide (w = (L.length : Int)) then exTd (giv L L.length) else bdTd w (giv L w.toNat)
theorem runTd (L : List Nod) (hc : chkN L = 0) : ∀ (r : List Nod) (i : Nat), L.drop i = r → i ≤ L.length →
    ∃ m, (turns (E0 B) (Cx B lib5) (inlL (E0 B) (Cx B lib5) 450) 88 sgTd bTd m [.slw 0, i64 L.length, .ptr 1 0 0, fnTk 1, i64 i] [⟨false, .nodes L⟩, bxd 2, bbl (giv L i)]).sel = endTd L (wrongGo L r i)
  | [], i, hr, hi => by
    have : L.length ≤ i := List.drop_eq_nil_iff.1 hr
    have e : i = L.length := by omega
    subst e
    refine ⟨1, (turns_done (e := .exit 0) (o := ⟨[.any, .any], [bxd 1, bbl (giv L L.length)]⟩) ((turnTd L L.length L.length (giv L L.length)).trans ?_) (by simp)).trans ?_⟩
    · rw [decide_eq_false (show ¬ ((L.length : Nat) : Int) < (L.length : Int) by omega)]; rfl
    · unfold wrongGo endTd
      rw [decide_eq_true rfl]; rfl
  | x :: r, i, hr, hi => by
    obtain ⟨d1, d2, d3⟩ := nod_at hr
    have hl := (chk_len hc).2
    have hx : L[i]? = some x := by rw [List.getElem?_eq_getElem d1]; simpa [List.getD, d1] using d2
    have ht := turnTd (B := B) L L.length i (giv L i)
    rw [decide_eq_true (show (i : Int) < (L.length : Int) by omega), decide_eq_true (show (0 : Int) ≤ (i : Int) ∧ (i : Int) < (L.length : Int) from ⟨by omega, by omega⟩), decide_eq_true (show ((i : Int)).toNat < L.length by omega),
      show ((i : Int)).toNat = i by omega, d2, kTd_is hx (by omega) (chk_at hc i x hx)] at ht
    simp only [cond_true] at ht
    unfold wrongGo
    cases hf : fitsN L x with
    | true =>
      rw [hf] at ht
      obtain ⟨m, hm⟩ := runTd L hc r (i + 1) d3 (by omega)
      exact ⟨m + 1, (turns_more' ht).trans hm⟩
    | false =>
      rw [hf] at ht
      refine ⟨1, (turns_done ht (by simp)).trans ?_⟩
      unfold endTd
      simp only [cond_false]
      rw [decide_eq_false (show ¬ (i : Int) = (L.length : Int) by omega), show ((i : Int)).toNat = i by omega]; rfl
def okTd (f t u : Nat) (L : List Nod) (n i : Int) (I : List Bool) : Bool := Nat.beq f 98 && (Nat.beq t 103 && (Nat.beq u 0 && decide (chkN L = 0 ∧ n = (L.length : Int) ∧ i = 0 ∧ I = [])))
def spTd : LSpec
  | [.slw 0, .int .i64 n, .ptr 1 0 0, .fn f [] [.ptr 1 0 u], .int .i64 i], [⟨false, .nodes L⟩, ⟨true, .gen [t] [[.slw 2]]⟩, ⟨true, .bools I⟩] => .node (okTd f t u L n i I)
      (.node (decide (wrongN L = (L.length : Int))) (.leaf (.exit 0, ⟨[.any, .any], [bxd 1, bbl (giv L L.length)]⟩)) (.leaf (.ret, ⟨[.slw 1, i64 (wrongN L)], [bxd 2, bbl [], bbl (giv L (wrongN L).toNat)]⟩))) .bad
  | _, _ => .bad
theorem loopTd : LoopOk (E0 B) 88 sgTd bTd spTd := by
  refine loop_turns (C := Cx B lib5) (L := inlL (E0 B) (Cx B lib5) 450) (cxOk lib5_ok) (inl_ok (cxOk lib5_ok) 450 _) fun vs bs e o h => ?_
  unfold spTd at h
  split at h
  · rename_i n f u i L t I
    rcases T.node_sel h with ⟨hc, h2⟩ | ⟨_, h2⟩
    · unfold okTd at hc
      simp only [Bool.and_eq_true] at hc
      obtain ⟨hf, ht, hu, hk⟩ := hc
      obtain ⟨hk', rfl, rfl, rfl⟩ := of_decide_eq_true hk
      have hf := Nat.eq_of_beq_eq_true hf
      have ht := Nat.eq_of_beq_eq_true ht
      have hu := Nat.eq_of_beq_eq_true hu
      subst hf; subst ht; subst hu
      obtain ⟨m, hm⟩ := runTd (B := B) L hk' L 0 rfl (Nat.zero_le _)
      refine ⟨m, hm.trans ?_⟩
      rw [← h2]
      unfold endTd
      show (bif decide (wrongN L = (L.length : Int)) then exTd (giv L L.length) else bdTd (wrongN L) (giv L (wrongN L).toNat)) = _
      simp only [T.sel]
      cases decide (wrongN L = (L.length : Int)) <;> rfl
    · simp [T.sel] at h2
  · simp [T.sel] at h
noncomputable def eTd : LEnt := { id := 4, n := 88, sg := sgTd, wr := writes bTd, s := spTd }
/-! told -/
def tdL (L : List Nod) : List Bool := bif decide (wrongN L = (L.length : Int)) then giv L L.length else []
theorem tTold (L : List Nod) : runM B lib5 [eTd] Tryz.f58 [.slw 0] [⟨false, .nodes L⟩] =
    bif okTd 98 103 0 L L.length 0 [] then (bif decide (wrongN L = (L.length : Int)) then some ⟨[.slw 0, i64 L.length], [bbl (giv L L.length)]⟩ else some ⟨[.slw 0, i64 (wrongN L)], [bbl []]⟩) else none := by kernel_rfl
def sTold : FSpec
  | [.slw 0], [⟨false, .nodes L⟩] => .node (decide (chkN L = 0)) (.leaf ⟨[.slw 0, .int .i64 (wrongN L)], [bbl (tdL L)]⟩) .bad
  | _, _ => .bad
theorem okTold : FnOk (E0 B) 58 sTold := by
  refine fnM lib5_ok (ls := [eTd]) Tryz.func58 (by kernel_rfl) (by kernel_rfl) (fun x hx => ?_) fun vs bs r h => ?_
  · simp only [List.mem_singleton] at hx; subst hx
    exact ⟨bTd, by kernel_rfl, rfl, loopTd⟩
  unfold sTold at h
  split at h
  · rename_i L
    rcases T.node_sel h with ⟨hc, h2⟩ | ⟨_, h2⟩
    · simp only [T.sel, Option.some.injEq] at h2; subst h2
      refine (tTold L).trans ?_
      unfold okTd tdL
      rw [decide_eq_true (show chkN L = 0 ∧ (L.length : Int) = (L.length : Int) ∧ (0 : Int) = 0 ∧ ([] : List Bool) = [] from ⟨of_decide_eq_true hc, rfl, rfl, rfl⟩)]
      by_cases hw : wrongN L = (L.length : Int)
      · rw [decide_eq_true hw, hw]; rfl
      · rw [decide_eq_false hw]; rfl
    · simp [T.sel] at h2
  · simp [T.sel] at h
noncomputable def lib6 : Tb := (58, [], sTold) :: lib5
theorem lib6_ok : TbOk B lib6 := lib5_ok.add okTold
/-! Of, want -/
def rOf (b : Bool) (a e : Int) : Option Out := some ⟨[.bool b, i64 a, i64 e], []⟩
theorem tOf (L : List Nod) : runT B lib6 Tryz.f31 [.slw 0] [⟨false, .nodes L⟩] =
    bif !decide (chkN L = 0) then rOf false 0 (chkN L) else bif decide (chkN L = 0) then (bif decide (wrongN L < (L.length : Int)) then rOf false (wrongN L) 42 else
      bif decide (0 ≤ w64 (wrongN L - 1) ∧ w64 (wrongN L - 1) < ((tdL L).length : Int)) then (bif decide ((w64 (wrongN L - 1)).toNat < (tdL L).length) then rOf ((tdL L).getD (w64 (wrongN L - 1)).toNat false) (w64 (wrongN L - 1)) 0 else none) else none) else none := by kernel_rfl
def sOf : FSpec
  | [.slw 0], [⟨false, .nodes L⟩] => .leaf ⟨[.bool (kOf L).1, .int .i64 (kOf L).2.1, .int .i64 (kOf L).2.2], []⟩
  | _, _ => .bad
theorem of_is (L : List Nod) : runT B lib6 Tryz.f31 [.slw 0] [⟨false, .nodes L⟩] = rOf (kOf L).1 (kOf L).2.1 (kOf L).2.2 := by
  refine (tOf L).trans ?_
  unfold kOf
  by_cases hc : chkN L = 0
  · rw [decide_eq_true hc]
    simp only [Bool.not_true, cond_false, cond_true]
    by_cases hw : wrongN L < (L.length : Int)
    · rw [decide_eq_true hw]; rfl
    · obtain ⟨l1, l2⟩ := chk_len hc
      have hw2 := wrongN_le L
      have e : wrongN L = (L.length : Int) := by omega
      rw [decide_eq_false hw, e]
      unfold tdL
      rw [decide_eq_true e, cond_true, giv_len (Nat.le_refl _), w64_rng (show Rng ((L.length : Int) - 1) by unfold Rng; omega), decide_eq_true (show 0 ≤ (L.length : Int) - 1 ∧ (L.length : Int) - 1 < (L.length : Int) from ⟨by omega, by omega⟩),
        decide_eq_true (show ((L.length : Int) - 1).toNat < L.length by omega), giv_at (by omega) (by omega) (Nat.le_refl _)]
      rfl
  · rw [decide_eq_false hc]; rfl
theorem okOf : FnOk (E0 B) 31 sOf := by
  refine fnT lib6_ok Tryz.func31 (by kernel_rfl) (by kernel_rfl) fun vs bs r h => ?_
  unfold sOf at h
  split at h
  · simp only [T.sel, Option.some.injEq] at h; subst h
    exact of_is _
  · simp [T.sel] at h
noncomputable def lib7 : Tb := (31, [], sOf) :: lib6
theorem lib7_ok : TbOk B lib7 := lib6_ok.add okOf
end Go.Proofs.YthfieonkfailkaaGreatDoor.Kd
/-
  Expressions: plain words: the part at a place, and that it fits where the whole fits so far.
-/
namespace Go.Am
/-- the tree whose last node stands at place j -/
def Ex.sub : Ex → Nat → Ex
  | .leaf k n p, _ => .leaf k n p
  | .un k p e, j => bif decide (j < e.size) then e.sub j else .un k p e
  | .bin k p a b, j => bif decide (j < a.size) then a.sub j else bif decide (j < a.size + b.size) then b.sub (j - a.size) else .bin k p a b
theorem sub_flat : ∀ (e : Ex) (o : Int) (j : Nat), j < e.size → ∃ pre post, e.flat o = pre ++ ((e.sub j).flat (o + (pre.length : Int)) ++ post) ∧ pre.length + (e.sub j).size = j + 1
  | .leaf k n p, o, j, h => by
    simp only [Ex.size] at h
    exact ⟨[], [], by simp [Ex.sub, Ex.flat], by simp [Ex.sub, Ex.size]; omega⟩
  | .un k p e, o, j, h => by
    simp only [Ex.size] at h
    unfold Ex.sub
    by_cases hj : j < e.size
    · obtain ⟨pre, post, h1, h2⟩ := sub_flat e o j hj
      rw [decide_eq_true hj, cond_true]
      refine ⟨pre, post ++ [⟨k, 0, o + e.size - 1, 0, p⟩], ?_, h2⟩
      show e.flat o ++ _ = _
      rw [h1, List.append_assoc, List.append_assoc]
    · rw [decide_eq_false hj, cond_false]
      exact ⟨[], [], by simp, by simp [Ex.size]; omega⟩
  | .bin k p a b, o, j, h => by
    simp only [Ex.size] at h
    unfold Ex.sub
    by_cases hj : j < a.size
    · obtain ⟨pre, post, h1, h2⟩ := sub_flat a o j hj
      rw [decide_eq_true hj, cond_true]
      refine ⟨pre, post ++ (b.flat (o + a.size) ++ [⟨k, 0, o + a.size - 1, o + a.size + b.size - 1, p⟩]), ?_, h2⟩
      show a.flat o ++ _ = _
      rw [h1, List.append_assoc, List.append_assoc]
    · rw [decide_eq_false hj, cond_false]
      by_cases hb : j < a.size + b.size
      · obtain ⟨pre, post, h1, h2⟩ := sub_flat b (o + a.size) (j - a.size) (by omega)
        rw [decide_eq_true hb, cond_true]
        refine ⟨a.flat o ++ pre, post ++ [⟨k, 0, o + a.size - 1, o + a.size + b.size - 1, p⟩], ?_, by rw [List.length_append, Ex.flat_len]; omega⟩
        show a.flat o ++ (b.flat (o + a.size) ++ _) = _
        rw [h1, List.length_append, Ex.flat_len, Int.natCast_add, ← Int.add_assoc]
        simp only [List.append_assoc]
      · rw [decide_eq_false hb, cond_false]
        exact ⟨[], [], by simp, by simp [Ex.size]; omega⟩
theorem tops_len : ∀ (e : Ex) (o : Int), (e.tops o).length = e.size
  | .leaf .., _ => rfl
  | .un _ _ e, o => by simp [Ex.tops, Ex.size, tops_len e]
  | .bin _ _ a b, o => by simp [Ex.tops, Ex.size, tops_len a, tops_len b]; omega
theorem sub_tops : ∀ (e : Ex) (o : Int) (j : Nat), j < e.size → ((e.tops o).getD j default).size = (e.sub j).size
  | .leaf k n p, o, j, h => by
    simp only [Ex.size] at h
    have : j = 0 := by omega
    subst this; rfl
  | .un k p e, o, j, h => by
    simp only [Ex.size] at h
    unfold Ex.sub Ex.tops
    have hl := tops_len e o
    by_cases hj : j < e.size
    · rw [decide_eq_true hj, cond_true, ← sub_tops e o j hj]
      simp only [List.getD_eq_getElem?_getD]
      rw [List.getElem?_append_left (by omega)]
    · have : j = e.size := by omega
      rw [decide_eq_false hj, cond_false]
      simp only [List.getD_eq_getElem?_getD]
      rw [List.getElem?_append_right (by omega), show j - (e.tops o).length = 0 by omega]; rfl
  | .bin k p a b, o, j, h => by
    simp only [Ex.size] at h
    unfold Ex.sub Ex.tops
    have hl := tops_len a o
    have hl2 := tops_len b (o + a.size)
    by_cases hj : j < a.size
    · rw [decide_eq_true hj, cond_true, ← sub_tops a o j hj]
      simp only [List.getD_eq_getElem?_getD]
      rw [List.getElem?_append_left (by omega)]
    · rw [decide_eq_false hj, cond_false]
      by_cases hb : j < a.size + b.size
      · rw [decide_eq_true hb, cond_true, ← sub_tops b (o + a.size) (j - a.size) (by omega)]
        simp only [List.getD_eq_getElem?_getD]
        rw [List.getElem?_append_right (by omega), List.getElem?_append_left (by omega), hl]
      · have : j = a.size + b.size := by omega
        rw [decide_eq_false hb, cond_false]
        simp only [List.getD_eq_getElem?_getD]
        rw [List.getElem?_append_right (by omega), List.getElem?_append_right (by omega), show j - (a.tops o).length - (b.tops (o + a.size)).length = 0 by omega]; rfl
theorem sub_le : ∀ (e : Ex) (j : Nat), (e.sub j).size ≤ e.size ∧ (e.sub j).depth ≤ e.depth ∧ (e.ok = true → (e.sub j).ok = true)
  | .leaf .., _ => ⟨Nat.le_refl _, Nat.le_refl _, id⟩
  | .un k p e, j => by
    unfold Ex.sub
    cases decide (j < e.size) with
    | true =>
      obtain ⟨h1, h2, h3⟩ := sub_le e j
      simp only [cond_true, Ex.size, Ex.depth]
      refine ⟨by omega, by omega, fun h => h3 ?_⟩
      unfold Ex.ok at h
      rw [Bool.and_eq_true] at h
      exact h.2
    | false => exact ⟨Nat.le_refl _, Nat.le_refl _, id⟩
  | .bin k p a b, j => by
    unfold Ex.sub
    cases decide (j < a.size) with
    | true =>
      obtain ⟨h1, h2, h3⟩ := sub_le a j
      simp only [cond_true, Ex.size, Ex.depth]
      refine ⟨by omega, by omega, fun h => h3 ?_⟩
      unfold Ex.ok at h
      rw [Bool.and_eq_true, Bool.and_eq_true] at h
      exact h.2.1
    | false =>
      cases decide (j < a.size + b.size) with
      | true =>
        obtain ⟨h1, h2, h3⟩ := sub_le b (j - a.size)
        simp only [cond_true, cond_false, Ex.size, Ex.depth]
        refine ⟨by omega, by omega, fun h => h3 ?_⟩
        unfold Ex.ok at h
        rw [Bool.and_eq_true, Bool.and_eq_true] at h
        exact h.2.2
      | false => exact ⟨Nat.le_refl _, Nat.le_refl _, id⟩
/-! what fits -/
theorem wrong_fit : ∀ (L r : List Nod) (i : Int) (j : Nat), i + (j : Int) < wrongGo L r i → ∃ x, r[j]? = some x ∧ fitsN L x = true
  | _, [], i, j, h => by simp only [wrongGo] at h; omega
  | L, x :: r, i, j, h => by
    unfold wrongGo at h
    cases hx : fitsN L x with
    | false => rw [hx, cond_false] at h; omega
    | true =>
      rw [hx, cond_true] at h
      cases j with
      | zero => exact ⟨x, rfl, hx⟩
      | succ j => exact wrong_fit L r (i + 1) j (by omega)
theorem wrong_all : ∀ (L r : List Nod) (i : Int), (∀ x ∈ r, fitsN L x = true) → wrongGo L r i = i + r.length
  | _, [], i, _ => by simp [wrongGo]
  | L, x :: r, i, h => by
    unfold wrongGo
    rw [h x (by simp), cond_true, wrong_all L r (i + 1) (fun y hy => h y (by simp [hy]))]
    simp only [List.length_cons]; omega
end Go.Am
/-
  nodes.Size, nodes.Part by contract (for TopText).
-/
namespace Go.Proofs.YthfieonkfailkaaGreatDoor
open Go.Am Go
set_option maxRecDepth 100000
variable {B : Nat → Option Obj}
def szO (n e : Int) : Option Out := some ⟨[i64 n, i64 e], []⟩
theorem tSize (X : List Nod) (i : Int) : runT B lib7 Tryz.f59 [.slw 0, i64 i] [⟨false, .nodes X⟩] =
    bif !decide (chkN X = 0) then szO 0 (chkN X) else bif decide (i < 0) then szO 0 2 else bif decide (((allC X).length : Int) ≤ i) then szO 0 2 else inb' i (allC X).length (szO ((allC X).getD i.toNat default).size 0) := by kernel_rfl
/-- how many nodes an expression has, and the error -/
def szE (X : List Nod) (i : Int) : Int := bif !decide (chkN X = 0) then chkN X else bif decide (0 ≤ i ∧ i < ((allC X).length : Int)) then 0 else 2
def szN (X : List Nod) (i : Int) : Int := bif decide (szE X i = 0) then ((allC X).getD i.toNat default).size else 0
def sSize : FSpec
  | [.slw 0, .int .i64 i], [⟨false, .nodes X⟩] => .leaf ⟨[.int .i64 (szN X i), .int .i64 (szE X i)], []⟩
  | _, _ => .bad
theorem okSize : FnOk (E0 B) 59 sSize := by
  refine fnT lib7_ok Tryz.func59 (by kernel_rfl) (by kernel_rfl) fun vs bs r h => ?_
  unfold sSize at h
  split at h
  · rename_i i X
    simp only [T.sel, Option.some.injEq] at h; subst h
    refine (tSize X i).trans ?_
    unfold szN szE
    by_cases hc : chkN X = 0
    · rw [decide_eq_true hc, Bool.not_true, cond_false, cond_false]
      by_cases h0 : i < 0
      · rw [decide_eq_true h0, decide_eq_false (show ¬ (0 ≤ i ∧ i < ((allC X).length : Int)) by omega)]; rfl
      · by_cases h1 : ((allC X).length : Int) ≤ i
        · rw [decide_eq_false h0, decide_eq_true h1, decide_eq_false (show ¬ (0 ≤ i ∧ i < ((allC X).length : Int)) by omega)]; rfl
        · rw [decide_eq_false h0, decide_eq_false h1, decide_eq_true (show 0 ≤ i ∧ i < ((allC X).length : Int) by omega), cond_false, cond_false, show ∀ z : Option Out, inb' i (allC X).length z = z from fun z => by obtain ⟨k, rfl⟩ : ∃ k : Nat, i = k := ⟨i.toNat, by omega⟩; exact inb'_is (by omega) z]; rfl
    · rw [decide_eq_false hc, Bool.not_false, cond_true, cond_true, decide_eq_false hc]; rfl
  · simp [T.sel] at h
noncomputable def libSz : Tb := (59, [], sSize) :: lib7
theorem libSz_ok : TbOk B libSz := lib7_ok.add okSize
def ptO (L : List Nod) (e : Int) : Option Out := some ⟨[.slw 0, i64 e], [⟨true, .nodes L⟩]⟩
def frI (X : List Nod) (i : Int) : Int := w64 (w64 (i + 1) - szN X i)
def cutN (X : List Nod) (i : Int) : List Nod := (X.drop (frI X i).toNat).take ((w64 (i + 1)).toNat - (frI X i).toNat)
theorem tPart (X : List Nod) (i : Int) : runT B libSz Tryz.f32 [.slw 0, i64 i] [⟨false, .nodes X⟩] =
    bif !decide (szE X i = 0) then ptO [] (szE X i) else bif decide (0 ≤ frI X i ∧ frI X i ≤ w64 (i + 1) ∧ w64 (i + 1) ≤ (X.length : Int)) then (bif decide (0 < (cutN X i).length ∧ (cutN X i).length ≤ 1000) then ptO ((cutN X i).map (mvN (w64 (0 - frI X i)))) 0 else none) else none := by kernel_rfl
/-! of a tree -/
theorem allC_is {e : Ex} (h : e.ok = true) (hc : chkN (e.flat 0) = 0) : allC (e.flat 0) = e.tops 0 := by
  unfold allC allN
  rw [decide_eq_true hc, topsN_whole h]; rfl
/-- the nodes of the part at a place -/
def partN (X : List Nod) (i : Int) : List Nod := (cutN X i).map (mvN (w64 (0 - frI X i)))
structure IsPart (e : Ex) (j : Nat) (X : List Nod) : Prop where
  sz : szE X j = 0
  fr : 0 ≤ frI X j ∧ frI X j ≤ w64 ((j : Int) + 1) ∧ w64 ((j : Int) + 1) ≤ (X.length : Int)
  ct : 0 < (cutN X j).length ∧ (cutN X j).length ≤ 1000
  is : partN X j = (e.sub j).flat 0
theorem part_tree {e : Ex} (h : e.ok = true) (hc : chkN (e.flat 0) = 0) {j : Nat} (hj : j < e.size) : IsPart e j (e.flat 0) := by
  have hs := chk_ok h hc
  obtain ⟨pre, post, h1, h2⟩ := sub_flat e 0 j hj
  obtain ⟨l1, l2, l3⟩ := sub_le e j
  have hp := (e.sub j).size_pos
  have hl := Ex.flat_len e 0
  have ht := tops_len e 0
  have hsz : szE (e.flat 0) j = 0 := by
    unfold szE
    rw [decide_eq_true hc, allC_is h hc, ht, decide_eq_true (show 0 ≤ (j : Int) ∧ (j : Int) < (e.size : Int) by omega)]; rfl
  have hN : szN (e.flat 0) j = (e.sub j).size := by
    unfold szN
    rw [hsz, allC_is h hc, Int.toNat_natCast, sub_tops e 0 j hj]; rfl
  have hw : w64 ((j : Int) + 1) = (j : Int) + 1 := w64_rng (by unfold Rng; omega)
  have hf : frI (e.flat 0) j = pre.length := by
    unfold frI
    rw [hw, hN, w64_rng (by unfold Rng; omega)]; omega
  have hcut : cutN (e.flat 0) j = (e.sub j).flat (pre.length : Int) := by
    unfold cutN
    rw [hf, hw, Int.toNat_natCast, h1, List.drop_left, Int.zero_add, List.take_left']
    rw [Ex.flat_len]; omega
  refine ⟨hsz, by rw [hf, hw, hl]; omega, by rw [hcut, Ex.flat_len]; omega, ?_⟩
  unfold partN
  rw [hcut, hf, w64_rng (show Rng (0 - (pre.length : Int)) by unfold Rng; omega), flat_shift (e.sub j) pre.length (0 - pre.length) (l3 h) (by omega) (by omega) (by omega) (by omega)]
  congr 1; omega
/-- a part fits, where the whole fits so far -/
theorem part_fits {e : Ex} (h : e.ok = true) (hc : chkN (e.flat 0) = 0) {j : Nat} (hj : j < e.size) (hw : (j : Int) < wrongN (e.flat 0)) : wrongN ((e.sub j).flat 0) = ((e.sub j).flat 0).length := by
  have hs := chk_ok h hc
  obtain ⟨pre, post, h1, h2⟩ := sub_flat e 0 j hj
  obtain ⟨l1, l2, l3⟩ := sub_le e j
  have hsh := flat_shift (e.sub j) 0 pre.length (l3 h) (by omega) (by omega) (by omega) (by omega)
  rw [Int.zero_add] at h1 hsh
  rw [← hsh] at h1
  have hlen := Ex.flat_len (e.sub j) 0
  generalize hZ : (e.sub j).flat 0 = Z at *
  have hat : ∀ m z, Z[m]? = some z → (e.flat 0)[pre.length + m]? = some (mvN pre.length z) := by
    intro m z hm
    have hmlt : m < Z.length := (List.getElem?_eq_some_iff.1 hm).1
    rw [h1, List.getElem?_append_right (by omega), Nat.add_sub_cancel_left, List.getElem?_append_left (by simpa using hmlt), List.getElem?_map, hm]; rfl
  have hkind : ∀ a : Int, 0 ≤ a → a < (Z.length : Int) → kindAt (e.flat 0) (a + pre.length) = kindAt Z a := by
    intro a a0 a1
    obtain ⟨m, rfl⟩ : ∃ m : Nat, a = m := ⟨a.toNat, by omega⟩
    have hm : Z[m]? = some Z[m] := List.getElem?_eq_getElem (by omega)
    have hm2 := hat m _ hm
    unfold kindAt
    rw [show ((m : Int) + (pre.length : Int)).toNat = pre.length + m by omega, Int.toNat_natCast]
    simp only [List.getD_eq_getElem?_getD]
    rw [hm, hm2]; rfl
  unfold wrongN
  rw [wrong_all Z Z 0 ?_]
  · omega
  intro z hz
  obtain ⟨m, hmlt, hm⟩ := List.getElem_of_mem hz
  have hm : Z[m]? = some z := by rw [List.getElem?_eq_getElem hmlt, hm]
  have hnode : NodAt (0 + (m : Int)) z := flat_at (e.sub j) 0 (by omega) (l3 h) m z (by rw [hZ]; exact hm)
  obtain ⟨x, hx, hfit⟩ := wrong_fit (e.flat 0) (e.flat 0) 0 (pre.length + m) (by unfold wrongN at hw; omega)
  rw [hat m z hm] at hx
  cases hx
  have k1 := hnode.k1
  have k2 := hnode.k2
  have hk : (mvN pre.length z).kind = z.kind := rfl
  unfold fitsN at hfit ⊢
  rw [hk] at hfit
  by_cases h4 : z.kind ≤ 4
  · rw [decide_eq_true h4]; rfl
  · have ha : kindAt (e.flat 0) (mvN pre.length z).a = kindAt Z z.a := by
      have hp0 : 0 < prtN z.kind := by
        by_cases h6 : z.kind ≤ 6
        · rw [prt_un (by omega) h6]; omega
        · rw [prt_bin (by omega) k2]; omega
      have : (mvN pre.length z).a = z.a + pre.length := by
        unfold mvN
        simp only
        have := hnode.a0
        have := hnode.ai (by omega)
        rw [decide_eq_true hp0, cond_true, w64_rng (by unfold Rng; omega)]
      rw [this]
      have := hnode.a0
      have := hnode.ai (by omega)
      exact hkind _ (by omega) (by omega)
    rw [ha] at hfit
    by_cases h6 : z.kind ≤ 6
    · by_cases h5 : z.kind = 5
      · rw [decide_eq_false h4, decide_eq_true h5] at hfit ⊢
        exact hfit
      · have h6' : z.kind = 6 := by omega
        rw [decide_eq_false h4, decide_eq_false h5, decide_eq_true h6'] at hfit ⊢
        exact hfit
    · have hb : kindAt (e.flat 0) (mvN pre.length z).b = kindAt Z z.b := by
        have : (mvN pre.length z).b = z.b + pre.length := by
          unfold mvN
          simp only
          have := hnode.b0
          have := hnode.bi (by omega)
          rw [prt_bin (by omega) k2, show decide ((1 : Int) < 2) = true from rfl, cond_true, w64_rng (by unfold Rng; omega)]
        rw [this]
        have := hnode.b0
        have := hnode.bi (by omega)
        exact hkind _ (by omega) (by omega)
      rw [hb] at hfit
      exact hfit
theorem part_of {e : Ex} (h : e.ok = true) (hc : chkN (e.flat 0) = 0) {j : Nat} (hj : j < e.size) (hw : (j : Int) < wrongN (e.flat 0)) : (kOf (partN (e.flat 0) j)).2.2 = 0 := by
  have hs := chk_ok h hc
  obtain ⟨l1, l2, l3⟩ := sub_le e j
  rw [(part_tree h hc hj).is]
  have hck : chkN ((e.sub j).flat 0) = 0 := by
    rw [chkN_flat (l3 h), decide_eq_false (by omega), cond_false, decide_eq_false (by omega)]; rfl
  unfold kOf
  rw [hck, part_fits h hc hj hw, decide_eq_false (show ¬ ((((e.sub j).flat 0).length : Nat) : Int) < ((((e.sub j).flat 0).length : Nat) : Int) by omega)]; rfl
def sPart : FSpec
  | [.slw 0, .int .i64 i], [⟨false, .nodes X⟩] => .node (decide (chkN X = 0 ∧ 0 ≤ i ∧ i < (X.length : Int))) (.leaf ⟨[.slw 0, .int .i64 0], [⟨true, .nodes (partN X i)⟩]⟩) .bad
  | _, _ => .bad
theorem okPart : FnOk (E0 B) 32 sPart := by
  refine fnT libSz_ok Tryz.func32 (by kernel_rfl) (by kernel_rfl) fun vs bs r h => ?_
  unfold sPart at h
  split at h
  · rename_i i X
    rcases T.node_sel h with ⟨hc, h2⟩ | ⟨_, h2⟩
    · simp only [T.sel, Option.some.injEq] at h2; subst h2
      obtain ⟨hck, h0, h1⟩ := of_decide_eq_true hc
      obtain ⟨e, he, rfl, _, _⟩ := chkN_tree hck
      obtain ⟨j, rfl⟩ : ∃ j : Nat, i = j := ⟨i.toNat, by omega⟩
      rw [Ex.flat_len] at h1
      obtain ⟨p1, p2, p3, _⟩ := part_tree he hck (j := j) (by omega)
      refine (tPart _ _).trans ?_
      rw [p1, decide_eq_true p2, decide_eq_true p3]; rfl
    · simp [T.sel] at h2
  · simp [T.sel] at h
end Go.Proofs.YthfieonkfailkaaGreatDoor
/-
  TopText: its loop over parts by contract.
-/
namespace Go.Proofs.YthfieonkfailkaaGreatDoor.Top
open Go.Am Go
set_option maxRecDepth 100000
variable {B : Nat → Option Obj}
noncomputable def libP : Tb := (32, [], sPart) :: (31, [], Kd.sOf) :: lib5
noncomputable def bPt : Code := loopAt 32 (loopsOf (bodyC Tryz.f8))
def sgPt : LSig := { cs := [(10, 29), (18, 0), (19, 0)], mv := [(20, 0)], mo := [(2, 0)], take := [] }
theorem libP_ok : TbOk B libP := (lib5_ok.add Kd.okOf).add okPart
def nxP (X : List Nod) (w g i : Int) : Option (AExit × Out) := some (.normal, ⟨[.slw 0, i64 w, i64 g, i64 (w64 (i + 1))], [⟨false, .nodes X⟩]⟩)
def rtP : Option (AExit × Out) := some (.ret, ⟨[.bool false], []⟩)
def kpP (X : List Nod) (i : Int) : Int := (kOf (partN X i)).2.2
def h2P (X : List Nod) (w g i : Int) : Option (AExit × Out) := bif !decide (g = 0) then (bif decide (i < w) then (bif !decide (kpP X i = 0) then rtP else nxP X w g i) else nxP X w g i) else nxP X w g i
theorem turnPt (X : List Nod) (w g i : Int) : (turn (E0 B) (Cx B libP) noL 259 sgPt bPt [.slw 0, i64 w, i64 g, i64 i] [⟨false, .nodes X⟩]).sel =
    bif decide (i < (X.length : Int)) then (bif decide (chkN X = 0 ∧ 0 ≤ i ∧ i < (X.length : Int)) then (bif decide (g = 0) then (bif !decide (kpP X i = 0) then rtP else h2P X w g i) else h2P X w g i) else none) else some (.exit 8, ⟨[.any], []⟩) := by kernel_rfl
theorem kof_ok {X : List Nod} (hc : chkN X = 0) : ((kOf X).2.2 = 0 → wrongN X = X.length) ∧ ((kOf X).2.2 ≠ 0 → (kOf X).2.1 = wrongN X) := by
  have hl := wrongN_le X
  unfold kOf
  rw [hc]
  by_cases h : wrongN X < (X.length : Int)
  · rw [decide_eq_true h]
    exact ⟨fun h0 => absurd (show (42 : Int) = 0 from h0) (by decide), fun _ => rfl⟩
  · rw [decide_eq_false h]
    exact ⟨fun _ => by omega, fun h0 => (h0 rfl).elim⟩
theorem turnPt' {X : List Nod} (hc : chkN X = 0) (i : Nat) (hi : i < X.length) : (turn (E0 B) (Cx B libP) noL 259 sgPt bPt [.slw 0, i64 (kOf X).2.1, i64 (kOf X).2.2, i64 i] [⟨false, .nodes X⟩]).sel = nxP X (kOf X).2.1 (kOf X).2.2 i := by
  obtain ⟨k1, k2⟩ := kof_ok hc
  have hk : (i : Int) < wrongN X → kpP X i = 0 := fun h => by
    obtain ⟨e, he, rfl, _, _⟩ := chkN_tree hc
    rw [Ex.flat_len] at hi
    exact part_of he hc hi h
  rw [turnPt, decide_eq_true (show (i : Int) < (X.length : Int) by omega), decide_eq_true (show chkN X = 0 ∧ 0 ≤ (i : Int) ∧ (i : Int) < (X.length : Int) from ⟨hc, by omega, by omega⟩), cond_true, cond_true]
  unfold h2P
  by_cases hg : (kOf X).2.2 = 0
  · have h0 := hk (by rw [k1 hg]; omega)
    rw [decide_eq_true hg, decide_eq_true h0]; rfl
  · rw [decide_eq_false hg, cond_false, Bool.not_false, cond_true]
    by_cases hw : (i : Int) < (kOf X).2.1
    · have h0 := hk (by rw [← k2 hg]; exact hw)
      rw [decide_eq_true hw, decide_eq_true h0]; rfl
    · rw [decide_eq_false hw]; rfl
theorem runPt {X : List Nod} (hc : chkN X = 0) : ∀ (k i : Nat), i + k = X.length → ∃ m, (turns (E0 B) (Cx B libP) noL 259 sgPt bPt m [.slw 0, i64 (kOf X).2.1, i64 (kOf X).2.2, i64 i] [⟨false, .nodes X⟩]).sel = some (.exit 8, ⟨[.any], []⟩)
  | 0, i, h => by
    refine ⟨1, turns_done ((turnPt X _ _ i).trans ?_) (by simp)⟩
    rw [decide_eq_false (show ¬ (i : Int) < (X.length : Int) by omega)]; rfl
  | k + 1, i, h => by
    have hl := (chk_len hc).2
    have ht := turnPt' (B := B) hc i (by omega)
    unfold nxP at ht
    have hr1 : w64 ((i : Int) + 1) = ((i + 1 : Nat) : Int) := by rw [w64_rng (show Rng ((i : Int) + 1) by unfold Rng; omega)]; rfl
    rw [hr1] at ht
    obtain ⟨m, hm⟩ := runPt hc k (i + 1) (by omega)
    exact ⟨m + 1, turns_more ht hm⟩
def spPt : LSpec
  | [.slw 0, .int .i64 w, .int .i64 g, .int .i64 i], [⟨false, .nodes X⟩] => .node (decide (i = 0 ∧ chkN X = 0 ∧ w = (kOf X).2.1 ∧ g = (kOf X).2.2)) (.leaf (.exit 8, ⟨[.any], []⟩)) .bad
  | _, _ => .bad
theorem loopPt : LoopOk (E0 B) 259 sgPt bPt spPt := by
  refine loop_turns (C := Cx B libP) (L := noL) (cxOk libP_ok) (noL_ok _) fun vs bs e o h => ?_
  unfold spPt at h
  split at h
  · rename_i w g i X
    rcases T.node_sel h with ⟨hc, h2⟩ | ⟨_, h2⟩
    · obtain ⟨rfl, hck, rfl, rfl⟩ := of_decide_eq_true hc
      simp only [T.sel, Option.some.injEq] at h2
      rw [← h2]
      exact runPt (B := B) hck X.length 0 (by omega)
    · simp [T.sel] at h2
  · simp [T.sel] at h
noncomputable def ePt : LEnt := { id := 32, n := 259, sg := sgPt, wr := writes bPt, s := spPt }
end Go.Proofs.YthfieonkfailkaaGreatDoor.Top
/-
  TopText: its loops over bytes by contract.
-/
namespace Go.Proofs.YthfieonkfailkaaGreatDoor.Top
open Go.Am Go
set_option maxRecDepth 100000
variable {B : Nat → Option Obj}
noncomputable def libK : Tb := (29, [], Lx.sKind) :: lib5
theorem libK_ok : TbOk B libK := lib5_ok.add Lx.okKind
noncomputable def bK : Code := loopAt 9 (loopsOf (bodyC Tryz.f8))
def sgK : LSig := { cs := [(4, 25), (7, 0)], mv := [(8, 0)], mo := [(2, 0)], take := [] }
def tkG (L : List Tok) (i : Int) : Tok := L.getD i.toNat default
/-- the kind of a byte of a token -/
def kdG (t : Tok) (k : Int) : Int := kindN ((t.text.getD k.toNat 0).toNat : Int)
def inT {α : Type} (i : Int) (n : Nat) (z : Option α) : Option α := bif decide (0 ≤ i ∧ i < (n : Int)) then z else none
def nxK (L : List Tok) (i k : Int) : Option (AExit × Out) := some (.normal, ⟨[.slw 0, i64 i, i64 (w64 (k + 1))], [⟨false, .toks L⟩]⟩)
theorem turnK (L : List Tok) (i k : Int) : (turn (E0 B) (Cx B libK) noL 259 sgK bK [.slw 0, i64 i, i64 k] [⟨false, .toks L⟩]).sel =
    inb' i L.length (bif decide (k < ((tkG L i).text.length : Int)) then inb' i L.length (inT k (tkG L i).text.length (bif decide (kdG (tkG L i) k = 0) then rtP else bif decide (kdG (tkG L i) k = 1) then rtP else
      inb' i L.length (bif !(decide (kdG (tkG L i) k = 2) == decide ((tkG L i).kind = 1)) then rtP else inb' i L.length (bif !(decide (kdG (tkG L i) k = 3) == decide ((tkG L i).kind = 2)) then rtP else nxK L i k)))) else some (.exit 2, ⟨[.any], []⟩)) := by kernel_rfl
/-- each byte of a token is of its kind -/
def bytK (t : Tok) : Bool := t.text.all fun c => !decide (kindN (c.toNat : Int) = 0) && (!decide (kindN (c.toNat : Int) = 1) && ((decide (kindN (c.toNat : Int) = 2) == decide (t.kind = 1)) && (decide (kindN (c.toNat : Int) = 3) == decide (t.kind = 2))))
theorem runK {L : List Tok} {i : Nat} (hi : i < L.length) (hb : bytK (tkG L i) = true) (hl : (tkG L i).text.length ≤ 1000) : ∀ (m k : Nat), k + m = (tkG L i).text.length →
    ∃ n, (turns (E0 B) (Cx B libK) noL 259 sgK bK n [.slw 0, i64 i, i64 k] [⟨false, .toks L⟩]).sel = some (.exit 2, ⟨[.any], []⟩)
  | 0, k, h => by
    refine ⟨1, turns_done ((turnK L i k).trans ?_) (by simp)⟩
    rw [inb'_is hi, decide_eq_false (show ¬ (k : Int) < ((tkG L i).text.length : Int) by omega)]; rfl
  | m + 1, k, h => by
    have hk : k < (tkG L i).text.length := by omega
    have hc := List.all_eq_true.1 hb (tkG L i).text[k] (List.getElem_mem hk)
    have hg : kdG (tkG L i) k = kindN (((tkG L i).text[k]).toNat : Int) := by
      unfold kdG
      rw [Int.toNat_natCast, List.getD_eq_getElem?_getD, List.getElem?_eq_getElem hk]; rfl
    simp only [Bool.and_eq_true] at hc
    obtain ⟨c0, c1, c2, c3⟩ := hc
    have ht := turnK (B := B) L i k
    have hin : ∀ z : Option (AExit × Out), inT k (tkG L i).text.length z = z := fun z => by
      unfold inT
      rw [decide_eq_true (show 0 ≤ (k : Int) ∧ (k : Int) < ((tkG L i).text.length : Int) by omega)]; rfl
    rw [Bool.not_eq_true'] at c0 c1
    rw [inb'_is hi, inb'_is hi, inb'_is hi, inb'_is hi, decide_eq_true (show (k : Int) < ((tkG L i).text.length : Int) by omega), cond_true, hin, hg, c0, c1, c2, c3] at ht
    simp only [cond_false, Bool.not_true] at ht
    unfold nxK at ht
    have hr1 : w64 ((k : Int) + 1) = ((k + 1 : Nat) : Int) := by rw [w64_rng (show Rng ((k : Int) + 1) by unfold Rng; omega)]; rfl
    rw [hr1] at ht
    obtain ⟨n, hn⟩ := runK hi hb hl m (k + 1) (by omega)
    exact ⟨n + 1, turns_more ht hn⟩
def spK : LSpec
  | [.slw 0, .int .i64 i, .int .i64 k], [⟨false, .toks L⟩] => .node (decide (k = 0 ∧ 0 ≤ i ∧ i < (L.length : Int) ∧ (tkG L i).text.length ≤ 1000) && bytK (tkG L i)) (.leaf (.exit 2, ⟨[.any], []⟩)) .bad
  | _, _ => .bad
theorem loopK : LoopOk (E0 B) 259 sgK bK spK := by
  refine loop_turns (C := Cx B libK) (L := noL) (cxOk libK_ok) (noL_ok _) fun vs bs e o h => ?_
  unfold spK at h
  split at h
  · rename_i i k L
    rcases T.node_sel h with ⟨hc, h2⟩ | ⟨_, h2⟩
    · rw [Bool.and_eq_true] at hc
      obtain ⟨hc, hb⟩ := hc
      obtain ⟨rfl, i0, i1, hl⟩ := of_decide_eq_true hc
      obtain ⟨j, rfl⟩ : ∃ j : Nat, i = j := ⟨i.toNat, by omega⟩
      simp only [T.sel, Option.some.injEq] at h2
      rw [← h2]
      exact runK (B := B) (by omega) hb hl _ 0 (Nat.zero_add _)
    · simp [T.sel] at h2
  · simp [T.sel] at h
noncomputable def eK : LEnt := { id := 9, n := 259, sg := sgK, wr := writes bK, s := spK }
/-! over all tokens -/
noncomputable def bKo : Code := loopAt 6 (loopsOf (bodyC Tryz.f8))
def sgKo : LSig := { cs := [(4, 25)], mv := [(7, 0)], mo := [(2, 0)], take := [] }
def spKc (L : List Tok) (i : Int) : Bool := decide ((0 : Int) = 0 ∧ 0 ≤ i ∧ i < (L.length : Int) ∧ (tkG L i).text.length ≤ 1000) && bytK (tkG L i)
theorem turnKo (L : List Tok) (i : Int) : (turn (E0 B) (Cx B libK) (loopL (E0 B) noL [eK]) 259 sgKo bKo [.slw 0, i64 i] [⟨false, .toks L⟩]).sel =
    bif decide (i < (L.length : Int)) then (bif spKc L i then some (.normal, ⟨[.slw 0, i64 (w64 (i + 1))], [⟨false, .toks L⟩]⟩) else none) else some (.exit 0, ⟨[.any], []⟩) := by kernel_rfl
theorem innerK : LoopsOk (E0 B) (loopL (E0 B) noL [eK]) bKo :=
  loopL_fits (fun x hx => by
    simp only [List.mem_singleton] at hx; subst hx
    exact ⟨bK, by kernel_rfl, by kernel_rfl, loopK⟩) noL_ok
theorem runKo {L : List Tok} (hs : shortT L = true) (hb : L.all bytK = true) (hL : L.length ≤ 1000) : ∀ (m i : Nat), i + m = L.length → ∃ n, (turns (E0 B) (Cx B libK) (loopL (E0 B) noL [eK]) 259 sgKo bKo n [.slw 0, i64 i] [⟨false, .toks L⟩]).sel = some (.exit 0, ⟨[.any], []⟩)
  | 0, i, h => by
    refine ⟨1, turns_done ((turnKo L i).trans ?_) (by simp)⟩
    rw [decide_eq_false (show ¬ (i : Int) < (L.length : Int) by omega)]; rfl
  | m + 1, i, h => by
    have hi : i < L.length := by omega
    have hg : tkG L i = L[i] := by
      unfold tkG
      rw [Int.toNat_natCast, List.getD_eq_getElem?_getD, List.getElem?_eq_getElem hi]; rfl
    have hm := List.getElem_mem hi
    have hsp : spKc L i = true := by
      have h1 := short_mem hs hm
      have h2 := List.all_eq_true.1 hb _ hm
      unfold spKc
      rw [hg, h2, decide_eq_true (show (0 : Int) = 0 ∧ 0 ≤ (i : Int) ∧ (i : Int) < (L.length : Int) ∧ (L[i]).text.length ≤ 1000 from ⟨rfl, by omega, by omega, by omega⟩)]; rfl
    have ht := turnKo (B := B) L i
    have hr1 : w64 ((i : Int) + 1) = ((i + 1 : Nat) : Int) := by rw [w64_rng (show Rng ((i : Int) + 1) by unfold Rng; omega)]; rfl
    rw [decide_eq_true (show (i : Int) < (L.length : Int) by omega), hsp, cond_true, cond_true, hr1] at ht
    obtain ⟨n, hn⟩ := runKo hs hb hL m (i + 1) (by omega)
    exact ⟨n + 1, turns_more ht hn⟩
def spKo : LSpec
  | [.slw 0, .int .i64 i], [⟨false, .toks L⟩] => .node (decide (i = 0 ∧ L.length ≤ 1000) && (shortT L && L.all bytK)) (.leaf (.exit 0, ⟨[.any], []⟩)) .bad
  | _, _ => .bad
theorem loopKo : LoopOk (E0 B) 259 sgKo bKo spKo := by
  refine loop_turns (C := Cx B libK) (L := loopL (E0 B) noL [eK]) (cxOk libK_ok) innerK fun vs bs e o h => ?_
  unfold spKo at h
  split at h
  · rename_i i L
    rcases T.node_sel h with ⟨hc, h2⟩ | ⟨_, h2⟩
    · simp only [Bool.and_eq_true] at hc
      obtain ⟨hc, hs, hb⟩ := hc
      obtain ⟨rfl, hL⟩ := of_decide_eq_true hc
      simp only [T.sel, Option.some.injEq] at h2
      rw [← h2]
      exact runKo (B := B) hs hb hL _ 0 (Nat.zero_add _)
    · simp [T.sel] at h2
  · simp [T.sel] at h
noncomputable def eKo : LEnt := { id := 6, n := 259, sg := sgKo, wr := writes bKo, s := spKo }
end Go.Proofs.YthfieonkfailkaaGreatDoor.Top
/-
  TopText: its loops over numbers by contract.
-/
namespace Go.Proofs.YthfieonkfailkaaGreatDoor.Top
open Go.Am Go
set_option maxRecDepth 100000
variable {B : Nat → Option Obj}
noncomputable def libN : Tb := (30, [], Lx.sRead) :: lib5
noncomputable def bNi : Code := loopAt 22 (loopsOf (bodyC Tryz.f8))
def sgNi : LSig := { cs := [(10, 29)], mv := [(13, 0)], mo := [(13, 0)], take := [] }
def ndG (X : List Nod) (i : Int) : Nod := X.getD i.toNat default
theorem turnNi (X : List Nod) (a : Int) : (turn (E0 B) (Cx B lib5) noL 259 sgNi bNi [.slw 0, i64 a] [⟨false, .nodes X⟩]).sel =
    bif decide (a < (X.length : Int)) then inb' a X.length (bif !decide ((ndG X a).kind = 1) then some (.normal, ⟨[.slw 0, i64 (w64 (a + 1))], [⟨false, .nodes X⟩]⟩) else some (.exit 6, ⟨[i64 a], []⟩)) else some (.exit 6, ⟨[i64 a], []⟩) := by kernel_rfl
/-- how many nodes stand ahead of the next number -/
def fstN : List Nod → Nat
  | [] => 0
  | x :: r => bif decide (x.kind = 1) then 0 else fstN r + 1
theorem runNi {X : List Nod} (hX : X.length ≤ 1000) : ∀ (r : List Nod) (a : Nat), X.drop a = r → a ≤ X.length → ∃ m, (turns (E0 B) (Cx B lib5) noL 259 sgNi bNi m [.slw 0, i64 a] [⟨false, .nodes X⟩]).sel = some (.exit 6, ⟨[i64 (a + fstN r : Nat)], []⟩)
  | [], a, hd, _ => by
    refine ⟨1, turns_done ((turnNi X a).trans ?_) (by simp)⟩
    have hle : X.length ≤ a := List.drop_eq_nil_iff.1 hd
    rw [decide_eq_false (show ¬ (a : Int) < (X.length : Int) by omega)]; rfl
  | x :: r, a, hd, ha => by
    have hlt : a < X.length := by
      have := congrArg List.length hd
      simp only [List.length_drop, List.length_cons] at this
      omega
    have hg : ndG X a = x := by
      unfold ndG
      rw [Int.toNat_natCast, List.getD_eq_getElem?_getD]
      have h0 : (X.drop a)[0]? = X[a]? := by rw [List.getElem?_drop, Nat.add_zero]
      rw [← h0, hd]; rfl
    have ht := turnNi (B := B) X a
    have hr1 : w64 ((a : Int) + 1) = ((a + 1 : Nat) : Int) := by rw [w64_rng (show Rng ((a : Int) + 1) by unfold Rng; omega)]; rfl
    rw [decide_eq_true (show (a : Int) < (X.length : Int) by omega), cond_true, inb'_is hlt, hg, hr1] at ht
    unfold fstN
    cases hk : decide (x.kind = 1) with
    | true =>
      rw [hk] at ht
      exact ⟨1, turns_done ht (by simp)⟩
    | false =>
      rw [hk] at ht
      obtain ⟨m, hm⟩ := runNi hX r (a + 1) (by rw [← List.drop_drop, hd]; rfl) (by omega)
      refine ⟨m + 1, (turns_more ht hm).trans ?_⟩
      rw [cond_false, show a + 1 + fstN r = a + (fstN r + 1) by omega]
def spNi : LSpec
  | [.slw 0, .int .i64 a], [⟨false, .nodes X⟩] => .node (decide (0 ≤ a ∧ a ≤ (X.length : Int) ∧ X.length ≤ 1000)) (.leaf (.exit 6, ⟨[i64 (a + fstN (X.drop a.toNat))], []⟩)) .bad
  | _, _ => .bad
theorem loopNi : LoopOk (E0 B) 259 sgNi bNi spNi := by
  refine loop_turns (C := Cx B lib5) (L := noL) (cxOk lib5_ok) (noL_ok _) fun vs bs e o h => ?_
  unfold spNi at h
  split at h
  · rename_i a X
    rcases T.node_sel h with ⟨hc, h2⟩ | ⟨_, h2⟩
    · obtain ⟨a0, a1, hX⟩ := of_decide_eq_true hc
      obtain ⟨j, rfl⟩ : ∃ j : Nat, a = j := ⟨a.toNat, by omega⟩
      simp only [T.sel, Option.some.injEq] at h2
      rw [← h2]
      exact runNi (B := B) hX _ j rfl (by omega)
    · simp [T.sel] at h2
  · simp [T.sel] at h
noncomputable def eNi : LEnt := { id := 22, n := 259, sg := sgNi, wr := writes bNi, s := spNi }
noncomputable def bNo : Code := loopAt 19 (loopsOf (bodyC Tryz.f8))
def sgNo : LSig := { cs := [(4, 25), (10, 29)], mv := [(13, 0), (14, 0)], mo := [(2, 0)], take := [] }
theorem innerN : LoopsOk (E0 B) (loopL (E0 B) noL [eNi]) bNo :=
  loopL_fits (fun x hx => by
    simp only [List.mem_singleton] at hx; subst hx
    exact ⟨bNi, by kernel_rfl, by kernel_rfl, loopNi⟩) noL_ok
theorem libN_ok (hB : Laid B) : TbOk B libN := lib5_ok.add (Lx.okRead hB)
def nxNo (L : List Tok) (X : List Nod) (a i : Int) : Option (AExit × Out) := some (.normal, ⟨[.slw 0, .slw 1, i64 a, i64 (w64 (i + 1))], [⟨false, .toks L⟩, ⟨false, .nodes X⟩]⟩)
def fsI (X : List Nod) (a : Int) : Int := a + fstN (X.drop a.toNat)
theorem turnNo (L : List Tok) (X : List Nod) (a i : Int) : (turn (E0 B) (Cx B libN) (loopL (E0 B) noL [eNi]) 259 sgNo bNo [.slw 0, .slw 1, i64 a, i64 i] [⟨false, .toks L⟩, ⟨false, .nodes X⟩]).sel =
    bif decide (i < (L.length : Int)) then inb' i L.length (bif !decide ((tkG L i).kind = 1) then nxNo L X a i else bif decide (0 ≤ a ∧ a ≤ (X.length : Int) ∧ X.length ≤ 1000) then inb' i L.length (bif decide ((tkG L i).text.length ≤ lim) then
      (bif decide ((X.length : Int) ≤ fsI X a) then rtP else bif !decide (rdE (tkG L i).text = 0) then rtP else inb' (fsI X a) X.length (bif !decide ((ndG X (fsI X a)).n = rdN (tkG L i).text) then rtP else inb' (fsI X a) X.length (inb' i L.length (bif !decide ((ndG X (fsI X a)).pos = (tkG L i).pos) then rtP else nxNo L X (w64 (fsI X a + 1)) i)))) else none) else none)
    else some (.exit 4, ⟨[.any], []⟩) := by kernel_rfl
def numT : List Tok → List (Int × Int)
  | [] => []
  | t :: r => bif decide (t.kind = 1) then (rdN t.text, t.pos) :: numT r else numT r
def numX : List Nod → List (Int × Int)
  | [] => []
  | x :: r => bif decide (x.kind = 1) then (x.n, x.pos) :: numX r else numX r
theorem fst_split : ∀ {l : List Nod} {p : Int × Int} {q : List (Int × Int)}, numX l = p :: q → ∃ x post, l.drop (fstN l) = x :: post ∧ (x.n, x.pos) = p ∧ numX post = q
  | [], _, _, h => by cases h
  | x :: r, p, q, h => by
    unfold numX at h
    unfold fstN
    cases hk : decide (x.kind = 1) with
    | true =>
      rw [hk, cond_true] at h
      injection h with h1 h2
      exact ⟨x, r, rfl, h1, h2⟩
    | false =>
      rw [hk, cond_false] at h
      obtain ⟨y, post, h1, h2, h3⟩ := fst_split h
      exact ⟨y, post, h1, h2, h3⟩
theorem runNo {L : List Tok} {X : List Nod} (hs : shortT L = true) (hv : L.all (fun t => !decide (t.kind = 1) || decide (rdE t.text = 0)) = true) (hX : X.length ≤ 1000) (hL : L.length ≤ 1000) : ∀ (r : List Tok) (i a : Nat), L.drop i = r → i ≤ L.length → a ≤ X.length → numT r = numX (X.drop a) →
    ∃ m, (turns (E0 B) (Cx B libN) (loopL (E0 B) noL [eNi]) 259 sgNo bNo m [.slw 0, .slw 1, i64 a, i64 i] [⟨false, .toks L⟩, ⟨false, .nodes X⟩]).sel = some (.exit 4, ⟨[.any], []⟩)
  | [], i, a, hd, hi, _, _ => by
    refine ⟨1, turns_done ((turnNo L X a i).trans ?_) (by simp)⟩
    have hle : L.length ≤ i := List.drop_eq_nil_iff.1 hd
    rw [decide_eq_false (show ¬ (i : Int) < (L.length : Int) by omega)]; rfl
  | t :: r, i, a, hd, hi, ha, hn => by
    have hlt : i < L.length := by
      have := congrArg List.length hd
      simp only [List.length_drop, List.length_cons] at this
      omega
    have hg : tkG L i = t := by
      unfold tkG
      rw [Int.toNat_natCast, List.getD_eq_getElem?_getD]
      have h0 : (L.drop i)[0]? = L[i]? := by rw [List.getElem?_drop, Nat.add_zero]
      rw [← h0, hd]; rfl
    have hm : t ∈ L := List.mem_of_mem_drop (i := i) (by rw [hd]; simp)
    have hd' : L.drop (i + 1) = r := by rw [← List.drop_drop, hd]; rfl
    have ht := turnNo (B := B) L X a i
    unfold nxNo at ht
    have hr1 : w64 ((i : Int) + 1) = ((i + 1 : Nat) : Int) := by rw [w64_rng (show Rng ((i : Int) + 1) by unfold Rng; omega)]; rfl
    rw [decide_eq_true (show (i : Int) < (L.length : Int) by omega), cond_true, inb'_is hlt, hg, hr1] at ht
    unfold numT at hn
    cases hk : decide (t.kind = 1) with
    | false =>
      rw [hk] at ht hn
      obtain ⟨m, hm⟩ := runNo hs hv hX hL r (i + 1) a hd' (by omega) ha hn
      exact ⟨m + 1, turns_more ht hm⟩
    | true =>
      rw [hk, cond_true] at hn
      obtain ⟨x, post, h1, h2, h3⟩ := fst_split hn.symm
      have hE : rdE t.text = 0 := by
        have := List.all_eq_true.1 hv t hm
        rw [hk, Bool.not_true, Bool.false_or] at this
        exact of_decide_eq_true this
      have hsh := short_mem hs hm
      obtain ⟨f, hf⟩ : ∃ f : Nat, f = a + fstN (X.drop a) := ⟨_, rfl⟩
      have hfs : fsI X a = (f : Int) := by unfold fsI; rw [Int.toNat_natCast]; omega
      rw [List.drop_drop, ← hf] at h1
      have hflt : f < X.length := by
        have := congrArg List.length h1
        simp only [List.length_drop, List.length_cons] at this
        omega
      have hgx : ndG X f = x := by
        unfold ndG
        rw [Int.toNat_natCast, List.getD_eq_getElem?_getD]
        have h0 : (X.drop f)[0]? = X[f]? := by rw [List.getElem?_drop, Nat.add_zero]
        rw [← h0, h1]; rfl
      injection h2 with h4 h5
      have hr2 : w64 ((f : Int) + 1) = ((f + 1 : Nat) : Int) := by rw [w64_rng (show Rng ((f : Int) + 1) by unfold Rng; omega)]; rfl
      rw [hk, Bool.not_true, cond_false, decide_eq_true (show 0 ≤ (a : Int) ∧ (a : Int) ≤ (X.length : Int) ∧ X.length ≤ 1000 by omega), cond_true, inb'_is hlt, decide_eq_true (show t.text.length ≤ lim by simp only [lim]; omega), cond_true, hfs, decide_eq_false (show ¬ (X.length : Int) ≤ (f : Int) by omega), decide_eq_true hE,
        inb'_is hflt, inb'_is hflt, inb'_is hlt, hgx, h4, h5, decide_eq_true (rfl : rdN t.text = rdN t.text), decide_eq_true (rfl : t.pos = t.pos), hr2] at ht
      obtain ⟨m, hm⟩ := runNo hs hv hX hL r (i + 1) (f + 1) hd' (by omega) (by omega) (by rw [← h3]; congr 1; rw [← List.drop_drop, h1]; rfl)
      exact ⟨m + 1, turns_more ht hm⟩
def rdV (L : List Tok) : Bool := L.all fun t => !decide (t.kind = 1) || decide (rdE t.text = 0)
def spNo : LSpec
  | [.slw 0, .slw 1, .int .i64 a, .int .i64 i], [⟨false, .toks L⟩, ⟨false, .nodes X⟩] => .node (decide (a = 0 ∧ i = 0 ∧ X.length ≤ 1000 ∧ L.length ≤ 1000 ∧ numT L = numX X) && (shortT L && rdV L)) (.leaf (.exit 4, ⟨[.any], []⟩)) .bad
  | _, _ => .bad
theorem loopNo (hB : Laid B) : LoopOk (E0 B) 259 sgNo bNo spNo := by
  refine loop_turns (C := Cx B libN) (L := loopL (E0 B) noL [eNi]) (cxOk (libN_ok hB)) innerN fun vs bs e o h => ?_
  unfold spNo at h
  split at h
  · rename_i a i L X
    rcases T.node_sel h with ⟨hc, h2⟩ | ⟨_, h2⟩
    · simp only [Bool.and_eq_true] at hc
      obtain ⟨hc, hs, hv⟩ := hc
      obtain ⟨rfl, rfl, hX, hL, hn⟩ := of_decide_eq_true hc
      simp only [T.sel, Option.some.injEq] at h2
      rw [← h2]
      exact runNo (B := B) hs hv hX hL L 0 0 rfl (by omega) (by omega) hn
    · simp [T.sel] at h2
  · simp [T.sel] at h
noncomputable def eNo : LEnt := { id := 19, n := 259, sg := sgNo, wr := writes bNo, s := spNo }
end Go.Proofs.YthfieonkfailkaaGreatDoor.Top
/-
  TopText: plain: each byte of a token is of its kind.
-/
namespace Go.Proofs.YthfieonkfailkaaGreatDoor.Top
open Go.Am Go
set_option maxRecDepth 100000
def bytP (k c : Int) : Bool := !decide (c = 0) && (!decide (c = 1) && ((decide (c = 2) == decide (k = 1)) && (decide (c = 3) == decide (k = 2))))
theorem bytK_of {t : Tok} (h : ∀ c ∈ t.text, bytP t.kind (kindN (c.toNat : Int)) = true) : bytK t = true := List.all_eq_true.2 fun c hc => h c hc
theorem dig_fin : ∀ n : Fin 256, isDig (UInt8.ofNat n.val) = true → kindN ((UInt8.ofNat n.val).toNat : Int) = 2 := by decide +kernel
theorem dig_kind {c : UInt8} (h : isDig c = true) : kindN (c.toNat : Int) = 2 := by
  have := dig_fin ⟨c.toNat, c.toNat_lt⟩
  simp only [UInt8.ofNat_toNat] at this
  exact this h
theorem word_let : wordList.all (fun w => w.all fun c => decide (kindN (c.toNat : Int) = 3)) = true := by decide +kernel
theorem byt_of {t : Tok} (h : tokE t.kind t.text = 0) : bytK t = true := by
  refine bytK_of fun c hc => ?_
  unfold tokE at h
  by_cases h1 : t.kind = 1
  · rw [decide_eq_true h1, cond_true] at h
    unfold rdE at h
    cases hd : (decide (t.text = []) || !t.text.all isDig) with
    | true => rw [hd] at h; cases h
    | false =>
      rw [Bool.or_eq_false_iff, Bool.not_eq_false'] at hd
      rw [dig_kind (List.all_eq_true.1 hd.2 c hc), h1]; rfl
  · rw [decide_eq_false h1, cond_false] at h
    by_cases h2 : t.kind = 2
    · rw [decide_eq_true h2, cond_true] at h
      cases hw : isWord t.text with
      | false => rw [hw] at h; cases h
      | true =>
        unfold isWord at hw
        have hm : t.text ∈ wordList := by simpa using hw
        have := of_decide_eq_true (List.all_eq_true.1 (List.all_eq_true.1 word_let _ hm) c hc)
        rw [this, h2]; rfl
    · rw [decide_eq_false h2, cond_false] at h
      by_cases h3 : t.kind = 3
      · rw [decide_eq_true h3, cond_true] at h
        cases hs : (decide (0 < sym0 t.text) && decide (sym0 t.text = (t.text.length : Int))) with
        | false => rw [hs] at h; cases h
        | true =>
          rw [Bool.and_eq_true, decide_eq_true_eq, decide_eq_true_eq] at hs
          obtain ⟨s0, s1⟩ := hs
          have hk : kindN (c.toNat : Int) = 4 := by
            obtain ⟨_, hk0⟩ := sym_kind (s := t.text) (by omega)
            rcases sym_rng t.text with h | h | h
            · omega
            · have hl : t.text.length = 1 := by omega
              match ht : t.text, hl with
              | [a], _ =>
                rw [ht] at hc hk0
                simp only [List.mem_singleton] at hc
                subst hc
                exact hk0
            · have hl : t.text.length = 2 := by omega
              match ht : t.text, hl with
              | [a, b], _ =>
                rw [ht] at hc hk0 h
                simp only [List.mem_cons, List.not_mem_nil, or_false] at hc
                rcases hc with rfl | rfl
                · exact hk0
                · exact sym_pair h
          rw [hk, h3]; rfl
      · rw [decide_eq_false h3] at h; cases h
end Go.Proofs.YthfieonkfailkaaGreatDoor.Top
/-
  Exprs' reference: Written by contract.
-/
namespace Go.Proofs.YthfieonkfailkaaGreatDoor.W5
open Go.Am Go
set_option maxRecDepth 100000
variable {B : Nat → Option Obj}
def gW (k : Nat) (X : List Nod) (i : Int) (p : Bool) : Bool := okX k X i && (rngX X && decide ((txN k X i p).length ≤ 100000))
def sWrt (k : Nat) : FSpec
  | [.slw 0, .int .i64 i], [⟨false, .nodes X⟩] => .node (gW k X i false) (.leaf ⟨[.str (txN k X i false)], []⟩) .bad
  | _, _ => .bad
def sPt (k : Nat) : FSpec
  | [.slw 0, .int .i64 i], [⟨false, .nodes X⟩] => .node (gW k X i true) (.leaf ⟨[.str (txN k X i true)], []⟩) .bad
  | _, _ => .bad
noncomputable def libR (k : Nat) : Tb := (33, [], sWrt k) :: (99, [], R1.sText0) :: lib5
theorem libR_ok (k : Nat) (h : FnOk (E0 B) 33 (sWrt k)) : TbOk B (libR k) := (lib5_ok.add R1.okText).add h
noncomputable def libR2 (k : Nat) : Tb := (62, [], sPt k) :: libR k
def fldL : List (List UInt8) := [[107], [116], [118]]
def lfO (x : Nod) : Option Out := bif decide (x.kind = 1) then (bif decide (Rng x.n) then strO (Lib.itoa x.n) else none) else inb' (u8 (x.kind - 2)) fldL.length (strO (fldL.getD (u8 (x.kind - 2)).toNat []))
def pt5 (k : Nat) (X : List Nod) (i : Int) : Option Out := bif gW k X i false then catO [40] (txN k X i false) (fun s => catO s [41] strO) else none
theorem tPt (k : Nat) (X : List Nod) (i : Int) : runT B (libR k) Tryz.f62 [.slw 0, i64 i] [⟨false, .nodes X⟩] =
    inb' i X.length (bif decide ((nodA X i).kind ≤ 4) then inb' i X.length (lfO (nodA X i)) else bif decide ((nodA X i).kind ≤ 6) then pt5 k X i else pt5 k X i) := by kernel_rfl
def sub5 (k : Nat) (X : List Nod) (j : Int) (f : List UInt8 → Option Out) : Option Out := bif gW k X j true then f (txN k X j true) else none
def bin5 (k : Nat) (X : List Nod) (x : Nod) : Option Out := sub5 k X x.a fun s => catO s [32] fun u => inb' (u8 (x.kind - 7)) sgnL.length (catO u (sgnL.getD (u8 (x.kind - 7)).toNat []) fun v => catO v [32] fun w => sub5 k X x.b fun s' => catO w s' strO)
def wr5 (k : Nat) (X : List Nod) (x : Nod) : Option Out := bif decide (x.kind ≤ 4) then lfO x else bif decide (x.kind ≤ 6) then (bif decide (x.kind = 5) then sub5 k X x.a (fun s => catO [45, 32] s strO) else sub5 k X x.a (fun s => catO [110, 111, 116, 32] s strO)) else bin5 k X x
theorem tWrt (k : Nat) (X : List Nod) (i : Int) : runT B (libR2 k) Tryz.f33 [.slw 0, i64 i] [⟨false, .nodes X⟩] = inb' i X.length (wr5 k X (nodA X i)) := by kernel_rfl
theorem fld_txt9 : ∀ k : Fin 5, 2 ≤ k.val → (0 ≤ u8 ((k.val : Int) - 2) ∧ u8 ((k.val : Int) - 2) < 3) ∧ fldL.getD (u8 ((k.val : Int) - 2)).toNat [] = fldT k.val := by decide +kernel
theorem lfO_is {x : Nod} (k1 : 1 ≤ x.kind) (k4 : x.kind ≤ 4) (hn : rng64 x.n = true) : lfO x = strO (bif decide (x.kind = 1) then Lib.itoa x.n else fldT x.kind) := by
  unfold lfO
  by_cases e1 : x.kind = 1
  · have hrn : Rng x.n := by simpa [rng64, Rng] using hn
    rw [decide_eq_true e1, decide_eq_true hrn]; rfl
  · obtain ⟨⟨f1, f2⟩, f3⟩ := fld_txt9 ⟨x.kind.toNat, by omega⟩ (by simp only; omega)
    have e : ((x.kind.toNat : Nat) : Int) = x.kind := by omega
    simp only [e] at f1 f2 f3
    rw [decide_eq_false e1, cond_false, cond_false, inb_in f1 (show u8 (x.kind - 2) < (fldL.length : Int) from f2), f3]
theorem okX_rng {k : Nat} {X : List Nod} {i : Int} (h : okX k X i = true) : 0 ≤ i ∧ i < (X.length : Int) ∧ 1 ≤ (nodA X i).kind ∧ (nodA X i).kind ≤ 19 := by
  cases k with
  | zero => cases h
  | succ k =>
    unfold okX at h
    rw [Bool.and_eq_true] at h
    exact of_decide_eq_true h.1
theorem nod_rng {X : List Nod} {i : Int} (h0 : 0 ≤ i) (h1 : i < (X.length : Int)) (hr : rngX X = true) : rng64 (nodA X i).n = true := by
  have hmem : nodA X i ∈ X := by
    unfold nodA
    have : i.toNat < X.length := by omega
    rw [List.getD_eq_getElem?_getD, List.getElem?_eq_getElem this]
    exact List.getElem_mem this
  exact List.all_eq_true.1 hr _ hmem
/-- brackets stand around -/
theorem txN_brk {k : Nat} {X : List Nod} {i : Int} (h : okX k X i = true) : txN k X i true = bif decide ((nodA X i).kind ≤ 4) then txN k X i false else brT true (txN k X i false) := by
  cases k with
  | zero => cases h
  | succ k =>
    unfold txN
    by_cases h1 : (nodA X i).kind = 1
    · rw [decide_eq_true h1, decide_eq_true (show (nodA X i).kind ≤ 4 by omega)]; rfl
    · rw [decide_eq_false h1]
      by_cases h4 : (nodA X i).kind ≤ 4
      · rw [decide_eq_true h4]; rfl
      · rw [decide_eq_false h4]; rfl
theorem txN_leaf {k : Nat} {X : List Nod} {i : Int} (h : okX k X i = true) (h4 : (nodA X i).kind ≤ 4) (p : Bool) : txN k X i p = bif decide ((nodA X i).kind = 1) then Lib.itoa (nodA X i).n else fldT (nodA X i).kind := by
  cases k with
  | zero => cases h
  | succ k =>
    unfold txN
    by_cases h1 : (nodA X i).kind = 1
    · rw [decide_eq_true h1]; rfl
    · rw [decide_eq_false h1, decide_eq_true h4]; rfl
theorem okPt {k : Nat} (h : FnOk (E0 B) 33 (sWrt k)) : FnOk (E0 B) 62 (sPt k) := by
  refine fnT (libR_ok k h) Tryz.func62 (by kernel_rfl) (by kernel_rfl) fun vs bs r h => ?_
  unfold sPt at h
  split at h
  · rename_i i X
    rcases T.node_sel h with ⟨hg, h2⟩ | ⟨_, h2⟩
    · simp only [T.sel, Option.some.injEq] at h2; subst h2
      unfold gW at hg
      simp only [Bool.and_eq_true] at hg
      obtain ⟨hx, hr, hl⟩ := hg
      have hl := of_decide_eq_true hl
      obtain ⟨i0, i1, k1, k2⟩ := okX_rng hx
      have hb := txN_brk hx
      refine (tPt k X i).trans ?_
      rw [inb_in i0 i1]
      by_cases h4 : (nodA X i).kind ≤ 4
      · rw [decide_eq_true h4, cond_true, inb_in i0 i1, lfO_is k1 h4 (nod_rng i0 i1 hr), ← txN_leaf hx h4 true]; rfl
      · rw [decide_eq_false h4, cond_false] at hb
        have hle : (txN k X i false).length ≤ 100000 := Nat.le_trans (by rw [hb]; exact brT_ge _ _) hl
        have hp : pt5 k X i = strO (txN k X i true) := by
          unfold pt5 gW
          rw [hx, hr, decide_eq_true hle, hb]
          exact partO_in (p := true) (by omega)
        rw [decide_eq_false h4, cond_false]
        cases decide ((nodA X i).kind ≤ 6) <;> exact hp
    · simp [T.sel] at h2
  · simp [T.sel] at h
theorem libR2_ok (k : Nat) (h : FnOk (E0 B) 33 (sWrt k)) : TbOk B (libR2 k) := (libR_ok k h).add (okPt h)
theorem sub5_in {k : Nat} {X : List Nod} {j : Int} (hx : okX k X j = true) (hr : rngX X = true) (hl : (txN k X j true).length ≤ 100000) (f : List UInt8 → Option Out) : sub5 k X j f = f (txN k X j true) := by
  unfold sub5 gW
  rw [hx, hr, decide_eq_true hl]; rfl
theorem wr5_is {k : Nat} {X : List Nod} {i : Int} (hx : okX (k + 1) X i = true) (hr : rngX X = true) (hl : (txN (k + 1) X i false).length ≤ 100000) : inb' i X.length (wr5 k X (nodA X i)) = strO (txN (k + 1) X i false) := by
  have hx0 := hx
  unfold okX at hx
  rw [Bool.and_eq_true] at hx
  obtain ⟨i0, i1, k1, k19⟩ := of_decide_eq_true hx.1
  have hx := hx.2
  have hn := nod_rng i0 i1 hr
  rw [inb_in i0 i1]
  by_cases e4 : (nodA X i).kind ≤ 4
  · unfold wr5
    rw [decide_eq_true e4, cond_true, lfO_is k1 e4 hn, ← txN_leaf hx0 e4 false]
  unfold txN at hl ⊢
  generalize nodA X i = x at *
  unfold wr5
  unfold brT at hl ⊢
  rw [decide_eq_false (show ¬ x.kind = 1 by omega), decide_eq_false e4, cond_false, cond_false, cond_false] at hl
  rw [decide_eq_false (show ¬ x.kind = 1 by omega), decide_eq_false e4, cond_false, cond_false, cond_false, cond_false]
  rw [decide_eq_false e4, cond_false] at hx
  by_cases e6 : x.kind ≤ 6
  · rw [decide_eq_true e6, cond_true] at hx
    rw [decide_eq_true e6, cond_true]
    by_cases e5 : x.kind = 5
    · rw [decide_eq_true e5, cond_true] at hl
      rw [decide_eq_true e5, cond_true, cond_true]
      rw [List.length_append] at hl
      rw [sub5_in hx hr (by omega), catO_in (by simp only [List.length_cons, List.length_nil]; omega)]
    · rw [decide_eq_false e5, decide_eq_true (show x.kind = 6 by omega), cond_false, cond_true] at hl
      rw [decide_eq_false e5, decide_eq_true (show x.kind = 6 by omega), cond_false, cond_false, cond_true]
      rw [List.length_append] at hl
      rw [sub5_in hx hr (by omega), catO_in (by simp only [List.length_cons, List.length_nil]; omega)]
  · rw [decide_eq_false e6, cond_false, Bool.and_eq_true] at hx
    rw [decide_eq_false (show ¬ x.kind = 5 by omega), decide_eq_false (show ¬ x.kind = 6 by omega), cond_false, cond_false] at hl
    rw [decide_eq_false e6, decide_eq_false (show ¬ x.kind = 5 by omega), decide_eq_false (show ¬ x.kind = 6 by omega), cond_false, cond_false, cond_false]
    obtain ⟨o1, o2, o3⟩ := op_txt ⟨x.kind.toNat, by omega⟩ (by simp only; omega)
    have e : ((x.kind.toNat : Nat) : Int) = x.kind := by omega
    simp only [e] at o1 o2 o3
    simp only [List.length_append] at hl
    have ho := opT_len x.kind
    unfold bin5
    have hin : ∀ z : Option Out, inb' (u8 (x.kind - 7)) sgnL.length z = z := fun z => inb_in o1 o2 z
    simp only [hin, o3]
    have h32 : ([32] : List UInt8).length = 1 := rfl
    rw [sub5_in hx.1 hr (by omega), catO_in (by omega), catO_in (by simp only [List.length_append]; omega), catO_in (by simp only [List.length_append]; omega), sub5_in hx.2 hr (by omega), catO_in (by simp only [List.length_append]; omega)]
    simp only [List.append_assoc]
theorem okWrt : ∀ k, FnOk (E0 B) 33 (sWrt k)
  | 0 => by
    refine fnT lib5_ok Tryz.func33 (by kernel_rfl) (by kernel_rfl) fun vs bs r h => ?_
    unfold sWrt at h
    split at h
    · rcases T.node_sel h with ⟨hg, _⟩ | ⟨_, h2⟩
      · cases hg
      · simp [T.sel] at h2
    · simp [T.sel] at h
  | k + 1 => by
    refine fnT (libR2_ok k (okWrt k)) Tryz.func33 (by kernel_rfl) (by kernel_rfl) fun vs bs r h => ?_
    unfold sWrt at h
    split at h
    · rename_i i X
      rcases T.node_sel h with ⟨hg, h2⟩ | ⟨_, h2⟩
      · simp only [T.sel, Option.some.injEq] at h2; subst h2
        unfold gW at hg
        simp only [Bool.and_eq_true] at hg
        exact (tWrt k X i).trans (wr5_is hg.1 hg.2.1 (of_decide_eq_true hg.2.2))
      · simp [T.sel] at h2
    · simp [T.sel] at h
end Go.Proofs.YthfieonkfailkaaGreatDoor.W5
/-
  TopText: what the law answers.
-/
namespace Go.Proofs.YthfieonkfailkaaGreatDoor.Top
open Go.Am Go
set_option maxRecDepth 100000
variable {B : Nat → Option Obj}
noncomputable def libA6 : Tb := (31, [], Kd.sOf) :: libX
theorem libA6_ok (hB : Laid B) : TbOk B libA6 := (libX_ok hB).add Kd.okOf
theorem tAlive6 : runT B libA6 Tryz.f28 [] [] = rb true := by kernel_rfl
theorem okAlive6 (hB : Laid B) : FnOk (E0 B) 28 sTrueF := by
  refine fnT (libA6_ok hB) Tryz.func28 (by kernel_rfl) (by kernel_rfl) fun vs bs r h => ?_
  unfold sTrueF at h
  split at h
  · simp only [T.sel, Option.some.injEq] at h; subst h; exact tAlive6
  · simp [T.sel] at h
noncomputable def libT6 : Tb := (28, [], sTrueF) :: (31, [], Kd.sOf) :: (33, [], W5.sWrt 20) :: (17, [], Lx.sGr) :: libX
theorem libT6_ok (hB : Laid B) : TbOk B libT6 := ((((libX_ok hB).add (Lx.okGreat hB)).add (W5.okWrt 20)).add Kd.okOf).add (okAlive6 hB)
def t4 (X : List Nod) : Option Out := bif rngX X then (bif decide (chkN X = 0) then (bif W5.gW 20 X (w64 ((X.length : Int) - 1)) false then rb (decide (txS X = txN 20 X (w64 ((X.length : Int) - 1)) false)) else none) else rb false) else none
def t3 (X : List Nod) : Option Out := bif !decide (chkN X = 0) then rb false else bif decide ((0 : Int) = 0 ∧ chkN X = 0 ∧ (kOf X).2.1 = (kOf X).2.1 ∧ (kOf X).2.2 = (kOf X).2.2) then t4 X else none
def t2 (L : List Tok) (X : List Nod) : Option Out := bif decide ((0 : Int) = 0 ∧ (0 : Int) = 0 ∧ X.length ≤ 1000 ∧ L.length ≤ 1000 ∧ numT L = numX X) && (shortT L && rdV L) then t3 X else none
def t1 (L : List Tok) : Option Out := bif decide ((0 : Int) = 0 ∧ L.length ≤ 1000) && (shortT L && L.all bytK) then (bif shortT L then (bif !decide (zE L 0 = 0) then rb true else bif !decide (zN L 0 = (L.length : Int)) then rb true else bif greatB 0 L then rb true else t2 L (zX L 0)) else none) else none
def t0 (s : List UInt8) : Option Out := bif decide (400 < (s.length : Int)) then rb true else bif !decide (lexE s = 0) then rb true else bif decide (((lexL s).length : Int) = 0) then rb true else t1 (lexL s)
theorem tTop (s : List UInt8) : runL B libT6 [eKo, eNo, ePt] Tryz.f8 [.str s] [] = t0 s := by kernel_rfl
end Go.Proofs.YthfieonkfailkaaGreatDoor.Top
/-
  TopText: that the law answers true.
-/
namespace Go.Proofs.YthfieonkfailkaaGreatDoor.Top
open Go.Am Go
set_option maxRecDepth 100000
variable {B : Nat → Option Obj}
theorem numX_cons (x : Nod) (r : List Nod) : numX (x :: r) = bif decide (x.kind = 1) then (x.n, x.pos) :: numX r else numX r := rfl
theorem numT_cons (x : Tok) (r : List Tok) : numT (x :: r) = bif decide (x.kind = 1) then (rdN x.text, x.pos) :: numT r else numT r := rfl
theorem numX_app : ∀ (a b : List Nod), numX (a ++ b) = numX a ++ numX b
  | [], _ => rfl
  | x :: a, b => by
    rw [List.cons_append, numX_cons, numX_cons, numX_app a b]
    cases decide (x.kind = 1) <;> rfl
theorem numT_app : ∀ (a b : List Tok), numT (a ++ b) = numT a ++ numT b
  | [], _ => rfl
  | x :: a, b => by
    rw [List.cons_append, numT_cons, numT_cons, numT_app a b]
    cases decide (x.kind = 1) <;> rfl
theorem numT_no {t : Tok} (h : t.kind ≠ 1) (r : List Tok) : numT (t :: r) = numT r := by
  rw [numT_cons, decide_eq_false h]; rfl
theorem numX_no {x : Nod} (h : x.kind ≠ 1) : numX [x] = [] := by
  unfold numX
  rw [decide_eq_false h]; rfl
theorem is_no {t : Tok} {s : List UInt8} (h : t.is s = true) : t.kind ≠ 1 := by
  unfold Tok.is at h; simp at h; exact h.1
theorem op_no {t : Tok} (h : t.op = true) : t.kind ≠ 1 ∧ opK t.text ≠ 0 := by
  unfold Tok.op at h; simp at h; exact h
theorem gr_num : ∀ {lv : Lv} {e : Ex} {ts : List Tok}, Gr lv e ts → ∀ o, numX (e.flat o) = numT ts := by
  intro lv e ts h
  induction h with
  | num t h => intro o; simp [Ex.flat, numX, numT, h]
  | fld t h hf =>
    intro o
    have hk : fldK t.text ≠ 1 := by have := fldK_or t.text; simp only at this; omega
    show numX [_] = _
    rw [numX_no hk, numT_no h]; rfl
  | par o c e ts ho hc _ ih =>
    intro x
    rw [numT_no (is_no ho), numT_app, numT_no (is_no hc), ih]; simp [numT]
  | neg t e ts ht _ ih =>
    intro o
    show numX (e.flat o ++ [_]) = _
    rw [numX_app, numX_no (by show (5 : Int) ≠ 1; decide), numT_no (is_no ht), ih, List.append_nil]
  | pos e ts _ ih => exact ih
  | inv t e ts ht _ ih =>
    intro o
    show numX (e.flat o ++ [_]) = _
    rw [numX_app, numX_no (by show (6 : Int) ≠ 1; decide), numT_no (is_no ht), ih, List.append_nil]
  | pos2 e ts _ ih => exact ih
  | up s e ts _ _ ih => exact ih
  | one s e ts _ ih => exact ih
  | bin s t a b xs ys _ ho _ _ _ ih1 ih2 =>
    intro o
    have hr := opK_rng (op_no ho).2
    show numX (a.flat o ++ (b.flat (o + a.size) ++ [_])) = _
    rw [numX_app, numX_app, numX_no (by show opK t.text ≠ 1; omega), numT_app, numT_no (op_no ho).1, ih1, ih2, List.append_nil]
  | cmp t a b xs ys ho _ _ _ ih1 ih2 =>
    intro o
    have hr := opK_rng (op_no ho).2
    show numX (a.flat o ++ (b.flat (o + a.size) ++ [_])) = _
    rw [numX_app, numX_app, numX_no (by show opK t.text ≠ 1; omega), numT_app, numT_no (op_no ho).1, ih1, ih2, List.append_nil]
theorem rdN_rng (s : List UInt8) : Rng (rdN s) := by
  unfold rdN
  cases hd : (decide (s = []) || !s.all isDig) with
  | true => rw [cond_true]; unfold Rng; omega
  | false =>
    rw [Bool.or_eq_false_iff, Bool.not_eq_false'] at hd
    rw [cond_false, rdF_0 hd.2]
    have h0 := val_ge hd.2 (Int.le_refl 0)
    by_cases h : val 0 s ≤ most
    · rw [if_pos h]; unfold Rng; unfold most at h; simp only; omega
    · rw [if_neg h]; unfold Rng; simp only; omega
theorem gr_rng : ∀ {lv : Lv} {e : Ex} {ts : List Tok}, Gr lv e ts → e.rng = true := by
  intro lv e ts h
  induction h with
  | num t h => exact decide_eq_true (rdN_rng _)
  | fld t h hf => exact decide_eq_true (by unfold Rng; omega)
  | par o c e ts ho hc _ ih => exact ih
  | neg t e ts ht _ ih => exact ih
  | pos e ts _ ih => exact ih
  | inv t e ts ht _ ih => exact ih
  | pos2 e ts _ ih => exact ih
  | up s e ts _ _ ih => exact ih
  | one s e ts _ ih => exact ih
  | bin s t a b xs ys _ ho _ _ _ ih1 ih2 => show (a.rng && b.rng) = true; rw [ih1, ih2]; rfl
  | cmp t a b xs ys ho _ _ _ ih1 ih2 => show (a.rng && b.rng) = true; rw [ih1, ih2]; rfl
/-! what is lexed -/
theorem cov_ok {s : List UInt8} (hs : s.length ≤ 400) : ∀ (l : List Tok) (a : Int), 0 ≤ a → covS s a l → shortT l = true ∧ l.all okV = true
  | [], _, _, _ => ⟨rfl, rfl⟩
  | t :: r, a, h0, h => by
    obtain ⟨c1, _, c3, _, c5, c6⟩ := h
    obtain ⟨i1, i2⟩ := cov_ok hs r _ (by omega) c6
    unfold shortT at i1 ⊢
    rw [List.all_cons, List.all_cons, i1, i2, Bool.and_true, Bool.and_true]
    refine ⟨decide_eq_true (by omega), ?_⟩
    unfold okV validB
    rw [decide_eq_true c5, decide_eq_true (show 0 ≤ t.pos ∧ t.pos ≤ 400 by omega)]; rfl
theorem lex_ok {s : List UInt8} (hs : s.length ≤ 400) (he : lexE s = 0) : shortT (lexL s) = true ∧ (lexL s).all okV = true ∧ (lexL s).length ≤ 200 := by
  have hA : lexA s = lx s 0 0 := Lx.lexA_is (by omega)
  have hl : lexL s = (lx s 0 0).l := by unfold lexL; rw [decide_eq_true he, hA]; rfl
  have he' : (lx s 0 0).e = 0 := by unfold lexE at he; rwa [hA] at he
  have hc := lx_cov s s 0 0 0 (by omega) (by omega) (by omega) rfl (fun i h1 h2 => by omega) he'
  have hcnt := lx_count s 0 0 (by omega)
  rw [hl]
  obtain ⟨h1, h2⟩ := cov_ok hs _ 0 (by omega) hc
  exact ⟨h1, h2, by omega⟩
theorem rdV_of {L : List Tok} (hv : L.all okV = true) : rdV L = true := List.all_eq_true.2 fun t ht => by
  have h := List.all_eq_true.1 hv t ht
  unfold okV validB at h
  rw [Bool.and_eq_true] at h
  have h1 := of_decide_eq_true h.1
  cases hk : decide (t.kind = 1) with
  | false => rfl
  | true =>
    unfold tokE at h1
    rw [hk, cond_true] at h1
    rw [h1]; rfl
theorem byt_all {L : List Tok} (hv : L.all okV = true) : L.all bytK = true := List.all_eq_true.2 fun t ht => by
  have h := List.all_eq_true.1 hv t ht
  unfold okV validB at h
  rw [Bool.and_eq_true] at h
  exact byt_of (of_decide_eq_true h.1)
theorem t0_true (s : List UInt8) : t0 s = rb true := by
  unfold t0
  by_cases hs : 400 < (s.length : Int)
  · rw [decide_eq_true hs]; rfl
  rw [decide_eq_false hs, cond_false]
  by_cases he : lexE s = 0
  rotate_left
  · rw [decide_eq_false he]; rfl
  rw [decide_eq_true he, Bool.not_true, cond_false]
  obtain ⟨l1, l2, l3⟩ := lex_ok (by omega) he
  cases decide (((lexL s).length : Int) = 0) with
  | true => rfl
  | false =>
  rw [cond_false]
  generalize lexL s = L at *
  unfold t1
  rw [decide_eq_true (show (0 : Int) = 0 ∧ L.length ≤ 1000 from ⟨rfl, by omega⟩), l1, byt_all l2]
  simp only [Bool.and_self, cond_true]
  obtain ⟨z1, z2, z3⟩ := z_ok l2 l3 (Int.le_refl 0) (by omega)
  cases hz : zR 0 L with
  | out =>
    have := zR_in l3 0
    rw [hz] at this; cases this
  | bad er n =>
    rw [hz] at z1
    have hne : er ≠ 0 := pE_err 1500 1 _ er n hz
    have z1 : zE L 0 = er := z1
    rw [z1, decide_eq_false hne]; rfl
  | ok e r =>
    rw [hz] at z1 z2 z3
    have z1 : zE L 0 = 0 := z1
    have z2 : zN L 0 = (L.length : Int) - r.length := z2
    have z3 : zX L 0 = e.flat 0 := z3
    rw [z1, z2, z3, decide_eq_true (rfl : (0 : Int) = 0), Bool.not_true, cond_false]
    by_cases hr : (L.length : Int) - r.length = (L.length : Int)
    rotate_left
    · rw [decide_eq_false hr]; rfl
    rw [decide_eq_true hr, Bool.not_true, cond_false]
    cases hg : greatB 0 L with
    | true => rfl
    | false =>
    rw [cond_false]
    obtain ⟨⟨p, hp, hgr⟩, hsz, hdp⟩ := pE_sound 1500 1 _ e r hz (by omega) (by omega)
    have hr0 : r = [] := List.length_eq_zero_iff.1 (by omega)
    rw [hr0, List.append_nil] at hp
    have hp : L = p := hp
    subst hp
    have hok := gr_okV hgr l2
    have hck : chkN (e.flat 0) = 0 := chk_of hok hsz hdp
    have hrng := gr_rng hgr
    obtain ⟨x1, x2⟩ := txS_is hok hck
    have hlen := Ex.flat_len e 0
    have hps := e.size_pos
    have hw : w64 (((e.flat 0).length : Int) - 1) = ((e.flat 0).length : Int) - 1 := w64_rng (by unfold Rng; omega)
    have hb := pcsS_bound true e 0 hrng
    have htx : txN 20 (e.flat 0) (((e.flat 0).length : Int) - 1) false = txS (e.flat 0) := by
      unfold txS
      rw [decide_eq_true hck]; rfl
    unfold t2 t3 t4 W5.gW
    rw [gr_num hgr 0, hck, rdV_of l2, l1, rng_flat, hrng, hw, x2, htx, decide_eq_true (show (0 : Int) = 0 ∧ (0 : Int) = 0 ∧ (e.flat 0).length ≤ 1000 ∧ L.length ≤ 1000 ∧ numT L = numT L from ⟨rfl, rfl, by omega, by omega, rfl⟩),
      decide_eq_true (show (txS (e.flat 0)).length ≤ 100000 by rw [x1]; unfold Ex.txt; omega), decide_eq_true (rfl : txS (e.flat 0) = txS (e.flat 0)), decide_eq_true (show (0 : Int) = 0 ∧ (0 : Int) = 0 ∧ (kOf (e.flat 0)).2.1 = (kOf (e.flat 0)).2.1 ∧ (kOf (e.flat 0)).2.2 = (kOf (e.flat 0)).2.2 from ⟨rfl, rfl, rfl, rfl⟩)]
    rfl
def sTop (_ : Nat → Option Obj) : FSpec
  | [.str _], [] => .leaf ⟨[.bool true], []⟩
  | _, _ => .bad
theorem okTop (hB : Laid B) : FnOk (E0 B) 8 (sTop B) := by
  refine fnL (libT6_ok hB) (ls := [eKo, eNo, ePt]) Tryz.func8 (by kernel_rfl) (by kernel_rfl) (fun x hx => ?_) fun vs bs r h => ?_
  · simp only [List.mem_cons, List.not_mem_nil, or_false] at hx
    rcases hx with rfl | rfl | rfl
    · exact ⟨bKo, by kernel_rfl, by kernel_rfl, loopKo⟩
    · exact ⟨bNo, by kernel_rfl, by kernel_rfl, loopNo hB⟩
    · exact ⟨bPt, by kernel_rfl, by kernel_rfl, loopPt⟩
  · unfold sTop at h
    split at h
    · rename_i s
      simp only [T.sel, Option.some.injEq] at h; subst h
      exact (tTop s).trans (t0_true s)
    · simp [T.sel] at h
end Go.Proofs.YthfieonkfailkaaGreatDoor.Top
