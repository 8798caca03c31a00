/-
  The reference's kinds, by contract; sources.
-/
import Derived.Test.YthfieonkfailkaaChkFn2
namespace Go.Proofs.Ythfieonkfailkaa
open Go.Am
set_option maxRecDepth 100000
variable {B : Nat → Option Obj}
def fB (k : Int) (a b : Bool) : Option Out := bif decide (k ≤ 4) then rb true else bif decide (k = 5) then rb (!a) else bif decide (k = 6) then rb a else bif decide (k = 16) then rb (a == b) else bif decide (k = 17) then rb (a == b) else
  bif decide (18 ≤ k) then (bif a then rb b else rb false) else (bif !a then rb (!b) else rb false)
theorem tFits (L : List Nod) (i : Int) : runT B lib10 Try.f84 [.slw 0, i64 i] [nb L] =
    inb i L.length (inb (L.getD i.toNat default).a L.length (inb (L.getD i.toNat default).b L.length (fB (L.getD i.toNat default).kind (givesN (kindAt L (L.getD i.toNat default).a)) (givesN (kindAt L (L.getD i.toNat default).b))))) := by kernel_rfl
theorem fB_is (L : List Nod) (x : Nod) : fB x.kind (givesN (kindAt L x.a)) (givesN (kindAt L x.b)) = rb (fitsN L x) := by
  unfold fB fitsN
  generalize givesN (kindAt L x.a) = a
  generalize givesN (kindAt L x.b) = b
  cases decide (x.kind ≤ 4) with
  | true => rfl
  | false =>
    cases decide (x.kind = 5) with
    | true => rfl
    | false =>
      cases decide (x.kind = 6) with
      | true => rfl
      | false => cases decide (x.kind = 16) <;> cases decide (x.kind = 17) <;> cases decide (18 ≤ x.kind) <;> cases a <;> cases b <;> rfl
def sFits : FSpec
  | [.slw 0, .int .i64 i], [⟨false, .nodes L⟩] => .node (decide (chkN L = 0 ∧ 0 ≤ i ∧ i < (L.length : Int))) (.leaf ⟨[.bool (fitsN L (L.getD i.toNat default))], []⟩) .bad
  | _, _ => .bad
theorem okFits : FnOk (E0 B) 84 sFits := by
  refine fnT lib10_ok Try.func84 (by kernel_rfl) (by kernel_rfl) fun vs bs r h => ?_
  unfold sFits at h
  split at h
  · rename_i i L
    rcases T.node_sel h with ⟨hc, h2⟩ | ⟨_, h2⟩
    · simp only [T.sel, Option.some.injEq] at h2; subst h2
      obtain ⟨hv, h0, h1⟩ := of_decide_eq_true hc
      obtain ⟨j, rfl⟩ : ∃ j : Nat, i = (j : Int) := ⟨i.toNat, by omega⟩
      have hj : j < L.length := by omega
      have hat := chk_at hv j _ (List.getElem?_eq_getElem hj)
      refine (tFits L j).trans ?_
      have ex : L.getD ((j : Int)).toNat default = L[j] := by rw [show ((j : Int)).toNat = j by omega]; simp [List.getD, hj]
      rw [inb_is hj, ex]
      have ea : L[j].a < (j : Int) ∨ L[j].a = 0 := by
        by_cases h : 4 < L[j].kind
        · exact .inl (hat.ai h)
        · exact .inr (hat.az (by omega))
      have eb : L[j].b < (j : Int) ∨ L[j].b = 0 := by
        by_cases h : 6 < L[j].kind
        · exact .inl (hat.bi h)
        · exact .inr (hat.bz (by omega))
      have a0 := hat.a0
      have b0 := hat.b0
      have ha : inb L[j].a L.length (inb L[j].b L.length (fB L[j].kind (givesN (kindAt L L[j].a)) (givesN (kindAt L L[j].b)))) = fB L[j].kind (givesN (kindAt L L[j].a)) (givesN (kindAt L L[j].b)) := by
        unfold inb
        rw [decide_eq_true (show 0 ≤ L[j].a ∧ L[j].a < (L.length : Int) from ⟨a0, by omega⟩), decide_eq_true (show L[j].a.toNat < L.length by omega), decide_eq_true (show 0 ≤ L[j].b ∧ L[j].b < (L.length : Int) from ⟨b0, by omega⟩), decide_eq_true (show L[j].b.toNat < L.length by omega)]
        rfl
      rw [ha, fB_is]; rfl
    · simp [T.sel] at h2
  · simp [T.sel] at h
noncomputable def lib11 : Tb := (84, [], sFits) :: lib10
theorem lib11_ok : TbOk B lib11 := lib10_ok.add okFits
noncomputable def bWr : Code := loopAt 2 (loopsOf (bodyC Try.f77))
def sgWr : LSig := { cs := [(0, 22)], mv := [(3, 0)], mo := [(2, 0)], take := [] }
theorem turnWr (L : List Nod) (i : Int) : (turn (E0 B) (Cx B lib11) noL 17 sgWr bWr [.slw 0, i64 i] [nb L]).sel =
    bif decide (i < (L.length : Int)) then (bif decide (chkN L = 0 ∧ 0 ≤ i ∧ i < (L.length : Int)) then (bif !fitsN L (L.getD i.toNat default) then some (.ret, ⟨[i64 i], []⟩) else ndN L i) else none) else some (.exit 0, ⟨[.any], []⟩) := by kernel_rfl
theorem wrong_first (L : List Nod) : ∀ (r : List Nod) (i : Nat), wrongGo L r i = ((i + firstL (fun x => !fitsN L x) r : Nat) : Int)
  | [], i => rfl
  | x :: r, i => by
    unfold wrongGo firstL
    cases fitsN L x with
    | true => simp only [Bool.not_true, cond_true, cond_false]; rw [show ((i : Int) + 1) = ((i + 1 : Nat) : Int) from rfl, wrong_first L r (i + 1)]; omega
    | false => rfl
def spWr : LSpec
  | [.slw 0, .int .i64 i], [⟨false, .nodes L⟩] => .node (decide (chkN L = 0 ∧ i = 0)) (.node (decide (wrongN L < (L.length : Int))) (.leaf (.ret, ⟨[i64 (wrongN L)], []⟩)) (.leaf (.exit 0, ⟨[.any], []⟩))) .bad
  | _, _ => .bad
theorem loopWr : LoopOk (E0 B) 17 sgWr bWr spWr := by
  refine loop_turns (C := Cx B lib11) (L := noL) (cxOk lib11_ok) (noL_ok _) fun vs bs e o h => ?_
  unfold spWr at h
  split at h
  · rename_i i L
    rcases T.node_sel h with ⟨hc, h2⟩ | ⟨_, h2⟩
    · obtain ⟨hv, rfl⟩ := of_decide_eq_true hc
      have hl := chk_len hv
      obtain ⟨m, hm⟩ := scan_turns (E := E0 B) (C := Cx B lib11) (L := noL) (n := 17) (sg := sgWr) (body := bWr) (st := fun i => [.slw 0, i64 i]) (bs := [nb L]) (len := L.length)
        (bad := fun j => !fitsN L (L.getD j default)) (ob := fun j => ⟨[i64 j], []⟩) (k := 0) (oe := ⟨[.any], []⟩) (fun i hi => by
          rw [turnWr]
          by_cases h : i < L.length
          · rw [decide_eq_true h, decide_eq_true (show (i : Int) < (L.length : Int) by omega), cond_true, decide_eq_true (show chkN L = 0 ∧ (0 : Int) ≤ (i : Int) ∧ (i : Int) < (L.length : Int) from ⟨hv, by omega, by omega⟩)]
            unfold ndN
            rw [w64_rng (show Rng ((i : Int) + 1) by unfold Rng; omega), show ((i : Int)).toNat = i by omega]; rfl
          · rw [decide_eq_false h, decide_eq_false (show ¬ (i : Int) < (L.length : Int) by omega)]; rfl) L.length 0 (by omega)
      refine ⟨m, hm.trans ?_⟩
      have e1 : wrongN L = (firstL (fun x => !fitsN L x) L : Nat) := by
        have := wrong_first L L 0
        rw [Nat.zero_add] at this
        exact this
      rw [firstB_list (fun x => !fitsN L x) L L 0 rfl, Nat.zero_add, ← h2]
      simp only [e1, T.sel]
      by_cases h : firstL (fun x => !fitsN L x) L < L.length
      · rw [decide_eq_true h, decide_eq_true (show ((firstL (fun x => !fitsN L x) L : Nat) : Int) < (L.length : Int) by omega)]
      · rw [decide_eq_false h, decide_eq_false (show ¬ ((firstL (fun x => !fitsN L x) L : Nat) : Int) < (L.length : Int) by omega)]
    · simp [T.sel] at h2
  · simp [T.sel] at h
noncomputable def eWr : LEnt := { id := 2, n := 17, sg := sgWr, wr := writes bWr, s := spWr }
theorem tWrong (L : List Nod) : runL B lib11 [eWr] Try.f77 [.slw 0] [nb L] =
    bif decide (chkN L = 0 ∧ (0 : Int) = 0) then (bif decide (wrongN L < (L.length : Int)) then ri (wrongN L) else ri L.length) else none := by kernel_rfl
def sWrong : FSpec
  | [.slw 0], [⟨false, .nodes L⟩] => .node (decide (chkN L = 0)) (.leaf ⟨[.int .i64 (wrongN L)], []⟩) .bad
  | _, _ => .bad
theorem okWrong : FnOk (E0 B) 77 sWrong := by
  refine fnL lib11_ok (ls := [eWr]) Try.func77 (by kernel_rfl) (by kernel_rfl) (fun x hx => ?_) fun vs bs r h => ?_
  · simp only [List.mem_singleton] at hx; subst hx
    exact ⟨bWr, by kernel_rfl, rfl, loopWr⟩
  unfold sWrong at h
  split at h
  · rename_i L
    rcases T.node_sel h with ⟨hc, h2⟩ | ⟨_, h2⟩
    · simp only [T.sel, Option.some.injEq] at h2; subst h2
      have hc := of_decide_eq_true hc
      refine (tWrong L).trans ?_
      rw [decide_eq_true (show chkN L = 0 ∧ (0 : Int) = 0 from ⟨hc, rfl⟩)]
      by_cases h : wrongN L < (L.length : Int)
      · rw [decide_eq_true h]; rfl
      · have := wrongN_le L
        rw [decide_eq_false h, show wrongN L = (L.length : Int) by omega]; rfl
    · simp [T.sel] at h2
  · simp [T.sel] at h
noncomputable def lib12 : Tb := (77, [], sWrong) :: lib11
theorem lib12_ok : TbOk B lib12 := lib11_ok.add okWrong
theorem tOfR (L : List Nod) : runT B lib12 Try.f69 [.slw 0] [nb L] =
    bif !decide (chkN L = 0) then rOf false 0 (chkN L) else bif decide (chkN L = 0) then (bif decide (wrongN L < (L.length : Int)) then rOf false (wrongN L) 42 else
      inb (w64 ((L.length : Int) - 1)) L.length (rOf (givesN (kindAt L (w64 ((L.length : Int) - 1)))) (w64 ((L.length : Int) - 1)) 0)) else none := by kernel_rfl
theorem ofR_is (L : List Nod) : runT B lib12 Try.f69 [.slw 0] [nb L] = rOf (kOf L).1 (kOf L).2.1 (kOf L).2.2 := by
  refine (tOfR L).trans ?_
  unfold kOf
  by_cases hc : chkN L = 0
  · rw [decide_eq_true hc]
    simp only [Bool.not_true, cond_false, cond_true]
    by_cases hw : wrongN L < (L.length : Int)
    · rw [decide_eq_true hw]; rfl
    · obtain ⟨l1, l2⟩ := chk_len hc
      rw [decide_eq_false hw, w64_rng (show Rng ((L.length : Int) - 1) by unfold Rng; omega), show (L.length : Int) - 1 = ((L.length - 1 : Nat) : Int) by omega, inb_is (by omega)]
      unfold lastK
      rw [show (L.length : Int) - 1 = ((L.length - 1 : Nat) : Int) by omega]; rfl
  · rw [decide_eq_false hc]; rfl
theorem okOfR : FnOk (E0 B) 69 sOf := by
  refine fnT lib12_ok Try.func69 (by kernel_rfl) (by kernel_rfl) fun vs bs r h => ?_
  unfold sOf at h
  split at h
  · simp only [T.sel, Option.some.injEq] at h; subst h
    exact ofR_is _
  · simp [T.sel] at h
noncomputable def lib13 : Tb := (69, [], sOf) :: lib12
theorem lib13_ok : TbOk B lib13 := lib12_ok.add okOfR
end Go.Proofs.Ythfieonkfailkaa
