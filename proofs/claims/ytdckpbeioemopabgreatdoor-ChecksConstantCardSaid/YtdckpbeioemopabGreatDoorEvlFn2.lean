/-
  ChecksConstant: values by contract; what the law answers.
-/
import Derived.Test.YtdckpbeioemopabGreatDoorEvlFn
import Derived.Test.YtdckpbeioemopabGreatDoorLitA
import Derived.Test.YtdckpbeioemopabGreatDoorLawA
import Derived.Test.YtdckpbeioemopabGreatDoorPureB
namespace Go.Proofs.YtdckpbeioemopabGreatDoor.Cn
open Go.Am Go Go.Proofs.YtdckpbeioemopabGreatDoor Go.Proofs.YtdckpbeioemopabGreatDoor.Ck Go.Proofs.YtdckpbeioemopabGreatDoor.Kd
set_option maxRecDepth 100000
variable {B : Nat → Option Obj}
def fldF (k t v : Int) : List Int := [0, 0, k, t, v]
def avO (_ : List Nod) (e : Int) (V : List Int) : Option Out := some ⟨[.slw 0, i64 e], [⟨true, .ints .i64 V⟩]⟩
theorem tAllE (L : List Nod) (k t v : Int) : runL B lE [eEv] Tryz.f50 [.slw 0, .agg [i64 k, i64 t, i64 v]] [⟨false, .nodes L⟩] =
    bif !decide ((kOf L).2.2 = 0) then avO L (kOf L).2.2 [] else bif decide (0 ≤ (L.length : Int) ∧ (L.length : Int) ≤ (lim : Int) ∧ (L.length : Int) = (L.length : Int)) then (bif decide (chkN L = 0 ∧ (fldF k t v).length = 5 ∧ (L.length : Int) = (L.length : Int) ∧ (0 : Int) = 0 ∧ List.replicate ((L.length : Int)).toNat 0 = List.replicate L.length (0 : Int)) then avO L 0 (valN (fldF k t v) L) else none) else none := by kernel_rfl
def avN (k t v : Int) (L : List Nod) : List Int := bif decide ((kOf L).2.2 = 0) then valN (fldF k t v) L else []
def sAllE : FSpec
  | [.slw 0, .agg [.int .i64 k, .int .i64 t, .int .i64 v]], [⟨false, .nodes L⟩] => .leaf ⟨[.slw 0, .int .i64 (kOf L).2.2], [⟨true, .ints .i64 (avN k t v L)⟩]⟩
  | _, _ => .bad
theorem kOf_chk {L : List Nod} (h : (kOf L).2.2 = 0) : chkN L = 0 := by
  unfold kOf at h
  by_cases hc : chkN L = 0
  · exact hc
  · rw [decide_eq_false hc] at h
    exact (hc h).elim
theorem okAllE : FnOk (E0 B) 50 sAllE := by
  refine fnL lE_ok (ls := [eEv]) Tryz.func50 (by kernel_rfl) (by kernel_rfl) (fun x hx => ?_) fun vs bs r h => ?_
  · simp only [List.mem_singleton] at hx; subst hx
    exact ⟨bEv, by kernel_rfl, rfl, loopEv⟩
  unfold sAllE at h
  split at h
  · rename_i k t v L
    simp only [T.sel, Option.some.injEq] at h; subst h
    refine (tAllE L k t v).trans ?_
    unfold avN
    by_cases he : (kOf L).2.2 = 0
    · have hc := kOf_chk he
      have hl := (chk_len hc).2
      rw [decide_eq_true he, decide_eq_true (show 0 ≤ (L.length : Int) ∧ (L.length : Int) ≤ (lim : Int) ∧ (L.length : Int) = (L.length : Int) from ⟨by omega, Int.ofNat_le.2 (show L.length ≤ lim by simp only [lim]; omega), rfl⟩),
        decide_eq_true (show chkN L = 0 ∧ (fldF k t v).length = 5 ∧ (L.length : Int) = (L.length : Int) ∧ (0 : Int) = 0 ∧ List.replicate ((L.length : Int)).toNat 0 = List.replicate L.length (0 : Int) from ⟨hc, rfl, rfl, rfl, by rw [Int.toNat_natCast]⟩), he]; rfl
    · rw [decide_eq_false he]; rfl
  · simp [T.sel] at h
noncomputable def lF : Tb := (50, [], sAllE) :: lE
theorem lF_ok : TbOk B lF := lE_ok.add okAllE
theorem tOfE (L : List Nod) (k t v : Int) : runT B lF Tryz.f19 [.slw 0, .agg [i64 k, i64 t, i64 v]] [⟨false, .nodes L⟩] =
    bif !decide ((kOf L).2.2 = 0) then rp 0 (kOf L).2.2 else inV (w64 ((avN k t v L).length - 1)) (avN k t v L) (rp ((avN k t v L).getD ((w64 ((avN k t v L).length - 1)).toNat + 0) 0) 0) := by kernel_rfl
def ofN (k t v : Int) (L : List Nod) : Int := bif decide ((kOf L).2.2 = 0) then (valN (fldF k t v) L).getD (L.length - 1) 0 else 0
def sOfE : FSpec
  | [.slw 0, .agg [.int .i64 k, .int .i64 t, .int .i64 v]], [⟨false, .nodes L⟩] => .leaf ⟨[.int .i64 (ofN k t v L), .int .i64 (kOf L).2.2], []⟩
  | _, _ => .bad
theorem okOfE : FnOk (E0 B) 19 sOfE := by
  refine fnT lF_ok Tryz.func19 (by kernel_rfl) (by kernel_rfl) fun vs bs r h => ?_
  unfold sOfE at h
  split at h
  · rename_i k t v L
    simp only [T.sel, Option.some.injEq] at h; subst h
    refine (tOfE L k t v).trans ?_
    unfold ofN
    by_cases he : (kOf L).2.2 = 0
    · have hc := kOf_chk he
      obtain ⟨l1, l2⟩ := chk_len hc
      have hv : avN k t v L = valN (fldF k t v) L := by unfold avN; rw [decide_eq_true he]; rfl
      have hvl : (valN (fldF k t v) L).length = L.length := by unfold valN; rw [valGo_len]; simp
      have hw : w64 (((valN (fldF k t v) L).length : Int) - 1) = ((L.length - 1 : Nat) : Int) := by rw [hvl, w64_rng (show Rng ((L.length : Int) - 1) by unfold Rng; omega)]; omega
      rw [decide_eq_true he, hv, hw, inV_is (by omega) (by rw [hvl]; omega), he]; rfl
    · rw [decide_eq_false he]; rfl
  · simp [T.sel] at h
noncomputable def lL : Tb := (17, [], sTrueF) :: (19, [], sOfE) :: lE
theorem lL_ok (hB : Laid B) : TbOk B lL := (lE_ok.add okOfE).add (okAl10 hB)
def fbC (b : Bool) (z : Option Out) : Option Out := bif b then z else rb false
def cnE (L : List Nod) : Option Out := bif decide (chkN L = 0) then rb true else bif !conB L then rb true else rb false
def cnO (L : List Nod) (k t v k' t' v' : Int) : Option Out := bif decide ((70 : Int) < (L.length : Int)) then rb true else bif !decide (chkN L = 0) then cnE L else bif !conB L then cnE L else
  fbC (decide ((kOf L).2.2 = (kOf L).2.2)) (fbC (decide (ofN k t v L = ofN k' t' v' L)) (rb true))
theorem tConst (L : List Nod) (k t v k' t' v' : Int) : runT B lL Tryz.f4 [.slw 0, .agg [i64 k, i64 t, i64 v], .agg [i64 k', i64 t', i64 v']] [⟨false, .nodes L⟩] = cnO L k t v k' t' v' := by kernel_rfl
theorem const_true (L : List Nod) (k t v k' t' v' : Int) : cnO L k t v k' t' v' = rb true := by
  unfold cnO cnE
  cases decide ((70 : Int) < (L.length : Int)) with
  | true => rfl
  | false =>
  by_cases hc : chkN L = 0
  · rw [decide_eq_true hc]
    cases hb : conB L with
    | false => rfl
    | true =>
      have hf : fixedN L = true := by unfold conB at hb; rw [decide_eq_true hc] at hb; exact hb
      have he : ofN k t v L = ofN k' t' v' L := by
        unfold ofN valN
        rw [valGo_fix (fldF k t v) (fldF k' t' v') L 0 _ hf fun x hx => by
          obtain ⟨j, hj⟩ := List.mem_iff_getElem?.1 hx
          exact (chk_at hc j x hj).k1]
      unfold fbC
      rw [he]
      simp
  · rw [decide_eq_false hc]
    have hb : conB L = false := by unfold conB; rw [decide_eq_false hc]; rfl
    rw [hb]; rfl
def sConst (_ : Nat → Option Obj) : FSpec
  | [.slw 0, .agg [.int .i64 _, .int .i64 _, .int .i64 _], .agg [.int .i64 _, .int .i64 _, .int .i64 _]], [⟨false, .nodes _⟩] => .leaf ⟨[.bool true], []⟩
  | _, _ => .bad
theorem okConst (hB : Laid B) : FnOk (E0 B) 4 (sConst B) := by
  refine fnT (lL_ok hB) Tryz.func4 (by kernel_rfl) (by kernel_rfl) fun vs bs r h => ?_
  unfold sConst at h
  split at h
  · rename_i k t v k' t' v' L
    simp only [T.sel, Option.some.injEq] at h; subst h
    exact (tConst L k t v k' t' v').trans (const_true L k t v k' t' v')
  · simp [T.sel] at h
structure Rec3 where
  k : Int
  t : Int
  v : Int
def Rec3.av (r : Rec3) : AV := .agg [.int .i64 r.k, .int .i64 r.t, .int .i64 r.v]
def ckRec : List CK := [.int .i64, .int .i64, .int .i64]
theorem rec_arg {w : World} {r : Reach} {base : Nat} {v : Value} (hval : Value.okWide Tryz.prog w r base 42 v) : ∃ e : Rec3, V (fun _ => none) e.av v ∧ True := by
  obtain ⟨xs, h, hv⟩ := struct_arg (ts := [2, 2, 2]) ckRec Tryz.underlying42 (by kernel_rfl) (by kernel_rfl)
    ⟨Tryz.underlying2, Tryz.underlying2, Tryz.underlying2, trivial⟩ hval
  unfold ckRec at h
  match xs, h with
  | [.int _ a, .int _ b, .int _ c], h =>
    simp only [ckAV] at h
    obtain ⟨rfl, _, rfl, _, rfl, _, _⟩ := h
    exact ⟨⟨a, b, c⟩, hv, trivial⟩
theorem rec_any {ρ : Rho} {e : Rec3} {v : Value} (h : V (fun _ => none) e.av v) : V ρ e.av v := by
  unfold Rec3.av at h ⊢
  simp only [V, VL] at h ⊢
  exact h
theorem sConst_sel (r s : Rec3) (L : List Nod) : (sConst B [.slw 0, r.av, s.av] [⟨false, .nodes L⟩]).sel = some ⟨[.bool true], []⟩ := rfl
end Go.Proofs.YtdckpbeioemopabGreatDoor.Cn
