/-
  Texts put together: GrPure, GrFn, GrVal.
-/
import Derived.Test.YtdckpbeioemopaaAmC
import Derived.Test.YtdckpbeioemopaaClsA
import Derived.Test.YtdckpbeioemopaaLibA
namespace Go.Am
def inpN (C : List Chn) (p : Int) : Int := ((C.filter fun c => decide (c.dst = p)).length : Int)
def outpN (C : List Chn) (p : Int) : Int := ((C.filter fun c => decide (c.src = p)).length : Int)
def cAt (C : List Chn) (i : Int) : Chn := C.getD i.toNat default
def badC (d c : Chn) : Bool := bif decide (c.src < d.src) then true else bif decide (d.src = c.src) && decide (c.out ≤ d.out) then true else decide (d.dst = c.dst) && decide (d.inp = c.inp)
def apN (C : List Chn) (i : Nat) : Bool := !(List.range' 0 i).any fun k => badC (C.getD k default) (C.getD i default)
def rchGo (f : Int) : List Chn → List Bool → List Bool
  | [], R => R
  | c :: r, R => rchGo f r (bif decide (c.src = f) || R.getD c.src.toNat false then R.set c.dst.toNat true else R)
def rchIt (f : Int) (C : List Chn) : Nat → List Bool → List Bool
  | 0, R => R
  | k + 1, R => rchIt f C k (rchGo f C R)
def reachN (n : Nat) (C : List Chn) (f : Int) : List Bool := rchIt f C (n + 1) (List.replicate n false)
def bndC (n : Nat) (C : List Chn) : Bool := C.all fun c => decide (0 ≤ c.src ∧ c.src < (n : Int) ∧ 0 ≤ c.dst ∧ c.dst < (n : Int))
theorem bndC_mem {n : Nat} {C : List Chn} (h : bndC n C = true) {c : Chn} (hc : c ∈ C) : 0 ≤ c.src ∧ c.src < (n : Int) ∧ 0 ≤ c.dst ∧ c.dst < (n : Int) := of_decide_eq_true (List.all_eq_true.1 h c hc)
theorem rchGo_len (f : Int) : ∀ (C : List Chn) (R : List Bool), (rchGo f C R).length = R.length
  | [], _ => rfl
  | c :: r, R => by
    unfold rchGo
    rw [rchGo_len f r]
    cases decide (c.src = f) || R.getD c.src.toNat false <;> simp
theorem rchIt_len (f : Int) (C : List Chn) : ∀ (k : Nat) (R : List Bool), (rchIt f C k R).length = R.length
  | 0, _ => rfl
  | k + 1, R => by
    unfold rchIt
    rw [rchIt_len f C k, rchGo_len]
theorem reachN_len (n : Nat) (C : List Chn) (f : Int) : (reachN n C f).length = n := by
  unfold reachN
  rw [rchIt_len]; simp
theorem chn_drop {C : List Chn} {i : Nat} {c : Chn} {r : List Chn} (h : C.drop i = c :: r) : i < C.length ∧ C.getD i default = c ∧ C.drop (i + 1) = r := by
  have hlt : i < C.length := by
    rcases Nat.lt_or_ge i C.length with h1 | h1
    · exact h1
    · rw [List.drop_eq_nil_of_le h1] at h; cases h
  have h1 : C[i]? = some c := by
    have := List.getElem?_drop (xs := C) (i := i) (j := 0)
    rw [h] at this
    simpa using this.symm
  exact ⟨hlt, by rw [List.getD, h1]; rfl, by rw [← List.drop_drop, h]; rfl⟩
def manyN (k a b : Int) : Bool :=
  bif decide (k = 1) then decide (a = 0) && decide (b = 1) else bif decide (k = 2) then decide (a = 1) && (decide (1 ≤ b) && decide (b ≤ 2)) else bif decide (k = 3) then decide (a = 1) && (decide (1 ≤ b) && decide (b ≤ 3))
  else bif decide (k = 4) then (decide (1 ≤ a) && decide (a ≤ 4)) && decide (b = 1) else bif decide (k = 5) then decide (a = 2) && decide (b = 1) else bif decide (k = 6) then (decide (1 ≤ a) && decide (a ≤ 3)) && decide (b = 0)
  else bif decide (k = 7) then (decide (1 ≤ a) && decide (a ≤ 4)) && decide (b = 0) else false
def chOk (n : Nat) (c : Chn) : Bool := decide (0 ≤ c.src ∧ 0 ≤ c.dst ∧ c.src < (n : Int) ∧ c.dst < (n : Int) ∧ 1 ≤ c.room ∧ c.room ≤ 8)
def ch2 (C : List Chn) (i : Nat) : Bool := apN C i && (decide (0 ≤ (C.getD i default).out) && (decide ((C.getD i default).out < outpN C (C.getD i default).src) && (decide (0 ≤ (C.getD i default).inp) && decide ((C.getD i default).inp < inpN C (C.getD i default).dst))))
def opOk (O : List Opr) (C : List Chn) (i : Nat) : Bool := decide (0 ≤ (O.getD i default).n ∧ (O.getD i default).n ≤ 3) && (manyN (O.getD i default).kind (inpN C i) (outpN C i) && !(reachN O.length C i).getD i false)
def validN (O : List Opr) (C : List Chn) : Bool := (C.all (chOk O.length)) && ((List.range' 0 C.length).all (ch2 C) && (List.range' 0 O.length).all (opOk O C))
theorem chOk_bnd {n : Nat} {C : List Chn} (h : C.all (chOk n) = true) : bndC n C = true := List.all_eq_true.2 fun c hc => by
  have := List.all_eq_true.1 h c hc
  unfold chOk at this
  have := of_decide_eq_true this
  exact decide_eq_true (by omega)
end Go.Am
namespace Go.Proofs.Ytdckpbeioemopaa.Gr
open Go.Am Go Go.Proofs.Ytdckpbeioemopaa
set_option maxRecDepth 100000
variable {B : Nat → Option Obj}
def gTy : List TypeId := [31, 32]
def cTy : List TypeId := [3, 3, 3, 3, 3]
def gBx (a b : Nat) : Blk := ⟨true, .gen gTy [[.slw a, .slw b]]⟩
def ob (O : List Opr) : Blk := ⟨false, .oprs O⟩
def cb (C : List Chn) : Blk := ⟨false, .chns C⟩
def cBx (c : Chn) : Blk := ⟨true, .gen cTy [[i64 c.src, i64 c.out, i64 c.dst, i64 c.inp, i64 c.room]]⟩
noncomputable def bInp : Code := loopAt 3 (loopsOf (bodyC Try.f33))
noncomputable def bOut : Code := loopAt 3 (loopsOf (bodyC Try.f32))
def sgIo : LSig := { cs := [(1, 0), (2, 0)], mv := [(5, 0), (6, 0)], mo := [(5, 0)], take := [] }
def vIo (p n i : Int) : List AV := [i64 p, .ptr 0 0 0, i64 n, i64 i]
def bsG (O : List Opr) (C : List Chn) : List Blk := [gBx 1 2, ob O, cb C]
noncomputable def bAp : Code := loopAt 3 (loopsOf (bodyC Try.f31))
def sgAp : LSig := { cs := [(1, 0), (2, 0), (5, 0)], mv := [(6, 0)], mo := [(4, 0)], take := [] }
def vAp (i k : Int) : List AV := [i64 i, .ptr 0 0 0, .ptr 1 0 0, i64 k]
def bsAp (O : List Opr) (C : List Chn) (c : Chn) : List Blk := [gBx 2 3, cBx c, ob O, cb C]
noncomputable def bRo : Code := loopAt 3 (loopsOf (bodyC Try.f35))
noncomputable def bRi : Code := loopAt 6 (loopsOf bRo)
def sgRi : LSig := { cs := [(1, 0), (2, 0)], mv := [(5, 0), (7, 0)], mo := [(5, 0)], take := [1] }
def sgRo : LSig := { cs := [(1, 0), (2, 0)], mv := [(5, 0), (6, 0)], mo := [(5, 0)], take := [1] }
def vR (f i : Int) : List AV := [i64 f, .ptr 0 0 0, .slw 1, i64 i]
def bsR (O : List Opr) (C : List Chn) (R : List Bool) : List Blk := [gBx 2 3, ⟨true, .bools R⟩, ob O, cb C]
theorem turnInp (O : List Opr) (C : List Chn) (p n i : Int) : (turn (E0 B) (Cx B Ck.lib15) noL 25 sgIo bInp (vIo p n i) (bsG O C)).sel =
    bif decide (i < (C.length : Int)) then Ck.inb i C.length (bif decide ((cAt C i).dst = p) then some (.normal, ⟨vIo p (w64 (n + 1)) (w64 (i + 1)), bsG O C⟩) else some (.normal, ⟨vIo p n (w64 (i + 1)), bsG O C⟩)) else some (.exit 0, ⟨[i64 n], bsG O C⟩) := by kernel_rfl
theorem runInp (O : List Opr) (C : List Chn) (p : Int) (hC : C.length ≤ 1000) : ∀ (r : List Chn) (i n : Nat), C.drop i = r → i ≤ C.length → n ≤ i →
    ∃ m, (turns (E0 B) (Cx B Ck.lib15) noL 25 sgIo bInp m (vIo p n i) (bsG O C)).sel = some (.exit 0, ⟨[i64 ((n : Int) + inpN r p)], bsG O C⟩)
  | [], i, n, hr, hi, hn => by
    have : C.length ≤ i := List.drop_eq_nil_iff.1 hr
    refine ⟨1, turns_done ((turnInp O C p n i).trans ?_) (by simp)⟩
    rw [decide_eq_false (by omega), cond_false, show inpN [] p = 0 from rfl, Int.add_zero]
  | c :: r, i, n, hr, hi, hn => by
    obtain ⟨d1, d2, d3⟩ := chn_drop hr
    have ht := turnInp (B := B) O C p n i
    have hc : cAt C (i : Int) = c := by unfold cAt; rw [Int.toNat_natCast]; exact d2
    have hw : w64 ((i : Int) + 1) = ((i + 1 : Nat) : Int) := by rw [w64_rng (show Rng ((i : Int) + 1) by unfold Rng; omega)]; omega
    have hw2 : w64 ((n : Int) + 1) = ((n + 1 : Nat) : Int) := by rw [w64_rng (show Rng ((n : Int) + 1) by unfold Rng; omega)]; omega
    rw [decide_eq_true (show (i : Int) < (C.length : Int) by omega), cond_true, Ck.inb_is d1, hc, hw, hw2] at ht
    by_cases h : c.dst = p
    · rw [decide_eq_true h, cond_true] at ht
      obtain ⟨m, hm⟩ := runInp O C p hC r (i + 1) (n + 1) d3 (by omega) (by omega)
      refine ⟨m + 1, (turns_more' ht).trans (hm.trans ?_)⟩
      have e : inpN (c :: r) p = 1 + inpN r p := by
        unfold inpN
        rw [List.filter_cons, decide_eq_true h, if_pos rfl, List.length_cons]; omega
      rw [e, show ((n + 1 : Nat) : Int) + inpN r p = (n : Int) + (1 + inpN r p) by omega]
    · rw [decide_eq_false h, cond_false] at ht
      obtain ⟨m, hm⟩ := runInp O C p hC r (i + 1) n d3 (by omega) (by omega)
      refine ⟨m + 1, (turns_more' ht).trans (hm.trans ?_)⟩
      have e : inpN (c :: r) p = inpN r p := by
        unfold inpN
        rw [List.filter_cons, decide_eq_false h, if_neg (by decide)]
      rw [e]
def spInp : LSpec
  | [.int .i64 p, .ptr 0 0 0, .int .i64 n, .int .i64 i], [⟨true, .gen ty [[.slw 1, .slw 2]]⟩, ⟨false, .oprs O⟩, ⟨false, .chns C⟩] => .node (decide (ty = gTy) && decide (n = 0 ∧ i = 0 ∧ C.length ≤ 1000)) (.leaf (.exit 0, ⟨[i64 (inpN C p)], bsG O C⟩)) .bad
  | _, _ => .bad
theorem loopInp : LoopOk (E0 B) 25 sgIo bInp spInp := by
  refine loop_turns (C := Cx B Ck.lib15) (L := noL) (cxOk Ck.lib15_ok) (noL_ok _) fun vs bs e o h => ?_
  unfold spInp at h
  split at h
  · rename_i p n i ty O C
    rcases T.node_sel h with ⟨hc, h2⟩ | ⟨_, h2⟩
    · rw [Bool.and_eq_true] at hc
      have hty := of_decide_eq_true hc.1
      subst hty
      obtain ⟨rfl, rfl, hC⟩ := of_decide_eq_true hc.2
      obtain ⟨m, hm⟩ := runInp (B := B) O C p hC C 0 0 rfl (Nat.zero_le _) (Nat.le_refl _)
      refine ⟨m, hm.trans ?_⟩
      rw [← h2, show (((0 : Nat) : Int) + inpN C p) = inpN C p by omega]; rfl
    · simp [T.sel] at h2
  · simp [T.sel] at h
noncomputable def eInp : LEnt := { id := 3, n := 25, sg := sgIo, wr := writes bInp, s := spInp }
theorem tInp (O : List Opr) (C : List Chn) (p : Int) : runL B Ck.lib15 [eInp] Try.f33 [.agg [.slw 0, .slw 1], i64 p] [ob O, cb C] = bif decide (gTy = gTy) && decide ((0 : Int) = 0 ∧ (0 : Int) = 0 ∧ C.length ≤ 1000) then some ⟨[i64 (inpN C p)], []⟩ else none := by kernel_rfl
def sInp : FSpec
  | [.agg [.slw 0, .slw 1], .int .i64 p], [⟨false, .oprs _⟩, ⟨false, .chns C⟩] => .node (decide (C.length ≤ 1000)) (.leaf ⟨[.int .i64 (inpN C p)], []⟩) .bad
  | _, _ => .bad
theorem okInp : FnOk (E0 B) 33 sInp := by
  refine fnL Ck.lib15_ok (ls := [eInp]) Try.func33 (by kernel_rfl) (by kernel_rfl) (fun x hx => ?_) fun vs bs r h => ?_
  · simp only [List.mem_singleton] at hx; subst hx
    exact ⟨bInp, by kernel_rfl, rfl, loopInp⟩
  unfold sInp at h
  split at h
  · rename_i p O C
    rcases T.node_sel h with ⟨hc, h2⟩ | ⟨_, h2⟩
    · simp only [T.sel, Option.some.injEq] at h2; subst h2
      refine (tInp O C p).trans ?_
      rw [decide_eq_true (rfl : gTy = gTy), decide_eq_true (show (0 : Int) = 0 ∧ (0 : Int) = 0 ∧ C.length ≤ 1000 from ⟨rfl, rfl, of_decide_eq_true hc⟩)]; rfl
    · simp [T.sel] at h2
  · simp [T.sel] at h
theorem turnOut (O : List Opr) (C : List Chn) (p n i : Int) : (turn (E0 B) (Cx B Ck.lib15) noL 25 sgIo bOut (vIo p n i) (bsG O C)).sel =
    bif decide (i < (C.length : Int)) then Ck.inb i C.length (bif decide ((cAt C i).src = p) then some (.normal, ⟨vIo p (w64 (n + 1)) (w64 (i + 1)), bsG O C⟩) else some (.normal, ⟨vIo p n (w64 (i + 1)), bsG O C⟩)) else some (.exit 0, ⟨[i64 n], bsG O C⟩) := by kernel_rfl
theorem runOut (O : List Opr) (C : List Chn) (p : Int) (hC : C.length ≤ 1000) : ∀ (r : List Chn) (i n : Nat), C.drop i = r → i ≤ C.length → n ≤ i →
    ∃ m, (turns (E0 B) (Cx B Ck.lib15) noL 25 sgIo bOut m (vIo p n i) (bsG O C)).sel = some (.exit 0, ⟨[i64 ((n : Int) + outpN r p)], bsG O C⟩)
  | [], i, n, hr, hi, hn => by
    have : C.length ≤ i := List.drop_eq_nil_iff.1 hr
    refine ⟨1, turns_done ((turnOut O C p n i).trans ?_) (by simp)⟩
    rw [decide_eq_false (by omega), cond_false, show outpN [] p = 0 from rfl, Int.add_zero]
  | c :: r, i, n, hr, hi, hn => by
    obtain ⟨d1, d2, d3⟩ := chn_drop hr
    have ht := turnOut (B := B) O C p n i
    have hc : cAt C (i : Int) = c := by unfold cAt; rw [Int.toNat_natCast]; exact d2
    have hw : w64 ((i : Int) + 1) = ((i + 1 : Nat) : Int) := by rw [w64_rng (show Rng ((i : Int) + 1) by unfold Rng; omega)]; omega
    have hw2 : w64 ((n : Int) + 1) = ((n + 1 : Nat) : Int) := by rw [w64_rng (show Rng ((n : Int) + 1) by unfold Rng; omega)]; omega
    rw [decide_eq_true (show (i : Int) < (C.length : Int) by omega), cond_true, Ck.inb_is d1, hc, hw, hw2] at ht
    by_cases h : c.src = p
    · rw [decide_eq_true h, cond_true] at ht
      obtain ⟨m, hm⟩ := runOut O C p hC r (i + 1) (n + 1) d3 (by omega) (by omega)
      refine ⟨m + 1, (turns_more' ht).trans (hm.trans ?_)⟩
      have e : outpN (c :: r) p = 1 + outpN r p := by
        unfold outpN
        rw [List.filter_cons, decide_eq_true h, if_pos rfl, List.length_cons]; omega
      rw [e, show ((n + 1 : Nat) : Int) + outpN r p = (n : Int) + (1 + outpN r p) by omega]
    · rw [decide_eq_false h, cond_false] at ht
      obtain ⟨m, hm⟩ := runOut O C p hC r (i + 1) n d3 (by omega) (by omega)
      refine ⟨m + 1, (turns_more' ht).trans (hm.trans ?_)⟩
      have e : outpN (c :: r) p = outpN r p := by
        unfold outpN
        rw [List.filter_cons, decide_eq_false h, if_neg (by decide)]
      rw [e]
def spOut : LSpec
  | [.int .i64 p, .ptr 0 0 0, .int .i64 n, .int .i64 i], [⟨true, .gen ty [[.slw 1, .slw 2]]⟩, ⟨false, .oprs O⟩, ⟨false, .chns C⟩] => .node (decide (ty = gTy) && decide (n = 0 ∧ i = 0 ∧ C.length ≤ 1000)) (.leaf (.exit 0, ⟨[i64 (outpN C p)], bsG O C⟩)) .bad
  | _, _ => .bad
theorem loopOut : LoopOk (E0 B) 25 sgIo bOut spOut := by
  refine loop_turns (C := Cx B Ck.lib15) (L := noL) (cxOk Ck.lib15_ok) (noL_ok _) fun vs bs e o h => ?_
  unfold spOut at h
  split at h
  · rename_i p n i ty O C
    rcases T.node_sel h with ⟨hc, h2⟩ | ⟨_, h2⟩
    · rw [Bool.and_eq_true] at hc
      have hty := of_decide_eq_true hc.1
      subst hty
      obtain ⟨rfl, rfl, hC⟩ := of_decide_eq_true hc.2
      obtain ⟨m, hm⟩ := runOut (B := B) O C p hC C 0 0 rfl (Nat.zero_le _) (Nat.le_refl _)
      refine ⟨m, hm.trans ?_⟩
      rw [← h2, show (((0 : Nat) : Int) + outpN C p) = outpN C p by omega]; rfl
    · simp [T.sel] at h2
  · simp [T.sel] at h
noncomputable def eOut : LEnt := { id := 3, n := 25, sg := sgIo, wr := writes bOut, s := spOut }
theorem tOut (O : List Opr) (C : List Chn) (p : Int) : runL B Ck.lib15 [eOut] Try.f32 [.agg [.slw 0, .slw 1], i64 p] [ob O, cb C] = bif decide (gTy = gTy) && decide ((0 : Int) = 0 ∧ (0 : Int) = 0 ∧ C.length ≤ 1000) then some ⟨[i64 (outpN C p)], []⟩ else none := by kernel_rfl
def sOut : FSpec
  | [.agg [.slw 0, .slw 1], .int .i64 p], [⟨false, .oprs _⟩, ⟨false, .chns C⟩] => .node (decide (C.length ≤ 1000)) (.leaf ⟨[.int .i64 (outpN C p)], []⟩) .bad
  | _, _ => .bad
theorem okOut : FnOk (E0 B) 32 sOut := by
  refine fnL Ck.lib15_ok (ls := [eOut]) Try.func32 (by kernel_rfl) (by kernel_rfl) (fun x hx => ?_) fun vs bs r h => ?_
  · simp only [List.mem_singleton] at hx; subst hx
    exact ⟨bOut, by kernel_rfl, rfl, loopOut⟩
  unfold sOut at h
  split at h
  · rename_i p O C
    rcases T.node_sel h with ⟨hc, h2⟩ | ⟨_, h2⟩
    · simp only [T.sel, Option.some.injEq] at h2; subst h2
      refine (tOut O C p).trans ?_
      rw [decide_eq_true (rfl : gTy = gTy), decide_eq_true (show (0 : Int) = 0 ∧ (0 : Int) = 0 ∧ C.length ≤ 1000 from ⟨rfl, rfl, of_decide_eq_true hc⟩)]; rfl
    · simp [T.sel] at h2
  · simp [T.sel] at h
def apR (O : List Opr) (C : List Chn) (c : Chn) : Option (AExit × Out) := some (.ret, ⟨[.bool false], bsAp O C c⟩)
def apG (O : List Opr) (C : List Chn) (c : Chn) (i k : Int) : Option (AExit × Out) := some (.normal, ⟨vAp i (w64 (k + 1)), bsAp O C c⟩)
def apI (d c : Chn) (x y : Option (AExit × Out)) : Option (AExit × Out) := bif decide (d.dst = c.dst) then (bif decide (d.inp = c.inp) then x else y) else y
def apO (c d : Chn) (x y : Option (AExit × Out)) : Option (AExit × Out) := bif decide (c.src < d.src) then x else bif decide (d.src = c.src) then (bif decide (c.out ≤ d.out) then x else apI d c x y) else apI d c x y
theorem turnAp (O : List Opr) (C : List Chn) (c : Chn) (i k : Int) : (turn (E0 B) (Cx B Ck.lib15) noL 56 sgAp bAp (vAp i k) (bsAp O C c)).sel =
    bif decide (k < i) then Ck.inb k C.length (apO c (cAt C k) (apR O C c) (apG O C c i k)) else some (.exit 0, ⟨[.any], bsAp O C c⟩) := by kernel_rfl
theorem apO_is (c d : Chn) (x y : Option (AExit × Out)) : apO c d x y = bif badC d c then x else y := by
  unfold apO apI badC
  cases decide (c.src < d.src) <;> cases decide (d.src = c.src) <;> cases decide (c.out ≤ d.out) <;> cases decide (d.dst = c.dst) <;> cases decide (d.inp = c.inp) <;> rfl
def rGo (O : List Opr) (C : List Chn) (f i : Int) (R : List Bool) : Option (AExit × Out) := some (.normal, ⟨vR f (w64 (i + 1)), bsR O C R⟩)
def inR' {α : Type} (p : Int) (R : List Bool) (z : Option α) : Option α := bif decide (0 ≤ p ∧ p < (R.length : Int)) then (bif decide (p.toNat < R.length) then z else none) else none
def rSet (O : List Opr) (C : List Chn) (f i : Int) (R : List Bool) (c : Chn) : Option (AExit × Out) := inR' c.dst R (rGo O C f i (R.set c.dst.toNat true))
theorem turnRi (O : List Opr) (C : List Chn) (R : List Bool) (f i : Int) : (turn (E0 B) (Cx B Ck.lib15) noL 48 sgRi bRi (vR f i) (bsR O C R)).sel =
    bif decide (i < (C.length : Int)) then Ck.inb i C.length (bif decide ((cAt C i).src = f) then rSet O C f i R (cAt C i) else inR' (cAt C i).src R (bif R.getD (cAt C i).src.toNat false then rSet O C f i R (cAt C i) else rGo O C f i R)) else some (.exit 2, ⟨[.slw 1], bsR O C R⟩) := by kernel_rfl
def spAp : LSpec
  | [.int .i64 i, .ptr 0 0 0, .ptr 1 0 0, .int .i64 k], [⟨true, .gen ty [[.slw 2, .slw 3]]⟩, ⟨true, .gen tz [[.int .i64 a, .int .i64 b, .int .i64 c, .int .i64 d, .int .i64 e]]⟩, ⟨false, .oprs O⟩, ⟨false, .chns C⟩] =>
    .node (decide (ty = gTy ∧ tz = cTy) && decide (k = 0 ∧ 0 ≤ i ∧ i ≤ (C.length : Int) ∧ C.length ≤ 1000)) (.node ((List.range' 0 i.toNat).any fun k => badC (C.getD k default) ⟨a, b, c, d, e⟩) (.leaf (.ret, ⟨[.bool false], bsAp O C ⟨a, b, c, d, e⟩⟩)) (.leaf (.exit 0, ⟨[.any], bsAp O C ⟨a, b, c, d, e⟩⟩))) .bad
  | _, _ => .bad
theorem loopAp : LoopOk (E0 B) 56 sgAp bAp spAp := by
  refine loop_turns (C := Cx B Ck.lib15) (L := noL) (cxOk Ck.lib15_ok) (noL_ok _) fun vs bs e o h => ?_
  unfold spAp at h
  split at h
  · rename_i i k ty tz a b c d e' O C
    rcases T.node_sel h with ⟨hc, h2⟩ | ⟨_, h2⟩
    · rw [Bool.and_eq_true] at hc
      obtain ⟨rfl, rfl⟩ := of_decide_eq_true hc.1
      obtain ⟨rfl, h0, h1, hC⟩ := of_decide_eq_true hc.2
      obtain ⟨n, rfl⟩ : ∃ n : Nat, i = (n : Int) := ⟨i.toNat, by omega⟩
      obtain ⟨m, hm⟩ := scan_turns (E := E0 B) (C := Cx B Ck.lib15) (L := noL) (n := 56) (sg := sgAp) (body := bAp) (st := fun k => vAp n k) (bs := bsAp O C ⟨a, b, c, d, e'⟩) (len := n) (bad := fun k => badC (C.getD k default) ⟨a, b, c, d, e'⟩) (ob := fun _ => ⟨[.bool false], bsAp O C ⟨a, b, c, d, e'⟩⟩) (k := 0) (oe := ⟨[.any], bsAp O C ⟨a, b, c, d, e'⟩⟩)
        (fun k hk => by
          refine (turnAp O C ⟨a, b, c, d, e'⟩ n k).trans ?_
          by_cases hlt : k < n
          · rw [decide_eq_true (show (k : Int) < (n : Int) by omega), decide_eq_true hlt, cond_true, cond_true, Ck.inb_is (by omega), apO_is]
            unfold apG cAt
            rw [Int.toNat_natCast, w64_rng (show Rng ((k : Int) + 1) by unfold Rng; omega)]; rfl
          · rw [decide_eq_false (show ¬ (k : Int) < (n : Int) by omega), decide_eq_false hlt]; rfl) n 0 (by omega)
      refine ⟨m, hm.trans ?_⟩
      have hf := firstB_any (fun k => badC (C.getD k default) ⟨a, b, c, d, e'⟩) n 0
      rw [Nat.zero_add] at hf
      rw [hf, ← h2, Int.toNat_natCast]
      rfl
    · simp [T.sel] at h2
  · simp [T.sel] at h
noncomputable def eAp : LEnt := { id := 3, n := 56, sg := sgAp, wr := writes bAp, s := spAp }
theorem tAp (O : List Opr) (C : List Chn) (i : Int) : runL B Ck.lib15 [eAp] Try.f31 [.agg [.slw 0, .slw 1], i64 i] [ob O, cb C] =
    Ck.inb i C.length (bif decide (gTy = gTy ∧ cTy = cTy) && decide ((0 : Int) = 0 ∧ 0 ≤ i ∧ i ≤ (C.length : Int) ∧ C.length ≤ 1000) then (bif (List.range' 0 i.toNat).any (fun k => badC (C.getD k default) ⟨(cAt C i).src, (cAt C i).out, (cAt C i).dst, (cAt C i).inp, (cAt C i).room⟩) then rb false else rb true) else none) := by kernel_rfl
def sAp : FSpec
  | [.agg [.slw 0, .slw 1], .int .i64 i], [⟨false, .oprs _⟩, ⟨false, .chns C⟩] => .node (decide (0 ≤ i ∧ i < (C.length : Int) ∧ C.length ≤ 1000)) (.leaf ⟨[.bool (apN C i.toNat)], []⟩) .bad
  | _, _ => .bad
theorem okAp : FnOk (E0 B) 31 sAp := by
  refine fnL Ck.lib15_ok (ls := [eAp]) Try.func31 (by kernel_rfl) (by kernel_rfl) (fun x hx => ?_) fun vs bs r h => ?_
  · simp only [List.mem_singleton] at hx; subst hx
    exact ⟨bAp, by kernel_rfl, rfl, loopAp⟩
  unfold sAp at h
  split at h
  · rename_i i O C
    rcases T.node_sel h with ⟨hc, h2⟩ | ⟨_, h2⟩
    · simp only [T.sel, Option.some.injEq] at h2; subst h2
      obtain ⟨h0, h1, hC⟩ := of_decide_eq_true hc
      refine (tAp O C i).trans ?_
      obtain ⟨n, rfl⟩ : ∃ n : Nat, i = (n : Int) := ⟨i.toNat, by omega⟩
      rw [Ck.inb_is (by omega), decide_eq_true (show gTy = gTy ∧ cTy = cTy from ⟨rfl, rfl⟩), decide_eq_true (show (0 : Int) = 0 ∧ (0 : Int) ≤ (n : Int) ∧ (n : Int) ≤ (C.length : Int) ∧ C.length ≤ 1000 by omega)]
      have e : apN C ((n : Int)).toNat = !(List.range' 0 ((n : Int)).toNat).any (fun k => badC (C.getD k default) ⟨(cAt C n).src, (cAt C n).out, (cAt C n).dst, (cAt C n).inp, (cAt C n).room⟩) := rfl
      rw [e]
      cases (List.range' 0 ((n : Int)).toNat).any (fun k => badC (C.getD k default) ⟨(cAt C n).src, (cAt C n).out, (cAt C n).dst, (cAt C n).inp, (cAt C n).room⟩) <;> rfl
    · simp [T.sel] at h2
  · simp [T.sel] at h
theorem inR'_is {α : Type} {p : Int} {R : List Bool} (h0 : 0 ≤ p) (h1 : p < (R.length : Int)) (z : Option α) : inR' p R z = z := by
  unfold inR'
  rw [decide_eq_true ⟨h0, h1⟩, decide_eq_true (show p.toNat < R.length by omega)]; rfl
theorem runRi (O : List Opr) (C : List Chn) (f : Int) (hC : C.length ≤ 1000) (n : Nat) (hb : bndC n C = true) : ∀ (r : List Chn) (i : Nat) (R : List Bool), C.drop i = r → i ≤ C.length → R.length = n →
    ∃ m, (turns (E0 B) (Cx B Ck.lib15) noL 48 sgRi bRi m (vR f i) (bsR O C R)).sel = some (.exit 2, ⟨[.slw 1], bsR O C (rchGo f r R)⟩)
  | [], i, R, hr, hi, hn => by
    have : C.length ≤ i := List.drop_eq_nil_iff.1 hr
    refine ⟨1, turns_done ((turnRi O C R f i).trans ?_) (by simp)⟩
    rw [decide_eq_false (by omega)]; rfl
  | c :: r, i, R, hr, hi, hn => by
    obtain ⟨d1, d2, d3⟩ := chn_drop hr
    have hmem : c ∈ C := List.mem_of_mem_drop (by rw [hr]; exact List.mem_cons_self)
    obtain ⟨b1, b2, b3, b4⟩ := bndC_mem hb hmem
    have ht := turnRi (B := B) O C R f i
    have hc : cAt C (i : Int) = c := by unfold cAt; rw [Int.toNat_natCast]; exact d2
    have hw : w64 ((i : Int) + 1) = ((i + 1 : Nat) : Int) := by rw [w64_rng (show Rng ((i : Int) + 1) by unfold Rng; omega)]; omega
    rw [decide_eq_true (show (i : Int) < (C.length : Int) by omega), cond_true, Ck.inb_is d1, hc] at ht
    unfold rSet rGo at ht
    rw [hw, inR'_is b3 (by omega), inR'_is b1 (by omega)] at ht
    have key : (turn (E0 B) (Cx B Ck.lib15) noL 48 sgRi bRi (vR f i) (bsR O C R)).sel = some (.normal, ⟨vR f ((i + 1 : Nat) : Int), bsR O C (bif decide (c.src = f) || R.getD c.src.toNat false then R.set c.dst.toNat true else R)⟩) := by
      rw [ht]
      cases decide (c.src = f) <;> cases R.getD c.src.toNat false <;> rfl
    obtain ⟨m, hm⟩ := runRi O C f hC n hb r (i + 1) _ d3 (by omega) (show (bif decide (c.src = f) || R.getD c.src.toNat false then R.set c.dst.toNat true else R).length = n by
      cases decide (c.src = f) || R.getD c.src.toNat false <;> simpa using hn)
    exact ⟨m + 1, (turns_more' key).trans hm⟩
def spRi : LSpec
  | [.int .i64 f, .ptr 0 0 0, .slw 1, .int .i64 i], [⟨true, .gen ty [[.slw 2, .slw 3]]⟩, ⟨true, .bools R⟩, ⟨false, .oprs O⟩, ⟨false, .chns C⟩] =>
    .node (decide (ty = gTy) && (decide (i = 0 ∧ C.length ≤ 1000) && bndC R.length C)) (.leaf (.exit 2, ⟨[.slw 1], bsR O C (rchGo f C R)⟩)) .bad
  | _, _ => .bad
theorem loopRi : LoopOk (E0 B) 48 sgRi bRi spRi := by
  refine loop_turns (C := Cx B Ck.lib15) (L := noL) (cxOk Ck.lib15_ok) (noL_ok _) fun vs bs e o h => ?_
  unfold spRi at h
  split at h
  · rename_i f i ty R O C
    rcases T.node_sel h with ⟨hc, h2⟩ | ⟨_, h2⟩
    · simp only [Bool.and_eq_true] at hc
      have hty := of_decide_eq_true hc.1
      subst hty
      obtain ⟨rfl, hC⟩ := of_decide_eq_true hc.2.1
      obtain ⟨m, hm⟩ := runRi (B := B) O C f hC R.length hc.2.2 C 0 R rfl (Nat.zero_le _) rfl
      refine ⟨m, hm.trans ?_⟩
      rw [← h2]; rfl
    · simp [T.sel] at h2
  · simp [T.sel] at h
noncomputable def eRi : LEnt := { id := 6, n := 48, sg := sgRi, wr := writes bRi, s := spRi }
noncomputable abbrev LRo (B : Nat → Option Obj) : LoopR := loopL (E0 B) noL [eRi]
theorem turnRo (O : List Opr) (C : List Chn) (R : List Bool) (f i : Int) : (turn (E0 B) (Cx B Ck.lib15) (LRo B) 48 sgRo bRo (vR f i) (bsR O C R)).sel =
    bif decide (i ≤ (O.length : Int)) then (bif decide (gTy = gTy) && (decide ((0 : Int) = 0 ∧ C.length ≤ 1000) && bndC R.length C) then rGo O C f i (rchGo f C R) else none) else some (.exit 0, ⟨[.slw 1], bsR O C R⟩) := by kernel_rfl
theorem runRo (O : List Opr) (C : List Chn) (f : Int) (hC : C.length ≤ 1000) (hO : O.length ≤ 1000) : ∀ (k i : Nat) (R : List Bool), i + k = O.length + 1 → bndC R.length C = true →
    ∃ m, (turns (E0 B) (Cx B Ck.lib15) (LRo B) 48 sgRo bRo m (vR f i) (bsR O C R)).sel = some (.exit 0, ⟨[.slw 1], bsR O C (rchIt f C k R)⟩)
  | 0, i, R, hi, hb => by
    refine ⟨1, turns_done ((turnRo O C R f i).trans ?_) (by simp)⟩
    rw [decide_eq_false (by omega)]; rfl
  | k + 1, i, R, hi, hb => by
    have ht := turnRo (B := B) O C R f i
    have hw : w64 ((i : Int) + 1) = ((i + 1 : Nat) : Int) := by rw [w64_rng (show Rng ((i : Int) + 1) by unfold Rng; omega)]; omega
    unfold rGo at ht
    rw [decide_eq_true (show (i : Int) ≤ (O.length : Int) by omega), decide_eq_true (rfl : gTy = gTy), decide_eq_true (show (0 : Int) = 0 ∧ C.length ≤ 1000 from ⟨rfl, hC⟩), hb, hw] at ht
    obtain ⟨m, hm⟩ := runRo O C f hC hO k (i + 1) (rchGo f C R) (by omega) (by rw [rchGo_len]; exact hb)
    exact ⟨m + 1, (turns_more' ht).trans hm⟩
def spRo : LSpec
  | [.int .i64 f, .ptr 0 0 0, .slw 1, .int .i64 i], [⟨true, .gen ty [[.slw 2, .slw 3]]⟩, ⟨true, .bools R⟩, ⟨false, .oprs O⟩, ⟨false, .chns C⟩] =>
    .node (decide (ty = gTy) && (decide (i = 0 ∧ C.length ≤ 1000 ∧ O.length ≤ 1000) && bndC R.length C)) (.leaf (.exit 0, ⟨[.slw 1], bsR O C (rchIt f C (O.length + 1) R)⟩)) .bad
  | _, _ => .bad
theorem loopRo : LoopOk (E0 B) 48 sgRo bRo spRo := by
  refine loop_turns (C := Cx B Ck.lib15) (L := LRo B) (cxOk Ck.lib15_ok) (loopL_fits (fun x hx => by
    simp only [List.mem_singleton] at hx; subst hx
    exact ⟨bRi, by kernel_rfl, rfl, loopRi⟩) noL_ok) fun vs bs e o h => ?_
  unfold spRo at h
  split at h
  · rename_i f i ty R O C
    rcases T.node_sel h with ⟨hc, h2⟩ | ⟨_, h2⟩
    · simp only [Bool.and_eq_true] at hc
      have hty := of_decide_eq_true hc.1
      subst hty
      obtain ⟨rfl, hC, hO⟩ := of_decide_eq_true hc.2.1
      obtain ⟨m, hm⟩ := runRo (B := B) O C f hC hO (O.length + 1) 0 R (by omega) hc.2.2
      refine ⟨m, hm.trans ?_⟩
      rw [← h2]; rfl
    · simp [T.sel] at h2
  · simp [T.sel] at h
noncomputable def eRo : LEnt := { id := 3, n := 48, sg := sgRo, wr := writes bRo, s := spRo }
end Go.Proofs.Ytdckpbeioemopaa.Gr
namespace Go.Proofs.Ytdckpbeioemopaa.Gr
open Go.Am Go Go.Proofs.Ytdckpbeioemopaa
set_option maxRecDepth 100000
variable {B : Nat → Option Obj}
theorem tRch (O : List Opr) (C : List Chn) (f : Int) : runL B Ck.lib15 [eRo] Try.f35 [.agg [.slw 0, .slw 1], i64 f] [ob O, cb C] =
    bif decide (0 ≤ (O.length : Int) ∧ (O.length : Int) ≤ (lim : Int) ∧ (O.length : Int) = (O.length : Int)) then (bif decide (gTy = gTy) && (decide ((0 : Int) = 0 ∧ C.length ≤ 1000 ∧ O.length ≤ 1000) && bndC (List.replicate ((O.length : Int)).toNat false).length C) then some ⟨[.slw 0], [⟨true, .bools (rchIt f C (O.length + 1) (List.replicate ((O.length : Int)).toNat false))⟩]⟩ else none) else none := by kernel_rfl
def rcG (O : List Opr) (C : List Chn) : Bool := decide (C.length ≤ 1000 ∧ O.length ≤ 1000) && bndC O.length C
def sRch : FSpec
  | [.agg [.slw 0, .slw 1], .int .i64 f], [⟨false, .oprs O⟩, ⟨false, .chns C⟩] => .node (rcG O C) (.leaf ⟨[.slw 0], [⟨true, .bools (reachN O.length C f)⟩]⟩) .bad
  | _, _ => .bad
theorem okRch : FnOk (E0 B) 35 sRch := by
  refine fnL Ck.lib15_ok (ls := [eRo]) Try.func35 (by kernel_rfl) (by kernel_rfl) (fun x hx => ?_) fun vs bs r h => ?_
  · simp only [List.mem_singleton] at hx; subst hx
    exact ⟨bRo, by kernel_rfl, rfl, loopRo⟩
  unfold sRch at h
  split at h
  · rename_i f O C
    rcases T.node_sel h with ⟨hc, h2⟩ | ⟨_, h2⟩
    · simp only [T.sel, Option.some.injEq] at h2; subst h2
      unfold rcG at hc
      rw [Bool.and_eq_true] at hc
      obtain ⟨hC, hO⟩ := of_decide_eq_true hc.1
      refine (tRch O C f).trans ?_
      rw [Int.toNat_natCast, List.length_replicate, hc.2, decide_eq_true (show 0 ≤ (O.length : Int) ∧ (O.length : Int) ≤ (lim : Int) ∧ (O.length : Int) = (O.length : Int) from ⟨by omega, Int.ofNat_le.2 (show O.length ≤ lim by simp only [lim]; omega), rfl⟩),
        decide_eq_true (rfl : gTy = gTy), decide_eq_true (show (0 : Int) = 0 ∧ C.length ≤ 1000 ∧ O.length ≤ 1000 from ⟨rfl, hC, hO⟩)]; rfl
    · simp [T.sel] at h2
  · simp [T.sel] at h
def mnO (k a b : Int) : Option Out :=
  bif decide (k = 1) then (bif decide (a = 0) then rb (decide (b = 1)) else rb false) else bif decide (k = 2) then (bif decide (a = 1) then (bif decide (1 ≤ b) then rb (decide (b ≤ 2)) else rb false) else rb false)
  else bif decide (k = 3) then (bif decide (a = 1) then (bif decide (1 ≤ b) then rb (decide (b ≤ 3)) else rb false) else rb false) else bif decide (k = 4) then (bif decide (1 ≤ a) then (bif decide (a ≤ 4) then rb (decide (b = 1)) else rb false) else rb false)
  else bif decide (k = 5) then (bif decide (a = 2) then rb (decide (b = 1)) else rb false) else bif decide (k = 6) then (bif decide (1 ≤ a) then (bif decide (a ≤ 3) then rb (decide (b = 0)) else rb false) else rb false)
  else bif decide (k = 7) then (bif decide (1 ≤ a) then (bif decide (a ≤ 4) then rb (decide (b = 0)) else rb false) else rb false) else rb false
theorem tMn (k a b : Int) : runT B Ck.lib15 Try.f34 [.int .u8 k, i64 a, i64 b] [] = mnO k a b := by kernel_rfl
theorem mn_is (k a b : Int) : mnO k a b = rb (manyN k a b) := by
  have bif_rb : ∀ (c x : Bool), (bif c then rb x else rb false) = rb (c && x) := fun c x => by cases c <;> rfl
  unfold mnO manyN
  simp only [bif_rb]
  cases decide (k = 1) <;> cases decide (k = 2) <;> cases decide (k = 3) <;> cases decide (k = 4) <;> cases decide (k = 5) <;> cases decide (k = 6) <;> cases decide (k = 7) <;> simp only [cond_true, cond_false, Bool.and_assoc, Bool.true_and, Bool.false_and]
def sMn : FSpec
  | [.int .u8 k, .int .i64 a, .int .i64 b], [] => .leaf ⟨[.bool (manyN k a b)], []⟩
  | _, _ => .bad
theorem okMn : FnOk (E0 B) 34 sMn := by
  refine fnT Ck.lib15_ok Try.func34 (by kernel_rfl) (by kernel_rfl) fun vs bs r h => ?_
  unfold sMn at h
  split at h
  · rename_i k a b
    simp only [T.sel, Option.some.injEq] at h; subst h
    exact (tMn k a b).trans (mn_is k a b)
  · simp [T.sel] at h
noncomputable def libG : Tb := (33, [], sInp) :: (32, [], sOut) :: (31, [], sAp) :: (35, [], sRch) :: (34, [], sMn) :: Ck.lib15
theorem libG_ok : TbOk B libG := ((((Ck.lib15_ok.add okMn).add okRch).add okAp).add okOut).add okInp
noncomputable def bV1 : Code := loopAt 2 (loopsOf (bodyC Try.f22))
noncomputable def bV2 : Code := loopAt 8 (loopsOf (bodyC Try.f22))
noncomputable def bV3 : Code := loopAt 14 (loopsOf (bodyC Try.f22))
def sgV (k : Nat) : LSig := { cs := [(1, 0)], mv := [(k, 0)], mo := [(2, 0)], take := [] }
def vV (i : Int) : List AV := [.ptr 0 0 0, i64 i]
def xV (O : List Opr) (C : List Chn) : Option (AExit × Out) := some (.ret, ⟨[.bool false], bsG O C⟩)
def gV (O : List Opr) (C : List Chn) (i : Int) : Option (AExit × Out) := some (.normal, ⟨vV (w64 (i + 1)), bsG O C⟩)
def eVx (O : List Opr) (C : List Chn) (k : Nat) : Option (AExit × Out) := some (.exit k, ⟨[.any], bsG O C⟩)
def w1 (n : Int) (c : Chn) (x y : Option (AExit × Out)) : Option (AExit × Out) := bif decide (c.src < 0) then x else bif decide (c.dst < 0) then x else bif decide (n ≤ c.src) then x else bif decide (n ≤ c.dst) then x else bif decide (c.room < 1) then x else bif decide (8 < c.room) then x else y
theorem turnV1 (O : List Opr) (C : List Chn) (i : Int) : (turn (E0 B) (Cx B libG) noL 139 (sgV 3) bV1 (vV i) (bsG O C)).sel =
    bif decide (i < (C.length : Int)) then Ck.inb i C.length (w1 O.length (cAt C i) (xV O C) (gV O C i)) else eVx O C 0 := by kernel_rfl
def gd {α : Type} (b : Bool) (z : Option α) : Option α := bif b then z else none
def w2 (C : List Chn) (i : Int) (c : Chn) (x y : Option (AExit × Out)) : Option (AExit × Out) := gd (decide (0 ≤ i ∧ i < (C.length : Int) ∧ C.length ≤ 1000)) (bif !apN C i.toNat then x else bif decide (c.out < 0) then x else gd (decide (C.length ≤ 1000)) (bif decide (outpN C c.src ≤ c.out) then x else bif decide (c.inp < 0) then x else gd (decide (C.length ≤ 1000)) (bif decide (inpN C c.dst ≤ c.inp) then x else y)))
theorem turnV2 (O : List Opr) (C : List Chn) (i : Int) : (turn (E0 B) (Cx B libG) noL 139 (sgV 5) bV2 (vV i) (bsG O C)).sel =
    bif decide (i < (C.length : Int)) then Ck.inb i C.length (w2 C i (cAt C i) (xV O C) (gV O C i)) else eVx O C 2 := by kernel_rfl
def oAt (O : List Opr) (i : Int) : Opr := O.getD i.toNat default
def w3 (O : List Opr) (C : List Chn) (i : Int) (o : Opr) (x y : Option (AExit × Out)) : Option (AExit × Out) := bif decide (o.n < 0) then x else bif decide (3 < o.n) then x else gd (decide (C.length ≤ 1000)) (gd (decide (C.length ≤ 1000)) (bif !manyN o.kind (inpN C i) (outpN C i) then x else gd (rcG O C) (inR' i (reachN O.length C i) (bif (reachN O.length C i).getD i.toNat false then x else y))))
theorem turnV3 (O : List Opr) (C : List Chn) (i : Int) : (turn (E0 B) (Cx B libG) noL 139 (sgV 7) bV3 (vV i) (bsG O C)).sel =
    bif decide (i < (O.length : Int)) then Ck.inb i O.length (w3 O C i (oAt O i) (xV O C) (gV O C i)) else eVx O C 4 := by kernel_rfl
theorem w1_is (n : Nat) (c : Chn) (x y : Option (AExit × Out)) : w1 n c x y = bif !chOk n c then x else y := by
  unfold w1 chOk
  by_cases h1 : c.src < 0
  · rw [decide_eq_true h1, decide_eq_false (show ¬ (0 ≤ c.src ∧ 0 ≤ c.dst ∧ c.src < (n : Int) ∧ c.dst < (n : Int) ∧ 1 ≤ c.room ∧ c.room ≤ 8) by omega)]; rfl
  by_cases h2 : c.dst < 0
  · rw [decide_eq_false h1, decide_eq_true h2, decide_eq_false (show ¬ (0 ≤ c.src ∧ 0 ≤ c.dst ∧ c.src < (n : Int) ∧ c.dst < (n : Int) ∧ 1 ≤ c.room ∧ c.room ≤ 8) by omega)]; rfl
  by_cases h3 : (n : Int) ≤ c.src
  · rw [decide_eq_false h1, decide_eq_false h2, decide_eq_true h3, decide_eq_false (show ¬ (0 ≤ c.src ∧ 0 ≤ c.dst ∧ c.src < (n : Int) ∧ c.dst < (n : Int) ∧ 1 ≤ c.room ∧ c.room ≤ 8) by omega)]; rfl
  by_cases h4 : (n : Int) ≤ c.dst
  · rw [decide_eq_false h1, decide_eq_false h2, decide_eq_false h3, decide_eq_true h4, decide_eq_false (show ¬ (0 ≤ c.src ∧ 0 ≤ c.dst ∧ c.src < (n : Int) ∧ c.dst < (n : Int) ∧ 1 ≤ c.room ∧ c.room ≤ 8) by omega)]; rfl
  by_cases h5 : c.room < 1
  · rw [decide_eq_false h1, decide_eq_false h2, decide_eq_false h3, decide_eq_false h4, decide_eq_true h5, decide_eq_false (show ¬ (0 ≤ c.src ∧ 0 ≤ c.dst ∧ c.src < (n : Int) ∧ c.dst < (n : Int) ∧ 1 ≤ c.room ∧ c.room ≤ 8) by omega)]; rfl
  by_cases h6 : 8 < c.room
  · rw [decide_eq_false h1, decide_eq_false h2, decide_eq_false h3, decide_eq_false h4, decide_eq_false h5, decide_eq_true h6, decide_eq_false (show ¬ (0 ≤ c.src ∧ 0 ≤ c.dst ∧ c.src < (n : Int) ∧ c.dst < (n : Int) ∧ 1 ≤ c.room ∧ c.room ≤ 8) by omega)]; rfl
  · rw [decide_eq_false h1, decide_eq_false h2, decide_eq_false h3, decide_eq_false h4, decide_eq_false h5, decide_eq_false h6, decide_eq_true (show (0 ≤ c.src ∧ 0 ≤ c.dst ∧ c.src < (n : Int) ∧ c.dst < (n : Int) ∧ 1 ≤ c.room ∧ c.room ≤ 8) by omega)]; rfl
theorem nlt {a b : Int} : decide (a < b) = !decide (b ≤ a) := by
  by_cases h : a < b
  · rw [decide_eq_true h, decide_eq_false (by omega)]; rfl
  · rw [decide_eq_false h, decide_eq_true (by omega)]; rfl
theorem w2_is {C : List Chn} {k : Nat} (hC : C.length ≤ 1000) (hk : k < C.length) (x y : Option (AExit × Out)) : w2 C k (cAt C k) x y = bif !ch2 C k then x else y := by
  unfold w2 ch2 gd cAt
  rw [Int.toNat_natCast, decide_eq_true hC, decide_eq_true (show 0 ≤ (k : Int) ∧ (k : Int) < (C.length : Int) ∧ C.length ≤ 1000 by omega), nlt (a := (C.getD k default).out) (b := 0), nlt (a := (C.getD k default).inp) (b := 0), nlt (a := (C.getD k default).out) (b := outpN C (C.getD k default).src), nlt (a := (C.getD k default).inp) (b := inpN C (C.getD k default).dst)]
  cases apN C k <;> cases decide (0 ≤ (C.getD k default).out) <;> cases decide (outpN C (C.getD k default).src ≤ (C.getD k default).out) <;> cases decide (0 ≤ (C.getD k default).inp) <;> cases decide (inpN C (C.getD k default).dst ≤ (C.getD k default).inp) <;> rfl
theorem w3_is {O : List Opr} {C : List Chn} {k : Nat} (hg : rcG O C = true) (hC : C.length ≤ 1000) (hk : k < O.length) (x y : Option (AExit × Out)) : w3 O C k (oAt O k) x y = bif !opOk O C k then x else y := by
  unfold w3 opOk gd oAt
  rw [Int.toNat_natCast, hg, decide_eq_true hC, inR'_is (by omega) (by rw [reachN_len]; omega)]
  by_cases h1 : (O.getD k default).n < 0
  · rw [decide_eq_true h1, decide_eq_false (show ¬ (0 ≤ (O.getD k default).n ∧ (O.getD k default).n ≤ 3) by omega)]; rfl
  by_cases h2 : 3 < (O.getD k default).n
  · rw [decide_eq_false h1, decide_eq_true h2, decide_eq_false (show ¬ (0 ≤ (O.getD k default).n ∧ (O.getD k default).n ≤ 3) by omega)]; rfl
  rw [decide_eq_false h1, decide_eq_false h2, decide_eq_true (show 0 ≤ (O.getD k default).n ∧ (O.getD k default).n ≤ 3 by omega)]
  cases manyN (O.getD k default).kind (inpN C k) (outpN C k) <;> cases (reachN O.length C k).getD k false <;> rfl
def szG (O : List Opr) (C : List Chn) : Bool := decide (C.length ≤ 1000 ∧ O.length ≤ 1000) && true
def spV1 : LSpec
  | [.ptr 0 0 0, .int .i64 i], [⟨true, .gen ty [[.slw 1, .slw 2]]⟩, ⟨false, .oprs O⟩, ⟨false, .chns C⟩] =>
    .node (decide (ty = gTy) && (decide (i = 0) && szG O C)) (.node ((List.range' 0 C.length).any fun k => !chOk O.length (C.getD k default)) (.leaf (.ret, ⟨[.bool false], bsG O C⟩)) (.leaf (.exit 0, ⟨[.any], bsG O C⟩))) .bad
  | _, _ => .bad
theorem loopV1 : LoopOk (E0 B) 139 (sgV 3) bV1 spV1 := by
  refine loop_turns (C := Cx B libG) (L := noL) (cxOk libG_ok) (noL_ok _) fun vs bs e o h => ?_
  unfold spV1 at h
  split at h
  · rename_i i ty O C
    rcases T.node_sel h with ⟨hc, h2⟩ | ⟨_, h2⟩
    · simp only [Bool.and_eq_true] at hc
      have hty := of_decide_eq_true hc.1
      subst hty
      have hi := of_decide_eq_true hc.2.1
      subst hi
      have hg := hc.2.2
      unfold szG at hg
      rw [Bool.and_eq_true] at hg
      obtain ⟨hC, hO⟩ := of_decide_eq_true hg.1
      obtain ⟨m, hm⟩ := scan_turns (E := E0 B) (C := Cx B libG) (L := noL) (n := 139) (sg := sgV 3) (body := bV1) (st := fun k => vV k) (bs := bsG O C) (len := C.length) (bad := fun k => !chOk O.length (C.getD k default)) (ob := fun _ => ⟨[.bool false], bsG O C⟩) (k := 0) (oe := ⟨[.any], bsG O C⟩)
        (fun k hk => by
          refine (turnV1 O C k).trans ?_
          by_cases hlt : k < C.length
          · rw [decide_eq_true (show (k : Int) < ((C.length : Nat) : Int) by omega), decide_eq_true hlt, cond_true, cond_true, Ck.inb_is hlt, show cAt C (k : Int) = C.getD k default by unfold cAt; rw [Int.toNat_natCast], w1_is]
            unfold gV xV
            rw [w64_rng (show Rng ((k : Int) + 1) by unfold Rng; omega)]; rfl
          · rw [decide_eq_false (show ¬ (k : Int) < ((C.length : Nat) : Int) by omega), decide_eq_false hlt]; rfl) C.length 0 (by omega)
      refine ⟨m, hm.trans ?_⟩
      have hf := firstB_any (fun k => !chOk O.length (C.getD k default)) C.length 0
      rw [Nat.zero_add] at hf
      rw [hf, ← h2]
      rfl
    · simp [T.sel] at h2
  · simp [T.sel] at h
noncomputable def eV1 : LEnt := { id := 2, n := 139, sg := sgV 3, wr := writes bV1, s := spV1 }
def spV2 : LSpec
  | [.ptr 0 0 0, .int .i64 i], [⟨true, .gen ty [[.slw 1, .slw 2]]⟩, ⟨false, .oprs O⟩, ⟨false, .chns C⟩] =>
    .node (decide (ty = gTy) && (decide (i = 0) && szG O C)) (.node ((List.range' 0 C.length).any fun k => !ch2 C k) (.leaf (.ret, ⟨[.bool false], bsG O C⟩)) (.leaf (.exit 2, ⟨[.any], bsG O C⟩))) .bad
  | _, _ => .bad
theorem loopV2 : LoopOk (E0 B) 139 (sgV 5) bV2 spV2 := by
  refine loop_turns (C := Cx B libG) (L := noL) (cxOk libG_ok) (noL_ok _) fun vs bs e o h => ?_
  unfold spV2 at h
  split at h
  · rename_i i ty O C
    rcases T.node_sel h with ⟨hc, h2⟩ | ⟨_, h2⟩
    · simp only [Bool.and_eq_true] at hc
      have hty := of_decide_eq_true hc.1
      subst hty
      have hi := of_decide_eq_true hc.2.1
      subst hi
      have hg := hc.2.2
      unfold szG at hg
      rw [Bool.and_eq_true] at hg
      obtain ⟨hC, hO⟩ := of_decide_eq_true hg.1
      obtain ⟨m, hm⟩ := scan_turns (E := E0 B) (C := Cx B libG) (L := noL) (n := 139) (sg := sgV 5) (body := bV2) (st := fun k => vV k) (bs := bsG O C) (len := C.length) (bad := fun k => !ch2 C k) (ob := fun _ => ⟨[.bool false], bsG O C⟩) (k := 2) (oe := ⟨[.any], bsG O C⟩)
        (fun k hk => by
          refine (turnV2 O C k).trans ?_
          by_cases hlt : k < C.length
          · rw [decide_eq_true (show (k : Int) < ((C.length : Nat) : Int) by omega), decide_eq_true hlt, cond_true, cond_true, Ck.inb_is hlt, w2_is hC hlt]
            unfold gV xV
            rw [w64_rng (show Rng ((k : Int) + 1) by unfold Rng; omega)]; rfl
          · rw [decide_eq_false (show ¬ (k : Int) < ((C.length : Nat) : Int) by omega), decide_eq_false hlt]; rfl) C.length 0 (by omega)
      refine ⟨m, hm.trans ?_⟩
      have hf := firstB_any (fun k => !ch2 C k) C.length 0
      rw [Nat.zero_add] at hf
      rw [hf, ← h2]
      rfl
    · simp [T.sel] at h2
  · simp [T.sel] at h
noncomputable def eV2 : LEnt := { id := 8, n := 139, sg := sgV 5, wr := writes bV2, s := spV2 }
def spV3 : LSpec
  | [.ptr 0 0 0, .int .i64 i], [⟨true, .gen ty [[.slw 1, .slw 2]]⟩, ⟨false, .oprs O⟩, ⟨false, .chns C⟩] =>
    .node (decide (ty = gTy) && (decide (i = 0) && rcG O C)) (.node ((List.range' 0 O.length).any fun k => !opOk O C k) (.leaf (.ret, ⟨[.bool false], bsG O C⟩)) (.leaf (.exit 4, ⟨[.any], bsG O C⟩))) .bad
  | _, _ => .bad
theorem loopV3 : LoopOk (E0 B) 139 (sgV 7) bV3 spV3 := by
  refine loop_turns (C := Cx B libG) (L := noL) (cxOk libG_ok) (noL_ok _) fun vs bs e o h => ?_
  unfold spV3 at h
  split at h
  · rename_i i ty O C
    rcases T.node_sel h with ⟨hc, h2⟩ | ⟨_, h2⟩
    · simp only [Bool.and_eq_true] at hc
      have hty := of_decide_eq_true hc.1
      subst hty
      have hi := of_decide_eq_true hc.2.1
      subst hi
      have hg := hc.2.2
      unfold rcG at hg
      rw [Bool.and_eq_true] at hg
      obtain ⟨hC, hO⟩ := of_decide_eq_true hg.1
      obtain ⟨m, hm⟩ := scan_turns (E := E0 B) (C := Cx B libG) (L := noL) (n := 139) (sg := sgV 7) (body := bV3) (st := fun k => vV k) (bs := bsG O C) (len := O.length) (bad := fun k => !opOk O C k) (ob := fun _ => ⟨[.bool false], bsG O C⟩) (k := 4) (oe := ⟨[.any], bsG O C⟩)
        (fun k hk => by
          refine (turnV3 O C k).trans ?_
          by_cases hlt : k < O.length
          · rw [decide_eq_true (show (k : Int) < ((O.length : Nat) : Int) by omega), decide_eq_true hlt, cond_true, cond_true, Ck.inb_is hlt, w3_is hc.2.2 hC hlt]
            unfold gV xV
            rw [w64_rng (show Rng ((k : Int) + 1) by unfold Rng; omega)]; rfl
          · rw [decide_eq_false (show ¬ (k : Int) < ((O.length : Nat) : Int) by omega), decide_eq_false hlt]; rfl) O.length 0 (by omega)
      refine ⟨m, hm.trans ?_⟩
      have hf := firstB_any (fun k => !opOk O C k) O.length 0
      rw [Nat.zero_add] at hf
      rw [hf, ← h2]
      rfl
    · simp [T.sel] at h2
  · simp [T.sel] at h
noncomputable def eV3 : LEnt := { id := 14, n := 139, sg := sgV 7, wr := writes bV3, s := spV3 }
theorem tVal (O : List Opr) (C : List Chn) : runL B libG [eV1, eV2, eV3] Try.f22 [.agg [.slw 0, .slw 1]] [ob O, cb C] =
    gd (decide (gTy = gTy) && (decide ((0 : Int) = 0) && szG O C)) (bif (List.range' 0 C.length).any (fun k => !chOk O.length (C.getD k default)) then rb false else
    gd (decide (gTy = gTy) && (decide ((0 : Int) = 0) && szG O C)) (bif (List.range' 0 C.length).any (fun k => !ch2 C k) then rb false else
    gd (decide (gTy = gTy) && (decide ((0 : Int) = 0) && rcG O C)) (bif (List.range' 0 O.length).any (fun k => !opOk O C k) then rb false else rb true))) := by kernel_rfl
theorem all_getD (n : Nat) (C : List Chn) : (List.range' 0 C.length).any (fun k => !chOk n (C.getD k default)) = !C.all (chOk n) := by
  have key : ∀ (r : List Chn) (i : Nat), C.drop i = r → (List.range' i r.length).any (fun k => !chOk n (C.getD k default)) = !r.all (chOk n) := by
    intro r
    induction r with
    | nil => intro i _; rfl
    | cons c r ih =>
      intro i hd
      obtain ⟨d1, d2, d3⟩ := chn_drop hd
      rw [List.length_cons, List.range'_succ, List.any_cons, ih (i + 1) d3, d2, List.all_cons]
      cases chOk n c <;> cases r.all (chOk n) <;> rfl
  exact key C 0 rfl
theorem any_not {l : List Nat} {p : Nat → Bool} : l.any (fun k => !p k) = !l.all p := by
  induction l with
  | nil => rfl
  | cons x r ih =>
    rw [List.any_cons, List.all_cons, ih]
    cases p x <;> rfl
def sVal : FSpec
  | [.agg [.slw 0, .slw 1]], [⟨false, .oprs O⟩, ⟨false, .chns C⟩] => .node (decide (C.length ≤ 1000 ∧ O.length ≤ 1000)) (.leaf ⟨[.bool (validN O C)], []⟩) .bad
  | _, _ => .bad
theorem val_is {O : List Opr} {C : List Chn} (h : C.length ≤ 1000 ∧ O.length ≤ 1000) : runL B libG [eV1, eV2, eV3] Try.f22 [.agg [.slw 0, .slw 1]] [ob O, cb C] = rb (validN O C) := by
  refine (tVal O C).trans ?_
  have hs : szG O C = true := by unfold szG; rw [decide_eq_true h]; rfl
  unfold gd validN
  rw [hs, all_getD, any_not, any_not, decide_eq_true (rfl : gTy = gTy), decide_eq_true (rfl : (0 : Int) = 0)]
  cases h1 : C.all (chOk O.length) with
  | false => rfl
  | true =>
    have hr : rcG O C = true := by unfold rcG; rw [decide_eq_true h, chOk_bnd h1]; rfl
    rw [hr]
    cases (List.range' 0 C.length).all (ch2 C) <;> cases (List.range' 0 O.length).all (opOk O C) <;> rfl
theorem okVal : FnOk (E0 B) 22 sVal := by
  refine fnL libG_ok (ls := [eV1, eV2, eV3]) Try.func22 (by kernel_rfl) (by kernel_rfl) (fun x hx => ?_) fun vs bs r h => ?_
  · simp only [List.mem_cons, List.mem_nil_iff, or_false] at hx
    rcases hx with rfl | rfl | rfl
    · exact ⟨bV1, by kernel_rfl, rfl, loopV1⟩
    · exact ⟨bV2, by kernel_rfl, rfl, loopV2⟩
    · exact ⟨bV3, by kernel_rfl, rfl, loopV3⟩
  unfold sVal at h
  split at h
  · rename_i O C
    rcases T.node_sel h with ⟨hc, h2⟩ | ⟨_, h2⟩
    · simp only [T.sel, Option.some.injEq] at h2; subst h2
      exact val_is (of_decide_eq_true hc)
    · simp [T.sel] at h2
  · simp [T.sel] at h
noncomputable def libH : Tb := (22, [], sVal) :: libG
theorem libH_ok : TbOk B libH := libG_ok.add okVal
end Go.Proofs.Ytdckpbeioemopaa.Gr
