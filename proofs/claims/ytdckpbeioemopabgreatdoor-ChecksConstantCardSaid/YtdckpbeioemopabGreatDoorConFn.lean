/-
  ChecksConstant: operators, and whether an expression is constant, by contract.
-/
import Derived.Test.YtdckpbeioemopabGreatDoorClsA
namespace Go.Proofs.YtdckpbeioemopabGreatDoor.Cn
open Go.Am Go Go.Proofs.YtdckpbeioemopabGreatDoor Go.Proofs.YtdckpbeioemopabGreatDoor.Ck
set_option maxRecDepth 100000
variable {B : Nat → Option Obj}
def sTruth : FSpec
  | [.bool b], [] => .leaf ⟨[i64 (ti b)], []⟩
  | _, _ => .bad
theorem tTruth (b : Bool) : runT B [] Tryz.f115 [.bool b] [] = some ⟨[i64 (ti b)], []⟩ := by cases b <;> kernel_rfl
theorem okTruth : FnOk (E0 B) 115 sTruth := by
  refine fnT (TbOk.nil) Tryz.func115 (by kernel_rfl) (by kernel_rfl) fun vs bs r h => ?_
  unfold sTruth at h
  split at h
  · simp only [T.sel, Option.some.injEq] at h; subst h; exact tTruth _
  · simp [T.sel] at h
noncomputable def lDo : Tb := [(115, [], sTruth)]
theorem lDo_ok : TbOk B lDo := TbOk.nil.add okTruth
theorem tDo (k a b : Int) : runT B lDo Tryz.f83 [.int .u8 k, i64 a, i64 b] [] =
    bif decide (k = 5) then rp (w64 (0 - a)) 0 else bif decide (k = 6) then rp (ti (decide (a = 0))) 0 else bif decide (k = 7) then rp (w64 (a * b)) 0 else bif decide (k = 8) then rp (w64 (a + b)) 0 else bif decide (k = 9) then rp (w64 (a - b)) 0
    else bif decide (k = 10) then (bif decide (0 ≤ and63 b) then rp (w64 (a * 2 ^ (min (and63 b).toNat 64))) 0 else none)
    else bif decide (k = 11) then (bif decide (0 ≤ and63 b) then rp (a.fdiv (2 ^ (min (and63 b).toNat 64))) 0 else none)
    else bif decide (k = 12) then rp (ti (decide (a < b))) 0 else bif decide (k = 13) then rp (ti (decide (a ≤ b))) 0 else bif decide (k = 14) then rp (ti (decide (b < a))) 0
    else bif decide (k = 15) then rp (ti (decide (b ≤ a))) 0 else bif decide (k = 16) then rp (ti (decide (a = b))) 0 else bif decide (k = 17) then rp (ti (!decide (a = b))) 0
    else bif decide (k = 18) then (bif !decide (a = 0) then rp (ti (bif true then !decide (b = 0) else false)) 0 else rp (ti false) 0)
    else bif decide (k = 19) then rp (ti (!decide (or64 a b = 0))) 0
    else rp 0 2 := by kernel_rfl
theorem okDo : FnOk (E0 B) 83 sDo := by
  refine fnT lDo_ok Tryz.func83 (by kernel_rfl) (by kernel_rfl) fun vs bs r h => ?_
  unfold sDo at h
  split at h
  · rename_i k a b
    simp only [T.sel, Option.some.injEq] at h
    subst h
    refine (tDo k a b).trans ?_
    rw [and63_eq, show decide (0 ≤ b % 64) = true from by simp; omega, cond_true, cond_true, show min (b % 64).toNat 64 = (b % 64).toNat from by omega]
    unfold doN doE rp
    by_cases hk : k = 5 ∨ k = 6 ∨ k = 7 ∨ k = 8 ∨ k = 9 ∨ k = 10 ∨ k = 11 ∨ k = 12 ∨ k = 13 ∨ k = 14 ∨ k = 15 ∨ k = 16 ∨ k = 17 ∨ k = 18 ∨ k = 19
    · rcases hk with rfl | rfl | rfl | rfl | rfl | rfl | rfl | rfl | rfl | rfl | rfl | rfl | rfl | rfl | rfl
      all_goals first
        | rfl
        | (cases decide (a = 0) <;> cases decide (b = 0) <;> rfl)
    · have hb' : (decide (5 ≤ k) && decide (k ≤ 19)) = false := by
        simp only [Bool.and_eq_false_iff, decide_eq_false_iff_not]; omega
      rw [hb']
      simp only [not_or] at hk
      simp [hk, i64]
  · simp [T.sel] at h
noncomputable def bIn : Code := loopAt 2 (loopsOf (bodyC Tryz.f81))
def sgIn : LSig := { cs := [(0, 22), (1, 0), (7, 0)], mv := [(8, 0)], mo := [(4, 0)], take := [] }
def fk (x : Nod) (k : Int) : Bool := decide (x.kind = k) && (decide (x.n = 0) && (decide (x.a = 0) && (decide (x.b = 0) && true)))
def fk3 (x : Nod) (a b : Option (AExit × Out)) : Option (AExit × Out) := bif fk x 2 then a else bif fk x 3 then a else bif fk x 4 then a else b
theorem turnIn (L : List Nod) (n i : Int) : (turn (E0 B) (Cx B lib8) noL 19 sgIn bIn [.slw 0, .fn 48 [] [], i64 n, i64 i] [nb L]).sel =
    bif decide (i < n) then inb i L.length (fk3 (L.getD i.toNat default) (some (.ret, ⟨[i64 i], []⟩)) (some (.normal, ⟨[.slw 0, .fn 48 [] [], i64 n, i64 (w64 (i + 1))], [nb L]⟩))) else some (.exit 0, ⟨[.any], []⟩) := by kernel_rfl
def isF (x : Nod) : Bool := fk x 2 || (fk x 3 || fk x 4)
theorem fk3_is (x : Nod) (a b : Option (AExit × Out)) : fk3 x a b = bif isF x then a else b := by
  unfold fk3 isF
  cases fk x 2 <;> cases fk x 3 <;> cases fk x 4 <;> rfl
def okIn (f : Nat) (L : List Nod) (n i : Int) : Bool := Nat.beq f 48 && decide (n = (L.length : Int) ∧ L.length ≤ 1000 ∧ i = 0)
def spIn : LSpec
  | [.slw 0, .fn f [] [], .int .i64 n, .int .i64 i], [⟨false, .nodes L⟩] => .node (okIn f L n i) (.node (decide (firstL isF L < L.length)) (.leaf (.ret, ⟨[i64 (firstL isF L)], []⟩)) (.leaf (.exit 0, ⟨[.any], []⟩))) .bad
  | _, _ => .bad
theorem loopIn : LoopOk (E0 B) 19 sgIn bIn spIn := by
  refine loop_turns (C := Cx B lib8) (L := noL) (cxOk lib8_ok) (noL_ok _) fun vs bs e o h => ?_
  unfold spIn at h
  split at h
  · rename_i f n i L
    rcases T.node_sel h with ⟨hc, h2⟩ | ⟨_, h2⟩
    · unfold okIn at hc
      rw [Bool.and_eq_true] at hc
      have hf := Nat.eq_of_beq_eq_true hc.1
      obtain ⟨rfl, hl, rfl⟩ := of_decide_eq_true hc.2
      subst hf
      obtain ⟨m, hm⟩ := scan_turns (E := E0 B) (C := Cx B lib8) (L := noL) (n := 19) (sg := sgIn) (body := bIn) (st := fun i => [.slw 0, .fn 48 [] [], i64 L.length, i64 i]) (bs := [nb L]) (len := L.length)
        (bad := fun j => isF (L.getD j default)) (ob := fun j => ⟨[i64 j], []⟩) (k := 0) (oe := ⟨[.any], []⟩) (fun i hi => by
          rw [turnIn, fk3_is]
          by_cases h : i < L.length
          · rw [decide_eq_true h, decide_eq_true (show (i : Int) < (L.length : Int) by omega), cond_true, inb_is h, w64_rng (show Rng ((i : Int) + 1) by unfold Rng; omega)]; rfl
          · rw [decide_eq_false h, decide_eq_false (show ¬ (i : Int) < (L.length : Int) by omega)]; rfl) L.length 0 (by omega)
      refine ⟨m, hm.trans ?_⟩
      rw [firstB_list isF L L 0 rfl, Nat.zero_add, ← h2]
      rfl
    · simp [T.sel] at h2
  · simp [T.sel] at h
noncomputable def eIn : LEnt := { id := 2, n := 19, sg := sgIn, wr := writes bIn, s := spIn }
theorem tIn (L : List Nod) : runL B lib8 [eIn] Tryz.f81 [.slw 0, .fn 48 [] []] [nb L] =
    bif okIn 48 L L.length 0 then (bif decide (firstL isF L < L.length) then some ⟨[i64 (firstL isF L)], []⟩ else some ⟨[i64 (-1)], []⟩) else none := by kernel_rfl
def sIn : FSpec
  | [.slw 0, .fn f [] []], [⟨false, .nodes L⟩] => .node (Nat.beq f 48 && decide (L.length ≤ 1000)) (.leaf ⟨[.int .i64 (ixI (decide (firstL isF L < L.length)) (firstL isF L))], []⟩) .bad
  | _, _ => .bad
theorem okInF : FnOk (E0 B) 81 sIn := by
  refine fnL lib8_ok (ls := [eIn]) Tryz.func81 (by kernel_rfl) (by kernel_rfl) (fun x hx => ?_) fun vs bs r h => ?_
  · simp only [List.mem_singleton] at hx; subst hx
    exact ⟨bIn, by kernel_rfl, rfl, loopIn⟩
  unfold sIn at h
  split at h
  · rename_i f L
    rcases T.node_sel h with ⟨hc, h2⟩ | ⟨_, h2⟩
    · simp only [T.sel, Option.some.injEq] at h2; subst h2
      rw [Bool.and_eq_true] at hc
      have hf := Nat.eq_of_beq_eq_true hc.1
      subst hf
      refine (tIn L).trans ?_
      unfold okIn
      rw [decide_eq_true (show (L.length : Int) = (L.length : Int) ∧ L.length ≤ 1000 ∧ (0 : Int) = 0 from ⟨rfl, of_decide_eq_true hc.2, rfl⟩)]
      cases decide (firstL isF L < L.length) <;> rfl
    · simp [T.sel] at h2
  · simp [T.sel] at h
noncomputable def lC : Tb := (81, [], sIn) :: (83, [], sDo) :: lb6
theorem lC_ok : TbOk B lC := (lb6_ok.add okDo).add okInF
def fldB (k : Int) : Bool := decide (1 < k) && decide (k < 5)
def rK (b : Bool) (e : Int) : Option Out := some ⟨[.bool b, i64 e], []⟩
theorem tCon (L : List Nod) : runT B lC Tryz.f18 [.slw 0] [nb L] =
    bif !decide (chkN L = 0) then rK false (chkN L) else bif Nat.beq 48 48 && decide (L.length ≤ 1000) then rK (!decide (0 ≤ ixI (decide (firstL isF L < L.length)) (firstL isF L))) 0 else none := by kernel_rfl
theorem fixed_is (L : List Nod) : (!L.any fun x => fldB x.kind) = fixedN L := by
  unfold fixedN
  rw [List.not_any_eq_all_not]; rfl
theorem any_isF {L : List Nod} (h : chkN L = 0) : L.any isF = L.any fun x => fldB x.kind := by
  have key : ∀ x ∈ L, isF x = fldB x.kind := fun x hx => by
    obtain ⟨j, hj⟩ := List.mem_iff_getElem?.1 hx
    have hat := chk_at h j x hj
    unfold isF fldB fk
    by_cases hk : 1 < x.kind ∧ x.kind < 5
    · have hn : x.n = 0 := hat.nk.resolve_left (by omega)
      rw [hn, hat.az (by omega), hat.bz (by omega)]
      have : x.kind = 2 ∨ x.kind = 3 ∨ x.kind = 4 := by omega
      rcases this with h | h | h <;> rw [h] <;> rfl
    · have : ¬ x.kind = 2 ∧ ¬ x.kind = 3 ∧ ¬ x.kind = 4 := by omega
      rw [decide_eq_false this.1, decide_eq_false this.2.1, decide_eq_false this.2.2]
      by_cases h1 : 1 < x.kind
      · rw [decide_eq_true h1, decide_eq_false (show ¬ x.kind < 5 by omega)]; rfl
      · rw [decide_eq_false h1]; rfl
  rw [Bool.eq_iff_iff, List.any_eq_true, List.any_eq_true]
  exact ⟨fun ⟨x, h1, h2⟩ => ⟨x, h1, (key x h1) ▸ h2⟩, fun ⟨x, h1, h2⟩ => ⟨x, h1, (key x h1).symm ▸ h2⟩⟩
def sCon : FSpec
  | [.slw 0], [⟨false, .nodes L⟩] => .leaf ⟨[.bool (conB L), .int .i64 (chkN L)], []⟩
  | _, _ => .bad
theorem con_is (L : List Nod) : runT B lC Tryz.f18 [.slw 0] [nb L] = rK (conB L) (chkN L) := by
  refine (tCon L).trans ?_
  unfold conB
  by_cases h : chkN L = 0
  · have hl := chk_len h
    rw [decide_eq_true h, Nat.beq_refl, decide_eq_true (show L.length ≤ 1000 by omega), firstL_any, any_isF h, ← fixed_is, h]
    cases L.any fun x => fldB x.kind with
    | true => rw [show decide (0 ≤ ixI true (firstL isF L)) = true from decide_eq_true (by unfold ixI; rw [cond_true]; omega)]; rfl
    | false => rfl
  · rw [decide_eq_false h]; rfl
theorem okCon : FnOk (E0 B) 18 sCon := by
  refine fnT lC_ok Tryz.func18 (by kernel_rfl) (by kernel_rfl) fun vs bs r h => ?_
  unfold sCon at h
  split at h
  · simp only [T.sel, Option.some.injEq] at h; subst h
    exact con_is _
  · simp [T.sel] at h
end Go.Proofs.YtdckpbeioemopabGreatDoor.Cn
