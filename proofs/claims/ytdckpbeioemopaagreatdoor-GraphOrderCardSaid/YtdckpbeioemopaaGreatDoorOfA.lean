/-
  Texts put together: OfFn, OfFn2, OfFn3.
-/
import Derived.Test.YtdckpbeioemopaaGreatDoorGrA
import Derived.Test.YtdckpbeioemopaaGreatDoorPlnA
namespace Go.Proofs.YtdckpbeioemopaaGreatDoor.Gf
open Go.Am Go Go.Proofs.YtdckpbeioemopaaGreatDoor Go.Proofs.YtdckpbeioemopaaGreatDoor.Gr
set_option maxRecDepth 100000
variable {B : Nat → Option Obj}
def op (k i : Int) : Opr := ⟨k, i⟩
def bsO (O : List Opr) (C : List Chn) : List Blk := [gBx 1 2, ⟨true, .oprs O⟩, ⟨true, .chns C⟩]
def gdO (b : Bool) (r : Option Out) : Option Out := bif b then r else none
def lm (n : Nat) : Bool := decide (n + 1 ≤ lim)
def ra (n : Nat) (O : List Opr) (C : List Chn) : Option Out := some ⟨[i64 n], bsO O C⟩
theorem tAdd1 (O : List Opr) (C : List Chn) (k : Int) : runT B Ck.lib15 Tryz.f26 [.int .u8 k, i64 1, .ptr 0 0 0] (bsO O C) =
    gdO (lm O.length) (ra O.length (O ++ [op k 0]) C) := by kernel_rfl
theorem tAdd2 (O : List Opr) (C : List Chn) (k : Int) : runT B Ck.lib15 Tryz.f26 [.int .u8 k, i64 2, .ptr 0 0 0] (bsO O C) =
    gdO (lm O.length) (gdO (lm (O ++ [op k 0]).length) (ra O.length (O ++ [op k 0] ++ [op k 1]) C)) := by kernel_rfl
theorem tAdd3 (O : List Opr) (C : List Chn) (k : Int) : runT B Ck.lib15 Tryz.f26 [.int .u8 k, i64 3, .ptr 0 0 0] (bsO O C) =
    gdO (lm O.length) (gdO (lm (O ++ [op k 0]).length) (gdO (lm (O ++ [op k 0] ++ [op k 1]).length) (ra O.length (O ++ [op k 0] ++ [op k 1] ++ [op k 2]) C))) := by kernel_rfl
theorem tAdd4 (O : List Opr) (C : List Chn) (k : Int) : runT B Ck.lib15 Tryz.f26 [.int .u8 k, i64 4, .ptr 0 0 0] (bsO O C) =
    gdO (lm O.length) (gdO (lm (O ++ [op k 0]).length) (gdO (lm (O ++ [op k 0] ++ [op k 1]).length) (gdO (lm (O ++ [op k 0] ++ [op k 1] ++ [op k 2]).length) (ra O.length (O ++ [op k 0] ++ [op k 1] ++ [op k 2] ++ [op k 3]) C)))) := by kernel_rfl
def addN (k : Int) (m : Nat) : List Opr := (List.range m).map fun (i : Nat) => op k (i : Int)
def sAdd : FSpec
  | [.int .u8 k, .int .i64 m, .ptr 0 0 0], [⟨true, .gen ty [[.slw 1, .slw 2]]⟩, ⟨true, .oprs O⟩, ⟨true, .chns C⟩] =>
    .node (decide (ty = gTy) && (decide (1 ≤ m ∧ m ≤ 4) && Nat.ble O.length 1000)) (.leaf ⟨[i64 O.length], bsO (O ++ addN k m.toNat) C⟩) .bad
  | _, _ => .bad
theorem lm_is {n : Nat} (h : n ≤ 1010) (r : Option Out) : gdO (lm n) r = r := by
  unfold gdO lm
  rw [decide_eq_true (show n + 1 ≤ lim by simp only [lim]; omega)]; rfl
theorem add_is {O : List Opr} {C : List Chn} {k m : Int} (h1 : 1 ≤ m) (h4 : m ≤ 4) (hO : O.length ≤ 1000) : runT B Ck.lib15 Tryz.f26 [.int .u8 k, i64 m, .ptr 0 0 0] (bsO O C) = ra O.length (O ++ addN k m.toNat) C := by
  have hm : m = 1 ∨ m = 2 ∨ m = 3 ∨ m = 4 := by omega
  rcases hm with rfl | rfl | rfl | rfl
  · rw [tAdd1, lm_is (by omega)]; rfl
  · rw [tAdd2, lm_is (by omega), lm_is (by simp; omega), List.append_assoc]; rfl
  · rw [tAdd3, lm_is (by omega), lm_is (by simp; omega), lm_is (by simp; omega), List.append_assoc, List.append_assoc]; rfl
  · rw [tAdd4, lm_is (by omega), lm_is (by simp; omega), lm_is (by simp; omega), lm_is (by simp; omega), List.append_assoc, List.append_assoc, List.append_assoc]; rfl
theorem okAdd : FnOk (E0 B) 26 sAdd := by
  refine fnT Ck.lib15_ok Tryz.func26 (by kernel_rfl) (by kernel_rfl) fun vs bs r h => ?_
  unfold sAdd at h
  split at h
  · rename_i k m ty O C
    rcases T.node_sel h with ⟨hc, h2⟩ | ⟨_, h2⟩
    · simp only [Bool.and_eq_true] at hc
      have hty := of_decide_eq_true hc.1
      subst hty
      obtain ⟨h1, h4⟩ := of_decide_eq_true hc.2.1
      simp only [T.sel, Option.some.injEq] at h2; subst h2
      exact add_is h1 h4 (Nat.le_of_ble_eq_true hc.2.2)
    · simp [T.sel] at h2
  · simp [T.sel] at h
def bsJ (room : Int) (O : List Opr) (C : List Chn) : List Blk := [gBx 2 3, ⟨true, .gen [3] [[i64 room]]⟩, ⟨true, .oprs O⟩, ⟨true, .chns C⟩]
theorem tJoin (O : List Opr) (C : List Chn) (a b c d room : Int) : runT B Ck.lib15 Tryz.f27 [i64 a, i64 b, i64 c, i64 d, .ptr 0 0 0, .ptr 1 0 0] (bsJ room O C) =
    gdO (lm C.length) (some ⟨[], bsJ room O (C ++ [⟨a, b, c, d, room⟩])⟩) := by kernel_rfl
def sJoin : FSpec
  | [.int .i64 a, .int .i64 b, .int .i64 c, .int .i64 d, .ptr 0 0 0, .ptr 1 0 0], [⟨true, .gen ty [[.slw 2, .slw 3]]⟩, ⟨true, .gen tz [[.int .i64 room]]⟩, ⟨true, .oprs O⟩, ⟨true, .chns C⟩] =>
    .node (decide (ty = gTy) && (decide (tz = [3]) && Nat.ble C.length 1000)) (.leaf ⟨[], bsJ room O (C ++ [⟨a, b, c, d, room⟩])⟩) .bad
  | _, _ => .bad
theorem okJoin : FnOk (E0 B) 27 sJoin := by
  refine fnT Ck.lib15_ok Tryz.func27 (by kernel_rfl) (by kernel_rfl) fun vs bs r h => ?_
  unfold sJoin at h
  split at h
  · rename_i a b c d ty tz room O C
    rcases T.node_sel h with ⟨hc, h2⟩ | ⟨_, h2⟩
    · simp only [Bool.and_eq_true] at hc
      have hty := of_decide_eq_true hc.1
      have htz := of_decide_eq_true hc.2.1
      subst hty; subst htz
      simp only [T.sel, Option.some.injEq] at h2; subst h2
      exact (tJoin O C a b c d room).trans (lm_is (by have := Nat.le_of_ble_eq_true hc.2.2; omega) _)
    · simp [T.sel] at h2
  · simp [T.sel] at h
noncomputable def libO : Tb := (26, [1, 2], sAdd) :: (27, [2, 3], sJoin) :: Pl.lib2
end Go.Proofs.YtdckpbeioemopaaGreatDoor.Gf
namespace Go.Proofs.YtdckpbeioemopaaGreatDoor.Gf
open Go.Am Go Go.Proofs.YtdckpbeioemopaaGreatDoor Go.Proofs.YtdckpbeioemopaaGreatDoor.Gr
set_option maxRecDepth 100000
variable {B : Nat → Option Obj}
def eO (e : Int) : Option Out := some ⟨[.agg [.slw 0, .slw 1], i64 e], [⟨true, .oprs []⟩, ⟨true, .chns []⟩]⟩
def chn (a b c d r : Int) : Chn := ⟨a, b, c, d, r⟩
def ofO (n p : Nat) (bk j sd : Bool) : List Opr := addN 1 n ++ addN 2 n ++ (bif bk then addN 3 n else []) ++ addN (bif j then 5 else 4) (bif bk then p else 1) ++ addN 6 1 ++ (bif sd then addN 7 1 else [])
def ofC (n p : Nat) (bk sd : Bool) (room : Int) : List Chn :=
  let first := bif bk then 3 * n else 2 * n
  let p := bif bk then p else 1
  (List.range n).map (fun (i : Nat) => chn i 0 (n + i : Nat) 0 room) ++
  (List.range n).flatMap (fun (i : Nat) => (bif bk then chn (n + i : Nat) 0 (2 * n + i : Nat) 0 room else chn (n + i : Nat) 0 first i room) :: (bif sd then [chn (n + i : Nat) 1 (first + p + 1 : Nat) i room] else [])) ++
  (bif bk then (List.range n).flatMap (fun (i : Nat) => (List.range p).map fun (k : Nat) => chn (2 * n + i : Nat) k (first + k : Nat) i room) else []) ++
  (List.range p).map (fun (k : Nat) => chn (first + k : Nat) 0 (first + p : Nat) k room)
end Go.Proofs.YtdckpbeioemopaaGreatDoor.Gf
namespace Go.Proofs.YtdckpbeioemopaaGreatDoor.Gf
open Go.Am Go Go.Proofs.YtdckpbeioemopaaGreatDoor Go.Proofs.YtdckpbeioemopaaGreatDoor.Gr
set_option maxRecDepth 100000
variable {B : Nat → Option Obj}
theorem or_spec {f : FuncId} {s1 s2 s : FSpec} (h1 : FnOk (E0 B) f s1) (h2 : FnOk (E0 B) f s2) (h : ∀ vs bs r, (s vs bs).sel = some r → (s1 vs bs).sel = some r ∨ (s2 vs bs).sel = some r) : FnOk (E0 B) f s :=
  ⟨h1.1, fun vs bs out hs => (h vs bs out hs).elim (h1.2 vs bs out) (h2.2 vs bs out)⟩
def ofE (st : List Int) (q : Qry) (p room : Int) : Int := bif !decide (Pl.plE st q = 0) then Pl.plE st q else bif decide (1 ≤ p ∧ p ≤ 3 ∧ 1 ≤ room ∧ room ≤ 8) then 0 else 2
def ofOut (st : List Int) (q : Qry) (p room : Int) : Out := bif decide (ofE st q p room = 0) then ⟨[.agg [.slw 0, .slw 1], i64 0], [⟨true, .oprs (ofO q.src.length p.toNat q.byKey q.join (decide (q.late = 2)))⟩, ⟨true, .chns (ofC q.src.length p.toNat q.byKey (decide (q.late = 2)) room)⟩]⟩
  else ⟨[.agg [.slw 0, .slw 1], i64 (ofE st q p room)], [⟨true, .oprs []⟩, ⟨true, .chns []⟩]⟩
def ofT (st : List Int) (q : Qry) (p room : Int) (g : Bool) : T Out := .node (g && decide (st.length ≤ 1000)) (.leaf (ofOut st q p room)) .bad
def sOf : FSpec
  | [.agg [.slw 0, .int .u8 ag, .slw 1, .slw 2, .bool j, .slw 3, .int .u8 wk, .int .i64 ws, .int .i64 we, .bool bk, .int .u8 lt], .int .i64 p, .int .i64 room], [⟨false, .ints .u8 st⟩, ⟨false, .nodes A⟩, ⟨false, .ints .i64 S⟩, ⟨false, .nodes W⟩] => ofT st ⟨ag, A, S, j, W, wk, ws, we, bk, lt⟩ p room true
  | [.agg [.slw 0, .int .u8 ag, .slw 1, .slw 2, .bool j, .slw 3, .int .u8 wk, .int .i64 ws, .int .i64 we, .bool bk, .int .u8 lt], .int .i64 p, .int .i64 room], [⟨false, .bytes t st⟩, ⟨false, .nodes A⟩, ⟨false, .ints .i64 S⟩, ⟨false, .nodes W⟩] => ofT st ⟨ag, A, S, j, W, wk, ws, we, bk, lt⟩ p room (Nat.beq t 5)
  | _, _ => .bad
end Go.Proofs.YtdckpbeioemopaaGreatDoor.Gf
