/-
  Texts put together: PrsLaws, PrsLawB, PrsWeak, PrsAsk.
-/
import Derived.Test.YtdckpbeioemopabGreatDoorPrsD
import Derived.Test.YtdckpbeioemopabGreatDoorPureB
import Derived.Test.YtdckpbeioemopabGreatDoorLxB
namespace Go.Proofs.YtdckpbeioemopabGreatDoor
open Go.Am
set_option maxRecDepth 100000
variable {B : Nat → Option Obj}
end Go.Proofs.YtdckpbeioemopabGreatDoor
namespace Go.Proofs.YtdckpbeioemopabGreatDoor
open Go.Am Go
set_option maxRecDepth 100000
variable {B : Nat → Option Obj}
structure Lexd (l : List Pc) : Prop where
  tk : lexL (pcsS l) = pcsT 0 l
  e : lexE (pcsS l) = 0
  s : shortT (pcsT 0 l) = true
  v : (pcsT 0 l).all okV = true
  n : (pcsT 0 l).length ≤ 200
theorem z_ok {L : List Tok} {at' : Int} (hv : L.all okV = true) (hn : L.length ≤ 200) (h0 : 0 ≤ at') (h1 : at' ≤ L.length) : zE L at' = prEr (zR at' L) ∧ zN L at' = prAt L (zR at' L) ∧ zX L at' = prNd (zR at' L) := by
  have : zE0 L at' = 0 := by
    unfold zE0
    rw [decide_eq_false (show ¬ 200 < L.length by omega), hv, decide_eq_true (show 0 ≤ at' ∧ at' ≤ (L.length : Int) from ⟨h0, h1⟩)]; rfl
  unfold zE zN zX
  rw [this]
  exact ⟨rfl, rfl, rfl⟩
theorem gr_okV {lv : Lv} {e : Ex} {ts : List Tok} (h : Gr lv e ts) (hv : ts.all okV = true) : e.ok = true := gr_ok rdN_nn h fun t ht => by
  have := List.all_eq_true.1 hv t ht
  unfold okV at this
  rw [Bool.and_eq_true] at this
  exact of_decide_eq_true this.2
end Go.Proofs.YtdckpbeioemopabGreatDoor
namespace Go.Proofs.YtdckpbeioemopabGreatDoor
open Go.Am Go
set_option maxRecDepth 100000
variable {B : Nat → Option Obj}
end Go.Proofs.YtdckpbeioemopabGreatDoor
namespace Go.Proofs.YtdckpbeioemopabGreatDoor
open Go.Am Go
set_option maxRecDepth 100000
variable {B : Nat → Option Obj}
noncomputable def bEq : Code := loopAt 4 (loopsOf (bodyC Tryz.f28))
def sgEq : LSig := { cs := [(0, 22), (1, 22)], mv := [(5, 0)], mo := [(4, 0)], take := [] }
theorem turnEq (L M : List Nod) (i : Int) : (turn (E0 B) (Cx B lib5) noL 26 sgEq bEq [.slw 0, .slw 1, i64 i] [⟨false, .nodes L⟩, ⟨false, .nodes M⟩]).sel =
    bif decide (i < (L.length : Int)) then inb' i L.length (inb' i M.length (bif !eqNod (L.getD i.toNat default) (M.getD i.toNat default) then some (.ret, ⟨[.bool false], []⟩) else some (.normal, ⟨[.slw 0, .slw 1, i64 (w64 (i + 1))], [⟨false, .nodes L⟩, ⟨false, .nodes M⟩]⟩))) else some (.exit 0, ⟨[.any], []⟩) := by kernel_rfl
def spEq : LSpec
  | [.slw 0, .slw 1, .int .i64 i], [⟨false, .nodes L⟩, ⟨false, .nodes M⟩] => .node (decide (i = 0 ∧ L.length = M.length ∧ L.length ≤ 1000)) (.node (all2 eqNod L M) (.leaf (.exit 0, ⟨[.any], []⟩)) (.leaf (.ret, ⟨[.bool false], []⟩))) .bad
  | _, _ => .bad
theorem loopEq : LoopOk (E0 B) 26 sgEq bEq spEq := by
  refine loop_turns (C := Cx B lib5) (L := noL) (cxOk lib5_ok) (noL_ok _) fun vs bs e o h => ?_
  unfold spEq at h
  split at h
  · rename_i i L M
    rcases T.node_sel h with ⟨hc, h2⟩ | ⟨_, h2⟩
    · obtain ⟨rfl, hlm, hl⟩ := of_decide_eq_true hc
      obtain ⟨m, hm⟩ := scan_turns (E := E0 B) (C := Cx B lib5) (L := noL) (n := 26) (sg := sgEq) (body := bEq) (st := fun i => [.slw 0, .slw 1, i64 i]) (bs := [⟨false, .nodes L⟩, ⟨false, .nodes M⟩]) (len := L.length)
        (bad := fun j => !eqNod (L.getD j default) (M.getD j default)) (ob := fun _ => ⟨[.bool false], []⟩) (k := 0) (oe := ⟨[.any], []⟩) (fun i hi => by
          rw [turnEq]
          by_cases h : i < L.length
          · rw [decide_eq_true h, decide_eq_true (show (i : Int) < (L.length : Int) by omega), cond_true, inb'_is h, inb'_is (show i < M.length by omega), w64_rng (show Rng ((i : Int) + 1) by unfold Rng; omega)]; rfl
          · rw [decide_eq_false h, decide_eq_false (show ¬ (i : Int) < (L.length : Int) by omega)]; rfl) L.length 0 (by omega)
      refine ⟨m, hm.trans ?_⟩
      rw [first2 hlm, ← h2]
      simp only [T.sel]
      cases all2 eqNod L M <;> rfl
    · simp [T.sel] at h2
  · simp [T.sel] at h
noncomputable def eEq : LEnt := { id := 4, n := 26, sg := sgEq, wr := writes bEq, s := spEq }
theorem tEq (L M : List Nod) : runL B lib5 [eEq] Tryz.f28 [.slw 0, .slw 1] [⟨false, .nodes L⟩, ⟨false, .nodes M⟩] =
    bif !decide ((L.length : Int) = (M.length : Int)) then rb false else bif decide ((0 : Int) = 0 ∧ L.length = M.length ∧ L.length ≤ 1000) then (bif all2 eqNod L M then rb true else rb false) else none := by kernel_rfl
def sEqN : FSpec
  | [.slw 0, .slw 1], [⟨false, .nodes L⟩, ⟨false, .nodes M⟩] => .node (decide (L.length ≤ 1000)) (.leaf ⟨[.bool (all2 eqNod L M)], []⟩) .bad
  | _, _ => .bad
theorem okFEq : FnOk (E0 B) 28 sEqN := by
  refine fnL lib5_ok (ls := [eEq]) Tryz.func28 (by kernel_rfl) (by kernel_rfl) (fun x hx => ?_) fun vs bs r h => ?_
  · simp only [List.mem_singleton] at hx; subst hx
    exact ⟨bEq, by kernel_rfl, rfl, loopEq⟩
  unfold sEqN at h
  split at h
  · rename_i L M
    rcases T.node_sel h with ⟨hc, h2⟩ | ⟨_, h2⟩
    · simp only [T.sel, Option.some.injEq] at h2; subst h2
      refine (tEq L M).trans ?_
      by_cases hl : L.length = M.length
      · rw [decide_eq_true (show (L.length : Int) = (M.length : Int) by omega), decide_eq_true (show (0 : Int) = 0 ∧ L.length = M.length ∧ L.length ≤ 1000 from ⟨rfl, hl, of_decide_eq_true hc⟩)]
        cases all2 eqNod L M <;> rfl
      · rw [decide_eq_false (show ¬ (L.length : Int) = (M.length : Int) by omega)]
        cases ha : all2 eqNod L M with
        | false => rfl
        | true => exact (hl (all2_len ha)).elim
    · simp [T.sel] at h2
  · simp [T.sel] at h
noncomputable def libA : Tb := (54, [], Lx.sValidL) :: lib5
theorem libA_ok : TbOk B libA := lib5_ok.add Lx.okValidL
def longT (L : List Tok) : Bool := L.all fun t => decide (t.text.length ≤ Lx.lim2)
noncomputable def bAk : Code := loopAt 4 (loopsOf (bodyC Tryz.f22))
def sgAk : LSig := { cs := [(0, 51)], mv := [(5, 0)], mo := [(4, 0)], take := [] }
def akB (L : List Tok) (i : Int) (x y : Option (AExit × Out)) : Option (AExit × Out) := bif decide ((tokA L i).text.length ≤ Lx.lim2) then (bif !decide (tokE (tokA L i).kind (tokA L i).text = 0) then x else inb' i L.length (bif decide ((tokA L i).pos < 0) then x else inb' i L.length (bif decide (400 < (tokA L i).pos) then x else y))) else none
theorem turnAk (L : List Tok) (i : Int) : (turn (E0 B) (Cx B libA) noL 45 sgAk bAk [.slw 0, i64 i] [tkb L]).sel =
    bif decide (i < (L.length : Int)) then inb' i L.length (akB L i (some (.ret, ⟨[i64 8], []⟩)) (some (.normal, ⟨[.slw 0, i64 (w64 (i + 1))], [tkb L]⟩))) else some (.exit 0, ⟨[.any], []⟩) := by kernel_rfl
theorem turnAk' {L : List Tok} (hs : longT L = true) (hL : L.length ≤ 200) (i : Nat) (hi : i ≤ L.length) : (turn (E0 B) (Cx B libA) noL 45 sgAk bAk [.slw 0, i64 i] [tkb L]).sel =
    bif decide (i < L.length) then (bif !okV (L.getD i default) then some (.ret, ⟨[i64 8], []⟩) else some (.normal, ⟨[.slw 0, i64 (i + 1 : Nat)], [tkb L]⟩)) else some (.exit 0, ⟨[.any], []⟩) := by
  refine (turnAk L i).trans ?_
  by_cases hlt : i < L.length
  · obtain ⟨t, q, hd⟩ : ∃ t q, L.drop i = t :: q := ⟨_, _, List.drop_eq_getElem_cons hlt⟩
    have ht := tokA_is hd
    have hg : L.getD i default = t := by unfold tokA at ht; rwa [Int.toNat_natCast] at ht
    have hm := (tkP_is hd).2.2.2
    rw [decide_eq_true (show (i : Int) < (L.length : Int) by omega), decide_eq_true hlt, cond_true, cond_true, inb'_is hlt, hg]
    unfold akB okV validB
    rw [ht, inb'_is hlt, inb'_is hlt, List.all_eq_true.1 hs t hm, cond_true, w64_rng (show Rng ((i : Int) + 1) by unfold Rng; omega)]
    cases decide (tokE t.kind t.text = 0) with
    | false => rfl
    | true =>
      rw [Bool.not_true, cond_false, Bool.true_and]
      by_cases h1 : t.pos < 0
      · rw [decide_eq_true h1, decide_eq_false (show ¬ (0 ≤ t.pos ∧ t.pos ≤ 400) by omega)]; rfl
      · by_cases h2 : 400 < t.pos
        · rw [decide_eq_false h1, decide_eq_true h2, decide_eq_false (show ¬ (0 ≤ t.pos ∧ t.pos ≤ 400) by omega)]; rfl
        · rw [decide_eq_false h1, decide_eq_false h2, decide_eq_true (show 0 ≤ t.pos ∧ t.pos ≤ 400 by omega)]; rfl
  · rw [decide_eq_false (show ¬ (i : Int) < (L.length : Int) by omega), decide_eq_false hlt]; rfl
def spAk : LSpec
  | [.slw 0, .int .i64 i], [⟨false, .toks L⟩] => .node (decide (i = 0 ∧ L.length ≤ 200) && longT L) (.node (L.all okV) (.leaf (.exit 0, ⟨[.any], []⟩)) (.leaf (.ret, ⟨[i64 8], []⟩))) .bad
  | _, _ => .bad
theorem loopAk : LoopOk (E0 B) 45 sgAk bAk spAk := by
  refine loop_turns (C := Cx B libA) (L := noL) (cxOk libA_ok) (noL_ok _) fun vs bs e o h => ?_
  unfold spAk at h
  split at h
  · rename_i i L
    rcases T.node_sel h with ⟨hc, h2⟩ | ⟨_, h2⟩
    · rw [Bool.and_eq_true] at hc
      obtain ⟨rfl, hL⟩ := of_decide_eq_true hc.1
      obtain ⟨m, hm⟩ := scan_turns (E := E0 B) (C := Cx B libA) (L := noL) (n := 45) (sg := sgAk) (body := bAk) (st := fun i => [.slw 0, i64 i]) (bs := [tkb L]) (len := L.length) (bad := fun j => !okV (L.getD j default)) (ob := fun _ => ⟨[i64 8], []⟩) (k := 0) (oe := ⟨[.any], []⟩)
        (fun i hi => turnAk' hc.2 hL i hi) L.length 0 (by omega)
      refine ⟨m, hm.trans ?_⟩
      have hf := firstB_list (fun t => !okV t) L L 0 rfl
      rw [Nat.zero_add] at hf
      rw [hf, firstL_any, ← h2]
      have : L.any (fun t => !okV t) = !L.all okV := by rw [List.not_all_eq_any_not]
      rw [this]
      simp only [T.sel]
      cases L.all okV <;> rfl
    · simp [T.sel] at h2
  · simp [T.sel] at h
noncomputable def eAk : LEnt := { id := 4, n := 45, sg := sgAk, wr := writes bAk, s := spAk }
def rI (n : Int) : Option Out := some ⟨[i64 n], []⟩
theorem tAsked (L : List Tok) (at' : Int) : runL B libA [eAk] Tryz.f22 [.slw 0, i64 at'] [tkb L] =
    bif decide (200 < (L.length : Int)) then rI 4 else bif decide ((0 : Int) = 0 ∧ L.length ≤ 200) && longT L then (bif L.all okV then (bif decide (at' < 0) then rI 2 else bif decide ((L.length : Int) < at') then rI 2 else rI 0) else rI 8) else none := by kernel_rfl
def sAsked : FSpec
  | [.slw 0, .int .i64 at'], [⟨false, .toks L⟩] => .node (longT L) (.leaf ⟨[.int .i64 (zE0 L at')], []⟩) .bad
  | _, _ => .bad
theorem okAsked : FnOk (E0 B) 22 sAsked := by
  refine fnL libA_ok (ls := [eAk]) Tryz.func22 (by kernel_rfl) (by kernel_rfl) (fun x hx => ?_) fun vs bs r h => ?_
  · simp only [List.mem_singleton] at hx; subst hx
    exact ⟨bAk, by kernel_rfl, rfl, loopAk⟩
  · unfold sAsked at h
    split at h
    · rename_i at' L
      rcases T.node_sel h with ⟨hs, h2⟩ | ⟨_, h2⟩
      · simp only [T.sel, Option.some.injEq] at h2; subst h2
        refine (tAsked L at').trans ?_
        unfold zE0
        by_cases h4 : 200 < L.length
        · rw [decide_eq_true h4, decide_eq_true (show 200 < (L.length : Int) by omega)]; rfl
        rw [decide_eq_false h4, decide_eq_false (show ¬ 200 < (L.length : Int) by omega), hs, decide_eq_true (show (0 : Int) = 0 ∧ L.length ≤ 200 from ⟨rfl, by omega⟩), Bool.true_and]
        cases hv : L.all okV with
        | false => rfl
        | true =>
          by_cases h0 : at' < 0
          · rw [decide_eq_true h0, decide_eq_false (show ¬ (0 ≤ at' ∧ at' ≤ (L.length : Int)) by omega)]; rfl
          by_cases h1 : (L.length : Int) < at'
          · rw [decide_eq_false h0, decide_eq_true h1, decide_eq_false (show ¬ (0 ≤ at' ∧ at' ≤ (L.length : Int)) by omega)]; rfl
          rw [decide_eq_false h0, decide_eq_false h1, decide_eq_true (show 0 ≤ at' ∧ at' ≤ (L.length : Int) by omega)]; rfl
      · simp [T.sel] at h2
    · simp [T.sel] at h
end Go.Proofs.YtdckpbeioemopabGreatDoor
