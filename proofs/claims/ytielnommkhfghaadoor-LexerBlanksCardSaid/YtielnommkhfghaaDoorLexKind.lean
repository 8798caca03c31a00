/-
  Lexer: Kind, Symbol; the reference's Kind, Longest, Word: by contract.
-/
import Derived.Test.YtielnommkhfghaaDoorLexBase
namespace Go.Proofs.YtielnommkhfghaaDoor
open Go.Am
set_option maxRecDepth 100000
variable {B : Nat → Option Obj}
def btw4' (c lo hi : Int) (f : Option Out) : Option Out := btw c lo hi (u8o 4) f
def sKind : FSpec
  | [.int .u8 c], [] => .leaf ⟨[.int .u8 (kindN c)], []⟩
  | _, _ => .bad
theorem tKind (c : Int) : runT B [] Tryd.f21 [.int .u8 c] [] =
    bif decide (c = 32) then u8o 1 else bif decide (c = 10) then u8o 1 else btw c 48 57 (u8o 2) (btw c 97 122 (u8o 3) (btw4' c 40 43 (btw4' c 60 62 (bif decide (c = 45) then u8o 4 else tw (decide (c = 33)))))) := by kernel_rfl
theorem tKind' (c : Int) : runT B [] Tryd.f38 [.int .u8 c] [] =
    inB c (u8o 1) (inB c (u8o 2) (inB c (u8o 3) (inB c (u8o 4) (u8o 0) [40, 41, 42, 43, 45, 60, 61, 62, 33]) [97, 98, 99, 100, 101, 102, 103, 104, 105, 106, 107, 108, 109, 110, 111, 112, 113, 114, 115, 116, 117, 118, 119, 120, 121, 122]) [48, 49, 50, 51, 52, 53, 54, 55, 56, 57]) [32, 10] := by kernel_rfl
theorem kind_eq (c : Int) : runT B [] Tryd.f21 [.int .u8 c] [] = u8o (kindN c) := by
  rw [tKind]; unfold kindN btw4' btw tw
  cases decide (c = 32) <;> cases decide (c = 10) <;> cases decide (48 ≤ c) <;> cases decide (c ≤ 57) <;> cases decide (97 ≤ c) <;> cases decide (c ≤ 122) <;> first | rfl | (
    cases decide (40 ≤ c) <;> cases decide (c ≤ 43) <;> cases decide (60 ≤ c) <;> cases decide (c ≤ 62) <;> cases decide (c = 45) <;> cases decide (c = 33) <;> rfl)
theorem kind_eq' (c : Int) : runT B [] Tryd.f38 [.int .u8 c] [] = u8o (kindN c) := by
  rw [tKind']
  exact kind_in c
theorem okKind : FnOk (E0 B) 21 sKind := by
  refine fnT (l := []) (fun _ h => by cases h) Tryd.func21 (by kernel_rfl) (by kernel_rfl) fun vs bs r h => ?_
  unfold sKind at h
  split at h
  · simp only [T.sel, Option.some.injEq] at h; subst h
    exact kind_eq _
  · simp [T.sel] at h
theorem okKind' : FnOk (E0 B) 38 sKind := by
  refine fnT (l := []) (fun _ h => by cases h) Tryd.func38 (by kernel_rfl) (by kernel_rfl) fun vs bs r h => ?_
  unfold sKind at h
  split at h
  · simp only [T.sel, Option.some.injEq] at h; subst h
    exact kind_eq' _
  · simp [T.sel] at h
noncomputable def lib2 : Tb := (21, [], sKind) :: (38, [], sKind) :: lib0
theorem lib2_ok (hB : Laid B) : TbOk B lib2 := lib0_ok hB |>.add okKind' |>.add okKind
theorem tSymbol (s : List UInt8) (a : Int) : runT B lib2 Tryd.f33 [.str s, .int .i64 a] [] =
    bif decide (a < 0) then rp 0 2 else bif decide ((s.length : Int) < a) then rp 0 2 else bif decide (0 ≤ a ∧ a ≤ (s.length : Int)) then symT (s.drop a.toNat) else none := by kernel_rfl
theorem okSymbol (hB : Laid B) : FnOk (E0 B) 33 sSym := by
  refine fnT (lib2_ok hB) Tryd.func33 (by kernel_rfl) (by kernel_rfl) fun vs bs r h => ?_
  unfold sSym at h
  split at h
  · rename_i s a
    simp only [T.sel, Option.some.injEq] at h; subst h
    refine (tSymbol s a).trans ?_
    unfold symN symE outA
    by_cases h0 : a < 0
    · rw [decide_eq_true h0]; rfl
    · rw [decide_eq_false h0]
      by_cases h1 : (s.length : Int) < a
      · rw [decide_eq_true h1]; rfl
      · rw [decide_eq_false h1, decide_eq_true (show 0 ≤ a ∧ a ≤ (s.length : Int) from ⟨by omega, by omega⟩), symT_is]; rfl
  · simp [T.sel] at h
noncomputable def lib3 : Tb := (33, [], sSym) :: lib2
theorem lib3_ok (hB : Laid B) : TbOk B lib3 := lib2_ok hB |>.add (okSymbol hB)
theorem tWord' (s : List UInt8) : runT B [] Tryd.f28 [.str s] [] = wordT s words' := by kernel_rfl
noncomputable def bL : Code := loopAt 3 (loopsOf (bodyC Tryd.f29))
def sgL : LSig := { cs := [(0, 0), (1, 0), (5, 0)], mv := [(6, 0)], mo := [(4, 0)], take := [] }
theorem turnL (s : List UInt8) (a i : Int) (L : List (List UInt8)) : (turn (E0 B) (C0 B) noL 46 sgL bL [.str s, i64 a, .slw 0, i64 i] [⟨false, .strs L⟩]).sel =
    bif decide (i < (L.length : Int)) then (at0 i L (bif decide (((L.getD i.toNat []).length : Int) ≤ wr ((s.length : Int) - a)) then
      at0 i L (bif sL s a (wr (a + ((L.getD i.toNat []).length : Int))) then at0 i L (bif decide (cut s a (wr (a + ((L.getD i.toNat []).length : Int))) = L.getD i.toNat []) then at0 i L (some (.ret, ⟨[i64 (L.getD i.toNat []).length], []⟩)) else
        some (.normal, ⟨[.str s, i64 a, .slw 0, i64 (wr (i + 1))], [⟨false, .strs L⟩]⟩)) else none)
      else some (.normal, ⟨[.str s, i64 a, .slw 0, i64 (wr (i + 1))], [⟨false, .strs L⟩]⟩))) else some (.exit 0, ⟨[.any], []⟩) := by kernel_rfl
def spL : LSpec
  | [.str s, .int .i64 a, .slw 0, .int .i64 i], [⟨false, .strs L⟩] => .node (okL s a i L) (.node (longF s a (L.drop i.toNat)).isSome (.leaf (.ret, ⟨[i64 ((longF s a (L.drop i.toNat)).getD 0 : Nat)], []⟩)) (.leaf (.exit 0, ⟨[.any], []⟩))) .bad
  | _, _ => .bad
theorem loopLg : LoopOk (E0 B) 46 sgL bL spL := by
  refine loop_turns (C := C0 B) (L := noL) c0Ok (noL_ok _) fun vs bs e o h => ?_
  unfold spL at h
  split at h
  · rename_i s a i L
    rcases T.node_sel h with ⟨hc, h2⟩ | ⟨_, h2⟩
    · simp only [okL, Bool.and_eq_true, decide_eq_true_eq] at hc
      obtain ⟨⟨h0, h1, hl, ha0, ha1, hs⟩, hsh⟩ := hc
      clear h
      generalize hr : L.drop i.toNat = r at h2
      induction r generalizing i with
      | nil =>
        have hi : ¬ i < (L.length : Int) := by
          have := List.drop_eq_nil_iff.1 hr
          omega
        simp only [longF, Option.isSome_none, T.sel, cond_false, Option.some.injEq, Prod.mk.injEq] at h2
        obtain ⟨rfl, rfl⟩ := h2
        refine ⟨1, turns_done ((turnL s a i L).trans ?_) (by simp)⟩
        rw [decide_eq_false hi]; rfl
      | cons l r ih =>
        obtain ⟨d1, d2, d3⟩ := getD_drop hr
        have hi : i < (L.length : Int) := by omega
        have hll : l.length ≤ 10 := by
          have hm : l ∈ L := List.mem_of_mem_drop (i := i.toNat) (by rw [hr]; exact List.mem_cons_self ..)
          exact of_decide_eq_true (List.all_eq_true.1 hsh l hm)
        have ht := turnL (B := B) s a i L
        rw [decide_eq_true hi, cond_true, at0_in _ h0 hi, at0_in _ h0 hi, at0_in _ h0 hi, at0_in _ h0 hi, d1, wr_in (n := (s.length : Int) - a) (by omega) (by omega), wr_in (n := a + (l.length : Int)) (by omega) (by omega), wr_in (n := i + 1) (by omega) (by omega)] at ht
        have next : (longF s a (l :: r) = longF s a r) → (turn (E0 B) (C0 B) noL 46 sgL bL [.str s, i64 a, .slw 0, i64 i] [⟨false, .strs L⟩]).sel = some (.normal, ⟨[.str s, i64 a, .slw 0, i64 (i + 1)], [⟨false, .strs L⟩]⟩) → ∃ k, (turns (E0 B) (C0 B) noL 46 sgL bL k [.str s, i64 a, .slw 0, i64 i] [⟨false, .strs L⟩]).sel = some (e, o) := fun hq hturn => by
          obtain ⟨k, hk⟩ := ih (i + 1) (by omega) (by omega) (by rw [show (i + 1).toNat = i.toNat + 1 from by omega]; exact d3) (by rw [← hq]; exact h2)
          exact ⟨k + 1, turns_more hturn hk⟩
        by_cases hA : (l.length : Int) ≤ (s.length : Int) - a
        · rw [decide_eq_true hA, cond_true, show sL s a (a + (l.length : Int)) = true from decide_eq_true ⟨by omega, by omega, by omega⟩, cond_true] at ht
          by_cases hE : cut s a (a + (l.length : Int)) = l
          · rw [decide_eq_true hE, cond_true] at ht
            have hq : longF s a (l :: r) = some l.length := by unfold longF; rw [decide_eq_true hA, decide_eq_true hE]; rfl
            rw [hq] at h2
            simp only [Option.isSome_some, T.sel, cond_true, Option.some.injEq, Prod.mk.injEq] at h2
            obtain ⟨rfl, rfl⟩ := h2
            exact ⟨1, turns_done ht (by simp)⟩
          · rw [decide_eq_false hE, cond_false] at ht
            exact next (by conv => lhs; unfold longF
                           rw [decide_eq_false hE, Bool.and_false]; rfl) ht
        · rw [decide_eq_false hA, cond_false] at ht
          exact next (by conv => lhs; unfold longF
                         rw [decide_eq_false hA, Bool.false_and]; rfl) ht
    · simp [T.sel] at h2
  · simp [T.sel] at h
def eL : LEnt := { id := 3, n := 46, sg := sgL, wr := [8, 9, 10, 11, 14, 15, 16, 17, 18, 19, 20, 21, 22, 23, 24, 25, 26, 27, 28, 29, 30, 31, 32, 33, 34, 35, 36, 37, 38, 39, 40, 41, 42, 43, 44, 45, 4, 12, 13, 6], s := spL }
noncomputable def specLg (B : Nat → Option Obj) : FSpec := fun vs bs => fnRun (E0 B) (Cx B []) (loopL (E0 B) (inlL (E0 B) (Cx B []) 300) [eL]) Tryd.f29 (bodyC Tryd.f29) vs bs
theorem okLg0 : FnOk (E0 B) 29 (specLg B) :=
  fn_ok (c := bodyC Tryd.f29) Tryd.func29 (by kernel_rfl) (by kernel_rfl) (cxOk (l := []) (fun _ h => by cases h))
    (loopL_fits (fun x hx => by simp only [List.mem_singleton] at hx; subst hx; exact ⟨bL, by kernel_rfl, by kernel_rfl, loopLg⟩) (inl_ok (cxOk (l := []) (fun _ h => by cases h)) 300)) fun _ _ _ h => h
theorem tLg (s : List UInt8) (a : Int) : (specLg B [.str s, i64 a] []).sel = bif okL s a 0 symbols then (bif (longF s a symbols).isSome then some ⟨[i64 ((longF s a symbols).getD 0 : Nat)], []⟩ else some ⟨[i64 0], []⟩) else none := by kernel_rfl
def sLg : FSpec
  | [.str s, .int .i64 a], [] => .node (decide (0 ≤ a ∧ a ≤ (s.length : Int) ∧ (s.length : Int) ≤ 900)) (.leaf ⟨[i64 (sym0 (s.drop a.toNat))], []⟩) .bad
  | _, _ => .bad
theorem okLg : FnOk (E0 B) 29 sLg := ⟨okLg0.1, fun vs bs out h => by
  refine (okLg0 (B := B)).2 vs bs out ?_
  unfold sLg at h
  split at h
  · rename_i s a
    rcases T.node_sel h with ⟨hc, h2⟩ | ⟨_, h2⟩
    · obtain ⟨h0, h1, hl⟩ := of_decide_eq_true hc
      simp only [T.sel, Option.some.injEq] at h2; subst h2
      have hok : okL s a 0 symbols = true := by
        unfold okL
        rw [Bool.and_eq_true]
        exact ⟨decide_eq_true ⟨by decide, by decide, by decide, h0, h1, hl⟩, by decide⟩
      refine (tLg s a).trans ?_
      rw [hok, cond_true, ← long_sym h0 h1]
      unfold longN
      cases longF s a symbols <;> rfl
    · simp [T.sel] at h2
  · simp [T.sel] at h⟩
theorem okWord' : FnOk (E0 B) 28 sWord := by
  refine fnT (l := []) (fun _ h => by cases h) Tryd.func28 (by kernel_rfl) (by kernel_rfl) fun vs bs r h => ?_
  unfold sWord at h
  split at h
  · rename_i s
    simp only [T.sel, Option.some.injEq] at h; subst h
    rw [tWord', wordT_is, words_same]; rfl
  · simp [T.sel] at h
noncomputable def lib5 : Tb := (29, [], sLg) :: (28, [], sWord) :: lib3
theorem lib5_ok (hB : Laid B) : TbOk B lib5 := lib3_ok hB |>.add okWord' |>.add okLg
end Go.Proofs.YtielnommkhfghaaDoor
