/-
  Texts put together: LexBase, LexKind, LexRead.
-/
import Derived.Test.YtdckpbeioemopabGreatDoorNodBase
import Derived.Test.YtdckpbeioemopabGreatDoorLay
import Derived.Test.YtdckpbeioemopabGreatDoorPureA
namespace Go.Proofs.YtdckpbeioemopabGreatDoor.Lx
open Go.Am
set_option maxRecDepth 100000
variable {B : Nat → Option Obj}
theorem wordB_is (s : ByteArray) : wordB s = isWord s.data.toList := by
  have h : ((List.range 4).flatMap fun k => Lib.fields (grpS k).data.toList) = wordList := by kernel_rfl
  unfold isWord wordB
  rw [← h, Bool.eq_iff_iff, List.any_eq_true, List.contains_iff_mem, List.mem_flatMap]
  constructor
  · rintro ⟨k, hk, hc⟩; exact ⟨k, hk, List.contains_iff_mem.1 hc⟩
  · rintro ⟨k, hk, hc⟩; exact ⟨k, hk, List.contains_iff_mem.2 hc⟩
theorem wordOk (hB : Laid B) : FnOk (E0 B) 97 sWord :=
  fnOk_plain (fnAt_mk (fn := Tryz.f97) Tryz.func97 (by kernel_rfl) (by kernel_rfl)) fun vs bs out hsel => by
    unfold sWord at hsel
    split at hsel
    · rename_i s
      simp only [T.sel, Option.some.injEq] at hsel
      subst hsel
      refine ⟨by kernel_rfl, rfl, rfl, fun w cargs hg hv => ?_⟩
      simp only [VL, V] at hv
      obtain ⟨_, _, rfl, rfl, rfl⟩ := hv
      refine (callsIn_wide (n := 4)).1 ((word_in Fence.wide 4 trivial trivial trivial rfl (Nat.le_refl _) ⟨s.toArray⟩ w (hB.sp w hg.base)).mono ?_)
      rintro e w' ⟨rfl, hb⟩
      exact ⟨_, rfl, by rw [wordB_is]; simp [oneOrTup, V], hb⟩
    · simp [T.sel] at hsel
def digits : List UInt8 := [48, 49, 50, 51, 52, 53, 54, 55, 56, 57]
theorem trimOk : FnOk (E0 B) 129 (sTrim digits) :=
  trim_ok (fnAt_mk (fn := Tryz.f129) Tryz.func129 (by kernel_rfl) (by kernel_rfl)) fun s w hs =>
    Any.strings_Trim_laid Tryz.lays160 (by kernel_rfl) s ⟨digits.toArray⟩ w (Nat.le_trans hs (by decide)) (by decide) (ascii_of_all (by decide))
theorem parseOk (hB : Laid B) : FnOk (E0 B) 130 (sParse 251) :=
  parse_ok (t5 := 5) (fnAt_mk (fn := Tryz.f130) Tryz.func130 (by kernel_rfl) (by kernel_rfl))
    { ok := fun s v w hs h => Any.strconv_ParseInt_10_at64_ok Tryz.laysC174 s (Nat.le_trans hs (by decide)) v h w
      syn := fun s w hg hs h1 h2 => by
        obtain ⟨tp, p, hv⟩ := hB.syn w hg.base
        exact (Any.strconv_ParseInt_10_at64_syntax_var Tryz.laysC174 s (Nat.le_trans hs (by decide)) (by
          revert h1 h2
          cases Lib.parseIntB 64 s.data.toList <;> intro h1 h2 <;> first | rfl | exact absurd rfl (h1 _) | exact absurd rfl h2) tp p w hv).mono fun e w' ⟨N, he, _, _, hb⟩ => ⟨_, he, hb⟩
      range := fun s w hg hs h => by
        obtain ⟨tp, p, hv⟩ := hB.range w hg.base
        exact (Any.strconv_ParseInt_10_at64_range_var Tryz.laysC174 s (Nat.le_trans hs (by decide)) h tp p w hv).mono fun e w' ⟨N, he, _, _, hb⟩ => ⟨_, he, hb⟩ }
def sIdx : FSpec
  | [.str s, .int .u8 c], [] => .leaf ⟨[i64 (Lib.indexByte s c.toNat.toUInt8)], []⟩
  | _, _ => .bad
theorem idxOk : FnOk (E0 B) 128 sIdx :=
  fnOk_plain (fnAt_mk (fn := Tryz.f128) Tryz.func128 (by kernel_rfl) (by kernel_rfl)) fun vs bs out hsel => by
    unfold sIdx at hsel
    split at hsel
    · rename_i s c
      simp only [T.sel, Option.some.injEq] at hsel
      subst hsel
      refine ⟨by kernel_rfl, rfl, rfl, fun w cargs hg hv => ?_⟩
      simp only [VL, V] at hv
      obtain ⟨_, _, rfl, rfl, _, _, rfl, rfl, rfl⟩ := hv
      refine (Any.strings_IndexByte Tryz.lays137 ⟨s.toArray⟩ c w).mono ?_
      rintro e w' ⟨rfl, rfl⟩
      exact ⟨_, rfl, by simp [oneOrTup, V, i64], Go.RowKit.Below.refl _ _⟩
    · simp [T.sel] at hsel
theorem joinExtra : Go.Proofs.Builder.Extra Tryz.prog Tryz.lays156_ren where
  sizeBuilder := by kernel_rfl
  liesBuilder := by kernel_rfl
  t5 := Tryz.underlying5
  a5 := Tryz.isAgg5
  z5 := Tryz.sizeOf5
  v5 := Tryz.zeroValue5
  infoByte := by kernel_rfl
  cellsByte := by kernel_rfl
  sizeByte := by kernel_rfl
  neB5 := by decide
theorem joinOk : FnOk (E0 B) 36 sJoin :=
  join_ok (fnAt_mk (fn := Tryz.f36) Tryz.func36 (by kernel_rfl) (by kernel_rfl))
    (fun a c sep w => Any.strings_Join_none Tryz.lays156 joinExtra a c sep w)
    (fun b o c xs sep w h1 h2 h3 h4 h5 => Any.strings_Join Tryz.lays156 joinExtra b o c xs sep w h1 h2 h3 h4 h5)
noncomputable def lib0 : Tb := (97, [], sWord) :: (129, [], sTrim digits) :: (130, [], sParse 251) :: (128, [], sIdx) :: (36, [], sJoin) :: []
theorem lib0_ok (hB : Laid B) : TbOk B lib0 := (TbOk.nil.add joinOk |>.add idxOk |>.add (parseOk hB) |>.add trimOk |>.add (wordOk hB))
end Go.Proofs.YtdckpbeioemopabGreatDoor.Lx
namespace Go.Proofs.YtdckpbeioemopabGreatDoor.Lx
open Go.Am
set_option maxRecDepth 100000
variable {B : Nat → Option Obj}
def btw4' (c lo hi : Int) (f : Option Out) : Option Out := btw c lo hi (u8o 4) f
def sKind : FSpec
  | [.int .u8 c], [] => .leaf ⟨[.int .u8 (kindN c)], []⟩
  | _, _ => .bad
theorem tKind (c : Int) : runT B [] Tryz.f58 [.int .u8 c] [] =
    bif decide (c = 32) then u8o 1 else bif decide (c = 10) then u8o 1 else btw c 48 57 (u8o 2) (btw c 97 122 (u8o 3) (btw4' c 40 43 (btw4' c 60 62 (bif decide (c = 45) then u8o 4 else tw (decide (c = 33)))))) := by kernel_rfl
theorem tKind' (c : Int) : runT B [] Tryz.f145 [.int .u8 c] [] =
    inB c (u8o 1) (inB c (u8o 2) (inB c (u8o 3) (inB c (u8o 4) (u8o 0) [40, 41, 42, 43, 45, 60, 61, 62, 33]) [97, 98, 99, 100, 101, 102, 103, 104, 105, 106, 107, 108, 109, 110, 111, 112, 113, 114, 115, 116, 117, 118, 119, 120, 121, 122]) [48, 49, 50, 51, 52, 53, 54, 55, 56, 57]) [32, 10] := by kernel_rfl
theorem kind_eq (c : Int) : runT B [] Tryz.f58 [.int .u8 c] [] = u8o (kindN c) := by
  rw [tKind]; unfold kindN btw4' btw tw
  cases decide (c = 32) <;> cases decide (c = 10) <;> cases decide (48 ≤ c) <;> cases decide (c ≤ 57) <;> cases decide (97 ≤ c) <;> cases decide (c ≤ 122) <;> first | rfl | (
    cases decide (40 ≤ c) <;> cases decide (c ≤ 43) <;> cases decide (60 ≤ c) <;> cases decide (c ≤ 62) <;> cases decide (c = 45) <;> cases decide (c = 33) <;> rfl)
theorem kind_eq' (c : Int) : runT B [] Tryz.f145 [.int .u8 c] [] = u8o (kindN c) := by
  rw [tKind']
  exact kind_in c
theorem okKind : FnOk (E0 B) 58 sKind := by
  refine fnT (l := []) (fun _ h => by cases h) Tryz.func58 (by kernel_rfl) (by kernel_rfl) fun vs bs r h => ?_
  unfold sKind at h
  split at h
  · simp only [T.sel, Option.some.injEq] at h; subst h
    exact kind_eq _
  · simp [T.sel] at h
theorem okKind' : FnOk (E0 B) 145 sKind := by
  refine fnT (l := []) (fun _ h => by cases h) Tryz.func145 (by kernel_rfl) (by kernel_rfl) fun vs bs r h => ?_
  unfold sKind at h
  split at h
  · simp only [T.sel, Option.some.injEq] at h; subst h
    exact kind_eq' _
  · simp [T.sel] at h
noncomputable def lib2 : Tb := (58, [], sKind) :: (145, [], sKind) :: lib0
theorem lib2_ok (hB : Laid B) : TbOk B lib2 := lib0_ok hB |>.add okKind' |>.add okKind
theorem tSymbol (s : List UInt8) (a : Int) : runT B lib2 Tryz.f95 [.str s, .int .i64 a] [] =
    bif decide (a < 0) then rp 0 2 else bif decide ((s.length : Int) < a) then rp 0 2 else bif decide (0 ≤ a ∧ a ≤ (s.length : Int)) then symT (s.drop a.toNat) else none := by kernel_rfl
theorem okSymbol (hB : Laid B) : FnOk (E0 B) 95 sSym := by
  refine fnT (lib2_ok hB) Tryz.func95 (by kernel_rfl) (by kernel_rfl) fun vs bs r h => ?_
  unfold sSym at h
  split at h
  · rename_i s a
    simp only [T.sel, Option.some.injEq] at h; subst h
    refine (tSymbol s a).trans ?_
    unfold symN symE outA
    by_cases h0 : a < 0
    · rw [decide_eq_true h0]; rfl
    · rw [decide_eq_false h0]
      by_cases h1 : (s.length : Int) < a
      · rw [decide_eq_true h1]; rfl
      · rw [decide_eq_false h1, decide_eq_true (show 0 ≤ a ∧ a ≤ (s.length : Int) from ⟨by omega, by omega⟩), symT_is]; rfl
  · simp [T.sel] at h
noncomputable def lib3 : Tb := (95, [], sSym) :: lib2
theorem lib3_ok (hB : Laid B) : TbOk B lib3 := lib2_ok hB |>.add (okSymbol hB)
theorem tWord' (s : List UInt8) : runT B [] Tryz.f90 [.str s] [] = wordT s words' := by kernel_rfl
noncomputable def bL : Code := loopAt 3 (loopsOf (bodyC Tryz.f91))
def sgL : LSig := { cs := [(0, 0), (1, 0), (5, 0)], mv := [(6, 0)], mo := [(4, 0)], take := [] }
theorem turnL (s : List UInt8) (a i : Int) (L : List (List UInt8)) : (turn (E0 B) (C0 B) noL 46 sgL bL [.str s, i64 a, .slw 0, i64 i] [⟨false, .strs L⟩]).sel =
    bif decide (i < (L.length : Int)) then (at0 i L (bif decide (((L.getD i.toNat []).length : Int) ≤ wr ((s.length : Int) - a)) then
      at0 i L (bif sL s a (wr (a + ((L.getD i.toNat []).length : Int))) then at0 i L (bif decide (cut s a (wr (a + ((L.getD i.toNat []).length : Int))) = L.getD i.toNat []) then at0 i L (some (.ret, ⟨[i64 (L.getD i.toNat []).length], []⟩)) else
        some (.normal, ⟨[.str s, i64 a, .slw 0, i64 (wr (i + 1))], [⟨false, .strs L⟩]⟩)) else none)
      else some (.normal, ⟨[.str s, i64 a, .slw 0, i64 (wr (i + 1))], [⟨false, .strs L⟩]⟩))) else some (.exit 0, ⟨[.any], []⟩) := by kernel_rfl
def spL : LSpec
  | [.str s, .int .i64 a, .slw 0, .int .i64 i], [⟨false, .strs L⟩] => .node (okL s a i L) (.node (longF s a (L.drop i.toNat)).isSome (.leaf (.ret, ⟨[i64 ((longF s a (L.drop i.toNat)).getD 0 : Nat)], []⟩)) (.leaf (.exit 0, ⟨[.any], []⟩))) .bad
  | _, _ => .bad
theorem loopLg : LoopOk (E0 B) 46 sgL bL spL := by
  refine loop_turns (C := C0 B) (L := noL) c0Ok (noL_ok _) fun vs bs e o h => ?_
  unfold spL at h
  split at h
  · rename_i s a i L
    rcases T.node_sel h with ⟨hc, h2⟩ | ⟨_, h2⟩
    · simp only [okL, Bool.and_eq_true, decide_eq_true_eq] at hc
      obtain ⟨⟨h0, h1, hl, ha0, ha1, hs⟩, hsh⟩ := hc
      clear h
      generalize hr : L.drop i.toNat = r at h2
      induction r generalizing i with
      | nil =>
        have hi : ¬ i < (L.length : Int) := by
          have := List.drop_eq_nil_iff.1 hr
          omega
        simp only [longF, Option.isSome_none, T.sel, cond_false, Option.some.injEq, Prod.mk.injEq] at h2
        obtain ⟨rfl, rfl⟩ := h2
        refine ⟨1, turns_done ((turnL s a i L).trans ?_) (by simp)⟩
        rw [decide_eq_false hi]; rfl
      | cons l r ih =>
        obtain ⟨d1, d2, d3⟩ := getD_drop hr
        have hi : i < (L.length : Int) := by omega
        have hll : l.length ≤ 10 := by
          have hm : l ∈ L := List.mem_of_mem_drop (i := i.toNat) (by rw [hr]; exact List.mem_cons_self ..)
          exact of_decide_eq_true (List.all_eq_true.1 hsh l hm)
        have ht := turnL (B := B) s a i L
        rw [decide_eq_true hi, cond_true, at0_in _ h0 hi, at0_in _ h0 hi, at0_in _ h0 hi, at0_in _ h0 hi, d1, wr_in (n := (s.length : Int) - a) (by omega) (by omega), wr_in (n := a + (l.length : Int)) (by omega) (by omega), wr_in (n := i + 1) (by omega) (by omega)] at ht
        have next : (longF s a (l :: r) = longF s a r) → (turn (E0 B) (C0 B) noL 46 sgL bL [.str s, i64 a, .slw 0, i64 i] [⟨false, .strs L⟩]).sel = some (.normal, ⟨[.str s, i64 a, .slw 0, i64 (i + 1)], [⟨false, .strs L⟩]⟩) → ∃ k, (turns (E0 B) (C0 B) noL 46 sgL bL k [.str s, i64 a, .slw 0, i64 i] [⟨false, .strs L⟩]).sel = some (e, o) := fun hq hturn => by
          obtain ⟨k, hk⟩ := ih (i + 1) (by omega) (by omega) (by rw [show (i + 1).toNat = i.toNat + 1 from by omega]; exact d3) (by rw [← hq]; exact h2)
          exact ⟨k + 1, turns_more hturn hk⟩
        by_cases hA : (l.length : Int) ≤ (s.length : Int) - a
        · rw [decide_eq_true hA, cond_true, show sL s a (a + (l.length : Int)) = true from decide_eq_true ⟨by omega, by omega, by omega⟩, cond_true] at ht
          by_cases hE : cut s a (a + (l.length : Int)) = l
          · rw [decide_eq_true hE, cond_true] at ht
            have hq : longF s a (l :: r) = some l.length := by unfold longF; rw [decide_eq_true hA, decide_eq_true hE]; rfl
            rw [hq] at h2
            simp only [Option.isSome_some, T.sel, cond_true, Option.some.injEq, Prod.mk.injEq] at h2
            obtain ⟨rfl, rfl⟩ := h2
            exact ⟨1, turns_done ht (by simp)⟩
          · rw [decide_eq_false hE, cond_false] at ht
            exact next (by conv => lhs; unfold longF
                           rw [decide_eq_false hE, Bool.and_false]; rfl) ht
        · rw [decide_eq_false hA, cond_false] at ht
          exact next (by conv => lhs; unfold longF
                         rw [decide_eq_false hA, Bool.false_and]; rfl) ht
    · simp [T.sel] at h2
  · simp [T.sel] at h
def eL : LEnt := { id := 3, n := 46, sg := sgL, wr := [8, 9, 10, 11, 14, 15, 16, 17, 18, 19, 20, 21, 22, 23, 24, 25, 26, 27, 28, 29, 30, 31, 32, 33, 34, 35, 36, 37, 38, 39, 40, 41, 42, 43, 44, 45, 4, 12, 13, 6], s := spL }
noncomputable def specLg (B : Nat → Option Obj) : FSpec := fun vs bs => fnRun (E0 B) (Cx B []) (loopL (E0 B) (inlL (E0 B) (Cx B []) 300) [eL]) Tryz.f91 (bodyC Tryz.f91) vs bs
theorem okLg0 : FnOk (E0 B) 91 (specLg B) :=
  fn_ok (c := bodyC Tryz.f91) Tryz.func91 (by kernel_rfl) (by kernel_rfl) (cxOk (l := []) (fun _ h => by cases h))
    (loopL_fits (fun x hx => by simp only [List.mem_singleton] at hx; subst hx; exact ⟨bL, by kernel_rfl, by kernel_rfl, loopLg⟩) (inl_ok (cxOk (l := []) (fun _ h => by cases h)) 300)) fun _ _ _ h => h
theorem tLg (s : List UInt8) (a : Int) : (specLg B [.str s, i64 a] []).sel = bif okL s a 0 symbols then (bif (longF s a symbols).isSome then some ⟨[i64 ((longF s a symbols).getD 0 : Nat)], []⟩ else some ⟨[i64 0], []⟩) else none := by kernel_rfl
def sLg : FSpec
  | [.str s, .int .i64 a], [] => .node (decide (0 ≤ a ∧ a ≤ (s.length : Int) ∧ (s.length : Int) ≤ 900)) (.leaf ⟨[i64 (sym0 (s.drop a.toNat))], []⟩) .bad
  | _, _ => .bad
theorem okLg : FnOk (E0 B) 91 sLg := ⟨okLg0.1, fun vs bs out h => by
  refine (okLg0 (B := B)).2 vs bs out ?_
  unfold sLg at h
  split at h
  · rename_i s a
    rcases T.node_sel h with ⟨hc, h2⟩ | ⟨_, h2⟩
    · obtain ⟨h0, h1, hl⟩ := of_decide_eq_true hc
      simp only [T.sel, Option.some.injEq] at h2; subst h2
      have hok : okL s a 0 symbols = true := by
        unfold okL
        rw [Bool.and_eq_true]
        exact ⟨decide_eq_true ⟨by decide, by decide, by decide, h0, h1, hl⟩, by decide⟩
      refine (tLg s a).trans ?_
      rw [hok, cond_true, ← long_sym h0 h1]
      unfold longN
      cases longF s a symbols <;> rfl
    · simp [T.sel] at h2
  · simp [T.sel] at h⟩
theorem okWord' : FnOk (E0 B) 90 sWord := by
  refine fnT (l := []) (fun _ h => by cases h) Tryz.func90 (by kernel_rfl) (by kernel_rfl) fun vs bs r h => ?_
  unfold sWord at h
  split at h
  · rename_i s
    simp only [T.sel, Option.some.injEq] at h; subst h
    rw [tWord', wordT_is, words_same]; rfl
  · simp [T.sel] at h
noncomputable def lib5 : Tb := (91, [], sLg) :: (90, [], sWord) :: lib3
theorem lib5_ok (hB : Laid B) : TbOk B lib5 := lib3_ok hB |>.add okWord' |>.add okLg
end Go.Proofs.YtdckpbeioemopabGreatDoor.Lx
namespace Go.Proofs.YtdckpbeioemopabGreatDoor.Lx
open Go.Am
set_option maxRecDepth 100000
variable {B : Nat → Option Obj}
def xA (e : AExit) (l : List AV) : Option (AExit × Out) := some (e, ⟨l, []⟩)
def sRead : FSpec
  | [.str s], [] => .node (decide (s.length ≤ lim)) (.leaf ⟨[i64 (rdN s), i64 (rdE s)], []⟩) .bad
  | _, _ => .bad
theorem tRead (s : List UInt8) : runT B lib5 Tryz.f96 [.str s] [] =
    bif decide (s = []) then rp 0 12 else bif decide (s.length ≤ lim ∧ digits = digits) then (bif fails (decide (Lib.trimS s digits = [])) then rp 0 12 else
      bif decide (s.length ≤ lim) && (decide ((10 : Int) = 10) && decide ((64 : Int) = 64)) then (bif pOk s then rp (pVal s) 0 else rp 0 16) else none) else none := by kernel_rfl
theorem read_eq {s : List UInt8} (hs : s.length ≤ lim) : runT B lib5 Tryz.f96 [.str s] [] = rp (rdN s) (rdE s) := by
  refine (tRead s).trans ?_
  unfold rdN rdE
  by_cases h0 : s = []
  · subst h0; rfl
  · have h1 : decide (s = []) = false := decide_eq_false h0
    rw [h1, cond_false, decide_eq_true (show s.length ≤ lim ∧ digits = digits from ⟨hs, rfl⟩), cond_true, decide_eq_true hs]
    simp only [Bool.false_or]
    by_cases h2 : s.all isDig = true
    · have h3 : decide (Lib.trimS s digits = []) = true := decide_eq_true ((trim_digs s).2 h2)
      rw [h3, h2]
      have hp := parse_digs h0 h2
      unfold pOk pVal
      rw [hp]
      cases rdF 0 s <;> rfl
    · have h3 : decide (Lib.trimS s digits = []) = false := decide_eq_false fun h => h2 ((trim_digs s).1 h)
      have h4 : s.all isDig = false := by simpa using h2
      rw [h3, h4]; rfl
theorem okRead (hB : Laid B) : FnOk (E0 B) 96 sRead := by
  refine fnT (lib5_ok hB) Tryz.func96 (by kernel_rfl) (by kernel_rfl) fun vs bs r h => ?_
  unfold sRead at h
  split at h
  · rename_i s
    rcases T.node_sel h with ⟨hc, h2⟩ | ⟨_, h2⟩
    · simp only [T.sel, Option.some.injEq] at h2; subst h2
      exact read_eq (of_decide_eq_true hc)
    · simp [T.sel] at h2
  · simp [T.sel] at h
theorem drop_cons {s : List UInt8} {i : Nat} {c : UInt8} {r : List UInt8} (h : s.drop i = c :: r) : i < s.length ∧ s.getD i 0 = c ∧ s.drop (i + 1) = r := by
  have hlt : i < s.length := by
    rcases Nat.lt_or_ge i s.length with h1 | h1
    · exact h1
    · rw [List.drop_eq_nil_of_le h1] at h; cases h
  rw [List.drop_eq_getElem_cons hlt] at h
  cases h
  exact ⟨hlt, by simp [List.getD, hlt], rfl⟩
theorem w64_i {i : Int} (h0 : 0 ≤ i) (h1 : i ≤ lim) : w64 (i + 1) = i + 1 := by
  apply w64_rng; unfold Rng; simp only [lim] at h1; omega
noncomputable def bA : Code := loopAt 4 (loopsOf (bodyC Tryz.f89))
noncomputable def bB : Code := loopAt 10 (loopsOf (bodyC Tryz.f89))
def sgA : LSig := { cs := [(0, 0)], mv := [(4, 0)], mo := [(2, 0), (3, 0)], take := [] }
def sgB : LSig := { cs := [(0, 0)], mv := [(5, 0), (6, 0)], mo := [(2, 0), (3, 0), (5, 0)], take := [] }
def rA (i : Int) (s : List UInt8) : Option (AExit × Out) := some (.normal, ⟨[.str s, i64 i], []⟩)
theorem turnA (s : List UInt8) (i : Int) : (turn (E0 B) (C0 B) noL 47 sgA bA [.str s, i64 i] []).sel =
    bif decide (i < s.length) then (bif decide (0 ≤ i ∧ i < s.length) then (bif decide (((s.getD i.toNat 0).toNat : Int) < 48) then xA .ret [i64 0, i64 12] else bif decide (0 ≤ i ∧ i < s.length) then
      (bif decide (57 < ((s.getD i.toNat 0).toNat : Int)) then xA .ret [i64 0, i64 12] else rA (w64 (i + 1)) s) else none) else none) else xA (.exit 0) [.any, .any] := by kernel_rfl
def sA : LSpec
  | [.str s, .int .i64 i], [] => .node (decide (0 ≤ i ∧ i ≤ s.length ∧ s.length ≤ lim)) (.node ((s.drop i.toNat).all isDig) (.leaf (.exit 0, ⟨[.any, .any], []⟩)) (.leaf (.ret, ⟨[i64 0, i64 12], []⟩))) .bad
  | _, _ => .bad
theorem loopA : LoopOk (E0 B) 47 sgA bA sA := by
  refine loop_turns (C := C0 B) (L := noL) c0Ok (noL_ok _) fun vs bs e o h => ?_
  unfold sA at h
  split at h
  · rename_i s i
    rcases T.node_sel h with ⟨hc, h2⟩ | ⟨_, h2⟩
    · obtain ⟨h0, h1, hl⟩ := of_decide_eq_true hc
      clear hc h
      generalize hr : s.drop i.toNat = r at h2
      induction r generalizing i with
      | nil =>
        have hi : ¬ i < s.length := by
          have := List.drop_eq_nil_iff.1 hr
          omega
        simp only [List.all_nil, T.sel, cond_true, Option.some.injEq, Prod.mk.injEq] at h2
        obtain ⟨rfl, rfl⟩ := h2
        refine ⟨1, turns_done ((turnA s i).trans ?_) (by simp)⟩
        rw [decide_eq_false hi]; rfl
      | cons c r ih =>
        obtain ⟨d1, d2, d3⟩ := drop_cons hr
        have hi : i < s.length := by omega
        have ht := turnA (B := B) s i
        rw [decide_eq_true hi, cond_true, decide_eq_true (show 0 ≤ i ∧ i < s.length from ⟨h0, hi⟩), cond_true, d2] at ht
        cases hd : isDig c with
        | true =>
          have hn := dig_nat hd
          rw [decide_eq_false (show ¬ (c.toNat : Int) < 48 from by omega), cond_false, cond_true, decide_eq_false (show ¬ 57 < (c.toNat : Int) from by omega), cond_false, w64_i h0 (by omega)] at ht
          obtain ⟨k, hk⟩ := ih (i + 1) (by omega) (by omega) (by rw [show (i + 1).toNat = i.toNat + 1 from by omega]; exact d3) (by simpa [hd] using h2)
          exact ⟨k + 1, turns_more ht hk⟩
        | false =>
          simp only [List.all_cons, hd, Bool.false_and, T.sel, cond_false, Option.some.injEq, Prod.mk.injEq] at h2
          obtain ⟨rfl, rfl⟩ := h2
          have hn : ¬ (48 ≤ c.toNat ∧ c.toNat ≤ 57) := by
            intro hh
            have : isDig c = true := by simp [isDig, hh.1, hh.2]
            rw [hd] at this; cases this
          refine ⟨1, turns_done (ht.trans ?_) (by simp)⟩
          by_cases h5 : (c.toNat : Int) < 48
          · rw [decide_eq_true h5]; rfl
          · rw [decide_eq_false h5, cond_false, cond_true, decide_eq_true (show 57 < (c.toNat : Int) from by omega)]; rfl
    · simp [T.sel] at h2
  · simp [T.sel] at h
def rB (n i : Int) (s : List UInt8) : Option (AExit × Out) := some (.normal, ⟨[.str s, i64 n, i64 i], []⟩)
def dgW (c : UInt8) : Int := w64 (IntKind.u8.wrap ((c.toNat : Int) - 48))
theorem turnB (s : List UInt8) (n i : Int) : (turn (E0 B) (C0 B) noL 47 sgB bB [.str s, i64 n, i64 i] []).sel =
    bif decide (i < s.length) then (bif decide (0 ≤ i ∧ i < s.length) then (bif decide (w64 ((w64 (9223372036854775807 - dgW (s.getD i.toNat 0))).tdiv 10) < n) then xA .ret [i64 0, i64 16, i64 n]
      else rB (w64 (w64 (10 * n) + dgW (s.getD i.toNat 0))) (w64 (i + 1)) s) else none) else xA (.exit 2) [.any, .any, i64 n] := by kernel_rfl
def okB (s : List UInt8) (i n : Int) : Bool := decide (0 ≤ i ∧ i ≤ s.length ∧ s.length ≤ lim ∧ 0 ≤ n ∧ n ≤ most) && (s.drop i.toNat).all isDig
def lastN (n : Int) : List UInt8 → Int
  | [] => n
  | c :: r => bif decide ((most - dg c).tdiv 10 < n) then n else lastN (10 * n + dg c) r
def sB : LSpec
  | [.str s, .int .i64 n, .int .i64 i], [] => .node (okB s i n) (.node (rdF n (s.drop i.toNat)).isSome (.leaf (.exit 2, ⟨[.any, .any, i64 (lastN n (s.drop i.toNat))], []⟩)) (.leaf (.ret, ⟨[i64 0, i64 16, i64 (lastN n (s.drop i.toNat))], []⟩))) .bad
  | _, _ => .bad
theorem rdF_last {n : Int} {l : List UInt8} (h : (rdF n l).isSome = true) : rdF n l = some (lastN n l) := by
  induction l generalizing n with
  | nil => rfl
  | cons c r ih =>
    simp only [rdF, lastN] at h ⊢
    cases hc : decide ((most - dg c).tdiv 10 < n) with
    | true => rw [hc] at h; simp at h
    | false => rw [hc] at h; rw [cond_false, cond_false]; exact ih h
theorem dgW_eq {c : UInt8} (h : isDig c = true) : dgW c = dg c := by
  have := dg_rng h
  have hn := dig_nat h
  unfold dgW dg at *
  have e : IntKind.u8.wrap ((c.toNat : Int) - 48) = (c.toNat : Int) - 48 := by simp [IntKind.wrap, IntKind.bits, IntKind.signed]; omega
  rw [e]; apply w64_rng; unfold Rng; omega
theorem loopB : LoopOk (E0 B) 47 sgB bB sB := by
  refine loop_turns (C := C0 B) (L := noL) c0Ok (noL_ok _) fun vs bs e o h => ?_
  unfold sB at h
  split at h
  · rename_i s n i
    rcases T.node_sel h with ⟨hc, h2⟩ | ⟨_, h2⟩
    · simp only [okB, Bool.and_eq_true, decide_eq_true_eq] at hc
      obtain ⟨⟨h0, h1, hl, hn0, hn1⟩, hall⟩ := hc
      clear h
      generalize hr : s.drop i.toNat = r at h2 hall
      induction r generalizing i n with
      | nil =>
        have hi : ¬ i < s.length := by
          have := List.drop_eq_nil_iff.1 hr
          omega
        simp only [rdF, lastN, Option.isSome_some, T.sel, cond_true, Option.some.injEq, Prod.mk.injEq] at h2
        obtain ⟨rfl, rfl⟩ := h2
        refine ⟨1, turns_done ((turnB s n i).trans ?_) (by simp)⟩
        rw [decide_eq_false hi]; rfl
      | cons c r ih =>
        simp only [List.all_cons, Bool.and_eq_true] at hall
        obtain ⟨d1, d2, d3⟩ := drop_cons hr
        have hi : i < s.length := by omega
        have ht := turnB (B := B) s n i
        have hd := dg_rng hall.1
        have hmost : most = 9223372036854775807 := rfl
        have e1 : w64 (9223372036854775807 - dg c) = most - dg c := by rw [hmost]; apply w64_rng; unfold Rng; omega
        have e2 : w64 ((most - dg c).tdiv 10) = (most - dg c).tdiv 10 := by
          rw [Int.tdiv_eq_ediv_of_nonneg (by omega)]; apply w64_rng; unfold Rng; omega
        rw [decide_eq_true hi, cond_true, decide_eq_true (show 0 ≤ i ∧ i < s.length from ⟨h0, hi⟩), cond_true, d2, dgW_eq hall.1, e1, e2] at ht
        cases hq : decide ((most - dg c).tdiv 10 < n) with
        | true =>
          rw [hq, cond_true] at ht
          simp only [rdF, lastN, hq, cond_true, Option.isSome_none, T.sel, cond_false, Option.some.injEq, Prod.mk.injEq] at h2
          obtain ⟨rfl, rfl⟩ := h2
          exact ⟨1, turns_done ht (by simp)⟩
        | false =>
          rw [hq, cond_false] at ht
          have hq' := of_decide_eq_false hq
          rw [Int.tdiv_eq_ediv_of_nonneg (by omega)] at hq'
          have e3 : w64 (10 * n) = 10 * n := by apply w64_rng; unfold Rng; omega
          have e4 : w64 (10 * n + dg c) = 10 * n + dg c := by apply w64_rng; unfold Rng; omega
          rw [e3, e4, w64_i h0 (by omega)] at ht
          obtain ⟨k, hk⟩ := ih (10 * n + dg c) (i + 1) (by omega) (by omega) (by omega) (by omega) (by rw [show (i + 1).toNat = i.toNat + 1 from by omega]; exact d3) (by simpa only [rdF, lastN, hq, cond_false] using h2) hall.2
          exact ⟨k + 1, turns_more ht hk⟩
    · simp [T.sel] at h2
  · simp [T.sel] at h
def eA : LEnt := { id := 4, n := 47, sg := sgA, wr := [10, 11, 12, 13, 16, 17, 18, 19, 20, 21, 22, 23, 24, 25, 2, 3, 14, 15, 4], s := sA }
def eB : LEnt := { id := 10, n := 47, sg := sgB, wr := [26, 27, 28, 29, 32, 33, 34, 35, 36, 7, 37, 38, 39, 40, 41, 2, 3, 42, 43, 44, 45, 5, 30, 31, 6], s := sB }
theorem tRefRead (s : List UInt8) : (fnRun (E0 B) (C0 B) (loopL (E0 B) noL [eA, eB]) Tryz.f89 (bodyC Tryz.f89) [.str s] []).sel =
    bif decide (s = []) then rp 0 12 else bif decide (0 ≤ (0 : Int) ∧ (0 : Int) ≤ s.length ∧ s.length ≤ lim) then (bif s.all isDig then (bif okB s 0 0 then (bif (rdF 0 s).isSome then rp (lastN 0 s) 0 else rp 0 16) else none) else rp 0 12) else none := by kernel_rfl
theorem okRefRead : FnOk (E0 B) 89 sRead := by
  refine fn_ok (C := C0 B) (L := loopL (E0 B) noL [eA, eB]) (c := bodyC Tryz.f89) Tryz.func89 (by kernel_rfl) (by kernel_rfl) c0Ok (loopL_fits (fun x hx => ?_) noL_ok) fun vs bs r h => ?_
  · simp only [List.mem_cons, List.mem_nil_iff, or_false] at hx
    rcases hx with rfl | rfl
    · exact ⟨bA, by kernel_rfl, by kernel_rfl, loopA⟩
    · exact ⟨bB, by kernel_rfl, by kernel_rfl, loopB⟩
  · unfold sRead at h
    split at h
    · rename_i s
      rcases T.node_sel h with ⟨hc, h2⟩ | ⟨_, h2⟩
      · simp only [T.sel, Option.some.injEq] at h2; subst h2
        refine (tRefRead s).trans ?_
        have hs := of_decide_eq_true hc
        unfold rdN rdE
        by_cases h0 : s = []
        · subst h0; rfl
        · rw [decide_eq_false h0, cond_false, decide_eq_true (show 0 ≤ (0 : Int) ∧ (0 : Int) ≤ s.length ∧ s.length ≤ lim from ⟨Int.le_refl _, by omega, hs⟩), cond_true]
          cases h1 : s.all isDig with
          | false => rfl
          | true =>
            have hok : okB s 0 0 = true := by
              simp only [okB, Bool.and_eq_true, decide_eq_true_eq]
              exact ⟨⟨by omega, by omega, hs, by omega, by decide⟩, h1⟩
            rw [hok]
            cases h3 : (rdF 0 s).isSome with
            | true => have := rdF_last h3; rw [this]; rfl
            | false =>
              have : rdF 0 s = none := by simpa using h3
              rw [this]; rfl
      · simp [T.sel] at h2
    · simp [T.sel] at h
noncomputable def lib6 : Tb := (96, [], sRead) :: (89, [], sRead) :: lib5
theorem lib6_ok (hB : Laid B) : TbOk B lib6 := lib5_ok hB |>.add okRefRead |>.add (okRead hB)
end Go.Proofs.YtdckpbeioemopabGreatDoor.Lx
