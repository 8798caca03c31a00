/-
  Texts put together: LexBase, LexKind, LexRead.
-/
import Derived.Test.YtdckpbeioemopaaGreatDoorNodBase
import Derived.Test.YtdckpbeioemopaaGreatDoorLay
import Derived.Test.YtdckpbeioemopaaGreatDoorPureA
namespace Go.Proofs.YtdckpbeioemopaaGreatDoor.Lx
open Go.Am
set_option maxRecDepth 100000
variable {B : Nat → Option Obj}
theorem wordB_is (s : ByteArray) : wordB s = isWord s.data.toList := by
  have h : ((List.range 4).flatMap fun k => Lib.fields (grpS k).data.toList) = wordList := by kernel_rfl
  unfold isWord wordB
  rw [← h, Bool.eq_iff_iff, List.any_eq_true, List.contains_iff_mem, List.mem_flatMap]
  constructor
  · rintro ⟨k, hk, hc⟩; exact ⟨k, hk, List.contains_iff_mem.1 hc⟩
  · rintro ⟨k, hk, hc⟩; exact ⟨k, hk, List.contains_iff_mem.2 hc⟩
theorem wordOk (hB : Laid B) : FnOk (E0 B) 98 sWord :=
  fnOk_plain (fnAt_mk (fn := Tryz.f98) Tryz.func98 (by kernel_rfl) (by kernel_rfl)) fun vs bs out hsel => by
    unfold sWord at hsel
    split at hsel
    · rename_i s
      simp only [T.sel, Option.some.injEq] at hsel
      subst hsel
      refine ⟨by kernel_rfl, rfl, rfl, fun w cargs hg hv => ?_⟩
      simp only [VL, V] at hv
      obtain ⟨_, _, rfl, rfl, rfl⟩ := hv
      refine (callsIn_wide (n := 4)).1 ((word_in Fence.wide 4 trivial trivial trivial rfl (Nat.le_refl _) ⟨s.toArray⟩ w (hB.sp w hg.base)).mono ?_)
      rintro e w' ⟨rfl, hb⟩
      exact ⟨_, rfl, by rw [wordB_is]; simp [oneOrTup, V], hb⟩
    · simp [T.sel] at hsel
def digits : List UInt8 := [48, 49, 50, 51, 52, 53, 54, 55, 56, 57]
theorem trimOk : FnOk (E0 B) 117 (sTrim digits) :=
  trim_ok (fnAt_mk (fn := Tryz.f117) Tryz.func117 (by kernel_rfl) (by kernel_rfl)) fun s w hs =>
    Any.strings_Trim_laid Tryz.lays160 (by kernel_rfl) s ⟨digits.toArray⟩ w (Nat.le_trans hs (by decide)) (by decide) (ascii_of_all (by decide))
theorem parseOk (hB : Laid B) : FnOk (E0 B) 118 (sParse 228) :=
  parse_ok (t5 := 5) (fnAt_mk (fn := Tryz.f118) Tryz.func118 (by kernel_rfl) (by kernel_rfl))
    { ok := fun s v w hs h => Any.strconv_ParseInt_10_at64_ok Tryz.laysC174 s (Nat.le_trans hs (by decide)) v h w
      syn := fun s w hg hs h1 h2 => by
        obtain ⟨tp, p, hv⟩ := hB.syn w hg.base
        exact (Any.strconv_ParseInt_10_at64_syntax_var Tryz.laysC174 s (Nat.le_trans hs (by decide)) (by
          revert h1 h2
          cases Lib.parseIntB 64 s.data.toList <;> intro h1 h2 <;> first | rfl | exact absurd rfl (h1 _) | exact absurd rfl h2) tp p w hv).mono fun e w' ⟨N, he, _, _, hb⟩ => ⟨_, he, hb⟩
      range := fun s w hg hs h => by
        obtain ⟨tp, p, hv⟩ := hB.range w hg.base
        exact (Any.strconv_ParseInt_10_at64_range_var Tryz.laysC174 s (Nat.le_trans hs (by decide)) h tp p w hv).mono fun e w' ⟨N, he, _, _, hb⟩ => ⟨_, he, hb⟩ }
def sIdx : FSpec
  | [.str s, .int .u8 c], [] => .leaf ⟨[i64 (Lib.indexByte s c.toNat.toUInt8)], []⟩
  | _, _ => .bad
theorem idxOk : FnOk (E0 B) 116 sIdx :=
  fnOk_plain (fnAt_mk (fn := Tryz.f116) Tryz.func116 (by kernel_rfl) (by kernel_rfl)) fun vs bs out hsel => by
    unfold sIdx at hsel
    split at hsel
    · rename_i s c
      simp only [T.sel, Option.some.injEq] at hsel
      subst hsel
      refine ⟨by kernel_rfl, rfl, rfl, fun w cargs hg hv => ?_⟩
      simp only [VL, V] at hv
      obtain ⟨_, _, rfl, rfl, _, _, rfl, rfl, rfl⟩ := hv
      refine (Any.strings_IndexByte Tryz.lays137 ⟨s.toArray⟩ c w).mono ?_
      rintro e w' ⟨rfl, rfl⟩
      exact ⟨_, rfl, by simp [oneOrTup, V, i64], Go.RowKit.Below.refl _ _⟩
    · simp [T.sel] at hsel
theorem joinExtra : Go.Proofs.Builder.Extra Tryz.prog Tryz.lays156_ren where
  sizeBuilder := by kernel_rfl
  liesBuilder := by kernel_rfl
  t5 := Tryz.underlying5
  a5 := Tryz.isAgg5
  z5 := Tryz.sizeOf5
  v5 := Tryz.zeroValue5
  infoByte := by kernel_rfl
  cellsByte := by kernel_rfl
  sizeByte := by kernel_rfl
  neB5 := by decide
theorem joinOk : FnOk (E0 B) 142 sJoin :=
  join_ok (fnAt_mk (fn := Tryz.f142) Tryz.func142 (by kernel_rfl) (by kernel_rfl))
    (fun a c sep w => Any.strings_Join_none Tryz.lays156 joinExtra a c sep w)
    (fun b o c xs sep w h1 h2 h3 h4 h5 => Any.strings_Join Tryz.lays156 joinExtra b o c xs sep w h1 h2 h3 h4 h5)
noncomputable def lib0 : Tb := (98, [], sWord) :: (117, [], sTrim digits) :: (118, [], sParse 228) :: (116, [], sIdx) :: (142, [], sJoin) :: []
theorem lib0_ok (hB : Laid B) : TbOk B lib0 := (TbOk.nil.add joinOk |>.add idxOk |>.add (parseOk hB) |>.add trimOk |>.add (wordOk hB))
end Go.Proofs.YtdckpbeioemopaaGreatDoor.Lx
namespace Go.Proofs.YtdckpbeioemopaaGreatDoor.Lx
open Go.Am
set_option maxRecDepth 100000
variable {B : Nat → Option Obj}
def btw4' (c lo hi : Int) (f : Option Out) : Option Out := btw c lo hi (u8o 4) f
def sKind : FSpec
  | [.int .u8 c], [] => .leaf ⟨[.int .u8 (kindN c)], []⟩
  | _, _ => .bad
theorem tKind (c : Int) : runT B [] Tryz.f67 [.int .u8 c] [] =
    bif decide (c = 32) then u8o 1 else bif decide (c = 10) then u8o 1 else btw c 48 57 (u8o 2) (btw c 97 122 (u8o 3) (btw4' c 40 43 (btw4' c 60 62 (bif decide (c = 45) then u8o 4 else tw (decide (c = 33)))))) := by kernel_rfl
theorem kind_eq (c : Int) : runT B [] Tryz.f67 [.int .u8 c] [] = u8o (kindN c) := by
  rw [tKind]; unfold kindN btw4' btw tw
  cases decide (c = 32) <;> cases decide (c = 10) <;> cases decide (48 ≤ c) <;> cases decide (c ≤ 57) <;> cases decide (97 ≤ c) <;> cases decide (c ≤ 122) <;> first | rfl | (
    cases decide (40 ≤ c) <;> cases decide (c ≤ 43) <;> cases decide (60 ≤ c) <;> cases decide (c ≤ 62) <;> cases decide (c = 45) <;> cases decide (c = 33) <;> rfl)
theorem okKind : FnOk (E0 B) 67 sKind := by
  refine fnT (l := []) (fun _ h => by cases h) Tryz.func67 (by kernel_rfl) (by kernel_rfl) fun vs bs r h => ?_
  unfold sKind at h
  split at h
  · simp only [T.sel, Option.some.injEq] at h; subst h
    exact kind_eq _
  · simp [T.sel] at h
noncomputable def lib2 : Tb := (67, [], sKind) :: lib0
theorem lib2_ok (hB : Laid B) : TbOk B lib2 := lib0_ok hB |>.add okKind
theorem tSymbol (s : List UInt8) (a : Int) : runT B lib2 Tryz.f96 [.str s, .int .i64 a] [] =
    bif decide (a < 0) then rp 0 2 else bif decide ((s.length : Int) < a) then rp 0 2 else bif decide (0 ≤ a ∧ a ≤ (s.length : Int)) then symT (s.drop a.toNat) else none := by kernel_rfl
theorem okSymbol (hB : Laid B) : FnOk (E0 B) 96 sSym := by
  refine fnT (lib2_ok hB) Tryz.func96 (by kernel_rfl) (by kernel_rfl) fun vs bs r h => ?_
  unfold sSym at h
  split at h
  · rename_i s a
    simp only [T.sel, Option.some.injEq] at h; subst h
    refine (tSymbol s a).trans ?_
    unfold symN symE outA
    by_cases h0 : a < 0
    · rw [decide_eq_true h0]; rfl
    · rw [decide_eq_false h0]
      by_cases h1 : (s.length : Int) < a
      · rw [decide_eq_true h1]; rfl
      · rw [decide_eq_false h1, decide_eq_true (show 0 ≤ a ∧ a ≤ (s.length : Int) from ⟨by omega, by omega⟩), symT_is]; rfl
  · simp [T.sel] at h
noncomputable def lib3 : Tb := (96, [], sSym) :: lib2
theorem lib3_ok (hB : Laid B) : TbOk B lib3 := lib2_ok hB |>.add (okSymbol hB)
noncomputable def lib5 : Tb := lib3
theorem lib5_ok (hB : Laid B) : TbOk B lib5 := lib3_ok hB
end Go.Proofs.YtdckpbeioemopaaGreatDoor.Lx
namespace Go.Proofs.YtdckpbeioemopaaGreatDoor.Lx
open Go.Am
set_option maxRecDepth 100000
variable {B : Nat → Option Obj}
def xA (e : AExit) (l : List AV) : Option (AExit × Out) := some (e, ⟨l, []⟩)
def sRead : FSpec
  | [.str s], [] => .node (decide (s.length ≤ lim)) (.leaf ⟨[i64 (rdN s), i64 (rdE s)], []⟩) .bad
  | _, _ => .bad
theorem tRead (s : List UInt8) : runT B lib5 Tryz.f97 [.str s] [] =
    bif decide (s = []) then rp 0 12 else bif decide (s.length ≤ lim ∧ digits = digits) then (bif fails (decide (Lib.trimS s digits = [])) then rp 0 12 else
      bif decide (s.length ≤ lim) && (decide ((10 : Int) = 10) && decide ((64 : Int) = 64)) then (bif pOk s then rp (pVal s) 0 else rp 0 16) else none) else none := by kernel_rfl
theorem read_eq {s : List UInt8} (hs : s.length ≤ lim) : runT B lib5 Tryz.f97 [.str s] [] = rp (rdN s) (rdE s) := by
  refine (tRead s).trans ?_
  unfold rdN rdE
  by_cases h0 : s = []
  · subst h0; rfl
  · have h1 : decide (s = []) = false := decide_eq_false h0
    rw [h1, cond_false, decide_eq_true (show s.length ≤ lim ∧ digits = digits from ⟨hs, rfl⟩), cond_true, decide_eq_true hs]
    simp only [Bool.false_or]
    by_cases h2 : s.all isDig = true
    · have h3 : decide (Lib.trimS s digits = []) = true := decide_eq_true ((trim_digs s).2 h2)
      rw [h3, h2]
      have hp := parse_digs h0 h2
      unfold pOk pVal
      rw [hp]
      cases rdF 0 s <;> rfl
    · have h3 : decide (Lib.trimS s digits = []) = false := decide_eq_false fun h => h2 ((trim_digs s).1 h)
      have h4 : s.all isDig = false := by simpa using h2
      rw [h3, h4]; rfl
theorem okRead (hB : Laid B) : FnOk (E0 B) 97 sRead := by
  refine fnT (lib5_ok hB) Tryz.func97 (by kernel_rfl) (by kernel_rfl) fun vs bs r h => ?_
  unfold sRead at h
  split at h
  · rename_i s
    rcases T.node_sel h with ⟨hc, h2⟩ | ⟨_, h2⟩
    · simp only [T.sel, Option.some.injEq] at h2; subst h2
      exact read_eq (of_decide_eq_true hc)
    · simp [T.sel] at h2
  · simp [T.sel] at h
theorem drop_cons {s : List UInt8} {i : Nat} {c : UInt8} {r : List UInt8} (h : s.drop i = c :: r) : i < s.length ∧ s.getD i 0 = c ∧ s.drop (i + 1) = r := by
  have hlt : i < s.length := by
    rcases Nat.lt_or_ge i s.length with h1 | h1
    · exact h1
    · rw [List.drop_eq_nil_of_le h1] at h; cases h
  rw [List.drop_eq_getElem_cons hlt] at h
  cases h
  exact ⟨hlt, by simp [List.getD, hlt], rfl⟩
def rA (i : Int) (s : List UInt8) : Option (AExit × Out) := some (.normal, ⟨[.str s, i64 i], []⟩)
def sA : LSpec
  | [.str s, .int .i64 i], [] => .node (decide (0 ≤ i ∧ i ≤ s.length ∧ s.length ≤ lim)) (.node ((s.drop i.toNat).all isDig) (.leaf (.exit 0, ⟨[.any, .any], []⟩)) (.leaf (.ret, ⟨[i64 0, i64 12], []⟩))) .bad
  | _, _ => .bad
def okB (s : List UInt8) (i n : Int) : Bool := decide (0 ≤ i ∧ i ≤ s.length ∧ s.length ≤ lim ∧ 0 ≤ n ∧ n ≤ most) && (s.drop i.toNat).all isDig
def lastN (n : Int) : List UInt8 → Int
  | [] => n
  | c :: r => bif decide ((most - dg c).tdiv 10 < n) then n else lastN (10 * n + dg c) r
def sB : LSpec
  | [.str s, .int .i64 n, .int .i64 i], [] => .node (okB s i n) (.node (rdF n (s.drop i.toNat)).isSome (.leaf (.exit 2, ⟨[.any, .any, i64 (lastN n (s.drop i.toNat))], []⟩)) (.leaf (.ret, ⟨[i64 0, i64 16, i64 (lastN n (s.drop i.toNat))], []⟩))) .bad
  | _, _ => .bad
noncomputable def lib6 : Tb := (97, [], sRead) :: lib5
theorem lib6_ok (hB : Laid B) : TbOk B lib6 := lib5_ok hB |>.add (okRead hB)
end Go.Proofs.YtdckpbeioemopaaGreatDoor.Lx
