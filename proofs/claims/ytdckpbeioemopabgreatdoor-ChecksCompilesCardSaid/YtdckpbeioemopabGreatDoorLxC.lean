/-
  Texts put together: AmBig, LexBig.
-/
import Derived.Shelf.LaysC
import Derived.Lib.Strings
import Derived.Lib.Walk
import Derived.Lib.ConvBytes
import Derived.Lib.AtoiAllMem
import Derived.Lib.ParseIntBMem
import Derived.Lib.Hide
import Derived.Lib.ItoaWalk
import Derived.Laws.Strings3
import Derived.Laws.Closers25
import Derived.Laws.Closers25b
import Derived.WalkKit
import Derived.BigCall
import Derived.BigGuard
import Derived.Test.YtdckpbeioemopabGreatDoorLxA
namespace Go.Am
open Go Go.Proofs Go.Shelf Go.RowKit
variable {P : Program} {ρ : Ren}
theorem num_step {acc v : Nat} {c : UInt8} {r : List UInt8} (h : Lib.parseUint10 acc (c :: r) = .ok v) :
    (48 ≤ c.toNat ∧ c.toNat ≤ 57) ∧ acc < 1844674407370955162 ∧ acc * 10 + (c.toNat - 48) < 18446744073709551616 ∧ Lib.parseUint10 (acc * 10 + (c.toNat - 48)) r = .ok v := by
  unfold Lib.parseUint10 at h
  by_cases h1 : 48 ≤ c.toNat ∧ c.toNat ≤ 57
  · rw [if_pos h1] at h
    by_cases h2 : 1844674407370955162 ≤ acc
    · rw [if_pos h2] at h; cases h
    · rw [if_neg h2] at h
      by_cases h3 : 18446744073709551616 ≤ acc * 10 + (c.toNat - 48)
      · rw [if_pos h3] at h; cases h
      · rw [if_neg h3] at h
        exact ⟨h1, by omega, by omega, h⟩
  · rw [if_neg h1] at h; cases h
set_option maxHeartbeats 32000000 in
set_option maxRecDepth 100000 in
theorem big_uint (L : Lays.n287 P ρ) (t : ByteArray) (hne : t.size ≠ 0) (hmax : t.size ≤ 9223372036854775807) (v : Nat) (hv : Lib.parseUint10 0 t.data.toList = .ok v) (w : World) :
    Calls P (ρ.f 287) #[.string t, .int .i64 10, .int .i64 64] w fun e w' => e = .returned (.tuple #[.int .u64 (v : Int), .nilIface]) ∧ w' = Lib.bytesWorld w (ρ.t 5) t := by
  have mixed := L.mixed
  have t9 := L.t9; have a9 := L.a9; have z9 := L.z9; have v9 := L.v9
  have t3 := L.t3; have a3 := L.a3; have z3 := L.z3; have v3 := L.v3
  have t53 := L.t53; have a53 := L.a53; have z53 := L.z53; have v53 := L.v53
  have t75 := L.t75; have a75 := L.a75; have z75 := L.z75; have v75 := L.v75
  have t4 := L.t4; have a4 := L.a4; have z4 := L.z4; have v4 := L.v4
  have t167 := L.t167; have a167 := L.a167; have z167 := L.z167; have v167 := L.v167
  have t5 := L.t5; have a5 := L.a5; have z5 := L.z5; have v5 := L.v5
  have t46 := L.t46; have a46 := L.a46; have z46 := L.z46; have v46 := L.v46
  have t37 := L.t37; have a37 := L.a37; have z37 := L.z37; have v37 := L.v37
  have t0 := L.t0; have a0 := L.a0; have z0 := L.z0; have v0 := L.v0
  have hemp : t.toList.isEmpty = false := by
    rw [← decide_eq_emptyBytes]
    exact decide_eq_false (fun h => hne (by rw [h]; rfl))
  have hcv := Lib.run_convert_string_bytes (P := P) w (ρ.t 9) (ρ.t 37) (ρ.t 5) t (u := .string) L.t9 L.t37 L.t5
  have hcell : ∀ j, j < t.size → (Lib.bytesWorld w (ρ.t 5) t).cell? ⟨w.heap.size, j, none⟩ = some (.int .u8 (t.data.toList.getD j 0).toNat) := fun j hj => Lib.bytesWorld_cell w (ρ.t 5) t j hj
  generalize Lib.bytesWorld w (ρ.t 5) t = W1 at hcv hcell ⊢
  have hlen : t.data.toList.length = t.size := by rw [Lib.size_eq]
  generalize t.data.toList = bs at hcell hlen hv
  have hwr : IntKind.u64.wrap (IntKind.u64.wrap 18446744073709551616 - 1) = 18446744073709551615 := by
    rw [IntKind.wrap_u64, IntKind.wrap_u64]
    decide
  go_enter L.f287, Body.n287_ntmps ρ
  go_wp2
  go_loop [12, 13, 101] (fun vu vn vi => ∃ (k acc : Nat) (a : Int), vu = .bool false ∧ vn = .int .u64 a ∧ vi = .int .i64 k ∧ k ≤ t.size ∧ Hid (a = (acc : Int) ∧ acc < 18446744073709551616 ∧ Lib.parseUint10 acc (bs.drop k) = .ok v))
    (fun _ _ vi => t.size - (intOf vi).toNat)
  case atStart => exact ⟨0, 0, 0, rfl, rfl, rfl, by omega, rfl, by omega, hv⟩
  case round =>
    obtain ⟨k, acc, a, rfl, rfl, rfl, hk, hh⟩ := hrel
    obtain ⟨ha, hacc, hdec⟩ := hh.out
    clear hh hv
    have a0 : 0 ≤ a := by omega
    have a1 : a < 18446744073709551616 := by omega
    by_cases hkn : k < t.size
    · have hc := hcell k hkn
      have hdrop : bs.drop k = bs[k]'(by omega) :: bs.drop (k + 1) := List.drop_eq_getElem_cons (by omega)
      have hget : bs.getD k 0 = bs[k]'(by omega) := by simp [List.getD, List.getElem?_eq_getElem (show k < bs.length by omega)]
      rw [hdrop] at hdec
      rw [hget] at hc
      generalize bs[k]'(by omega) = c at hc hdec
      clear hcell hdrop hget
      obtain ⟨⟨hd0, hd1⟩, hcut, hov, hgo⟩ := num_step hdec
      have HN : Hid (a * 10 + ((c.toNat : Int) - 48) = ((acc * 10 + (c.toNat - 48) : Nat) : Int) ∧ acc * 10 + (c.toNat - 48) < 18446744073709551616 ∧ Lib.parseUint10 (acc * 10 + (c.toNat - 48)) (bs.drop (k + 1)) = .ok v) := Lib.hid ⟨by omega, hov, hgo⟩
      have icut : a < 1844674407370955162 := by omega
      have iov : a * 10 + ((c.toNat : Int) - 48) < 18446744073709551616 := by omega
      clear hcut hacc hov hdec hgo ha
      go_wp2
      refine ⟨⟨k + 1, acc * 10 + (c.toNat - 48), a * 10 + ((c.toNat : Int) - 48), rfl, (by first | rfl | (congr 1; omega)), (by first | rfl | (congr 1; omega)), by omega, HN⟩, by simp [intOf]; omega⟩
    · have hkk : k = t.size := by omega
      subst hkk
      rw [List.drop_eq_nil_of_le (by omega)] at hdec
      have hF : acc = v := by
        unfold Lib.parseUint10 at hdec
        injection hdec
      subst hF
      subst ha
      clear hacc a0 a1 hdec
      go_wp2
      go_ret2
      exact ⟨rfl, rfl⟩
set_option maxHeartbeats 32000000 in
set_option maxRecDepth 100000 in
theorem big_int (L : LaysC.n247 P ρ) (s : ByteArray) (c0 : UInt8) (r : List UInt8) (hL : s.data.toList = c0 :: r) (h0 : 48 ≤ c0.toNat) (hmax : s.size ≤ 9223372036854775807) (v : Nat) (hlt : v < 9223372036854775808) (hv : Lib.parseUint10 0 s.data.toList = .ok v) (w : World) :
    Calls P (ρ.f 247) #[.string s, .int .i64 10, .int .i64 64] w fun e w' => e = .returned (.tuple #[.int .i64 (v : Int), .nilIface]) ∧ w' = Lib.bytesWorld w (ρ.t 5) s := by
  have mixed := L.mixed
  have t9 := L.t9; have a9 := L.a9; have z9 := L.z9; have v9 := L.v9
  have t3 := L.t3; have a3 := L.a3; have z3 := L.z3; have v3 := L.v3
  have t2 := L.t2; have a2 := L.a2; have z2 := L.z2; have v2 := L.v2
  have t75 := L.t75; have a75 := L.a75; have z75 := L.z75; have v75 := L.v75
  have t4 := L.t4; have a4 := L.a4; have z4 := L.z4; have v4 := L.v4
  have t167 := L.t167; have a167 := L.a167; have z167 := L.z167; have v167 := L.v167
  have t5 := L.t5; have a5 := L.a5; have z5 := L.z5; have v5 := L.v5
  have t53 := L.t53; have a53 := L.a53; have z53 := L.z53; have v53 := L.v53
  have t175 := L.t175; have a175 := L.a175; have z175 := L.z175; have v175 := L.v175
  have t46 := L.t46; have a46 := L.a46; have z46 := L.z46; have v46 := L.v46
  have e287 : ∀ args w, (callFunc (ρ.f 287) args).run P w = .ok (.enter (ρ.f 287) args) w := enters_of L.f287 (by kernel_rfl) rfl
  have hsz : s.size = r.length + 1 := by rw [Lib.size_eq, hL]; rfl
  have hne : s.size ≠ 0 := by omega
  have hemp : s.toList.isEmpty = false := by
    rw [← decide_eq_emptyBytes]
    exact decide_eq_false (fun h => hne (by rw [h]; rfl))
  have hpos : 0 < s.size := by omega
  have hs0 : s[0]'hpos = c0 := by have := Lib.getD_at s 0 hpos; rw [hL] at this; exact this
  have i43 : ¬ (c0.toNat : Int) = 43 := by omega
  have i45 : ¬ (c0.toNat : Int) = 45 := by omega
  have hU0 := big_uint { L with } s hne hmax v hv w
  obtain ⟨a, ha⟩ : ∃ a : Int, a = (v : Int) := ⟨_, rfl⟩
  rw [← ha] at hU0 ⊢
  have hU : Calls P (ρ.f 287) #[.string s, .int .i64 10, .int .i64 64] w fun e w' => e = .returned (.tuple #[.int .u64 a, .nilIface]) ∧ w' = Lib.bytesWorld w (ρ.t 5) s := hU0
  have j0 : 0 ≤ a := by omega
  have j1 : a < 9223372036854775808 := by omega
  clear hU0 hv hlt ha hL
  go_enter L.f247, Body.n247_ntmps ρ
  go_wp2_with (go_at_fn (ρ.f 287); refine hU.mono ?_; rintro e w1 ⟨rfl, rfl⟩)
  go_wp2
  go_ret2
  exact ⟨rfl, rfl⟩
set_option maxHeartbeats 32000000 in
set_option maxRecDepth 100000 in
theorem big_parse (L : LaysC.n174 P ρ) (s : ByteArray) (c0 : UInt8) (r : List UInt8) (hL : s.data.toList = c0 :: r) (h0 : 48 ≤ c0.toNat) (hmax : s.size ≤ 9223372036854775807) (v : Nat) (hlt : v < 9223372036854775808) (hv : Lib.parseUint10 0 s.data.toList = .ok v) (w : World) :
    Calls P (ρ.f 174) #[.string s, .int .i64 10, .int .i64 64] w fun e w' => e = .returned (.tuple #[.int .i64 (v : Int), .nilIface]) ∧ w' = Lib.bytesWorld w (ρ.t 5) s := by
  have mixed := L.mixed
  have t9 := L.t9; have a9 := L.a9; have z9 := L.z9; have v9 := L.v9
  have t3 := L.t3; have a3 := L.a3; have z3 := L.z3; have v3 := L.v3
  have t2 := L.t2; have a2 := L.a2; have z2 := L.z2; have v2 := L.v2
  have t75 := L.t75; have a75 := L.a75; have z75 := L.z75; have v75 := L.v75
  have t85 := L.t85; have a85 := L.a85; have z85 := L.z85; have v85 := L.v85
  have t4 := L.t4; have a4 := L.a4; have z4 := L.z4; have v4 := L.v4
  have e247 : ∀ args w, (callFunc (ρ.f 247) args).run P w = .ok (.enter (ρ.f 247) args) w := enters_of L.f247 (by kernel_rfl) rfl
  have hI := big_int { L with } s c0 r hL h0 hmax v hlt hv w
  generalize (v : Int) = a at hI ⊢
  clear hv hlt hL
  go_enter L.f174, Body.n174_ntmps ρ
  go_wp2_with (go_at_fn (ρ.f 247); refine hI.mono ?_; rintro e W1 ⟨rfl, rfl⟩)
  go_wp2
  go_ret2
  exact ⟨rfl, rfl⟩
end Go.Am
namespace Go.Proofs.YtdckpbeioemopabGreatDoor.Lx
open Go.Am
set_option maxRecDepth 100000
variable {B : Nat → Option Obj}
def top63 : Nat := 9223372036854775807
def sTrimB : FSpec
  | [.str s, .str c], [] => .node (decide (s.length ≤ top63 ∧ c = digits) && s.all isDig) (.leaf ⟨[.str []], []⟩) .bad
  | _, _ => .bad
theorem trimB : FnOk (E0 B) 129 sTrimB :=
  fnOk_plain (fnAt_mk (fn := Tryz.f129) Tryz.func129 (by kernel_rfl) (by kernel_rfl)) fun vs bs out hsel => by
    unfold sTrimB at hsel
    split at hsel
    · rename_i s c
      rcases T.node_sel hsel with ⟨hc, h2⟩ | ⟨_, h2⟩
      · rw [Bool.and_eq_true] at hc
        obtain ⟨hl, rfl⟩ := of_decide_eq_true hc.1
        have ht := (trim_digs s).2 hc.2
        simp only [T.sel, Option.some.injEq] at h2; subst h2
        refine ⟨by kernel_rfl, rfl, rfl, fun w cargs hg hv => ?_⟩
        simp only [VL, V] at hv
        obtain ⟨_, _, rfl, rfl, _, _, rfl, rfl, rfl⟩ := hv
        refine (Any.strings_Trim_laid Tryz.lays160 (by kernel_rfl) ⟨s.toArray⟩ ⟨digits.toArray⟩ w (by rw [size_eq]; exact hl) (by decide) (ascii_of_all (by decide))).mono ?_
        rintro e w' ⟨rfl, hb⟩
        refine ⟨_, rfl, ?_, hb⟩
        rw [bytes_eq, bytes_eq, show Lib.trimS s digits = [] from ht]
        simp [oneOrTup, V]
      · simp [T.sel] at h2
    · simp [T.sel] at hsel
theorem num_of {s : List UInt8} (h : rdE s = 0) : s ≠ [] ∧ s.all isDig = true ∧ ∃ n, rdF 0 s = some n ∧ rdN s = n := by
  unfold rdE at h
  cases hc : decide (s = []) || !s.all isDig with
  | true => rw [hc] at h; cases h
  | false =>
    rw [hc] at h
    rw [Bool.or_eq_false_iff] at hc
    cases hr : rdF 0 s with
    | none => rw [hr] at h; cases h
    | some n =>
      refine ⟨of_decide_eq_false hc.1, by simpa using hc.2, n, rfl, ?_⟩
      unfold rdN
      rw [hc.1, hc.2, hr]; rfl
theorem uint_of {s : List UInt8} (h : rdE s = 0) : ∃ (c : UInt8) (r : List UInt8) (v : Nat), s = c :: r ∧ 48 ≤ c.toNat ∧ v < 9223372036854775808 ∧ Lib.parseUint10 0 s = .ok v ∧ rdN s = (v : Int) := by
  obtain ⟨h0, hd, n, hn, hr⟩ := num_of h
  have hp := parse_digs h0 hd
  rw [hn] at hp
  match s, h0 with
  | c :: r, _ =>
    have hc : isDig c = true := by
      rw [List.all_cons, Bool.and_eq_true] at hd
      exact hd.1
    unfold isDig at hc
    rw [Bool.and_eq_true] at hc
    have c1 := of_decide_eq_true hc.1
    rw [Lib.parseIntB_plain 64 c r (by omega) (by omega)] at hp
    cases hu : Lib.parseUintB 64 (c :: r) with
    | ok v =>
      rw [hu] at hp
      unfold Lib.signlessC at hp
      simp only at hp
      by_cases hv : 2 ^ (64 - 1) ≤ v
      · rw [if_pos hv] at hp; cases hp
      · rw [if_neg hv] at hp
        injection hp with hp
        have hv' : v < 9223372036854775808 := by
          have : (2 : Nat) ^ (64 - 1) = 9223372036854775808 := by decide
          omega
        refine ⟨c, r, v, rfl, c1, hv', ?_, by rw [hr]; exact hp.symm⟩
        unfold Lib.parseUintB at hu
        rw [if_neg (by simp), show (2 : Nat) ^ 64 - 1 = 18446744073709551615 by decide, Lib.parseUintM_64] at hu
        exact hu
    | _ => rw [hu] at hp; simp [Lib.signlessC] at hp
def sParseB : FSpec
  | [.str s, .int .i64 b, .int .i64 n], [] => .node (decide (s.length ≤ top63 ∧ b = 10 ∧ n = 64) && decide (rdE s = 0)) (.leaf ⟨[.int .i64 (rdN s), .nili], []⟩) .bad
  | _, _ => .bad
theorem parseB : FnOk (E0 B) 130 sParseB :=
  fnOk_plain (fnAt_mk (fn := Tryz.f130) Tryz.func130 (by kernel_rfl) (by kernel_rfl)) fun vs bs out hsel => by
    unfold sParseB at hsel
    split at hsel
    · rename_i s b n
      rcases T.node_sel hsel with ⟨hc, h2⟩ | ⟨_, h2⟩
      · rw [Bool.and_eq_true] at hc
        obtain ⟨hl, rfl, rfl⟩ := of_decide_eq_true hc.1
        obtain ⟨c, r, v, hs, c1, hv, hp, hr⟩ := uint_of (of_decide_eq_true hc.2)
        simp only [T.sel, Option.some.injEq] at h2; subst h2
        refine ⟨by kernel_rfl, rfl, rfl, fun w cargs hg hvl => ?_⟩
        simp only [VL, V] at hvl
        obtain ⟨_, _, rfl, rfl, _, _, rfl, rfl, _, _, rfl, rfl, rfl⟩ := hvl
        refine (big_parse Tryz.laysC174 ⟨s.toArray⟩ c r (by rw [bytes_eq]; exact hs) c1 (by rw [size_eq]; exact hl) v hv (by rw [bytes_eq]; exact hp) w).mono ?_
        rintro e w' ⟨rfl, rfl⟩
        refine ⟨_, rfl, ?_, Lib.bytesWorld_below _ _ _⟩
        rw [hr]
        simp only [oneOrTup, V, VL]
        exact ⟨_, rfl, _, _, rfl, rfl, _, _, rfl, rfl, rfl⟩
      · simp [T.sel] at h2
    · simp [T.sel] at hsel
noncomputable def libBg : Tb := (129, [], sTrimB) :: (130, [], sParseB) :: []
theorem libBg_ok : TbOk B libBg := (TbOk.nil.add parseB).add trimB
theorem tReadB (s : List UInt8) : runT B libBg Tryz.f96 [.str s] [] =
    bif decide (s = []) then rp 0 12 else bif decide (s.length ≤ top63 ∧ digits = digits) && s.all isDig then (bif decide (s.length ≤ top63 ∧ (10 : Int) = 10 ∧ (64 : Int) = 64) && decide (rdE s = 0) then rp (rdN s) 0 else none) else none := by kernel_rfl
def rdG (s : List UInt8) : Bool := decide (s.length ≤ 900 ∨ (rdE s = 0 ∧ s.length ≤ top63))
def sReadP : FSpec
  | [.str s], [] => .node (rdG s) (.leaf ⟨[i64 (rdN s), i64 (rdE s)], []⟩) .bad
  | _, _ => .bad
theorem okRdB : FnOk (E0 B) 96 (fun vs bs => fnRun (E0 B) (Cx B libBg) (inlL (E0 B) (Cx B libBg) 450) Tryz.f96 (bodyC Tryz.f96) vs bs) :=
  fnT libBg_ok Tryz.func96 (by kernel_rfl) (by kernel_rfl) fun vs bs r h => h
theorem okReadP (hB : Laid B) : FnOk (E0 B) 96 sReadP :=
  ⟨(okRead hB).1, fun vs bs out hs => by
    unfold sReadP at hs
    split at hs
    · rename_i s
      rcases T.node_sel hs with ⟨hc, h2⟩ | ⟨_, h2⟩
      · rcases of_decide_eq_true hc with hl | ⟨he, hl⟩
        · refine (okRead hB).2 _ _ _ ?_
          show (bif decide (s.length ≤ lim) then _ else _) = _
          rw [decide_eq_true (show s.length ≤ lim by simp only [lim]; omega)]; exact h2
        · refine (okRdB (B := B)).2 _ _ _ ?_
          obtain ⟨h0, hd, _⟩ := num_of he
          refine (tReadB s).trans ?_
          rw [decide_eq_false h0, decide_eq_true (show s.length ≤ top63 ∧ digits = digits from ⟨hl, rfl⟩), hd, decide_eq_true (show s.length ≤ top63 ∧ (10 : Int) = 10 ∧ (64 : Int) = 64 from ⟨hl, rfl, rfl⟩), decide_eq_true he]
          rw [he] at h2
          exact h2
      · simp [T.sel] at h2
    · simp [T.sel] at hs⟩
end Go.Proofs.YtdckpbeioemopabGreatDoor.Lx
