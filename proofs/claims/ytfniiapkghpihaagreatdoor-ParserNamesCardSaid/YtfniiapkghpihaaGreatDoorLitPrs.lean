/-
  ParserNames: what goes wrong, each by itself.
-/
import Derived.Test.YtfniiapkghpihaaGreatDoorLitA
namespace Go.Proofs.YtfniiapkghpihaaGreatDoor.Pr
open Go.Am Go Go.Proofs.YtfniiapkghpihaaGreatDoor
set_option maxRecDepth 100000
variable {B : Nat → Option Obj}
def flOk (B : Nat → Option Obj) (x : List UInt8 × Int × Int) : Prop := runT B libE Tryz.f28 [.str x.1, i64 x.2.1, i64 x.2.2] [] = rb true
def fl0 : List UInt8 × Int × Int := ([], 0, 12)
theorem fl0_run : runT B libE Tryz.f28 [.str fl0.1, i64 fl0.2.1, i64 fl0.2.2] [] = rb true := by kernel_rfl
def fl1 : List UInt8 × Int × Int := ([102, 114, 111, 109], 0, 12)
theorem fl1_run : runT B libE Tryz.f28 [.str fl1.1, i64 fl1.2.1, i64 fl1.2.2] [] = rb true := by kernel_rfl
def fl2 : List UInt8 × Int × Int := ([115, 101, 108, 101, 99, 116], 6, 12)
theorem fl2_run : runT B libE Tryz.f28 [.str fl2.1, i64 fl2.2.1, i64 fl2.2.2] [] = rb true := by kernel_rfl
def fl3 : List UInt8 × Int × Int := ([115, 101, 108, 101, 99, 116, 32, 97, 118, 103], 7, 32)
theorem fl3_run : runT B libE Tryz.f28 [.str fl3.1, i64 fl3.2.1, i64 fl3.2.2] [] = rb true := by kernel_rfl
def fl4 : List UInt8 × Int × Int := ([115, 101, 108, 101, 99, 116, 32, 99, 111, 117, 110, 116, 40, 118, 41], 13, 12)
theorem fl4_run : runT B libE Tryz.f28 [.str fl4.1, i64 fl4.2.1, i64 fl4.2.2] [] = rb true := by kernel_rfl
def fl5 : List UInt8 × Int × Int := ([115, 101, 108, 101, 99, 116, 32, 115, 117, 109, 40, 42, 41], 11, 12)
theorem fl5_run : runT B libE Tryz.f28 [.str fl5.1, i64 fl5.2.1, i64 fl5.2.2] [] = rb true := by kernel_rfl
def fl6 : List UInt8 × Int × Int := ([115, 101, 108, 101, 99, 116, 32, 115, 117, 109, 40, 118], 12, 12)
theorem fl6_run : runT B libE Tryz.f28 [.str fl6.1, i64 fl6.2.1, i64 fl6.2.2] [] = rb true := by kernel_rfl
def fl7 : List UInt8 × Int × Int := ([115, 101, 108, 101, 99, 116, 32, 115, 117, 109, 40, 41, 32, 102, 114, 111, 109], 11, 12)
theorem fl7_run : runT B libE Tryz.f28 [.str fl7.1, i64 fl7.2.1, i64 fl7.2.2] [] = rb true := by kernel_rfl
def fl8 : List UInt8 × Int × Int := ([115, 101, 108, 101, 99, 116, 32, 99, 111, 117, 110, 116, 40, 42, 41, 32, 119, 105, 110, 100, 111, 119], 16, 12)
theorem fl8_run : runT B libE Tryz.f28 [.str fl8.1, i64 fl8.2.1, i64 fl8.2.2] [] = rb true := by kernel_rfl
def fl9 : List UInt8 × Int × Int := ([115, 101, 108, 101, 99, 116, 32, 99, 111, 117, 110, 116, 40, 42, 41, 32, 102, 114, 111, 109, 32, 107], 21, 12)
theorem fl9_run : runT B libE Tryz.f28 [.str fl9.1, i64 fl9.2.1, i64 fl9.2.2] [] = rb true := by kernel_rfl
def fl10 : List UInt8 × Int × Int := ([115, 101, 108, 101, 99, 116, 32, 99, 111, 117, 110, 116, 40, 42, 41, 32, 102, 114, 111, 109, 32, 97, 32, 119, 105, 110, 100, 111, 119], 29, 12)
theorem fl10_run : runT B libE Tryz.f28 [.str fl10.1, i64 fl10.2.1, i64 fl10.2.2] [] = rb true := by kernel_rfl
def fl11 : List UInt8 × Int × Int := ([115, 101, 108, 101, 99, 116, 32, 99, 111, 117, 110, 116, 40, 42, 41, 32, 102, 114, 111, 109, 32, 97, 32, 119, 105, 110, 100, 111, 119, 32, 116, 117, 109, 98, 108, 101], 36, 12)
theorem fl11_run : runT B libE Tryz.f28 [.str fl11.1, i64 fl11.2.1, i64 fl11.2.2] [] = rb true := by kernel_rfl
def fl12 : List UInt8 × Int × Int := ([115, 101, 108, 101, 99, 116, 32, 99, 111, 117, 110, 116, 40, 42, 41, 32, 102, 114, 111, 109, 32, 97, 32, 119, 105, 110, 100, 111, 119, 32, 116, 117, 109, 98, 108, 101, 32, 107], 37, 12)
theorem fl12_run : runT B libE Tryz.f28 [.str fl12.1, i64 fl12.2.1, i64 fl12.2.2] [] = rb true := by kernel_rfl
def fl13 : List UInt8 × Int × Int := ([115, 101, 108, 101, 99, 116, 32, 99, 111, 117, 110, 116, 40, 42, 41, 32, 102, 114, 111, 109, 32, 97, 32, 119, 105, 110, 100, 111, 119, 32, 115, 108, 105, 100, 101, 32, 53], 37, 12)
theorem fl13_run : runT B libE Tryz.f28 [.str fl13.1, i64 fl13.2.1, i64 fl13.2.2] [] = rb true := by kernel_rfl
def fl14 : List UInt8 × Int × Int := ([115, 101, 108, 101, 99, 116, 32, 99, 111, 117, 110, 116, 40, 42, 41, 32, 102, 114, 111, 109, 32, 97, 32, 119, 104, 101, 114, 101, 32, 119, 105, 110, 100, 111, 119], 29, 12)
theorem fl14_run : runT B libE Tryz.f28 [.str fl14.1, i64 fl14.2.1, i64 fl14.2.2] [] = rb true := by kernel_rfl
def fl15 : List UInt8 × Int × Int := ([115, 101, 108, 101, 99, 116, 32, 99, 111, 117, 110, 116, 40, 42, 41, 32, 102, 114, 111, 109, 32, 97, 32, 117, 110, 105, 111, 110, 32, 98, 32, 106, 111, 105, 110, 32, 99, 32, 119, 105, 110, 100, 111, 119, 32, 116, 117, 109, 98, 108, 101, 32, 49], 31, 12)
theorem fl15_run : runT B libE Tryz.f28 [.str fl15.1, i64 fl15.2.1, i64 fl15.2.2] [] = rb true := by kernel_rfl
def fl16 : List UInt8 × Int × Int := ([115, 101, 108, 101, 99, 116, 32, 99, 111, 117, 110, 116, 40, 42, 41, 32, 102, 114, 111, 109, 32, 97, 32, 106, 111, 105, 110, 32, 98, 32, 117, 110, 105, 111, 110, 32, 99, 32, 119, 105, 110, 100, 111, 119, 32, 116, 117, 109, 98, 108, 101, 32, 49], 30, 12)
theorem fl16_run : runT B libE Tryz.f28 [.str fl16.1, i64 fl16.2.1, i64 fl16.2.2] [] = rb true := by kernel_rfl
def fl17 : List UInt8 × Int × Int := ([115, 101, 108, 101, 99, 116, 32, 99, 111, 117, 110, 116, 40, 42, 41, 32, 102, 114, 111, 109, 32, 97, 32, 119, 105, 110, 100, 111, 119, 32, 116, 117, 109, 98, 108, 101, 32, 48], 37, 16)
theorem fl17_run : runT B libE Tryz.f28 [.str fl17.1, i64 fl17.2.1, i64 fl17.2.2] [] = rb true := by kernel_rfl
def fl18 : List UInt8 × Int × Int := ([115, 101, 108, 101, 99, 116, 32, 99, 111, 117, 110, 116, 40, 42, 41, 32, 102, 114, 111, 109, 32, 97, 32, 119, 105, 110, 100, 111, 119, 32, 116, 117, 109, 98, 108, 101, 32, 49, 48, 55, 51, 55, 52, 49, 56, 50, 53], 37, 16)
theorem fl18_run : runT B libE Tryz.f28 [.str fl18.1, i64 fl18.2.1, i64 fl18.2.2] [] = rb true := by kernel_rfl
def fl19 : List UInt8 × Int × Int := ([115, 101, 108, 101, 99, 116, 32, 99, 111, 117, 110, 116, 40, 42, 41, 32, 102, 114, 111, 109, 32, 97, 32, 119, 105, 110, 100, 111, 119, 32, 115, 108, 105, 100, 101, 32, 53, 32, 101, 118, 101, 114, 121, 32, 54], 44, 16)
theorem fl19_run : runT B libE Tryz.f28 [.str fl19.1, i64 fl19.2.1, i64 fl19.2.2] [] = rb true := by kernel_rfl
def fl20 : List UInt8 × Int × Int := ([115, 101, 108, 101, 99, 116, 32, 99, 111, 117, 110, 116, 40, 42, 41, 32, 102, 114, 111, 109, 32, 97, 32, 119, 105, 110, 100, 111, 119, 32, 115, 108, 105, 100, 101, 32, 49, 55, 32, 101, 118, 101, 114, 121, 32, 49], 45, 16)
theorem fl20_run : runT B libE Tryz.f28 [.str fl20.1, i64 fl20.2.1, i64 fl20.2.2] [] = rb true := by kernel_rfl
def fl21 : List UInt8 × Int × Int := ([115, 101, 108, 101, 99, 116, 32, 99, 111, 117, 110, 116, 40, 42, 41, 32, 102, 114, 111, 109, 32, 97, 32, 119, 105, 110, 100, 111, 119, 32, 115, 108, 105, 100, 101, 32, 53, 32, 101, 118, 101, 114, 121, 32, 48], 44, 16)
theorem fl21_run : runT B libE Tryz.f28 [.str fl21.1, i64 fl21.2.1, i64 fl21.2.2] [] = rb true := by kernel_rfl
def fl22 : List UInt8 × Int × Int := ([115, 101, 108, 101, 99, 116, 32, 99, 111, 117, 110, 116, 40, 42, 41, 32, 102, 114, 111, 109, 32, 97, 32, 106, 111, 105, 110, 32, 98, 32, 119, 105, 110, 100, 111, 119, 32, 115, 101, 115, 115, 105, 111, 110, 32, 53], 37, 8)
theorem fl22_run : runT B libE Tryz.f28 [.str fl22.1, i64 fl22.2.1, i64 fl22.2.2] [] = rb true := by kernel_rfl
def fl23 : List UInt8 × Int × Int := ([115, 101, 108, 101, 99, 116, 32, 99, 111, 117, 110, 116, 40, 42, 41, 32, 102, 114, 111, 109, 32, 97, 32, 106, 111, 105, 110, 32, 98, 32, 119, 105, 110, 100, 111, 119, 32, 115, 108, 105, 100, 101, 32, 48], 37, 8)
theorem fl23_run : runT B libE Tryz.f28 [.str fl23.1, i64 fl23.2.1, i64 fl23.2.2] [] = rb true := by kernel_rfl
def fl24 : List UInt8 × Int × Int := ([115, 101, 108, 101, 99, 116, 32, 99, 111, 117, 110, 116, 40, 42, 41, 32, 102, 114, 111, 109, 32, 97, 32, 117, 110, 105, 111, 110, 32, 98, 32, 117, 110, 105, 111, 110, 32, 97], 37, 43)
theorem fl24_run : runT B libE Tryz.f28 [.str fl24.1, i64 fl24.2.1, i64 fl24.2.2] [] = rb true := by kernel_rfl
def fl25 : List UInt8 × Int × Int := ([115, 101, 108, 101, 99, 116, 32, 99, 111, 117, 110, 116, 40, 42, 41, 32, 102, 114, 111, 109, 32, 97, 32, 119, 105, 110, 100, 111, 119, 32, 116, 117, 109, 98, 108, 101, 32, 53, 32, 53], 39, 38)
theorem fl25_run : runT B libE Tryz.f28 [.str fl25.1, i64 fl25.2.1, i64 fl25.2.2] [] = rb true := by kernel_rfl
def fl26 : List UInt8 × Int × Int := ([115, 101, 108, 101, 99, 116, 32, 99, 111, 117, 110, 116, 40, 42, 41, 32, 102, 114, 111, 109, 32, 97, 32, 119, 105, 110, 100, 111, 119, 32, 116, 117, 109, 98, 108, 101, 32, 53, 32, 98, 121], 41, 12)
theorem fl26_run : runT B libE Tryz.f28 [.str fl26.1, i64 fl26.2.1, i64 fl26.2.2] [] = rb true := by kernel_rfl
def fl27 : List UInt8 × Int × Int := ([115, 101, 108, 101, 99, 116, 32, 99, 111, 117, 110, 116, 40, 42, 41, 32, 102, 114, 111, 109, 32, 97, 32, 119, 105, 110, 100, 111, 119, 32, 116, 117, 109, 98, 108, 101, 32, 53, 32, 108, 97, 116, 101], 43, 12)
theorem fl27_run : runT B libE Tryz.f28 [.str fl27.1, i64 fl27.2.1, i64 fl27.2.2] [] = rb true := by kernel_rfl
def fl28 : List UInt8 × Int × Int := ([115, 101, 108, 101, 99, 116, 32, 99, 111, 117, 110, 116, 40, 42, 41, 32, 102, 114, 111, 109, 32, 97, 32, 119, 105, 110, 100, 111, 119, 32, 116, 117, 109, 98, 108, 101, 32, 53, 32, 108, 97, 116, 101, 32, 115, 105, 100, 101, 32, 108, 97, 116, 101, 32, 100, 114, 111, 112], 49, 38)
theorem fl28_run : runT B libE Tryz.f28 [.str fl28.1, i64 fl28.2.1, i64 fl28.2.2] [] = rb true := by kernel_rfl
def fl29 : List UInt8 × Int × Int := ([115, 101, 108, 101, 99, 116, 32, 99, 111, 117, 110, 116, 40, 42, 41, 32, 102, 114, 111, 109, 32, 97, 32, 119, 105, 110, 100, 111, 119, 32, 116, 117, 109, 98, 108, 101, 32, 53, 32, 108, 97, 116, 101, 32, 100, 114, 111, 112, 32, 98, 121, 32, 107, 101, 121], 49, 38)
theorem fl29_run : runT B libE Tryz.f28 [.str fl29.1, i64 fl29.2.1, i64 fl29.2.2] [] = rb true := by kernel_rfl
def fl30 : List UInt8 × Int × Int := ([115, 101, 108, 101, 99, 116, 32, 99, 111, 117, 110, 116, 40, 42, 41, 32, 102, 114, 111, 109, 32, 97], 22, 12)
theorem fl30_run : runT B libE Tryz.f28 [.str fl30.1, i64 fl30.2.1, i64 fl30.2.2] [] = rb true := by kernel_rfl
def fl31 : List UInt8 × Int × Int := ([115, 101, 108, 101, 99, 116, 32, 99, 111, 117, 110, 116, 40, 42, 41, 32, 102, 114, 111, 109, 32, 97, 32, 106, 111, 105, 110, 32, 97, 32, 119, 105, 110, 100, 111, 119, 32, 116, 117, 109, 98, 108, 101, 32, 53], 28, 43)
theorem fl31_run : runT B libE Tryz.f28 [.str fl31.1, i64 fl31.2.1, i64 fl31.2.2] [] = rb true := by kernel_rfl
theorem fl0_ok : flOk B fl0 := fl0_run
theorem fl1_ok : flOk B fl1 := fl1_run
theorem fl2_ok : flOk B fl2 := fl2_run
theorem fl3_ok : flOk B fl3 := fl3_run
theorem fl4_ok : flOk B fl4 := fl4_run
theorem fl5_ok : flOk B fl5 := fl5_run
theorem fl6_ok : flOk B fl6 := fl6_run
theorem fl7_ok : flOk B fl7 := fl7_run
theorem fl8_ok : flOk B fl8 := fl8_run
theorem fl9_ok : flOk B fl9 := fl9_run
theorem fl10_ok : flOk B fl10 := fl10_run
theorem fl11_ok : flOk B fl11 := fl11_run
theorem fl12_ok : flOk B fl12 := fl12_run
theorem fl13_ok : flOk B fl13 := fl13_run
theorem fl14_ok : flOk B fl14 := fl14_run
theorem fl15_ok : flOk B fl15 := fl15_run
theorem fl16_ok : flOk B fl16 := fl16_run
theorem fl17_ok : flOk B fl17 := fl17_run
theorem fl18_ok : flOk B fl18 := fl18_run
theorem fl19_ok : flOk B fl19 := fl19_run
theorem fl20_ok : flOk B fl20 := fl20_run
theorem fl21_ok : flOk B fl21 := fl21_run
theorem fl22_ok : flOk B fl22 := fl22_run
theorem fl23_ok : flOk B fl23 := fl23_run
theorem fl24_ok : flOk B fl24 := fl24_run
theorem fl25_ok : flOk B fl25 := fl25_run
theorem fl26_ok : flOk B fl26 := fl26_run
theorem fl27_ok : flOk B fl27 := fl27_run
theorem fl28_ok : flOk B fl28 := fl28_run
theorem fl29_ok : flOk B fl29 := fl29_run
theorem fl30_ok : flOk B fl30 := fl30_run
theorem fl31_ok : flOk B fl31 := fl31_run
def flL : List (List UInt8 × Int × Int) := [fl0, fl1, fl2, fl3, fl4, fl5, fl6, fl7, fl8, fl9, fl10, fl11, fl12, fl13, fl14, fl15, fl16, fl17, fl18, fl19, fl20, fl21, fl22, fl23, fl24, fl25, fl26, fl27, fl28, fl29, fl30, fl31]
theorem flL_ok : ∀ x ∈ flL, flOk B x :=
  List.forall_mem_cons.2 ⟨fl0_ok, List.forall_mem_cons.2 ⟨fl1_ok, List.forall_mem_cons.2 ⟨fl2_ok, List.forall_mem_cons.2 ⟨fl3_ok, List.forall_mem_cons.2 ⟨fl4_ok, List.forall_mem_cons.2 ⟨fl5_ok, List.forall_mem_cons.2 ⟨fl6_ok, List.forall_mem_cons.2 ⟨fl7_ok, List.forall_mem_cons.2 ⟨fl8_ok, List.forall_mem_cons.2 ⟨fl9_ok, List.forall_mem_cons.2 ⟨fl10_ok, List.forall_mem_cons.2 ⟨fl11_ok, List.forall_mem_cons.2 ⟨fl12_ok, List.forall_mem_cons.2 ⟨fl13_ok, List.forall_mem_cons.2 ⟨fl14_ok, List.forall_mem_cons.2 ⟨fl15_ok, List.forall_mem_cons.2 ⟨fl16_ok, List.forall_mem_cons.2 ⟨fl17_ok, List.forall_mem_cons.2 ⟨fl18_ok, List.forall_mem_cons.2 ⟨fl19_ok, List.forall_mem_cons.2 ⟨fl20_ok, List.forall_mem_cons.2 ⟨fl21_ok, List.forall_mem_cons.2 ⟨fl22_ok, List.forall_mem_cons.2 ⟨fl23_ok, List.forall_mem_cons.2 ⟨fl24_ok, List.forall_mem_cons.2 ⟨fl25_ok, List.forall_mem_cons.2 ⟨fl26_ok, List.forall_mem_cons.2 ⟨fl27_ok, List.forall_mem_cons.2 ⟨fl28_ok, List.forall_mem_cons.2 ⟨fl29_ok, List.forall_mem_cons.2 ⟨fl30_ok, List.forall_mem_cons.2 ⟨fl31_ok, fun _ h => by cases h⟩⟩⟩⟩⟩⟩⟩⟩⟩⟩⟩⟩⟩⟩⟩⟩⟩⟩⟩⟩⟩⟩⟩⟩⟩⟩⟩⟩⟩⟩⟩⟩
def sFl : FSpec
  | [.str s, .int .i64 a, .int .i64 e], [] => .node (flL.any fun x => decide (x = (s, a, e))) (.leaf ⟨[.bool true], []⟩) .bad
  | _, _ => .bad
theorem okFl (hB : Laid B) : FnOk (E0 B) 28 sFl := by
  refine fnT (libE_ok hB) Tryz.func28 (by kernel_rfl) (by kernel_rfl) fun vs bs r h => ?_
  unfold sFl at h
  split at h
  · rename_i s a e
    rcases T.node_sel h with ⟨hc, h2⟩ | ⟨_, h2⟩
    · simp only [T.sel, Option.some.injEq] at h2; subst h2
      obtain ⟨x, hx, he⟩ := List.any_eq_true.1 hc
      have key := flL_ok (B := B) x hx
      rw [of_decide_eq_true he] at key
      exact key
    · simp [T.sel] at h2
  · simp [T.sel] at h
noncomputable def libFl : Tb := (28, [], sFl) :: libE
theorem libFl_ok (hB : Laid B) : TbOk B libFl := (libE_ok hB).add (okFl hB)
theorem tNames9 : runT B libFl Tryz.f8 [] [] = rb true := by kernel_rfl
theorem okNames9 (hB : Laid B) : FnOk (E0 B) 8 (sTrue0 B) := by
  refine fnT (libFl_ok hB) Tryz.func8 (by kernel_rfl) (by kernel_rfl) fun vs bs r h => ?_
  unfold sTrue0 at h
  split at h
  · simp only [T.sel, Option.some.injEq] at h; subst h; exact tNames9
  · simp [T.sel] at h
end Go.Proofs.YtfniiapkghpihaaGreatDoor.Pr
