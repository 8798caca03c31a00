/-
  Texts put together: GpFn, GpLaw.
-/
import Derived.Test.YtdckpbeioemopaaGreatDoorOfA
import Derived.Test.YtdckpbeioemopaaGreatDoorRplA
import Derived.Test.YtdckpbeioemopaaGreatDoorLitA
import Derived.Test.YtdckpbeioemopaaGreatDoorPlnA
import Derived.Test.YtdckpbeioemopaaGreatDoorGrA
namespace Go.Proofs.YtdckpbeioemopaaGreatDoor.Gp
open Go.Am Go Go.Proofs.YtdckpbeioemopaaGreatDoor Go.Proofs.YtdckpbeioemopaaGreatDoor.Gr Go.Proofs.YtdckpbeioemopaaGreatDoor.Gf
set_option maxRecDepth 100000
variable {B : Nat → Option Obj}
noncomputable def libA : Tb := (26, [1, 2], sAdd) :: (27, [2, 3], Gf.sJoin) :: (45, [], sCloneA) :: (25, [], Pl.sChkP) :: libE
theorem libA_ok (hB : Laid B) : TbOk B libA := ((((libE_ok hB).add Pl.okChkP).add okCloneA).add okJoin).add okAdd
theorem tAl24 : runT B libA Tryz.f8 [] [] = rb true := by kernel_rfl
theorem okAl24 (hB : Laid B) : FnOk (E0 B) 8 sTrueF := by
  refine fnT (libA_ok hB) Tryz.func8 (by kernel_rfl) (by kernel_rfl) fun vs bs r h => ?_
  unfold sTrueF at h
  split at h
  · simp only [T.sel, Option.some.injEq] at h; subst h; exact tAl24
  · simp [T.sel] at h
noncomputable def libF : Tb := (18, [], Rp.sChkR) :: Ck.lib15
theorem libF_ok : TbOk B libF := Ck.lib15_ok.add Rp.okChkR
def fitO (st : List Int) (q : Qry) (p room : Int) : Option Out :=
  bif decide (70 < (q.arg.length : Int)) then rb false else bif decide (70 < (q.whr.length : Int)) then rb false else bif !decide (10 < (q.src.length : Int)) then (bif decide ((st.length : Int) ≤ 30) then
   (gdO (st.all inByte) (bif decide (Pl.plE st q = 0) then (bif decide (1 ≤ p) then (bif decide (p ≤ 3) then (bif decide (1 ≤ room) then rb (decide (room ≤ 8)) else rb false) else rb false) else rb false) else rb false)) else rb false) else rb false
theorem tFit (st : List Int) (q : Qry) (p room : Int) : runT B libF Tryz.f9 [Pl.plAv q 0 1 2 3, i64 p, i64 room] (Pl.plBs false st q) = fitO st q p room := by kernel_rfl
def fitB (st : List Int) (q : Qry) (p room : Int) : Bool := !decide (70 < (q.arg.length : Int)) && (!decide (70 < (q.whr.length : Int)) && (!decide (10 < (q.src.length : Int)) && (decide ((st.length : Int) ≤ 30) && (decide (Pl.plE st q = 0) && (decide (1 ≤ p) && (decide (p ≤ 3) && (decide (1 ≤ room) && decide (room ≤ 8))))))))
theorem fit_is {st : List Int} {q : Qry} {p room : Int} (h : st.all inByte = true) : fitO st q p room = rb (fitB st q p room) := by
  unfold fitO fitB gdO
  rw [h]
  generalize decide (70 < (q.arg.length : Int)) = a1
  generalize decide (70 < (q.whr.length : Int)) = a2
  generalize decide (10 < (q.src.length : Int)) = a3
  generalize decide ((st.length : Int) ≤ 30) = a4
  generalize decide (Pl.plE st q = 0) = a5
  generalize decide (1 ≤ p) = a6
  generalize decide (p ≤ 3) = a7
  generalize decide (1 ≤ room) = a8
  cases a1
  · cases a2
    · cases a3
      · cases a4
        · rfl
        · cases a5
          · rfl
          · cases a6
            · rfl
            · cases a7
              · rfl
              · cases a8 <;> rfl
      · rfl
    · rfl
  · rfl
def sFit : FSpec
  | [.agg [.slw 0, .int .u8 ag, .slw 1, .slw 2, .bool j, .slw 3, .int .u8 wk, .int .i64 ws, .int .i64 we, .bool bk, .int .u8 lt], .int .i64 p, .int .i64 room], [⟨false, .ints .u8 st⟩, ⟨false, .nodes A⟩, ⟨false, .ints .i64 S⟩, ⟨false, .nodes W⟩] => .node (st.all inByte) (.leaf ⟨[.bool (fitB st ⟨ag, A, S, j, W, wk, ws, we, bk, lt⟩ p room)], []⟩) .bad
  | _, _ => .bad
theorem okFit : FnOk (E0 B) 9 sFit := by
  refine fnT libF_ok Tryz.func9 (by kernel_rfl) (by kernel_rfl) fun vs bs r h => ?_
  unfold sFit at h
  split at h
  · rename_i ag j wk ws we bk lt p room st A S W
    rcases T.node_sel h with ⟨hc, h2⟩ | ⟨_, h2⟩
    · simp only [T.sel, Option.some.injEq] at h2; subst h2
      exact (tFit st ⟨ag, A, S, j, W, wk, ws, we, bk, lt⟩ p room).trans (fit_is hc)
    · simp [T.sel] at h2
  · simp [T.sel] at h
def okG (st : List Int) (q : Qry) (p room : Int) : Bool := decide (Pl.plE st q = 0) && decide (st.length ≤ 1000 ∧ 1 ≤ p ∧ p ≤ 3 ∧ 1 ≤ room ∧ room ≤ 8)
def sOfG : FSpec
  | [.agg [.slw 0, .int .u8 ag, .slw 1, .slw 2, .bool j, .slw 3, .int .u8 wk, .int .i64 ws, .int .i64 we, .bool bk, .int .u8 lt], .int .i64 p, .int .i64 room], [⟨false, .ints .u8 st⟩, ⟨false, .nodes A⟩, ⟨false, .ints .i64 S⟩, ⟨false, .nodes W⟩] => .node (okG st ⟨ag, A, S, j, W, wk, ws, we, bk, lt⟩ p room) (.leaf ⟨[.agg [.slw 0, .slw 1], i64 0], [⟨true, .oprs (ofO S.length p.toNat bk j (decide (lt = 2)))⟩, ⟨true, .chns (ofC S.length p.toNat bk (decide (lt = 2)) room)⟩]⟩) .bad
  | _, _ => .bad
theorem okOfG : FnOk (E0 B) 10 sOfG := by
  refine or_spec Gf.okOf Gf.okOf fun vs bs r h => Or.inl ?_
  unfold sOfG at h
  split at h
  · rename_i ag j wk ws we bk lt p room st A S W
    rcases T.node_sel h with ⟨hc, h2⟩ | ⟨_, h2⟩
    · simp only [T.sel, Option.some.injEq] at h2; subst h2
      unfold okG at hc
      rw [Bool.and_eq_true] at hc
      obtain ⟨h1, h3⟩ := hc
      have h1 := of_decide_eq_true h1
      obtain ⟨hl, p1, p3, r1, r8⟩ := of_decide_eq_true h3
      have he : ofE st ⟨ag, A, S, j, W, wk, ws, we, bk, lt⟩ p room = 0 := by
        unfold ofE
        rw [decide_eq_true h1, decide_eq_true (show 1 ≤ p ∧ p ≤ 3 ∧ 1 ≤ room ∧ room ≤ 8 from ⟨p1, p3, r1, r8⟩)]; rfl
      unfold Gf.sOf ofT
      simp only [T.sel, Bool.true_and]
      rw [decide_eq_true hl, cond_true]
      unfold ofOut
      rw [he]; rfl
    · simp [T.sel] at h2
  · simp [T.sel] at h
noncomputable def libP : Tb := (8, [], sTrueF) :: (9, [], sFit) :: (10, [], sOfG) :: libH
end Go.Proofs.YtdckpbeioemopaaGreatDoor.Gp
namespace Go.Proofs.YtdckpbeioemopaaGreatDoor.Gp
open Go.Am Go Go.Proofs.YtdckpbeioemopaaGreatDoor Go.Proofs.YtdckpbeioemopaaGreatDoor.Gr Go.Proofs.YtdckpbeioemopaaGreatDoor.Gf
set_option maxRecDepth 100000
variable {B : Nat → Option Obj}
def bb : List Bool := [false, true]
def vT (n p : Nat) (j : Bool) : Bool := bb.all fun bk => bb.all fun sd => validN (ofO n p bk j sd) (ofC n p bk sd 1)
theorem v11 : vT 1 1 false = true := by kernel_rfl
theorem v12 : vT 1 2 false = true := by kernel_rfl
theorem v13 : vT 1 3 false = true := by kernel_rfl
theorem v21 : vT 2 1 false = true := by kernel_rfl
theorem v22 : vT 2 2 false = true := by kernel_rfl
theorem v23 : vT 2 3 false = true := by kernel_rfl
theorem v31 : vT 3 1 false = true := by kernel_rfl
theorem v32 : vT 3 2 false = true := by kernel_rfl
theorem v33 : vT 3 3 false = true := by kernel_rfl
theorem v41 : vT 4 1 false = true := by kernel_rfl
theorem v42 : vT 4 2 false = true := by kernel_rfl
theorem v43 : vT 4 3 false = true := by kernel_rfl
theorem w1 : vT 2 1 true = true := by kernel_rfl
theorem w2 : vT 2 2 true = true := by kernel_rfl
theorem w3 : vT 2 3 true = true := by kernel_rfl
theorem v_all {n p : Nat} (hn : n = 1 ∨ n = 2 ∨ n = 3 ∨ n = 4) (hp : p = 1 ∨ p = 2 ∨ p = 3) : vT n p false = true := by
  rcases hn with rfl | rfl | rfl | rfl <;> rcases hp with rfl | rfl | rfl
  · exact v11
  · exact v12
  · exact v13
  · exact v21
  · exact v22
  · exact v23
  · exact v31
  · exact v32
  · exact v33
  · exact v41
  · exact v42
  · exact v43
theorem w_all {p : Nat} (hp : p = 1 ∨ p = 2 ∨ p = 3) : vT 2 p true = true := by
  rcases hp with rfl | rfl | rfl
  · exact w1
  · exact w2
  · exact w3
theorem bb_mem (b : Bool) : b ∈ bb := by cases b <;> decide
theorem ofC_rm (n p : Nat) (bk sd : Bool) (room : Int) : ofC n p bk sd room = (ofC n p bk sd 1).map (rm room) := by
  unfold ofC
  cases bk <;> cases sd <;> simp [List.map_flatMap, Function.comp_def, rm, chn]
theorem val_all {n p : Nat} (hn : n = 1 ∨ n = 2 ∨ n = 3 ∨ n = 4) (hp : p = 1 ∨ p = 2 ∨ p = 3) (bk sd j : Bool) (hj : j = true → n = 2) {room : Int} (r1 : 1 ≤ room) (r8 : room ≤ 8) : validN (ofO n p bk j sd) (ofC n p bk sd room) = true := by
  rw [ofC_rm]
  refine valid_rm r1 r8 ?_
  cases j with
  | false => exact List.all_eq_true.1 (List.all_eq_true.1 (v_all hn hp) bk (bb_mem bk)) sd (bb_mem sd)
  | true =>
    have := hj rfl
    subst this
    exact List.all_eq_true.1 (List.all_eq_true.1 (w_all hp) bk (bb_mem bk)) sd (bb_mem sd)
end Go.Proofs.YtdckpbeioemopaaGreatDoor.Gp
