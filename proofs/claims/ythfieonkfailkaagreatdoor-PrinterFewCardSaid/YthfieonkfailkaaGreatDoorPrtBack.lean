/-
  PrinterBack: what the law answers.
-/
import Derived.Test.YthfieonkfailkaaGreatDoorPrtA
import Derived.Test.YthfieonkfailkaaGreatDoorPrsWeak
import Derived.Test.YthfieonkfailkaaGreatDoorExShort
namespace Go.Proofs.YthfieonkfailkaaGreatDoor
open Go.Am Go
set_option maxRecDepth 100000
variable {B : Nat → Option Obj}
noncomputable def libPX : Tb := (38, [], sExprP) :: libX
theorem libPX_ok (hB : Laid B) : TbOk B libPX := (libX_ok hB).add (okExprP hB)
theorem tAlive11 : runT B libPX Tryz.f41 [] [] = rb true := by kernel_rfl
theorem okAlive11 (hB : Laid B) : FnOk (E0 B) 41 sTrueF := by
  refine fnT (libPX_ok hB) Tryz.func41 (by kernel_rfl) (by kernel_rfl) fun vs bs r h => ?_
  unfold sTrueF at h
  split at h
  · simp only [T.sel, Option.some.injEq] at h; subst h; exact tAlive11
  · simp [T.sel] at h
def sExprPG : FSpec
  | [.slw 0], [⟨false, .nodes X⟩] => .node (rngX X && decide (chkN X = 0)) (.leaf ⟨[.str (prS X), .int .i64 0], []⟩) .bad
  | _, _ => .bad
theorem okExprPG (hB : Laid B) : FnOk (E0 B) 38 sExprPG := fnOk_weak (okExprP hB) fun vs bs r h => by
  unfold sExprPG at h
  split at h
  · rename_i X
    rcases T.node_sel h with ⟨hg, h2⟩ | ⟨_, h2⟩
    · rw [Bool.and_eq_true] at hg
      rw [← h2]
      show (bif rngX X then _ else _) = _
      rw [hg.1, of_decide_eq_true hg.2]; rfl
    · simp [T.sel] at h2
  · simp [T.sel] at h
noncomputable def libPB : Tb := (41, [], sTrueF) :: (38, [], sExprPG) :: libW
theorem libPB_ok (hB : Laid B) : TbOk B libPB := ((libW_ok hB).add (okExprPG hB)).add (okAlive11 hB)
def gX (X : List Nod) (K : Option Out) : Option Out := bif rngX X && decide (chkN X = 0) then K else none
def pbP (X : List Nod) (L : List Tok) : Option Out := bif shortT L && decide (zE L 0 = 0) then (bif decide (smE (zX L 0) X = 0) then (bif decide (zN L 0 = (L.length : Int)) then (bif smB (zX L 0) X then rb true else rb false) else rb false) else none) else none
theorem tPBack (X : List Nod) : runT B libPB Tryz.f11 [.slw 0] [ndb X] =
    bif decide (70 < (X.length : Int)) then rb true else bif !decide (chkN X = 0) then rb true else gX X (gX X (bif decide (((txS X).length : Int) < ((prS X).length : Int)) then rb false else bif decide (((prS X).length : Int) = 0) then rb false else bif decide (400 < ((prS X).length : Int)) then rb true else
      bif decide (lexE (prS X) = 0) then pbP X (lexL (prS X)) else none)) := by kernel_rfl
theorem z_gr' {L : List Tok} {e' : Ex} (hv : L.all okV = true) (hn : L.length ≤ 200) (hg : Gr (.E 1) e' L) (hs : e'.size ≤ 60) (hd : e'.depth ≤ 20) : zE L 0 = 0 ∧ zN L 0 = L.length ∧ zX L 0 = e'.flat 0 := by
  have hp := pE_gr (s := 1) (rest := []) hg (by omega) (by omega) hs hd rfl (n := 1500) (by rw [List.append_nil]; omega)
  rw [List.append_nil] at hp
  have hz : zR 0 L = .ok e' [] := hp
  obtain ⟨z1, z2, z3⟩ := z_ok hv hn (Int.le_refl 0) (by omega)
  rw [hz] at z1 z2 z3
  exact ⟨z1, by rw [z2]; show (L.length : Int) - (([] : List Tok).length : Int) = _; simp, z3⟩
theorem pback_true {X : List Nod} (hr : rngX X = true) : runT B libPB Tryz.f11 [.slw 0] [ndb X] = rb true := by
  refine (tPBack X).trans ?_
  cases decide (70 < (X.length : Int)) with
  | true => rfl
  | false =>
    by_cases hc : chkN X = 0
    · obtain ⟨e, he, rfl, hs, hd⟩ := chkN_tree hc
      unfold gX
      rw [decide_eq_true hc, hr, prS_is he hc, (txS_is he hc).1]
      have hr : e.rng = true := by rw [← rng_flat e 0]; exact hr
      have hsh : (e.txt false).length ≤ (e.txt true).length := pcs_short e 0 0 he (Nat.le_refl _)
      have hne : (e.txt false).length ≠ 0 := fun h0 => pcsS_ne false e 0 hr he (List.length_eq_zero_iff.1 h0)
      rw [decide_eq_false (show ¬ ((e.txt true).length : Int) < ((e.txt false).length : Int) by omega), decide_eq_false (show ¬ ((e.txt false).length : Int) = 0 by omega)]
      by_cases h4 : 400 < ((e.txt false).length : Int)
      · rw [decide_eq_true h4]; rfl
      · rw [decide_eq_false h4]
        have hln := pcs_len false e [] 0
        obtain ⟨l1, l2, l3, l4, l5⟩ := lexd (l := e.pcs false [] 0) (pcOk_txt he hr) (by omega) (by unfold Ex.txt at h4; omega)
        obtain ⟨e', g1, g2, g3⟩ := read_txt (full := false) he hr hs hd 0 (n := 1500) (by omega)
        obtain ⟨t1, t2⟩ := size_of_st g1
        obtain ⟨z1, z2, z3⟩ := z_gr' l4 l5 g3 (by omega) (by omega)
        obtain ⟨m1, m2⟩ := sm_st (gr_okV g3 l4) he (by omega) (by omega) hs hd
        unfold Ex.txt
        rw [l1, l2]
        show pbP _ _ = _
        unfold pbP
        rw [l3, z1, z2, z3, m1, m2, g1, decide_eq_true (rfl : e.st = e.st), decide_eq_true (rfl : ((pcsT 0 (e.pcs false [] 0)).length : Int) = _)]; rfl
    · rw [decide_eq_false hc]; rfl
def sPBack (_ : Nat → Option Obj) : FSpec
  | [.slw 0], [⟨false, .nodes X⟩] => .node (rngX X) (.leaf ⟨[.bool true], []⟩) .bad
  | _, _ => .bad
theorem sPBack_sel {X : List Nod} (h : ∀ x ∈ X, nodWf x) : (sPBack B [.slw 0] [⟨false, .nodes X⟩]).sel = some ⟨[.bool true], []⟩ := by
  show (bif rngX X then _ else _) = _
  rw [rng_of h]; rfl
theorem okPBack (hB : Laid B) : FnOk (E0 B) 11 (sPBack B) := by
  refine fnT (libPB_ok hB) Tryz.func11 (by kernel_rfl) (by kernel_rfl) fun vs bs r h => ?_
  unfold sPBack at h
  split at h
  · rename_i X
    rcases T.node_sel h with ⟨hr, h2⟩ | ⟨_, h2⟩
    · simp only [T.sel, Option.some.injEq] at h2; subst h2
      exact pback_true hr
    · simp [T.sel] at h2
  · simp [T.sel] at h
end Go.Proofs.YthfieonkfailkaaGreatDoor
