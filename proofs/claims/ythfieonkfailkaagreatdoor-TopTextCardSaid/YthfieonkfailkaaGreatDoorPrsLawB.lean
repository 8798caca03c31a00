/-
  ExprsBack: what the law answers.
-/
import Derived.Test.YthfieonkfailkaaGreatDoorPrsLaws
import Derived.Test.YthfieonkfailkaaGreatDoorAmQry
namespace Go.Proofs.YthfieonkfailkaaGreatDoor
open Go.Am Go
set_option maxRecDepth 100000
variable {B : Nat → Option Obj}
def sTrueF : FSpec
  | [], [] => .leaf ⟨[.bool true], []⟩
  | _, _ => .bad
theorem okAlive5 (hB : Laid B) : FnOk (E0 B) 16 sTrueF := by
  refine fnT (libX_ok hB) Tryz.func16 (by kernel_rfl) (by kernel_rfl) fun vs bs r h => ?_
  unfold sTrueF at h
  split at h
  · simp only [T.sel, Option.some.injEq] at h; subst h; exact tAlive5
  · simp [T.sel] at h
noncomputable def libY : Tb := (16, [], sTrueF) :: libX
theorem libY_ok (hB : Laid B) : TbOk B libY := (libX_ok hB).add (okAlive5 hB)
/-! texts of pieces -/
theorem pcsT_mem : ∀ (l : List Pc) (a : Int), pcOk l = true → ∀ t ∈ pcsT a l, (tokE t.kind t.text = 0 ∧ a ≤ t.pos ∧ t.pos ≤ a + (pcsS l).length) ∧ t.text.length ≤ (pcsS l).length
  | [], _, _, _, h => by cases h
  | p :: r, a, hok, t, h => by
    unfold pcOk at hok
    simp only [Bool.and_eq_true] at hok
    obtain ⟨⟨_, h1⟩, _, h2⟩ := hok
    have h1 := of_decide_eq_true h1
    simp only [pcsS, List.length_append]
    unfold pcsT at h
    rcases List.mem_cons.1 h with rfl | h
    · exact ⟨⟨h1, by show a ≤ a + p.g.length; omega, by show a + p.g.length ≤ _; omega⟩, by show p.t.length ≤ _; omega⟩
    · obtain ⟨⟨i1, i2, i3⟩, i4⟩ := pcsT_mem r _ h2 t h
      exact ⟨⟨i1, by omega, by omega⟩, by omega⟩
theorem pcsT_len (l : List Pc) (a : Int) : (pcsT a l).length = l.length := by
  have := congrArg List.length (pcsT_kt l a)
  simpa using this
structure Lexd (l : List Pc) : Prop where
  tk : lexL (pcsS l) = pcsT 0 l
  e : lexE (pcsS l) = 0
  s : shortT (pcsT 0 l) = true
  v : (pcsT 0 l).all okV = true
  n : (pcsT 0 l).length ≤ 200
theorem lexd {l : List Pc} (h : pcOk l = true) (hn : l.length ≤ 200) (hl : (pcsS l).length ≤ 400) : Lexd l := by
  have hx := lx_pcs l 0 0 h (by omega)
  have hA : lexA (pcsS l) = lx (pcsS l) 0 0 := Lx.lexA_is (by omega)
  have he : lexE (pcsS l) = 0 := by unfold lexE; rw [hA, hx]
  refine ⟨by unfold lexL; rw [he, hA, hx]; rfl, he, ?_, ?_, by rw [pcsT_len]; exact hn⟩
  · exact List.all_eq_true.2 fun t ht => decide_eq_true (by have := (pcsT_mem l 0 h t ht).2; omega)
  · refine List.all_eq_true.2 fun t ht => ?_
    obtain ⟨⟨h1, h2, h3⟩, _⟩ := pcsT_mem l 0 h t ht
    unfold okV validB
    rw [decide_eq_true h1, decide_eq_true (show 0 ≤ t.pos ∧ t.pos ≤ 400 by omega)]; rfl
/-- what Parse gives, where all that is asked of tokens holds -/
theorem z_ok {L : List Tok} {at' : Int} (hv : L.all okV = true) (hn : L.length ≤ 200) (h0 : 0 ≤ at') (h1 : at' ≤ L.length) : zE L at' = prEr (zR at' L) ∧ zN L at' = prAt L (zR at' L) ∧ zX L at' = prNd (zR at' L) := by
  have : zE0 L at' = 0 := by
    unfold zE0
    rw [decide_eq_false (show ¬ 200 < L.length by omega), hv, decide_eq_true (show 0 ≤ at' ∧ at' ≤ (L.length : Int) from ⟨h0, h1⟩)]; rfl
  unfold zE zN zX
  rw [this]
  exact ⟨rfl, rfl, rfl⟩
theorem chk_of {e : Ex} (h : e.ok = true) (hs : e.size ≤ 60) (hd : e.depth ≤ 20) : chkN (e.flat 0) = 0 := by
  rw [chkN_flat h, decide_eq_false (by omega), cond_false, decide_eq_false (by omega)]; rfl
theorem sm_st {e e' : Ex} (h : e.ok = true) (h' : e'.ok = true) (hs : e.size ≤ 60) (hd : e.depth ≤ 20) (hs' : e'.size ≤ 60) (hd' : e'.depth ≤ 20) : smE (e.flat 0) (e'.flat 0) = 0 ∧ smB (e.flat 0) (e'.flat 0) = decide (e.st = e'.st) := by
  unfold smE smB
  rw [chk_of h hs hd, chk_of h' hs' hd', same_is h h']
  exact ⟨rfl, rfl⟩
theorem gr_okV {lv : Lv} {e : Ex} {ts : List Tok} (h : Gr lv e ts) (hv : ts.all okV = true) : e.ok = true := gr_ok rdN_nn h fun t ht => by
  have := List.all_eq_true.1 hv t ht
  unfold okV at this
  rw [Bool.and_eq_true] at this
  exact of_decide_eq_true this.2
/-! the law -/
def backP (X : List Nod) (L : List Tok) : Option Out := bif decide (zE L 0 = 0) then (bif decide (zN L 0 = (L.length : Int)) then (bif decide (smE X (zX L 0) = 0) then (bif smB X (zX L 0) then rb true else rb false) else rb false) else rb false) else rb false
theorem tBack (X : List Nod) : runT B libY Tryz.f5 [.slw 0] [ndb X] =
    bif decide (70 < (X.length : Int)) then rb true else bif !decide (chkN X = 0) then rb true else bif rngX X then (bif !decide (chkN X = 0) then rb false else bif decide (400 < ((txS X).length : Int)) then (bif decide (lexE (txS X) = 4) then rb true else rb false) else
      bif shortT (lexL (txS X)) then (bif decide (lexE (txS X) = 0) then backP X (lexL (txS X)) else rb false) else none) else none := by kernel_rfl
theorem back_true {X : List Nod} (hr : rngX X = true) : runT B libY Tryz.f5 [.slw 0] [ndb X] = rb true := by
  refine (tBack X).trans ?_
  cases decide (70 < (X.length : Int)) with
  | true => rfl
  | false =>
    by_cases hc : chkN X = 0
    · rw [decide_eq_true hc, hr]
      obtain ⟨e, he, rfl, hs, hd⟩ := chkN_tree hc
      rw [(txS_is he hc).1]
      have hr : e.rng = true := by rw [← rng_flat e 0]; exact hr
      by_cases h4 : 400 < ((e.txt true).length : Int)
      · rw [decide_eq_true h4]
        have : lexE (e.txt true) = 4 := by unfold lexE lexA; rw [decide_eq_true h4]; rfl
        rw [decide_eq_true this]; rfl
      · rw [decide_eq_false h4]
        have hln := pcs_len true e [] 0
        obtain ⟨l1, l2, l3, l4, l5⟩ := lexd (l := e.pcs true [] 0) (pcOk_txt he hr) (by omega) (by unfold Ex.txt at h4; omega)
        obtain ⟨e', g1, g2, g3⟩ := read_txt (full := true) he hr hs hd 0 (n := 1500) (by omega)
        have hz : zR 0 (pcsT 0 (e.pcs true [] 0)) = .ok e' [] := g2
        obtain ⟨z1, z2, z3⟩ := z_ok l4 l5 (Int.le_refl 0) (by omega)
        rw [hz] at z1 z2 z3
        obtain ⟨t1, t2⟩ := size_of_st g1
        obtain ⟨m1, m2⟩ := sm_st he (gr_okV g3 l4) hs hd (by omega) (by omega)
        unfold Ex.txt
        rw [l1, l2, l3]
        show backP _ _ = _
        unfold backP
        rw [z1, z2, z3]
        show (bif decide ((0 : Int) = 0) then (bif decide (((pcsT 0 (e.pcs true [] 0)).length : Int) - (([] : List Tok).length : Int) = ((pcsT 0 (e.pcs true [] 0)).length : Int)) then (bif decide (smE (e.flat 0) (e'.flat 0) = 0) then (bif smB (e.flat 0) (e'.flat 0) then rb true else rb false) else rb false) else rb false) else rb false) = rb true
        rw [m1, m2, g1, decide_eq_true (rfl : e.st = e.st), decide_eq_true (show ((pcsT 0 (e.pcs true [] 0)).length : Int) - (([] : List Tok).length : Int) = ((pcsT 0 (e.pcs true [] 0)).length : Int) by simp)]; rfl
    · rw [decide_eq_false hc]; rfl
def sBack (_ : Nat → Option Obj) : FSpec
  | [.slw 0], [⟨false, .nodes X⟩] => .node (rngX X) (.leaf ⟨[.bool true], []⟩) .bad
  | _, _ => .bad
theorem rng_of {X : List Nod} (h : ∀ x ∈ X, nodWf x) : rngX X = true := List.all_eq_true.2 fun x hx => by
  have := (h x hx).2.1
  simp only [Lit.wf, IntKind.min, IntKind.max, IntKind.signed, IntKind.bits] at this
  simpa [rng64] using this
theorem sBack_sel {X : List Nod} (h : ∀ x ∈ X, nodWf x) : (sBack B [.slw 0] [⟨false, .nodes X⟩]).sel = some ⟨[.bool true], []⟩ := by
  show (bif rngX X then _ else _) = _
  rw [rng_of h]; rfl
theorem okBack (hB : Laid B) : FnOk (E0 B) 5 (sBack B) := by
  refine fnT (libY_ok hB) Tryz.func5 (by kernel_rfl) (by kernel_rfl) fun vs bs r h => ?_
  unfold sBack at h
  split at h
  · rename_i X
    rcases T.node_sel h with ⟨hr, h2⟩ | ⟨_, h2⟩
    · simp only [T.sel, Option.some.injEq] at h2; subst h2
      exact back_true hr
    · simp [T.sel] at h2
  · simp [T.sel] at h
end Go.Proofs.YthfieonkfailkaaGreatDoor
