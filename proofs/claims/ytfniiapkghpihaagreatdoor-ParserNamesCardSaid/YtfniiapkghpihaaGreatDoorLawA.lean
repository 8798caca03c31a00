/-
  Texts put together: PrsLaws, PrsLawB, PrsWeak, PrsAsk.
-/
import Derived.Test.YtfniiapkghpihaaGreatDoorPrsD
import Derived.Test.YtfniiapkghpihaaGreatDoorPureB
import Derived.Test.YtfniiapkghpihaaGreatDoorLxB
/-
  Exprs: the table of the laws; ExprsNames.
-/
namespace Go.Proofs.YtfniiapkghpihaaGreatDoor
open Go.Am
set_option maxRecDepth 100000
variable {B : Nat → Option Obj}
noncomputable def libX : Tb := (95, [], sParse) :: (53, [], Lx.sAll) :: lib8
theorem libX_ok (hB : Laid B) : TbOk B libX := (((lib8_ok).add (Lx.okAll hB))).add (okParse hB)
def sTrue0 (_ : Nat → Option Obj) : FSpec
  | [], [] => .leaf ⟨[.bool true], []⟩
  | _, _ => .bad
end Go.Proofs.YtfniiapkghpihaaGreatDoor
/-
  ExprsBack: what the law answers.
-/
namespace Go.Proofs.YtfniiapkghpihaaGreatDoor
open Go.Am Go
set_option maxRecDepth 100000
variable {B : Nat → Option Obj}
def sTrueF : FSpec
  | [], [] => .leaf ⟨[.bool true], []⟩
  | _, _ => .bad
noncomputable def libY : Tb := libX
theorem libY_ok (hB : Laid B) : TbOk B libY := (libX_ok hB)
/-! texts of pieces -/
theorem pcsT_mem : ∀ (l : List Pc) (a : Int), pcOk l = true → ∀ t ∈ pcsT a l, (tokE t.kind t.text = 0 ∧ a ≤ t.pos ∧ t.pos ≤ a + (pcsS l).length) ∧ t.text.length ≤ (pcsS l).length
  | [], _, _, _, h => by cases h
  | p :: r, a, hok, t, h => by
    unfold pcOk at hok
    simp only [Bool.and_eq_true] at hok
    obtain ⟨⟨_, h1⟩, _, h2⟩ := hok
    have h1 := of_decide_eq_true h1
    simp only [pcsS, List.length_append]
    unfold pcsT at h
    rcases List.mem_cons.1 h with rfl | h
    · exact ⟨⟨h1, by show a ≤ a + p.g.length; omega, by show a + p.g.length ≤ _; omega⟩, by show p.t.length ≤ _; omega⟩
    · obtain ⟨⟨i1, i2, i3⟩, i4⟩ := pcsT_mem r _ h2 t h
      exact ⟨⟨i1, by omega, by omega⟩, by omega⟩
theorem pcsT_len (l : List Pc) (a : Int) : (pcsT a l).length = l.length := by
  have := congrArg List.length (pcsT_kt l a)
  simpa using this
structure Lexd (l : List Pc) : Prop where
  tk : lexL (pcsS l) = pcsT 0 l
  e : lexE (pcsS l) = 0
  s : shortT (pcsT 0 l) = true
  v : (pcsT 0 l).all okV = true
  n : (pcsT 0 l).length ≤ 200
theorem lexd {l : List Pc} (h : pcOk l = true) (hn : l.length ≤ 200) (hl : (pcsS l).length ≤ 400) : Lexd l := by
  have hx := lx_pcs l 0 0 h (by omega)
  have hA : lexA (pcsS l) = lx (pcsS l) 0 0 := Lx.lexA_is (by omega)
  have he : lexE (pcsS l) = 0 := by unfold lexE; rw [hA, hx]
  refine ⟨by unfold lexL; rw [he, hA, hx]; rfl, he, ?_, ?_, by rw [pcsT_len]; exact hn⟩
  · exact List.all_eq_true.2 fun t ht => decide_eq_true (by have := (pcsT_mem l 0 h t ht).2; omega)
  · refine List.all_eq_true.2 fun t ht => ?_
    obtain ⟨⟨h1, h2, h3⟩, _⟩ := pcsT_mem l 0 h t ht
    unfold okV validB
    rw [decide_eq_true h1, decide_eq_true (show 0 ≤ t.pos ∧ t.pos ≤ 400 by omega)]; rfl
/-- what Parse gives, where all that is asked of tokens holds -/
theorem z_ok {L : List Tok} {at' : Int} (hv : L.all okV = true) (hn : L.length ≤ 200) (h0 : 0 ≤ at') (h1 : at' ≤ L.length) : zE L at' = prEr (zR at' L) ∧ zN L at' = prAt L (zR at' L) ∧ zX L at' = prNd (zR at' L) := by
  have : zE0 L at' = 0 := by
    unfold zE0
    rw [decide_eq_false (show ¬ 200 < L.length by omega), hv, decide_eq_true (show 0 ≤ at' ∧ at' ≤ (L.length : Int) from ⟨h0, h1⟩)]; rfl
  unfold zE zN zX
  rw [this]
  exact ⟨rfl, rfl, rfl⟩
theorem chk_of {e : Ex} (h : e.ok = true) (hs : e.size ≤ 60) (hd : e.depth ≤ 20) : chkN (e.flat 0) = 0 := by
  rw [chkN_flat h, decide_eq_false (by omega), cond_false, decide_eq_false (by omega)]; rfl
theorem sm_st {e e' : Ex} (h : e.ok = true) (h' : e'.ok = true) (hs : e.size ≤ 60) (hd : e.depth ≤ 20) (hs' : e'.size ≤ 60) (hd' : e'.depth ≤ 20) : smE (e.flat 0) (e'.flat 0) = 0 ∧ smB (e.flat 0) (e'.flat 0) = decide (e.st = e'.st) := by
  unfold smE smB
  rw [chk_of h hs hd, chk_of h' hs' hd', same_is h h']
  exact ⟨rfl, rfl⟩
theorem gr_okV {lv : Lv} {e : Ex} {ts : List Tok} (h : Gr lv e ts) (hv : ts.all okV = true) : e.ok = true := gr_ok rdN_nn h fun t ht => by
  have := List.all_eq_true.1 hv t ht
  unfold okV at this
  rw [Bool.and_eq_true] at this
  exact of_decide_eq_true this.2
/-! the law -/
def backP (X : List Nod) (L : List Tok) : Option Out := bif decide (zE L 0 = 0) then (bif decide (zN L 0 = (L.length : Int)) then (bif decide (smE X (zX L 0) = 0) then (bif smB X (zX L 0) then rb true else rb false) else rb false) else rb false) else rb false
def sBack (_ : Nat → Option Obj) : FSpec
  | [.slw 0], [⟨false, .nodes X⟩] => .node (rngX X) (.leaf ⟨[.bool true], []⟩) .bad
  | _, _ => .bad
theorem rng_of {X : List Nod} (h : ∀ x ∈ X, nodWf x) : rngX X = true := List.all_eq_true.2 fun x hx => by
  have := (h x hx).2.1
  simp only [Lit.wf, IntKind.min, IntKind.max, IntKind.signed, IntKind.bits] at this
  simpa [rng64] using this
theorem sBack_sel {X : List Nod} (h : ∀ x ∈ X, nodWf x) : (sBack B [.slw 0] [⟨false, .nodes X⟩]).sel = some ⟨[.bool true], []⟩ := by
  show (bif rngX X then _ else _) = _
  rw [rng_of h]; rfl
end Go.Proofs.YtfniiapkghpihaaGreatDoor
/-
  Exprs: contracts that promise where there is no error: for the laws.
-/
namespace Go.Proofs.YtfniiapkghpihaaGreatDoor
open Go.Am Go
set_option maxRecDepth 100000
variable {B : Nat → Option Obj}
theorem fnOk_weak {E : Env} {f : FuncId} {s s' : FSpec} (h : FnOk E f s) (hw : ∀ vs bs r, (s' vs bs).sel = some r → (s vs bs).sel = some r) : FnOk E f s' := ⟨h.1, fun vs bs out hs => h.2 vs bs out (hw vs bs out hs)⟩
def sTextG : FSpec
  | [.slw 0], [⟨false, .nodes X⟩] => .node (rngX X && decide (chkN X = 0)) (.leaf ⟨[.str (txS X), .int .i64 0], []⟩) .bad
  | _, _ => .bad
def sAllG : FSpec
  | [.str s], [] => .node (decide (lexE s = 0)) (.leaf ⟨[.slw 0, .int .i64 (lexN s), .int .i64 0], [⟨true, .toks (lexL s)⟩]⟩) .bad
  | _, _ => .bad
def sParseG : FSpec
  | [.slw 0, .int .i64 at'], [⟨false, .toks L⟩] => .node (shortT L && decide (zE L at' = 0)) (.leaf ⟨[.slw 0, .int .i64 (zN L at'), .int .i64 0], [⟨true, .nodes (zX L at')⟩]⟩) .bad
  | _, _ => .bad
def sSameG : FSpec
  | [.slw 0, .slw 1], [⟨false, .nodes X⟩, ⟨false, .nodes Y⟩] => .node (decide (smE X Y = 0)) (.leaf ⟨[.bool (smB X Y), .int .i64 0], []⟩) .bad
  | _, _ => .bad
def sNodeG : FSpec
  | [.int .u8 k, .int .i64 0, .int .i64 p, .slw 0], [⟨false, .gen [t] [[.slw 1], [.slw 2]]⟩, ⟨false, .nodes L⟩, ⟨false, .nodes M⟩] => .node (Nat.beq t 23 && (decide (7 ≤ k ∧ k ≤ 19 ∧ 0 ≤ p ∧ p ≤ 400) && (decide (chkN L = 0) && (decide (chkN M = 0) && decide (chkN (biL k p L M) = 0))))) (.leaf ⟨[.slw 0, .int .i64 0], [⟨true, .nodes (biL k p L M)⟩]⟩) .bad
  | _, _ => .bad
theorem okAllG (hB : Laid B) : FnOk (E0 B) 53 sAllG := fnOk_weak (Lx.okAll hB) fun vs bs r h => by
  unfold sAllG at h
  split at h
  · rename_i s
    rcases T.node_sel h with ⟨hg, h2⟩ | ⟨_, h2⟩
    · rw [← h2, ← of_decide_eq_true hg]; rfl
    · simp [T.sel] at h2
  · simp [T.sel] at h
theorem okParseG (hB : Laid B) : FnOk (E0 B) 95 sParseG := fnOk_weak (okParse hB) fun vs bs r h => by
  unfold sParseG at h
  split at h
  · rename_i at' L
    rcases T.node_sel h with ⟨hg, h2⟩ | ⟨_, h2⟩
    · rw [Bool.and_eq_true] at hg
      rw [← h2]
      show (bif shortT L then _ else _) = _
      rw [hg.1, of_decide_eq_true hg.2]; rfl
    · simp [T.sel] at h2
  · simp [T.sel] at h
theorem okNodeG : FnOk (E0 B) 157 sNodeG := fnOk_weak okNode fun vs bs r h => by
  unfold sNodeG at h
  split at h
  · rename_i k p t L M
    rcases T.node_sel h with ⟨hg, h2⟩ | ⟨_, h2⟩
    · simp only [Bool.and_eq_true] at hg
      obtain ⟨g1, g2, g3, g4, g5⟩ := hg
      rw [← h2]
      show (bif Nat.beq t _ && (decide _ && (decide (chkN L = 0) && decide (chkN M = 0))) then (oT (biL k p L M)).sel else _) = _
      rw [g1, g2, g3, g4, oT_sel]
      unfold finN
      rw [g5]; rfl
    · simp [T.sel] at h2
  · simp [T.sel] at h
noncomputable def libW : Tb := (95, [], sParseG) :: (53, [], sAllG) :: (157, [], sNodeG) :: lib5
theorem libW_ok (hB : Laid B) : TbOk B libW := (((((lib5_ok).add okNodeG)).add (okAllG hB))).add (okParseG hB)
end Go.Proofs.YtfniiapkghpihaaGreatDoor
/-
  Exprs: the reference's Asked, and nodes compared, by contract.
-/
namespace Go.Proofs.YtfniiapkghpihaaGreatDoor
open Go.Am Go
set_option maxRecDepth 100000
variable {B : Nat → Option Obj}
/-! Equal -/
noncomputable def bEq : Code := loopAt 4 (loopsOf (bodyC Tryz.f87))
def sgEq : LSig := { cs := [(0, 23), (1, 23)], mv := [(5, 0)], mo := [(4, 0)], take := [] }
theorem turnEq (L M : List Nod) (i : Int) : (turn (E0 B) (Cx B lib5) noL 26 sgEq bEq [.slw 0, .slw 1, i64 i] [⟨false, .nodes L⟩, ⟨false, .nodes M⟩]).sel =
    bif decide (i < (L.length : Int)) then inb' i L.length (inb' i M.length (bif !eqNod (L.getD i.toNat default) (M.getD i.toNat default) then some (.ret, ⟨[.bool false], []⟩) else some (.normal, ⟨[.slw 0, .slw 1, i64 (w64 (i + 1))], [⟨false, .nodes L⟩, ⟨false, .nodes M⟩]⟩))) else some (.exit 0, ⟨[.any], []⟩) := by kernel_rfl
def spEq : LSpec
  | [.slw 0, .slw 1, .int .i64 i], [⟨false, .nodes L⟩, ⟨false, .nodes M⟩] => .node (decide (i = 0 ∧ L.length = M.length ∧ L.length ≤ 1000)) (.node (all2 eqNod L M) (.leaf (.exit 0, ⟨[.any], []⟩)) (.leaf (.ret, ⟨[.bool false], []⟩))) .bad
  | _, _ => .bad
theorem loopEq : LoopOk (E0 B) 26 sgEq bEq spEq := by
  refine loop_turns (C := Cx B lib5) (L := noL) (cxOk lib5_ok) (noL_ok _) fun vs bs e o h => ?_
  unfold spEq at h
  split at h
  · rename_i i L M
    rcases T.node_sel h with ⟨hc, h2⟩ | ⟨_, h2⟩
    · obtain ⟨rfl, hlm, hl⟩ := of_decide_eq_true hc
      obtain ⟨m, hm⟩ := scan_turns (E := E0 B) (C := Cx B lib5) (L := noL) (n := 26) (sg := sgEq) (body := bEq) (st := fun i => [.slw 0, .slw 1, i64 i]) (bs := [⟨false, .nodes L⟩, ⟨false, .nodes M⟩]) (len := L.length)
        (bad := fun j => !eqNod (L.getD j default) (M.getD j default)) (ob := fun _ => ⟨[.bool false], []⟩) (k := 0) (oe := ⟨[.any], []⟩) (fun i hi => by
          rw [turnEq]
          by_cases h : i < L.length
          · rw [decide_eq_true h, decide_eq_true (show (i : Int) < (L.length : Int) by omega), cond_true, inb'_is h, inb'_is (show i < M.length by omega), w64_rng (show Rng ((i : Int) + 1) by unfold Rng; omega)]; rfl
          · rw [decide_eq_false h, decide_eq_false (show ¬ (i : Int) < (L.length : Int) by omega)]; rfl) L.length 0 (by omega)
      refine ⟨m, hm.trans ?_⟩
      rw [first2 hlm, ← h2]
      simp only [T.sel]
      cases all2 eqNod L M <;> rfl
    · simp [T.sel] at h2
  · simp [T.sel] at h
noncomputable def eEq : LEnt := { id := 4, n := 26, sg := sgEq, wr := writes bEq, s := spEq }
theorem tEq (L M : List Nod) : runL B lib5 [eEq] Tryz.f87 [.slw 0, .slw 1] [⟨false, .nodes L⟩, ⟨false, .nodes M⟩] =
    bif !decide ((L.length : Int) = (M.length : Int)) then rb false else bif decide ((0 : Int) = 0 ∧ L.length = M.length ∧ L.length ≤ 1000) then (bif all2 eqNod L M then rb true else rb false) else none := by kernel_rfl
def sEqN : FSpec
  | [.slw 0, .slw 1], [⟨false, .nodes L⟩, ⟨false, .nodes M⟩] => .node (decide (L.length ≤ 1000)) (.leaf ⟨[.bool (all2 eqNod L M)], []⟩) .bad
  | _, _ => .bad
theorem okFEq : FnOk (E0 B) 87 sEqN := by
  refine fnL lib5_ok (ls := [eEq]) Tryz.func87 (by kernel_rfl) (by kernel_rfl) (fun x hx => ?_) fun vs bs r h => ?_
  · simp only [List.mem_singleton] at hx; subst hx
    exact ⟨bEq, by kernel_rfl, rfl, loopEq⟩
  unfold sEqN at h
  split at h
  · rename_i L M
    rcases T.node_sel h with ⟨hc, h2⟩ | ⟨_, h2⟩
    · simp only [T.sel, Option.some.injEq] at h2; subst h2
      refine (tEq L M).trans ?_
      by_cases hl : L.length = M.length
      · rw [decide_eq_true (show (L.length : Int) = (M.length : Int) by omega), decide_eq_true (show (0 : Int) = 0 ∧ L.length = M.length ∧ L.length ≤ 1000 from ⟨rfl, hl, of_decide_eq_true hc⟩)]
        cases all2 eqNod L M <;> rfl
      · rw [decide_eq_false (show ¬ (L.length : Int) = (M.length : Int) by omega)]
        cases ha : all2 eqNod L M with
        | false => rfl
        | true => exact (hl (all2_len ha)).elim
    · simp [T.sel] at h2
  · simp [T.sel] at h
/-! Asked -/
noncomputable def libA : Tb := lib5
theorem libA_ok : TbOk B libA := lib5_ok
def longT (L : List Tok) : Bool := L.all fun t => decide (t.text.length ≤ Lx.lim2)
def sgAk : LSig := { cs := [(0, 82)], mv := [(5, 0)], mo := [(4, 0)], take := [] }
def akB (L : List Tok) (i : Int) (x y : Option (AExit × Out)) : Option (AExit × Out) := bif decide ((tokA L i).text.length ≤ Lx.lim2) then (bif !decide (tokE (tokA L i).kind (tokA L i).text = 0) then x else inb' i L.length (bif decide ((tokA L i).pos < 0) then x else inb' i L.length (bif decide (400 < (tokA L i).pos) then x else y))) else none
def spAk : LSpec
  | [.slw 0, .int .i64 i], [⟨false, .toks L⟩] => .node (decide (i = 0 ∧ L.length ≤ 200) && longT L) (.node (L.all okV) (.leaf (.exit 0, ⟨[.any], []⟩)) (.leaf (.ret, ⟨[i64 8], []⟩))) .bad
  | _, _ => .bad
def rI (n : Int) : Option Out := some ⟨[i64 n], []⟩
def sAsked : FSpec
  | [.slw 0, .int .i64 at'], [⟨false, .toks L⟩] => .node (longT L) (.leaf ⟨[.int .i64 (zE0 L at')], []⟩) .bad
  | _, _ => .bad
noncomputable def libB : Tb := (87, [], sEqN) :: libW
theorem libB_ok (hB : Laid B) : TbOk B libB := ((libW_ok hB).add okFEq)
end Go.Proofs.YtfniiapkghpihaaGreatDoor
