/-
  Texts put together: PrsLong, PrsLawI, PrsBr, PrsBr2.
-/
import Derived.Test.YtdckpbeioemopabGreatDoorLawA
import Derived.Test.YtdckpbeioemopabGreatDoorLxA
import Derived.Test.YtdckpbeioemopabGreatDoorPureB
namespace Go.Proofs.YtdckpbeioemopabGreatDoor
open Go.Am Go
set_option maxRecDepth 100000
variable {B : Nat → Option Obj}
def tokG (t : Tok) : Bool := decide (t.text.length ≤ 900) || (decide (t.kind = 1) && (decide (rdE t.text = 0) && decide (t.text.length ≤ Lx.top63)))
def longV (L : List Tok) : Bool := L.all tokG
def jnG (L : List Tok) : Bool := shortT L || (decide (L.length = 1) && L.all tokG)
noncomputable def libJ1 : Tb := (96, [], Lx.sReadP) :: []
theorem libJ1_ok (hB : Laid B) : TbOk B libJ1 := TbOk.nil.add (Lx.okReadP hB)
def sJ (s : List UInt8) (e : Int) : Option Out := some ⟨[.str s, i64 e], []⟩
theorem tJ1 (s : List UInt8) (p : Int) : runT B libJ1 Tryz.f61 [.slw 0] [tkb [⟨1, s, p⟩]] =
    bif Lx.rdG s then (bif !decide (rdE s = 0) then sJ [] 8 else bif decide ((400 : Int) < (s.length : Int)) then sJ [] 18 else sJ s 0) else none := by kernel_rfl
theorem okJ1 (hB : Laid B) : FnOk (E0 B) 61 (fun vs bs => fnRun (E0 B) (Cx B libJ1) (inlL (E0 B) (Cx B libJ1) 450) Tryz.f61 (bodyC Tryz.f61) vs bs) :=
  fnT (libJ1_ok hB) Tryz.func61 (by kernel_rfl) (by kernel_rfl) fun vs bs r h => h
def sJn2 : FSpec
  | [.slw 0], [⟨false, .toks L⟩] => .node (jnG L) (.leaf ⟨[.str (jS L), .int .i64 (jE L)], []⟩) .bad
  | _, _ => .bad
theorem okJn2 (hB : Laid B) : FnOk (E0 B) 61 sJn2 :=
  ⟨(Lx.okJoin hB).1, fun vs bs out hs => by
    unfold sJn2 at hs
    split at hs
    · rename_i L
      rcases T.node_sel hs with ⟨hc, h2⟩ | ⟨_, h2⟩
      · simp only [T.sel, Option.some.injEq] at h2
        cases hsh : shortT L with
        | true =>
          refine (Lx.okJoin hB).2 _ _ _ ?_
          show (bif shortT L then _ else _) = _
          rw [hsh, ← h2]; rfl
        | false =>
          unfold jnG at hc
          rw [hsh, Bool.false_or, Bool.and_eq_true] at hc
          match L, of_decide_eq_true hc.1 with
          | [t], _ =>
            have ht := hc.2
            rw [List.all_cons, List.all_nil, Bool.and_true] at ht
            unfold shortT at hsh
            rw [List.all_cons, List.all_nil, Bool.and_true] at hsh
            unfold tokG at ht
            rw [hsh, Bool.false_or, Bool.and_eq_true, Bool.and_eq_true] at ht
            obtain ⟨k, s, p⟩ := t
            have hk : k = 1 := of_decide_eq_true ht.1
            subst hk
            have he : rdE s = 0 := of_decide_eq_true ht.2.1
            have hl : s.length ≤ Lx.top63 := of_decide_eq_true ht.2.2
            have h9 : ¬ s.length ≤ 900 := of_decide_eq_false hsh
            refine (okJ1 hB).2 _ _ _ ?_
            refine (tJ1 s p).trans ?_
            rw [show Lx.rdG s = true from decide_eq_true (.inr ⟨he, hl⟩), decide_eq_true he, decide_eq_true (show (400 : Int) < (s.length : Int) by omega)]
            have hv : validB ⟨1, s, p⟩ = true := by
              unfold validB tokE
              simp only [decide_true, cond_true]
              exact decide_eq_true he
            have hj : jT [⟨1, s, p⟩] = s := by simp [jT, txt, joinT]
            have hje : jE [⟨1, s, p⟩] = 18 := by
              unfold jE
              rw [hj, decide_eq_false (show ¬ (200 : Int) < (([⟨1, s, p⟩] : List Tok).length : Int) by simp), List.all_cons, hv, decide_eq_true (show (400 : Int) < (s.length : Int) by omega)]; rfl
            rw [← h2, hje]
            unfold jS
            rw [hje]; rfl
      · simp [T.sel] at h2
    · simp [T.sel] at hs⟩
noncomputable def lib14L : Tb := (62, [], sExpr 1500) :: (61, [], sJn2) :: lib9
theorem lib14L_ok (hB : Laid B) : TbOk B lib14L := (lib9_ok.add (okJn2 hB)).add (okExpr hB 1500)
theorem turnPL (L M : List Tok) (n i : Int) : (turn (E0 B) (Cx B lib14L) noL 68 sgPa bPa (ptV n i) [tkb L, tkb M]).sel =
    bif decide (i < n) then inb' i M.length (bif decide (0 ≤ i ∧ i ≤ w64 (i + 1) ∧ w64 (i + 1) ≤ (L.length : Int)) then (bif jnG (ptS L i) then ptB L M i (some (.ret, ptE)) (some (.normal, ⟨ptV n (w64 (i + 1)), [tkb L, tkb M]⟩)) else none) else none) else some (.exit 0, ptX) := by kernel_rfl
theorem turnPL' {L : List Tok} (hs : longV L = true) (hL : L.length ≤ 200) (i : Nat) (hi : i ≤ L.length) : (turn (E0 B) (Cx B lib14L) noL 68 sgPa bPa (ptV L.length i) [tkb L, tkb L]).sel =
    bif decide (i < L.length) then (bif !okV (L.getD i default) then some (.ret, ptE) else some (.normal, ⟨ptV L.length (i + 1 : Nat), [tkb L, tkb L]⟩)) else some (.exit 0, ptX) := by
  refine (turnPL L L L.length i).trans ?_
  by_cases hlt : i < L.length
  · obtain ⟨t, q, hd⟩ : ∃ t q, L.drop i = t :: q := ⟨_, _, List.drop_eq_getElem_cons hlt⟩
    have ht := tokA_is hd
    have hg : L.getD i default = t := by unfold tokA at ht; rwa [Int.toNat_natCast] at ht
    have hw : w64 ((i : Int) + 1) = ((i + 1 : Nat) : Int) := by rw [w64_rng (show Rng ((i : Int) + 1) by unfold Rng; omega)]; omega
    have hp : ptS L i = [t] := by
      unfold ptS
      rw [hw, Int.toNat_natCast, Int.toNat_natCast, hd, show i + 1 - i = 1 by omega]; rfl
    have hm := (tkP_is hd).2.2.2
    have hst : jnG [t] = true := by
      unfold jnG
      rw [List.all_cons, List.all_nil, List.all_eq_true.1 hs t hm]; simp
    rw [decide_eq_true (show (i : Int) < (L.length : Int) by omega), decide_eq_true hlt, cond_true, cond_true, inb'_is hlt, hp, hst, hw, decide_eq_true (show 0 ≤ (i : Int) ∧ (i : Int) ≤ ((i + 1 : Nat) : Int) ∧ ((i + 1 : Nat) : Int) ≤ (L.length : Int) by omega), cond_true, cond_true, hg]
    unfold ptB okV
    rw [hp, jE_one, ht]
    cases validB t with
    | false => rfl
    | true =>
      rw [Bool.not_true, cond_false, Bool.true_and]
      by_cases h1 : t.pos < 0
      · rw [decide_eq_true h1, decide_eq_false (show ¬ (0 ≤ t.pos ∧ t.pos ≤ 400) by omega)]; rfl
      · by_cases h2 : 400 < t.pos
        · rw [decide_eq_false h1, decide_eq_true h2, decide_eq_false (show ¬ (0 ≤ t.pos ∧ t.pos ≤ 400) by omega)]; rfl
        · rw [decide_eq_false h1, decide_eq_false h2, decide_eq_true (show 0 ≤ t.pos ∧ t.pos ≤ 400 by omega)]; rfl
  · rw [decide_eq_false (show ¬ (i : Int) < (L.length : Int) by omega), decide_eq_false hlt]; rfl
def spPL : LSpec
  | [.slw 0, .slw 1, .int .i64 n, .int .i64 i], [⟨false, .toks L⟩, ⟨false, .toks M⟩] => .node (decide (L = M ∧ n = (L.length : Int) ∧ i = 0 ∧ L.length ≤ 200) && longV L) (.node (L.all okV) (.leaf (.exit 0, ptX)) (.leaf (.ret, ⟨[.slw 0, i64 0, i64 8], [⟨true, .nodes []⟩]⟩))) .bad
  | _, _ => .bad
theorem loopPL (hB : Laid B) : LoopOk (E0 B) 68 sgPa bPa spPL := by
  refine loop_turns (C := Cx B lib14L) (L := noL) (cxOk (lib14L_ok hB)) (noL_ok _) fun vs bs e o h => ?_
  unfold spPL at h
  split at h
  · rename_i n i L M
    rcases T.node_sel h with ⟨hc, h2⟩ | ⟨_, h2⟩
    · rw [Bool.and_eq_true] at hc
      obtain ⟨rfl, rfl, rfl, hL⟩ := of_decide_eq_true hc.1
      obtain ⟨m, hm⟩ := scan_turns (E := E0 B) (C := Cx B lib14L) (L := noL) (n := 68) (sg := sgPa) (body := bPa) (st := fun i => ptV L.length i) (bs := [tkb L, tkb L]) (len := L.length) (bad := fun j => !okV (L.getD j default)) (ob := fun _ => ptE) (k := 0) (oe := ptX)
        (fun i hi => turnPL' hc.2 hL i hi) L.length 0 (by omega)
      refine ⟨m, hm.trans ?_⟩
      have hf := firstB_list (fun t => !okV t) L L 0 rfl
      rw [Nat.zero_add] at hf
      rw [hf, firstL_any, ← h2]
      have : L.any (fun t => !okV t) = !L.all okV := by rw [List.not_all_eq_any_not]
      rw [this]
      simp only [T.sel]
      cases L.all okV <;> rfl
    · simp [T.sel] at h2
  · simp [T.sel] at h
noncomputable def ePL : LEnt := { id := 4, n := 68, sg := sgPa, wr := writes bPa, s := spPL }
theorem tParseL (L : List Tok) (at' : Int) : runL B lib14L [ePL] Tryz.f26 [.slw 0, i64 at'] [tkb L] =
    bif decide (200 < (L.length : Int)) then pzO 0 4 [] else bif decide (L = L ∧ (L.length : Int) = (L.length : Int) ∧ (0 : Int) = 0 ∧ L.length ≤ 200) && longV L then (bif L.all okV then (bif decide (at' < 0) then pzO 0 2 [] else bif decide ((L.length : Int) < at') then pzO 0 2 [] else
      bif decide ((1 : Int) ≤ 1 ∧ (1 : Int) ≤ 6) && okP at' L then (bif prIn (zR at' L) then pzO (prAt L (zR at' L)) (prEr (zR at' L)) (prNd (zR at' L)) else none) else none) else pzO 0 8 []) else none := by kernel_rfl
def sParseLG : FSpec
  | [.slw 0, .int .i64 at'], [⟨false, .toks L⟩] => .node (longV L && (decide (L.length ≤ 200) && (L.all okV && (decide (0 ≤ at' ∧ at' ≤ (L.length : Int)) && decide (zE L at' = 0))))) (.leaf ⟨[.slw 0, .int .i64 (zN L at'), .int .i64 0], [⟨true, .nodes (zX L at')⟩]⟩) .bad
  | _, _ => .bad
theorem okV_tkL {L : List Tok} (hs : longV L = true) (h : L.all okV = true) : L.all okTk = true := List.all_eq_true.2 fun t ht => by
  have h1 := List.all_eq_true.1 h t ht
  unfold okV at h1
  rw [Bool.and_eq_true] at h1
  have h2 := of_decide_eq_true h1.2
  have h3 := List.all_eq_true.1 hs t ht
  unfold tokG at h3
  rw [Bool.or_eq_true, Bool.and_eq_true, Bool.and_eq_true] at h3
  refine decide_eq_true ⟨h2.1, h2.2, ?_⟩
  rcases h3 with h3 | ⟨_, h4, h5⟩
  · exact .inl (of_decide_eq_true h3)
  · exact .inr ⟨of_decide_eq_true h4, of_decide_eq_true h5⟩
theorem okParseLG (hB : Laid B) : FnOk (E0 B) 26 sParseLG := by
  refine fnL (lib14L_ok hB) (ls := [ePL]) Tryz.func26 (by kernel_rfl) (by kernel_rfl) (fun x hx => ?_) fun vs bs r h => ?_
  · simp only [List.mem_singleton] at hx; subst hx
    exact ⟨bPa, by kernel_rfl, rfl, loopPL hB⟩
  · unfold sParseLG at h
    split at h
    · rename_i at' L
      rcases T.node_sel h with ⟨hs, h2⟩ | ⟨_, h2⟩
      · simp only [Bool.and_eq_true] at hs
        obtain ⟨g1, g2, g3, g4, g5⟩ := hs
        have hL := of_decide_eq_true g2
        obtain ⟨a0, a1⟩ := of_decide_eq_true g4
        obtain ⟨z1, z2, z3⟩ := z_ok g3 hL a0 a1
        have hz := of_decide_eq_true g5
        simp only [T.sel, Option.some.injEq] at h2; subst h2
        refine (tParseL L at').trans ?_
        have hok : okP at' L = true := by
          unfold okP
          rw [Bool.and_eq_true]
          exact ⟨decide_eq_true ⟨a0, a1, hL⟩, okV_tkL g1 g3⟩
        rw [decide_eq_false (show ¬ 200 < (L.length : Int) by omega), g1, decide_eq_true (show L = L ∧ (L.length : Int) = (L.length : Int) ∧ (0 : Int) = 0 ∧ L.length ≤ 200 from ⟨rfl, rfl, rfl, hL⟩), g3, decide_eq_false (show ¬ at' < 0 by omega), decide_eq_false (show ¬ (L.length : Int) < at' by omega), hok, zR_in hL, ← z1, ← z2, ← z3, hz]
        rfl
      · simp [T.sel] at h2
    · simp [T.sel] at h
end Go.Proofs.YtdckpbeioemopabGreatDoor
namespace Go.Proofs.YtdckpbeioemopabGreatDoor
open Go.Am Go
set_option maxRecDepth 100000
variable {B : Nat → Option Obj}
def txG (X : List Nod) (K : Option Out) : Option Out := bif rngX X && decide (chkN X = 0) then K else none
def bdG (b : Bool) (K : Option Out) : Option Out := bif b then rb true else K
end Go.Proofs.YtdckpbeioemopabGreatDoor
namespace Go.Proofs.YtdckpbeioemopabGreatDoor.Br
open Go.Am Go Go.Proofs.YtdckpbeioemopabGreatDoor
set_option maxRecDepth 100000
variable {B : Nat → Option Obj}
noncomputable def libBr : Tb := (26, [], sParseLG) :: (24, [], sTextG) :: (25, [], sAllG) :: (27, [], sSameG) :: (23, [], sTrueF) :: (22, [], sAsked) :: (28, [], sEqN) :: lib5
theorem libBr_ok (hB : Laid B) : TbOk B libBr := ((((((lib5_ok.add okFEq).add okAsked).add (okAlive5 hB)).add okSameG).add (okAllG hB)).add (okTextG hB)).add (okParseLG hB)
def gG (b : Bool) (K : Option Out) : Option Out := bif b then K else none
def pG (L : List Tok) (a : Int) (K : Option Out) : Option Out := gG (longV L && (decide (L.length ≤ 200) && (L.all okV && (decide (0 ≤ a ∧ a ≤ (L.length : Int)) && decide (zE L a = 0))))) K
def ap (n m : Nat) (K : Option Out) : Option Out := gG (decide (n + m ≤ lim)) K
def brQ (F l : List Tok) (b : Tok) : Option Out :=
  ap (F ++ l).length 1 (pG (F ++ l ++ [b]) F.length (bif decide (zN (F ++ l ++ [b]) F.length = zN (F ++ l) F.length) then gG (decide ((zX (F ++ l) F.length).length ≤ 1000)) (bif all2 eqNod (zX (F ++ l) F.length) (zX (F ++ l ++ [b]) F.length) then rb true else rb false) else rb false))
def brR (F l : List Tok) (b : Tok) : Option Out := bif decide (b.kind = 1) then brQ F l b else bif decide (b.text = [107]) then brQ F l b else bif decide (b.text = [41]) then brQ F l b else bif decide (b.text = [40]) then brQ F l b else rb true
def brP (X : List Nod) (F l : List Tok) (b : Tok) : Option Out :=
  ap 0 F.length (ap F.length l.length (pG (F ++ l) F.length (gG (decide (smE X (zX (F ++ l) F.length) = 0)) (bif !smB X (zX (F ++ l) F.length) then rb false else bif !decide (zN (F ++ l) F.length = ((F ++ l).length : Int)) then rb false else brR F l b))))
def brL (X : List Nod) (F : List Tok) (b : Tok) (S : List UInt8) : Option Out := gG (decide (lexE S = 0)) (bdG (decide (150 < ((lexL S).length : Int))) (brP X F (lexL S) b))
def brT (X : List Nod) (F : List Tok) (b : Tok) : Option Out := txG X (bdG (decide (390 < ((txS X).length : Int))) (catO [40] (txS X) fun u => catO u [41] fun u => brL X F b u))
def brA (X : List Nod) (F : List Tok) (b : Tok) : Option Out := ap 0 F.length (ap F.length 1 (gG (longT (F ++ [b])) (bdG (!decide (zE0 (F ++ [b]) 0 = 0)) (brT X F b))))
theorem tBr (X : List Nod) (F : List Tok) (k p : Int) (t : List UInt8) : runT B libBr Tryz.f6 [.slw 0, .slw 1, .agg [.int .u8 k, .str t, i64 p]] [ndb X, tkb F] =
    bdG (decide (70 < (X.length : Int))) (bdG (!decide (chkN X = 0)) (bdG (decide (30 < (F.length : Int))) (brA X F ⟨k, t, p⟩))) := by kernel_rfl
end Go.Proofs.YtdckpbeioemopabGreatDoor.Br
namespace Go.Proofs.YtdckpbeioemopabGreatDoor.Br
open Go.Am Go Go.Proofs.YtdckpbeioemopabGreatDoor
set_option maxRecDepth 100000
variable {B : Nat → Option Obj}
theorem word_short : wordList.all (fun w => decide (w.length ≤ 900)) = true := by decide +kernel
theorem sym_le (s : List UInt8) : sym0 s ≤ 2 := by
  unfold sym0
  cases decide (s = []) <;> cases !decide (kindN (c0 s) = 4) <;> cases pairB s <;> cases decide (c0 s = 33) <;> decide
theorem tok_valid {t : Tok} (hv : validB t = true) (hl : t.text.length ≤ Lx.top63) : tokG t = true := by
  have hv := of_decide_eq_true hv
  unfold tokG
  by_cases h1 : t.kind = 1
  · unfold tokE at hv
    rw [decide_eq_true h1, cond_true] at hv
    rw [decide_eq_true h1, decide_eq_true hv, decide_eq_true hl]; simp
  · have hs : t.text.length ≤ 900 := by
      unfold tokE at hv
      rw [decide_eq_false h1, cond_false] at hv
      by_cases h2 : t.kind = 2
      · rw [decide_eq_true h2, cond_true] at hv
        cases hw : isWord t.text with
        | false => rw [hw] at hv; cases hv
        | true =>
          have hm := List.contains_iff_mem.1 hw
          exact of_decide_eq_true (List.all_eq_true.1 word_short _ hm)
      · rw [decide_eq_false h2, cond_false] at hv
        by_cases h3 : t.kind = 3
        · rw [decide_eq_true h3, cond_true] at hv
          cases hc : decide (0 < sym0 t.text) && decide (sym0 t.text = (t.text.length : Int)) with
          | false => rw [hc] at hv; cases hv
          | true =>
            rw [Bool.and_eq_true] at hc
            have := of_decide_eq_true hc.2
            have := sym_le t.text
            omega
        · rw [decide_eq_false h3] at hv; cases hv
    rw [decide_eq_true hs]; rfl
theorem eqn_refl : ∀ L : List Nod, all2 eqNod L L = true
  | [] => rfl
  | x :: l => by
    show (eqNod x x && all2 eqNod l l) = true
    rw [eqn_refl l, show eqNod x x = true by unfold eqNod; simp]; rfl
theorem okV_v {t : Tok} (h : okV t = true) : validB t = true := by
  unfold okV at h
  rw [Bool.and_eq_true] at h
  exact h.1
theorem long_of {L : List Tok} (hv : L.all okV = true) (hl : ∀ t ∈ L, t.text.length ≤ Lx.top63) : longV L = true := List.all_eq_true.2 fun t ht => tok_valid (okV_v (List.all_eq_true.1 hv t ht)) (hl t ht)
theorem br_txt (e : Ex) : pcsS (brB [] e) = [40] ++ e.txt true ++ [41] := by simp [brB, brk, pcsS, pcsS_app, Ex.txt]
theorem br_len (e : Ex) (hs : e.size ≤ 60) : (brB [] e).length ≤ 180 := by
  have h1 := pcs_len true e [] 0
  have hp := e.size_pos
  simp only [brB, brk, cond_true, List.length_append, List.length_cons, List.length_nil]
  omega
theorem z_in {F l r : List Tok} {e : Ex} (hv : (F ++ l ++ r).all okV = true) (hn : (F ++ l ++ r).length ≤ 200) (hl : 7 * (l ++ r).length + 8 ≤ 1501) (hg : Gr (.E 1) e l) (hs : e.size ≤ 60) (hd : e.depth ≤ 20) (hr : stopB 1 r = true) :
    zE (F ++ l ++ r) F.length = 0 ∧ zN (F ++ l ++ r) F.length = ((F ++ l).length : Int) ∧ zX (F ++ l ++ r) F.length = e.flat 0 := by
  have hp := pE_gr (s := 1) (rest := r) hg (by omega) (by omega) hs hd hr (n := 1500) (by omega)
  have hz : zR (F.length : Int) (F ++ l ++ r) = .ok e r := by
    unfold zR
    rw [Int.toNat_natCast, List.append_assoc, List.drop_left]; exact hp
  obtain ⟨z1, z2, z3⟩ := z_ok hv hn (show 0 ≤ (F.length : Int) by omega) (show (F.length : Int) ≤ (F ++ l ++ r).length by simp; omega)
  rw [hz] at z1 z2 z3
  refine ⟨z1, ?_, z3⟩
  rw [z2]
  show ((F ++ l ++ r).length : Int) - (r.length : Int) = _
  simp only [List.length_append]; omega
theorem pG_in {L : List Tok} {a : Int} (h1 : longV L = true) (h2 : L.length ≤ 200) (h3 : L.all okV = true) (h4 : 0 ≤ a ∧ a ≤ (L.length : Int)) (h5 : zE L a = 0) (K : Option Out) : pG L a K = K := by
  unfold pG gG
  rw [h1, decide_eq_true h2, h3, decide_eq_true h4, decide_eq_true h5]; rfl
theorem ap_in {n m : Nat} (h : n + m ≤ 1000) (K : Option Out) : ap n m K = K := by
  unfold ap gG
  rw [decide_eq_true (show n + m ≤ lim by simp only [lim]; omega)]; rfl
theorem brQ_is {F l : List Tok} {b : Tok} {e : Ex} (hv : (F ++ l ++ [b]).all okV = true) (hlg : ∀ t ∈ F ++ l ++ [b], t.text.length ≤ Lx.top63) (hF : F.length ≤ 30) (hl : l.length ≤ 150) (hg : Gr (.E 1) e l) (hs : e.size ≤ 60) (hd : e.depth ≤ 20) (hst : stopB 1 [b] = true)
    (h1 : zN (F ++ l) F.length = ((F ++ l).length : Int)) (h2 : zX (F ++ l) F.length = e.flat 0) : brQ F l b = rb true := by
  have hn : (F ++ l ++ [b]).length ≤ 200 := by simp; omega
  obtain ⟨z1, z2, z3⟩ := z_in hv hn (by simp; omega) hg hs hd hst
  unfold brQ
  rw [ap_in (by simp; omega), pG_in (long_of hv hlg) hn hv ⟨by omega, by simp; omega⟩ z1, z2, h1, h2, z3, decide_eq_true rfl, eqn_refl]
  unfold gG
  rw [Ex.flat_len, decide_eq_true (show e.size ≤ 1000 by omega)]; rfl
theorem stop_one {b : Tok} (h : b.kind = 1 ∨ opK b.text = 0) : stopB 1 [b] = true := by
  rw [stop_cons]
  unfold Tok.op
  rcases h with h | h
  · rw [decide_eq_true h]; rfl
  · rw [h, decide_eq_true rfl]; simp
theorem brP_is {F l : List Tok} {b : Tok} {e e' : Ex} (hv : (F ++ l ++ [b]).all okV = true) (hlg : ∀ t ∈ F ++ l ++ [b], t.text.length ≤ Lx.top63) (hF : F.length ≤ 30) (hl : l.length ≤ 150) (he : e.ok = true) (hg : Gr (.E 1) e' l) (hst : e'.st = e.st) (hs : e.size ≤ 60) (hd : e.depth ≤ 20) : brP (e.flat 0) F l b = rb true := by
  obtain ⟨t1, t2⟩ := size_of_st hst
  have hv1 : (F ++ l).all okV = true := by
    rw [List.all_append, Bool.and_eq_true] at hv
    exact hv.1
  have hvl : l.all okV = true := by
    rw [List.all_append, Bool.and_eq_true] at hv1
    exact hv1.2
  have hn : (F ++ l).length ≤ 200 := by simp; omega
  have hz := z_in (F := F) (l := l) (r := []) (e := e') (by rw [List.append_nil]; exact hv1) (by rw [List.append_nil]; exact hn) (by rw [List.append_nil]; omega) hg (by omega) (by omega) rfl
  rw [List.append_nil] at hz
  obtain ⟨z1, z2, z3⟩ := hz
  obtain ⟨m1, m2⟩ := sm_st he (gr_okV hg hvl) hs hd (by omega) (by omega)
  have hQ : ∀ (h : b.kind = 1 ∨ opK b.text = 0), brQ F l b = rb true := fun h => brQ_is hv hlg hF hl hg (by omega) (by omega) (stop_one h) z2 z3
  unfold brP
  rw [ap_in (by omega), ap_in (by omega), pG_in (long_of hv1 fun t ht => hlg t (List.mem_append.2 (.inl ht))) hn hv1 ⟨by omega, by simp; omega⟩ z1, z2, z3, m1, m2, decide_eq_true hst.symm, decide_eq_true rfl, decide_eq_true rfl]
  show brR F l b = rb true
  unfold brR
  by_cases c1 : b.kind = 1
  · rw [decide_eq_true c1]; exact hQ (.inl c1)
  rw [decide_eq_false c1]
  by_cases c2 : b.text = [107]
  · rw [decide_eq_true c2]; exact hQ (.inr (by rw [c2]; rfl))
  rw [decide_eq_false c2]
  by_cases c3 : b.text = [41]
  · rw [decide_eq_true c3]; exact hQ (.inr (by rw [c3]; rfl))
  rw [decide_eq_false c3]
  by_cases c4 : b.text = [40]
  · rw [decide_eq_true c4]; exact hQ (.inr (by rw [c4]; rfl))
  rw [decide_eq_false c4]; rfl
theorem br_true {X : List Nod} {F : List Tok} {k p : Int} {t : List UInt8} (hr : rngX X = true) (hF : ∀ x ∈ F, x.text.length ≤ Lx.top63) (ht : t.length ≤ Lx.top63) :
    runT B libBr Tryz.f6 [.slw 0, .slw 1, .agg [.int .u8 k, .str t, i64 p]] [ndb X, tkb F] = rb true := by
  refine (tBr X F k p t).trans ?_
  generalize hb : (⟨k, t, p⟩ : Tok) = b
  have hbt : b.text.length ≤ Lx.top63 := by rw [← hb]; exact ht
  unfold bdG
  cases decide (70 < (X.length : Int)) with
  | true => rfl
  | false =>
  by_cases hc : chkN X = 0
  · rw [decide_eq_true hc]
    by_cases h30 : 30 < (F.length : Int)
    · rw [decide_eq_true h30]; rfl
    rw [decide_eq_false h30]
    show brA X F b = rb true
    unfold brA
    have hlt : longT (F ++ [b]) = true := List.all_eq_true.2 fun x hx => by
      rcases List.mem_append.1 hx with h | h
      · exact decide_eq_true (hF x h)
      · simp at h; subst h; exact decide_eq_true hbt
    rw [ap_in (by omega), ap_in (by omega), hlt]
    show bdG (!decide (zE0 (F ++ [b]) 0 = 0)) (brT X F b) = rb true
    unfold bdG
    by_cases hz : zE0 (F ++ [b]) 0 = 0
    · rw [decide_eq_true hz]
      show brT X F b = rb true
      have hvF : (F ++ [b]).all okV = true := by
        unfold zE0 at hz
        rw [decide_eq_false (show ¬ 200 < (F ++ [b]).length by simp; omega), cond_false] at hz
        cases hq : (F ++ [b]).all okV with
        | true => rfl
        | false => rw [hq] at hz; cases hz
      obtain ⟨e, he, rfl, hs, hd⟩ := chkN_tree hc
      have hre : e.rng = true := by rw [← rng_flat e 0]; exact hr
      unfold brT txG bdG
      rw [(txS_is he hc).1, hr, decide_eq_true hc]
      by_cases h390 : 390 < ((e.txt true).length : Int)
      · rw [decide_eq_true h390]; rfl
      rw [decide_eq_false h390]
      show catO [40] (e.txt true) (fun u => catO u [41] fun u => brL (e.flat 0) F b u) = rb true
      rw [catO_in (by simp; omega), catO_in (by simp; omega), ← br_txt]
      have hpo : pcOk (brB [] e) = true := by
        have := pcOk_brB (g := []) he hre rfl (rest := []) rfl rfl
        rwa [List.append_nil] at this
      have hsz : (pcsS (brB [] e)).length ≤ 400 := by rw [br_txt]; simp; omega
      obtain ⟨l1, l2, l3, l4, l5⟩ := lexd hpo (by have := br_len e hs; omega) hsz
      unfold brL gG bdG
      rw [l2, decide_eq_true rfl, l1]
      by_cases h150 : 150 < ((pcsT 0 (brB [] e)).length : Int)
      · rw [decide_eq_true h150]; rfl
      rw [decide_eq_false h150]
      obtain ⟨e', g1, g2⟩ := gr_brB (g := []) he hre (pcsT_kt (brB [] e) 0)
      have g3 : Gr (.E 1) e' (pcsT 0 (brB [] e)) := gr_down (n := 9) (m := 0) (by omega) (by omega) g2
      rw [List.all_append, Bool.and_eq_true] at hvF
      refine brP_is (e := e) (e' := e') ?_ ?_ (by omega) (by omega) he g3 g1 hs hd
      · rw [List.all_append, List.all_append, hvF.1, l4, hvF.2]; rfl
      · intro x hx
        rcases List.mem_append.1 hx with hx | hx
        · rcases List.mem_append.1 hx with hx | hx
          · exact hF x hx
          · have := short_mem l3 hx
            unfold Lx.top63; omega
        · simp at hx; subst hx; exact hbt
    · rw [decide_eq_false hz]; rfl
  · rw [decide_eq_false hc]; rfl
def sBr (_ : Nat → Option Obj) : FSpec
  | [.slw 0, .slw 1, .agg [.int .u8 _, .str t, .int .i64 _]], [⟨false, .nodes X⟩, ⟨false, .toks F⟩] => .node (rngX X && (longT F && decide (t.length ≤ Lx.lim2))) (.leaf ⟨[.bool true], []⟩) .bad
  | _, _ => .bad
theorem sBr_sel {X : List Nod} {F : List Tok} {b : Tok} (h : ∀ x ∈ X, nodWf x) (hF : ∀ x ∈ F, tokWf x) (hb : tokWf b) : (sBr B [.slw 0, .slw 1, .agg b.enc] [⟨false, .nodes X⟩, ⟨false, .toks F⟩]).sel = some ⟨[.bool true], []⟩ := by
  show (bif rngX X && (longT F && decide (b.text.length ≤ Lx.lim2)) then _ else _) = _
  rw [rng_of h, show longT F = true from List.all_eq_true.2 fun x hx => decide_eq_true (hF x hx).2.2, decide_eq_true (show b.text.length ≤ Lx.lim2 from hb.2.2)]; rfl
theorem okBr (hB : Laid B) : FnOk (E0 B) 6 (sBr B) := by
  refine fnT (libBr_ok hB) Tryz.func6 (by kernel_rfl) (by kernel_rfl) fun vs bs r h => ?_
  unfold sBr at h
  split at h
  · rename_i k t p X F
    rcases T.node_sel h with ⟨hr, h2⟩ | ⟨_, h2⟩
    · rw [Bool.and_eq_true, Bool.and_eq_true] at hr
      simp only [T.sel, Option.some.injEq] at h2; subst h2
      exact br_true hr.1 (fun x hx => of_decide_eq_true (List.all_eq_true.1 hr.2.1 x hx)) (of_decide_eq_true hr.2.2)
    · simp [T.sel] at h2
  · simp [T.sel] at h
end Go.Proofs.YtdckpbeioemopabGreatDoor.Br
