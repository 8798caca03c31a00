/-
  Texts put together: PlanLaw, PlanKinds, PlanSizes.
-/
import Derived.Test.YtfniiapkghpihaaGreatDoorPlnA
import Derived.Test.YtfniiapkghpihaaGreatDoorLitB
import Derived.Test.YtfniiapkghpihaaGreatDoorLitA
/-
  Plans: Of by contract; what the laws ask.
-/
namespace Go.Proofs.YtfniiapkghpihaaGreatDoor.Pl
open Go.Am Go Go.Proofs.YtfniiapkghpihaaGreatDoor
set_option maxRecDepth 100000
variable {B : Nat → Option Obj}
def ofR (q : Qry) (st : List Int) : Out := ⟨[plAv q 0 1 2 3, i64 0], [⟨true, .bytes 5 st⟩, ⟨false, .nodes q.arg⟩, ⟨true, .ints .i64 q.src⟩, ⟨false, .nodes q.whr⟩]⟩
def q0 : Qry := ⟨0, [], [], false, [], 0, 0, 0, false, 0⟩
def ofZ (e : Int) : Out := ⟨[plAv q0 0 1 2 3, i64 e], [⟨true, .bytes 5 []⟩, ⟨true, .nodes []⟩, ⟨true, .ints .i64 []⟩, ⟨true, .nodes []⟩]⟩
theorem tOf (q : Qry) : runT B lib6 Tryz.f15 [q.av 0 1 2] (Ck.qbs q) = bif !decide ((ckE q).2 = 0) then some (ofZ (ckE q).2) else bif decide (q.arg.length ≤ 1000) then (bif decide (0 < q.src.length) then (bif decide (([] : List Int).length + q.src.length ≤ lim) then (bif decide (q.whr.length ≤ 1000) then some (ofR q (stpQ q)) else none) else none) else none) else none := by kernel_rfl
theorem of_is (q : Qry) : runT B lib6 Tryz.f15 [q.av 0 1 2] (Ck.qbs q) = some (bif decide ((ckE q).2 = 0) then ofR q (stpQ q) else ofZ (ckE q).2) := by
  rw [tOf]
  by_cases h : (ckE q).2 = 0
  · have hc := ckE_clk h
    obtain ⟨c1, c2, c3, c4, c5, c6⟩ := clk_inv hc
    obtain ⟨s1, s2, _⟩ := srcE_inv c5
    have hA : q.arg.length ≤ 1000 := by
      by_cases h1 : q.agg = 1
      · rw [c2 h1]; simp
      · have := chk_len (c3 h1); omega
    have hW : q.whr.length ≤ 1000 := by
      by_cases h1 : 0 < q.whr.length
      · have := chk_len (c4 h1); omega
      · omega
    rw [decide_eq_true h, decide_eq_true hA, decide_eq_true s2, decide_eq_true (show ([] : List Int).length + q.src.length ≤ lim by simp only [List.length_nil, lim]; omega), decide_eq_true hW]; rfl
  · rw [decide_eq_false h]; rfl
def sOf : FSpec
  | [.agg [.int .u8 ag, .slw 0, .slw 1, .bool j, .slw 2, .int .u8 wk, .int .i64 ws, .int .i64 we, .bool bk, .int .u8 lt]], [⟨false, .nodes A⟩, ⟨false, .ints .i64 S⟩, ⟨false, .nodes W⟩] => .node (decide ((ckE ⟨ag, A, S, j, W, wk, ws, we, bk, lt⟩).2 = 0)) (.leaf (ofR ⟨ag, A, S, j, W, wk, ws, we, bk, lt⟩ (stpQ ⟨ag, A, S, j, W, wk, ws, we, bk, lt⟩))) (.leaf (ofZ (ckE ⟨ag, A, S, j, W, wk, ws, we, bk, lt⟩).2))
  | _, _ => .bad
theorem okOf (hB : Laid B) : FnOk (E0 B) 15 sOf := by
  refine fnT (lib6_ok hB) Tryz.func15 (by kernel_rfl) (by kernel_rfl) fun vs bs r h => ?_
  unfold sOf at h
  split at h
  · rename_i ag j wk ws we bk lt A S W
    refine (of_is ⟨ag, A, S, j, W, wk, ws, we, bk, lt⟩).trans ?_
    rw [← h]
    show _ = (bif decide _ then _ else _)
    cases decide ((ckE ⟨ag, A, S, j, W, wk, ws, we, bk, lt⟩).2 = 0) <;> rfl
  · simp [T.sel] at h
/-- the same where the steps are known -/
def stB (q : Qry) (w k j l : Bool) : Bool := decide ((ckE q).2 = 0) && ((decide (0 < q.whr.length) == w) && ((q.byKey == k) && ((q.join == j) && (decide (q.late = 2) == l))))
def sOfC (w k j l : Bool) : FSpec
  | [.agg [.int .u8 ag, .slw 0, .slw 1, .bool jn, .slw 2, .int .u8 wk, .int .i64 ws, .int .i64 we, .bool bk, .int .u8 lt]], [⟨false, .nodes A⟩, ⟨false, .ints .i64 S⟩, ⟨false, .nodes W⟩] => .node (stB ⟨ag, A, S, jn, W, wk, ws, we, bk, lt⟩ w k j l) (.leaf (ofR ⟨ag, A, S, jn, W, wk, ws, we, bk, lt⟩ (stp w k j l))) .bad
  | _, _ => .bad
theorem stB_is {q : Qry} {w k j l : Bool} (h : stB q w k j l = true) : (ckE q).2 = 0 ∧ stpQ q = stp w k j l := by
  unfold stB at h
  simp only [Bool.and_eq_true, beq_iff_eq] at h
  obtain ⟨h1, h2, h3, h4, h5⟩ := h
  refine ⟨of_decide_eq_true h1, ?_⟩
  unfold stpQ
  rw [h2, h3, h4, h5]
theorem okOfC (hB : Laid B) (w k j l : Bool) : FnOk (E0 B) 15 (sOfC w k j l) := fnOk_weak (okOf hB) fun vs bs r h => by
  unfold sOfC at h
  split at h
  · rename_i ag jn wk ws we bk lt A S W
    rcases T.node_sel h with ⟨hc, h2⟩ | ⟨_, h2⟩
    · obtain ⟨h3, h4⟩ := stB_is hc
      rw [← h2]
      show (bif decide _ then _ else _) = _
      rw [decide_eq_true h3, h4]; rfl
    · simp [T.sel] at h2
  · simp [T.sel] at h
noncomputable def lib7 (w k j l : Bool) : Tb := (15, [], sOfC w k j l) :: (18, [], sTrueF) :: lib6
theorem lib7_ok (hB : Laid B) (w k j l : Bool) : TbOk B (lib7 w k j l) := ((lib6_ok hB).add (okAl22 hB)).add (okOfC hB w k j l)
end Go.Proofs.YtfniiapkghpihaaGreatDoor.Pl
/-
  PlanKinds: what the law answers.
-/
namespace Go.Proofs.YtfniiapkghpihaaGreatDoor.Pl
open Go.Am Go Go.Proofs.YtfniiapkghpihaaGreatDoor
set_option maxRecDepth 100000
variable {B : Nat → Option Obj}
theorem fnOk_cases {E : Env} {f : FuncId} {ι : Type} {s : FSpec} {si : ι → FSpec} (hat : ∃ fn c, FnAt E.P f fn c) (h : ∀ i, FnOk E f (si i)) (hs : ∀ vs bs r, (s vs bs).sel = some r → ∃ i, (si i vs bs).sel = some r) : FnOk E f s :=
  ⟨hat, fun vs bs out hsel => by
    obtain ⟨i, hi⟩ := hs vs bs out hsel
    exact (h i).2 vs bs out hi⟩
def grP (q : Qry) (z : Option Out) : Option Out := bif decide ((70 : Int) < (q.arg.length : Int)) then rb true else bif decide ((70 : Int) < (q.whr.length : Int)) then rb true else bif decide ((10 : Int) < (q.src.length : Int)) then rb true else bif !decide ((ckE q).2 = 0) then rb true else z
def isB (q : Qry) (w k j l : Bool) : Bool := (decide (0 < q.whr.length) == w) && ((q.byKey == k) && ((q.join == j) && (decide (q.late = 2) == l)))
end Go.Proofs.YtfniiapkghpihaaGreatDoor.Pl
/-
  PlanSizes: what the law answers.
-/
namespace Go.Proofs.YtfniiapkghpihaaGreatDoor.Pl
open Go.Am Go Go.Proofs.YtfniiapkghpihaaGreatDoor
set_option maxRecDepth 100000
variable {B : Nat → Option Obj}
def okQ (q : Qry) : Bool := decide ((ckE q).2 = 0)
def sOfG : FSpec
  | [.agg [.int .u8 ag, .slw 0, .slw 1, .bool j, .slw 2, .int .u8 wk, .int .i64 ws, .int .i64 we, .bool bk, .int .u8 lt]], [⟨false, .nodes A⟩, ⟨false, .ints .i64 S⟩, ⟨false, .nodes W⟩] => .node (okQ ⟨ag, A, S, j, W, wk, ws, we, bk, lt⟩) (.leaf (ofR ⟨ag, A, S, j, W, wk, ws, we, bk, lt⟩ (stpQ ⟨ag, A, S, j, W, wk, ws, we, bk, lt⟩))) .bad
  | _, _ => .bad
theorem okOfG (hB : Laid B) : FnOk (E0 B) 15 sOfG := fnOk_weak (okOf hB) fun vs bs r h => by
  unfold sOfG at h
  split at h
  · rename_i ag jn wk ws we bk lt A S W
    rcases T.node_sel h with ⟨hc, h2⟩ | ⟨_, h2⟩
    · rw [← h2]
      show (bif decide _ then _ else _) = _
      rw [show decide ((ckE ⟨ag, A, S, jn, W, wk, ws, we, bk, lt⟩).2 = 0) = true from hc]; rfl
    · simp [T.sel] at h2
  · simp [T.sel] at h
noncomputable def lib8 : Tb := (15, [], sOfG) :: (18, [], sTrueF) :: lib6
theorem lib8_ok (hB : Laid B) : TbOk B lib8 := ((lib6_ok hB).add (okAl22 hB)).add (okOfG hB)
def grS (q : Qry) (z : Int) (k : Option Out) : Option Out := bif decide ((70 : Int) < (q.arg.length : Int)) then rb true else bif decide ((70 : Int) < (q.whr.length : Int)) then rb true else bif decide ((10 : Int) < (q.src.length : Int)) then rb true else bif !okQ q then rb true else bif decide (z < 1) then rb true else bif decide (1073741824 < z) then rb true else k
def tw3 (q : Qry) (k : Option Out) : Option Out := bif decide (([] : List Nod).length + q.arg.length ≤ lim) then (bif decide (([] : List Nod).length + q.whr.length ≤ lim) then (bif decide (([] : List Int).length + q.src.length ≤ lim) then k else none) else none) else none
def oth (q : Qry) (z e : Int) (S : List Int) : Qry := { q with src := S, ws := z, we := e }
def fin2 (q o : Qry) : Option Out := bif okQ q then (bif okQ o then rb (decide (byteList (stpQ q) = byteList (stpQ o))) else none) else none
def szO (q : Qry) (z : Int) (S : List Int) : Option Out := grS q z (tw3 q (bif decide (q.wk = 2) then fin2 q (oth q z z S) else fin2 q (oth q z 0 S)))
def srq (q : Qry) (S : List Int) : Qry := { q with src := S }
theorem tSz1 (q : Qry) (a z : Int) : runT B lib8 Tryz.f6 [(srq q [a]).av 0 1 2, i64 z] (Ck.qbs (srq q [a])) = szO (srq q [a]) z [w64 (3 - a)] := by kernel_rfl
theorem tSz2 (q : Qry) (a b z : Int) : runT B lib8 Tryz.f6 [(srq q [a, b]).av 0 1 2, i64 z] (Ck.qbs (srq q [a, b])) = szO (srq q [a, b]) z [w64 (3 - a), w64 (3 - b)] := by kernel_rfl
theorem tSz3 (q : Qry) (a b c z : Int) : runT B lib8 Tryz.f6 [(srq q [a, b, c]).av 0 1 2, i64 z] (Ck.qbs (srq q [a, b, c])) = szO (srq q [a, b, c]) z [w64 (3 - a), w64 (3 - b), w64 (3 - c)] := by kernel_rfl
theorem tSz4 (q : Qry) (a b c d z : Int) : runT B lib8 Tryz.f6 [(srq q [a, b, c, d]).av 0 1 2, i64 z] (Ck.qbs (srq q [a, b, c, d])) = szO (srq q [a, b, c, d]) z [w64 (3 - a), w64 (3 - b), w64 (3 - c), w64 (3 - d)] := by kernel_rfl
theorem tSz0 (q : Qry) (z : Int) : runL B lib8 [] Tryz.f6 [q.av 0 1 2, i64 z] (Ck.qbs q) = grS q z (tw3 q (bif decide (q.wk = 2) then none else none)) := by kernel_rfl
theorem dups_map : ∀ L : List Int, dups (L.map fun x => 3 - x) = dups L
  | [] => rfl
  | x :: r => by
    rw [List.map_cons]
    show ((r.map fun x => 3 - x).contains (3 - x) || dups (r.map fun x => 3 - x)) = (r.contains x || dups r)
    rw [dups_map r]
    congr 1
    rw [Bool.eq_iff_iff, List.contains_iff_mem, List.contains_iff_mem, List.mem_map]
    exact ⟨fun ⟨y, h1, h2⟩ => by rwa [show x = y by omega], fun h => ⟨x, h, rfl⟩⟩
theorem srcE_map {L : List Int} {j : Bool} (h : srcE L j = 0) : srcE (L.map fun x => 3 - x) j = 0 := by
  have hin : (L.map fun x => 3 - x).all inR = L.all inR := by
    rw [List.all_map]
    congr 1
    funext x
    show (decide (0 ≤ 3 - x) && decide (3 - x ≤ 3)) = (decide (0 ≤ x) && decide (x ≤ 3))
    rw [Bool.and_comm]
    congr 1 <;> exact decide_eq_decide.2 (by omega)
  unfold srcE at h ⊢
  rw [List.length_map, hin, dups_map]; exact h
theorem map_w64 {L : List Int} (h : L.all inR = true) : (L.map fun x => w64 (3 - x)) = L.map fun x => 3 - x := List.map_congr_left fun x hx => by
  have := inR_of (List.all_eq_true.1 h x hx)
  exact w64_rng (by unfold Rng; omega)
theorem oth_ok {q : Qry} (h : okQ q = true) {z e : Int} (hz : 1 ≤ z ∧ z ≤ 1073741824) (he : e = bif decide (q.wk = 2) then z else 0) : okQ (oth q z e (q.src.map fun x => w64 (3 - x))) = true := by
  have h := of_decide_eq_true h
  have hc := ckE_clk h
  obtain ⟨c1, c2, c3, c4, c5, c6⟩ := clk_inv hc
  obtain ⟨s1, s2, s3⟩ := srcE_inv c5
  rw [map_w64 s3]
  have hf : fitsW q.wk q.ws q.we = true ∧ (q.join && !decide (q.wk = 1)) = false := by
    cases hf : fitsW q.wk q.ws q.we with
    | false => rw [hf] at c6; cases c6
    | true => rw [hf] at c6; exact ⟨rfl, c6⟩
  obtain ⟨f1, f2, _⟩ := fitsW_inv hf.1
  have hf2 : fitsW q.wk z e = true := by
    unfold fitsW
    rw [decide_eq_true hz.1, decide_eq_true hz.2, he]
    by_cases hk : q.wk = 2
    · rw [decide_eq_true hk]
      simp only [cond_true, Bool.true_and]
      rw [decide_eq_true hz.1, decide_eq_true (Int.le_refl z), decide_eq_true (show z ≤ 16 * z by omega)]; rfl
    · rw [decide_eq_false hk]
      simp only [cond_false, Bool.true_and]
      have : q.wk = 1 ∨ q.wk = 3 := by omega
      rcases this with h | h <;> rw [h] <;> rfl
  have hco : clkE (oth q z e (q.src.map fun x => 3 - x)) = 0 := clk_mk c1 c2 c3 c4 (srcE_map c5) (by
    show (!fitsW q.wk z e || (q.join && !decide (q.wk = 1))) = false
    rw [hf2, hf.2]; rfl)
  have e1 : ckE q = ckR q := by unfold ckE; rw [decide_eq_true hc]; rfl
  have e2 : ckE (oth q z e (q.src.map fun x => 3 - x)) = ckR q := by unfold ckE; rw [decide_eq_true hco]; rfl
  unfold okQ
  rw [e2, ← e1, h]; rfl
theorem sz_true (q : Qry) (z : Int) : szO q z (q.src.map fun x => w64 (3 - x)) = rb true := by
  unfold szO grS
  by_cases h1 : (70 : Int) < (q.arg.length : Int)
  · rw [decide_eq_true h1]; rfl
  rw [decide_eq_false h1]
  by_cases h2 : (70 : Int) < (q.whr.length : Int)
  · rw [decide_eq_true h2]; rfl
  rw [decide_eq_false h2]
  by_cases h3 : (10 : Int) < (q.src.length : Int)
  · rw [decide_eq_true h3]; rfl
  rw [decide_eq_false h3]
  cases hq : okQ q with
  | false => rfl
  | true =>
  by_cases h4 : z < 1
  · rw [decide_eq_true h4]; rfl
  rw [decide_eq_false h4]
  by_cases h5 : 1073741824 < z
  · rw [decide_eq_true h5]; rfl
  rw [decide_eq_false h5]
  unfold tw3
  rw [decide_eq_true (show ([] : List Nod).length + q.arg.length ≤ lim by simp only [List.length_nil, lim]; omega), decide_eq_true (show ([] : List Nod).length + q.whr.length ≤ lim by simp only [List.length_nil, lim]; omega), decide_eq_true (show ([] : List Int).length + q.src.length ≤ lim by simp only [List.length_nil, lim]; omega)]
  have fin : ∀ e : Int, e = (bif decide (q.wk = 2) then z else 0) → fin2 q (oth q z e (q.src.map fun x => w64 (3 - x))) = rb true := fun e he => by
    unfold fin2
    rw [hq, oth_ok hq ⟨by omega, by omega⟩ he]
    show rb (decide (byteList (stpQ q) = byteList (stpQ q))) = rb true
    rw [decide_eq_true rfl]
  by_cases hk : q.wk = 2
  · rw [decide_eq_true hk]; exact fin z (by rw [decide_eq_true hk]; rfl)
  · rw [decide_eq_false hk]; exact fin 0 (by rw [decide_eq_false hk]; rfl)
theorem sz0_true {q : Qry} (h : ¬ (1 ≤ q.src.length ∧ q.src.length ≤ 4)) (z : Int) : grS q z (tw3 q (bif decide (q.wk = 2) then none else none)) = rb true := by
  have hq : okQ q = false := by
    cases hq : okQ q with
    | false => rfl
    | true =>
      obtain ⟨s1, s2, _⟩ := srcE_inv (clk_inv (ckE_clk (of_decide_eq_true hq))).2.2.2.2.1
      exact (h ⟨s2, s1⟩).elim
  unfold grS
  rw [hq]
  cases decide ((70 : Int) < (q.arg.length : Int)) with
  | true => rfl
  | false =>
  cases decide ((70 : Int) < (q.whr.length : Int)) with
  | true => rfl
  | false =>
  cases decide ((10 : Int) < (q.src.length : Int)) <;> rfl
/-- of as many sources -/
def sSzN (n : Nat) : FSpec
  | [.agg [.int .u8 _, .slw 0, .slw 1, .bool _, .slw 2, .int .u8 _, .int .i64 _, .int .i64 _, .bool _, .int .u8 _], .int .i64 _], [⟨false, .nodes _⟩, ⟨false, .ints .i64 S⟩, ⟨false, .nodes _⟩] => .node (bif Nat.beq n 0 then !decide (1 ≤ S.length ∧ S.length ≤ 4) else Nat.beq S.length n && Nat.ble n 4) (.leaf ⟨[.bool true], []⟩) .bad
  | _, _ => .bad
def sSz (_ : Nat → Option Obj) : FSpec
  | [.agg [.int .u8 _, .slw 0, .slw 1, .bool _, .slw 2, .int .u8 _, .int .i64 _, .int .i64 _, .bool _, .int .u8 _], .int .i64 _], [⟨false, .nodes _⟩, ⟨false, .ints .i64 _⟩, ⟨false, .nodes _⟩] => .leaf ⟨[.bool true], []⟩
  | _, _ => .bad
theorem okSzN (hB : Laid B) (n : Nat) : FnOk (E0 B) 6 (sSzN n) := by
  cases n with
  | zero =>
    refine fnL (lib8_ok hB) (ls := []) Tryz.func6 (by kernel_rfl) (by kernel_rfl) (fun x hx => (by cases hx)) fun vs bs r h => ?_
    unfold sSzN at h
    split at h
    · rename_i ag j wk ws we bk lt z A S W
      rcases T.node_sel h with ⟨hc, h2⟩ | ⟨_, h2⟩
      · simp only [T.sel, Option.some.injEq] at h2; subst h2
        have hc' : (!decide (1 ≤ S.length ∧ S.length ≤ 4)) = true := hc
        rw [Bool.not_eq_true', decide_eq_false_iff_not] at hc'
        exact (tSz0 ⟨ag, A, S, j, W, wk, ws, we, bk, lt⟩ z).trans (sz0_true hc' z)
      · simp [T.sel] at h2
    · simp [T.sel] at h
  | succ n =>
    refine fnT (lib8_ok hB) Tryz.func6 (by kernel_rfl) (by kernel_rfl) fun vs bs r h => ?_
    unfold sSzN at h
    split at h
    · rename_i ag j wk ws we bk lt z A S W
      rcases T.node_sel h with ⟨hc, h2⟩ | ⟨_, h2⟩
      · simp only [T.sel, Option.some.injEq] at h2; subst h2
        rw [show Nat.beq (n + 1) 0 = false from rfl, cond_false, Bool.and_eq_true] at hc
        have h1 := Nat.eq_of_beq_eq_true hc.1
        have h4 := Nat.le_of_ble_eq_true hc.2
        match S, h1 with
        | [], h1 => simp at h1
        | [a], _ => exact (tSz1 ⟨ag, A, [a], j, W, wk, ws, we, bk, lt⟩ a z).trans (sz_true ⟨ag, A, [a], j, W, wk, ws, we, bk, lt⟩ z)
        | [a, b], _ => exact (tSz2 ⟨ag, A, [a, b], j, W, wk, ws, we, bk, lt⟩ a b z).trans (sz_true ⟨ag, A, [a, b], j, W, wk, ws, we, bk, lt⟩ z)
        | [a, b, c], _ => exact (tSz3 ⟨ag, A, [a, b, c], j, W, wk, ws, we, bk, lt⟩ a b c z).trans (sz_true ⟨ag, A, [a, b, c], j, W, wk, ws, we, bk, lt⟩ z)
        | [a, b, c, d], _ => exact (tSz4 ⟨ag, A, [a, b, c, d], j, W, wk, ws, we, bk, lt⟩ a b c d z).trans (sz_true ⟨ag, A, [a, b, c, d], j, W, wk, ws, we, bk, lt⟩ z)
        | a :: b :: c :: d :: e :: r, h1 => simp at h1; omega
      · simp [T.sel] at h2
    · simp [T.sel] at h
theorem okSizes (hB : Laid B) : FnOk (E0 B) 6 (sSz B) := by
  refine fnOk_cases (fnAt_mk (fn := Tryz.f6) Tryz.func6 (by kernel_rfl) (by kernel_rfl)) (si := sSzN) (okSzN hB) fun vs bs r h => ?_
  unfold sSz at h
  split at h
  · rename_i ag j wk ws we bk lt z A S W
    by_cases hS : 1 ≤ S.length ∧ S.length ≤ 4
    · refine ⟨S.length, ?_⟩
      rw [← h]
      show (bif (bif Nat.beq S.length 0 then _ else _) then _ else _) = _
      have e0 : Nat.beq S.length 0 = false := by
        cases hb : Nat.beq S.length 0 with
        | false => rfl
        | true => have := Nat.eq_of_beq_eq_true hb; omega
      rw [e0, cond_false, Nat.beq_refl, Nat.ble_eq_true_of_le hS.2]; rfl
    · refine ⟨0, ?_⟩
      rw [← h]
      show (bif (bif Nat.beq 0 0 then !decide (1 ≤ S.length ∧ S.length ≤ 4) else _) then _ else _) = _
      rw [decide_eq_false hS]; rfl
  · simp [T.sel] at h
end Go.Proofs.YtfniiapkghpihaaGreatDoor.Pl
