/-
  Texts put together: SameFn, PlanOne.
-/
import Derived.Test.YtfniiapkghpihaaGreatDoorPlnB
/-
  Clauses: Same by contract; queries compared with all places.
-/
namespace Go.Proofs.YtfniiapkghpihaaGreatDoor.Sm
open Go.Am Go Go.Proofs.YtfniiapkghpihaaGreatDoor
set_option maxRecDepth 100000
variable {B : Nat → Option Obj}
noncomputable def bEf : Code := loopAt 4 (loopsOf (bodyC Tryz.f49))
def sgEf : LSig := { cs := [(1, 23), (2, 0), (15, 23), (16, 0)], mv := [(17, 0)], mo := [(6, 0)], take := [] }
def efV (n i : Int) : List AV := [.slw 0, .fn 50 [] [], .slw 1, i64 n, i64 i]
def eqNb (x y : Nod) : Bool := decide (x.kind = y.kind) && (decide (x.n = y.n) && (decide (x.a = y.a) && (decide (x.b = y.b) && (decide (y.pos = y.pos) && true))))
theorem turnEf (X Y : List Nod) (n i : Int) : (turn (E0 B) (Cx B lib5) noL 32 sgEf bEf (efV n i) [ndb Y, ndb X]).sel =
    bif decide (i < n) then inb' i X.length (inb' i Y.length (bif !eqNb (X.getD i.toNat default) (Y.getD i.toNat default) then some (.ret, ⟨[.bool false], []⟩) else some (.normal, ⟨efV n (w64 (i + 1)), [ndb Y, ndb X]⟩))) else some (.exit 0, ⟨[.any], []⟩) := by kernel_rfl
theorem eqNb_is (x y : Nod) : eqNb x y = eqN x y := by
  unfold eqNb eqN
  rw [decide_eq_true (rfl : y.pos = y.pos), Bool.and_true, Bool.and_true]
  by_cases h1 : x.kind = y.kind <;> by_cases h2 : x.n = y.n <;> by_cases h3 : x.a = y.a <;> by_cases h4 : x.b = y.b <;> simp [h1, h2, h3, h4]
def spEf : LSpec
  | [.slw 0, .fn f [] [], .slw 1, .int .i64 n, .int .i64 i], [⟨false, .nodes Y⟩, ⟨false, .nodes X⟩] => .node (Nat.beq f 50 && decide (n = (X.length : Int) ∧ i = 0 ∧ X.length = Y.length ∧ X.length ≤ 100))
      (.node (all2 eqN X Y) (.leaf (.exit 0, ⟨[.any], []⟩)) (.leaf (.ret, ⟨[.bool false], []⟩))) .bad
  | _, _ => .bad
theorem loopEf : LoopOk (E0 B) 32 sgEf bEf spEf := by
  refine loop_turns (C := Cx B lib5) (L := noL) (cxOk lib5_ok) (noL_ok _) fun vs bs e o h => ?_
  unfold spEf at h
  split at h
  · rename_i f n i Y X
    rcases T.node_sel h with ⟨hc, h2⟩ | ⟨_, h2⟩
    · rw [Bool.and_eq_true] at hc
      have hf := Nat.eq_of_beq_eq_true hc.1
      subst hf
      obtain ⟨rfl, rfl, hl, hL⟩ := of_decide_eq_true hc.2
      obtain ⟨m, hm⟩ := scan_turns (E := E0 B) (C := Cx B lib5) (L := noL) (n := 32) (sg := sgEf) (body := bEf) (st := fun i => efV X.length i) (bs := [ndb Y, ndb X]) (len := X.length) (bad := fun j => !eqN (X.getD j default) (Y.getD j default)) (ob := fun _ => ⟨[.bool false], []⟩) (k := 0) (oe := ⟨[.any], []⟩)
        (fun i hi => by
          refine (turnEf X Y X.length i).trans ?_
          by_cases hlt : i < X.length
          · rw [decide_eq_true (show (i : Int) < (X.length : Int) by omega), decide_eq_true hlt, cond_true, cond_true, inb'_is hlt, inb'_is (by omega), Int.toNat_natCast, eqNb_is, w64_rng (show Rng ((i : Int) + 1) by unfold Rng; omega)]
            rfl
          · rw [decide_eq_false (show ¬ (i : Int) < (X.length : Int) by omega), decide_eq_false hlt]; rfl) X.length 0 (by omega)
      refine ⟨m, hm.trans ?_⟩
      rw [first2 hl, ← h2]
      simp only [T.sel]
      cases all2 eqN X Y <;> rfl
    · simp [T.sel] at h2
  · simp [T.sel] at h
noncomputable def eEf : LEnt := { id := 4, n := 32, sg := sgEf, wr := writes bEf, s := spEf }
theorem tEf (X Y : List Nod) : runL B lib5 [eEf] Tryz.f49 [.slw 0, .slw 1, .fn 50 [] []] [ndb X, ndb Y] =
    bif !decide ((X.length : Int) = (Y.length : Int)) then rb false else bif decide ((X.length : Int) = (X.length : Int) ∧ (0 : Int) = 0 ∧ X.length = Y.length ∧ X.length ≤ 100) then (bif all2 eqN X Y then rb true else rb false) else none := by kernel_rfl
def sEf : FSpec
  | [.slw 0, .slw 1, .fn f [] []], [⟨false, .nodes X⟩, ⟨false, .nodes Y⟩] => .node (Nat.beq f 50 && decide (X.length ≤ 100)) (.leaf ⟨[.bool (all2 eqN X Y)], []⟩) .bad
  | _, _ => .bad
theorem okEf : FnOk (E0 B) 49 sEf := by
  refine fnL lib5_ok (ls := [eEf]) Tryz.func49 (by kernel_rfl) (by kernel_rfl) (fun x hx => ?_) fun vs bs r h => ?_
  · simp only [List.mem_singleton] at hx; subst hx
    exact ⟨bEf, by kernel_rfl, rfl, loopEf⟩
  · unfold sEf at h
    split at h
    · rename_i f X Y
      rcases T.node_sel h with ⟨hc, h2⟩ | ⟨_, h2⟩
      · rw [Bool.and_eq_true] at hc
        have hf := Nat.eq_of_beq_eq_true hc.1
        subst hf
        have hl := of_decide_eq_true hc.2
        simp only [T.sel, Option.some.injEq] at h2; subst h2
        refine (tEf X Y).trans ?_
        by_cases he : X.length = Y.length
        · rw [decide_eq_true (show (X.length : Int) = (Y.length : Int) by omega), decide_eq_true (show (X.length : Int) = (X.length : Int) ∧ (0 : Int) = 0 ∧ X.length = Y.length ∧ X.length ≤ 100 from ⟨rfl, rfl, he, hl⟩)]
          cases all2 eqN X Y <;> rfl
        · rw [decide_eq_false (show ¬ (X.length : Int) = (Y.length : Int) by omega)]
          cases hq : all2 eqN X Y with
          | true => exact (he (all2_len hq)).elim
          | false => rfl
      · simp [T.sel] at h2
    · simp [T.sel] at h
noncomputable def bEq : Code := loopAt 4 (loopsOf (bodyC Tryz.f52))
def sgEq : LSig := { cs := [(0, 23), (1, 23)], mv := [(5, 0)], mo := [(4, 0)], take := [] }
theorem turnEq (L M : List Nod) (i : Int) : (turn (E0 B) (Cx B lib5) noL 26 sgEq bEq [.slw 0, .slw 1, i64 i] [⟨false, .nodes L⟩, ⟨false, .nodes M⟩]).sel =
    bif decide (i < (L.length : Int)) then inb' i L.length (inb' i M.length (bif !eqNod (L.getD i.toNat default) (M.getD i.toNat default) then some (.ret, ⟨[.bool false], []⟩) else some (.normal, ⟨[.slw 0, .slw 1, i64 (w64 (i + 1))], [⟨false, .nodes L⟩, ⟨false, .nodes M⟩]⟩))) else some (.exit 0, ⟨[.any], []⟩) := by kernel_rfl
def spEq : LSpec
  | [.slw 0, .slw 1, .int .i64 i], [⟨false, .nodes L⟩, ⟨false, .nodes M⟩] => .node (decide (i = 0 ∧ L.length = M.length ∧ L.length ≤ 1000)) (.node (all2 eqNod L M) (.leaf (.exit 0, ⟨[.any], []⟩)) (.leaf (.ret, ⟨[.bool false], []⟩))) .bad
  | _, _ => .bad
theorem loopEq : LoopOk (E0 B) 26 sgEq bEq spEq := by
  refine loop_turns (C := Cx B lib5) (L := noL) (cxOk lib5_ok) (noL_ok _) fun vs bs e o h => ?_
  unfold spEq at h
  split at h
  · rename_i i L M
    rcases T.node_sel h with ⟨hc, h2⟩ | ⟨_, h2⟩
    · obtain ⟨rfl, hlm, hl⟩ := of_decide_eq_true hc
      obtain ⟨m, hm⟩ := scan_turns (E := E0 B) (C := Cx B lib5) (L := noL) (n := 26) (sg := sgEq) (body := bEq) (st := fun i => [.slw 0, .slw 1, i64 i]) (bs := [⟨false, .nodes L⟩, ⟨false, .nodes M⟩]) (len := L.length)
        (bad := fun j => !eqNod (L.getD j default) (M.getD j default)) (ob := fun _ => ⟨[.bool false], []⟩) (k := 0) (oe := ⟨[.any], []⟩) (fun i hi => by
          rw [turnEq]
          by_cases h : i < L.length
          · rw [decide_eq_true h, decide_eq_true (show (i : Int) < (L.length : Int) by omega), cond_true, inb'_is h, inb'_is (show i < M.length by omega), w64_rng (show Rng ((i : Int) + 1) by unfold Rng; omega)]; rfl
          · rw [decide_eq_false h, decide_eq_false (show ¬ (i : Int) < (L.length : Int) by omega)]; rfl) L.length 0 (by omega)
      refine ⟨m, hm.trans ?_⟩
      rw [first2 hlm, ← h2]
      simp only [T.sel]
      cases all2 eqNod L M <;> rfl
    · simp [T.sel] at h2
  · simp [T.sel] at h
noncomputable def eEq : LEnt := { id := 4, n := 26, sg := sgEq, wr := writes bEq, s := spEq }
theorem tEq (L M : List Nod) : runL B lib5 [eEq] Tryz.f52 [.slw 0, .slw 1] [⟨false, .nodes L⟩, ⟨false, .nodes M⟩] =
    bif !decide ((L.length : Int) = (M.length : Int)) then rb false else bif decide ((0 : Int) = 0 ∧ L.length = M.length ∧ L.length ≤ 1000) then (bif all2 eqNod L M then rb true else rb false) else none := by kernel_rfl
def sExa : FSpec
  | [.slw 0, .slw 1], [⟨false, .nodes L⟩, ⟨false, .nodes M⟩] => .node (decide (L.length ≤ 1000)) (.leaf ⟨[.bool (all2 eqNod L M)], []⟩) .bad
  | _, _ => .bad
theorem okExa : FnOk (E0 B) 52 sExa := by
  refine fnL lib5_ok (ls := [eEq]) Tryz.func52 (by kernel_rfl) (by kernel_rfl) (fun x hx => ?_) fun vs bs r h => ?_
  · simp only [List.mem_singleton] at hx; subst hx
    exact ⟨bEq, by kernel_rfl, rfl, loopEq⟩
  unfold sExa at h
  split at h
  · rename_i L M
    rcases T.node_sel h with ⟨hc, h2⟩ | ⟨_, h2⟩
    · simp only [T.sel, Option.some.injEq] at h2; subst h2
      refine (tEq L M).trans ?_
      by_cases hl : L.length = M.length
      · rw [decide_eq_true (show (L.length : Int) = (M.length : Int) by omega), decide_eq_true (show (0 : Int) = 0 ∧ L.length = M.length ∧ L.length ≤ 1000 from ⟨rfl, hl, of_decide_eq_true hc⟩)]
        cases all2 eqNod L M <;> rfl
      · rw [decide_eq_false (show ¬ (L.length : Int) = (M.length : Int) by omega)]
        cases ha : all2 eqNod L M with
        | false => rfl
        | true => exact (hl (all2_len ha)).elim
    · simp [T.sel] at h2
  · simp [T.sel] at h
/-! Asked -/
def sgSi : LSig := { cs := [(0, 24), (1, 24), (12, 0)], mv := [(13, 0)], mo := [(4, 0)], take := [] }
noncomputable def bSi : Code := loopAt 4 (loopsOf (bodyC Tryz.f51))
theorem turnSi (L M : List Int) (n i : Int) : (turn (E0 B) (Cx B lib5) noL 26 sgSi bSi [.slw 0, .slw 1, i64 n, i64 i] [⟨false, .ints .i64 L⟩, ⟨false, .ints .i64 M⟩]).sel =
    bif decide (i < n) then Ck.inb i L.length (Ck.inb i M.length (bif !Ck.eqInt (L.getD i.toNat 0) (M.getD i.toNat 0) then some (.ret, ⟨[.bool false], []⟩) else some (.normal, ⟨[.slw 0, .slw 1, i64 n, i64 (w64 (i + 1))], [⟨false, .ints .i64 L⟩, ⟨false, .ints .i64 M⟩]⟩))) else some (.exit 0, ⟨[.any], []⟩) := by kernel_rfl
def spSi : LSpec
  | [.slw 0, .slw 1, .int .i64 n, .int .i64 i], [⟨false, .ints .i64 L⟩, ⟨false, .ints .i64 M⟩] => .node (decide (i = 0 ∧ n = (L.length : Int) ∧ L.length = M.length ∧ L.length ≤ 1000)) (.node (all2 Ck.eqInt L M) (.leaf (.exit 0, ⟨[.any], []⟩)) (.leaf (.ret, ⟨[.bool false], []⟩))) .bad
  | _, _ => .bad
theorem loopSi : LoopOk (E0 B) 26 sgSi bSi spSi := by
  refine loop_turns (C := Cx B lib5) (L := noL) (cxOk lib5_ok) (noL_ok _) fun vs bs e o h => ?_
  unfold spSi at h
  split at h
  · rename_i n i L M
    rcases T.node_sel h with ⟨hc, h2⟩ | ⟨_, h2⟩
    · obtain ⟨rfl, rfl, hlm, hl⟩ := of_decide_eq_true hc
      obtain ⟨m, hm⟩ := scan_turns (E := E0 B) (C := Cx B lib5) (L := noL) (n := 26) (sg := sgSi) (body := bSi) (st := fun i => [.slw 0, .slw 1, i64 L.length, i64 i]) (bs := [⟨false, .ints .i64 L⟩, ⟨false, .ints .i64 M⟩]) (len := L.length)
        (bad := fun j => !Ck.eqInt (L.getD j default) (M.getD j default)) (ob := fun _ => ⟨[.bool false], []⟩) (k := 0) (oe := ⟨[.any], []⟩) (fun i hi => by
          rw [turnSi]
          by_cases h : i < L.length
          · rw [decide_eq_true h, decide_eq_true (show (i : Int) < (L.length : Int) by omega), cond_true, Ck.inb_is h, Ck.inb_is (show i < M.length by omega), w64_rng (show Rng ((i : Int) + 1) by unfold Rng; omega)]; rfl
          · rw [decide_eq_false h, decide_eq_false (show ¬ (i : Int) < (L.length : Int) by omega)]; rfl) L.length 0 (by omega)
      refine ⟨m, hm.trans ?_⟩
      rw [first2 hlm, ← h2]
      simp only [T.sel]
      cases all2 Ck.eqInt L M <;> rfl
    · simp [T.sel] at h2
  · simp [T.sel] at h
noncomputable def eSi : LEnt := { id := 4, n := 26, sg := sgSi, wr := writes bSi, s := spSi }
theorem tSi (L M : List Int) : runL B lib5 [eSi] Tryz.f51 [.slw 0, .slw 1] [⟨false, .ints .i64 L⟩, ⟨false, .ints .i64 M⟩] =
    bif !decide ((L.length : Int) = (M.length : Int)) then rb false else bif decide ((0 : Int) = 0 ∧ (L.length : Int) = (L.length : Int) ∧ L.length = M.length ∧ L.length ≤ 1000) then (bif all2 Ck.eqInt L M then rb true else rb false) else none := by kernel_rfl
def sSi : FSpec
  | [.slw 0, .slw 1], [⟨false, .ints .i64 L⟩, ⟨false, .ints .i64 M⟩] => .node (decide (L.length ≤ 1000)) (.leaf ⟨[.bool (all2 Ck.eqInt L M)], []⟩) .bad
  | _, _ => .bad
theorem okSi : FnOk (E0 B) 51 sSi := by
  refine fnL lib5_ok (ls := [eSi]) Tryz.func51 (by kernel_rfl) (by kernel_rfl) (fun x hx => ?_) fun vs bs r h => ?_
  · simp only [List.mem_singleton] at hx; subst hx
    exact ⟨bSi, by kernel_rfl, rfl, loopSi⟩
  unfold sSi at h
  split at h
  · rename_i L M
    rcases T.node_sel h with ⟨hc, h2⟩ | ⟨_, h2⟩
    · simp only [T.sel, Option.some.injEq] at h2; subst h2
      refine (tSi L M).trans ?_
      by_cases hl : L.length = M.length
      · rw [decide_eq_true (show (L.length : Int) = (M.length : Int) by omega), decide_eq_true (show (0 : Int) = 0 ∧ (L.length : Int) = (L.length : Int) ∧ L.length = M.length ∧ L.length ≤ 1000 from ⟨rfl, rfl, hl, of_decide_eq_true hc⟩)]
        cases all2 Ck.eqInt L M <;> rfl
      · rw [decide_eq_false (show ¬ (L.length : Int) = (M.length : Int) by omega)]
        cases ha : all2 Ck.eqInt L M with
        | false => rfl
        | true => exact (hl (all2_len ha)).elim
    · simp [T.sel] at h2
  · simp [T.sel] at h
/-! clauses.Same -/
noncomputable def lib1 : Tb := (49, [], sEf) :: (51, [], sSi) :: (52, [], sExa) :: Ck.lib15
theorem lib1_ok : TbOk B lib1 := ((Ck.lib15_ok.add okExa).add okSi).add okEf
end Go.Proofs.YtfniiapkghpihaaGreatDoor.Sm
/-
  PlanOne: what the law answers.
-/
namespace Go.Proofs.YtfniiapkghpihaaGreatDoor.Sm
open Go.Am Go Go.Proofs.YtfniiapkghpihaaGreatDoor
set_option maxRecDepth 100000
variable {B : Nat → Option Obj}
def bR (b : Bool) (e : Int) : Option Out := some ⟨[.bool b, i64 e], []⟩
def fbS (b : Bool) (z : Option Out) : Option Out := bif b then z else bR false 0
def inS (b : Bool) (z : Option Out) : Option Out := bif b then z else none
def winE (p q : Qry) : Bool := decide (p.wk = q.wk) && (decide (p.ws = q.ws) && (decide (p.we = q.we) && true))
def saO (p q : Qry) : Option Out := bif !decide (clkE p = 0) then bR false (clkE p) else bif !decide (clkE q = 0) then bR false (clkE q) else
  fbS (decide (p.agg = q.agg)) (fbS (p.join == q.join) (fbS (winE p q) (fbS (p.byKey == q.byKey) (fbS (decide (p.late = q.late)) (inS (decide (p.src.length ≤ 1000)) (fbS (all2 Ck.eqInt p.src q.src) (inS (decide (p.arg.length ≤ 100)) (fbS (all2 eqN p.arg q.arg) (inS (decide (p.whr.length ≤ 100)) (bR (all2 eqN p.whr q.whr) 0))))))))))
theorem tSameC (p q : Qry) : runT B lib1 Tryz.f23 [p.av 0 1 2, q.av 3 4 5] (Ck.qbs p ++ Ck.qbs q) = saO p q := by kernel_rfl
theorem len_of {q : Qry} (h : clkE q = 0) : q.arg.length ≤ 60 ∧ q.whr.length ≤ 60 ∧ q.src.length ≤ 4 := by
  obtain ⟨c1, c2, c3, c4, c5, c6⟩ := clk_inv h
  obtain ⟨s1, s2, _⟩ := srcE_inv c5
  refine ⟨?_, ?_, s1⟩
  · by_cases h1 : q.agg = 1
    · rw [c2 h1]; simp
    · exact (chk_len (c3 h1)).2
  · by_cases h1 : 0 < q.whr.length
    · exact (chk_len (c4 h1)).2
    · omega
theorem sa_is {p q : Qry} (hp : clkE p = 0) (hq : clkE q = 0) : saO p q = bR (alkB p q) 0 := by
  obtain ⟨l1, l2, l3⟩ := len_of hp
  unfold saO fbS inS winE alkB
  rw [decide_eq_true hp, decide_eq_true hq, decide_eq_true (show p.src.length ≤ 1000 by omega), decide_eq_true (show p.arg.length ≤ 100 by omega), decide_eq_true (show p.whr.length ≤ 100 by omega), Pl.all2_eq]
  cases decide (p.agg = q.agg) <;> cases p.join == q.join <;> cases decide (p.wk = q.wk) <;> cases decide (p.ws = q.ws) <;> cases decide (p.we = q.we) <;> cases p.byKey == q.byKey <;> cases decide (p.late = q.late) <;> cases decide (p.src = q.src) <;> cases all2 eqN p.arg q.arg <;> cases all2 eqN p.whr q.whr <;> rfl
def okC (q : Qry) : Bool := decide (clkE q = 0)
def sSameC : FSpec
  | [.agg [.int .u8 ag, .slw 0, .slw 1, .bool j, .slw 2, .int .u8 wk, .int .i64 ws, .int .i64 we, .bool bk, .int .u8 lt], .agg [.int .u8 ag', .slw 3, .slw 4, .bool j', .slw 5, .int .u8 wk', .int .i64 ws', .int .i64 we', .bool bk', .int .u8 lt']], [⟨false, .nodes A⟩, ⟨false, .ints .i64 S⟩, ⟨false, .nodes W⟩, ⟨false, .nodes A'⟩, ⟨false, .ints .i64 S'⟩, ⟨false, .nodes W'⟩] =>
    .node (okC ⟨ag, A, S, j, W, wk, ws, we, bk, lt⟩ && okC ⟨ag', A', S', j', W', wk', ws', we', bk', lt'⟩) (.leaf ⟨[.bool (alkB ⟨ag, A, S, j, W, wk, ws, we, bk, lt⟩ ⟨ag', A', S', j', W', wk', ws', we', bk', lt'⟩), .int .i64 0], []⟩) .bad
  | _, _ => .bad
theorem okSameC : FnOk (E0 B) 23 sSameC := by
  refine fnT lib1_ok Tryz.func23 (by kernel_rfl) (by kernel_rfl) fun vs bs r h => ?_
  unfold sSameC at h
  split at h
  · rename_i ag j wk ws we bk lt ag' j' wk' ws' we' bk' lt' A S W A' S' W'
    rcases T.node_sel h with ⟨hc, h2⟩ | ⟨_, h2⟩
    · simp only [T.sel, Option.some.injEq] at h2; subst h2
      rw [Bool.and_eq_true] at hc
      exact (tSameC ⟨ag, A, S, j, W, wk, ws, we, bk, lt⟩ ⟨ag', A', S', j', W', wk', ws', we', bk', lt'⟩).trans (sa_is (of_decide_eq_true hc.1) (of_decide_eq_true hc.2))
    · simp [T.sel] at h2
  · simp [T.sel] at h
/-! a plan's text, where it is right -/
def txG (st : List Int) (q : Qry) : Bool := Pl.okQ q && (decide (st = stpQ q) && (rngX q.arg && rngX q.whr))
def sTextG' : FSpec
  | [.agg [.slw 0, .int .u8 ag, .slw 1, .slw 2, .bool j, .slw 3, .int .u8 wk, .int .i64 ws, .int .i64 we, .bool bk, .int .u8 lt]], [⟨false, .bytes t st⟩, ⟨false, .nodes A⟩, ⟨false, .ints .i64 S⟩, ⟨false, .nodes W⟩] => .node (Nat.beq t 5 && txG st ⟨ag, A, S, j, W, wk, ws, we, bk, lt⟩) (.leaf ⟨[.str (Pl.plB ⟨ag, A, S, j, W, wk, ws, we, bk, lt⟩ st), .int .i64 0], []⟩) .bad
  | _, _ => .bad
theorem stp_len (q : Qry) : (stpQ q).length ≤ 10 := by
  unfold stpQ stp
  cases decide (0 < q.whr.length) <;> cases q.byKey <;> cases decide (q.late = 2) <;> simp
theorem okTextG' (hB : Laid B) : FnOk (E0 B) 16 sTextG' := fnOk_weak (Pl.okTextP hB) fun vs bs r h => by
  unfold sTextG' at h
  split at h
  · rename_i ag j wk ws we bk lt t st A S W
    rcases T.node_sel h with ⟨hc, h2⟩ | ⟨_, h2⟩
    · unfold txG at hc
      simp only [Bool.and_eq_true] at hc
      obtain ⟨h1, h3, h4, h5, h6⟩ := hc
      have h4 := of_decide_eq_true h4
      have hl := stp_len ⟨ag, A, S, j, W, wk, ws, we, bk, lt⟩
      have he : Pl.plE st ⟨ag, A, S, j, W, wk, ws, we, bk, lt⟩ = 0 := by
        unfold Pl.plE
        rw [show decide ((ckE ⟨ag, A, S, j, W, wk, ws, we, bk, lt⟩).2 = 0) = true from h3, decide_eq_true h4]; rfl
      rw [← h2]
      show (bif (Nat.beq t 5 && (decide (st.length ≤ 1000) && (rngX A && rngX W))) then (T.leaf (⟨[.str (Pl.ptT st ⟨ag, A, S, j, W, wk, ws, we, bk, lt⟩), .int .i64 (Pl.plE st ⟨ag, A, S, j, W, wk, ws, we, bk, lt⟩)], []⟩ : Out)).sel else _) = _
      have h5 : rngX A = true := h5
      have h6 : rngX W = true := h6
      unfold Pl.ptT
      rw [h1, decide_eq_true (show st.length ≤ 1000 by rw [h4]; omega), h5, h6, he]; rfl
    · simp [T.sel] at h2
  · simp [T.sel] at h
noncomputable def lib2 : Tb := (23, [], sSameC) :: (52, [], sExa) :: (16, [], sTextG') :: Pl.lib8
theorem lib2_ok (hB : Laid B) : TbOk B lib2 := (((Pl.lib8_ok hB).add (okTextG' hB)).add okExa).add okSameC
/-! the run -/
def gr6 (p q : Qry) (z : Option Out) : Option Out := bif decide ((70 : Int) < (p.arg.length : Int)) then rb true else bif decide ((70 : Int) < (p.whr.length : Int)) then rb true else bif decide ((10 : Int) < (p.src.length : Int)) then rb true else
  bif decide ((70 : Int) < (q.arg.length : Int)) then rb true else bif decide ((70 : Int) < (q.whr.length : Int)) then rb true else bif decide ((10 : Int) < (q.src.length : Int)) then rb true else bif !Pl.okQ p then rb true else bif !Pl.okQ q then rb true else z
def chn (p : Qry) (z : Option Out) : Option Out := fbQ (decide (p.agg = p.agg)) (inS (decide (p.arg.length ≤ 1000)) (fbQ (all2 eqNod p.arg p.arg) (inS (decide (p.src.length ≤ 1000)) (fbQ (all2 Ck.eqInt p.src p.src) (fbQ (p.join == p.join) (inS (decide (p.whr.length ≤ 1000)) (fbQ (all2 eqNod p.whr p.whr) (fbQ (winE p p) (fbQ (p.byKey == p.byKey) (fbQ (decide (p.late = p.late)) z))))))))))
def onO (p q : Qry) : Option Out := gr6 p q (inS (Pl.okQ p) (inS (Pl.okQ q) (inS (txG (stpQ p) p) (inS (txG (stpQ q) q) (inS (okC p && okC q) (chn p (chn q (rb (decide (Pl.plB p (stpQ p) = Pl.plB q (stpQ q)) == alkB p q)))))))))
theorem tOne (p q : Qry) : runT B lib2 Tryz.f7 [p.av 0 1 2, q.av 3 4 5] (Ck.qbs p ++ Ck.qbs q) = onO p q := by kernel_rfl
theorem all2_self {α : Type} {f : α → α → Bool} (h : ∀ x, f x x = true) : ∀ l : List α, all2 f l l = true
  | [] => rfl
  | x :: r => by
    show (f x x && all2 f r r) = true
    rw [h x, all2_self h r]; rfl
theorem chn_is {p : Qry} (h1 : p.arg.length ≤ 1000) (h2 : p.src.length ≤ 1000) (h3 : p.whr.length ≤ 1000) (z : Option Out) : chn p z = z := by
  unfold chn fbQ inS winE
  rw [decide_eq_true h1, decide_eq_true h2, decide_eq_true h3, all2_self (f := eqNod) (fun x => by simp [eqNod]), all2_self (f := eqNod) (fun x => by simp [eqNod]), all2_self (f := Ck.eqInt) (fun x => by simp [Ck.eqInt])]
  simp
/-- a valid query and its trees -/
theorem qx_of {q : Qry} (hc : clkE q = 0) (hA : rngX q.arg = true) (hW : rngX q.whr = true) : ∃ ea ew, QX q ea ew ∧ (q.agg ≠ 1 → prS q.arg = ea.txt false) ∧ (0 < q.whr.length → prS q.whr = ew.txt false) := by
  have hq := qok_of hc hA hW
  obtain ⟨c1, c2, c3, c4, c5, c6⟩ := clk_inv hc
  have tr : ∀ {X : List Nod}, chkN X = 0 → rngX X = true → ∃ e, X = e.flat 0 ∧ TrOk e ∧ prS X = e.txt false := fun {X} h hr => by
    obtain ⟨e, he, rfl, hs, hd⟩ := chkN_tree h
    exact ⟨e, rfl, ⟨he, by rw [← rng_flat e 0]; exact hr, hs, hd⟩, prS_is he h⟩
  have hf : fitsW q.wk q.ws q.we = true := by
    cases hf : fitsW q.wk q.ws q.we with
    | false => rw [hf] at c6; cases c6
    | true => rfl
  have hw := hf
  unfold fitsW at hw
  simp only [Bool.and_eq_true, decide_eq_true_eq] at hw
  obtain ⟨w1, w2, w3⟩ := hw
  have hj : q.join = true → q.src.length = 2 := fun h => by
    have h4 := hq.s4
    have h0 := hq.s0
    unfold srcE at c5
    rw [decide_eq_false (show ¬ 4 < q.src.length by omega), decide_eq_false (show ¬ q.src.length = 0 by omega), h] at c5
    cases h2 : decide (q.src.length = 2) with
    | true => exact of_decide_eq_true h2
    | false => rw [h2] at c5; cases c5
  have hk : (q.wk = 2 → 1 ≤ q.we ∧ q.we ≤ 1073741824) ∧ (q.wk ≠ 2 → q.we = 0) := by
    refine ⟨fun h => ?_, fun h => ?_⟩
    · rw [decide_eq_true h] at w3
      simp only [cond_true, Bool.and_eq_true, decide_eq_true_eq] at w3
      omega
    · rw [decide_eq_false h] at w3
      simp only [cond_false, Bool.and_eq_true, decide_eq_true_eq] at w3
      exact w3.2
  have hlt : q.late = 1 ∨ q.late = 2 := by
    by_cases l1 : q.late = 1
    · exact .inl l1
    · by_cases l2 : q.late = 2
      · exact .inr l2
      · rw [decide_eq_false l1, decide_eq_false l2] at c1
        simp at c1
  have hA' : ∃ ea, (q.agg ≠ 1 → q.arg = ea.flat 0 ∧ TrOk ea) ∧ (q.agg ≠ 1 → prS q.arg = ea.txt false) := by
    by_cases h : q.agg = 1
    · exact ⟨default, fun h' => (h' h).elim, fun h' => (h' h).elim⟩
    · obtain ⟨e, e1, e2, e3⟩ := tr (c3 h) hA
      exact ⟨e, fun _ => ⟨e1, e2⟩, fun _ => e3⟩
  have hW' : ∃ ew, (0 < q.whr.length → q.whr = ew.flat 0 ∧ TrOk ew) ∧ (0 < q.whr.length → prS q.whr = ew.txt false) := by
    by_cases h : 0 < q.whr.length
    · obtain ⟨e, e1, e2, e3⟩ := tr (c4 h) hW
      exact ⟨e, fun _ => ⟨e1, e2⟩, fun _ => e3⟩
    · exact ⟨default, fun h' => (h h').elim, fun h' => (h h').elim⟩
  obtain ⟨ea, a1, a2⟩ := hA'
  obtain ⟨ew, b1, b2⟩ := hW'
  exact ⟨ea, ew, ⟨⟨hq.a1, hq.a4⟩, c2, a1, b1, hq.s0, hq.s4, hq.sR, hj, ⟨hq.k1, hq.k3⟩, ⟨w1, w2⟩, hk.1, hk.2, hlt⟩, a2, b2⟩
theorem nm_is : ∀ k : Fin 4, nmS k.val = wNm k.val := by decide +kernel
theorem scN_is : ∀ {r : List Int}, r.all inR = true → Pl.scN r = scL r
  | [], _ => rfl
  | x :: r, h => by
    rw [List.all_cons, Bool.and_eq_true] at h
    have hx := inR_of h.1
    have := nm_is ⟨x.toNat, by omega⟩
    simp only [show ((x.toNat : Nat) : Int) = x by omega] at this
    rw [Pl.scN, scL, this, scN_is h.2]
theorem plB_is {q : Qry} (hR : q.src.all inR = true) : Pl.plB q (stpQ q) = unl (plL q (prS q.arg) (prS q.whr)) := by
  have hs := scN_is hR
  have e1 : Pl.lnS q 1 = wScan ++ scL q.src := by rw [← hs]; rfl
  have e2 : Pl.lnS q 2 = ltL q.late := rfl
  have e3 : Pl.lnS q 3 = whL (prS q.whr) := rfl
  have e4 : Pl.lnS q 4 = pjL q.agg (prS q.arg) := rfl
  have e5 : Pl.lnS q 5 = wKey := rfl
  have e6 : Pl.lnS q 6 = winL q.wk q.ws q.we := rfl
  have e7 : Pl.lnS q 7 = wAg q.agg := rfl
  have e8 : Pl.lnS q 8 = wJoin ++ 32 :: wAg q.agg := rfl
  have e9 : Pl.lnS q 9 = wEmit := rfl
  have e10 : Pl.lnS q 10 = wSide := rfl
  unfold stpQ stp plL agL'
  cases decide (0 < q.whr.length) <;> cases q.byKey <;> cases q.join <;> cases decide (q.late = 2) <;>
    simp only [cond_true, cond_false, List.cons_append, List.nil_append, Pl.plB, unl, e1, e2, e3, e4, e5, e6, e7, e8, e9, e10]
theorem one_is {p q : Qry} (hp : clkE p = 0) (hq : clkE q = 0) (pA : rngX p.arg = true) (pW : rngX p.whr = true) (qA : rngX q.arg = true) (qW : rngX q.whr = true) : decide (Pl.plB p (stpQ p) = Pl.plB q (stpQ q)) = alkB p q := by
  obtain ⟨ea, ew, h1, h2, h3⟩ := qx_of hp pA pW
  obtain ⟨fa, fw, g1, g2, g3⟩ := qx_of hq qA qW
  rw [plB_is h1.sR, plB_is g1.sR]
  have key : (unl (plL p (prS p.arg) (prS p.whr)) = unl (plL q (prS q.arg) (prS q.whr))) ↔ alkB p q = true := by
    rw [alkB_is h1 g1]
    exact ⟨fun h => plan_inj h1 g1 h2 h3 g2 g3 h, fun h => by rw [plan_alike h h2 h3 g2 g3]⟩
  cases h : alkB p q with
  | true => exact decide_eq_true (key.2 h)
  | false => exact decide_eq_false (fun g => by rw [key.1 g] at h; cases h)
theorem on_true {p q : Qry} (pA : rngX p.arg = true) (pW : rngX p.whr = true) (qA : rngX q.arg = true) (qW : rngX q.whr = true) : onO p q = rb true := by
  unfold onO gr6
  by_cases h1 : (70 : Int) < (p.arg.length : Int)
  · rw [decide_eq_true h1]; rfl
  by_cases h2 : (70 : Int) < (p.whr.length : Int)
  · rw [decide_eq_false h1, decide_eq_true h2]; rfl
  by_cases h3 : (10 : Int) < (p.src.length : Int)
  · rw [decide_eq_false h1, decide_eq_false h2, decide_eq_true h3]; rfl
  by_cases h4 : (70 : Int) < (q.arg.length : Int)
  · rw [decide_eq_false h1, decide_eq_false h2, decide_eq_false h3, decide_eq_true h4]; rfl
  by_cases h5 : (70 : Int) < (q.whr.length : Int)
  · rw [decide_eq_false h1, decide_eq_false h2, decide_eq_false h3, decide_eq_false h4, decide_eq_true h5]; rfl
  by_cases h6 : (10 : Int) < (q.src.length : Int)
  · rw [decide_eq_false h1, decide_eq_false h2, decide_eq_false h3, decide_eq_false h4, decide_eq_false h5, decide_eq_true h6]; rfl
  rw [decide_eq_false h1, decide_eq_false h2, decide_eq_false h3, decide_eq_false h4, decide_eq_false h5, decide_eq_false h6]
  cases hp : Pl.okQ p with
  | false => rfl
  | true =>
  cases hq : Pl.okQ q with
  | false => rfl
  | true =>
    have cp := Pl.ckE_clk (of_decide_eq_true hp)
    have cq := Pl.ckE_clk (of_decide_eq_true hq)
    rw [chn_is (by omega) (by omega) (by omega), chn_is (by omega) (by omega) (by omega), one_is cp cq pA pW qA qW]
    unfold txG okC
    rw [hp, hq, pA, pW, qA, qW, decide_eq_true (rfl : stpQ p = stpQ p), decide_eq_true (rfl : stpQ q = stpQ q), decide_eq_true cp, decide_eq_true cq, beq_self_eq_true]; rfl
def sOne (_ : Nat → Option Obj) : FSpec
  | [.agg [.int .u8 _, .slw 0, .slw 1, .bool _, .slw 2, .int .u8 _, .int .i64 _, .int .i64 _, .bool _, .int .u8 _], .agg [.int .u8 _, .slw 3, .slw 4, .bool _, .slw 5, .int .u8 _, .int .i64 _, .int .i64 _, .bool _, .int .u8 _]], [⟨false, .nodes A⟩, ⟨false, .ints .i64 _⟩, ⟨false, .nodes W⟩, ⟨false, .nodes A'⟩, ⟨false, .ints .i64 _⟩, ⟨false, .nodes W'⟩] =>
    .node ((rngX A && rngX W) && (rngX A' && rngX W')) (.leaf ⟨[.bool true], []⟩) .bad
  | _, _ => .bad
theorem sOne_sel {p q : Qry} (hp : qryWf p) (hq : qryWf q) : (sOne B [p.av 0 1 2, q.av 3 4 5] [⟨false, .nodes p.arg⟩, ⟨false, .ints .i64 p.src⟩, ⟨false, .nodes p.whr⟩, ⟨false, .nodes q.arg⟩, ⟨false, .ints .i64 q.src⟩, ⟨false, .nodes q.whr⟩]).sel = some ⟨[.bool true], []⟩ := by
  show (bif (rngX p.arg && rngX p.whr) && (rngX q.arg && rngX q.whr) then _ else _) = _
  rw [rng_of hp.1, rng_of hp.2.1, rng_of hq.1, rng_of hq.2.1]; rfl
theorem okOne (hB : Laid B) : FnOk (E0 B) 7 (sOne B) := by
  refine fnT (lib2_ok hB) Tryz.func7 (by kernel_rfl) (by kernel_rfl) fun vs bs r h => ?_
  unfold sOne at h
  split at h
  · rename_i ag j wk ws we bk lt ag' j' wk' ws' we' bk' lt' A S W A' S' W'
    rcases T.node_sel h with ⟨hc, h2⟩ | ⟨_, h2⟩
    · simp only [T.sel, Option.some.injEq] at h2; subst h2
      simp only [Bool.and_eq_true] at hc
      exact (tOne ⟨ag, A, S, j, W, wk, ws, we, bk, lt⟩ ⟨ag', A', S', j', W', wk', ws', we', bk', lt'⟩).trans (on_true hc.1.1 hc.1.2 hc.2.1 hc.2.2)
    · simp [T.sel] at h2
  · simp [T.sel] at h
end Go.Proofs.YtfniiapkghpihaaGreatDoor.Sm
