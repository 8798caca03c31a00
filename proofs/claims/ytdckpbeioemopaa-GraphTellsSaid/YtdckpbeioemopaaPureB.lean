/-
  Texts put together: QryPure, DistPure, KindPure, AmWrap, AmQry, QryPcs, QryRead.
-/
import Derived.Test.YtdckpbeioemopaaPureA
import Derived.Maps.Views
import Derived.Test.YtdckpbeioemopaaExA
import Derived.Test.YtdckpbeioemopaaLibB
import Derived.HandedShaped
import Derived.Handed
import Derived.Shelf.Vars
namespace Go.Am
structure Qry where
  agg : Int
  arg : List Nod
  src : List Int
  join : Bool
  whr : List Nod
  wk : Int
  ws : Int
  we : Int
  byKey : Bool
  late : Int
  deriving Inhabited
def Qry.av (q : Qry) (a b c : Nat) : AV := .agg [.int .u8 q.agg, .slw a, .slw b, .bool q.join, .slw c, .int .u8 q.wk, .int .i64 q.ws, .int .i64 q.we, .bool q.byKey, .int .u8 q.late]
def fitsW (k s e : Int) : Bool := decide (1 ≤ s) && (decide (s ≤ 1073741824) && (bif decide (k = 2) then decide (1 ≤ e) && (decide (e ≤ s) && decide (s ≤ 16 * e)) else (decide (k = 1) || decide (k = 3)) && decide (e = 0)))
def inR (n : Int) : Bool := decide (0 ≤ n) && decide (n ≤ 3)
def dups : List Int → Bool
  | [] => false
  | x :: r => r.contains x || dups r
def srcE (l : List Int) (join : Bool) : Int := bif decide (4 < l.length) then 4 else bif decide (l.length = 0) || (join && !decide (l.length = 2)) then 8 else bif !l.all inR then 8 else bif dups l then 43 else 0
def clkE (q : Qry) : Int :=
  bif decide (q.agg < 1) || decide (4 < q.agg) || (!decide (q.late = 1) && !decide (q.late = 2)) then 8
  else bif decide (q.agg = 1) && decide (0 < q.arg.length) then 8
  else bif !decide (q.agg = 1) && !decide (chkN q.arg = 0) then chkN q.arg
  else bif decide (0 < q.whr.length) && !decide (chkN q.whr = 0) then chkN q.whr
  else bif !decide (srcE q.src q.join = 0) then srcE q.src q.join
  else bif !fitsW q.wk q.ws q.we || (q.join && !decide (q.wk = 1)) then 8 else 0
def givesN (k : Int) : Bool := decide (k = 6) || decide (12 ≤ k)
def kindAt (l : List Nod) (i : Int) : Int := (l.getD i.toNat default).kind
def fitsN (l : List Nod) (x : Nod) : Bool :=
  bif decide (x.kind ≤ 4) then true else bif decide (x.kind = 5) then !givesN (kindAt l x.a) else bif decide (x.kind = 6) then givesN (kindAt l x.a)
  else bif decide (x.kind = 16) || decide (x.kind = 17) then (givesN (kindAt l x.a) == givesN (kindAt l x.b)) else bif decide (18 ≤ x.kind) then givesN (kindAt l x.a) && givesN (kindAt l x.b)
  else !givesN (kindAt l x.a) && !givesN (kindAt l x.b)
def wrongGo (l : List Nod) : List Nod → Int → Int
  | [], i => i
  | x :: r, i => bif fitsN l x then wrongGo l r (i + 1) else i
def wrongN (l : List Nod) : Int := wrongGo l l 0
def lastK (l : List Nod) : Int := kindAt l ((l.length : Int) - 1)
def kOf (l : List Nod) : Bool × Int × Int := bif !decide (chkN l = 0) then (false, 0, chkN l) else bif decide (wrongN l < (l.length : Int)) then (false, wrongN l, 42) else (givesN (lastK l), (l.length : Int) - 1, 0)
def kWant (l : List Nod) (t : Bool) : Int × Int := ((kOf l).2.1, bif decide ((kOf l).2.2 = 0) && !((kOf l).1 == t) then 42 else (kOf l).2.2)
def posAt (l : List Nod) (i : Int) : Int := (l.getD i.toNat default).pos
def ckW (q : Qry) : Int × Int := bif decide (0 < q.whr.length) && !decide ((kWant q.whr true).2 = 0) then (posAt q.whr (kWant q.whr true).1, (kWant q.whr true).2) else (0, 0)
def ckR (q : Qry) : Int × Int := bif decide (0 < q.arg.length) && !decide ((kWant q.arg false).2 = 0) then (posAt q.arg (kWant q.arg false).1, (kWant q.arg false).2) else ckW q
def ckE (q : Qry) : Int × Int := bif !decide (clkE q = 0) then (0, clkE q) else ckR q
end Go.Am
namespace Go.Am
open Go.Maps
def addI (acc : List Int) (x : Int) : List Int := if acc.contains x then acc else acc ++ [x]
def dcount (l : List Int) : Nat := (l.foldl addI []).length
theorem any_int (x : Int) : ∀ l : List Int, (l.map (Lit.int .i64)).any (fun y => y.sameKey (.int .i64 x)) = l.contains x
  | [] => rfl
  | a :: r => by
    rw [List.map_cons, List.any_cons, List.contains_cons, any_int x r]
    congr 1
    show decide (IntKind.i64 = IntKind.i64 ∧ a = x) = (x == a)
    by_cases e : a = x
    · subst e; simp
    · have e' : ¬ x = a := fun h => e h.symm
      simp [e, e']
theorem addKey_int (acc : List Int) (x : Int) : addKey (acc.map (Lit.int .i64)) (.int .i64 x) = (addI acc x).map (Lit.int .i64) := by
  unfold addKey addI
  rw [any_int]
  split <;> simp
theorem foldl_int : ∀ (l acc : List Int), (l.map (Lit.int .i64)).foldl addKey (acc.map (Lit.int .i64)) = (l.foldl addI acc).map (Lit.int .i64)
  | [], _ => rfl
  | x :: l, acc => by
    rw [List.map_cons, List.foldl_cons, List.foldl_cons, addKey_int, foldl_int l]
theorem dcount_is (l : List Int) : ((l.map (Lit.int .i64)).foldl addKey []).length = dcount l := by
  have := foldl_int l []
  rw [List.map_nil] at this
  rw [this, List.length_map]; rfl
theorem foldI_le : ∀ (l acc : List Int), (l.foldl addI acc).length ≤ acc.length + l.length
  | [], _ => Nat.le_refl _
  | x :: l, acc => by
    rw [List.foldl_cons]
    have := foldI_le l (addI acc x)
    have h2 : (addI acc x).length ≤ acc.length + 1 := by unfold addI; split <;> simp
    simp only [List.length_cons]
    omega
def clash (acc : List Int) : List Int → Bool
  | [] => false
  | x :: r => acc.contains x || clash (acc ++ [x]) r
theorem foldI_lt : ∀ (l acc : List Int), decide ((l.foldl addI acc).length < acc.length + l.length) = clash acc l
  | [], acc => by simp [clash]
  | x :: l, acc => by
    rw [List.foldl_cons]
    unfold clash
    cases hc : acc.contains x with
    | true =>
      have : addI acc x = acc := by unfold addI; rw [if_pos hc]
      rw [this]
      have := foldI_le l acc
      simp only [List.length_cons, Bool.true_or, decide_eq_true_eq]
      omega
    | false =>
      have : addI acc x = acc ++ [x] := by unfold addI; rw [if_neg (by rw [hc]; simp)]
      rw [this, Bool.false_or, ← foldI_lt l (acc ++ [x])]
      simp only [List.length_cons, List.length_append, List.length_nil]
      congr 1
      exact propext ⟨fun h => by omega, fun h => by omega⟩
theorem clash_perm : ∀ (l acc : List Int), clash acc l = ((l.any fun x => acc.contains x) || dups l)
  | [], _ => rfl
  | x :: l, acc => by
    unfold clash dups
    rw [clash_perm l, List.any_cons]
    have : (l.any fun y => (acc ++ [x]).contains y) = ((l.any fun y => acc.contains y) || l.contains x) := by
      rw [Bool.eq_iff_iff]
      simp only [List.any_eq_true, Bool.or_eq_true, List.contains_iff_mem, List.mem_append, List.mem_singleton]
      constructor
      · rintro ⟨y, h1, h2 | h2⟩
        · exact .inl ⟨y, h1, h2⟩
        · exact .inr (h2 ▸ h1)
      · rintro (⟨y, h1, h2⟩ | h)
        · exact ⟨y, h1, .inl h2⟩
        · exact ⟨x, h, .inr rfl⟩
    rw [this]
    cases acc.contains x <;> cases (l.any fun y => acc.contains y) <;> cases l.contains x <;> rfl
theorem dcount_lt (l : List Int) : decide (dcount l < l.length) = dups l := by
  have := foldI_lt l []
  rw [List.length_nil, Nat.zero_add] at this
  unfold dcount
  rw [this, clash_perm]
  have : (l.any fun x => ([] : List Int).contains x) = false := by
    rw [List.any_eq_false]; intro x _; simp
  rw [this, Bool.false_or]
end Go.Am
namespace Go.Am
def giv (L : List Nod) (i : Nat) : List Bool := (L.take i).map fun x => givesN x.kind
theorem giv_len {L : List Nod} {i : Nat} (h : i ≤ L.length) : (giv L i).length = i := by simp [giv, h]
theorem giv_at {L : List Nod} {i : Nat} {a : Int} (h0 : 0 ≤ a) (h1 : a < i) (h2 : i ≤ L.length) : (giv L i).getD a.toNat false = givesN (kindAt L a) := by
  have hl : a.toNat < i := by omega
  have hL : a.toNat < L.length := by omega
  unfold giv kindAt
  simp [List.getD, hl, hL]
theorem giv_snoc {L : List Nod} {i : Nat} {x : Nod} (h : L[i]? = some x) : giv L (i + 1) = giv L i ++ [givesN x.kind] := by
  unfold giv
  rw [List.take_add_one, List.map_append, h]
  rfl
theorem wrongGo_le : ∀ (L r : List Nod) (i : Int), i ≤ wrongGo L r i ∧ wrongGo L r i ≤ i + r.length
  | _, [], i => by simp [wrongGo]
  | L, x :: r, i => by
    unfold wrongGo
    cases fitsN L x with
    | true =>
      have := wrongGo_le L r (i + 1)
      simp only [cond_true, List.length_cons]
      omega
    | false => simp only [cond_false, List.length_cons]; omega
theorem wrongN_le (L : List Nod) : 0 ≤ wrongN L ∧ wrongN L ≤ L.length := by
  have := wrongGo_le L L 0
  unfold wrongN
  omega
end Go.Am
namespace Go.Am
open Go
section
variable {H : Type} {enc : TypeId × Value → H}
end
inductive CK where
  | int (k : IntKind)
  | bool
  | str
end Go.Am
namespace Go.Am
open Go.RowKit Go.WideShapes Go.ChangeShapes
section
variable {H : Type} {enc : TypeId × Value → H} {P : Program} {w : World} {base : Nat} {spare : Nat → Bool} {held : Bool}
theorem int_elem {e : TypeId} {k : IntKind} (he : P.underlying e = some (.int k)) (n : Nat) (cs : List Value) (y : DataW H × List MemPlace) (h : DataW.trod enc P w base spare held n e cs = some y) :
    ∃ x : Int, VL (fun _ => none) [.int k x] cs ∧ (Lit.int k x).wf = true := by
  obtain ⟨x, rfl, _, hx⟩ := DataW.trod_int he h
  exact ⟨x, by simp [VL, V], hx⟩
theorem nod_elem {e : TypeId} {f0 f1 f2 f3 f4 : Field} (he : P.underlying e = some (.struct #[f0, f1, f2, f3, f4])) (hc : P.cellsOf e = 5) (o0 : f0.offset = 0) (o1 : f1.offset = 1) (o2 : f2.offset = 2) (o3 : f3.offset = 3) (o4 : f4.offset = 4)
    (c0 : P.cellsOf f0.type = 1) (c1 : P.cellsOf f1.type = 1) (c2 : P.cellsOf f2.type = 1) (c3 : P.cellsOf f3.type = 1) (c4 : P.cellsOf f4.type = 1)
    (h0 : P.underlying f0.type = some (.int .u8)) (h1 : P.underlying f1.type = some (.int .i64)) (h2 : P.underlying f2.type = some (.int .i64)) (h3 : P.underlying f3.type = some (.int .i64)) (h4 : P.underlying f4.type = some (.int .i64))
    (n : Nat) (cs : List Value) (y : DataW H × List MemPlace) (h : DataW.trod enc P w base spare held n e cs = some y) :
    ∃ x : Nod, VL (fun _ => none) x.enc cs ∧ ((Lit.int .u8 x.kind).wf = true ∧ (Lit.int .i64 x.n).wf = true ∧ (Lit.int .i64 x.a).wf = true ∧ (Lit.int .i64 x.b).wf = true ∧ (Lit.int .i64 x.pos).wf = true) := by
  obtain ⟨xs, n', _, _, hl, hxl, hf⟩ := DataW.trod_struct he h
  rw [hc] at hl
  match cs, hl with
  | [a, b, c, d, e'], _ =>
    have hx : xs.length = 5 := hxl
    match xs, hx with
    | [y0, y1, y2, y3, y4], _ =>
      have g0 := hf 0 f0 rfl
      have g1 := hf 1 f1 rfl
      have g2 := hf 2 f2 rfl
      have g3 := hf 3 f3 rfl
      have g4 := hf 4 f4 rfl
      rw [o0, c0] at g0
      rw [o1, c1] at g1
      rw [o2, c2] at g2
      rw [o3, c3] at g3
      rw [o4, c4] at g4
      obtain ⟨k, e0, _, w0⟩ := DataW.trod_int h0 g0
      obtain ⟨n1, e1, _, w1⟩ := DataW.trod_int h1 g1
      obtain ⟨n2, e2, _, w2⟩ := DataW.trod_int h2 g2
      obtain ⟨n3, e3, _, w3⟩ := DataW.trod_int h3 g3
      obtain ⟨n4, e4, _, w4⟩ := DataW.trod_int h4 g4
      simp only [List.drop_zero, List.take_succ_cons, List.take_zero, List.drop_succ_cons, List.cons.injEq, and_true] at e0 e1 e2 e3 e4
      subst e0 e1 e2 e3 e4
      refine ⟨⟨k, n1, n2, n3, n4⟩, ?_, w0, w1, w2, w3, w4⟩
      simp only [Nod.enc, VL, V]
      exact ⟨_, _, rfl, rfl, _, _, rfl, rfl, _, _, rfl, rfl, _, _, rfl, rfl, _, _, rfl, rfl, rfl⟩
end
theorem rd_nodes {w : World} {p : Pos} {L : List Nod} (h1 : p.stride = 5) (h2 : p.len = L.length) (h3 : p.len ≤ p.cap) (h4 : p.cap ≤ maxLen)
    (h5 : ∀ i, i < L.length → ∀ j av, ((L.getD i default).enc)[j]? = some av → ∃ c, w.cell? (p.addr i j) = some c ∧ V (fun _ => none) av c) : RdD w (.nodes L) p :=
  ⟨h1, h2, h3, h4, fun _ _ => ⟨rfl, rfl⟩, h5⟩
theorem rd_ints {w : World} {p : Pos} {k : IntKind} {L : List Int} (h1 : p.stride = 1) (h2 : p.len = L.length) (h3 : p.len ≤ p.cap) (h4 : p.cap ≤ maxLen)
    (h5 : ∀ i, i < L.length → ∀ j av, ([AV.int k (L.getD i default)])[j]? = some av → ∃ c, w.cell? (p.addr i j) = some c ∧ V (fun _ => none) av c) : RdD w (.ints k L) p :=
  ⟨h1, h2, h3, h4, fun _ _ => ⟨rfl, rfl⟩, h5⟩
def qTys (u8 nl il b i64 : TypeId) : List TypeId := [u8, nl, il, b, nl, u8, i64, i64, b, u8]
section
variable {H : Type} {enc : TypeId × Value → H} {P : Program} {w : World} {base : Nat} {spare : Nat → Bool} {held : Bool}
def NodsAt (w : World) (L : List Nod) (p : Pos) : Prop := p.stride = 5 ∧ p.len = L.length ∧ p.len ≤ p.cap ∧ p.cap ≤ maxLen ∧ ∀ i, i < L.length → ∀ j av, ((L.getD i default).enc)[j]? = some av → ∃ c, w.cell? (p.addr i j) = some c ∧ V (fun _ => none) av c
def IntsAt (w : World) (L : List Int) (p : Pos) : Prop := p.stride = 1 ∧ p.len = L.length ∧ p.len ≤ p.cap ∧ p.cap ≤ maxLen ∧ ∀ i, i < L.length → ∀ j av, ([AV.int .i64 (L.getD i default)])[j]? = some av → ∃ c, w.cell? (p.addr i j) = some c ∧ V (fun _ => none) av c
theorem NodsAt.rd {w : World} {L : List Nod} {p : Pos} (h : NodsAt w L p) : RdD w (.nodes L) p := rd_nodes h.1 h.2.1 h.2.2.1 h.2.2.2.1 h.2.2.2.2
theorem IntsAt.rd {w : World} {L : List Int} {p : Pos} (h : IntsAt w L p) : RdD w (.ints .i64 L) p := rd_ints h.1 h.2.1 h.2.2.1 h.2.2.2.1 h.2.2.2.2
def nodWf (x : Nod) : Prop := (Lit.int .u8 x.kind).wf = true ∧ (Lit.int .i64 x.n).wf = true ∧ (Lit.int .i64 x.a).wf = true ∧ (Lit.int .i64 x.b).wf = true ∧ (Lit.int .i64 x.pos).wf = true
def NodEl (enc : TypeId × Value → H) (P : Program) (w : World) (base : Nat) (spare : Nat → Bool) (held : Bool) (eN : TypeId) : Prop :=
  ∀ (n : Nat) (cs : List Value) (y : DataW H × List MemPlace), DataW.trod enc P w base spare held n eN cs = some y → ∃ x : Nod, VL (fun _ => none) x.enc cs ∧ nodWf x
structure QryT (P : Program) (t u8 nl il b i64 eN eI : TypeId) (f0 f1 f2 f3 f4 f5 f6 f7 : Field) : Prop where
  ht : P.underlying t = some (.struct #[f0, f1, f2, f3, f4, f5, f6, f7])
  hts : P.cellTypes P.depth t = some (qTys u8 nl il b i64)
  hn : P.cellsOf t = 10
  o1 : f1.offset = 1
  o2 : f2.offset = 2
  o4 : f4.offset = 4
  c1 : P.cellsOf f1.type = 1
  c2 : P.cellsOf f2.type = 1
  c4 : P.cellsOf f4.type = 1
  t1 : f1.type = nl
  t2 : f2.type = il
  t4 : f4.type = nl
  hu : P.underlying u8 = some (.int .u8)
  hb : P.underlying b = some .bool
  hi : P.underlying i64 = some (.int .i64)
  hl : P.underlying nl = some (.slice eN)
  hk : P.underlying il = some (.slice eI)
  he : P.underlying eI = some (.int .i64)
  hc : P.cellsOf eN = 5
  hd : P.cellsOf eI = 1
theorem cell_slice {P : Program} {w : World} {r : Reach} {b0 : Nat} {t e : TypeId} {v : Value} (ht : P.underlying t = some (.slice e)) (h : Cell.okWide P w r b0 t v) : Value.okWide P w r b0 t v := by
  simpa only [Value.okWide, ht] using h
theorem cell_int {P : Program} {w : World} {r : Reach} {b0 : Nat} {t : TypeId} {k : IntKind} {v : Value} (ht : P.underlying t = some (.int k)) (h : Cell.okWide P w r b0 t v) : ∃ n, v = .int k n ∧ k.has n := by
  simp only [Cell.okWide, ht, Cell.ok] at h
  cases v <;> simp only at h
  rename_i k' n
  exact ⟨n, by rw [h.1], h.2⟩
theorem cell_bool {P : Program} {w : World} {r : Reach} {b0 : Nat} {t : TypeId} {v : Value} (ht : P.underlying t = some .bool) (h : Cell.okWide P w r b0 t v) : ∃ n, v = .bool n := by
  simp only [Cell.okWide, ht, Cell.ok] at h
  cases v <;> simp only at h
  exact ⟨_, rfl⟩
def QryV (w : World) (q : Qry) (p0 p1 p2 : Pos) (v : Value) : Prop :=
  ∃ v1 v2 v4, v = .agg #[.int .u8 q.agg, v1, v2, .bool q.join, v4, .int .u8 q.wk, .int .i64 q.ws, .int .i64 q.we, .bool q.byKey, .int .u8 q.late] ∧ V (fun _ => some p0) (.slw 0) v1 ∧ V (fun _ => some p1) (.slw 0) v2 ∧ V (fun _ => some p2) (.slw 0) v4 ∧
    NodsAt w q.arg p0 ∧ IntsAt w q.src p1 ∧ NodsAt w q.whr p2
theorem QryV.at' {w : World} {q : Qry} {p0 p1 p2 : Pos} {v : Value} (h : QryV w q p0 p1 p2 v) {ps : List Pos} {a b c : Nat} (ha : ps[a]? = some p0) (hb : ps[b]? = some p1) (hc : ps[c]? = some p2) : V (psRho ps) (q.av a b c) v := by
  obtain ⟨v1, v2, v4, rfl, h1, h2, h4, _⟩ := h
  unfold Qry.av
  simp only [V]
  refine ⟨_, rfl, ?_⟩
  simp only [VL]
  exact ⟨_, _, rfl, (by simp only [V]), _, _, rfl, slw_at ha h1, _, _, rfl, slw_at hb h2, _, _, rfl, (by simp only [V]), _, _, rfl, slw_at hc h4, _, _, rfl, (by simp only [V]), _, _, rfl, (by simp only [V]), _, _, rfl, (by simp only [V]), _, _, rfl, (by simp only [V]), _, _, rfl, (by simp only [V]), rfl⟩
def qryWf (q : Qry) : Prop := (∀ x ∈ q.arg, nodWf x) ∧ (∀ x ∈ q.whr, nodWf x) ∧ (∀ x ∈ q.src, (Lit.int .i64 x).wf = true) ∧ IntKind.u8.has q.agg ∧ IntKind.u8.has q.wk ∧ IntKind.i64.has q.ws ∧ IntKind.i64.has q.we ∧ IntKind.u8.has q.late
theorem qry_cells {t u8 nl il b i64 eN eI : TypeId} {f0 f1 f2 f3 f4 f5 f6 f7 : Field} (T : QryT P t u8 nl il b i64 eN eI f0 f1 f2 f3 f4 f5 f6 f7) (hel : NodEl enc P w base spare held eN) {b0 : Nat} {cs : List Value} (hl : cs.length = 10)
    (hok : ∀ (i : Nat) v u, cs[i]? = some v → (qTys u8 nl il b i64)[i]? = some u → Cell.okWide P w .any b0 u v) {n : Nat} {x : DataW H × List MemPlace} (h : DataW.trod enc P w base spare held n t cs = some x) :
    ∃ q p0 p1 p2, QryV w q p0 p1 p2 (.agg cs.toArray) ∧ qryWf q := by
  match cs, hl with
  | [x0, x1, x2, x3, x4, x5, x6, x7, x8, x9], _ =>
    obtain ⟨xs, n', _, _, _, hxl, hf⟩ := DataW.trod_struct T.ht h
    have g1 := hf 1 f1 rfl
    have g2 := hf 2 f2 rfl
    have g4 := hf 4 f4 rfl
    rw [T.o1, T.c1, T.t1] at g1
    rw [T.o2, T.c2, T.t2] at g2
    rw [T.o4, T.c4, T.t4] at g4
    simp only [List.drop_succ_cons, List.drop_zero, List.take_succ_cons, List.take_zero] at g1 g2 g4
    have hx : xs.length = 8 := hxl
    obtain ⟨y1, e1⟩ : ∃ y, xs[1]? = some y := ⟨_, List.getElem?_eq_getElem (by omega)⟩
    obtain ⟨y2, e2⟩ : ∃ y, xs[2]? = some y := ⟨_, List.getElem?_eq_getElem (by omega)⟩
    obtain ⟨y4, e4⟩ : ∃ y, xs[4]? = some y := ⟨_, List.getElem?_eq_getElem (by omega)⟩
    rw [e1] at g1
    rw [e2] at g2
    rw [e4] at g4
    obtain ⟨a0, rfl, w0⟩ := cell_int T.hu (hok 0 x0 _ rfl rfl)
    obtain ⟨a3, rfl⟩ := cell_bool T.hb (hok 3 x3 _ rfl rfl)
    obtain ⟨a5, rfl, w5⟩ := cell_int T.hu (hok 5 x5 _ rfl rfl)
    obtain ⟨a6, rfl, w6⟩ := cell_int T.hi (hok 6 x6 _ rfl rfl)
    obtain ⟨a7, rfl, w7⟩ := cell_int T.hi (hok 7 x7 _ rfl rfl)
    obtain ⟨a8, rfl⟩ := cell_bool T.hb (hok 8 x8 _ rfl rfl)
    obtain ⟨a9, rfl, w9⟩ := cell_int T.hu (hok 9 x9 _ rfl rfl)
    have v1 := cell_slice T.hl (hok 1 x1 _ rfl rfl)
    have v2 := cell_slice T.hk (hok 2 x2 _ rfl rfl)
    have v4 := cell_slice T.hl (hok 4 x4 _ rfl rfl)
    have tr : ∀ {tt ee : TypeId} {v : Value} {y : DataW H × List MemPlace}, P.underlying tt = some (.slice ee) → Value.okWide P w .any b0 tt v → DataW.trod enc P w base spare held n' tt [v] = some y → DataW.Trod enc P w base spare held tt v y.1 y.2 := fun {tt ee v y} ht hv h => by
      obtain ⟨_, _, _, rfl⟩ := okWide_slice ht hv
      exact ⟨n', h⟩
    obtain ⟨L1, p1, r1, s1, s2, s3, s4, q1, s5⟩ := slice_arg Nod.enc nodWf T.hl v1 (tr T.hl v1 g1) hel
    obtain ⟨L2, p2, r2, i1, i2, i3, i4, q2, i5⟩ := slice_arg (fun n : Int => [.int .i64 n]) (fun n => (Lit.int .i64 n).wf = true) T.hk v2 (tr T.hk v2 g2) (int_elem T.he)
    obtain ⟨L4, p4, r4, k1, k2, k3, k4, q4, k5⟩ := slice_arg Nod.enc nodWf T.hl v4 (tr T.hl v4 g4) hel
    exact ⟨⟨a0, L1, L2, a3, L4, a5, a6, a7, a8, a9⟩, p1, p2, p4, ⟨x1, x2, x4, rfl, r1, r2, r4, ⟨s1.trans T.hc, s2, s3, s4, s5⟩, ⟨i1.trans T.hd, i2, i3, i4, i5⟩, ⟨k1.trans T.hc, k2, k3, k4, k5⟩⟩, q1, q4, q2, w0, w5, w6, w7, w9⟩
end
end Go.Am
namespace Go.Am
open Go.Lib
def wWhere : List UInt8 := [119, 104, 101, 114, 101]
def wEvery : List UInt8 := [101, 118, 101, 114, 121]
def wKey : List UInt8 := [107, 101, 121]
def wLate : List UInt8 := [108, 97, 116, 101]
def wSide : List UInt8 := [115, 105, 100, 101]
def wJoin : List UInt8 := [106, 111, 105, 110]
def wAg (k : Int) : List UInt8 := bif decide (k = 1) then [99, 111, 117, 110, 116] else bif decide (k = 2) then [115, 117, 109] else bif decide (k = 3) then [109, 105, 110] else [109, 97, 120]
def wWk (k : Int) : List UInt8 := bif decide (k = 1) then [116, 117, 109, 98, 108, 101] else bif decide (k = 2) then [115, 108, 105, 100, 101] else [115, 101, 115, 115, 105, 111, 110]
structure TrOk (e : Ex) : Prop where
  ok : e.ok = true
  rng : e.rng = true
  sz : e.size ≤ 60
  dp : e.depth ≤ 20
structure QX (q : Qry) (ea ew : Ex) : Prop where
  ag : 1 ≤ q.agg ∧ q.agg ≤ 4
  a1 : q.agg = 1 → q.arg = []
  a2 : q.agg ≠ 1 → q.arg = ea.flat 0 ∧ TrOk ea
  w2 : 0 < q.whr.length → q.whr = ew.flat 0 ∧ TrOk ew
  s0 : 0 < q.src.length
  s4 : q.src.length ≤ 4
  sR : q.src.all inR = true
  j2 : q.join = true → q.src.length = 2
  wk : 1 ≤ q.wk ∧ q.wk ≤ 3
  ws : 1 ≤ q.ws ∧ q.ws ≤ 1073741824
  we : q.wk = 2 → 1 ≤ q.we ∧ q.we ≤ 1073741824
  w0 : q.wk ≠ 2 → q.we = 0
  lt : q.late = 1 ∨ q.late = 2
end Go.Am
namespace Go.Am
open Go.Lib
structure AlikeX (q p : Qry) (ea ew fa fw : Ex) : Prop where
  ag : q.agg = p.agg
  ar : q.agg ≠ 1 → ea.st = fa.st
  sr : q.src = p.src
  jn : q.join = p.join
  w0 : 0 < q.whr.length ↔ 0 < p.whr.length
  wh : 0 < q.whr.length → ew.st = fw.st
  wk : q.wk = p.wk
  ws : q.ws = p.ws
  we : q.we = p.we
  bk : q.byKey = p.byKey
  lt : q.late = p.late
end Go.Am
