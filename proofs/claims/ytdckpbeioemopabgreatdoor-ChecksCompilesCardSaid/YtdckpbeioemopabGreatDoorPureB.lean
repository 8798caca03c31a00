/-
  Texts put together: QryPure, DistPure, KindPure, AmWrap, AmQry, QryClk.
-/
import Derived.Test.YtdckpbeioemopabGreatDoorPureA
import Derived.Maps.Views
import Derived.Test.YtdckpbeioemopabGreatDoorExA
import Derived.Test.YtdckpbeioemopabGreatDoorLibB
import Derived.HandedShaped
import Derived.Handed
import Derived.Shelf.Vars
namespace Go.Am
structure Qry where
  agg : Int
  arg : List Nod
  src : List Int
  join : Bool
  whr : List Nod
  wk : Int
  ws : Int
  we : Int
  byKey : Bool
  late : Int
  deriving Inhabited
def Qry.av (q : Qry) (a b c : Nat) : AV := .agg [.int .u8 q.agg, .slw a, .slw b, .bool q.join, .slw c, .int .u8 q.wk, .int .i64 q.ws, .int .i64 q.we, .bool q.byKey, .int .u8 q.late]
def fitsW (k s e : Int) : Bool := decide (1 ≤ s) && (decide (s ≤ 1073741824) && (bif decide (k = 2) then decide (1 ≤ e) && (decide (e ≤ s) && decide (s ≤ 16 * e)) else (decide (k = 1) || decide (k = 3)) && decide (e = 0)))
def inR (n : Int) : Bool := decide (0 ≤ n) && decide (n ≤ 3)
def dups : List Int → Bool
  | [] => false
  | x :: r => r.contains x || dups r
def srcE (l : List Int) (join : Bool) : Int := bif decide (4 < l.length) then 4 else bif decide (l.length = 0) || (join && !decide (l.length = 2)) then 8 else bif !l.all inR then 8 else bif dups l then 43 else 0
def clkE (q : Qry) : Int :=
  bif decide (q.agg < 1) || decide (4 < q.agg) || (!decide (q.late = 1) && !decide (q.late = 2)) then 8
  else bif decide (q.agg = 1) && decide (0 < q.arg.length) then 8
  else bif !decide (q.agg = 1) && !decide (chkN q.arg = 0) then chkN q.arg
  else bif decide (0 < q.whr.length) && !decide (chkN q.whr = 0) then chkN q.whr
  else bif !decide (srcE q.src q.join = 0) then srcE q.src q.join
  else bif !fitsW q.wk q.ws q.we || (q.join && !decide (q.wk = 1)) then 8 else 0
def givesN (k : Int) : Bool := decide (k = 6) || decide (12 ≤ k)
def kindAt (l : List Nod) (i : Int) : Int := (l.getD i.toNat default).kind
def fitsN (l : List Nod) (x : Nod) : Bool :=
  bif decide (x.kind ≤ 4) then true else bif decide (x.kind = 5) then !givesN (kindAt l x.a) else bif decide (x.kind = 6) then givesN (kindAt l x.a)
  else bif decide (x.kind = 16) || decide (x.kind = 17) then (givesN (kindAt l x.a) == givesN (kindAt l x.b)) else bif decide (18 ≤ x.kind) then givesN (kindAt l x.a) && givesN (kindAt l x.b)
  else !givesN (kindAt l x.a) && !givesN (kindAt l x.b)
def wrongGo (l : List Nod) : List Nod → Int → Int
  | [], i => i
  | x :: r, i => bif fitsN l x then wrongGo l r (i + 1) else i
def wrongN (l : List Nod) : Int := wrongGo l l 0
def lastK (l : List Nod) : Int := kindAt l ((l.length : Int) - 1)
def kOf (l : List Nod) : Bool × Int × Int := bif !decide (chkN l = 0) then (false, 0, chkN l) else bif decide (wrongN l < (l.length : Int)) then (false, wrongN l, 42) else (givesN (lastK l), (l.length : Int) - 1, 0)
def kWant (l : List Nod) (t : Bool) : Int × Int := ((kOf l).2.1, bif decide ((kOf l).2.2 = 0) && !((kOf l).1 == t) then 42 else (kOf l).2.2)
def posAt (l : List Nod) (i : Int) : Int := (l.getD i.toNat default).pos
def ckW (q : Qry) : Int × Int := bif decide (0 < q.whr.length) && !decide ((kWant q.whr true).2 = 0) then (posAt q.whr (kWant q.whr true).1, (kWant q.whr true).2) else (0, 0)
def ckR (q : Qry) : Int × Int := bif decide (0 < q.arg.length) && !decide ((kWant q.arg false).2 = 0) then (posAt q.arg (kWant q.arg false).1, (kWant q.arg false).2) else ckW q
def ckE (q : Qry) : Int × Int := bif !decide (clkE q = 0) then (0, clkE q) else ckR q
end Go.Am
namespace Go.Am
open Go.Maps
def addI (acc : List Int) (x : Int) : List Int := if acc.contains x then acc else acc ++ [x]
def dcount (l : List Int) : Nat := (l.foldl addI []).length
theorem any_int (x : Int) : ∀ l : List Int, (l.map (Lit.int .i64)).any (fun y => y.sameKey (.int .i64 x)) = l.contains x
  | [] => rfl
  | a :: r => by
    rw [List.map_cons, List.any_cons, List.contains_cons, any_int x r]
    congr 1
    show decide (IntKind.i64 = IntKind.i64 ∧ a = x) = (x == a)
    by_cases e : a = x
    · subst e; simp
    · have e' : ¬ x = a := fun h => e h.symm
      simp [e, e']
theorem addKey_int (acc : List Int) (x : Int) : addKey (acc.map (Lit.int .i64)) (.int .i64 x) = (addI acc x).map (Lit.int .i64) := by
  unfold addKey addI
  rw [any_int]
  split <;> simp
theorem foldl_int : ∀ (l acc : List Int), (l.map (Lit.int .i64)).foldl addKey (acc.map (Lit.int .i64)) = (l.foldl addI acc).map (Lit.int .i64)
  | [], _ => rfl
  | x :: l, acc => by
    rw [List.map_cons, List.foldl_cons, List.foldl_cons, addKey_int, foldl_int l]
theorem dcount_is (l : List Int) : ((l.map (Lit.int .i64)).foldl addKey []).length = dcount l := by
  have := foldl_int l []
  rw [List.map_nil] at this
  rw [this, List.length_map]; rfl
theorem foldI_le : ∀ (l acc : List Int), (l.foldl addI acc).length ≤ acc.length + l.length
  | [], _ => Nat.le_refl _
  | x :: l, acc => by
    rw [List.foldl_cons]
    have := foldI_le l (addI acc x)
    have h2 : (addI acc x).length ≤ acc.length + 1 := by unfold addI; split <;> simp
    simp only [List.length_cons]
    omega
def clash (acc : List Int) : List Int → Bool
  | [] => false
  | x :: r => acc.contains x || clash (acc ++ [x]) r
theorem foldI_lt : ∀ (l acc : List Int), decide ((l.foldl addI acc).length < acc.length + l.length) = clash acc l
  | [], acc => by simp [clash]
  | x :: l, acc => by
    rw [List.foldl_cons]
    unfold clash
    cases hc : acc.contains x with
    | true =>
      have : addI acc x = acc := by unfold addI; rw [if_pos hc]
      rw [this]
      have := foldI_le l acc
      simp only [List.length_cons, Bool.true_or, decide_eq_true_eq]
      omega
    | false =>
      have : addI acc x = acc ++ [x] := by unfold addI; rw [if_neg (by rw [hc]; simp)]
      rw [this, Bool.false_or, ← foldI_lt l (acc ++ [x])]
      simp only [List.length_cons, List.length_append, List.length_nil]
      congr 1
      exact propext ⟨fun h => by omega, fun h => by omega⟩
theorem clash_perm : ∀ (l acc : List Int), clash acc l = ((l.any fun x => acc.contains x) || dups l)
  | [], _ => rfl
  | x :: l, acc => by
    unfold clash dups
    rw [clash_perm l, List.any_cons]
    have : (l.any fun y => (acc ++ [x]).contains y) = ((l.any fun y => acc.contains y) || l.contains x) := by
      rw [Bool.eq_iff_iff]
      simp only [List.any_eq_true, Bool.or_eq_true, List.contains_iff_mem, List.mem_append, List.mem_singleton]
      constructor
      · rintro ⟨y, h1, h2 | h2⟩
        · exact .inl ⟨y, h1, h2⟩
        · exact .inr (h2 ▸ h1)
      · rintro (⟨y, h1, h2⟩ | h)
        · exact ⟨y, h1, .inl h2⟩
        · exact ⟨x, h, .inr rfl⟩
    rw [this]
    cases acc.contains x <;> cases (l.any fun y => acc.contains y) <;> cases l.contains x <;> rfl
theorem dcount_lt (l : List Int) : decide (dcount l < l.length) = dups l := by
  have := foldI_lt l []
  rw [List.length_nil, Nat.zero_add] at this
  unfold dcount
  rw [this, clash_perm]
  have : (l.any fun x => ([] : List Int).contains x) = false := by
    rw [List.any_eq_false]; intro x _; simp
  rw [this, Bool.false_or]
end Go.Am
namespace Go.Am
def giv (L : List Nod) (i : Nat) : List Bool := (L.take i).map fun x => givesN x.kind
theorem giv_len {L : List Nod} {i : Nat} (h : i ≤ L.length) : (giv L i).length = i := by simp [giv, h]
theorem giv_at {L : List Nod} {i : Nat} {a : Int} (h0 : 0 ≤ a) (h1 : a < i) (h2 : i ≤ L.length) : (giv L i).getD a.toNat false = givesN (kindAt L a) := by
  have hl : a.toNat < i := by omega
  have hL : a.toNat < L.length := by omega
  unfold giv kindAt
  simp [List.getD, hl, hL]
theorem giv_snoc {L : List Nod} {i : Nat} {x : Nod} (h : L[i]? = some x) : giv L (i + 1) = giv L i ++ [givesN x.kind] := by
  unfold giv
  rw [List.take_add_one, List.map_append, h]
  rfl
theorem wrongGo_le : ∀ (L r : List Nod) (i : Int), i ≤ wrongGo L r i ∧ wrongGo L r i ≤ i + r.length
  | _, [], i => by simp [wrongGo]
  | L, x :: r, i => by
    unfold wrongGo
    cases fitsN L x with
    | true =>
      have := wrongGo_le L r (i + 1)
      simp only [cond_true, List.length_cons]
      omega
    | false => simp only [cond_false, List.length_cons]; omega
theorem wrongN_le (L : List Nod) : 0 ≤ wrongN L ∧ wrongN L ≤ L.length := by
  have := wrongGo_le L L 0
  unfold wrongN
  omega
end Go.Am
namespace Go.Am
open Go
section
variable {H : Type} {enc : TypeId × Value → H}
end
inductive CK where
  | int (k : IntKind)
  | bool
  | str
end Go.Am
namespace Go.Am
open Go.RowKit Go.WideShapes Go.ChangeShapes
section
variable {H : Type} {enc : TypeId × Value → H} {P : Program} {w : World} {base : Nat} {spare : Nat → Bool} {held : Bool}
end
def qTys (u8 nl il b i64 : TypeId) : List TypeId := [u8, nl, il, b, nl, u8, i64, i64, b, u8]
section
variable {H : Type} {enc : TypeId × Value → H} {P : Program} {w : World} {base : Nat} {spare : Nat → Bool} {held : Bool}
structure QryT (P : Program) (t u8 nl il b i64 eN eI : TypeId) (f0 f1 f2 f3 f4 f5 f6 f7 : Field) : Prop where
  ht : P.underlying t = some (.struct #[f0, f1, f2, f3, f4, f5, f6, f7])
  hts : P.cellTypes P.depth t = some (qTys u8 nl il b i64)
  hn : P.cellsOf t = 10
  o1 : f1.offset = 1
  o2 : f2.offset = 2
  o4 : f4.offset = 4
  c1 : P.cellsOf f1.type = 1
  c2 : P.cellsOf f2.type = 1
  c4 : P.cellsOf f4.type = 1
  t1 : f1.type = nl
  t2 : f2.type = il
  t4 : f4.type = nl
  hu : P.underlying u8 = some (.int .u8)
  hb : P.underlying b = some .bool
  hi : P.underlying i64 = some (.int .i64)
  hl : P.underlying nl = some (.slice eN)
  hk : P.underlying il = some (.slice eI)
  he : P.underlying eI = some (.int .i64)
  hc : P.cellsOf eN = 5
  hd : P.cellsOf eI = 1
end
end Go.Am
namespace Go.Am
theorem clk_inv {q : Qry} (h : clkE q = 0) : (decide (q.agg < 1) || decide (4 < q.agg) || (!decide (q.late = 1) && !decide (q.late = 2))) = false ∧ (q.agg = 1 → q.arg = []) ∧ (q.agg ≠ 1 → chkN q.arg = 0) ∧ (0 < q.whr.length → chkN q.whr = 0) ∧ srcE q.src q.join = 0 ∧ (!fitsW q.wk q.ws q.we || (q.join && !decide (q.wk = 1))) = false := by
  unfold clkE at h
  cases h1 : (decide (q.agg < 1) || decide (4 < q.agg) || (!decide (q.late = 1) && !decide (q.late = 2))) with
  | true => rw [h1] at h; cases h
  | false =>
  rw [h1, cond_false] at h
  cases h2 : (decide (q.agg = 1) && decide (0 < q.arg.length)) with
  | true => rw [h2] at h; cases h
  | false =>
  rw [h2, cond_false] at h
  cases h3 : (!decide (q.agg = 1) && !decide (chkN q.arg = 0)) with
  | true => rw [h3, cond_true] at h; simp only [Bool.and_eq_true, Bool.not_eq_true', decide_eq_false_iff_not] at h3; exact (h3.2 h).elim
  | false =>
  rw [h3, cond_false] at h
  cases h4 : (decide (0 < q.whr.length) && !decide (chkN q.whr = 0)) with
  | true => rw [h4, cond_true] at h; simp only [Bool.and_eq_true, Bool.not_eq_true', decide_eq_false_iff_not] at h4; exact (h4.2 h).elim
  | false =>
  rw [h4, cond_false] at h
  cases h5 : (!decide (srcE q.src q.join = 0)) with
  | true => rw [h5, cond_true] at h; simp only [Bool.not_eq_true', decide_eq_false_iff_not] at h5; exact (h5 h).elim
  | false =>
  rw [h5, cond_false] at h
  cases h6 : (!fitsW q.wk q.ws q.we || (q.join && !decide (q.wk = 1))) with
  | true => rw [h6] at h; cases h
  | false =>
  simp only [Bool.and_eq_false_iff, decide_eq_false_iff_not, Bool.not_eq_false', decide_eq_true_eq] at h2 h3 h4 h5
  exact ⟨rfl, fun ha => List.length_eq_zero_iff.1 (by omega), fun ha => h3.resolve_left ha, fun hw => h4.resolve_left (fun g => g hw), h5, rfl⟩
theorem clk_mk {q : Qry} (h1 : (decide (q.agg < 1) || decide (4 < q.agg) || (!decide (q.late = 1) && !decide (q.late = 2))) = false) (h2 : q.agg = 1 → q.arg = []) (h3 : q.agg ≠ 1 → chkN q.arg = 0) (h4 : 0 < q.whr.length → chkN q.whr = 0) (h5 : srcE q.src q.join = 0) (h6 : (!fitsW q.wk q.ws q.we || (q.join && !decide (q.wk = 1))) = false) : clkE q = 0 := by
  have e2 : (decide (q.agg = 1) && decide (0 < q.arg.length)) = false := by
    by_cases ha : q.agg = 1
    · rw [h2 ha]; simp
    · rw [decide_eq_false ha]; rfl
  have e3 : (!decide (q.agg = 1) && !decide (chkN q.arg = 0)) = false := by
    by_cases ha : q.agg = 1
    · rw [decide_eq_true ha]; rfl
    · rw [decide_eq_true (h3 ha)]; simp
  have e4 : (decide (0 < q.whr.length) && !decide (chkN q.whr = 0)) = false := by
    by_cases hw : 0 < q.whr.length
    · rw [decide_eq_true (h4 hw)]; simp
    · rw [decide_eq_false hw]; rfl
  unfold clkE
  rw [h1, e2, e3, e4, h5, h6]; rfl
end Go.Am
