/-
  Message: plain words.
-/
import Derived.Test.YtbjokogmfllcdaaDoorIntsText
import Derived.Test.YtbjokogmfllcdaaDoorAmSplit
import Derived.Test.YtbjokogmfllcdaaDoorAmBuild2
namespace Go.Am
structure Msg where
  k : Int
  a : Int
  b : Int
  c : Int
  t : Int
  x : Int
  s : Int
  e : Int
  u : Int
  v : Int
  deriving DecidableEq
def Msg.av (m : Msg) : AV := .agg [.int .u8 m.k, i64 m.a, i64 m.b, i64 m.c, i64 m.t, i64 m.x, i64 m.s, i64 m.e, i64 m.u, i64 m.v]
def msg0 : Msg := ⟨0, 0, 0, 0, 0, 0, 0, 0, 0, 0⟩
def eqRec (m n : Msg) : Bool := decide (m.a = n.a) && (decide (m.b = n.b) && (decide (m.c = n.c) && true))
def eqRow (m n : Msg) : Bool := decide (m.x = n.x) && ((decide (m.s = n.s) && (decide (m.e = n.e) && true)) && ((decide (m.u = n.u) && (decide (m.v = n.v) && true)) && true))
def eqM (m n : Msg) : Bool := decide (m.k = n.k) && (eqRec m n && (decide (m.t = n.t) && (eqRow m n && true)))
theorem eqM_is (m n : Msg) : eqM m n = decide (m = n) := by
  obtain ⟨a1, a2, a3, a4, a5, a6, a7, a8, a9, a10⟩ := m
  obtain ⟨b1, b2, b3, b4, b5, b6, b7, b8, b9, b10⟩ := n
  unfold eqM eqRec eqRow
  rw [Bool.eq_iff_iff]
  simp only [Bool.and_eq_true, decide_eq_true_eq, Msg.mk.injEq, and_true]
  constructor
  · rintro ⟨h1, ⟨h2, h3, h4⟩, h5, h6, ⟨h7, h8⟩, h9, h10⟩
    exact ⟨h1, h2, h3, h4, h5, h6, h7, h8, h9, h10⟩
  · rintro ⟨h1, h2, h3, h4, h5, h6, h7, h8, h9, h10⟩
    exact ⟨h1, ⟨h2, h3, h4⟩, h5, h6, ⟨h7, h8⟩, h9, h10⟩
/-- what a kind uses -/
def onlyRec (m : Msg) : Msg := ⟨m.k, m.a, m.b, m.c, 0, 0, 0, 0, 0, 0⟩
def onlyTime (m : Msg) : Msg := ⟨m.k, 0, 0, 0, m.t, 0, 0, 0, 0, 0⟩
def onlyRow (m : Msg) : Msg := ⟨m.k, 0, 0, 0, 0, m.x, m.s, m.e, m.u, m.v⟩
def isTime (t : Int) : Bool := decide (-1099511627776 ≤ t) && decide (t ≤ 1099511627776)
def isMark' (t : Int) : Bool := isTime t || decide (t = 9223372036854775807)
def isSpan (s e : Int) : Bool := decide (-2199023255552 ≤ s) && (decide (s < e) && decide (e ≤ 2199023255552))
def validM (m : Msg) : Bool :=
  bif decide (m.k = 1) || decide (m.k = 4) then isTime m.b && eqM m (onlyRec m) else bif decide (m.k = 2) then isMark' m.t && eqM m (onlyTime m) else bif decide (m.k = 3) then isSpan m.s m.e && eqM m (onlyRow m) else false
def chkE (m : Msg) : Int := bif validM m then 0 else 8
def r1 (n : Int) : Option Out := some ⟨[i64 n], []⟩
def kont (ok : Bool) (m w : Msg) : Option Out := bif !ok then r1 8 else bif !eqM m w then r1 8 else r1 0
/-! what a builder writes -/
def ib (s : List UInt8) : List Int := s.map fun (c : UInt8) => (c.toNat : Int)
def wStep (cur : List Int) (n : Int) (k : List Int → Option Out) : Option Out :=
  bif decide (cur.length + 1 ≤ lim) then (bif rng64 n && decide ((10 : Int) = 10) then (bif decide ((cur ++ [32]).length + (ib (Lib.itoa n)).length ≤ lim) then k ((cur ++ [32]) ++ ib (Lib.itoa n)) else none) else none) else none
def wAll (cur : List Int) : List Int → Option Out
  | [] => bif decide (cur ≠ []) && cur.all inByte then some ⟨[.str (byteList cur), i64 0], []⟩ else none
  | n :: r => wStep cur n fun c => wAll c r
def wRecord : List UInt8 := [114, 101, 99, 111, 114, 100]
def wLate : List UInt8 := [108, 97, 116, 101]
def wMark : List UInt8 := [109, 97, 114, 107]
def wRow : List UInt8 := [114, 111, 119]
def so (s : List UInt8) (e : Int) : Option Out := some ⟨[.str s, i64 e], []⟩
/-- a word and numbers -/
def saidN (w : List UInt8) : List Int → List UInt8
  | [] => w
  | n :: r => saidN (w ++ 32 :: Lib.itoa n) r
theorem ib_len (s : List UInt8) : (ib s).length = s.length := by simp [ib]
theorem ib_app (s t : List UInt8) : ib s ++ ib t = ib (s ++ t) := by simp [ib]
theorem ib_in (s : List UInt8) : (ib s).all inByte = true := by
  rw [List.all_eq_true]
  intro n hn
  obtain ⟨c, _, rfl⟩ := List.mem_map.1 hn
  have := c.toNat_lt
  exact decide_eq_true ⟨by omega, by omega⟩
theorem ib_back (s : List UInt8) : byteList (ib s) = s := by
  simp [ib, byteList, Function.comp_def]
theorem wAll_is : ∀ (l : List Int) (w : List UInt8), w ≠ [] → w.length + 30 * l.length ≤ 1000000 → (∀ n ∈ l, Rng n) → wAll (ib w) l = so (saidN w l) 0
  | [], w, hw, _, _ => by
    unfold wAll saidN
    rw [ib_in, ib_back, Bool.and_true, decide_eq_true (show ib w ≠ [] from fun h => hw (List.eq_nil_of_length_eq_zero (by have := congrArg List.length h; rw [ib_len] at this; simpa using this)))]
    rfl
  | n :: r, w, hw, hl, hr => by
    have hn := hr n (List.mem_cons_self ..)
    have hil := itoa_len hn
    simp only [List.length_cons] at hl
    have e1 : ib w ++ [32] = ib (w ++ [32]) := by simp [ib]
    have e5 : (w ++ [32]).length + (Lib.itoa n).length ≤ lim := by rw [List.length_append]; simp only [lim, List.length_cons, List.length_nil]; omega
    unfold wAll wStep saidN
    rw [e1, ib_app, ib_len, ib_len, ib_len, decide_eq_true (show w.length + 1 ≤ lim from by simp only [lim]; omega), show rng64 n = true from decide_eq_true hn, decide_eq_true e5]
    simp only [Bool.true_and, decide_true, cond_true]
    rw [wAll_is r _ (by simp) (by simp only [List.length_append, List.length_cons, List.length_nil]; omega) (fun m hm => hr m (List.mem_cons_of_mem _ hm))]
    simp
def rngM (m : Msg) : Bool := decide (Rng m.a ∧ Rng m.b ∧ Rng m.c ∧ Rng m.t ∧ Rng m.x ∧ Rng m.s ∧ Rng m.e ∧ Rng m.u ∧ Rng m.v)
/-- the text of a message -/
def writ (m : Msg) : List UInt8 := bif decide (m.k = 1) then saidN wRecord [m.a, m.b, m.c] else bif decide (m.k = 2) then saidN wMark [m.t] else bif decide (m.k = 3) then saidN wRow [m.x, m.s, m.e, m.u, m.v] else saidN wLate [m.a, m.b, m.c]
def mText (m : Msg) : List UInt8 := bif decide (chkE m = 0) then writ m else []
theorem chk_valid (m : Msg) : decide (chkE m = 0) = validM m := by unfold chkE; cases validM m <;> rfl
theorem valid_kind {m : Msg} (h : validM m = true) : m.k = 1 ∨ m.k = 2 ∨ m.k = 3 ∨ m.k = 4 := by
  unfold validM at h
  by_cases h1 : m.k = 1
  · exact .inl h1
  by_cases h2 : m.k = 2
  · exact .inr (.inl h2)
  by_cases h3 : m.k = 3
  · exact .inr (.inr (.inl h3))
  by_cases h4 : m.k = 4
  · exact .inr (.inr (.inr h4))
  rw [decide_eq_false h1, decide_eq_false h2, decide_eq_false h3, decide_eq_false h4] at h
  cases h
/-! events -/
structure Evt where
  mark : Bool
  t : Int
  a : Int
  b : Int
  c : Int
  deriving DecidableEq
def Evt.av (e : Evt) : AV := .agg [.bool e.mark, i64 e.t, i64 e.a, i64 e.b, i64 e.c]
def noRec (e : Evt) : Bool := decide (e.a = 0) && (decide (e.b = 0) && (decide (e.c = 0) && true))
def evOk (e : Evt) : Bool := bif e.mark then isMark' e.t && noRec e else decide (e.t = 0) && isTime e.b
def evE (e : Evt) : Int := bif evOk e then 0 else 8
def told (e : Evt) : Msg := bif e.mark then ⟨2, 0, 0, 0, e.t, 0, 0, 0, 0, 0⟩ else ⟨1, e.a, e.b, e.c, 0, 0, 0, 0, 0, 0⟩
def ofM (e : Evt) : Msg := bif evOk e then told e else msg0
def oO (m : Msg) (e : Int) : Option Out := some ⟨[m.av, i64 e], []⟩
def oM (β : Bool) (e : Evt) (m : Msg) : Option Out := bif !β then oO msg0 8 else bif !noRec e then oO msg0 8 else oO m 0
def markT (t : Int) (k : Bool → Option Out) : Option Out := bif decide (-1099511627776 ≤ t) then (bif decide (t ≤ 1099511627776) then k true else k (decide (t = 9223372036854775807))) else k (decide (t = 9223372036854775807))
theorem markT_is (t : Int) (k : Bool → Option Out) : markT t k = k (isMark' t) := by
  unfold markT isMark' isTime
  cases decide (-1099511627776 ≤ t) <;> cases decide (t ≤ 1099511627776) <;> rfl
/-! what the reference writes -/
def sStep (w : List UInt8) (n : Int) (k : List UInt8 → Option Out) : Option Out :=
  bif decide (Rng n) then (bif decide (([32] : List UInt8).length + (Lib.itoa n).length ≤ lim) then (bif decide (w.length + ([32] ++ Lib.itoa n).length ≤ lim) then k (w ++ ([32] ++ Lib.itoa n)) else none) else none) else none
def sAll (w : List UInt8) : List Int → Option Out
  | [] => some ⟨[.str w], []⟩
  | n :: r => sStep w n fun c => sAll c r
theorem sAll_is : ∀ (l : List Int) (w : List UInt8), w.length + 30 * l.length ≤ 1000000 → (∀ n ∈ l, Rng n) → sAll w l = some ⟨[.str (saidN w l)], []⟩
  | [], w, _, _ => rfl
  | n :: r, w, hl, hr => by
    have hn := hr n (List.mem_cons_self ..)
    have hil := itoa_len hn
    simp only [List.length_cons] at hl
    have e1 : ([32] : List UInt8).length + (Lib.itoa n).length ≤ lim := by simp only [lim, List.length_cons, List.length_nil]; omega
    have e2 : w.length + ([32] ++ Lib.itoa n).length ≤ lim := by rw [List.length_append]; simp only [lim, List.length_cons, List.length_nil]; omega
    unfold sAll sStep saidN
    rw [decide_eq_true hn, decide_eq_true e1, decide_eq_true e2]
    simp only [cond_true]
    rw [sAll_is r _ (by simp only [List.length_append, List.length_cons, List.length_nil]; omega) (fun m hm => hr m (List.mem_cons_of_mem _ hm))]
    simp
end Go.Am
