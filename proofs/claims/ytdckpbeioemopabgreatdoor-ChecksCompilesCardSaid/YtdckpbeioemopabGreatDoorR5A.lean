/-
  Texts put together: AmGo, R5Md, R5Nd, R5Tx.
-/
import Derived.Test.YtdckpbeioemopabGreatDoorLibA
import Derived.Test.YtdckpbeioemopabGreatDoorPrsA
import Derived.Test.YtdckpbeioemopabGreatDoorPrsD
import Derived.Test.YtdckpbeioemopabGreatDoorLxB
namespace Go.Am
theorem go_turns {E : Env} {C : CallR} {L : LoopR} {n : Nat} {sg : LSig} {body : Code} {st : Nat → List AV} {bs : Nat → List Blk} {len k : Nat} {oe : Out}
    (h : ∀ i : Nat, i ≤ len → (turn E C L n sg body (st i) (bs i)).sel = bif decide (i < len) then some (.normal, ⟨st (i + 1), bs (i + 1)⟩) else some (.exit k, oe)) :
    ∀ (f i : Nat), i + f = len → ∃ m, (turns E C L n sg body m (st i) (bs i)).sel = some (.exit k, oe)
  | 0, i, hi => by
    have ht := h i (by omega)
    rw [decide_eq_false (by omega), cond_false] at ht
    exact ⟨1, turns_done ht (by simp)⟩
  | f + 1, i, hi => by
    have ht := h i (by omega)
    rw [decide_eq_true (show i < len by omega), cond_true] at ht
    obtain ⟨m, hm⟩ := go_turns h f (i + 1) (by omega)
    exact ⟨m + 1, (turns_more' ht).trans hm⟩
end Go.Am
namespace Go.Proofs.YtdckpbeioemopabGreatDoor.R5
open Go.Am Go Go.Proofs.YtdckpbeioemopabGreatDoor
set_option maxRecDepth 100000
variable {B : Nat → Option Obj}
noncomputable def bMo : Code := loopAt 4 (loopsOf (bodyC Tryz.f208))
noncomputable def bMi : Code := loopAt 8 (loopsOf bMo)
def nT : TypeId := 22
def sgMi : LSig := { cs := [(3, 192), (11, 0), (12, 0)], mv := [(9, 22), (13, 0)], mo := [(9, 22)], take := [1] }
def vMi (i f k : Int) : List AV := [.slw 0, i64 i, i64 f, .slw 1, i64 k]
def nbF (L : List Nod) : Blk := ⟨false, .nodes L⟩
def b1 (A X : List Nod) : List Blk := [⟨false, .gen [nT] [[.slw 2]]⟩, ob A, nbF X]
def b2 (A X Y : List Nod) : List Blk := [⟨false, .gen [nT] [[.slw 2], [.slw 3]]⟩, ob A, nbF X, nbF Y]
def mvA (f : Int) (x : Nod) : Nod := ⟨x.kind, x.n, w64 (x.a + f), x.b, x.pos⟩
def mvB (f : Int) (x : Nod) : Nod := ⟨x.kind, x.n, w64 (x.a + f), w64 (x.b + f), x.pos⟩
def apM (n : Nat) (z : Option (AExit × Out)) : Option (AExit × Out) := bif decide (n + 1 ≤ lim) then z else none
def stM (f : Int) (x : Nod) (n : Nat) (K : Nod → Option (AExit × Out)) : Option (AExit × Out) := bif decide (x.kind ≤ 4) then (bif decide (x.kind ≤ 4) then apM n (K x) else bif decide (x.kind ≤ 6) then apM n (K x) else apM n (K ⟨x.kind, x.n, x.a, w64 (x.b + f), x.pos⟩)) else bif decide (x.kind ≤ 6) then (bif decide (x.kind ≤ 4) then apM n (K (mvA f x)) else bif decide (x.kind ≤ 6) then apM n (K (mvA f x)) else apM n (K (mvB f x))) else (bif decide (x.kind ≤ 4) then apM n (K (mvA f x)) else bif decide (x.kind ≤ 6) then apM n (K (mvA f x)) else apM n (K (mvB f x)))
theorem turn1 (A X : List Nod) (f k : Int) : (turn (E0 B) (Cx B []) noL 79 sgMi bMi (vMi 0 f k) (b1 A X)).sel =
    bif decide (k < (X.length : Int)) then inb' k X.length (stM f (X.getD k.toNat default) A.length fun x => some (.normal, ⟨vMi 0 f (w64 (k + 1)), b1 (A ++ [x]) X⟩)) else some (.exit 2, ⟨[.slw 0], [ob A]⟩) := by kernel_rfl
theorem turn20 (A X Y : List Nod) (f k : Int) : (turn (E0 B) (Cx B []) noL 79 sgMi bMi (vMi 0 f k) (b2 A X Y)).sel =
    bif decide (k < (X.length : Int)) then inb' k X.length (stM f (X.getD k.toNat default) A.length fun x => some (.normal, ⟨vMi 0 f (w64 (k + 1)), b2 (A ++ [x]) X Y⟩)) else some (.exit 2, ⟨[.slw 0], [ob A]⟩) := by kernel_rfl
theorem turn21 (A X Y : List Nod) (f k : Int) : (turn (E0 B) (Cx B []) noL 79 sgMi bMi (vMi 1 f k) (b2 A X Y)).sel =
    bif decide (k < (Y.length : Int)) then inb' k Y.length (stM f (Y.getD k.toNat default) A.length fun x => some (.normal, ⟨vMi 1 f (w64 (k + 1)), b2 (A ++ [x]) X Y⟩)) else some (.exit 2, ⟨[.slw 0], [ob A]⟩) := by kernel_rfl
def mvR (f : Int) (x : Nod) : Nod := bif decide (x.kind ≤ 4) then x else bif decide (x.kind ≤ 6) then mvA f x else mvB f x
theorem stM_is {f : Int} {x : Nod} {n : Nat} (hn : n ≤ 5000) (K : Nod → Option (AExit × Out)) : stM f x n K = K (mvR f x) := by
  have ha : ∀ z, apM n z = z := fun z => by
    unfold apM
    rw [decide_eq_true (show n + 1 ≤ lim by simp only [lim]; omega)]; rfl
  unfold stM mvR
  simp only [ha]
  cases decide (x.kind ≤ 4) <;> cases decide (x.kind ≤ 6) <;> rfl
theorem mvR_kn {x : Nod} (f : Int) (h : knOk x.kind = true) : mvR f x = mvN f x := by
  unfold mvR mvN prtN prt
  rw [h]
  by_cases h4 : x.kind ≤ 4
  · rw [decide_eq_true h4]; rfl
  · rw [decide_eq_false h4]
    by_cases h6 : x.kind ≤ 6
    · rw [decide_eq_true h6]; rfl
    · rw [decide_eq_false h6]; rfl
theorem flat_kn : ∀ (e : Ex) (o : Int), e.ok = true → ∀ x ∈ e.flat o, knOk x.kind = true
  | .leaf k n p, o, h, x, hx => by
    have h := of_decide_eq_true h
    simp only [Ex.flat, List.mem_singleton] at hx
    subst hx
    unfold knOk
    rw [decide_eq_true (show 1 ≤ k by omega), decide_eq_true (show k ≤ 19 by omega)]; rfl
  | .un k p e, o, h, x, hx => by
    obtain ⟨hk, he⟩ := ok_un' h
    rw [Ex.flat, List.mem_append] at hx
    rcases hx with hx | hx
    · exact flat_kn e o he x hx
    · simp only [List.mem_singleton] at hx
      subst hx
      unfold knOk
      rw [decide_eq_true (show 1 ≤ k by omega), decide_eq_true (show k ≤ 19 by omega)]; rfl
  | .bin k p a b, o, h, x, hx => by
    obtain ⟨hk, ha, hb⟩ := ok_bin' h
    rw [Ex.flat, List.mem_append, List.mem_append] at hx
    rcases hx with hx | hx | hx
    · exact flat_kn a o ha x hx
    · exact flat_kn b _ hb x hx
    · simp only [List.mem_singleton] at hx
      subst hx
      unfold knOk
      rw [decide_eq_true (show 1 ≤ k by omega), decide_eq_true (show k ≤ 19 by omega)]; rfl
theorem mvR_map {e : Ex} (h : e.ok = true) (f : Int) : (e.flat 0).map (mvR f) = (e.flat 0).map (mvN f) := List.map_congr_left fun x hx => mvR_kn f (flat_kn e 0 h x hx)
theorem take_map {X : List Nod} {k : Nat} (h : k < X.length) (f : Int) : (X.take k).map (mvR f) ++ [mvR f (X.getD k default)] = (X.take (k + 1)).map (mvR f) := by
  rw [List.take_add_one, List.map_append, List.getD, List.getElem?_eq_getElem h]; rfl
theorem runMi {i f : Int} {A X : List Nod} {bl : List Nod → List Blk} (hX : X.length ≤ 1000) (hA : A.length ≤ 1000)
    (ht : ∀ (A : List Nod) (k : Int), (turn (E0 B) (Cx B []) noL 79 sgMi bMi (vMi i f k) (bl A)).sel = bif decide (k < (X.length : Int)) then inb' k X.length (stM f (X.getD k.toNat default) A.length fun x => some (.normal, ⟨vMi i f (w64 (k + 1)), bl (A ++ [x])⟩)) else some (.exit 2, ⟨[.slw 0], [ob A]⟩)) :
    ∃ m, (turns (E0 B) (Cx B []) noL 79 sgMi bMi m (vMi i f 0) (bl A)).sel = some (.exit 2, ⟨[.slw 0], [ob (A ++ X.map (mvR f))]⟩) := by
  obtain ⟨m, hm⟩ := go_turns (E := E0 B) (C := Cx B []) (L := noL) (n := 79) (sg := sgMi) (body := bMi) (st := fun k => vMi i f k) (bs := fun k => bl (A ++ (X.take k).map (mvR f))) (len := X.length) (k := 2) (oe := ⟨[.slw 0], [ob (A ++ X.map (mvR f))]⟩)
    (fun k hk => by
      rw [ht]
      by_cases hlt : k < X.length
      · rw [decide_eq_true hlt, cond_true, decide_eq_true (show (k : Int) < (X.length : Int) by omega), cond_true, inb'_is hlt, Int.toNat_natCast, stM_is (by simp; omega), List.append_assoc, take_map hlt, show w64 ((k : Int) + 1) = ((k + 1 : Nat) : Int) by rw [w64_rng (show Rng ((k : Int) + 1) by unfold Rng; omega)]; omega]
      · rw [decide_eq_false hlt, decide_eq_false (show ¬ (k : Int) < (X.length : Int) by omega), List.take_of_length_le (by omega)]; rfl) X.length 0 (by omega)
  refine ⟨m, ?_⟩
  simp only [List.take_zero, List.map_nil, List.append_nil] at hm
  exact hm
def gMi (t : Nat) (k : Int) (X A : List Nod) : Bool := Nat.beq t 22 && decide (k = 0 ∧ X.length ≤ 1000 ∧ A.length ≤ 1000)
def lMi (f : Int) (A X : List Nod) : T (AExit × Out) := .leaf (.exit 2, ⟨[.slw 0], [⟨true, .nodes (A ++ X.map (mvR f))⟩]⟩)
def spMi : LSpec
  | [.slw 0, .int .i64 0, .int .i64 f, .slw 1, .int .i64 k], [⟨false, .gen [t] [[.slw 2]]⟩, ⟨true, .nodes A⟩, ⟨false, .nodes X⟩] => .node (gMi t k X A) (lMi f A X) .bad
  | [.slw 0, .int .i64 0, .int .i64 f, .slw 1, .int .i64 k], [⟨false, .gen [t] [[.slw 2], [.slw 3]]⟩, ⟨true, .nodes A⟩, ⟨false, .nodes X⟩, ⟨false, .nodes _⟩] => .node (gMi t k X A) (lMi f A X) .bad
  | [.slw 0, .int .i64 1, .int .i64 f, .slw 1, .int .i64 k], [⟨false, .gen [t] [[.slw 2], [.slw 3]]⟩, ⟨true, .nodes A⟩, ⟨false, .nodes _⟩, ⟨false, .nodes Y⟩] => .node (gMi t k Y A) (lMi f A Y) .bad
  | _, _ => .bad
theorem gMi_is {t : Nat} {k : Int} {X A : List Nod} (h : gMi t k X A = true) : t = 22 ∧ k = 0 ∧ X.length ≤ 1000 ∧ A.length ≤ 1000 := by
  unfold gMi at h
  rw [Bool.and_eq_true] at h
  exact ⟨Nat.eq_of_beq_eq_true h.1, of_decide_eq_true h.2⟩
theorem loopMi : LoopOk (E0 B) 79 sgMi bMi spMi := by
  refine loop_turns (C := Cx B []) (L := noL) (cxOk TbOk.nil) (noL_ok _) fun vs bs e o h => ?_
  unfold spMi at h
  split at h
  · rename_i f k t A X
    rcases T.node_sel h with ⟨hc, h2⟩ | ⟨_, h2⟩
    · obtain ⟨rfl, rfl, hX, hA⟩ := gMi_is hc
      obtain ⟨m, hm⟩ := runMi (B := B) (i := 0) (f := f) (A := A) (X := X) (bl := fun A => b1 A X) hX hA fun A k => turn1 A X f k
      exact ⟨m, hm.trans h2⟩
    · simp [T.sel] at h2
  · rename_i f k t A X Y
    rcases T.node_sel h with ⟨hc, h2⟩ | ⟨_, h2⟩
    · obtain ⟨rfl, rfl, hX, hA⟩ := gMi_is hc
      obtain ⟨m, hm⟩ := runMi (B := B) (i := 0) (f := f) (A := A) (X := X) (bl := fun A => b2 A X Y) hX hA fun A k => turn20 A X Y f k
      exact ⟨m, hm.trans h2⟩
    · simp [T.sel] at h2
  · rename_i f k t A X Y
    rcases T.node_sel h with ⟨hc, h2⟩ | ⟨_, h2⟩
    · obtain ⟨rfl, rfl, hX, hA⟩ := gMi_is hc
      obtain ⟨m, hm⟩ := runMi (B := B) (i := 1) (f := f) (A := A) (X := Y) (bl := fun A => b2 A X Y) hX hA fun A k => turn21 A X Y f k
      exact ⟨m, hm.trans h2⟩
    · simp [T.sel] at h2
  · simp [T.sel] at h
noncomputable def eMi : LEnt := { id := 8, n := 79, sg := sgMi, wr := writes bMi, s := spMi }
def sgMo : LSig := { cs := [(3, 192), (10, 0)], mv := [(9, 22), (11, 0)], mo := [(9, 22)], take := [2] }
def xB (k n a b p : Int) : Blk := ⟨true, .gen [5, 2, 3, 3, 3] [[.int .u8 k, i64 n, i64 a, i64 b, i64 p]]⟩
def vMo (i : Int) : List AV := [.slw 0, .ptr 1 0 0, .slw 2, i64 i]
def c1 (k n a b p : Int) (A X : List Nod) : List Blk := [⟨false, .gen [nT] [[.slw 3]]⟩, xB k n a b p, ob A, nbF X]
def c2 (k n a b p : Int) (A X Y : List Nod) : List Blk := [⟨false, .gen [nT] [[.slw 3], [.slw 4]]⟩, xB k n a b p, ob A, nbF X, nbF Y]
def gX (b : Bool) (z : Option (AExit × Out)) : Option (AExit × Out) := bif b then z else none
def adX (A X : List Nod) : List Nod := A ++ X.map (mvR (A.length : Int))
def xMo (k n a b p : Int) (A : List Nod) : Option (AExit × Out) := some (.exit 0, ⟨[.slw 1], [xB k n a b p, ob A]⟩)
theorem o10 (k n a b p : Int) (A X : List Nod) : (turn (E0 B) (Cx B []) (loopL (E0 B) noL [eMi]) 79 sgMo bMo (vMo 0) (c1 k n a b p A X)).sel = gX (gMi 22 0 X A) (some (.normal, ⟨vMo 1, c1 k n (w64 (((adX A X).length : Int) - 1)) b p (adX A X) X⟩)) := by kernel_rfl
theorem o11 (k n a b p : Int) (A X : List Nod) : (turn (E0 B) (Cx B []) (loopL (E0 B) noL [eMi]) 79 sgMo bMo (vMo 1) (c1 k n a b p A X)).sel = xMo k n a b p A := by kernel_rfl
theorem o20 (k n a b p : Int) (A X Y : List Nod) : (turn (E0 B) (Cx B []) (loopL (E0 B) noL [eMi]) 79 sgMo bMo (vMo 0) (c2 k n a b p A X Y)).sel = gX (gMi 22 0 X A) (some (.normal, ⟨vMo 1, c2 k n (w64 (((adX A X).length : Int) - 1)) b p (adX A X) X Y⟩)) := by kernel_rfl
theorem o21 (k n a b p : Int) (A X Y : List Nod) : (turn (E0 B) (Cx B []) (loopL (E0 B) noL [eMi]) 79 sgMo bMo (vMo 1) (c2 k n a b p A X Y)).sel = gX (gMi 22 0 Y A) (some (.normal, ⟨vMo 2, c2 k n a (w64 (((adX A Y).length : Int) - 1)) p (adX A Y) X Y⟩)) := by kernel_rfl
theorem o22 (k n a b p : Int) (A X Y : List Nod) : (turn (E0 B) (Cx B []) (loopL (E0 B) noL [eMi]) 79 sgMo bMo (vMo 2) (c2 k n a b p A X Y)).sel = xMo k n a b p A := by kernel_rfl
theorem o00 (k n a b p : Int) (A : List Nod) : (turn (E0 B) (Cx B []) (loopL (E0 B) noL [eMi]) 79 sgMo bMo (vMo 0) [⟨false, .gen [nT] []⟩, xB k n a b p, ob A]).sel = xMo k n a b p A := by kernel_rfl
def tyN (a b c d e : Nat) : Bool := Nat.beq a 5 && (Nat.beq b 2 && (Nat.beq c 3 && (Nat.beq d 3 && Nat.beq e 3)))
theorem tyN_is {a b c d e : Nat} (h : tyN a b c d e = true) : a = 5 ∧ b = 2 ∧ c = 3 ∧ d = 3 ∧ e = 3 := by
  unfold tyN at h
  simp only [Bool.and_eq_true] at h
  exact ⟨Nat.eq_of_beq_eq_true h.1, Nat.eq_of_beq_eq_true h.2.1, Nat.eq_of_beq_eq_true h.2.2.1, Nat.eq_of_beq_eq_true h.2.2.2.1, Nat.eq_of_beq_eq_true h.2.2.2.2⟩
def lMo (k n a b p : Int) (A : List Nod) : T (AExit × Out) := .leaf (.exit 0, ⟨[.slw 1], [⟨true, .gen [5, 2, 3, 3, 3] [[.int .u8 k, .int .i64 n, .int .i64 a, .int .i64 b, .int .i64 p]]⟩, ⟨true, .nodes A⟩]⟩)
def a1 (X : List Nod) : Int := w64 (((adX [] X).length : Int) - 1)
def spMo : LSpec
  | [.slw 0, .ptr 1 0 0, .slw 2, .int .i64 0], [⟨false, .gen [t] []⟩, ⟨true, .gen [t0, t1, t2, t3, t4] [[.int .u8 k, .int .i64 n, .int .i64 a, .int .i64 b, .int .i64 p]]⟩, ⟨true, .nodes []⟩] =>
    .node (tyN t0 t1 t2 t3 t4 && Nat.beq t 22) (lMo k n a b p []) .bad
  | [.slw 0, .ptr 1 0 0, .slw 2, .int .i64 0], [⟨false, .gen [t] [[.slw 3]]⟩, ⟨true, .gen [t0, t1, t2, t3, t4] [[.int .u8 k, .int .i64 n, .int .i64 _, .int .i64 b, .int .i64 p]]⟩, ⟨true, .nodes []⟩, ⟨false, .nodes X⟩] =>
    .node (tyN t0 t1 t2 t3 t4 && gMi t 0 X []) (lMo k n (a1 X) b p (adX [] X)) .bad
  | [.slw 0, .ptr 1 0 0, .slw 2, .int .i64 0], [⟨false, .gen [t] [[.slw 3], [.slw 4]]⟩, ⟨true, .gen [t0, t1, t2, t3, t4] [[.int .u8 k, .int .i64 n, .int .i64 _, .int .i64 _, .int .i64 p]]⟩, ⟨true, .nodes []⟩, ⟨false, .nodes X⟩, ⟨false, .nodes Y⟩] =>
    .node (tyN t0 t1 t2 t3 t4 && (gMi t 0 X [] && gMi t 0 Y (adX [] X))) (lMo k n (a1 X) (w64 (((adX (adX [] X) Y).length : Int) - 1)) p (adX (adX [] X) Y)) .bad
  | _, _ => .bad
theorem gX_t {b : Bool} (h : b = true) (z : Option (AExit × Out)) : gX b z = z := by rw [h]; rfl
theorem loopMo : LoopOk (E0 B) 79 sgMo bMo spMo := by
  refine loop_turns (C := Cx B []) (L := loopL (E0 B) noL [eMi]) (cxOk TbOk.nil) (loopL_fits (fun x hx => by
    simp only [List.mem_singleton] at hx; subst hx
    exact ⟨bMi, by kernel_rfl, rfl, loopMi⟩) noL_ok) fun vs bs e o h => ?_
  unfold spMo at h
  split at h
  · rename_i t t0 t1 t2 t3 t4 k n a b p
    rcases T.node_sel h with ⟨hc, h2⟩ | ⟨_, h2⟩
    · rw [Bool.and_eq_true] at hc
      obtain ⟨rfl, rfl, rfl, rfl, rfl⟩ := tyN_is hc.1
      obtain rfl := Nat.eq_of_beq_eq_true hc.2
      exact ⟨1, (turns_done (o00 k n a b p []) (by simp)).trans h2⟩
    · simp [T.sel] at h2
  · rename_i t t0 t1 t2 t3 t4 k n a b p X
    rcases T.node_sel h with ⟨hc, h2⟩ | ⟨_, h2⟩
    · rw [Bool.and_eq_true] at hc
      obtain ⟨rfl, rfl, rfl, rfl, rfl⟩ := tyN_is hc.1
      have hg := hc.2
      obtain ⟨rfl, _⟩ := gMi_is hg
      exact ⟨2, (turns_more ((o10 k n a b p [] X).trans (gX_t hg _)) (turns_done (o11 k n _ b p _ X) (by simp))).trans h2⟩
    · simp [T.sel] at h2
  · rename_i t t0 t1 t2 t3 t4 k n a b p X Y
    rcases T.node_sel h with ⟨hc, h2⟩ | ⟨_, h2⟩
    · rw [Bool.and_eq_true, Bool.and_eq_true] at hc
      obtain ⟨rfl, rfl, rfl, rfl, rfl⟩ := tyN_is hc.1
      have hg := hc.2
      obtain ⟨rfl, _⟩ := gMi_is hg.1
      exact ⟨3, (turns_more ((o20 k n a b p [] X Y).trans (gX_t hg.1 _)) (turns_more ((o21 k n _ b p _ X Y).trans (gX_t hg.2 _)) (turns_done (o22 k n _ _ p _ X Y) (by simp)))).trans h2⟩
    · simp [T.sel] at h2
  · simp [T.sel] at h
noncomputable def eMo : LEnt := { id := 4, n := 79, sg := sgMo, wr := writes bMo, s := spMo }
def mO (X : List Nod) : Option Out := some ⟨[.slw 0], [ob X]⟩
def gI (b : Bool) (z : Option Out) : Option Out := bif b then z else none
def gL (n : Nat) (z : Option Out) : Option Out := gI (decide (n + 1 ≤ lim)) z
theorem tMd0 (k n p : Int) : runL B [] [eMo] Tryz.f208 [.int .u8 k, i64 n, i64 p, .slw 0] [gb []] = gI (tyN 5 2 3 3 3 && Nat.beq 22 22) (mO [⟨k, n, 0, 0, p⟩]) := by kernel_rfl
theorem tMd1 (k n p : Int) (X : List Nod) : runL B [] [eMo] Tryz.f208 [.int .u8 k, i64 n, i64 p, .slw 0] [gb [[.slw 1]], nbF X] =
    gI (tyN 5 2 3 3 3 && gMi 22 0 X []) (gL (adX [] X).length (mO (adX [] X ++ [⟨k, n, a1 X, 0, p⟩]))) := by kernel_rfl
theorem tMd2 (k n p : Int) (X Y : List Nod) : runL B [] [eMo] Tryz.f208 [.int .u8 k, i64 n, i64 p, .slw 0] [gb [[.slw 1], [.slw 2]], nbF X, nbF Y] =
    gI (tyN 5 2 3 3 3 && (gMi 22 0 X [] && gMi 22 0 Y (adX [] X))) (gL (adX (adX [] X) Y).length (mO (adX (adX [] X) Y ++ [⟨k, n, a1 X, w64 (((adX (adX [] X) Y).length : Int) - 1), p⟩]))) := by kernel_rfl
end Go.Proofs.YtdckpbeioemopabGreatDoor.R5
namespace Go.Proofs.YtdckpbeioemopabGreatDoor.R5
open Go.Am Go Go.Proofs.YtdckpbeioemopabGreatDoor
set_option maxRecDepth 100000
variable {B : Nat → Option Obj}
theorem adX_is {e : Ex} (h : e.ok = true) (hc : chkN (e.flat 0) = 0) : adX [] (e.flat 0) = e.flat 0 := by
  unfold adX
  rw [List.nil_append, mvR_map h]
  exact mv0_is h hc
theorem a1_is {e : Ex} (h : e.ok = true) (hc : chkN (e.flat 0) = 0) : a1 (e.flat 0) = (e.size : Int) - 1 := by
  have hs := (chk_ok h hc).1
  unfold a1
  rw [adX_is h hc, Ex.flat_len, w64_rng (show Rng ((e.size : Int) - 1) by unfold Rng; omega)]
theorem adX2_is {a b : Ex} (hb : b.ok = true) : adX (a.flat 0) (b.flat 0) = a.flat 0 ++ (b.flat 0).map (mvN ((a.flat 0).length : Int)) := by
  unfold adX
  rw [mvR_map hb]
theorem gMi_of {k : Int} {X A : List Nod} (hk : k = 0) (hX : X.length ≤ 1000) (hA : A.length ≤ 1000) : gMi 22 k X A = true := by
  unfold gMi
  rw [Nat.beq_refl, decide_eq_true (show k = 0 ∧ X.length ≤ 1000 ∧ A.length ≤ 1000 from ⟨hk, hX, hA⟩)]; rfl
theorem gL_in {n : Nat} (h : n ≤ 5000) (z : Option Out) : gL n z = z := by
  unfold gL gI
  rw [decide_eq_true (show n + 1 ≤ lim by simp only [lim]; omega)]; rfl
def sMd : FSpec
  | [.int .u8 k, .int .i64 n, .int .i64 p, .slw 0], [⟨false, .gen [t] []⟩] => .node (Nat.beq t 22) (.leaf ⟨[.slw 0], [⟨true, .nodes [⟨k, n, 0, 0, p⟩]⟩]⟩) .bad
  | [.int .u8 k, .int .i64 0, .int .i64 p, .slw 0], [⟨false, .gen [t] [[.slw 1]]⟩, ⟨false, .nodes X⟩] => .node (Nat.beq t 22 && decide (chkN X = 0)) (.leaf ⟨[.slw 0], [⟨true, .nodes (unL k p X)⟩]⟩) .bad
  | [.int .u8 k, .int .i64 0, .int .i64 p, .slw 0], [⟨false, .gen [t] [[.slw 1], [.slw 2]]⟩, ⟨false, .nodes X⟩, ⟨false, .nodes Y⟩] => .node (Nat.beq t 22 && (decide (chkN X = 0) && decide (chkN Y = 0))) (.leaf ⟨[.slw 0], [⟨true, .nodes (biL k p X Y)⟩]⟩) .bad
  | _, _ => .bad
theorem tyN_t : tyN 5 2 3 3 3 = true := by decide
theorem okMd : FnOk (E0 B) 208 sMd := by
  refine fnL TbOk.nil (ls := [eMo]) Tryz.func208 (by kernel_rfl) (by kernel_rfl) (fun x hx => ?_) fun vs bs r h => ?_
  · simp only [List.mem_singleton] at hx; subst hx
    exact ⟨bMo, by kernel_rfl, rfl, loopMo⟩
  unfold sMd at h
  split at h
  · rename_i k n p t
    rcases T.node_sel h with ⟨hc, h2⟩ | ⟨_, h2⟩
    · obtain rfl := Nat.eq_of_beq_eq_true hc
      refine (tMd0 k n p).trans ?_
      rw [tyN_t, Nat.beq_refl]
      exact h2
    · simp [T.sel] at h2
  · rename_i k p t X
    rcases T.node_sel h with ⟨hc, h2⟩ | ⟨_, h2⟩
    · rw [Bool.and_eq_true] at hc
      obtain rfl := Nat.eq_of_beq_eq_true hc.1
      have hX := of_decide_eq_true hc.2
      obtain ⟨e, he, rfl, hs, _⟩ := chkN_tree hX
      refine (tMd1 k 0 p (e.flat 0)).trans ?_
      rw [tyN_t, gMi_of rfl (by rw [Ex.flat_len]; omega) (by simp), adX_is he hX, a1_is he hX, gL_in (by rw [Ex.flat_len]; omega), ← h2]
      unfold unL
      rw [Ex.flat_len]; rfl
    · simp [T.sel] at h2
  · rename_i k p t X Y
    rcases T.node_sel h with ⟨hc, h2⟩ | ⟨_, h2⟩
    · rw [Bool.and_eq_true, Bool.and_eq_true] at hc
      obtain rfl := Nat.eq_of_beq_eq_true hc.1
      have hX := of_decide_eq_true hc.2.1
      have hY := of_decide_eq_true hc.2.2
      obtain ⟨e, he, rfl, hs, _⟩ := chkN_tree hX
      obtain ⟨e', he', rfl, hs', _⟩ := chkN_tree hY
      have hl : (e.flat 0 ++ (e'.flat 0).map (mvN ((e.flat 0).length : Int))).length = e.size + e'.size := by simp [Ex.flat_len]
      refine (tMd2 k 0 p (e.flat 0) (e'.flat 0)).trans ?_
      rw [tyN_t, adX_is he hX, adX2_is he', gMi_of rfl (by rw [Ex.flat_len]; omega) (by simp), gMi_of rfl (by rw [Ex.flat_len]; omega) (by rw [Ex.flat_len]; omega), a1_is he hX, hl, gL_in (by omega), w64_rng (show Rng (((e.size + e'.size : Nat) : Int) - 1) by unfold Rng; omega), ← h2]
      unfold biL
      rw [Ex.flat_len, Ex.flat_len, List.append_assoc, show (((e.size + e'.size : Nat) : Int) - 1) = (e.size : Int) + (e'.size : Int) - 1 by omega]; rfl
    · simp [T.sel] at h2
  · simp [T.sel] at h
def qTys : List TypeId := [51, 3, 3]
def qB (k : Nat) (at' e : Int) : Blk := ⟨true, .gen qTys [[.slw k, i64 at', i64 e]]⟩
def qOut (L : List Tok) (at' e : Int) (X : List Nod) : Option Out := some ⟨[.slw 1], [qB 2 at' e, ob X, tkb L]⟩
noncomputable def libN : Tb := (208, [], sMd) :: lib5
theorem libN_ok : TbOk B libN := lib5_ok.add okMd
def ndE (L : List Tok) (at' e tk : Int) (X : List Nod) : Option Out :=
  bif decide ((60 : Int) < (X.length : Int)) then qOut L tk 4 [] else gI (decide (X.length ≤ 1000)) (gI (decide (0 ≤ w64 ((X.length : Int) - 1) ∧ w64 ((X.length : Int) - 1) < ((dpL X).length : Int))) (gI (decide ((w64 ((X.length : Int) - 1)).toNat < (dpL X).length))
    (bif decide (20 < (dpL X).getD (w64 ((X.length : Int) - 1)).toNat 0) then qOut L tk 34 [] else qOut L at' e X)))
def ndG (L : List Tok) (at' e tk : Int) (z : Option Out) : Option Out := bif !decide (e = 0) then qOut L at' e [] else inb' tk L.length z
theorem tNd0 (L : List Tok) (k n tk at' e : Int) : runT B libN Tryz.f197 [.ptr 0 0 0, .int .u8 k, i64 n, i64 tk, .slw 1] [qB 2 at' e, gb [], tkb L] =
    ndG L at' e tk (gI (Nat.beq 22 22) (ndE L at' e tk [⟨k, n, 0, 0, tkP L tk⟩])) := by kernel_rfl
theorem tNd1 (L : List Tok) (X : List Nod) (k tk at' e : Int) : runT B libN Tryz.f197 [.ptr 0 0 0, .int .u8 k, i64 0, i64 tk, .slw 1] [qB 2 at' e, gb [[.slw 3]], tkb L, ⟨false, .nodes X⟩] =
    ndG L at' e tk (gI (Nat.beq 22 22 && decide (chkN X = 0)) (ndE L at' e tk (unL k (tkP L tk) X))) := by kernel_rfl
theorem tNd2 (L : List Tok) (X Y : List Nod) (k tk at' e : Int) : runT B libN Tryz.f197 [.ptr 0 0 0, .int .u8 k, i64 0, i64 tk, .slw 1] [qB 2 at' e, gb [[.slw 3], [.slw 4]], tkb L, ⟨false, .nodes X⟩, ⟨false, .nodes Y⟩] =
    ndG L at' e tk (gI (Nat.beq 22 22 && (decide (chkN X = 0) && decide (chkN Y = 0))) (ndE L at' e tk (biL k (tkP L tk) X Y))) := by kernel_rfl
theorem ndE_is {e : Ex} (he : e.ok = true) (L : List Tok) (at' tk : Int) : ndE L at' 0 tk (e.flat 0) = bif decide (chkN (e.flat 0) = 0) then qOut L at' 0 (e.flat 0) else qOut L tk (chkN (e.flat 0)) [] := by
  have h8 : chkN (e.flat 0) ≠ 8 := by
    rw [chkN_flat he]
    cases decide (60 < e.size) <;> cases decide (20 < e.depth) <;> decide
  generalize e.flat 0 = X at h8 ⊢
  have hF := (tCheckR (B := fun _ => none) X).symm.trans (checkR_is (B := fun _ => none) X)
  unfold ndE gI
  by_cases h60 : (60 : Int) < (X.length : Int)
  · rw [decide_eq_true h60] at hF ⊢
    have : chkN X = 4 := by
      simp only [cond_true, ri, Option.some.injEq, Out.mk.injEq, List.cons.injEq, AV.int.injEq, and_true, true_and] at hF
      exact hF.symm
    rw [this]; rfl
  · rw [decide_eq_false h60] at hF ⊢
    have hl : X.length ≤ 1000 := by omega
    rw [decide_eq_true hl] at hF ⊢
    simp only [cond_false, cond_true] at hF ⊢
    have inj : ∀ {n m : Int}, ri n = ri m → n = m := fun {n m} h => by
      simp only [ri, Option.some.injEq, Out.mk.injEq, List.cons.injEq, AV.int.injEq, and_true, true_and] at h
      exact h
    cases hr : isR X with
    | false =>
      rw [hr] at hF
      exact absurd (inj hF).symm h8
    | true =>
      rw [hr] at hF
      simp only [Bool.not_true, cond_false] at hF
      generalize decide (0 ≤ w64 ((X.length : Int) - 1) ∧ w64 ((X.length : Int) - 1) < ((dpL X).length : Int)) = c1 at hF ⊢
      generalize decide ((w64 ((X.length : Int) - 1)).toNat < (dpL X).length) = c2 at hF ⊢
      generalize decide (20 < (dpL X).getD (w64 ((X.length : Int) - 1)).toNat 0) = c3 at hF ⊢
      cases c1 with
      | false => cases hF
      | true =>
        cases c2 with
        | false => cases hF
        | true =>
          cases c3 with
          | true => rw [← inj hF]; rfl
          | false => rw [← inj hF]; rfl
def qT (L : List Tok) (at' e : Int) (X : List Nod) : T Out := .leaf ⟨[.slw 1], [⟨true, .gen [51, 3, 3] [[.slw 2, .int .i64 at', .int .i64 e]]⟩, ⟨true, .nodes X⟩, ⟨false, .toks L⟩]⟩
def tysQ (a b c : Nat) : Bool := Nat.beq a 51 && (Nat.beq b 3 && Nat.beq c 3)
theorem tysQ_is {a b c : Nat} (h : tysQ a b c = true) : a = 51 ∧ b = 3 ∧ c = 3 := by
  unfold tysQ at h
  simp only [Bool.and_eq_true] at h
  exact ⟨Nat.eq_of_beq_eq_true h.1, Nat.eq_of_beq_eq_true h.2.1, Nat.eq_of_beq_eq_true h.2.2⟩
def ndT (L : List Tok) (at' e tk : Int) (g : Bool) (X : List Nod) : T Out := .node (!decide (e = 0) || (decide (0 ≤ tk ∧ tk < (L.length : Int)) && g)) (qT L (mkA e at' tk X) (mkE e X) (mkX (decide (e = 0) && decide (chkN X = 0)) X)) .bad
theorem ndT_sel {L : List Tok} {at' e tk : Int} {g : Bool} {X : List Nod} {r : Out} {z : Option Out} (hX : e = 0 → g = true → z = bif decide (chkN X = 0) then qOut L at' 0 X else qOut L tk (chkN X) []) (h : (ndT L at' e tk g X).sel = some r) : ndG L at' e tk z = some r := by
  unfold ndT at h
  rcases T.node_sel h with ⟨hc, h2⟩ | ⟨_, h2⟩
  · rw [← h2]
    unfold ndG mkA mkE mkX
    by_cases he : e = 0
    · subst he
      simp only [decide_true, Bool.not_true, Bool.false_or, Bool.and_eq_true] at hc
      have h0 := of_decide_eq_true hc.1
      rw [hX rfl hc.2, decide_eq_true (show (0 : Int) = 0 from rfl)]
      unfold inb'
      rw [decide_eq_true h0, decide_eq_true (show tk.toNat < L.length by omega)]
      by_cases hX : chkN X = 0
      · rw [decide_eq_true hX, hX]; rfl
      · rw [decide_eq_false hX]; rfl
    · rw [decide_eq_false he]; rfl
  · simp [T.sel] at h2
def sNd : FSpec
  | [.ptr 0 0 0, .int .u8 k, .int .i64 n, .int .i64 tk, .slw 1], [⟨true, .gen [a, b, c] [[.slw 2, .int .i64 at', .int .i64 e]]⟩, ⟨false, .gen [t] []⟩, ⟨false, .toks L⟩] => .node (tysQ a b c && Nat.beq t 22) (ndT L at' e tk (Ex.leaf k n (tkP L tk)).ok [⟨k, n, 0, 0, tkP L tk⟩]) .bad
  | [.ptr 0 0 0, .int .u8 k, .int .i64 0, .int .i64 tk, .slw 1], [⟨true, .gen [a, b, c] [[.slw 2, .int .i64 at', .int .i64 e]]⟩, ⟨false, .gen [t] [[.slw 3]]⟩, ⟨false, .toks L⟩, ⟨false, .nodes X⟩] =>
    .node (tysQ a b c && Nat.beq t 22) (ndT L at' e tk (decide (5 ≤ k ∧ k ≤ 6 ∧ 0 ≤ tkP L tk ∧ tkP L tk ≤ 400) && decide (chkN X = 0)) (unL k (tkP L tk) X)) .bad
  | [.ptr 0 0 0, .int .u8 k, .int .i64 0, .int .i64 tk, .slw 1], [⟨true, .gen [a, b, c] [[.slw 2, .int .i64 at', .int .i64 e]]⟩, ⟨false, .gen [t] [[.slw 3], [.slw 4]]⟩, ⟨false, .toks L⟩, ⟨false, .nodes X⟩, ⟨false, .nodes Y⟩] =>
    .node (tysQ a b c && Nat.beq t 22) (ndT L at' e tk (decide (7 ≤ k ∧ k ≤ 19 ∧ 0 ≤ tkP L tk ∧ tkP L tk ≤ 400) && (decide (chkN X = 0) && decide (chkN Y = 0))) (biL k (tkP L tk) X Y)) .bad
  | _, _ => .bad
theorem gI_t {b : Bool} (h : b = true) (z : Option Out) : gI b z = z := by rw [h]; rfl
theorem okNd : FnOk (E0 B) 197 sNd := by
  refine fnT libN_ok Tryz.func197 (by kernel_rfl) (by kernel_rfl) fun vs bs r h => ?_
  unfold sNd at h
  split at h
  · rename_i k n tk a b c at' e t L
    rcases T.node_sel h with ⟨hc, h2⟩ | ⟨_, h2⟩
    · rw [Bool.and_eq_true] at hc
      obtain ⟨rfl, rfl, rfl⟩ := tysQ_is hc.1
      obtain rfl := Nat.eq_of_beq_eq_true hc.2
      refine (tNd0 L k n tk at' e).trans (ndT_sel (fun he hg => ?_) h2)
      subst he
      rw [gI_t (Nat.beq_refl _)]
      exact ndE_is hg L at' tk
    · simp [T.sel] at h2
  · rename_i k tk a b c at' e t L X
    rcases T.node_sel h with ⟨hc, h2⟩ | ⟨_, h2⟩
    · rw [Bool.and_eq_true] at hc
      obtain ⟨rfl, rfl, rfl⟩ := tysQ_is hc.1
      obtain rfl := Nat.eq_of_beq_eq_true hc.2
      refine (tNd1 L X k tk at' e).trans (ndT_sel (fun he hg => ?_) h2)
      subst he
      rw [Bool.and_eq_true] at hg
      have hX := of_decide_eq_true hg.2
      obtain ⟨x, hx, rfl, _, _⟩ := chkN_tree hX
      rw [gI_t (by rw [Nat.beq_refl, hg.2]; rfl), unL_is]
      exact ndE_is (by rw [Ex.ok, Bool.and_eq_true]; exact ⟨hg.1, hx⟩) L at' tk
    · simp [T.sel] at h2
  · rename_i k tk a b c at' e t L X Y
    rcases T.node_sel h with ⟨hc, h2⟩ | ⟨_, h2⟩
    · rw [Bool.and_eq_true] at hc
      obtain ⟨rfl, rfl, rfl⟩ := tysQ_is hc.1
      obtain rfl := Nat.eq_of_beq_eq_true hc.2
      refine (tNd2 L X Y k tk at' e).trans (ndT_sel (fun he hg => ?_) h2)
      subst he
      rw [Bool.and_eq_true, Bool.and_eq_true] at hg
      have hX := of_decide_eq_true hg.2.1
      have hY := of_decide_eq_true hg.2.2
      obtain ⟨x, hx, rfl, sx, _⟩ := chkN_tree hX
      obtain ⟨y, hy, rfl, sy, _⟩ := chkN_tree hY
      rw [gI_t (by rw [Nat.beq_refl, hg.2.1, hg.2.2]; rfl), biL_is hy sx sy]
      exact ndE_is (by rw [Ex.ok, Bool.and_eq_true, Bool.and_eq_true]; exact ⟨hg.1, hx, hy⟩) L at' tk
    · simp [T.sel] at h2
  · simp [T.sel] at h
end Go.Proofs.YtdckpbeioemopabGreatDoor.R5
namespace Go.Proofs.YtdckpbeioemopabGreatDoor.R5
open Go.Am Go Go.Proofs.YtdckpbeioemopabGreatDoor
set_option maxRecDepth 100000
variable {B : Nat → Option Obj}
def txP (L : List Tok) (at' e : Int) : List UInt8 := bif decide ((L.length : Int) ≤ at') then [] else bif !decide (e = 0) then [] else bif decide ((L.getD at'.toNat default).kind = 1) then [48] else (L.getD at'.toNat default).text
def txO (L : List Tok) (at' e : Int) (s : List UInt8) : Option Out := some ⟨[.str s], [qB 1 at' e, tkb L]⟩
theorem tTx (L : List Tok) (at' e : Int) : runT B libN Tryz.f196 [.ptr 0 0 0] [qB 1 at' e, tkb L] =
    bif decide ((L.length : Int) ≤ at') then txO L at' e [] else bif !decide (e = 0) then txO L at' e [] else inb' at' L.length (bif decide ((L.getD at'.toNat default).kind = 1) then txO L at' e [48] else inb' at' L.length (txO L at' e (L.getD at'.toNat default).text)) := by kernel_rfl
def sTx : FSpec
  | [.ptr 0 0 0], [⟨true, .gen [a, b, c] [[.slw 1, .int .i64 at', .int .i64 e]]⟩, ⟨false, .toks L⟩] => .node (tysQ a b c && decide (0 ≤ at')) (.leaf ⟨[.str (txP L at' e)], [qB 1 at' e, tkb L]⟩) .bad
  | _, _ => .bad
theorem okTx : FnOk (E0 B) 196 sTx := by
  refine fnT libN_ok Tryz.func196 (by kernel_rfl) (by kernel_rfl) fun vs bs r h => ?_
  unfold sTx at h
  split at h
  · rename_i a b c at' e L
    rcases T.node_sel h with ⟨hc, h2⟩ | ⟨_, h2⟩
    · rw [Bool.and_eq_true] at hc
      obtain ⟨rfl, rfl, rfl⟩ := tysQ_is hc.1
      have h0 := of_decide_eq_true hc.2
      refine (tTx L at' e).trans ?_
      simp only [T.sel, Option.some.injEq] at h2
      subst h2
      unfold txP
      by_cases h1 : (L.length : Int) ≤ at'
      · rw [decide_eq_true h1]; rfl
      · rw [decide_eq_false h1, inb_in h0 (by omega), inb_in h0 (by omega)]
        cases decide (e = 0) with
        | false => rfl
        | true => cases decide ((L.getD at'.toNat default).kind = 1) <;> rfl
    · simp [T.sel] at h2
  · simp [T.sel] at h
noncomputable def bBn : Code := loopAt 3 (loopsOf (bodyC Tryz.f195))
def sgBn : LSig := { cs := [(0, 0), (1, 0), (2, 0), (7, 67)], mv := [(8, 0)], mo := [(6, 0)], take := [] }
def vBn (s : List UInt8) (f t i : Int) : List AV := [.str s, .int .u8 f, .int .u8 t, .slw 0, i64 i]
def bsBn : List Blk := [⟨false, .strs sgnL⟩]
def kBn (i : Int) : Int := IntKind.u8.wrap (w64 (7 + i))
def nBn (s : List UInt8) (f t i : Int) : Option (AExit × Out) := some (.normal, ⟨vBn s f t (w64 (i + 1)), bsBn⟩)
theorem turnBn (s : List UInt8) (f t i : Int) : (turn (E0 B) (Cx B []) noL 37 sgBn bBn (vBn s f t i) bsBn).sel =
    bif decide (i < (sgnL.length : Int)) then inb' i sgnL.length (bif decide (sgnL.getD i.toNat [] = s) then (bif decide (f ≤ kBn i) then (bif decide (kBn i ≤ t) then some (.ret, ⟨[.int .u8 (kBn i)], []⟩) else nBn s f t i) else nBn s f t i) else nBn s f t i) else some (.exit 0, ⟨[.any], []⟩) := by kernel_rfl
def hitB (s : List UInt8) (f t : Int) (j : Nat) : Bool := decide (sgnL.getD j [] = s) && (decide (f ≤ (7 + j : Int)) && decide ((7 + j : Int) ≤ t))
def binK (s : List UInt8) (f t : Int) : Int := bif decide (f ≤ opK s) && (decide (opK s ≤ t) && !decide (opK s = 0)) then opK s else 0
theorem opK_mem (s : List UInt8) : opK s = 0 ∨ ∃ j, j < 13 ∧ s = sgnL.getD j [] := by
  by_cases h0 : s = [42]
  · exact .inr ⟨0, by omega, h0⟩
  by_cases h1 : s = [43]
  · exact .inr ⟨1, by omega, h1⟩
  by_cases h2 : s = [45]
  · exact .inr ⟨2, by omega, h2⟩
  by_cases h3 : s = [60, 60]
  · exact .inr ⟨3, by omega, h3⟩
  by_cases h4 : s = [62, 62]
  · exact .inr ⟨4, by omega, h4⟩
  by_cases h5 : s = [60]
  · exact .inr ⟨5, by omega, h5⟩
  by_cases h6 : s = [60, 61]
  · exact .inr ⟨6, by omega, h6⟩
  by_cases h7 : s = [62]
  · exact .inr ⟨7, by omega, h7⟩
  by_cases h8 : s = [62, 61]
  · exact .inr ⟨8, by omega, h8⟩
  by_cases h9 : s = [61]
  · exact .inr ⟨9, by omega, h9⟩
  by_cases h10 : s = [33, 61]
  · exact .inr ⟨10, by omega, h10⟩
  by_cases h11 : s = [97, 110, 100]
  · exact .inr ⟨11, by omega, h11⟩
  by_cases h12 : s = [111, 114]
  · exact .inr ⟨12, by omega, h12⟩
  left
  unfold opK
  rw [decide_eq_false h0, decide_eq_false h1, decide_eq_false h2, decide_eq_false h3, decide_eq_false h4, decide_eq_false h5, decide_eq_false h6, decide_eq_false h7, decide_eq_false h8, decide_eq_false h9, decide_eq_false h10, decide_eq_false h11, decide_eq_false h12]
  rfl
theorem sg_inj : ∀ i j : Fin 13, decide (sgnL.getD i.val [] = sgnL.getD j.val []) = decide (i.val = j.val) := by decide +kernel
theorem fb_at : ∀ j : Fin 13, firstB (fun i => decide (i = j.val)) 13 0 = j.val := by decide +kernel
theorem sg_op : ∀ j : Fin 13, opK (sgnL.getD j.val []) = 7 + (j.val : Int) := by decide +kernel
theorem kBn_is : ∀ j : Fin 13, kBn (j.val : Int) = 7 + (j.val : Int) := by decide +kernel
theorem bn_is (s : List UInt8) (f t : Int) : (bif decide (firstB (hitB s f t) 13 0 < 13) then (7 + ((firstB (hitB s f t) 13 0 : Nat) : Int)) else 0) = binK s f t := by
  have no : ∀ {b : Nat → Bool}, (∀ j, j < 13 → b j = false) → firstB b 13 0 = 13 := fun {b} h => by
    rw [firstB_congr 13 0 (b' := fun _ => false) fun j _ h2 => h j (by omega)]; rfl
  unfold binK
  rcases opK_mem s with h | ⟨j, hj, rfl⟩
  · have hn : ∀ j, j < 13 → hitB s f t j = false := fun j hj => by
      unfold hitB
      have : ¬ sgnL.getD j [] = s := fun he => by
        have := sg_op ⟨j, hj⟩
        simp only at this
        rw [he, h] at this
        omega
      rw [decide_eq_false this, Bool.false_and]
    rw [no hn, h]; simp
  · have hop := sg_op ⟨j, hj⟩
    simp only at hop
    have hb : ∀ i, i < 13 → hitB (sgnL.getD j []) f t i = (decide (i = j) && (decide (f ≤ (7 + j : Int)) && decide ((7 + j : Int) ≤ t))) := fun i hi => by
      unfold hitB
      have := sg_inj ⟨i, hi⟩ ⟨j, hj⟩
      simp only at this
      rw [this]
      by_cases hij : i = j
      · subst hij; rfl
      · rw [decide_eq_false hij, Bool.false_and, Bool.false_and]
    rw [firstB_congr 13 0 (b' := fun i => decide (i = j) && (decide (f ≤ (7 + j : Int)) && decide ((7 + j : Int) ≤ t))) fun i _ h2 => hb i (by omega), hop, decide_eq_false (show ¬ (7 + (j : Int)) = 0 by omega)]
    cases hc : (decide (f ≤ (7 + j : Int)) && decide ((7 + j : Int) ≤ t)) with
    | true =>
      rw [Bool.and_eq_true] at hc
      have := fb_at ⟨j, hj⟩
      simp only at this
      simp only [Bool.and_true]
      rw [this, decide_eq_true hj, hc.1, hc.2]; rfl
    | false =>
      have : firstB (fun i => decide (i = j) && false) 13 0 = 13 := no fun i _ => Bool.and_false _
      rw [this, Bool.not_false, Bool.and_true, hc]; rfl
def spBn : LSpec
  | [.str s, .int .u8 f, .int .u8 t, .slw 0, .int .i64 i], [⟨false, .strs l⟩] => .node (decide (i = 0 ∧ l = sgnL)) (.node (decide (firstB (hitB s f t) 13 0 < 13)) (.leaf (.ret, ⟨[.int .u8 (7 + ((firstB (hitB s f t) 13 0 : Nat) : Int))], []⟩)) (.leaf (.exit 0, ⟨[.any], []⟩))) .bad
  | _, _ => .bad
theorem loopBn : LoopOk (E0 B) 37 sgBn bBn spBn := by
  refine loop_turns (C := Cx B []) (L := noL) (cxOk TbOk.nil) (noL_ok _) fun vs bs e o h => ?_
  unfold spBn at h
  split at h
  · rename_i s f t i l
    rcases T.node_sel h with ⟨hc, h2⟩ | ⟨_, h2⟩
    · obtain ⟨rfl, rfl⟩ := of_decide_eq_true hc
      obtain ⟨m, hm⟩ := scan_turns (E := E0 B) (C := Cx B []) (L := noL) (n := 37) (sg := sgBn) (body := bBn) (st := fun i => vBn s f t i) (bs := bsBn) (len := 13) (bad := hitB s f t) (ob := fun j => ⟨[.int .u8 (7 + ((j : Nat) : Int))], []⟩) (k := 0) (oe := ⟨[.any], []⟩)
        (fun j hj => by
          rw [turnBn]
          by_cases hlt : j < 13
          · have hk := kBn_is ⟨j, hlt⟩
            simp only at hk
            rw [decide_eq_true hlt, cond_true, decide_eq_true (show (j : Int) < (sgnL.length : Int) from by show (j : Int) < 13; omega), cond_true, inb'_is (show j < sgnL.length from hlt), Int.toNat_natCast, hk]
            unfold hitB nBn
            rw [show w64 ((j : Int) + 1) = ((j + 1 : Nat) : Int) by rw [w64_rng (show Rng ((j : Int) + 1) by unfold Rng; omega)]; omega]
            cases decide (sgnL.getD j [] = s) <;> cases decide (f ≤ (7 + j : Int)) <;> cases decide ((7 + j : Int) ≤ t) <;> rfl
          · rw [decide_eq_false hlt, decide_eq_false (show ¬ (j : Int) < (sgnL.length : Int) from by show ¬ (j : Int) < 13; omega)]; rfl) 13 0 (by omega)
      refine ⟨m, hm.trans ?_⟩
      rw [← h2]
      simp only [T.sel]
    · simp [T.sel] at h2
  · simp [T.sel] at h
noncomputable def eBn : LEnt := { id := 3, n := 37, sg := sgBn, wr := writes bBn, s := spBn }
theorem tBn (s : List UInt8) (f t : Int) : runL B [] [eBn] Tryz.f195 [.str s, .int .u8 f, .int .u8 t] [] =
    gI (decide ((0 : Int) = 0 ∧ sgnL = sgnL)) (bif decide (firstB (hitB s f t) 13 0 < 13) then some ⟨[.int .u8 (7 + ((firstB (hitB s f t) 13 0 : Nat) : Int))], []⟩ else some ⟨[.int .u8 0], []⟩) := by kernel_rfl
def sBn : FSpec
  | [.str s, .int .u8 f, .int .u8 t], [] => .leaf ⟨[.int .u8 (binK s f t)], []⟩
  | _, _ => .bad
theorem okBn : FnOk (E0 B) 195 sBn := by
  refine fnL TbOk.nil (ls := [eBn]) Tryz.func195 (by kernel_rfl) (by kernel_rfl) (fun x hx => ?_) fun vs bs r h => ?_
  · simp only [List.mem_singleton] at hx; subst hx
    exact ⟨bBn, by kernel_rfl, rfl, loopBn⟩
  unfold sBn at h
  split at h
  · rename_i s f t
    simp only [T.sel, Option.some.injEq] at h
    subst h
    refine (tBn s f t).trans ?_
    rw [gI_t (decide_eq_true ⟨rfl, rfl⟩), ← bn_is s f t]
    cases decide (firstB (hitB s f t) 13 0 < 13) <;> rfl
  · simp [T.sel] at h
noncomputable def libT : Tb := (196, [], sTx) :: (195, [], sBn) :: (197, [], sNd) :: (89, [], Lx.sReadL) :: []
theorem libT_ok : TbOk B libT := (((TbOk.nil.add Lx.okRefReadL).add okNd).add okBn).add okTx
end Go.Proofs.YtdckpbeioemopabGreatDoor.R5
