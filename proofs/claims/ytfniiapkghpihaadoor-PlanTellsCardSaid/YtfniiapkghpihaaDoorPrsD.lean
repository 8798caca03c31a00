/-
  Texts put together: PrsLoop, PrsExpr, PrsExpr2, PrsExpr3, PrsParse, PrsText.
-/
import Derived.Test.YtfniiapkghpihaaDoorPrsC
import Derived.Test.YtfniiapkghpihaaDoorLxB
import Derived.Test.YtfniiapkghpihaaDoorNodB
import Derived.Test.YtfniiapkghpihaaDoorExA
/-
  Exprs: expr's loop: the plain law.
-/
namespace Go.Proofs.YtfniiapkghpihaaDoor
open Go.Am
def tokA (L : List Tok) (a : Int) : Tok := L.getD a.toNat default
end Go.Proofs.YtfniiapkghpihaaDoor
/-
  Exprs: expr's loop by contract.
-/
namespace Go.Proofs.YtfniiapkghpihaaDoor
open Go.Am
set_option maxRecDepth 100000
variable {B : Nat → Option Obj}
def sgnL : List (List UInt8) := [[42], [43], [45], [60, 60], [62, 62], [60], [60, 61], [62], [62, 61], [61], [33, 61], [97, 110, 100], [111, 114]]
/-! the loop -/
noncomputable def lib13 (_ : Nat) : Tb := lib9
end Go.Proofs.YtfniiapkghpihaaDoor
/-
  Exprs: expr by contract.
-/
namespace Go.Proofs.YtfniiapkghpihaaDoor
open Go.Am
set_option maxRecDepth 100000
variable {B : Nat → Option Obj}
structure PInv (L : List Tok) (st : PSt) : Prop where
  h : st.e = 0 → 0 ≤ st.at' ∧ st.at' ≤ L.length ∧ chkN st.X = 0
theorem inb_in {α : Type} {i : Int} {n : Nat} (h0 : 0 ≤ i) (h1 : i < n) (x : Option α) : inb' i n x = x := by
  unfold inb'
  rw [decide_eq_true (show 0 ≤ i ∧ i < (n : Int) from ⟨h0, h1⟩), decide_eq_true (show i.toNat < n by omega)]; rfl
/-! the loop, by contract -/
end Go.Proofs.YtfniiapkghpihaaDoor
/-
  Exprs: expr by contract, at all strengths.
-/
namespace Go.Proofs.YtfniiapkghpihaaDoor
open Go.Am
set_option maxRecDepth 100000
variable {B : Nat → Option Obj}
end Go.Proofs.YtfniiapkghpihaaDoor
/-
  Exprs: Parse by contract.
-/
namespace Go.Proofs.YtfniiapkghpihaaDoor
open Go.Am
set_option maxRecDepth 100000
variable {B : Nat → Option Obj}
noncomputable def lib14 : Tb := lib9
theorem lib14_ok (_hB : Laid B) : TbOk B lib14 := (lib9_ok)
def ptS (L : List Tok) (i : Int) : List Tok := (L.drop i.toNat).take ((w64 (i + 1)).toNat - i.toNat)
def ptB (L M : List Tok) (i : Int) (x y : Option (AExit × Out)) : Option (AExit × Out) := bif decide (jE (ptS L i) = 8) then x else bif decide ((tokA M i).pos < 0) then x else bif decide (400 < (tokA M i).pos) then x else y
def ptV (n i : Int) : List AV := [.slw 0, .slw 1, i64 n, i64 i]
def ptX : Out := ⟨[.any, .any, .any], []⟩
def okV (t : Tok) : Bool := validB t && decide (0 ≤ t.pos ∧ t.pos ≤ 400)
/-! Parse -/
end Go.Proofs.YtfniiapkghpihaaDoor
/-
  Exprs: text by contract.
-/
namespace Go.Proofs.YtfniiapkghpihaaDoor
open Go.Am Go.Shelf
set_option maxRecDepth 100000
variable {B : Nat → Option Obj}
theorem formatOk (hB : Laid B) : FnOk (E0 B) 36 sFormat :=
  format_ok (fnAt_mk (fn := Tryd.f36) Tryd.func36 (by kernel_rfl) (by kernel_rfl)) fun n w hg h0 h1 =>
    Any.strconv_FormatInt_10 Tryd.laysM173 n h0 h1 w (hB.pow w hg.base)
def rngX (X : List Nod) : Bool := X.all fun x => rng64 x.n
def strO (s : List UInt8) : Option Out := some ⟨[.str s], []⟩
def catO (a b : List UInt8) (f : List UInt8 → Option Out) : Option Out := bif decide (a.length + b.length ≤ lim) then f (a ++ b) else none
def partO (p : Bool) (s : List UInt8) : Option Out := bif p then catO [40] s (fun u => catO u [41] strO) else strO s
def u8 (n : Int) : Int := IntKind.u8.wrap n
theorem catO_in {a b : List UInt8} (h : a.length + b.length ≤ 1000000) (f : List UInt8 → Option Out) : catO a b f = f (a ++ b) := by
  unfold catO
  rw [decide_eq_true (show a.length + b.length ≤ lim by simp only [lim]; omega)]; rfl
theorem partO_in {p : Bool} {s : List UInt8} (h : s.length ≤ 400000) : partO p s = strO (brT p s) := by
  unfold partO brT
  cases p with
  | false => rfl
  | true =>
    rw [cond_true, catO_in (by simp only [List.length_cons, List.length_nil]; omega), catO_in (by simp only [List.length_append, List.length_cons, List.length_nil]; omega), List.append_assoc]; rfl
theorem op_txt : ∀ k : Fin 20, 7 ≤ k.val → 0 ≤ u8 ((k.val : Int) - 7) ∧ u8 ((k.val : Int) - 7) < 13 ∧ sgnL.getD (u8 ((k.val : Int) - 7)).toNat [] = opT k.val := by decide +kernel
theorem brT_ge (p : Bool) (s : List UInt8) : s.length ≤ (brT p s).length := by unfold brT; cases p <;> simp <;> omega
/-! Text -/
def tx2 (s : List UInt8) (e : Int) : Option Out := some ⟨[.str s, i64 e], []⟩
/-- the text of nodes -/
def txS (X : List Nod) : List UInt8 := bif decide (chkN X = 0) then txN 20 X ((X.length : Int) - 1) false else []
theorem rng_flat : ∀ (e : Ex) (o : Int), rngX (e.flat o) = e.rng
  | .leaf k n p, o => by
    show (rng64 n && true) = decide (Rng n)
    rw [Bool.and_true]
    unfold rng64 Rng
    congr 1
  | .un k p e, o => by
    show (e.flat o ++ [_]).all _ = e.rng
    rw [List.all_append]
    have := rng_flat e o
    unfold rngX at this
    rw [this]
    cases e.rng <;> rfl
  | .bin k p a b, o => by
    show (a.flat o ++ (b.flat (o + a.size) ++ [_])).all _ = (a.rng && b.rng)
    rw [List.all_append, List.all_append]
    have h1 := rng_flat a o
    have h2 := rng_flat b (o + a.size)
    unfold rngX at h1 h2
    rw [h1, h2]
    cases a.rng <;> cases b.rng <;> rfl
theorem txS_is {e : Ex} (h : e.ok = true) (hc : chkN (e.flat 0) = 0) : txS (e.flat 0) = e.txt true ∧ okX 20 (e.flat 0) (((e.flat 0).length : Int) - 1) = true := by
  have hs := chk_ok h hc
  have := txN_flat e 20 [] [] false h hs.2
  simp only [List.nil_append, List.append_nil, List.length_nil] at this
  rw [show ((0 : Nat) : Int) + (e.size : Int) - 1 = (e.size : Int) - 1 by omega] at this
  rw [Ex.flat_len]
  refine ⟨?_, this.2⟩
  unfold txS
  rw [decide_eq_true hc, cond_true, Ex.flat_len]
  exact this.1
end Go.Proofs.YtfniiapkghpihaaDoor
