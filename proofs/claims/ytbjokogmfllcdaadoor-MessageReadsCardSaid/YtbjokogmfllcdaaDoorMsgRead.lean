/-
  Message: numbers and Read by contract.
-/
import Derived.Test.YtbjokogmfllcdaaDoorMsgLawE
import Derived.Test.YtbjokogmfllcdaaDoorMsgPure2
namespace Go.Proofs.YtbjokogmfllcdaaDoor
open Go.Am
set_option maxRecDepth 100000
variable {B : Nat → Option Obj}
theorem fnOk_or {E : Env} {f : FuncId} {s1 s2 s : FSpec} (h1 : FnOk E f s1) (h2 : FnOk E f s2) (h : ∀ vs bs r, (s vs bs).sel = some r → (s1 vs bs).sel = some r ∨ (s2 vs bs).sel = some r) : FnOk E f s :=
  ⟨h1.1, fun vs bs out hs => (h vs bs out hs).elim (h1.2 vs bs out) (h2.2 vs bs out)⟩
def nn : Option Out := some ⟨[.slw 0, .bool false], [⟨true, .ints .i64 []⟩]⟩
def nOne (a : List UInt8) (k : Option Out) : Option Out := bif decide (a.length ≤ lim) && (decide ((10 : Int) = 10) && decide ((64 : Int) = 64)) then (bif pOk a then (bif rng64 (pVal a) && decide ((10 : Int) = 10) then (bif !decide (Lib.itoa (pVal a) = a) then nn else k) else none) else nn) else none
def nEnd (l : List Int) : Option Out := some ⟨[.slw 0, .bool true], [⟨true, .ints .i64 l⟩]⟩
theorem tNum1 (a : List UInt8) : runT B (libR lib5) Tryd.f36 [.slw 0, i64 1] [⟨false, .strs [a]⟩] = nOne a (nEnd [pVal a]) := by kernel_rfl
theorem tNum3 (a b c : List UInt8) : runT B (libR lib5) Tryd.f36 [.slw 0, i64 3] [⟨false, .strs [a, b, c]⟩] = nOne a (nOne b (nOne c (nEnd [pVal a, pVal b, pVal c]))) := by kernel_rfl
theorem tNum5 (a b c d e : List UInt8) : runT B (libR lib5) Tryd.f36 [.slw 0, i64 5] [⟨false, .strs [a, b, c, d, e]⟩] = nOne a (nOne b (nOne c (nOne d (nOne e (nEnd [pVal a, pVal b, pVal c, pVal d, pVal e]))))) := by kernel_rfl
theorem tNum (L : List (List UInt8)) (n : Int) : runL B (libR lib5) [] Tryd.f36 [.slw 0, i64 n] [⟨false, .strs L⟩] = bif !decide ((L.length : Int) = n) then nn else none := by kernel_rfl
theorem nOne_is {a : List UInt8} (h : a.length ≤ lim) (k : Option Out) : nOne a k = bif numOk a then k else nn := by
  unfold nOne numOk
  rw [decide_eq_true h, show rng64 (pVal a) = true from decide_eq_true (p_rng a)]
  cases pOk a <;> cases decide (Lib.itoa (pVal a) = a) <;> rfl
def numIn (n : Int) (L : List (List UInt8)) : Bool := decide (n = 1 ∨ n = 3 ∨ n = 5) && L.all fun a => decide (a.length ≤ lim)
def sNumbers : FSpec
  | [.slw 0, .int .i64 n], [⟨false, .strs L⟩] => .node (numIn n L) (.node (numsOk n L) (.leaf ⟨[.slw 0, .bool true], [⟨true, .ints .i64 (L.map pVal)⟩]⟩) (.leaf ⟨[.slw 0, .bool false], [⟨true, .ints .i64 []⟩]⟩)) .bad
  | _, _ => .bad
theorem okNumbers (hB : Laid B) : FnOk (E0 B) 36 sNumbers := by
  have ok5 := libR_ok hB (lib5_ok hB.toLaidF)
  refine fnOk_or
    (fnT ok5 Tryd.func36 (by kernel_rfl) (by kernel_rfl) (s := fun vs bs => fnRun (E0 B) (Cx B (libR lib5)) (inlL (E0 B) (Cx B (libR lib5)) 450) Tryd.f36 (bodyC Tryd.f36) vs bs) fun _ _ _ h => h)
    (fnL ok5 Tryd.func36 (by kernel_rfl) (by kernel_rfl) (ls := []) (fun x hx => by cases hx) (s := fun vs bs => fnRun (E0 B) (Cx B (libR lib5)) (loopL (E0 B) noL []) Tryd.f36 (bodyC Tryd.f36) vs bs) fun _ _ _ h => h) fun vs bs r h => ?_
  unfold sNumbers at h
  split at h
  · rename_i n L
    rcases T.node_sel h with ⟨hc, h2⟩ | ⟨_, h2⟩
    · unfold numIn at hc
      rw [Bool.and_eq_true] at hc
      have hn := of_decide_eq_true hc.1
      have hl : ∀ a ∈ L, a.length ≤ lim := fun a ha => of_decide_eq_true (List.all_eq_true.1 hc.2 a ha)
      by_cases hL : (L.length : Int) = n
      · left
        have hout : (bif numsOk n L then nEnd (L.map pVal) else nn) = some r := by
          rw [← h2]; simp only [T.sel]; unfold nEnd nn; cases numsOk n L <;> rfl
        unfold numsOk at hout
        rw [decide_eq_true hL, Bool.true_and] at hout
        clear h h2
        rcases hn with rfl | rfl | rfl
        · match L, hL, hl, hout with
          | [a], _, hl, hout =>
            refine Eq.trans (tNum1 a) ?_
            rw [nOne_is (hl a (by simp)), ← hout]
            simp only [List.all_cons, List.all_nil, List.map_cons, List.map_nil, Bool.and_true]
          | [], h, _, _ => simp at h
          | _ :: _ :: _, h, _, _ => simp at h; omega
        · match L, hL, hl, hout with
          | [a, b, c], _, hl, hout =>
            refine Eq.trans (tNum3 a b c) ?_
            rw [nOne_is (hl a (by simp)), nOne_is (hl b (by simp)), nOne_is (hl c (by simp)), ← hout]
            simp only [List.all_cons, List.all_nil, List.map_cons, List.map_nil, Bool.and_true]
            cases numOk a <;> cases numOk b <;> cases numOk c <;> rfl
          | [], h, _, _ => simp at h
          | [_], h, _, _ => simp at h
          | [_, _], h, _, _ => simp at h
          | _ :: _ :: _ :: _ :: _, h, _, _ => simp at h; omega
        · match L, hL, hl, hout with
          | [a, b, c, d, e], _, hl, hout =>
            refine Eq.trans (tNum5 a b c d e) ?_
            rw [nOne_is (hl a (by simp)), nOne_is (hl b (by simp)), nOne_is (hl c (by simp)), nOne_is (hl d (by simp)), nOne_is (hl e (by simp)), ← hout]
            simp only [List.all_cons, List.all_nil, List.map_cons, List.map_nil, Bool.and_true]
            cases numOk a <;> cases numOk b <;> cases numOk c <;> cases numOk d <;> cases numOk e <;> rfl
          | [], h, _, _ => simp at h
          | [_], h, _, _ => simp at h
          | [_, _], h, _, _ => simp at h
          | [_, _, _], h, _, _ => simp at h
          | [_, _, _, _], h, _, _ => simp at h
          | _ :: _ :: _ :: _ :: _ :: _ :: _, h, _, _ => simp at h; omega
      · right
        refine Eq.trans (tNum L n) ?_
        rw [decide_eq_false hL]
        unfold numsOk at h2
        rw [decide_eq_false hL, Bool.false_and] at h2
        exact h2
    · simp [T.sel] at h2
  · simp [T.sel] at h
noncomputable def lib7 : Tb := (36, [], sNumbers) :: lib6
theorem lib7_ok (hB : Laid B) : TbOk B lib7 := (lib6_ok hB).add (okNumbers hB)
end Go.Proofs.YtbjokogmfllcdaaDoor
