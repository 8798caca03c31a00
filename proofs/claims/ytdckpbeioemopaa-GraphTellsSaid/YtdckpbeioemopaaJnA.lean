/-
  Texts put together: JnFn, EndsFn, EndsFn2, JnFn2, SortFn.
-/
import Derived.Test.YtdckpbeioemopaaNodBase
import Derived.Test.YtdckpbeioemopaaAmD
import Derived.Test.YtdckpbeioemopaaGrB
import Derived.Test.YtdckpbeioemopaaLibA
import Derived.Sort.OwnSortedInts
import Derived.Test.YtdckpbeioemopaaLayS
namespace Go.Proofs.Ytdckpbeioemopaa.Jo
open Go.Am Go Go.Proofs.Ytdckpbeioemopaa
set_option maxRecDepth 100000
variable {B : Nat → Option Obj}
noncomputable def jC : Code := bodyC Try.f21
noncomputable def j1 : Code := sB jC
noncomputable def j2 : Code := sB j1
noncomputable def j3 : Code := sB j2
noncomputable def r0 : Code := sA jC
noncomputable def r1 : Code := sA j1
noncomputable def r2 : Code := sA (sA j2)
noncomputable def b1 : Code := lP (bK (sB (sA j2)))
noncomputable def r12 : Code := sA (sA j3)
noncomputable def b2 : Code := lP (bK (sB (sA j3)))
noncomputable def r19 : Code := sB j3
theorem jC_eq : jC = .seq r0 (.seq r1 (.seq (.seq r2 (.block 0 (.loop b1))) (.seq (.seq r12 (.block 2 (.loop b2))) r19))) := by kernel_rfl
noncomputable def r3 : Code := sA b1
noncomputable def k1 : Code := bK (sA (sB (sB b1)))
noncomputable def r4 : Code := sA k1
noncomputable def r5 : Code := sA (sB k1)
noncomputable def r7 : Code := sA (sB (sB k1))
noncomputable def r10 : Code := sB (sB (sB k1))
noncomputable def r11 : Code := sB (sB (sB b1))
theorem b1_eq : b1 = .seq r3 (.seq (.cond (.tmp 24) .skip (.exit 0)) (.seq (.block 1 (.seq r4 (.seq r5 (.seq r7 r10)))) r11)) := by kernel_rfl
noncomputable def r13 : Code := sA b2
noncomputable def k3 : Code := bK (sA (sB (sB b2)))
noncomputable def r14 : Code := sA k3
noncomputable def r15 : Code := sA (sB k3)
noncomputable def r16 : Code := sA (sB (sB k3))
noncomputable def r17 : Code := cA (sB (sB (sB k3)))
noncomputable def r18 : Code := sB (sB (sB b2))
theorem b2_eq : b2 = .seq r13 (.seq (.cond (.tmp 116) .skip (.exit 2)) (.seq (.block 3 (.seq r14 (.seq r15 (.seq r16 (.cond (.tmp 141) r17 .skip))))) r18)) := by kernel_rfl
def gTy : List TypeId := [31, 32]
def gBx (a b : Nat) : Blk := ⟨true, .gen gTy [[.slw a, .slw b]]⟩
def ob (O : List Opr) : Blk := ⟨false, .oprs O⟩
def cb (C : List Chn) : Blk := ⟨false, .chns C⟩
def cTy : List TypeId := [3, 3, 3, 3, 3]
def cBx (c : Chn) : Blk := ⟨true, .gen cTy [[i64 c.src, i64 c.out, i64 c.dst, i64 c.inp, i64 c.room]]⟩
def bsG (O : List Opr) (C : List Chn) : List Blk := [gBx 1 2, ob O, cb C]
def bs0 (O : List Opr) (C : List Chn) : List Blk := [ob O, cb C]
def bsA (O : List Opr) (C : List Chn) : List Blk := [ob O, cb C, gBx 3 4, ob O, cb C]
noncomputable abbrev tu (B : Nat → Option Obj) (c : Code) (sl mo : List (Nat × TypeId)) (vs : List AV) (bs : List Blk) : Option (AExit × Out) := (turn (E0 B) (Cx B []) noL 143 ⟨[], sl, mo, []⟩ c vs bs).sel
def sl0 : List (Nat × TypeId) := [(0, 34), (1, 0), (2, 0)]
theorem t0 (O : List Opr) (C : List Chn) : tu B r0 sl0 [] [.agg [.slw 0, .slw 1], .any, .any] (bs0 O C) = some (.normal, ⟨[.agg [.slw 0, .slw 1], .ptr 2 0 0, .bool false], bsA O C⟩) := by kernel_rfl
def sl1 : List (Nat × TypeId) := [(1, 0), (21, 32), (22, 0), (23, 0)]
def vs1 (n i : Int) : List AV := [.ptr 0 0 0, .slw 1, i64 n, i64 i]
def bsC (O : List Opr) (C : List Chn) : List Blk := [gBx 2 3, cb C, ob O, cb C]
theorem t2 (O : List Opr) (C : List Chn) : tu B r2 sl1 [] [.ptr 0 0 0, .any, .any, .any] (bsG O C) = some (.normal, ⟨vs1 C.length 0, bsC O C⟩) := by kernel_rfl
theorem t3 (O : List Opr) (C : List Chn) (n i : Int) : tu B r3 (sl1 ++ [(24, 0)]) [] (vs1 n i ++ [.any]) (bsC O C) = some (.normal, ⟨vs1 n i ++ [.bool (decide (i < n))], bsC O C⟩) := by kernel_rfl
def cAt (C : List Chn) (i : Int) : Chn := C.getD i.toNat default
def inb (i : Int) (n : Nat) (r : Option (AExit × Out)) : Option (AExit × Out) := bif decide (0 ≤ i ∧ i < (n : Int)) then (bif decide (i.toNat < n) then r else none) else none
def bsCc (O : List Opr) (C : List Chn) (c : Chn) : List Blk := [gBx 3 4, cb C, cBx c, ob O, cb C]
def vsc (n i : Int) : List AV := vs1 n i ++ [.ptr 2 0 0, i64 i]
theorem t4 (O : List Opr) (C : List Chn) (n i : Int) : tu B r4 (sl1 ++ [(6, 0), (5, 0)]) [] (vs1 n i ++ [.any, .any]) (bsC O C) = inb i C.length (some (.normal, ⟨vsc n i, bsCc O C (cAt C i)⟩)) := by kernel_rfl
def bad1 (n : Nat) (c : Chn) (x y : Option (AExit × Out)) : Option (AExit × Out) :=
  bif decide ((if c.dst < c.src then c.dst else c.src) < 0) then x else bif decide ((n : Int) ≤ (if c.src < c.dst then c.dst else c.src)) then x else bif decide (c.room < 1) then x else bif decide (8 < c.room) then x else y
theorem t5 (O : List Opr) (C : List Chn) (n i : Int) (c : Chn) : tu B r5 (sl1 ++ [(6, 0), (5, 0)]) [(2, 0)] (vsc n i) (bsCc O C c) =
    bad1 O.length c (some (.ret, ⟨[.bool false], [gBx 2 3, cBx c, ob O, cb C]⟩)) (some (.normal, ⟨vsc n i, bsCc O C c⟩)) := by kernel_rfl
def bad2 (i : Int) (b c : Chn) (x y : Option (AExit × Out)) : Option (AExit × Out) :=
  bif decide (0 < i) then (bif decide (c.src < b.src) then x else bif decide (b.src = c.src) then (bif decide (c.out ≤ b.out) then x else y) else y) else y
def prv (i : Int) : Int := if 0 < w64 (i - 1) then w64 (i - 1) else 0
theorem t7 (O : List Opr) (C : List Chn) (n i : Int) (c : Chn) : tu B r7 (sl1 ++ [(6, 0), (5, 0)]) [(2, 0)] (vsc n i) (bsCc O C c) =
    inb (prv i) C.length (bad2 i (cAt C (prv i)) c (some (.ret, ⟨[.bool false], [gBx 2 3, cBx c, ob O, cb C]⟩)) (some (.normal, ⟨vsc n i, bsCc O C c⟩))) := by kernel_rfl
theorem t11 (O : List Opr) (C : List Chn) (n i : Int) : tu B r11 sl1 [] (vs1 n i) (bsC O C) = some (.normal, ⟨vs1 n (w64 (i + 1)), bsC O C⟩) := by kernel_rfl
def gd {α : Type} (b : Bool) (z : Option α) : Option α := bif b then z else none
def sl10 : List (Nat × TypeId) := sl1 ++ [(6, 0), (3, 0), (4, 0)]
def vs10 (n i t f : Int) (k : Nat) : List AV := vs1 n i ++ [.ptr 2 0 0, .foc 7 t k, .foc 8 f k]
theorem t10 (O : List Opr) (C : List Chn) (n i t f : Int) (k : Nat) (c : Chn) (l1 l2 : List Int) :
    (Go.Am.focT (E0 B) (Cx B []) noL r10 (loopSt (E0 B) 143 ⟨[], sl10, [], []⟩ (vs10 n i t f k) (focBs 24 (bsCc O C c) l1 l2)) 7 8 [] sl1).sel =
      gd (decide (c.dst = t ∧ 0 ≤ t ∧ t < (k : Int))) (gd (decide (l1.length + 1 ≤ lim)) (gd (decide (c.src = f ∧ 0 ≤ f ∧ f < (k : Int))) (gd (decide (l2.length + 1 ≤ lim)) (gd (decide (c.dst = t ∧ 0 ≤ t ∧ t < (k : Int))) (gd (decide (c.src = f ∧ 0 ≤ f ∧ f < (k : Int))) (some (⟨vs1 n i, bsC O C⟩, l1 ++ [c.inp], l2 ++ [c.out]))))))) := by kernel_rfl
end Go.Proofs.Ytdckpbeioemopaa.Jo
namespace Go.Proofs.Ytdckpbeioemopaa.En
open Go.Am Go Go.Proofs.Ytdckpbeioemopaa Go.Proofs.Ytdckpbeioemopaa.Jo
set_option maxRecDepth 100000
variable {B : Nat → Option Obj}
structure SortOk : Prop where
  some : ∀ (blk off cap : Nat) (zs : List Int) (w : World), Sort.Holds (Value.int .i64) w blk off zs.toArray → blk < w.heap.size → zs.length < 4611686018427387904 →
    Calls Try.prog 42 #[.slice (some ⟨blk, off, none⟩) zs.length cap] w fun e w' => e = .returned (.tuple #[]) ∧ ∃ n os, w' = Sort.grow (Sort.putRow (Value.int .i64) (Sort.ahead w n) blk off (srt zs).toArray) os
  none : ∀ (p : Option Addr) (cap : Nat) (w : World), Calls Try.prog 42 #[.slice p 0 cap] w fun e w' => e = .returned (.tuple #[]) ∧ w' = w
noncomputable def eC : Code := bodyC Try.f30
noncomputable def r0 : Code := sA eC
noncomputable def r1 : Code := sA (sB eC)
noncomputable def rst : Code := sB (sB eC)
noncomputable def bE : Code := lP (bK (sB (sA rst)))
theorem eC_eq : eC = .seq r0 (.seq r1 rst) := by kernel_rfl
def aBx (x y : Int) : Blk := ⟨true, .gen [3, 3] [[i64 x, i64 y]]⟩
def own (l : List Int) : Blk := ⟨true, .ints .i64 l⟩
def slA : List (Nat × TypeId) := [(0, 24), (1, 72), (3, 0), (4, 0)]
theorem t0 (l : List Int) (x y : Int) : (turn (E0 B) (Cx B []) noL 32 ⟨[], slA, [], [0]⟩ r0 [.slw 0, .agg [i64 x, i64 y], .any, .any] [own l]).sel = some (.normal, ⟨[.slw 0, .agg [i64 x, i64 y], .ptr 1 0 0, .bool false], [own l, aBx x y]⟩) := by kernel_rfl
def sgE : LSig := { cs := [(9, 24), (10, 0)], mv := [(11, 0)], mo := [(4, 0)], take := [] }
def vE (n i : Int) : List AV := [.slw 0, i64 n, i64 i]
def bsE (s : List Int) : List Blk := [⟨false, .ints .i64 s⟩]
theorem turnE (s : List Int) (n i : Int) : (turn (E0 B) (Cx B []) noL 32 sgE bE (vE n i) (bsE s)).sel =
    bif decide (i < n) then inb i s.length (bif !decide (s.getD i.toNat 0 = i) then some (.ret, ⟨[.bool false], []⟩) else some (.normal, ⟨vE n (w64 (i + 1)), bsE s⟩)) else some (.exit 0, ⟨[.any], []⟩) := by kernel_rfl
def spE : LSpec
  | [.slw 0, .int .i64 n, .int .i64 i], [⟨false, .ints .i64 s⟩] => .node (decide (n = (s.length : Int) ∧ i = 0 ∧ s.length ≤ 1000)) (.node ((List.range' 0 s.length).any (badE s)) (.leaf (.ret, ⟨[.bool false], []⟩)) (.leaf (.exit 0, ⟨[.any], []⟩))) .bad
  | _, _ => .bad
theorem inb_is {i n : Nat} {r : Option (AExit × Out)} (h : i < n) : inb (i : Int) n r = r := by
  unfold inb
  rw [decide_eq_true (show 0 ≤ (i : Int) ∧ (i : Int) < (n : Int) by omega), Int.toNat_natCast, decide_eq_true h]; rfl
theorem loopE : LoopOk (E0 B) 32 sgE bE spE := by
  refine loop_turns (C := Cx B []) (L := noL) (cxOk TbOk.nil) (noL_ok _) fun vs bs e o h => ?_
  unfold spE at h
  split at h
  · rename_i n i s
    rcases T.node_sel h with ⟨hc, h2⟩ | ⟨_, h2⟩
    · obtain ⟨rfl, rfl, hs⟩ := of_decide_eq_true hc
      obtain ⟨m, hm⟩ := scan_turns (E := E0 B) (C := Cx B []) (L := noL) (n := 32) (sg := sgE) (body := bE) (st := fun k => vE s.length k) (bs := bsE s) (len := s.length) (bad := badE s) (ob := fun _ => ⟨[.bool false], []⟩) (k := 0) (oe := ⟨[.any], []⟩)
        (fun k hk => by
          refine (turnE s s.length k).trans ?_
          by_cases hlt : k < s.length
          · rw [decide_eq_true (show (k : Int) < ((s.length : Nat) : Int) by omega), decide_eq_true hlt, cond_true, cond_true, inb_is hlt, Int.toNat_natCast, w64_rng (show Rng ((k : Int) + 1) by unfold Rng; omega)]
            rfl
          · rw [decide_eq_false (show ¬ (k : Int) < ((s.length : Nat) : Int) by omega), decide_eq_false hlt]; rfl) s.length 0 (by omega)
      refine ⟨m, hm.trans ?_⟩
      have hf := firstB_any (badE s) s.length 0
      rw [Nat.zero_add] at hf
      rw [hf, ← h2]
      rfl
    · simp [T.sel] at h2
  · simp [T.sel] at h
noncomputable def eE : LEnt := { id := 3, n := 32, sg := sgE, wr := writes bE, s := spE }
def slR : List (Nat × TypeId) := [(0, 24), (3, 0)]
theorem tR (s : List Int) (x y : Int) : (turn (E0 B) (Cx B []) (loopL (E0 B) noL [eE]) 32 ⟨[], slR, [(4, 0)], []⟩ rst [.slw 1, .ptr 0 0 0] [aBx x y, own s]).sel =
    gd (decide ((s.length : Int) = (s.length : Int) ∧ (0 : Int) = 0 ∧ s.length ≤ 1000)) (bif (List.range' 0 s.length).any (badE s) then some (.ret, ⟨[.bool false], [aBx x y]⟩) else
      bif decide (x ≤ (s.length : Int)) then some (.ret, ⟨[.bool (decide ((s.length : Int) ≤ y))], [aBx x y]⟩) else some (.ret, ⟨[.bool false], [aBx x y]⟩)) := by kernel_rfl
end Go.Proofs.Ytdckpbeioemopaa.En
namespace Go.Proofs.Ytdckpbeioemopaa.En
open Go.Am Go Go.Proofs.Ytdckpbeioemopaa Go.Proofs.Ytdckpbeioemopaa.Jo
set_option maxRecDepth 100000
variable {B : Nat → Option Obj}
theorem wpList_call1 {P : Program} {ops : Array Oper} {rest : List Oper} {o : Oper} {a : Act} {w : World} {Q : Exit → Act → World → Prop} {c : Call} {f : FuncId} {fn : Func} {i : Nat} {v : Value} {R : Ending → World → Prop} (hg : o.guard = none) (hop : o.op = .call c) (hc : c.callee = .value (.func f)) (ha : c.args = #[.tmp i]) (hfn : P.funcs[f]? = some fn) (hbody : fn.body.isNone = false) (hname : (fn.name == "runtime.NumGoroutine") = false)
    (hv : a.tmps.getD i undef = v) (hcalls : Calls P f #[v] w R) (hK : ∀ e w', R e w' → ∃ cv, e = .returned cv ∧ wpList P ops Q rest (a.put o.dst cv) w') : wpList P ops Q (o :: rest) a w := by
  refine wpList_plain hg fun K hK' => ?_
  unfold Oper.wp
  have hrun : (execOp a.eval o).run P w = .ok (.enter f #[v]) w := by
    obtain ⟨callee, args, argTypes⟩ := c
    simp only at hc ha
    subst hc; subst ha
    simp only [execOp, hop, resolve, Act.eval, Deferred.ofValue, Sem.run_bind, Sem.run_pure, Result.andThen_ok, invoke, callFunc, run_program, hfn]
    rw [if_neg (by rw [hname]; simp), if_neg (by rw [hbody]; simp)]
    have hve : a.eval (.tmp i) = v := hv
    simp [hve]
  rw [hrun]
  exact hcalls.mono fun e w' h => by
    obtain ⟨cv, rfl, h2⟩ := hK e w' h
    exact hK' _ _ h2
theorem sort_heap {w : World} {g off n : Nat} {os : Array Obj} {cur : Array Value} {e : TypeId} {fr : Nat × Nat} (d : Array Int) (hb : w.heap[g]? = some (.cells cur e fr)) :
    (Sort.grow (Sort.putRow (Value.int .i64) (Sort.ahead w n) g off d) os).heap[g]? = some (.cells (Sort.putCells (Value.int .i64) off d cur) e fr) := by
  have hg : g < w.heap.size := (Array.getElem?_eq_some_iff.1 hb).1
  rw [Sort.heap_grow_old _ _ (by simpa using hg)]
  simp [Sort.putRow, Sort.mapBlock, Sort.ahead, Array.getElem?_modify, hb, Sort.onCells]
theorem sort_grown {w : World} {g off n : Nat} {os : Array Obj} (d : Array Int) : w.grownBy (Sort.grow (Sort.putRow (Value.int .i64) (Sort.ahead w n) g off d) os) (some g) := by
  refine ⟨rfl, rfl, rfl, by simp, fun k hk hne => ?_⟩
  rw [Sort.heap_grow_old _ _ (by simpa using hk)]
  have : g ≠ k := fun e => hne (by rw [e])
  simp [Sort.putRow, Sort.mapBlock, Sort.ahead, Array.getElem?_modify, this]
theorem sort_nums (hS : SortOk) {w : World} {p : Pos} {l : List Int} {v : Value} (hn : Nums w p l v) (hl : l.length ≤ 1000) : Calls Try.prog 42 #[v] w fun e w' => e = .returned (.tuple #[]) ∧ w.grownBy w' (if 0 < p.cap then some p.block else none) ∧ Nums w' p (srt l) v := by
  obtain ⟨a, hv, ha⟩ := hn.sl
  by_cases h0 : l.length = 0
  · rw [hn.len, h0] at hv
    subst hv
    refine (hS.none a (p.cap - 0) w).mono fun e w' ⟨he, hw⟩ => ⟨he, ?_, ?_⟩
    · rw [hw]
      exact ⟨rfl, rfl, rfl, Nat.le_refl _, fun _ _ _ => rfl⟩
    · have hz : l = [] := List.eq_nil_of_length_eq_zero h0
      subst hz
      rw [hw]
      have hz2 : srt [] = [] := by simp [srt]
      rw [hz2]; exact hn
  · have hcap : 0 < p.cap := by have := hn.le; have := hn.len; omega
    have hae := ha hcap
    subst hae
    obtain ⟨cs, e0, hb, hsz⟩ := hn.own hcap
    have haddr : p.addr 0 0 = ⟨p.block, p.off, none⟩ := by simp [Pos.addr]
    rw [hv, hn.len, haddr]
    refine (hS.some p.block p.off (p.cap - 0) l w (fun j hj => ⟨?_, by simp [World.frozen?, hb]⟩) (heap_lt hb) (by omega)).mono fun e w' ⟨he, n, os, hw⟩ => ⟨he, ?_, ?_⟩
    · have hj : j < l.length := by simpa using hj
      have := hn.cells j hj
      rw [show p.addr j 0 = ⟨p.block, p.off + j, none⟩ by simp [Pos.addr, hn.stride]] at this
      rw [this]
      simp [List.getD, hj]
    · rw [if_pos hcap, hw]; exact sort_grown _
    · have hheap := sort_heap (n := n) (os := os) (off := p.off) (srt l).toArray hb
      rw [← hw] at hheap
      have hle := hn.le
      have hlen := hn.len
      refine ⟨hn.stride, by rw [srt_len]; exact hn.len, hn.le, hn.max, hn.rest, ⟨some (p.addr 0 0), ?_, fun _ => rfl⟩, fun _ => ⟨_, e0, hheap, by simp [Sort.putCells]; exact hsz⟩, fun i hi => ?_⟩
      · rw [haddr, hn.len]
      · have hi' : i < l.length := by rw [srt_len] at hi; exact hi
        rw [show p.addr i 0 = ⟨p.block, p.off + i, none⟩ by simp [Pos.addr, hn.stride]]
        have hlt : p.off + i < cs.size := by omega
        simp [World.cell?, hheap, Sort.putCells, hlt, hi, List.getD]
noncomputable def g0 : Oper := (Go.Am.opN r1 0).getD default
noncomputable def g1 : Oper := (Go.Am.opN r1 1).getD default
theorem r1_eq : r1 = .region 1 ([g0, g1] : List Oper).toArray false := by kernel_rfl
noncomputable def callS : Call := match g1.op with | .call c => c | _ => default
def sEnds : FSpec
  | [.slw 0, .agg [.int .i64 x, .int .i64 y]], [⟨true, .ints .i64 l⟩] => .node (decide (l.length ≤ 1000)) (.leaf ⟨[.bool (endsN l (x, y))], []⟩) .bad
  | _, _ => .bad
theorem eLoops (c : Code) (hc : c = rst) : LoopsOk (E0 B) (loopL (E0 B) noL [eE]) c := by
  subst hc
  refine loopL_fits (fun x hx => ?_) noL_ok
  simp only [List.mem_singleton] at hx; subst hx
  exact ⟨bE, by kernel_rfl, rfl, loopE⟩
theorem ext_blocks {O : Nat → Prop} {w w' : World} (h1 : w'.os = w.os) (h2 : w'.tape = w.tape) (h3 : w'.output = w.output) (h4 : w.heap.size ≤ w'.heap.size) (h5 : ∀ k, k < w.heap.size → ¬ O k → w'.heap[k]? = w.heap[k]?) : Ext O w w' :=
  ⟨h1, h2, h3, h4, h5, fun a ha hn => World.frozen?_of_block (h5 a.block ha hn)⟩
theorem ends_val (l : List Int) (x y : Int) (hl : l.length ≤ 1000) : gd (decide (((srt l).length : Int) = ((srt l).length : Int) ∧ (0 : Int) = 0 ∧ (srt l).length ≤ 1000)) (bif (List.range' 0 (srt l).length).any (badE (srt l)) then some (AExit.ret, (⟨[.bool false], [aBx x y]⟩ : Out)) else
      bif decide (x ≤ ((srt l).length : Int)) then some (.ret, ⟨[.bool (decide (((srt l).length : Int) ≤ y))], [aBx x y]⟩) else some (.ret, ⟨[.bool false], [aBx x y]⟩)) = some (.ret, ⟨[.bool (endsN l (x, y))], [aBx x y]⟩) := by
  rw [ends_any, srt_len]
  unfold gd endsN
  rw [decide_eq_true (show ((l.length : Int) = (l.length : Int) ∧ (0 : Int) = 0 ∧ l.length ≤ 1000) from ⟨rfl, rfl, hl⟩), cond_true]
  cases fullN l with
  | false => rfl
  | true =>
    simp only [Bool.not_true, cond_false, Bool.true_and]
    cases decide (x ≤ (l.length : Int)) <;> rfl
theorem okEnds (hS : SortOk) : FnOk (E0 B) 30 sEnds := by
  refine ⟨fnAt_mk (fn := Try.f30) Try.func30 (by kernel_rfl) (by kernel_rfl), fun vs bs out hsel w cargs ps hc hv => ?_⟩
  unfold sEnds at hsel
  split at hsel
  rotate_left
  · simp [T.sel] at hsel
  rename_i x y l
  rcases T.node_sel hsel with ⟨hl, h2⟩ | ⟨_, h2⟩
  rotate_left
  · simp [T.sel] at h2
  have hl := of_decide_eq_true hl
  simp only [T.sel, Option.some.injEq] at h2
  subst h2
  have hcl : cargs.length = 2 := hv.length
  have H0 : Hr (E0 B) 32 [(0, 24), (1, 72)] [.slw 0, .agg [i64 x, i64 y]] [own l] w [own l] ps { tmps := cargs.toArray ++ Array.replicate (Try.f30.ntmps - cargs.toArray.size) undef, defers := [] } w :=
    Hr.start (fn := Try.f30) hc hv (by kernel_rfl) (by omega) (by rw [hcl]; rfl)
  refine calls_of_wp Try.func30 (show Try.f30.body = some eC by kernel_rfl) ?_
  rw [eC_eq]
  refine wp_seq ?_
  refine (H0.pick [((0, 24), some 0), ((1, 72), some 1), ((3, 0), none), ((4, 0), none)] rfl).run (cxOk TbOk.nil) (noL_ok _) (mo := []) (tk := [0]) (t0 l x y) fun a1 w1 H1 _ _ => ?_
  obtain ⟨hs1, hd1, ps1, c1, v1, m1⟩ := H1
  obtain ⟨q0, q1, rfl⟩ : ∃ q0 q1, ps1 = [q0, q1] := by
    have := c1.len
    match ps1, this with
    | [q0, q1], _ => exact ⟨q0, q1, rfl⟩
  have b0 : blkH [own l, aBx x y] 0 = some (own l) := rfl
  have b1 : blkH [own l, aBx x y] 1 = some (aBx x y) := rfl
  have e0 : psRho [q0, q1] 0 = some q0 := rfl
  have e1 : psRho [q0, q1] 1 = some q1 := rfl
  obtain ⟨_, z, k1, k2, k3, k4⟩ := c1.sat.pos 0 _ b0
  rw [e0] at z; cases z
  obtain ⟨_, z, j1, j2, j3, j4⟩ := c1.sat.pos 1 _ b1
  rw [e1] at z; cases z
  have j2 : q1.len = 1 := j2
  have j1' : q1.stride = 2 := j1
  have hv0 : V (psRho [q0, q1]) (.slw 0) (a1.tmps.getD 0 undef) := by
    obtain ⟨u, h1, h2⟩ := v1.get (i := 0) (a := .slw 0) rfl
    have : u = a1.tmps.getD 0 undef := by simpa [slotVs] using h1.symm
    rw [← this]; exact h2
  have hv3 : V (psRho [q0, q1]) (.ptr 1 0 0) (a1.tmps.getD 3 undef) := by
    obtain ⟨u, h1, h2⟩ := v1.get (i := 2) (a := .ptr 1 0 0) rfl
    have : u = a1.tmps.getD 3 undef := by simpa [slotVs] using h1.symm
    rw [← this]; exact h2
  simp only [V] at hv0 hv3
  obtain ⟨_, z, _, hsl⟩ := hv0
  rw [e0] at z; cases z
  obtain ⟨_, z, hptr⟩ := hv3
  rw [e1] at z; cases z
  have k1 : q0.stride = 1 := k1
  have k2 : q0.len = l.length := k2
  have N1 : Nums w1 { q0 with rest := none } l (a1.tmps.getD 0 undef) := ⟨k1, k2, k3, k4, rfl, hsl, fun h0 => by
      obtain ⟨cs, e, g1, g2, _⟩ := c1.sat.own 0 _ q0 b0 rfl e0 h0
      exact ⟨cs, e, g1, by rw [k1, Nat.mul_one] at g2; exact g2⟩, fun i hi => by
      obtain ⟨c, g1, g2⟩ := c1.sat.cells 0 _ q0 b0 e0 i hi 0 (.int .i64 (l.getD i 0)) rfl
      simp only [V] at g2
      subst g2
      exact g1⟩
  obtain ⟨cA, lA, oA⟩ := cfg_snoc (cfg_nil (gok_any c1.g)) (x := aBx x y) (p := q1) j1 j2 j3 j4 (fun i hi => c1.sat.wf 1 _ b1 i hi) (fun i hi j av hav => by
    obtain ⟨c, g1, g2⟩ := c1.sat.cells 1 _ q1 b1 e1 i hi j av hav
    refine ⟨c, g1, ?_⟩
    have hi : i < 1 := hi
    have : i = 0 := by omega
    subst this
    have hav : ([i64 x, i64 y] : List AV)[j]? = some av := hav
    match j, hav with
    | 0, hav => cases hav; simp only [i64, V] at g2 ⊢; exact g2
    | 1, hav => cases hav; simp only [i64, V] at g2 ⊢; exact g2) (fun ho h0 => c1.sat.own 1 _ q1 b1 rfl e1 h0) (fun h0 => c1.g.own _ ⟨1, _, q1, b1, rfl, e1, h0, rfl⟩) (fun _ => live_nil _) (by decide)
  have hq1c : 0 < q1.cap := by omega
  have hlt1 : q1.block < w1.heap.size := by
    obtain ⟨cs, e, g1, _⟩ := c1.sat.own 1 _ q1 b1 rfl e1 hq1c
    exact heap_lt g1
  have hne : 0 < q0.cap → q0.block ≠ q1.block := fun h0 => c1.sat.apart 0 _ q0 1 _ q1 b0 rfl e0 h0 b1 e1 (by decide) (.inl ⟨rfl, hq1c⟩)
  have ow1 : ∀ k, (0 < q0.cap ∧ k = q0.block) ∨ k = q1.block → ownB (psRho ps) (blkH [own l]) k ∨ w.heap.size ≤ k := fun k hk => by
    rcases hk with ⟨h0, rfl⟩ | rfl
    · exact m1.stp.sub _ ⟨0, _, q0, b0, rfl, e0, h0, rfl⟩
    · exact m1.stp.sub _ ⟨1, _, q1, b1, rfl, e1, hq1c, rfl⟩
  refine wp_seq ?_
  rw [r1_eq]
  refine wp_region_lit ?_
  refine wpList_move (by kernel_rfl) (.tmp 0) (by kernel_rfl) ?_
  rw [show g0.dst = some 7 by kernel_rfl, eval_tmp]
  refine wpList_call1 (c := callS) (fn := Try.f42) (i := 7) (by kernel_rfl) (by kernel_rfl) (by kernel_rfl) (by kernel_rfl) Try.func42 (by kernel_rfl) (by kernel_rfl) (put_at _ _ (by rw [hs1]; decide)) (sort_nums hS N1 hl) fun e w2 ⟨he, hgr, N2⟩ => ⟨_, he, ?_⟩
  rw [show g1.dst = some 8 by kernel_rfl]
  refine wpList_nil ?_
  have hkeep : ∀ k, k < w1.heap.size → (0 < q0.cap → k ≠ q0.block) → w2.heap[k]? = w1.heap[k]? := fun k hk h => hgr.block k hk fun e => by
    split at e
    · rename_i h0; cases e; exact h h0 rfl
    · cases e
  have cA2 : CfgOk (E0 B) w2 [aBx x y] [q1] := cfg_keep cA hgr.size (fun k hk => by
    rcases lA k hk with h | ⟨_, rfl⟩
    · exact (live_nil k h).elim
    · exact hkeep _ hlt1 fun h0 => (hne h0).symm) (fun k hk => hkeep k (Nat.lt_of_lt_of_le hk c1.g.size) fun h0 e => by
    have := c1.g.own q0.block ⟨0, _, q0, b0, rfl, e0, h0, rfl⟩
    omega)
  obtain ⟨cB, lB, oB⟩ := cfg_nums cA2 N2 (fun h0 => c1.g.own q0.block ⟨0, _, q0, b0, rfl, e0, h0, rfl⟩) (fun h0 hlv => by
    rcases lA _ hlv with h | ⟨_, h⟩
    · exact live_nil _ h
    · exact hne h0 h) (by simp)
  have H2 : Hr (E0 B) 32 slR [.slw 1, .ptr 0 0 0] [aBx x y, own (srt l)] w2 [aBx x y, own (srt l)] [q1, { q0 with rest := none }] (Act.put (Act.put a1 (some 7) (a1.tmps.getD 0 undef)) (some 8) (.tuple #[])) w2 := by
    refine ⟨by rw [put_size, put_size]; exact hs1, by rw [put_defers, put_defers]; exact hd1, _, cB, ?_, Mv.refl _ _ _⟩
    simp only [slR, slotVs, List.map_cons, List.map_nil, VL]
    refine ⟨_, _, rfl, ?_, _, _, rfl, ?_, rfl⟩
    · rw [put_ne _ _ (by decide), put_ne _ _ (by decide)]
      exact N2.V rfl
    · rw [put_ne _ _ (by decide), put_ne _ _ (by decide), hptr]
      simp only [V]
      exact ⟨q1, rfl, rfl⟩
  refine H2.out (cxOk TbOk.nil) (eLoops _ rfl) (mo := [(4, 0)]) (tk := []) ((tR (srt l) x y).trans (ends_val l x y hl)) (by simp) fun a3 w3 H3 _ _ => ?_
  obtain ⟨hs3, hd3, ps3, c3, v3, m3⟩ := H3
  have ht : a3.tmps.getD 4 undef = .bool (endsN l (x, y)) := by
    have := v3
    simp only [slotVs, List.map_cons, List.map_nil, VL, V] at this
    obtain ⟨_, _, h1, rfl, _⟩ := this
    injection h1 with h1 _
  have own2 : ∀ k, ownB (psRho [q1, { q0 with rest := none }]) (blkH [aBx x y, own (srt l)]) k → (0 < q0.cap ∧ k = q0.block) ∨ k = q1.block := fun k hk => by
    rcases oB k hk with h | h
    · rcases oA k h with h | h
      · exact (own_nil k h).elim
      · exact .inr h.2
    · exact .inl h
  refine ⟨hd3, a3.tmps.getD 4 undef, results_tmp (t := 4) (by kernel_rfl) _ _ _, _, [], rfl, cfg_nil (gok_any c3.g), ?_, ⟨⟨ext_blocks ?_ ?_ ?_ ?_ fun k hk hno => ?_, fun k hk => (own_nil k hk).elim, fun k hk => (live_nil k hk).elim⟩, fun k x p hk => by simp at hk⟩, fun j k hj => ?_⟩
  · rw [ht]; simp only [oneOrTup, V]
  · exact m3.stp.ext.os.trans (hgr.os.trans m1.stp.ext.os)
  · exact m3.stp.ext.tape.trans (hgr.tape.trans m1.stp.ext.tape)
  · exact m3.stp.ext.output.trans (hgr.output.trans m1.stp.ext.output)
  · exact Nat.le_trans m1.stp.ext.size (Nat.le_trans hgr.size m3.stp.ext.size)
  · have hk1 : k < w1.heap.size := Nat.lt_of_lt_of_le hk m1.stp.ext.size
    have hno' : ∀ k', (0 < q0.cap ∧ k' = q0.block) ∨ k' = q1.block → k ≠ k' := fun k' hk' e => by
      rcases ow1 k' hk' with h | h
      · exact hno (e ▸ h)
      · omega
    rw [m3.stp.ext.block k (Nat.lt_of_lt_of_le hk1 hgr.size) fun h => hno' k (own2 k h) rfl, hkeep k hk1 fun h0 e => hno' _ (.inl ⟨h0, rfl⟩) e, m1.stp.ext.block k hk hno]
  · rw [show pers [AV.slw 0, .agg [.int .i64 x, .int .i64 y]] [⟨true, .ints .i64 l⟩] = [] from rfl] at hj
    simp at hj
end Go.Proofs.Ytdckpbeioemopaa.En
namespace Go.Proofs.Ytdckpbeioemopaa.Jo
open Go.Am Go Go.Proofs.Ytdckpbeioemopaa
set_option maxRecDepth 100000
variable {B : Nat → Option Obj}
theorem t1 (O : List Opr) (C : List Chn) : (Go.Am.mkT (E0 B) (Cx B []) noL r1 (loopSt (E0 B) 143 ⟨[], [(1, 0)], [], []⟩ [.ptr 2 0 0] (bsA O C)) 3 4 [] [(1, 0)]).sel = gd (decide (0 ≤ (O.length : Int) ∧ (O.length : Int) ≤ (lim : Int) ∧ (O.length : Int) = (O.length : Int))) (gd (decide (0 ≤ (O.length : Int) ∧ (O.length : Int) ≤ (lim : Int) ∧ (O.length : Int) = (O.length : Int))) (some (⟨[.ptr 0 0 0], bsG O C⟩, List.replicate O.length [.nils], List.replicate O.length [.nils]))) := by kernel_rfl
def sl2 : List (Nat × TypeId) := [(1, 0), (113, 31), (114, 0), (115, 0)]
def vs2 (n i : Int) : List AV := [.ptr 0 0 0, .slw 1, i64 n, i64 i]
def bsO (O : List Opr) (C : List Chn) : List Blk := [gBx 2 3, ob O, ob O, cb C]
theorem t12 (O : List Opr) (C : List Chn) : tu B r12 sl2 [] [.ptr 0 0 0, .any, .any, .any] (bsG O C) = some (.normal, ⟨vs2 O.length 0, bsO O C⟩) := by kernel_rfl
theorem t13 (O : List Opr) (C : List Chn) (n i : Int) : tu B r13 (sl2 ++ [(116, 0)]) [] (vs2 n i ++ [.any]) (bsO O C) = some (.normal, ⟨vs2 n i ++ [.bool (decide (i < n))], bsO O C⟩) := by kernel_rfl
def oTy : List TypeId := [5, 3]
def oBx (o : Opr) : Blk := ⟨true, .gen oTy [[.int .u8 o.kind, i64 o.n]]⟩
def oAt (O : List Opr) (i : Int) : Opr := O.getD i.toNat default
def bsOo (O : List Opr) (C : List Chn) (o : Opr) : List Blk := [gBx 3 4, ob O, oBx o, ob O, cb C]
def vso (n i : Int) : List AV := vs2 n i ++ [.ptr 2 0 0, i64 i]
theorem t14 (O : List Opr) (C : List Chn) (n i : Int) : tu B r14 (sl2 ++ [(9, 0), (8, 0)]) [] (vs2 n i ++ [.any, .any]) (bsO O C) = inb i O.length (some (.normal, ⟨vso n i, bsOo O C (oAt O i)⟩)) := by kernel_rfl
def aBx (x : Int × Int) : Blk := ⟨true, .ints .i64 [x.1, x.2]⟩
def bsOb (O : List Opr) (C : List Chn) (o : Opr) (x y : Int × Int) : List Blk := [gBx 5 6, ob O, oBx o, aBx x, aBx y, ob O, cb C]
def vsob (n i : Int) : List AV := vs2 n i ++ [.ptr 2 0 0, i64 i, .ptr 3 0 0, .ptr 4 0 0]
def sl15 : List (Nat × TypeId) := sl2 ++ [(9, 0), (8, 0), (10, 0), (11, 0)]
def k15 (O : List Opr) (C : List Chn) (n i : Int) (o : Opr) (x y : Int × Int) : Option (AExit × Out) := some (.normal, ⟨vsob n i, bsOb O C o x y⟩)
theorem t15 (O : List Opr) (C : List Chn) (n i : Int) (o : Opr) : tu B r15 sl15 [] (vso n i ++ [.any, .any]) (bsOo O C o) =
    bif decide (o.kind = 1) then k15 O C n i o (0, 0) (1, 1) else bif decide (o.kind = 2) then k15 O C n i o (1, 1) (1, 2) else bif decide (o.kind = 3) then k15 O C n i o (1, 1) (1, 3) else bif decide (o.kind = 4) then k15 O C n i o (1, 4) (1, 1) else bif decide (o.kind = 5) then k15 O C n i o (2, 2) (1, 1) else bif decide (o.kind = 6) then k15 O C n i o (1, 3) (0, 0) else k15 O C n i o (1, 4) (0, 0) := by kernel_rfl
theorem u15 (O : List Opr) (C : List Chn) (n i : Int) (o : Opr) : tu B r15 sl15 [] (vso n i ++ [.any, .any]) (bsOo O C o) = k15 O C n i o (bndI o.kind) (bndO o.kind) := by
  rw [t15]
  unfold bndI bndO
  generalize decide (o.kind = 1) = a1
  generalize decide (o.kind = 2) = a2
  generalize decide (o.kind = 3) = a3
  generalize decide (o.kind = 4) = a4
  generalize decide (o.kind = 5) = a5
  generalize decide (o.kind = 6) = a6
  cases a1 <;> cases a2 <;> cases a3 <;> cases a4 <;> cases a5 <;> cases a6 <;> rfl
noncomputable def libJ : Tb := [(30, [0], En.sEnds)]
def sl16 : List (Nat × TypeId) := sl2 ++ [(141, 0)]
def vs16 (n i : Int) (k : Nat) : List AV := vsob n i ++ [.foc 9 i k, .foc 10 i k]
theorem t16 (O : List Opr) (C : List Chn) (n i : Int) (k : Nat) (o : Opr) (x y : Int × Int) (l1 l2 : List Int) :
    (Go.Am.useT (E0 B) (Cx B libJ) noL r16 (loopSt (E0 B) 143 ⟨[], sl15 ++ [(3, 0), (4, 0)], [], []⟩ (vs16 n i k) (focBs 24 (bsOb O C o x y) l1 l2)) 9 10 [] sl16).sel =
      gd (decide (i = i ∧ 0 ≤ i ∧ i < (k : Int))) (gd (decide (l1.length ≤ 1000)) (bif !endsN l1 x then some ⟨vs2 n i ++ [.bool true], bsO O C⟩ else gd (decide (i = i ∧ 0 ≤ i ∧ i < (k : Int))) (gd (decide (l2.length ≤ 1000)) (some ⟨vs2 n i ++ [.bool (!endsN l2 y)], bsO O C⟩)))) := by kernel_rfl
theorem t17 (O : List Opr) (C : List Chn) (n i : Int) : tu B r17 sl2 [(2, 0)] (vs2 n i) (bsO O C) = some (.ret, ⟨[.bool false], [gBx 1 2, ob O, cb C]⟩) := by kernel_rfl
theorem t18 (O : List Opr) (C : List Chn) (n i : Int) : tu B r18 sl2 [] (vs2 n i) (bsO O C) = some (.normal, ⟨vs2 n (w64 (i + 1)), bsO O C⟩) := by kernel_rfl
end Go.Proofs.Ytdckpbeioemopaa.Jo
namespace Go.Proofs.Ytdckpbeioemopaa.En
open Go.Am Go Go.Proofs.Ytdckpbeioemopaa Go.Proofs.Ytdckpbeioemopaa.Jo
theorem sortOk : SortOk := ⟨fun blk off cap zs w h1 h2 h3 => Any.slices_Sort_int Try.lays189 blk off cap zs w h1 h2 h3, fun p cap w => Any.slices_Sort_int_none Try.lays189 p cap w⟩
theorem okEnd {B : Nat → Option Obj} : FnOk (E0 B) 30 sEnds := okEnds sortOk
end Go.Proofs.Ytdckpbeioemopaa.En
