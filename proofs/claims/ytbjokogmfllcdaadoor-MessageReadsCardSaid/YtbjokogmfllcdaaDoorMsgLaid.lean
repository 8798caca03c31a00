/-
  Message: from what a row lists, and from the world's shape, to what the contracts ask; messages and events among a law's arguments.
-/
import Derived.Test.YtbjokogmfllcdaaDoorMsgBase
import Derived.Test.YtbjokogmfllcdaaDoorMsgPure
import Derived.Test.YtbjokogmfllcdaaDoorAmWrap
import Derived.Stop.LaidErr
import Derived.LaidSub
namespace Go.Proofs.YtbjokogmfllcdaaDoor
open Go.Am Go.RowKit
set_option maxRecDepth 100000

theorem var_of {w W : World} {name : String} {g : Nat} (hn : Tryd.prog.globalNamed name = some g) (h : w.heap[g]? = W.heap[g]?) : w.var? Tryd.prog name = W.var? Tryd.prog name := by
  unfold World.var?
  rw [hn]
  simp only [Option.bind_some]
  rw [h]
theorem gPow : Tryd.prog.globalNamed "internal/strconv.uint64pow10" = some 0 := by kernel_rfl
theorem gSyn : Tryd.prog.globalNamed "strconv.ErrSyntax" = some 2 := by kernel_rfl
theorem gRange : Tryd.prog.globalNamed "strconv.ErrRange" = some 3 := by kernel_rfl
theorem star : "*" ++ "errors.errorString" = "*errors.errorString" := by decide
theorem errRow (u : TypeId) (h : Tryd.prog.typeName? 3 u = some "*errors.errorString") : u = 128 :=
  typeName_ptr_named (nm := "errors.errorString") (by rw [star]; kernel_rfl) (by kernel_rfl) (by decide) u (by rw [star]; exact h)
def only (n : String) (l : List (String × DataW Unit)) : List (String × DataW Unit) := l.filter fun x => x.1 == n
theorem ngLast : ngN = (ngN - 1) + 1 := by kernel_rfl
theorem sizeOf {W : World} (hS : W.ShapedOpen Tryd.prog) : ngN ≤ W.heap.size := by
  have := shaped_size hS (ngN - 1) (of_decide_eq_true (by kernel_rfl)) (by kernel_rfl)
  rw [ngLast]; omega
theorem laidOfF {l : List (String × DataW Unit)} {W : World} (hS : W.ShapedOpen Tryd.prog) (hL : laidMet Tryd.prog l W)
    (h1 : only "internal/strconv.uint64pow10" l = [("internal/strconv.uint64pow10", Lib.tabData .u64 Lib.pow10Tab)]) : LaidF (fun g => W.heap[g]?) ∧ ngN ≤ W.heap.size := by
  have l1 := laidMet.filter (fun x => x.1 == "internal/strconv.uint64pow10") hL
  rw [show l.filter _ = _ from h1] at l1
  have t1 : Lib.TabIs Tryd.prog W "internal/strconv.uint64pow10" .u64 Lib.pow10Tab := Lib.tabIs_of_head (n := 20) (t := 98) (e := 87) gPow (by kernel_rfl) Tryd.underlying98 Tryd.underlying87 (by kernel_rfl) (by kernel_rfl) l1
  refine ⟨⟨fun w hw => ?_⟩, sizeOf hS⟩
  unfold Lib.TabIs at t1 ⊢
  rw [var_of gPow (hw _ (by decide))]; exact t1
theorem laidOf {l : List (String × DataW Unit)} {W : World} (hS : W.ShapedOpen Tryd.prog) (hL : laidMet Tryd.prog l W)
    (h1 : only "internal/strconv.uint64pow10" l = [("internal/strconv.uint64pow10", Lib.tabData .u64 Lib.pow10Tab)])
    (h2 : only "strconv.ErrSyntax" l = [("strconv.ErrSyntax", .iface "*errors.errorString" (.ptr (.agg [.lit (.string [105, 110, 118, 97, 108, 105, 100, 32, 115, 121, 110, 116, 97, 120])])))])
    (h3 : only "strconv.ErrRange" l = [("strconv.ErrRange", .iface "*errors.errorString" (.ptr (.agg [.lit (.string [118, 97, 108, 117, 101, 32, 111, 117, 116, 32, 111, 102, 32, 114, 97, 110, 103, 101])])))]) :
    Laid (fun g => W.heap[g]?) ∧ ngN ≤ W.heap.size := by
  have l2 := laidMet.filter (fun x => x.1 == "strconv.ErrSyntax") hL
  have l3 := laidMet.filter (fun x => x.1 == "strconv.ErrRange") hL
  rw [show l.filter _ = _ from h2] at l2
  rw [show l.filter _ = _ from h3] at l3
  obtain ⟨a2, s2, v2, _⟩ := laid_sentinel (ti := 62) (tp := 128) (te := 130) (ts := 9) l2 gSyn (by kernel_rfl) Tryd.underlying62 errRow Tryd.underlying128 Tryd.underlying130 rfl rfl Tryd.underlying9 (by kernel_rfl) (by kernel_rfl)
  obtain ⟨a3, s3, v3, _⟩ := laid_sentinel (ti := 62) (tp := 128) (te := 130) (ts := 9) l3 gRange (by kernel_rfl) Tryd.underlying62 errRow Tryd.underlying128 Tryd.underlying130 rfl rfl Tryd.underlying9 (by kernel_rfl) (by kernel_rfl)
  obtain ⟨m, hm⟩ := Go.Proofs.cell_of_shapedOpen_int (P := Tryd.prog) (g := 1) (t := 3) (zero := #[.int .i64 0]) hS (of_decide_eq_true (by kernel_rfl)) (by kernel_rfl) rfl (by kernel_rfl) (by kernel_rfl) Tryd.underlying3
  refine ⟨⟨(laidOfF hS hL h1).1, fun w hw => ⟨m, ?_⟩, fun w hw => ?_, fun w hw => ?_⟩, sizeOf hS⟩
  · unfold World.cell? at hm ⊢
    rw [hw _ (by decide)]; exact hm
  · exact ⟨_, _, (var_of gSyn (hw _ (by decide))).trans v2⟩
  · exact ⟨_, _, (var_of gRange (hw _ (by decide))).trans v3⟩
theorem gokOf {W : World} (h : ngN ≤ W.heap.size) : GOk (E0 fun g => W.heap[g]?) (fun _ => False) W :=
  ⟨fun g d hg => (by cases hg), h, fun g _ => rfl, fun _ h => h.elim⟩
def ckMsg : List CK := [.int .u8, .int .i64, .int .i64, .int .i64, .int .i64, .int .i64, .int .i64, .int .i64, .int .i64, .int .i64]
def ckEvt : List CK := [.bool, .int .i64, .int .i64, .int .i64, .int .i64]
theorem msg_arg {w : World} {r : Reach} {base : Nat} {v : Value} (hval : Value.okWide Tryd.prog w r base 30 v) : ∃ m : Msg, V (fun _ => none) m.av v ∧ rngM m = true := by
  obtain ⟨xs, h, hv⟩ := struct_arg (ts := [5, 2, 2, 2, 2, 2, 2, 2, 2, 2]) ckMsg Tryd.underlying30 (by kernel_rfl) (by kernel_rfl)
    ⟨Tryd.underlying5, Tryd.underlying2, Tryd.underlying2, Tryd.underlying2, Tryd.underlying2, Tryd.underlying2, Tryd.underlying2, Tryd.underlying2, Tryd.underlying2, Tryd.underlying2, trivial⟩ hval
  unfold ckMsg at h
  match xs, h with
  | [.int _ k, .int _ a, .int _ b, .int _ c, .int _ t, .int _ x, .int _ s, .int _ e, .int _ u, .int _ v], h =>
    simp only [ckAV] at h
    obtain ⟨rfl, _, rfl, h1, rfl, h2, rfl, h3, rfl, h4, rfl, h5, rfl, h6, rfl, h7, rfl, h8, rfl, h9, _⟩ := h
    have key : ∀ n : Int, IntKind.i64.has n → Rng n := fun n hn => by simpa [Rng, IntKind.has, IntKind.min, IntKind.max, IntKind.signed, IntKind.bits] using hn
    exact ⟨⟨k, a, b, c, t, x, s, e, u, v⟩, hv, decide_eq_true ⟨key _ h1, key _ h2, key _ h3, key _ h4, key _ h5, key _ h6, key _ h7, key _ h8, key _ h9⟩⟩
theorem evt_arg {w : World} {r : Reach} {base : Nat} {v : Value} (hval : Value.okWide Tryd.prog w r base 32 v) : ∃ e : Evt, V (fun _ => none) e.av v ∧ True := by
  obtain ⟨xs, h, hv⟩ := struct_arg (ts := [4, 2, 2, 2, 2]) ckEvt Tryd.underlying32 (by kernel_rfl) (by kernel_rfl)
    ⟨Tryd.underlying4, Tryd.underlying2, Tryd.underlying2, Tryd.underlying2, Tryd.underlying2, trivial⟩ hval
  unfold ckEvt at h
  match xs, h with
  | [.bool k, .int _ t, .int _ a, .int _ b, .int _ c], h =>
    simp only [ckAV] at h
    obtain ⟨rfl, _, rfl, _, rfl, _, rfl, _, _⟩ := h
    exact ⟨⟨k, t, a, b, c⟩, hv, trivial⟩
end Go.Proofs.YtbjokogmfllcdaaDoor
