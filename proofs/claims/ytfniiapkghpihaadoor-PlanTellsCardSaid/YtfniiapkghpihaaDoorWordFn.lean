/-
  Chars: Word: walked.
-/
import Derived.Test.YtfniiapkghpihaaDoorWordIter
import Derived.Scope
import Derived.Lib.SlicesS
namespace Go.Proofs.YtfniiapkghpihaaDoor
open Go.RowKit Go.Shelf Go.Lib
attribute [local go_sem] Oper.semAt_some

section
variable {F : Fence} {n : Nat} {P : Program} {b : Frame} {a : Act} {k : List Item} {cs : List Frame} {w : World} {Q : Exit → Act → World → Prop}
end

def markOf (D : Nat) : Deferred := { target := .collected D, args := #[] }
structure Marks (W : World) (lo : Nat) (Ds : List Nat) : Prop where
  at' : ∀ D ∈ Ds, lo ≤ D ∧ W.heap[D]? = some (.deferred (some []))
  nd : Ds.Nodup
theorem Marks.put {W : World} {lo D : Nat} {Ds : List Nat} (o : Obj) (h : Marks W lo (D :: Ds)) : Marks (W.putObj D o) lo Ds where
  at' D' hD' := by
    have hne : D' ≠ D := fun e => (List.nodup_cons.1 h.nd).1 (e ▸ hD')
    exact ⟨(h.at' D' (List.mem_cons_of_mem _ hD')).1, (World.putObj_heap_other (by omega)).trans (h.at' D' (List.mem_cons_of_mem _ hD')).2⟩
  nd := (List.nodup_cons.1 h.nd).2
theorem Marks.keeps {W W' : World} {lo : Nat} {Ds : List Nat} (h : Marks W lo Ds) (hk : KeepsOthers W W') : Marks W' lo Ds := ⟨fun D hD => ⟨(h.at' D hD).1, hk.same D _ (h.at' D hD).2 rfl⟩, h.nd⟩
theorem Marks.lt {W : World} {lo : Nat} {Ds : List Nat} (h : Marks W lo Ds) : ∀ D ∈ Ds, D < W.heap.size := fun D hD => (Array.getElem?_eq_some_iff.1 (h.at' D hD).2).1
theorem Marks.cons {W : World} {lo D B : Nat} {Ds : List Nat} (h : Marks W lo Ds) (hlt : ∀ D ∈ Ds, D < B) (hD : B ≤ D) (hlo : lo ≤ D) (hk : W.heap[D]? = some (.deferred (some []))) : Marks W lo (D :: Ds) where
  at' D' hD' := by
    rcases List.mem_cons.1 hD' with rfl | h'
    · exact ⟨hlo, hk⟩
    · exact h.at' D' h'
  nd := List.nodup_cons.2 ⟨fun hm => by have := hlt D hm; omega, h.nd⟩
end Go.Proofs.YtfniiapkghpihaaDoor
