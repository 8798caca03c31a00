/-
  Texts put together: PrtBase, PrtWrite, PrtExpr, PrtExpr2, PrtExpr3, PrtExpr4.
-/
import Derived.Test.YtdckpbeioemopabGreatDoorLawA
import Derived.Test.YtdckpbeioemopabGreatDoorLayB
import Derived.Test.YtdckpbeioemopabGreatDoorLibB
namespace Go.Proofs.YtdckpbeioemopabGreatDoor
open Go.Am Go.Shelf
set_option maxRecDepth 100000
variable {B : Nat → Option Obj}
def bTys : List TypeId := [115, 116, 118 + markBase]
def lays240_ren : Go.Shelf.Ren := ⟨fun | 240 => 108 | 276 => 139 | n => n, fun | 0 => 0 | 4 => 4 | 9 => 9 | 20 => 20 | 70 => 115 | 72 => 118 | 164 => 204 | 37 => 116 | n => n, fun n => n⟩
theorem lays240 : Lays.n240 Tryz.prog lays240_ren where
  mixed := by kernel_rfl
  f240 := Tryz.func108.trans (congrArg some (by kernel_rfl))
  f276 := Tryz.func139.trans (congrArg some (by kernel_rfl))
  t0 := Tryz.underlying0
  a0 := Tryz.isAgg0
  z0 := Tryz.sizeOf0
  v0 := Tryz.zeroValue0
  t4 := Tryz.underlying4
  a4 := Tryz.isAgg4
  z4 := Tryz.sizeOf4
  v4 := Tryz.zeroValue4
  t9 := Tryz.underlying9
  a9 := Tryz.isAgg9
  z9 := Tryz.sizeOf9
  v9 := Tryz.zeroValue9
  t20 := Tryz.underlying20
  a20 := Tryz.isAgg20
  z20 := Tryz.sizeOf20
  v20 := Tryz.zeroValue20
  t70 := Tryz.underlying115
  a70 := Tryz.isAgg115
  z70 := Tryz.sizeOf115
  v70 := Tryz.zeroValue115
  t72 := Tryz.underlying118
  a72 := Tryz.isAgg118
  z72 := Tryz.sizeOf118
  v72 := Tryz.zeroValue118
  t164 := Tryz.underlying204
  a164 := Tryz.isAgg204
  z164 := Tryz.sizeOf204
  v164 := Tryz.zeroValue204
theorem bX72 : Go.Proofs.Builder.X72 Tryz.prog lays240_ren where
  sizeBuilder := by kernel_rfl
  liesBuilder := by kernel_rfl
theorem bExtra : Go.Proofs.Builder.Extra Tryz.prog Tryz.lays169_ren where
  sizeBuilder := by kernel_rfl
  liesBuilder := by kernel_rfl
  t5 := Tryz.underlying5
  a5 := Tryz.isAgg5
  z5 := Tryz.sizeOf5
  v5 := Tryz.zeroValue5
  infoByte := by kernel_rfl
  cellsByte := by kernel_rfl
  sizeByte := by kernel_rfl
  neB5 := by decide
theorem copyOk : FnOk (E0 B) 108 (sCopy bTys) :=
  copy_ok (U := 118) (fnAt_mk (fn := Tryz.f108) Tryz.func108 (by kernel_rfl) (by kernel_rfl)) (by kernel_rfl) (by kernel_rfl)
    (fun b w h => Any.Builder_copyCheck_used lays240 bX72 b w h) (fun b w h1 h2 h3 => Any.Builder_copyCheck_fresh lays240 bX72 b w h1 h2 h3)
theorem strOk : FnOk (E0 B) 67 (sBStr bTys 5) :=
  str_ok (U := 118) (fnAt_mk (fn := Tryz.f67) Tryz.func67 (by kernel_rfl) (by kernel_rfl)) (by kernel_rfl) (by kernel_rfl)
    fun b g cap p cur l w h1 h2 h3 h4 h5 h6 h7 => str_walk Tryz.lays169 bExtra b g cap p cur l w h1 h2 h3 h4 h5 h6 h7
def tkW : FuncId → List Nat := fun f => bif Nat.beq f 144 then [0] else bif Nat.beq f 70 || Nat.beq f 105 then [1] else []
noncomputable abbrev SxP (B : Nat → Option Obj) (l : Tb) : FuncId → Option (List Nat × FSpec) := textS (E0 B) l tkW 450 12
noncomputable abbrev CxP (B : Nat → Option Obj) (l : Tb) : CallR := specC (E0 B) (SxP B l)
noncomputable abbrev runP (B : Nat → Option Obj) (l : Tb) (fn : Func) (vs : List AV) (bs : List Blk) : Option Out := (fnRun (E0 B) (CxP B l) (inlL (E0 B) (CxP B l) 450) fn (bodyC fn) vs bs).sel
theorem cxPOk {l : Tb} (h : TbOk B l) : CG (E0 B) (CxP B l) := specC_ok (textS_ok h _ _ _)
theorem fnP {l : Tb} (h : TbOk B l) {f : FuncId} {fn : Func} (h1 : Tryz.prog.funcs[f]? = some fn) (h2 : fn.body = some (bodyC fn)) (h3 : (fn.name == "runtime.NumGoroutine") = false) {s : FSpec}
    (hspec : ∀ vs bs r, (s vs bs).sel = some r → runP B l fn vs bs = some r) : FnOk (E0 B) f s :=
  fn_ok h1 h2 h3 (cxPOk h) (inl_ok (cxPOk h) 450 _) hspec
theorem fnPD {l : Tb} (h : TbOk B l) {f : FuncId} {fn : Func} (h1 : Tryz.prog.funcs[f]? = some fn) (h2 : fn.body = some (bodyC fn)) (h3 : (fn.name == "runtime.NumGoroutine") = false) {s : FSpec}
    (hspec : ∀ vs bs r, (s vs bs).sel = some r → runP B l fn vs bs = some r) : FnOkD (E0 B) f s :=
  fnRun_okD ⟨h1, h2, by simpa using h3⟩ (cxPOk h) (inl_ok (cxPOk h) 450 _) hspec
noncomputable def libP0 : Tb := (68, [], sFormat) :: (108, [1], sCopy bTys) :: (67, [1], sBStr bTys 5) :: lib5
theorem libP0_ok (hB : Laid B) : TbOk B libP0 := ((lib5_ok.add strOk).add copyOk).add (formatOk hB)
def bxP (p : AV) (k : Nat) : Blk := ⟨true, .gen bTys [[p, .slw k]]⟩
def bfP (L : List Int) : Blk := ⟨true, .bytes 5 L⟩
def ibs (s : List UInt8) : List Int := s.map fun c => (c.toNat : Int)
end Go.Proofs.YtdckpbeioemopabGreatDoor
namespace Go.Proofs.YtdckpbeioemopabGreatDoor
open Go.Am Go.Shelf
set_option maxRecDepth 100000
variable {B : Nat → Option Obj}
def oWB (L : List Int) (r : List AV) (g : Bool) (M : List Int) : Option Out := bif g then some ⟨r, [bxP (.ptr 0 0 0) 1, bfP (L ++ M)]⟩ else none
theorem tWB0 (c : Int) (L : List Int) : runP B libP0 Tryz.f105 [.ptr 0 0 0, .int .u8 c] [bxP .nilp 1, bfP L] = oWB L [.nili] (decide (L.length + 1 ≤ lim)) [c] := by kernel_rfl
theorem tWB1 (c : Int) (L : List Int) : runP B libP0 Tryz.f105 [.ptr 0 0 0, .int .u8 c] [bxP (.ptr 0 0 0) 1, bfP L] = oWB L [.nili] (decide (L.length + 1 ≤ lim)) [c] := by kernel_rfl
theorem tWS0 (s : List UInt8) (L : List Int) : runP B libP0 Tryz.f70 [.ptr 0 0 0, .str s] [bxP .nilp 1, bfP L] = oWB L [i64 s.length, .nili] (decide (L.length + (ibs s).length ≤ lim)) (ibs s) := by kernel_rfl
theorem tWS1 (s : List UInt8) (L : List Int) : runP B libP0 Tryz.f70 [.ptr 0 0 0, .str s] [bxP (.ptr 0 0 0) 1, bfP L] = oWB L [i64 s.length, .nili] (decide (L.length + (ibs s).length ≤ lim)) (ibs s) := by kernel_rfl
def wTys (s : List TypeId) (t : TypeId) : Bool := sameTys s bTys && Nat.beq t 5
theorem wTys_is {s : List TypeId} {t : TypeId} (h : wTys s t = true) : s = bTys ∧ t = 5 := by
  unfold wTys at h
  rw [Bool.and_eq_true] at h
  exact ⟨sameTys_eq h.1, Nat.eq_of_beq_eq_true h.2⟩
def tWB (g : Bool) (L : List Int) (r : List AV) (M : List Int) : T Out := .node (g && decide (L.length + M.length ≤ lim)) (.leaf ⟨r, [⟨true, .gen bTys [[.ptr 0 0 0, .slw 1]]⟩, ⟨true, .bytes 5 (L ++ M)⟩]⟩) .bad
def sWB : FSpec
  | [.ptr 0 0 0, .int .u8 c], [⟨true, .gen s [[.nilp, .slw 1]]⟩, ⟨true, .bytes t L⟩] => tWB (wTys s t) L [.nili] [c]
  | [.ptr 0 0 0, .int .u8 c], [⟨true, .gen s [[.ptr 0 0 0, .slw 1]]⟩, ⟨true, .bytes t L⟩] => tWB (wTys s t) L [.nili] [c]
  | _, _ => .bad
def sWS : FSpec
  | [.ptr 0 0 0, .str v], [⟨true, .gen s [[.nilp, .slw 1]]⟩, ⟨true, .bytes t L⟩] => tWB (wTys s t) L [.int .i64 v.length, .nili] (ibs v)
  | [.ptr 0 0 0, .str v], [⟨true, .gen s [[.ptr 0 0 0, .slw 1]]⟩, ⟨true, .bytes t L⟩] => tWB (wTys s t) L [.int .i64 v.length, .nili] (ibs v)
  | _, _ => .bad
theorem tWB_sel {s : List TypeId} {t : TypeId} {L : List Int} {r : List AV} {M : List Int} {o : Out} (h : (tWB (wTys s t) L r M).sel = some o) : (s = bTys ∧ t = 5) ∧ oWB L r (decide (L.length + M.length ≤ lim)) M = some o := by
  unfold tWB at h
  rcases T.node_sel h with ⟨hg, h2⟩ | ⟨_, h2⟩
  · rw [Bool.and_eq_true] at hg
    refine ⟨wTys_is hg.1, ?_⟩
    unfold oWB
    rw [hg.2]; exact h2
  · simp [T.sel] at h2
theorem sWB_run : ∀ vs bs r, (sWB vs bs).sel = some r → runP B libP0 Tryz.f105 vs bs = some r := fun vs bs r h => by
  unfold sWB at h
  split at h
  · obtain ⟨⟨rfl, rfl⟩, h2⟩ := tWB_sel h
    exact (tWB0 _ _).trans h2
  · obtain ⟨⟨rfl, rfl⟩, h2⟩ := tWB_sel h
    exact (tWB1 _ _).trans h2
  · simp [T.sel] at h
theorem okWB (hB : Laid B) : FnOk (E0 B) 105 sWB := fnP (libP0_ok hB) Tryz.func105 (by kernel_rfl) (by kernel_rfl) sWB_run
theorem okWBD (hB : Laid B) : FnOkD (E0 B) 105 sWB := fnPD (libP0_ok hB) Tryz.func105 (by kernel_rfl) (by kernel_rfl) sWB_run
theorem okWS (hB : Laid B) : FnOk (E0 B) 70 sWS := by
  refine fnP (libP0_ok hB) Tryz.func70 (by kernel_rfl) (by kernel_rfl) fun vs bs r h => ?_
  unfold sWS at h
  split at h
  · obtain ⟨⟨rfl, rfl⟩, h2⟩ := tWB_sel h
    exact (tWS0 _ _).trans h2
  · obtain ⟨⟨rfl, rfl⟩, h2⟩ := tWB_sel h
    exact (tWS1 _ _).trans h2
  · simp [T.sel] at h
noncomputable def libP1 : Tb := (105, [1], sWB) :: (70, [1], sWS) :: libP0
theorem libP1_ok (hB : Laid B) : TbOk B libP1 := ((libP0_ok hB).add (okWS hB)).add (okWB hB)
def opS (k : Int) : List UInt8 := [32] ++ (opT k ++ [32])
def leftI (k : Int) : Int := bif decide ((lineK k : Int) = 4) then 5 else (lineK k : Int)
def wrN : Nat → List Nod → Int → Int → List UInt8
  | 0, _, _, _ => []
  | n + 1, X, i, m => bif decide ((nodA X i).kind = 1) then Lib.itoa (nodA X i).n else bif decide ((nodA X i).kind ≤ 4) then fldT (nodA X i).kind else
    brT (decide ((lineK (nodA X i).kind : Int) < m)) (bif decide ((nodA X i).kind = 5) then [45] ++ wrN n X (nodA X i).a 8 else bif decide ((nodA X i).kind = 6) then [110, 111, 116, 32] ++ wrN n X (nodA X i).a 3 else
      wrN n X (nodA X i).a (leftI (nodA X i).kind) ++ (opS (nodA X i).kind ++ wrN n X (nodA X i).b ((lineK (nodA X i).kind : Int) + 1)))
def tWr (k : Nat) (X : List Nod) (i m : Int) (g : Bool) (L : List Int) : T Out := .node (g && (okX k X i && (rngX X && decide (L.length + (wrN k X i m).length ≤ 100000)))) (.leaf ⟨[], [⟨true, .gen bTys [[.ptr 0 0 0, .slw 1]]⟩, ⟨true, .bytes 5 (L ++ ibs (wrN k X i m))⟩]⟩) .bad
def sWr (k : Nat) : FSpec
  | [.ptr 0 0 0, .slw 1, .int .i64 i, .int .i64 m], [⟨true, .gen s [[.nilp, .slw 2]]⟩, ⟨false, .nodes X⟩, ⟨true, .bytes t L⟩] => tWr k X i m (wTys s t) L
  | [.ptr 0 0 0, .slw 1, .int .i64 i, .int .i64 m], [⟨true, .gen s [[.ptr 0 0 0, .slw 2]]⟩, ⟨false, .nodes X⟩, ⟨true, .bytes t L⟩] => tWr k X i m (wTys s t) L
  | _, _ => .bad
noncomputable def libPW (k : Nat) : Tb := (66, [2], sWr k) :: libP1
def inbP {α : Type} (i : Int) (n : Nat) (x : Option α) : Option α := bif decide (0 ≤ i ∧ i < (n : Int)) then x else none
def sgT : List Sgn := [⟨[45], 8⟩, ⟨[110, 111, 116, 32], 3⟩, ⟨[32, 42, 32], 7⟩, ⟨[32, 43, 32], 6⟩, ⟨[32, 45, 32], 6⟩, ⟨[32, 60, 60, 32], 5⟩, ⟨[32, 62, 62, 32], 5⟩, ⟨[32, 60, 32], 4⟩, ⟨[32, 60, 61, 32], 4⟩, ⟨[32, 62, 32], 4⟩, ⟨[32, 62, 61, 32], 4⟩, ⟨[32, 61, 32], 4⟩, ⟨[32, 33, 61, 32], 4⟩, ⟨[32, 97, 110, 100, 32], 2⟩, ⟨[32, 111, 114, 32], 1⟩]
def sgA (k : Int) : Sgn := sgT.getD (u8 (k - 5)).toNat default
def apO (L M : List Int) (K : List Int → Option Out) : Option Out := bif wTys bTys 5 && decide (L.length + M.length ≤ lim) then K (L ++ M) else none
def subW (k : Nat) (X : List Nod) (j m : Int) (L : List Int) (K : List Int → Option Out) : Option Out := bif wTys bTys 5 && (okX k X j && (rngX X && decide (L.length + (wrN k X j m).length ≤ 100000))) then K (L ++ ibs (wrN k X j m)) else none
def finW (L : List Int) : Option Out := some ⟨[], [bxP (.ptr 0 0 0) 1, bfP L]⟩
def binW (k : Nat) (X : List Nod) (x : Nod) (m : Int) (L : List Int) (K : List Int → Option Out) : Option Out := subW k X x.a m L fun M => apO M (ibs (sgA x.kind).sign) fun N => subW k X x.b (w64 ((sgA x.kind).line + 1)) N K
def restW (k : Nat) (X : List Nod) (x : Nod) (L : List Int) (K : List Int → Option Out) : Option Out := bif decide (x.kind = 5) then (apO L (ibs (sgA x.kind).sign) fun M => subW k X x.a (sgA x.kind).line M K) else bif decide (x.kind = 6) then (apO L (ibs (sgA x.kind).sign) fun M => subW k X x.a (sgA x.kind).line M K) else
  bif decide ((sgA x.kind).line = 4) then binW k X x (w64 ((sgA x.kind).line + 1)) L K else binW k X x (sgA x.kind).line L K
def leafW (x : Nod) (L : List Int) (K : List Int → Option Out) (z : Option Out) : Option Out := bif decide (x.kind = 1) then (bif rng64 x.n && true then apO L (ibs (Lib.itoa x.n)) K else none) else bif decide (x.kind ≤ 4) then inbP (u8 (x.kind - 2)) ([107, 116, 118] : List UInt8).length (apO L [((([107, 116, 118] : List UInt8).getD (u8 (x.kind - 2)).toNat 0).toNat : Int)] K) else z
def wrO (k : Nat) (X : List Nod) (x : Nod) (m : Int) (L : List Int) : Option Out := leafW x L finW (inb' (u8 (x.kind - 5)) sgT.length (bif decide ((sgA x.kind).line < m) then (apO L [40] fun _ => none) else restW k X x L finW))
theorem tWrite0 (k : Nat) (X : List Nod) (i m : Int) (L : List Int) : runP B (libPW k) Tryz.f66 [.ptr 0 0 0, .slw 1, i64 i, i64 m] [bxP .nilp 2, ndb X, bfP L] = inb' i X.length (wrO k X (nodA X i) m L) := by kernel_rfl
theorem tWrite1 (k : Nat) (X : List Nod) (i m : Int) (L : List Int) : runP B (libPW k) Tryz.f66 [.ptr 0 0 0, .slw 1, i64 i, i64 m] [bxP (.ptr 0 0 0) 2, ndb X, bfP L] = inb' i X.length (wrO k X (nodA X i) m L) := by kernel_rfl
noncomputable def wC : Code := bodyC Tryz.f66
noncomputable def wPcs : List Code := piecesOf 3 wC
noncomputable def wBlk : Code := blkOf 3 wC
noncomputable def wTail : Code := tailOf 3 wC
def seqA : Code → Code
  | .cond _ (.seq a _) _ => a
  | _ => .skip
def seqB : Code → Code
  | .cond _ (.seq _ b) _ => b
  | _ => .skip
noncomputable def wOps : Array Oper := match seqB wBlk with
  | .region _ o _ => o
  | _ => #[]
noncomputable def defW (B : Nat → Option Obj) (k : Nat) (vs : List AV) (bs : List Blk) : Option Out := (deferT (E0 B) noL (SxP B (libPW k)) Tryz.f66 wPcs 43 (seqA wBlk) wTail 0 46 105 (.int .u8 41) vs bs).sel
def wrD (k : Nat) (X : List Nod) (x : Nod) (m : Int) (L : List Int) : Option Out := leafW x L (fun _ => none) (inb' (u8 (x.kind - 5)) sgT.length (bif decide ((sgA x.kind).line < m) then (apO L [40] fun M => restW k X x M fun N => apO N [41] finW) else none))
theorem tWriteD0 (k : Nat) (X : List Nod) (i m : Int) (L : List Int) : defW B k [.ptr 0 0 0, .slw 1, i64 i, i64 m] [bxP .nilp 2, ndb X, bfP L] = inb' i X.length (wrD k X (nodA X i) m L) := by kernel_rfl
theorem tWriteD1 (k : Nat) (X : List Nod) (i m : Int) (L : List Int) : defW B k [.ptr 0 0 0, .slw 1, i64 i, i64 m] [bxP (.ptr 0 0 0) 2, ndb X, bfP L] = inb' i X.length (wrD k X (nodA X i) m L) := by kernel_rfl
end Go.Proofs.YtdckpbeioemopabGreatDoor
namespace Go.Proofs.YtdckpbeioemopabGreatDoor
open Go.Am Go.Shelf Go
set_option maxRecDepth 100000
variable {B : Nat → Option Obj}
def bodyN (n : Nat) (X : List Nod) (x : Nod) : List UInt8 := bif decide (x.kind = 5) then [45] ++ wrN n X x.a 8 else bif decide (x.kind = 6) then [110, 111, 116, 32] ++ wrN n X x.a 3 else wrN n X x.a (leftI x.kind) ++ (opS x.kind ++ wrN n X x.b ((lineK x.kind : Int) + 1))
theorem ibs_app (a b : List UInt8) : ibs (a ++ b) = ibs a ++ ibs b := by simp [ibs]
theorem ibs_len (a : List UInt8) : (ibs a).length = a.length := by simp [ibs]
theorem apO_in {L M : List Int} (h : L.length + M.length ≤ 200000) (K : List Int → Option Out) : apO L M K = K (L ++ M) := by
  unfold apO
  rw [show wTys bTys 5 = true by decide, decide_eq_true (show L.length + M.length ≤ lim by simp only [lim]; omega)]; rfl
theorem subW_in {k : Nat} {X : List Nod} {j m : Int} {L : List Int} (h1 : okX k X j = true) (h2 : rngX X = true) (h3 : L.length + (wrN k X j m).length ≤ 100000) (K : List Int → Option Out) : subW k X j m L K = K (L ++ ibs (wrN k X j m)) := by
  unfold subW
  rw [show wTys bTys 5 = true by decide, h1, h2, decide_eq_true h3]; rfl
theorem sg_fin : ∀ k : Fin 20, 5 ≤ k.val → (0 ≤ u8 ((k.val : Int) - 5) ∧ u8 ((k.val : Int) - 5) < 15) ∧ (sgA k.val).sign = (bif decide (k.val = 5) then [45] else bif decide (k.val = 6) then [110, 111, 116, 32] else opS k.val) ∧ (sgA k.val).line = (lineK k.val : Int) := by decide +kernel
theorem sg_is {k : Int} (h1 : 5 ≤ k) (h2 : k ≤ 19) : (0 ≤ u8 (k - 5) ∧ u8 (k - 5) < 15) ∧ (sgA k).sign = (bif decide (k = 5) then [45] else bif decide (k = 6) then [110, 111, 116, 32] else opS k) ∧ (sgA k).line = (lineK k : Int) := by
  have := sg_fin ⟨k.toNat, by omega⟩ (by simp only; omega)
  have e : ((k.toNat : Nat) : Int) = k := by omega
  simp only [e] at this
  rw [show decide (k.toNat = 5) = decide (k = 5) by congr 1; exact propext ⟨fun h => by omega, fun h => by omega⟩, show decide (k.toNat = 6) = decide (k = 6) by congr 1; exact propext ⟨fun h => by omega, fun h => by omega⟩] at this
  exact this
theorem restW_is {k : Nat} {X : List Nod} {x : Nod} {L : List Int} (k5 : 5 ≤ x.kind) (k19 : x.kind ≤ 19) (hx : (bif decide (x.kind ≤ 6) then okX k X x.a else okX k X x.a && okX k X x.b) = true) (hr : rngX X = true) (hl : L.length + (bodyN k X x).length ≤ 100000) (K : List Int → Option Out) :
    restW k X x L K = K (L ++ ibs (bodyN k X x)) := by
  obtain ⟨_, s2, s3⟩ := sg_is k5 k19
  have hln := lineK_le x.kind
  unfold restW
  unfold bodyN at hl ⊢
  rw [s3, s2]
  by_cases e5 : x.kind = 5
  · rw [decide_eq_true (show x.kind ≤ 6 by omega), cond_true] at hx
    rw [decide_eq_true e5, cond_true] at hl
    rw [decide_eq_true e5, cond_true, cond_true, cond_true, e5, show lineK 5 = 8 from rfl]
    rw [List.length_append] at hl
    rw [apO_in (by rw [ibs_len]; omega), subW_in hx hr (by rw [List.length_append, ibs_len]; show _ + (wrN k X x.a 8).length ≤ _; omega), ibs_app, List.append_assoc]; rfl
  rw [decide_eq_false e5, cond_false] at hl
  rw [decide_eq_false e5, cond_false, cond_false, cond_false]
  by_cases e6 : x.kind = 6
  · rw [decide_eq_true (show x.kind ≤ 6 by omega), cond_true] at hx
    rw [decide_eq_true e6, cond_true] at hl
    rw [decide_eq_true e6, cond_true, cond_true, cond_true, e6, show lineK 6 = 3 from rfl]
    rw [List.length_append] at hl
    rw [apO_in (by rw [ibs_len]; omega), subW_in hx hr (by rw [List.length_append, ibs_len]; show _ + (wrN k X x.a 3).length ≤ _; omega), ibs_app, List.append_assoc]; rfl
  rw [decide_eq_false e6, cond_false] at hl
  rw [decide_eq_false e6, cond_false, cond_false]
  rw [decide_eq_false (show ¬ x.kind ≤ 6 by omega), cond_false, Bool.and_eq_true] at hx
  simp only [List.length_append] at hl
  have hw : w64 ((lineK x.kind : Int) + 1) = (lineK x.kind : Int) + 1 := w64_rng (by unfold Rng; omega)
  have key : ∀ m, m = leftI x.kind → binW k X x m L K = K (L ++ ibs (wrN k X x.a (leftI x.kind) ++ (opS x.kind ++ wrN k X x.b ((lineK x.kind : Int) + 1)))) := fun m hm => by
    subst hm
    unfold binW
    rw [s3, s2, decide_eq_false e5, decide_eq_false e6, cond_false, cond_false, hw, subW_in hx.1 hr (by omega), apO_in (by rw [List.length_append, ibs_len, ibs_len]; omega), subW_in hx.2 hr (by simp only [List.length_append, ibs_len]; omega)]
    simp only [ibs_app, List.append_assoc]
  by_cases e4 : (lineK x.kind : Int) = 4
  · rw [decide_eq_true e4, cond_true]
    exact key _ (by unfold leftI; rw [decide_eq_true e4, hw, e4]; rfl)
  · rw [decide_eq_false e4, cond_false]
    exact key _ (by unfold leftI; rw [decide_eq_false e4]; rfl)
theorem fld_fin : ∀ k : Fin 5, 2 ≤ k.val → (0 ≤ u8 ((k.val : Int) - 2) ∧ u8 ((k.val : Int) - 2) < 3) ∧ [((([107, 116, 118] : List UInt8).getD (u8 ((k.val : Int) - 2)).toNat 0).toNat : Int)] = ibs (fldT k.val) := by decide +kernel
theorem leafW_is {x : Nod} {L : List Int} (k1 : 1 ≤ x.kind) (k4 : x.kind ≤ 4) (hn : rng64 x.n = true) {t : List UInt8} (ht : t = bif decide (x.kind = 1) then Lib.itoa x.n else fldT x.kind) (hl : L.length + t.length ≤ 100000) (K : List Int → Option Out) (z : Option Out) : leafW x L K z = K (L ++ ibs t) := by
  subst ht
  unfold leafW
  by_cases e1 : x.kind = 1
  · rw [decide_eq_true e1, cond_true] at hl
    rw [decide_eq_true e1, cond_true, cond_true, hn, apO_in (by rw [ibs_len]; omega)]; rfl
  · rw [decide_eq_false e1, cond_false] at hl
    rw [decide_eq_false e1, cond_false, cond_false, decide_eq_true k4, cond_true]
    obtain ⟨f1, f2⟩ := fld_fin ⟨x.kind.toNat, by omega⟩ (by simp only; omega)
    have e : ((x.kind.toNat : Nat) : Int) = x.kind := by omega
    simp only [e] at f1 f2
    unfold inbP
    rw [decide_eq_true (show 0 ≤ u8 (x.kind - 2) ∧ u8 (x.kind - 2) < (([107, 116, 118] : List UInt8).length : Int) from f1), cond_true, f2, apO_in (by rw [ibs_len]; omega)]
structure WrIn (k : Nat) (X : List Nod) (i : Int) : Prop where
  i0 : 0 ≤ i
  i1 : i < X.length
  k1 : 1 ≤ (nodA X i).kind
  k19 : (nodA X i).kind ≤ 19
  n : rng64 (nodA X i).n = true
  p : 4 < (nodA X i).kind → (bif decide ((nodA X i).kind ≤ 6) then okX k X (nodA X i).a else okX k X (nodA X i).a && okX k X (nodA X i).b) = true
theorem wr_in' {k : Nat} {X : List Nod} {i : Int} (hx : okX (k + 1) X i = true) (hr : rngX X = true) : WrIn k X i := by
  unfold okX at hx
  rw [Bool.and_eq_true] at hx
  obtain ⟨i0, i1, k1, k19⟩ := of_decide_eq_true hx.1
  have hmem : nodA X i ∈ X := by
    unfold nodA
    have : i.toNat < X.length := by omega
    rw [List.getD_eq_getElem?_getD, List.getElem?_eq_getElem this]
    exact List.getElem_mem this
  refine ⟨i0, i1, k1, k19, List.all_eq_true.1 hr _ hmem, fun h4 => ?_⟩
  have := hx.2
  rwa [decide_eq_false (show ¬ (nodA X i).kind ≤ 4 by omega), cond_false] at this
def brk? (X : List Nod) (i m : Int) : Bool := !decide ((nodA X i).kind ≤ 4) && decide ((lineK (nodA X i).kind : Int) < m)
theorem wr_is {k : Nat} {X : List Nod} {i m : Int} {L : List Int} (hx : okX (k + 1) X i = true) (hr : rngX X = true) (hl : L.length + (wrN (k + 1) X i m).length ≤ 100000) :
    (brk? X i m = false → inb' i X.length (wrO k X (nodA X i) m L) = finW (L ++ ibs (wrN (k + 1) X i m))) ∧ (brk? X i m = true → inb' i X.length (wrD k X (nodA X i) m L) = finW (L ++ ibs (wrN (k + 1) X i m))) := by
  obtain ⟨i0, i1, k1, k19, hn, hp⟩ := wr_in' hx hr
  unfold brk?
  unfold wrN at hl ⊢
  rw [inb_in i0 i1, inb_in i0 i1]
  unfold wrO wrD
  generalize nodA X i = x at *
  by_cases e4 : x.kind ≤ 4
  · have ht : (bif decide (x.kind = 1) then Lib.itoa x.n else bif decide (x.kind ≤ 4) then fldT x.kind else brT (decide ((lineK x.kind : Int) < m)) (bodyN k X x)) = (bif decide (x.kind = 1) then Lib.itoa x.n else fldT x.kind) := by rw [decide_eq_true e4]; rfl
    have ht' := ht
    unfold bodyN at ht'
    rw [ht'] at hl ⊢
    rw [decide_eq_true e4]
    exact ⟨fun _ => leafW_is k1 e4 hn rfl hl _ _, fun h => by cases h⟩
  · have e1 : ¬ x.kind = 1 := by omega
    rw [decide_eq_false e1, decide_eq_false e4, cond_false, cond_false] at hl
    rw [decide_eq_false e1, decide_eq_false e4, cond_false, cond_false, Bool.not_false, Bool.true_and]
    have hp := hp (by omega)
    obtain ⟨s1, _, s3⟩ := sg_is (show 5 ≤ x.kind by omega) k19
    have hz : ∀ (K : List Int → Option Out) (z : Option Out), leafW x L K z = z := fun K z => by
      unfold leafW
      rw [decide_eq_false e1, decide_eq_false e4]; rfl
    have hi : ∀ z : Option Out, inb' (u8 (x.kind - 5)) sgT.length z = z := fun z => inb_in s1.1 s1.2 z
    rw [hz, hz, hi, hi, s3]
    constructor
    · intro hb
      have hl : L.length + (bodyN k X x).length ≤ 100000 := by rw [hb] at hl; exact hl
      rw [hb, cond_false]
      exact restW_is (by omega) k19 hp hr hl _
    · intro hb
      have hl : L.length + (brT true (bodyN k X x)).length ≤ 100000 := by rw [hb] at hl; exact hl
      rw [hb, cond_true]
      have hl2 : L.length + ((bodyN k X x).length + 2) ≤ 100000 := by
        have : (brT true (bodyN k X x)).length = (bodyN k X x).length + 2 := by simp [brT]
        rw [← this]; exact hl
      rw [apO_in (by simp only [List.length_cons, List.length_nil]; omega), restW_is (by omega) k19 hp hr (by simp only [List.length_append, List.length_cons, List.length_nil]; omega), apO_in (by simp only [List.length_append, ibs_len, List.length_cons, List.length_nil]; omega)]
      have : ibs (brT true (bodyN k X x)) = [40] ++ (ibs (bodyN k X x) ++ [41]) := by unfold brT; rw [cond_true, ibs_app, ibs_app]; rfl
      show finW _ = finW (L ++ ibs (brT true (bodyN k X x)))
      rw [this]; simp
end Go.Proofs.YtdckpbeioemopabGreatDoor
namespace Go.Proofs.YtdckpbeioemopabGreatDoor
open Go.Am Go.Shelf Go
set_option maxRecDepth 100000
variable {B : Nat → Option Obj}
noncomputable def opAt (i : Nat) : Oper := (wOps[i]?).getD default
def callOf : Op → Call
  | .defer c => c
  | _ => default
noncomputable def wC1 : Call := callOf (opAt 1).op
theorem wOps_eq : wOps = #[⟨some 46, .move (.tmp 0), (opAt 0).type, (opAt 0).pos, (opAt 0).after, none⟩, ⟨none, .defer wC1, (opAt 1).type, (opAt 1).pos, (opAt 1).after, none⟩] := by
  apply Array.ext'
  kernel_rfl
theorem wC1_f : wC1.callee = .value (.func 105) := by kernel_rfl
theorem wC1_a : wC1.args = #[.tmp 46, .const (.int .u8 41)] := by
  apply Array.ext'
  kernel_rfl
theorem wInv (args : Array Value) (w : World) : (invoke (.fn (.func 105) #[]) args).run Tryz.prog w = .ok (.enter 105 args) w := by
  have hn : ¬ ((Tryz.f105.name == "runtime.NumGoroutine") = true) := by
    have : (Tryz.f105.name == "runtime.NumGoroutine") = false := by kernel_rfl
    rw [this]; simp
  have hb : ¬ (Tryz.f105.body.isNone = true) := by
    have : Tryz.f105.body.isNone = false := by kernel_rfl
    rw [this]; simp
  simp only [invoke, callFunc, Sem.run_bind, Result.andThen_ok, run_program, Tryz.func105]
  rw [if_neg hn, if_neg hb]
  simp
theorem wHops (a : Act) (w : World) (Q : Exit → Act → World → Prop) (hsz : 46 < a.tmps.size) (h : Q .normal { tmps := a.tmps.setIfInBounds 46 (a.tmps.getD 0 undef), defers := ⟨.fn (.func 105) #[], #[a.tmps.getD 0 undef, .int .u8 41]⟩ :: a.defers } w) :
    (Code.region 8 wOps false).wp Tryz.prog Q a w := by
  refine wp_region ?_
  rw [wOps_eq]
  show wpOps _ _ Q [0, 1] a w
  unfold wpOps
  simp only [List.getElem?_toArray, List.getElem?_cons_zero]
  rw [if_pos (show Region.wanted _ _ = true from rfl)]
  refine .inl ?_
  unfold Oper.wp
  have hmv : ∀ (ty : TypeId) (pos : String) (af : Array Edge), (execOp a.eval ⟨some 46, .move (.tmp 0), ty, pos, af, none⟩).run Tryz.prog w = .ok (.value (a.eval (.tmp 0))) w := fun _ _ _ => rfl
  rw [hmv, Oper.upon_value]
  unfold wpOps
  simp only [List.getElem?_toArray, List.getElem?_cons_succ, List.getElem?_cons_zero]
  rw [if_pos (show Region.wanted _ _ = true from rfl)]
  refine .inl ?_
  unfold Oper.wp
  have hev : (a.put (some 46) (a.eval (.tmp 0))).eval (.tmp 46) = a.tmps.getD 0 undef := by
    simp [Act.put, Act.eval, Array.getD, Array.setIfInBounds, hsz]
  have hrun : ∀ (ty : TypeId) (pos : String) (af : Array Edge),
      (execOp (a.put (some 46) (a.eval (.tmp 0))).eval ⟨none, .defer wC1, ty, pos, af, none⟩).run Tryz.prog w = .ok (.defer ⟨.fn (.func 105) #[], #[a.tmps.getD 0 undef, .int .u8 41]⟩) w := fun ty pos af => by
    have hf : (a.put (some 46) (a.eval (.tmp 0))).eval (.func 105) = .func (.func 105) #[] #[] := rfl
    have h41 : (a.put (some 46) (a.eval (.tmp 0))).eval (.const (.int .u8 41)) = .int .u8 41 := rfl
    simp [execOp, resolve, wC1_f, wC1_a, hev, hf, h41, Deferred.ofValue, Sem.run_pure]
  rw [hrun, Oper.upon_defer]
  exact h
end Go.Proofs.YtdckpbeioemopabGreatDoor
namespace Go.Proofs.YtdckpbeioemopabGreatDoor
open Go.Am Go.Shelf Go
set_option maxRecDepth 100000
variable {B : Nat → Option Obj}
theorem fnOk_or {E : Env} {f : FuncId} {s1 s2 s : FSpec} (h1 : FnOk E f s1) (h2 : FnOk E f s2) (h : ∀ vs bs r, (s vs bs).sel = some r → (s1 vs bs).sel = some r ∨ (s2 vs bs).sel = some r) : FnOk E f s :=
  ⟨h1.1, fun vs bs out hs => (h vs bs out hs).elim (h1.2 vs bs out) (h2.2 vs bs out)⟩
noncomputable def specA (B : Nat → Option Obj) (k : Nat) : FSpec := fun vs bs => fnRun (E0 B) (CxP B (libPW k)) (inlL (E0 B) (CxP B (libPW k)) 450) Tryz.f66 (bodyC Tryz.f66) vs bs
noncomputable def specD (B : Nat → Option Obj) (k : Nat) : FSpec := fun vs bs => deferT (E0 B) noL (SxP B (libPW k)) Tryz.f66 wPcs 43 (seqA wBlk) wTail 0 46 105 (.int .u8 41) vs bs
theorem libPW_ok (hB : Laid B) {k : Nat} (h : FnOk (E0 B) 66 (sWr k)) : TbOk B (libPW k) := (libP1_ok hB).add h
theorem wPcs_ne : wPcs ≠ [] := by
  intro h
  have : wPcs.length = 4 := by kernel_rfl
  rw [h] at this; cases this
theorem wAt : FnAt Tryz.prog 66 Tryz.f66 (nest (.cond (.tmp 43) (.seq (seqA wBlk) (.region 8 wOps false)) .skip) wTail wPcs) :=
  ⟨Tryz.func66, by kernel_rfl, by
    have : (Tryz.f66.name == "runtime.NumGoroutine") = false := by kernel_rfl
    simpa using this⟩
theorem okD (hB : Laid B) {k : Nat} (h : FnOk (E0 B) 66 (sWr k)) : FnOk (E0 B) 66 (specD B k) :=
  defer_ok (E := E0 B) (L := noL) (S := SxP B (libPW k)) (sd := ([1], sWB)) wAt wPcs_ne (cxPOk (libPW_ok hB h)) (fun z _ => noL_ok z) (noL_ok _) (noL_ok _) (by kernel_rfl) (by kernel_rfl) (okWBD hB) wInv wHops (fun ρ => by simp [V]) fun _ _ _ h => h
theorem okA (hB : Laid B) {k : Nat} (h : FnOk (E0 B) 66 (sWr k)) : FnOk (E0 B) 66 (specA B k) :=
  fnP (libPW_ok hB h) Tryz.func66 (by kernel_rfl) (by kernel_rfl) fun _ _ _ h => h
theorem tWr_sel {k : Nat} {X : List Nod} {i m : Int} {s : List TypeId} {t : TypeId} {L : List Int} {r : Out} (h : (tWr k X i m (wTys s t) L).sel = some r) :
    (s = bTys ∧ t = 5) ∧ okX k X i = true ∧ rngX X = true ∧ L.length + (wrN k X i m).length ≤ 100000 ∧ finW (L ++ ibs (wrN k X i m)) = some r := by
  unfold tWr at h
  rcases T.node_sel h with ⟨hg, h2⟩ | ⟨_, h2⟩
  · simp only [Bool.and_eq_true] at hg
    exact ⟨wTys_is hg.1, hg.2.1, hg.2.2.1, of_decide_eq_true hg.2.2.2, h2⟩
  · simp [T.sel] at h2
theorem okWrite (hB : Laid B) : ∀ k, FnOk (E0 B) 66 (sWr k)
  | 0 => by
    refine fnP (libP1_ok hB) Tryz.func66 (by kernel_rfl) (by kernel_rfl) fun vs bs r h => ?_
    unfold sWr at h
    split at h
    · have := (tWr_sel h).2.1; cases this
    · have := (tWr_sel h).2.1; cases this
    · simp [T.sel] at h
  | k + 1 => by
    refine fnOk_or (okA hB (okWrite hB k)) (okD hB (okWrite hB k)) fun vs bs r h => ?_
    unfold sWr at h
    split at h
    · rename_i i m s X t L
      obtain ⟨⟨rfl, rfl⟩, h1, h2, h3, h4⟩ := tWr_sel h
      obtain ⟨w1, w2⟩ := wr_is h1 h2 h3
      cases hb : brk? X i m with
      | false => exact .inl ((tWrite0 (B := B) k X i m L).trans ((w1 hb).trans h4))
      | true => exact .inr ((tWriteD0 (B := B) k X i m L).trans ((w2 hb).trans h4))
    · rename_i i m s X t L
      obtain ⟨⟨rfl, rfl⟩, h1, h2, h3, h4⟩ := tWr_sel h
      obtain ⟨w1, w2⟩ := wr_is h1 h2 h3
      cases hb : brk? X i m with
      | false => exact .inl ((tWrite1 (B := B) k X i m L).trans ((w1 hb).trans h4))
      | true => exact .inr ((tWriteD1 (B := B) k X i m L).trans ((w2 hb).trans h4))
    · simp [T.sel] at h
noncomputable def libPE : Tb := libPW 20
def pxO (w : List Int) : Option Out := bif decide (w ≠ []) && w.all inByte then tx2 (byteList w) 0 else none
theorem tExprP (X : List Nod) : runP B libPE Tryz.f33 [.slw 0] [ndb X] = bif !decide (chkN X = 0) then tx2 [] (chkN X) else
    subW 20 X (w64 ((X.length : Int) - 1)) 0 [] pxO := by kernel_rfl
end Go.Proofs.YtdckpbeioemopabGreatDoor
namespace Go.Proofs.YtdckpbeioemopabGreatDoor
open Go.Am Go.Shelf Go
set_option maxRecDepth 100000
variable {B : Nat → Option Obj}
theorem dec_cast (a b : Nat) : decide ((a : Int) < (b : Int)) = decide (a < b) := by congr 1; exact propext ⟨fun h => by omega, fun h => by omega⟩
theorem leftI_is (k : Int) : leftI k = (leftL k : Int) := by
  unfold leftI leftL
  by_cases h : lineK k = 4
  · rw [decide_eq_true h, decide_eq_true (show (lineK k : Int) = 4 by omega)]; rfl
  · rw [decide_eq_false h, decide_eq_false (show ¬ (lineK k : Int) = 4 by omega)]; rfl
theorem wrN_flat : ∀ (e : Ex) (n : Nat) (pre post : List Nod) (m : Nat), e.ok = true → e.depth ≤ n →
    wrN n (pre ++ (e.flat pre.length ++ post)) ((pre.length : Int) + e.size - 1) (m : Int) = pcsS (e.pcs false [] m)
  | e, 0, _, _, _, _, h => by have := e.depth_pos; omega
  | .leaf k a q, n + 1, pre, post, m, hok, _ => by
    have hok := of_decide_eq_true hok
    have hx : nodA (pre ++ ((Ex.leaf k a q).flat pre.length ++ post)) ((pre.length : Int) + (Ex.leaf k a q).size - 1) = ⟨k, a, 0, 0, q⟩ := by
      rw [show (pre.length : Int) + (Ex.leaf k a q).size - 1 = (pre.length : Int) from by simp [Ex.size]]
      exact nodA_mid pre _ post
    unfold wrN Ex.pcs
    rw [hx]
    by_cases h1 : k = 1
    · rw [decide_eq_true h1]; simp [pcsS]
    · rw [decide_eq_false h1, decide_eq_true (show k ≤ 4 by omega)]; simp [pcsS]
  | .un k q e, n + 1, pre, post, m, hok, hd => by
    obtain ⟨k1, k2, ho⟩ := Ex.ok_un hok
    have hp := e.size_pos
    have hl : pre ++ ((Ex.un k q e).flat pre.length ++ post) = pre ++ (e.flat pre.length ++ (⟨k, 0, (pre.length : Int) + e.size - 1, 0, q⟩ :: post)) := by simp [Ex.flat]
    have hx : nodA (pre ++ (e.flat pre.length ++ (⟨k, 0, (pre.length : Int) + e.size - 1, 0, q⟩ :: post))) ((pre.length : Int) + (Ex.un k q e).size - 1) = ⟨k, 0, (pre.length : Int) + e.size - 1, 0, q⟩ := by
      have := nodA_mid (pre ++ e.flat pre.length) ⟨k, 0, (pre.length : Int) + e.size - 1, 0, q⟩ post
      rw [List.append_assoc, List.length_append, Ex.flat_len] at this
      rw [show (pre.length : Int) + (Ex.un k q e).size - 1 = ((pre.length + e.size : Nat) : Int) from by simp only [Ex.size]; omega]
      exact this
    have i8 := wrN_flat e n pre (⟨k, 0, (pre.length : Int) + e.size - 1, 0, q⟩ :: post) 8 ho (by simp only [Ex.depth] at hd; omega)
    have i3 := wrN_flat e n pre (⟨k, 0, (pre.length : Int) + e.size - 1, 0, q⟩ :: post) 3 ho (by simp only [Ex.depth] at hd; omega)
    have i8 : wrN n (pre ++ (e.flat pre.length ++ (⟨k, 0, (pre.length : Int) + e.size - 1, 0, q⟩ :: post))) ((pre.length : Int) + e.size - 1) 8 = _ := i8
    have i3 : wrN n (pre ++ (e.flat pre.length ++ (⟨k, 0, (pre.length : Int) + e.size - 1, 0, q⟩ :: post))) ((pre.length : Int) + e.size - 1) 3 = _ := i3
    rw [hl]
    unfold wrN Ex.pcs
    rw [hx]
    simp only
    rw [decide_eq_false (show ¬ k = 1 by omega), decide_eq_false (show ¬ k ≤ 4 by omega), pcsS_brk, cond_false, cond_false, dec_cast, i8, i3]
    by_cases h5 : k = 5
    · rw [decide_eq_true h5]
      simp [pcsS, subL]
    · rw [decide_eq_false h5, decide_eq_true (show k = 6 by omega)]
      simp [pcsS, pcs_gapS false e [32], subL, notT]
  | .bin k q a b, n + 1, pre, post, m, hok, hd => by
    obtain ⟨k1, k2, oa, ob⟩ := Ex.ok_bin hok
    have hp := a.size_pos
    have hq := b.size_pos
    simp only [Ex.depth] at hd
    have hl : pre ++ ((Ex.bin k q a b).flat pre.length ++ post) = pre ++ (a.flat pre.length ++ (b.flat ((pre.length : Int) + a.size) ++ (⟨k, 0, (pre.length : Int) + a.size - 1, (pre.length : Int) + a.size + b.size - 1, q⟩ :: post))) := by simp [Ex.flat]
    have hx : nodA (pre ++ (a.flat pre.length ++ (b.flat ((pre.length : Int) + a.size) ++ (⟨k, 0, (pre.length : Int) + a.size - 1, (pre.length : Int) + a.size + b.size - 1, q⟩ :: post)))) ((pre.length : Int) + (Ex.bin k q a b).size - 1) = ⟨k, 0, (pre.length : Int) + a.size - 1, (pre.length : Int) + a.size + b.size - 1, q⟩ := by
      have := nodA_mid (pre ++ (a.flat pre.length ++ b.flat ((pre.length : Int) + a.size))) ⟨k, 0, (pre.length : Int) + a.size - 1, (pre.length : Int) + a.size + b.size - 1, q⟩ post
      rw [List.append_assoc, List.append_assoc, List.length_append, List.length_append, Ex.flat_len, Ex.flat_len] at this
      rw [show (pre.length : Int) + (Ex.bin k q a b).size - 1 = ((pre.length + (a.size + b.size) : Nat) : Int) from by simp only [Ex.size]; omega]
      exact this
    have i1 := wrN_flat a n pre (b.flat ((pre.length : Int) + a.size) ++ (⟨k, 0, (pre.length : Int) + a.size - 1, (pre.length : Int) + a.size + b.size - 1, q⟩ :: post)) (leftL k) oa (by omega)
    have j1 := wrN_flat b n (pre ++ a.flat pre.length) (⟨k, 0, (pre.length : Int) + a.size - 1, (pre.length : Int) + a.size + b.size - 1, q⟩ :: post) (lineK k + 1) ob (by omega)
    rw [List.length_append, Ex.flat_len, Int.natCast_add, List.append_assoc] at j1
    rw [hl]
    unfold wrN Ex.pcs
    rw [hx]
    simp only
    rw [decide_eq_false (show ¬ k = 1 by omega), decide_eq_false (show ¬ k ≤ 4 by omega), decide_eq_false (show ¬ k = 5 by omega), decide_eq_false (show ¬ k = 6 by omega), pcsS_brk, cond_false, cond_false, cond_false, cond_false, dec_cast, leftI_is, i1, show (lineK k : Int) + 1 = ((lineK k + 1 : Nat) : Int) by omega, j1]
    simp [pcsS, pcsS_app, pcs_gapS false b [32], subL, opS]
theorem ibs_in (s : List UInt8) : (ibs s).all inByte = true := by
  refine List.all_eq_true.2 fun x hx => ?_
  obtain ⟨c, _, rfl⟩ := List.mem_map.1 hx
  have := c.toNat_lt
  exact decide_eq_true ⟨by omega, by omega⟩
theorem ibs_back (s : List UInt8) : byteList (ibs s) = s := by
  unfold byteList ibs
  rw [List.map_map]
  have : ((fun n : Int => UInt8.ofNat n.toNat) ∘ fun c : UInt8 => (c.toNat : Int)) = id := by
    funext c
    simp
  rw [this, List.map_id]
def prS (X : List Nod) : List UInt8 := bif decide (chkN X = 0) then wrN 20 X ((X.length : Int) - 1) 0 else []
theorem pcsS_ne (full : Bool) (e : Ex) (n : Nat) (h : e.rng = true) (ho : e.ok = true) : pcsS (e.pcs full [] n) ≠ [] := by
  obtain ⟨p, r, h1, _⟩ := pcs_hd full e [] n
  have hk := pcOk_ex full e [] n [] ho h rfl rfl rfl
  rw [List.append_nil, h1] at hk
  unfold pcOk at hk
  simp only [Bool.and_eq_true] at hk
  have ht := of_decide_eq_true hk.1.2
  obtain ⟨c, q, hc, _⟩ := valid_tok ht
  rw [h1]
  simp [pcsS, hc]
theorem prS_is {e : Ex} (h : e.ok = true) (hc : chkN (e.flat 0) = 0) : prS (e.flat 0) = e.txt false := by
  have hs := chk_ok h hc
  have := wrN_flat e 20 [] [] 0 h hs.2
  simp only [List.nil_append, List.append_nil, List.length_nil] at this
  rw [show ((0 : Nat) : Int) + (e.size : Int) - 1 = (e.size : Int) - 1 by omega] at this
  unfold prS
  rw [decide_eq_true hc, cond_true, Ex.flat_len]
  exact this
def sExprP : FSpec
  | [.slw 0], [⟨false, .nodes X⟩] => .node (rngX X) (.leaf ⟨[.str (prS X), .int .i64 (chkN X)], []⟩) .bad
  | _, _ => .bad
theorem okExprP (hB : Laid B) : FnOk (E0 B) 33 sExprP := by
  refine fnP (libPW_ok hB (okWrite hB 20)) Tryz.func33 (by kernel_rfl) (by kernel_rfl) fun vs bs r h => ?_
  unfold sExprP at h
  split at h
  · rename_i X
    rcases T.node_sel h with ⟨hr, h2⟩ | ⟨_, h2⟩
    · simp only [T.sel, Option.some.injEq] at h2; subst h2
      refine (tExprP X).trans ?_
      by_cases hc : chkN X = 0
      · obtain ⟨e, he, rfl, hs, _⟩ := chkN_tree hc
        have h1 := prS_is he hc
        have hx := (txS_is he hc).2
        have hp := e.size_pos
        have hrr : e.rng = true := by rw [← rng_flat e 0]; exact hr
        have hw : w64 (((e.flat 0).length : Int) - 1) = ((e.flat 0).length : Int) - 1 := w64_rng (by unfold Rng; rw [Ex.flat_len]; omega)
        have hb := pcsS_bound false e 0 hrr
        have h1' : wrN 20 (e.flat 0) (((e.flat 0).length : Int) - 1) 0 = e.txt false := by
          unfold prS at h1
          rwa [decide_eq_true hc] at h1
        rw [hw, decide_eq_true hc, Bool.not_true, cond_false, subW_in hx hr (by rw [h1']; unfold Ex.txt; simp only [List.length_nil]; omega), h1', List.nil_append]
        unfold pxO
        have hne : ibs (e.txt false) ≠ [] := fun h0 => pcsS_ne false e 0 hrr he (by simpa [ibs, Ex.txt] using h0)
        rw [decide_eq_true hne, ibs_in, ibs_back, h1, hc]; rfl
      · unfold prS
        rw [decide_eq_false hc]; rfl
    · simp [T.sel] at h2
  · simp [T.sel] at h
end Go.Proofs.YtdckpbeioemopabGreatDoor
