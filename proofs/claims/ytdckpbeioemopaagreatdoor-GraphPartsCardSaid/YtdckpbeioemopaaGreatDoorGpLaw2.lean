/-
  GraphParts: at every plan.
-/
import Derived.Test.YtdckpbeioemopaaGreatDoorGpA
import Derived.Test.YtdckpbeioemopaaGreatDoorAmPlan
namespace Go.Proofs.YtdckpbeioemopaaGreatDoor.Gp
open Go.Am Go Go.Proofs.YtdckpbeioemopaaGreatDoor Go.Proofs.YtdckpbeioemopaaGreatDoor.Gr Go.Proofs.YtdckpbeioemopaaGreatDoor.Gf
set_option maxRecDepth 100000
variable {B : Nat → Option Obj}
noncomputable def libN : Tb := (8, [], sTrueF) :: (9, [], sFit) :: (10, [], fun _ _ => .bad) :: libH
theorem libN_ok (hB : Laid B) : TbOk B libN := ((libH_ok.add (okBad okOfG)).add okFit).add (okAl24 hB)
theorem tNo (st : List Int) (q : Qry) (p room : Int) : runT B libN Tryz.f3 [Pl.plAv q 0 1 2 3, i64 p, i64 room] (Pl.plBs false st q) = gdO (st.all inByte) (bif !fitB st q p room then rb true else none) := by kernel_rfl
theorem fitB_of {st : List Int} {q : Qry} {p room : Int} (h : fitB st q p room = true) : st.length ≤ 30 ∧ Pl.plE st q = 0 ∧ 1 ≤ p ∧ p ≤ 3 ∧ 1 ≤ room ∧ room ≤ 8 := by
  unfold fitB at h
  simp only [Bool.and_eq_true, decide_eq_true_eq] at h
  obtain ⟨_, _, _, h1, h2, h3, h4, h5, h6⟩ := h
  exact ⟨by omega, h2, h3, h4, h5, h6⟩
theorem okG_of {st : List Int} {q : Qry} {p room : Int} (h : fitB st q p room = true) : okG st q p room = true := by
  obtain ⟨h1, h2, h3, h4, h5, h6⟩ := fitB_of h
  unfold okG
  rw [decide_eq_true h2, decide_eq_true (show st.length ≤ 1000 ∧ 1 ≤ p ∧ p ≤ 3 ∧ 1 ≤ room ∧ room ≤ 8 from ⟨by omega, h3, h4, h5, h6⟩)]; rfl
theorem law_true {st : List Int} {q : Qry} {n p : Nat} {bk sd j : Bool} {room : Int} (hb : st.all inByte = true) (hf : fitB st q p room = true) (hv : validN (ofO n p bk j sd) (ofC n p bk sd room) = true) : lawO st q n p bk sd j room = rb true := by
  unfold lawO gdO
  rw [hb, hf, okG_of hf, hv]; rfl
theorem run_fit {st : List Int} {q : Qry} {p room : Int} (hb : st.all inByte = true) (hf : fitB st q p room = true) : runG B st q p room = rb true := by
  obtain ⟨_, h0, p1, p3, r1, r8⟩ := fitB_of hf
  obtain ⟨hlt, hn1, hn4, hj⟩ := src_len (Pl.ckE_clk (Pl.plE_0 h0).1)
  obtain ⟨n, rfl⟩ : ∃ n : Nat, p = (n : Int) := ⟨p.toNat, by omega⟩
  have hp : n = 1 ∨ n = 2 ∨ n = 3 := by omega
  obtain ⟨ag, A, S, j, W, wk, ws, we, bk, lt⟩ := q
  obtain ⟨sd, rfl⟩ : ∃ sd, lt = ltO sd := by
    rcases hlt with h | h
    · exact ⟨false, h⟩
    · exact ⟨true, h⟩
  simp only at hn1 hn4 hj
  match S, hn1, hn4, hj, hf with
  | [s1], _, _, hj, hf =>
    cases j with
    | true => exact absurd (hj rfl) (by simp)
    | false => exact (tP1 bk sd n hp st ag wk ws we s1 A W room).trans (law_true hb hf (val_all (.inl rfl) hp bk sd false (by simp) r1 r8))
  | [s1, s2], _, _, _, hf => exact (tP2 bk sd j n hp st ag wk ws we s1 s2 A W room).trans (law_true hb hf (val_all (.inr (.inl rfl)) hp bk sd j (fun _ => rfl) r1 r8))
  | [s1, s2, s3], _, _, hj, hf =>
    cases j with
    | true => exact absurd (hj rfl) (by simp)
    | false => exact (tP3 bk sd n hp st ag wk ws we s1 s2 s3 A W room).trans (law_true hb hf (val_all (.inr (.inr (.inl rfl))) hp bk sd false (by simp) r1 r8))
  | [s1, s2, s3, s4], _, _, hj, hf =>
    cases j with
    | true => exact absurd (hj rfl) (by simp)
    | false => exact (tP4 bk sd n hp st ag wk ws we s1 s2 s3 s4 A W room).trans (law_true hb hf (val_all (.inr (.inr (.inr rfl))) hp bk sd false (by simp) r1 r8))
theorem okPn (hB : Laid B) : FnOk (E0 B) 3 (fun vs bs => fnRun (E0 B) (Cx B libN) (inlL (E0 B) (Cx B libN) 450) Tryz.f3 (bodyC Tryz.f3) vs bs) :=
  fnT (libN_ok hB) Tryz.func3 (by kernel_rfl) (by kernel_rfl) fun vs bs r h => h
theorem okPg (hB : Laid B) : FnOk (E0 B) 3 (fun vs bs => fnRun (E0 B) (Cx B libP) (inlL (E0 B) (Cx B libP) 450) Tryz.f3 (bodyC Tryz.f3) vs bs) :=
  fnT (libP_ok hB) Tryz.func3 (by kernel_rfl) (by kernel_rfl) fun vs bs r h => h
def sGp : FSpec
  | [.agg [.slw 0, .int .u8 _, .slw 1, .slw 2, .bool _, .slw 3, .int .u8 _, .int .i64 _, .int .i64 _, .bool _, .int .u8 _], .int .i64 _, .int .i64 _], [⟨false, .ints .u8 st⟩, ⟨false, .nodes _⟩, ⟨false, .ints .i64 _⟩, ⟨false, .nodes _⟩] => .node (st.all inByte) (.leaf ⟨[.bool true], []⟩) .bad
  | _, _ => .bad
def sGpB (_ : Nat → Option Obj) : FSpec := sGp
theorem okGp (hB : Laid B) : FnOk (E0 B) 3 sGp := by
  refine or_spec (okPn hB) (okPg hB) fun vs bs r h => ?_
  unfold sGp at h
  split at h
  · rename_i ag j wk ws we bk lt p room st A S W
    rcases T.node_sel h with ⟨hc, h2⟩ | ⟨_, h2⟩
    · simp only [T.sel, Option.some.injEq] at h2; subst h2
      cases hf : fitB st ⟨ag, A, S, j, W, wk, ws, we, bk, lt⟩ p room with
      | false =>
        left
        refine (tNo st ⟨ag, A, S, j, W, wk, ws, we, bk, lt⟩ p room).trans ?_
        rw [hc, hf]; rfl
      | true => exact .inr (run_fit (B := B) (q := ⟨ag, A, S, j, W, wk, ws, we, bk, lt⟩) hc hf)
    · simp [T.sel] at h2
  · simp [T.sel] at h
theorem byt_all {st : List Int} (hb : bytWf st) : st.all inByte = true := List.all_eq_true.2 fun x hx => by simpa [inByte, Lit.wf, IntKind.min, IntKind.max, IntKind.signed, IntKind.bits] using hb x hx
theorem sGp_sel {q : Qry} {st : List Int} {p room : Int} (hb : bytWf st) : (sGp [planAv q 0 1 2 3, i64 p, i64 room] [⟨false, .ints .u8 st⟩, ⟨false, .nodes q.arg⟩, ⟨false, .ints .i64 q.src⟩, ⟨false, .nodes q.whr⟩]).sel = some ⟨[.bool true], []⟩ := by
  show (bif st.all inByte then _ else _) = _
  rw [byt_all hb]; rfl
end Go.Proofs.YtdckpbeioemopaaGreatDoor.Gp
