/-
  Texts put together: ChkText, ChkText2.
-/
import Derived.Test.YtdckpbeioemopabGreatDoorParB
import Derived.Test.YtdckpbeioemopabGreatDoorLitA
namespace Go.Proofs.YtdckpbeioemopabGreatDoor.Tx
open Go.Am Go Go.Proofs.YtdckpbeioemopabGreatDoor Go.Proofs.YtdckpbeioemopabGreatDoor.Kd Go.Proofs.YtdckpbeioemopabGreatDoor.Pr
set_option maxRecDepth 100000
variable {B : Nat → Option Obj}
theorem par_cases (s : List UInt8) : (prE s ≠ 0 ∧ prQ s = qZ ∧ 0 ≤ prN s ∧ prN s ≤ (s.length : Int)) ∨ (prE s = 0 ∧ prN s = (s.length : Int) ∧ lexE s = 0 ∧ (pQ (lexL s) 0).d = 0 ∧ prQ s = (pQ (lexL s) 0).q) := by
  by_cases he : lexE s = 0
  · obtain ⟨hL, h1, h2, h3⟩ := lex_tk he
    have e1 : prE s = (pQ (lexL s) 0).d := by unfold prE; rw [decide_eq_true he]; rfl
    have e2 : prN s = prC s (lexL s) (pQ (lexL s) 0) := by unfold prN; rw [decide_eq_true he]; rfl
    by_cases hd : (pQ (lexL s) 0).d = 0
    · refine .inr ⟨e1.trans hd, ?_, he, hd, ?_⟩
      · rw [e2]; unfold prC; rw [decide_eq_true hd]; rfl
      · unfold prQ; rw [decide_eq_true (e1.trans hd)]; rfl
    · refine .inl ⟨fun h => hd (e1.symm.trans h), ?_, ?_⟩
      · unfold prQ; rw [decide_eq_false (fun h => hd (e1.symm.trans h))]; rfl
      · rw [e2]
        unfold prC
        rw [decide_eq_false hd]
        obtain ⟨k1, k2⟩ := cQ hL hd
        by_cases hk : (pQ (lexL s) 0).c < ((lexL s).length : Int)
        · rw [decide_eq_true hk]
          have hm := tkA_mem k1 hk
          rw [h1] at hm
          have := lx_pos s 0 0 _ hm
          simp only [cond_false, cond_true]
          rw [h1]
          omega
        · rw [decide_eq_false hk]
          simp only [cond_false]
          omega
  · have e1 : prE s = lexE s := by unfold prE; rw [decide_eq_false he]; rfl
    refine .inl ⟨by rw [e1]; exact he, ?_, ?_⟩
    · unfold prQ; rw [e1, decide_eq_false he]; rfl
    · have e2 : prN s = lexN s := by unfold prN; rw [decide_eq_false he]; rfl
      rw [e2]
      by_cases hs : s.length ≤ 400
      · have h : ¬ (400 : Int) < (s.length : Int) := by omega
        unfold lexN
        rw [Lx.lexA_is h]
        by_cases he : (lx s 0 0).e = 0
        · rw [lx_end s 0 0 he]; omega
        · obtain ⟨p, q, h1, h2, _⟩ := lx_error s 0 0 he
          rw [h2, h1, List.length_append]; omega
      · rw [(lex_big hs).2]; omega
theorem want42 {L : List Nod} (h : chkN L = 0) {t : Bool} (hw : (kWant L t).2 ≠ 0) : (kWant L t).2 = 42 := by
  unfold kWant at hw ⊢
  unfold kOf at hw ⊢
  rw [decide_eq_true h] at hw ⊢
  simp only [Bool.not_true, cond_false] at hw ⊢
  cases hl : decide (wrongN L < (L.length : Int)) with
  | true => rfl
  | false =>
    rw [hl] at hw
    simp only [cond_false] at hw ⊢
    cases hg : (givesN (lastK L) == t) with
    | true => rw [hg] at hw; exact (hw rfl).elim
    | false => rfl
theorem want_pos {L : List Nod} (h : chkN L = 0) (t : Bool) : ∃ x ∈ L, posAt L (kWant L t).1 = x.pos := by
  obtain ⟨h0, h1⟩ := Ck.kOf_at h
  unfold posAt kWant
  have hl : (kOf L).2.1.toNat < L.length := by omega
  exact ⟨_, List.getElem_mem hl, by rw [List.getD, List.getElem?_eq_getElem hl]; rfl⟩
theorem chk_cases {q : Qry} (hc : clkE q = 0) : ckE q = (0, 0) ∨ ((ckE q).2 = 42 ∧ ((∃ x ∈ q.arg, (ckE q).1 = x.pos) ∨ (∃ x ∈ q.whr, (ckE q).1 = x.pos))) := by
  have hE : ckE q = ckR q := by unfold ckE; rw [decide_eq_true hc]; rfl
  rw [hE]
  have hw : ckW q = (0, 0) ∨ ((ckW q).2 = 42 ∧ ∃ x ∈ q.whr, (ckW q).1 = x.pos) := by
    unfold ckW
    by_cases hp : 0 < q.whr.length
    · by_cases hw : (kWant q.whr true).2 = 0
      · rw [decide_eq_true hw]; exact .inl (by simp)
      · rw [decide_eq_true hp, decide_eq_false hw]
        exact .inr ⟨want42 (Ck.clk_whr hc hp) hw, want_pos (Ck.clk_whr hc hp) true⟩
    · rw [decide_eq_false hp]; exact .inl rfl
  unfold ckR
  by_cases hp : 0 < q.arg.length
  · by_cases ha : (kWant q.arg false).2 = 0
    · rw [decide_eq_true ha]
      simp only [Bool.not_true, Bool.and_false, cond_false]
      rcases hw with hw | ⟨h1, h2⟩
      · exact .inl hw
      · exact .inr ⟨h1, .inr h2⟩
    · rw [decide_eq_true hp, decide_eq_false ha]
      exact .inr ⟨want42 (Ck.clk_arg hc hp) ha, .inl (want_pos (Ck.clk_arg hc hp) false)⟩
  · rw [decide_eq_false hp]
    simp only [Bool.false_and, cond_false]
    rcases hw with hw | ⟨h1, h2⟩
    · exact .inl hw
    · exact .inr ⟨h1, .inr h2⟩
inductive K3 where
  | bad | typ | ok
def sP3 : K3 → FSpec
  | .bad => fun vs bs => match vs, bs with
    | [.str s], [] => .node (!decide (prE s = 0)) (.leaf ⟨[qZ.av 0 1 2, i64 (prN s), i64 (prE s)], [nb false [], lb false [], nb false []]⟩) .bad
    | _, _ => .bad
  | _ => fun vs bs => match vs, bs with
    | [.str s], [] => .node (decide (prE s = 0)) (.leaf ⟨[(prQ s).av 0 1 2, i64 s.length, i64 0], [nb false (prQ s).arg, lb false (prQ s).src, nb false (prQ s).whr]⟩) .bad
    | _, _ => .bad
theorem okP3 (hB : Laid B) (k : K3) : FnOk (E0 B) 11 (sP3 k) := by
  refine fnOk_weak (okPar hB) fun vs bs r h => ?_
  cases k with
  | bad =>
    simp only [sP3] at h
    split at h
    · rename_i s
      rcases T.node_sel h with ⟨hc, h2⟩ | ⟨_, h2⟩
      · simp only [T.sel, Option.some.injEq] at h2; subst h2
        rcases par_cases s with ⟨h1, h3, _⟩ | ⟨h1, _⟩
        · show some (parO false s) = _
          unfold parO
          rw [h3]; rfl
        · rw [h1] at hc; cases hc
      · simp [T.sel] at h2
    · simp [T.sel] at h
  | typ =>
    simp only [sP3] at h
    split at h
    · rename_i s
      rcases T.node_sel h with ⟨hc, h2⟩ | ⟨_, h2⟩
      · simp only [T.sel, Option.some.injEq] at h2; subst h2
        rcases par_cases s with ⟨h1, h3, _⟩ | ⟨h1, h3, _⟩
        · exact (h1 (of_decide_eq_true hc)).elim
        · show some (parO false s) = _
          unfold parO
          rw [h1, h3]
      · simp [T.sel] at h2
    · simp [T.sel] at h
  | ok =>
    simp only [sP3] at h
    split at h
    · rename_i s
      rcases T.node_sel h with ⟨hc, h2⟩ | ⟨_, h2⟩
      · simp only [T.sel, Option.some.injEq] at h2; subst h2
        rcases par_cases s with ⟨h1, h3, _⟩ | ⟨h1, h3, _⟩
        · exact (h1 (of_decide_eq_true hc)).elim
        · show some (parO false s) = _
          unfold parO
          rw [h1, h3]
      · simp [T.sel] at h2
    · simp [T.sel] at h
def ckT (q : Qry) : Bool := decide ((ckE q).2 = 42)
def ckO (q : Qry) : Bool := decide ((ckE q).1 = 0) && decide ((ckE q).2 = 0)
def sC3 : K3 → FSpec
  | .typ => fun vs bs => match vs, bs with
    | [.agg [.int .u8 ag, .slw 0, .slw 1, .bool j, .slw 2, .int .u8 wk, .int .i64 ws, .int .i64 we, .bool bk, .int .u8 lt]], [⟨false, .nodes A⟩, ⟨false, .ints .i64 S⟩, ⟨false, .nodes W⟩] => .node (ckT ⟨ag, A, S, j, W, wk, ws, we, bk, lt⟩) (.leaf ⟨[.int .i64 (ckE ⟨ag, A, S, j, W, wk, ws, we, bk, lt⟩).1, .int .i64 42], []⟩) .bad
    | _, _ => .bad
  | _ => fun vs bs => match vs, bs with
    | [.agg [.int .u8 ag, .slw 0, .slw 1, .bool j, .slw 2, .int .u8 wk, .int .i64 ws, .int .i64 we, .bool bk, .int .u8 lt]], [⟨false, .nodes A⟩, ⟨false, .ints .i64 S⟩, ⟨false, .nodes W⟩] => .node (ckO ⟨ag, A, S, j, W, wk, ws, we, bk, lt⟩) (.leaf ⟨[.int .i64 0, .int .i64 0], []⟩) .bad
    | _, _ => .bad
theorem ckO_of {q : Qry} {vs : List AV} {bs : List Blk} {r : Out} (hs : (Ck.sChk vs bs).sel = some ⟨[i64 (ckE q).1, i64 (ckE q).2], []⟩) (h : (T.node (ckO q) (.leaf ⟨[.int .i64 0, .int .i64 0], []⟩) (.bad : T Out)).sel = some r) : (Ck.sChk vs bs).sel = some r := by
  rcases T.node_sel h with ⟨hc, h2⟩ | ⟨_, h2⟩
  · simp only [T.sel, Option.some.injEq] at h2; subst h2
    unfold ckO at hc
    rw [Bool.and_eq_true] at hc
    rw [hs, of_decide_eq_true hc.1, of_decide_eq_true hc.2]; rfl
  · simp [T.sel] at h2
theorem okC3 (k : K3) : FnOk (E0 B) 13 (sC3 k) := by
  refine fnOk_weak Ck.okChk fun vs bs r h => ?_
  cases k with
  | typ =>
    simp only [sC3] at h
    split at h
    · rename_i ag j wk ws we bk lt A S W
      rcases T.node_sel h with ⟨hc, h2⟩ | ⟨_, h2⟩
      · simp only [T.sel, Option.some.injEq] at h2; subst h2
        have hc : (ckE ⟨ag, A, S, j, W, wk, ws, we, bk, lt⟩).2 = 42 := of_decide_eq_true hc
        show some (⟨[i64 (ckE ⟨ag, A, S, j, W, wk, ws, we, bk, lt⟩).1, i64 (ckE ⟨ag, A, S, j, W, wk, ws, we, bk, lt⟩).2], []⟩ : Out) = _
        rw [hc]; rfl
      · simp [T.sel] at h2
    · simp [T.sel] at h
  | bad =>
    simp only [sC3] at h
    split at h
    · exact ckO_of rfl h
    · simp [T.sel] at h
  | ok =>
    simp only [sC3] at h
    split at h
    · exact ckO_of rfl h
    · simp [T.sel] at h
end Go.Proofs.YtdckpbeioemopabGreatDoor.Tx
namespace Go.Proofs.YtdckpbeioemopabGreatDoor.Tx
open Go.Am Go Go.Proofs.YtdckpbeioemopabGreatDoor Go.Proofs.YtdckpbeioemopabGreatDoor.Kd Go.Proofs.YtdckpbeioemopabGreatDoor.Pr
set_option maxRecDepth 100000
variable {B : Nat → Option Obj}
def fbQ (b : Bool) (z : Option Out) : Option Out := bif b then z else rb false
def rS (b : Bool) (z : Option Out) : Option Out := bif b then z else none
def winE (p q : Qry) : Bool := decide (p.wk = q.wk) && (decide (p.ws = q.ws) && (decide (p.we = q.we) && true))
def eqlO (p q : Qry) (z : Option Out) : Option Out := fbQ (decide (p.agg = q.agg)) (rS (decide (p.arg.length ≤ 1000)) (fbQ (all2 Ck.eqNoP p.arg q.arg) (rS (decide (p.src.length ≤ 1000)) (fbQ (all2 Ck.eqInt p.src q.src) (fbQ (p.join == q.join) (rS (decide (p.whr.length ≤ 1000)) (fbQ (all2 Ck.eqNoP p.whr q.whr) (fbQ (winE p q) (fbQ (p.byKey == q.byKey) (fbQ (decide (p.late = q.late))
  (rS (decide (p.arg.length ≤ 1000)) (fbQ (all2 eqNod p.arg q.arg) (rS (decide (p.whr.length ≤ 1000)) (fbQ (all2 eqNod p.whr q.whr) z))))))))))))))
theorem all2_self {α : Type} {f : α → α → Bool} (h : ∀ x, f x x = true) : ∀ l : List α, all2 f l l = true
  | [] => rfl
  | x :: r => by
    show (f x x && all2 f r r) = true
    rw [h x, all2_self h r]; rfl
theorem noP_self (x : Nod) : Ck.eqNoP x x = true := by simp [Ck.eqNoP]
theorem nod_self (x : Nod) : eqNod x x = true := by simp [eqNod]
theorem eql_self {p : Qry} (h1 : p.arg.length ≤ 1000) (h2 : p.src.length ≤ 1000) (h3 : p.whr.length ≤ 1000) (z : Option Out) : eqlO p p z = z := by
  unfold eqlO fbQ rS winE
  rw [decide_eq_true h1, decide_eq_true h2, decide_eq_true h3, all2_self noP_self, all2_self noP_self, all2_self (f := Ck.eqInt) (fun x => by simp [Ck.eqInt]), all2_self nod_self, all2_self nod_self]
  simp
theorem qv_len {L : List Tok} {q : Qry} (h : QV L q) : q.arg.length ≤ 60 ∧ q.src.length ≤ 4 ∧ q.whr.length ≤ 60 := by
  obtain ⟨c1, c2, c3, c4, c5, c6⟩ := clk_inv h.ok
  obtain ⟨s1, s2, _⟩ := srcE_inv c5
  refine ⟨?_, s1, ?_⟩
  · by_cases h1 : q.agg = 1
    · rw [c2 h1]; simp
    · exact (chk_len (c3 h1)).2
  · by_cases h1 : 0 < q.whr.length
    · exact (chk_len (c4 h1)).2
    · omega
theorem fnOk_cases {E : Env} {f : FuncId} {ι : Type} {s : FSpec} {si : ι → FSpec} (hat : ∃ fn c, FnAt E.P f fn c) (h : ∀ i, FnOk E f (si i)) (hs : ∀ vs bs r, (s vs bs).sel = some r → ∃ i, (si i vs bs).sel = some r) : FnOk E f s :=
  ⟨hat, fun vs bs out hsel => by
    obtain ⟨i, hi⟩ := hs vs bs out hsel
    exact (h i).2 vs bs out hi⟩
end Go.Proofs.YtdckpbeioemopabGreatDoor.Tx
