/-
  Queries compared, but for places: ref08.Alike by contract.
-/
import Derived.Test.YtgpoaohglpecgaaGreatDoorParB
import Derived.Test.YtgpoaohglpecgaaGreatDoorExA
import Derived.Test.YtgpoaohglpecgaaGreatDoorPureB
namespace Go.Proofs.YtgpoaohglpecgaaGreatDoor.Pr
open Go.Am Go Go.Proofs.YtgpoaohglpecgaaGreatDoor
set_option maxRecDepth 100000
variable {B : Nat → Option Obj}
def fbQ (b : Bool) (z : Option Out) : Option Out := bif b then z else rb false
def rS (b : Bool) (z : Option Out) : Option Out := bif b then z else none
def winE (p q : Qry) : Bool := decide (p.wk = q.wk) && (decide (p.ws = q.ws) && (decide (p.we = q.we) && true))
theorem all2_eq : ∀ L M : List Int, all2 Ck.eqInt L M = decide (L = M)
  | [], [] => rfl
  | [], _ :: _ => rfl
  | _ :: _, [] => rfl
  | x :: L, y :: M => by
    show (decide (x = y) && all2 Ck.eqInt L M) = _
    rw [all2_eq L M]
    by_cases h1 : x = y <;> by_cases h2 : L = M <;> simp [h1, h2]
def alO (p q : Qry) : Option Out := fbQ (decide (p.agg = q.agg)) (rS (decide (p.arg.length ≤ 1000)) (fbQ (all2 Ck.eqNoP p.arg q.arg) (rS (decide (p.src.length ≤ 1000)) (fbQ (all2 Ck.eqInt p.src q.src) (fbQ (p.join == q.join) (rS (decide (p.whr.length ≤ 1000)) (fbQ (all2 Ck.eqNoP p.whr q.whr) (fbQ (winE p q) (fbQ (p.byKey == q.byKey) (rb (decide (p.late = q.late))))))))))))
theorem tAlk (p q : Qry) : runT B Ck.lib15 Tryz.f19 [p.av 0 1 2, q.av 3 4 5] (Ck.qbs p ++ Ck.qbs q) = alO p q := by kernel_rfl
theorem noP_is : Ck.eqNoP = eqN := by
  funext x y
  unfold Ck.eqNoP eqN
  by_cases h1 : x.kind = y.kind <;> by_cases h2 : x.n = y.n <;> by_cases h3 : x.a = y.a <;> by_cases h4 : x.b = y.b <;> simp [h1, h2, h3, h4]
def shQ (p : Qry) : Bool := decide (p.arg.length ≤ 1000 ∧ p.src.length ≤ 1000 ∧ p.whr.length ≤ 1000)
theorem al_is {p q : Qry} (h : shQ p = true) : alO p q = rb (alkB p q) := by
  obtain ⟨h1, h2, h3⟩ := of_decide_eq_true h
  unfold alO fbQ rS winE alkB
  rw [decide_eq_true h1, decide_eq_true h2, decide_eq_true h3, noP_is, all2_eq]
  cases decide (p.agg = q.agg) <;> cases p.join == q.join <;> cases decide (p.wk = q.wk) <;> cases decide (p.ws = q.ws) <;> cases decide (p.we = q.we) <;> cases p.byKey == q.byKey <;> cases decide (p.late = q.late) <;> cases decide (p.src = q.src) <;> cases all2 eqN p.arg q.arg <;> cases all2 eqN p.whr q.whr <;> rfl
def sAlk : FSpec
  | [.agg [.int .u8 ag, .slw 0, .slw 1, .bool j, .slw 2, .int .u8 wk, .int .i64 ws, .int .i64 we, .bool bk, .int .u8 lt], .agg [.int .u8 ag', .slw 3, .slw 4, .bool j', .slw 5, .int .u8 wk', .int .i64 ws', .int .i64 we', .bool bk', .int .u8 lt']], [⟨false, .nodes A⟩, ⟨false, .ints .i64 S⟩, ⟨false, .nodes W⟩, ⟨false, .nodes A'⟩, ⟨false, .ints .i64 S'⟩, ⟨false, .nodes W'⟩] =>
    .node (shQ ⟨ag, A, S, j, W, wk, ws, we, bk, lt⟩) (.leaf ⟨[.bool (alkB ⟨ag, A, S, j, W, wk, ws, we, bk, lt⟩ ⟨ag', A', S', j', W', wk', ws', we', bk', lt'⟩)], []⟩) .bad
  | _, _ => .bad
theorem okAlk : FnOk (E0 B) 19 sAlk := by
  refine fnT Ck.lib15_ok Tryz.func19 (by kernel_rfl) (by kernel_rfl) fun vs bs r h => ?_
  unfold sAlk at h
  split at h
  · rename_i ag j wk ws we bk lt ag' j' wk' ws' we' bk' lt' A S W A' S' W'
    rcases T.node_sel h with ⟨hc, h2⟩ | ⟨_, h2⟩
    · simp only [T.sel, Option.some.injEq] at h2; subst h2
      exact (tAlk ⟨ag, A, S, j, W, wk, ws, we, bk, lt⟩ ⟨ag', A', S', j', W', wk', ws', we', bk', lt'⟩).trans (al_is hc)
    · simp [T.sel] at h2
  · simp [T.sel] at h
theorem all2_len' {α : Type} {f : α → α → Bool} : ∀ {L M : List α}, all2 f L M = true → L.length = M.length
  | [], [], _ => rfl
  | [], _ :: _, h => by cases h
  | _ :: _, [], h => by cases h
  | x :: L, y :: M, h => by
    have h : (f x y && all2 f L M) = true := h
    rw [Bool.and_eq_true] at h
    rw [List.length_cons, List.length_cons, all2_len' h.2]
theorem alk_par {p q : Qry} (h : alkB p q = true) : parQ p = parQ q := by
  unfold alkB at h
  simp only [Bool.and_eq_true, decide_eq_true_eq] at h
  obtain ⟨h1, h2, _, _, h3, _⟩ := h
  unfold parQ
  rw [h1, all2_len' h2, all2_len' h3]
theorem par_same {s t : List UInt8} (hs : prE s = 0) (ht : prE t = 0) (h : alkB (prQ s) (prQ t) = true) : evn (((lexL s).length : Int) - (lexL t).length) := by
  have key : ∀ s, prE s = 0 → evn (((lexL s).length : Int) - parQ (prQ s)) := fun s hs => by
    have he : lexE s = 0 := by
      unfold prE at hs
      by_cases he : lexE s = 0
      · exact he
      · rw [decide_eq_false he] at hs; exact hs
    have hd : (pQ (lexL s) 0).d = 0 := by unfold prE at hs; rw [decide_eq_true he] at hs; exact hs
    have hv := invQ (lex_tk he).1 hd
    have e : prQ s = (pQ (lexL s) 0).q := by unfold prQ; rw [decide_eq_true hs]; rfl
    rw [e]; exact hv.p
  obtain ⟨m, hm⟩ := key s hs
  obtain ⟨n, hn⟩ := key t ht
  rw [alk_par h] at hm
  exact ⟨m - n, by omega⟩
theorem lx_cut : ∀ s a k, ∀ p q, s = p ++ q → ∀ t, (lx s a k).l.getLast? = some t → t.pos = a + (p.length : Int) → (lx s a k).e = 0 → (lx p a k).e = 0 ∧ (lx p a k).l.length + 1 = (lx s a k).l.length := by
  refine lx_ind ?_ ?_ ?_ ?_ ?_
  · intro a k p q hs t ht; rw [lx_nil] at ht; cases ht
  · intro c r a k h ih p q hs t ht hp he
    rw [lx_blank h] at ht he ⊢
    cases p with
    | nil =>
      have := (lx_pos _ _ _ t (List.mem_of_getLast? ht)).1
      simp at hp; omega
    | cons d p =>
      rw [List.cons_append, List.cons.injEq] at hs
      obtain ⟨rfl, hs⟩ := hs
      rw [lx_blank h]
      exact ih p q hs t ht (by rw [hp, List.length_cons]; omega) he
  · intro c r a h p q hs t ht; rw [lx_many h rfl] at ht; cases ht
  · intro c r a k h hk hf p q hs t ht hp he; rw [lx_bad h hk hf] at he; exact (hf he).elim
  · intro c r a k h hk hf ih p q hs t ht hp he
    rw [lx_tok h hk hf] at ht he ⊢
    have he1 : (lx ((c :: r).drop (tkN (c :: r))) (a + (tkN (c :: r) : Int)) (k + 1)).e = 0 := he
    have ht1 : (⟨tkK (c :: r), tkT (c :: r), a⟩ :: (lx ((c :: r).drop (tkN (c :: r))) (a + (tkN (c :: r) : Int)) (k + 1)).l).getLast? = some t := ht
    have hdl := drop_lt hf
    rw [List.length_drop, List.length_cons] at hdl
    have hn1 : 1 ≤ tkN (c :: r) := by
      have := tkN_le (c :: r)
      rw [List.length_cons] at this
      omega
    cases hr : (lx ((c :: r).drop (tkN (c :: r))) (a + (tkN (c :: r) : Int)) (k + 1)).l with
    | nil =>
      rw [hr] at ht1
      simp only [List.getLast?_singleton, Option.some.injEq] at ht1
      have : p = [] := by
        rw [← ht1] at hp
        exact List.eq_nil_of_length_eq_zero (by simp only at hp; omega)
      subst this
      rw [lx_nil]
      refine ⟨rfl, ?_⟩
      show 0 + 1 = (⟨tkK (c :: r), tkT (c :: r), a⟩ :: (lx ((c :: r).drop (tkN (c :: r))) (a + (tkN (c :: r) : Int)) (k + 1)).l).length
      rw [hr]; rfl
    | cons t1 rest =>
      rw [hr, List.getLast?_cons_cons] at ht1
      have ht2 : (lx ((c :: r).drop (tkN (c :: r))) (a + (tkN (c :: r) : Int)) (k + 1)).l.getLast? = some t := by rw [hr]; exact ht1
      have hpos := (lx_pos _ _ _ t (List.mem_of_getLast? ht2)).1
      cases p with
      | nil => simp at hp; omega
      | cons d p =>
        have hle : tkN (c :: r) ≤ (d :: p).length := by omega
        have hd : c = d := by
          rw [List.cons_append, List.cons.injEq] at hs; exact hs.1
        subst hd
        have hl := tkN_local (p := c :: p) (q := q) (q' := []) (by simp) blankHd_nil (by rw [← hs]; exact hle)
        rw [← hs, List.append_nil] at hl
        obtain ⟨l1, l2, l3⟩ := hl
        have hf' : tkF (c :: p) = 0 := by
          have : tkF (c :: p) = tkF (c :: r) := by unfold tkF; rw [l2, l3]
          exact this.trans hf
        have hdr : (c :: r).drop (tkN (c :: r)) = (c :: p).drop (tkN (c :: r)) ++ q := by
          rw [hs, List.drop_append_of_le_length (by rw [← hs]; exact hle)]
        rw [lx_tok h hk hf', l1]
        obtain ⟨i1, i2⟩ := ih ((c :: p).drop (tkN (c :: r))) q hdr t ht2 (by rw [hp, List.length_drop]; omega) he1
        refine ⟨i1, ?_⟩
        show ((lx ((c :: p).drop (tkN (c :: r))) (a + (tkN (c :: r) : Int)) (k + 1)).l.length + 1) + 1 = (lx ((c :: r).drop (tkN (c :: r))) (a + (tkN (c :: r) : Int)) (k + 1)).l.length + 1
        rw [i2]
end Go.Proofs.YtgpoaohglpecgaaGreatDoor.Pr
