/-
  Texts put together: OfFn, OfFn2, OfFn3.
-/
import Derived.Test.YtdckpbeioemopaaGrA
import Derived.Test.YtdckpbeioemopaaPlnA
namespace Go.Proofs.Ytdckpbeioemopaa.Gf
open Go.Am Go Go.Proofs.Ytdckpbeioemopaa Go.Proofs.Ytdckpbeioemopaa.Gr
set_option maxRecDepth 100000
variable {B : Nat → Option Obj}
def op (k i : Int) : Opr := ⟨k, i⟩
def bsO (O : List Opr) (C : List Chn) : List Blk := [gBx 1 2, ⟨true, .oprs O⟩, ⟨true, .chns C⟩]
def gdO (b : Bool) (r : Option Out) : Option Out := bif b then r else none
def lm (n : Nat) : Bool := decide (n + 1 ≤ lim)
def ra (n : Nat) (O : List Opr) (C : List Chn) : Option Out := some ⟨[i64 n], bsO O C⟩
theorem tAdd1 (O : List Opr) (C : List Chn) (k : Int) : runT B Ck.lib15 Try.f16 [.int .u8 k, i64 1, .ptr 0 0 0] (bsO O C) =
    gdO (lm O.length) (ra O.length (O ++ [op k 0]) C) := by kernel_rfl
theorem tAdd2 (O : List Opr) (C : List Chn) (k : Int) : runT B Ck.lib15 Try.f16 [.int .u8 k, i64 2, .ptr 0 0 0] (bsO O C) =
    gdO (lm O.length) (gdO (lm (O ++ [op k 0]).length) (ra O.length (O ++ [op k 0] ++ [op k 1]) C)) := by kernel_rfl
theorem tAdd3 (O : List Opr) (C : List Chn) (k : Int) : runT B Ck.lib15 Try.f16 [.int .u8 k, i64 3, .ptr 0 0 0] (bsO O C) =
    gdO (lm O.length) (gdO (lm (O ++ [op k 0]).length) (gdO (lm (O ++ [op k 0] ++ [op k 1]).length) (ra O.length (O ++ [op k 0] ++ [op k 1] ++ [op k 2]) C))) := by kernel_rfl
theorem tAdd4 (O : List Opr) (C : List Chn) (k : Int) : runT B Ck.lib15 Try.f16 [.int .u8 k, i64 4, .ptr 0 0 0] (bsO O C) =
    gdO (lm O.length) (gdO (lm (O ++ [op k 0]).length) (gdO (lm (O ++ [op k 0] ++ [op k 1]).length) (gdO (lm (O ++ [op k 0] ++ [op k 1] ++ [op k 2]).length) (ra O.length (O ++ [op k 0] ++ [op k 1] ++ [op k 2] ++ [op k 3]) C)))) := by kernel_rfl
def addN (k : Int) (m : Nat) : List Opr := (List.range m).map fun (i : Nat) => op k (i : Int)
def sAdd : FSpec
  | [.int .u8 k, .int .i64 m, .ptr 0 0 0], [⟨true, .gen ty [[.slw 1, .slw 2]]⟩, ⟨true, .oprs O⟩, ⟨true, .chns C⟩] =>
    .node (decide (ty = gTy) && (decide (1 ≤ m ∧ m ≤ 4) && Nat.ble O.length 1000)) (.leaf ⟨[i64 O.length], bsO (O ++ addN k m.toNat) C⟩) .bad
  | _, _ => .bad
theorem lm_is {n : Nat} (h : n ≤ 1010) (r : Option Out) : gdO (lm n) r = r := by
  unfold gdO lm
  rw [decide_eq_true (show n + 1 ≤ lim by simp only [lim]; omega)]; rfl
theorem add_is {O : List Opr} {C : List Chn} {k m : Int} (h1 : 1 ≤ m) (h4 : m ≤ 4) (hO : O.length ≤ 1000) : runT B Ck.lib15 Try.f16 [.int .u8 k, i64 m, .ptr 0 0 0] (bsO O C) = ra O.length (O ++ addN k m.toNat) C := by
  have hm : m = 1 ∨ m = 2 ∨ m = 3 ∨ m = 4 := by omega
  rcases hm with rfl | rfl | rfl | rfl
  · rw [tAdd1, lm_is (by omega)]; rfl
  · rw [tAdd2, lm_is (by omega), lm_is (by simp; omega), List.append_assoc]; rfl
  · rw [tAdd3, lm_is (by omega), lm_is (by simp; omega), lm_is (by simp; omega), List.append_assoc, List.append_assoc]; rfl
  · rw [tAdd4, lm_is (by omega), lm_is (by simp; omega), lm_is (by simp; omega), lm_is (by simp; omega), List.append_assoc, List.append_assoc, List.append_assoc]; rfl
theorem okAdd : FnOk (E0 B) 16 sAdd := by
  refine fnT Ck.lib15_ok Try.func16 (by kernel_rfl) (by kernel_rfl) fun vs bs r h => ?_
  unfold sAdd at h
  split at h
  · rename_i k m ty O C
    rcases T.node_sel h with ⟨hc, h2⟩ | ⟨_, h2⟩
    · simp only [Bool.and_eq_true] at hc
      have hty := of_decide_eq_true hc.1
      subst hty
      obtain ⟨h1, h4⟩ := of_decide_eq_true hc.2.1
      simp only [T.sel, Option.some.injEq] at h2; subst h2
      exact add_is h1 h4 (Nat.le_of_ble_eq_true hc.2.2)
    · simp [T.sel] at h2
  · simp [T.sel] at h
def bsJ (room : Int) (O : List Opr) (C : List Chn) : List Blk := [gBx 2 3, ⟨true, .gen [3] [[i64 room]]⟩, ⟨true, .oprs O⟩, ⟨true, .chns C⟩]
theorem tJoin (O : List Opr) (C : List Chn) (a b c d room : Int) : runT B Ck.lib15 Try.f17 [i64 a, i64 b, i64 c, i64 d, .ptr 0 0 0, .ptr 1 0 0] (bsJ room O C) =
    gdO (lm C.length) (some ⟨[], bsJ room O (C ++ [⟨a, b, c, d, room⟩])⟩) := by kernel_rfl
def sJoin : FSpec
  | [.int .i64 a, .int .i64 b, .int .i64 c, .int .i64 d, .ptr 0 0 0, .ptr 1 0 0], [⟨true, .gen ty [[.slw 2, .slw 3]]⟩, ⟨true, .gen tz [[.int .i64 room]]⟩, ⟨true, .oprs O⟩, ⟨true, .chns C⟩] =>
    .node (decide (ty = gTy) && (decide (tz = [3]) && Nat.ble C.length 1000)) (.leaf ⟨[], bsJ room O (C ++ [⟨a, b, c, d, room⟩])⟩) .bad
  | _, _ => .bad
theorem okJoin : FnOk (E0 B) 17 sJoin := by
  refine fnT Ck.lib15_ok Try.func17 (by kernel_rfl) (by kernel_rfl) fun vs bs r h => ?_
  unfold sJoin at h
  split at h
  · rename_i a b c d ty tz room O C
    rcases T.node_sel h with ⟨hc, h2⟩ | ⟨_, h2⟩
    · simp only [Bool.and_eq_true] at hc
      have hty := of_decide_eq_true hc.1
      have htz := of_decide_eq_true hc.2.1
      subst hty; subst htz
      simp only [T.sel, Option.some.injEq] at h2; subst h2
      exact (tJoin O C a b c d room).trans (lm_is (by have := Nat.le_of_ble_eq_true hc.2.2; omega) _)
    · simp [T.sel] at h2
  · simp [T.sel] at h
noncomputable def libO : Tb := (16, [1, 2], sAdd) :: (17, [2, 3], sJoin) :: Pl.lib2
theorem libO_ok : TbOk B libO := (Pl.lib2_ok.add okJoin).add okAdd
noncomputable def libOe : Tb := (16, [1, 2], fun _ _ => .bad) :: Pl.lib2
theorem okBad {f : FuncId} {s : FSpec} (h : FnOk (E0 B) f s) : FnOk (E0 B) f (fun _ _ => .bad) := ⟨h.1, fun vs bs out h => by simp [T.sel] at h⟩
theorem libOe_ok : TbOk B libOe := Pl.lib2_ok.add (okBad okAdd)
end Go.Proofs.Ytdckpbeioemopaa.Gf
namespace Go.Proofs.Ytdckpbeioemopaa.Gf
open Go.Am Go Go.Proofs.Ytdckpbeioemopaa Go.Proofs.Ytdckpbeioemopaa.Gr
set_option maxRecDepth 100000
variable {B : Nat → Option Obj}
def eO (e : Int) : Option Out := some ⟨[.agg [.slw 0, .slw 1], i64 e], [⟨true, .oprs []⟩, ⟨true, .chns []⟩]⟩
theorem tErr (m : Bool) (st : List Int) (q : Qry) (p room : Int) : runT B libOe Try.f6 [Pl.plAv q 0 1 2 3, i64 p, i64 room] (Pl.plBs m st q) =
   bif decide (st.length ≤ 1000) then (bif !decide (Pl.plE st q = 0) then eO (Pl.plE st q) else bif decide (p < 1) then eO 2 else bif decide (3 < p) then eO 2 else bif decide (room < 1) then eO 2 else bif decide (8 < room) then eO 2 else none) else none := by
  cases m <;> kernel_rfl
def chn (a b c d r : Int) : Chn := ⟨a, b, c, d, r⟩
def ofO (n p : Nat) (bk j sd : Bool) : List Opr := addN 1 n ++ addN 2 n ++ (bif bk then addN 3 n else []) ++ addN (bif j then 5 else 4) (bif bk then p else 1) ++ addN 6 1 ++ (bif sd then addN 7 1 else [])
def ofC (n p : Nat) (bk sd : Bool) (room : Int) : List Chn :=
  let first := bif bk then 3 * n else 2 * n
  let p := bif bk then p else 1
  (List.range n).map (fun (i : Nat) => chn i 0 (n + i : Nat) 0 room) ++
  (List.range n).flatMap (fun (i : Nat) => (bif bk then chn (n + i : Nat) 0 (2 * n + i : Nat) 0 room else chn (n + i : Nat) 0 first i room) :: (bif sd then [chn (n + i : Nat) 1 (first + p + 1 : Nat) i room] else [])) ++
  (bif bk then (List.range n).flatMap (fun (i : Nat) => (List.range p).map fun (k : Nat) => chn (2 * n + i : Nat) k (first + k : Nat) i room) else []) ++
  (List.range p).map (fun (k : Nat) => chn (first + k : Nat) 0 (first + p : Nat) k room)
def gO (n p : Nat) (bk j sd : Bool) (room : Int) : Option Out := some ⟨[.agg [.slw 0, .slw 1], i64 0], [⟨true, .oprs (ofO n p bk j sd)⟩, ⟨true, .chns (ofC n p bk sd room)⟩]⟩
def chk (st : List Int) (q : Qry) (room : Int) (x : Option Out) : Option Out := bif decide (st.length ≤ 1000) then (bif !decide (Pl.plE st q = 0) then eO (Pl.plE st q) else bif decide (room < 1) then eO 2 else bif decide (8 < room) then eO 2 else x) else none
def qr (ag : Int) (A : List Nod) (S : List Int) (j : Bool) (W : List Nod) (wk ws we : Int) (bk : Bool) (lt : Int) : Qry := ⟨ag, A, S, j, W, wk, ws, we, bk, lt⟩
def ltO (sd : Bool) : Int := bif sd then 2 else 1
noncomputable abbrev runO (B : Nat → Option Obj) (m : Bool) (st : List Int) (q : Qry) (p room : Int) : Option Out := runT B libO Try.f6 [Pl.plAv q 0 1 2 3, i64 p, i64 room] (Pl.plBs m st q)
theorem tG1 (m bk sd : Bool) (p : Nat) (hp : p = 1 ∨ p = 2 ∨ p = 3) (st : List Int) (ag wk ws we s1 : Int) (A W : List Nod) (room : Int) : runO B m st (qr ag A [s1] false W wk ws we bk (ltO sd)) p room =
   chk st (qr ag A [s1] false W wk ws we bk (ltO sd)) room (gO 1 p bk false sd room) := by
  rcases hp with rfl | rfl | rfl <;> cases m <;> cases bk <;> cases sd <;> kernel_rfl
theorem tG2 (m bk sd j : Bool) (p : Nat) (hp : p = 1 ∨ p = 2 ∨ p = 3) (st : List Int) (ag wk ws we s1 s2 : Int) (A W : List Nod) (room : Int) : runO B m st (qr ag A [s1, s2] j W wk ws we bk (ltO sd)) p room =
   chk st (qr ag A [s1, s2] j W wk ws we bk (ltO sd)) room (gO 2 p bk j sd room) := by
  rcases hp with rfl | rfl | rfl <;> cases m <;> cases bk <;> cases sd <;> cases j <;> kernel_rfl
theorem tG3 (m bk sd : Bool) (p : Nat) (hp : p = 1 ∨ p = 2 ∨ p = 3) (st : List Int) (ag wk ws we s1 s2 s3 : Int) (A W : List Nod) (room : Int) : runO B m st (qr ag A [s1, s2, s3] false W wk ws we bk (ltO sd)) p room =
   chk st (qr ag A [s1, s2, s3] false W wk ws we bk (ltO sd)) room (gO 3 p bk false sd room) := by
  rcases hp with rfl | rfl | rfl <;> cases m <;> cases bk <;> cases sd <;> kernel_rfl
theorem tG4 (m bk sd : Bool) (p : Nat) (hp : p = 1 ∨ p = 2 ∨ p = 3) (st : List Int) (ag wk ws we s1 s2 s3 s4 : Int) (A W : List Nod) (room : Int) : runO B m st (qr ag A [s1, s2, s3, s4] false W wk ws we bk (ltO sd)) p room =
   chk st (qr ag A [s1, s2, s3, s4] false W wk ws we bk (ltO sd)) room (gO 4 p bk false sd room) := by
  rcases hp with rfl | rfl | rfl <;> cases m <;> cases bk <;> cases sd <;> kernel_rfl
end Go.Proofs.Ytdckpbeioemopaa.Gf
namespace Go.Proofs.Ytdckpbeioemopaa.Gf
open Go.Am Go Go.Proofs.Ytdckpbeioemopaa Go.Proofs.Ytdckpbeioemopaa.Gr
set_option maxRecDepth 100000
variable {B : Nat → Option Obj}
theorem or_spec {f : FuncId} {s1 s2 s : FSpec} (h1 : FnOk (E0 B) f s1) (h2 : FnOk (E0 B) f s2) (h : ∀ vs bs r, (s vs bs).sel = some r → (s1 vs bs).sel = some r ∨ (s2 vs bs).sel = some r) : FnOk (E0 B) f s :=
  ⟨h1.1, fun vs bs out hs => (h vs bs out hs).elim (h1.2 vs bs out) (h2.2 vs bs out)⟩
theorem okRe : FnOk (E0 B) 6 (fun vs bs => fnRun (E0 B) (Cx B libOe) (inlL (E0 B) (Cx B libOe) 450) Try.f6 (bodyC Try.f6) vs bs) :=
  fnT libOe_ok Try.func6 (by kernel_rfl) (by kernel_rfl) fun vs bs r h => h
theorem okRg : FnOk (E0 B) 6 (fun vs bs => fnRun (E0 B) (Cx B libO) (inlL (E0 B) (Cx B libO) 450) Try.f6 (bodyC Try.f6) vs bs) :=
  fnT libO_ok Try.func6 (by kernel_rfl) (by kernel_rfl) fun vs bs r h => h
def ofE (st : List Int) (q : Qry) (p room : Int) : Int := bif !decide (Pl.plE st q = 0) then Pl.plE st q else bif decide (1 ≤ p ∧ p ≤ 3 ∧ 1 ≤ room ∧ room ≤ 8) then 0 else 2
def ofOut (st : List Int) (q : Qry) (p room : Int) : Out := bif decide (ofE st q p room = 0) then ⟨[.agg [.slw 0, .slw 1], i64 0], [⟨true, .oprs (ofO q.src.length p.toNat q.byKey q.join (decide (q.late = 2)))⟩, ⟨true, .chns (ofC q.src.length p.toNat q.byKey (decide (q.late = 2)) room)⟩]⟩
  else ⟨[.agg [.slw 0, .slw 1], i64 (ofE st q p room)], [⟨true, .oprs []⟩, ⟨true, .chns []⟩]⟩
theorem src_len {q : Qry} (h : clkE q = 0) : (q.late = 1 ∨ q.late = 2) ∧ 1 ≤ q.src.length ∧ q.src.length ≤ 4 ∧ (q.join = true → q.src.length = 2) := by
  have h8 : ∀ {c : Bool} {x : Int}, (bif c then 8 else x) = 0 → c = false ∧ x = 0 := fun {c x} h => by cases c <;> simp_all
  have hk : ∀ {c : Bool} {y x : Int}, (bif c && !decide (y = 0) then y else x) = 0 → x = 0 := fun {c y x} h => by
    by_cases hy : y = 0
    · rw [decide_eq_true hy] at h
      cases c <;> exact h
    · rw [decide_eq_false hy] at h
      cases c with
      | true => exact absurd h hy
      | false => exact h
  have hk1 : ∀ {y x : Int}, (bif !decide (y = 0) then y else x) = 0 → y = 0 := fun {y x} h => by
    by_cases hy : y = 0
    · exact hy
    · rw [decide_eq_false hy] at h; exact h
  unfold clkE at h
  obtain ⟨a1, h⟩ := h8 h
  obtain ⟨a2, h⟩ := h8 h
  have h := hk1 (hk (hk h))
  rw [Bool.or_eq_false_iff, Bool.or_eq_false_iff] at a1
  refine ⟨?_, ?_⟩
  · by_cases l1 : q.late = 1
    · exact Or.inl l1
    · by_cases l2 : q.late = 2
      · exact Or.inr l2
      · have := a1.2; rw [decide_eq_false l1, decide_eq_false l2] at this; cases this
  · unfold srcE at h
    by_cases l4 : 4 < q.src.length
    · rw [decide_eq_true l4] at h; cases h
    · rw [decide_eq_false l4] at h
      obtain ⟨b1, _⟩ := h8 h
      rw [Bool.or_eq_false_iff] at b1
      refine ⟨by have := of_decide_eq_false b1.1; omega, by omega, fun hj => ?_⟩
      rw [hj] at b1
      have := b1.2
      by_cases l2 : q.src.length = 2
      · exact l2
      · rw [decide_eq_false l2] at this; cases this
theorem chk_good {st : List Int} {q : Qry} {room : Int} (x : Option Out) (hl : st.length ≤ 1000) (h0 : Pl.plE st q = 0) (h1 : 1 ≤ room) (h8 : room ≤ 8) : chk st q room x = x := by
  unfold chk
  rw [decide_eq_true hl, h0, decide_eq_false (show ¬ room < 1 by omega), decide_eq_false (show ¬ 8 < room by omega)]; rfl
theorem run_good (m : Bool) {st : List Int} {q : Qry} {p room : Int} (hl : st.length ≤ 1000) (h0 : Pl.plE st q = 0) (p1 : 1 ≤ p) (p3 : p ≤ 3) (r1 : 1 ≤ room) (r8 : room ≤ 8) :
    runO B m st q p room = gO q.src.length p.toNat q.byKey q.join (decide (q.late = 2)) room := by
  obtain ⟨hlt, hn1, hn4, hj⟩ := src_len (Pl.ckE_clk (Pl.plE_0 h0).1)
  obtain ⟨n, rfl⟩ : ∃ n : Nat, p = (n : Int) := ⟨p.toNat, by omega⟩
  have hp : n = 1 ∨ n = 2 ∨ n = 3 := by omega
  obtain ⟨ag, A, S, j, W, wk, ws, we, bk, lt⟩ := q
  obtain ⟨sd, rfl⟩ : ∃ sd, lt = ltO sd := by
    rcases hlt with h | h
    · exact ⟨false, h⟩
    · exact ⟨true, h⟩
  have hsd : decide (ltO sd = 2) = sd := by cases sd <;> rfl
  simp only at hn1 hn4 hj ⊢
  rw [Int.toNat_natCast, hsd]
  match S, hn1, hn4, hj with
  | [s1], _, _, hj =>
    cases j with
    | true => exact absurd (hj rfl) (by simp)
    | false => exact (tG1 m bk sd n hp st ag wk ws we s1 A W room).trans (chk_good _ hl h0 r1 r8)
  | [s1, s2], _, _, _ => exact (tG2 m bk sd j n hp st ag wk ws we s1 s2 A W room).trans (chk_good _ hl h0 r1 r8)
  | [s1, s2, s3], _, _, hj =>
    cases j with
    | true => exact absurd (hj rfl) (by simp)
    | false => exact (tG3 m bk sd n hp st ag wk ws we s1 s2 s3 A W room).trans (chk_good _ hl h0 r1 r8)
  | [s1, s2, s3, s4], _, _, hj =>
    cases j with
    | true => exact absurd (hj rfl) (by simp)
    | false => exact (tG4 m bk sd n hp st ag wk ws we s1 s2 s3 s4 A W room).trans (chk_good _ hl h0 r1 r8)
theorem run_err (m : Bool) {st : List Int} {q : Qry} {p room : Int} (hl : st.length ≤ 1000) (h0 : ofE st q p room ≠ 0) :
    runT B libOe Try.f6 [Pl.plAv q 0 1 2 3, i64 p, i64 room] (Pl.plBs m st q) = eO (ofE st q p room) := by
  rw [tErr, decide_eq_true hl, cond_true]
  unfold ofE at h0 ⊢
  by_cases h1 : Pl.plE st q = 0
  · rw [decide_eq_true h1] at h0 ⊢
    simp only [Bool.not_true, cond_false] at h0 ⊢
    by_cases hc : 1 ≤ p ∧ p ≤ 3 ∧ 1 ≤ room ∧ room ≤ 8
    · rw [decide_eq_true hc] at h0; exact absurd rfl h0
    · rw [decide_eq_false hc, cond_false]
      by_cases c1 : p < 1
      · rw [decide_eq_true c1]; rfl
      by_cases c2 : 3 < p
      · rw [decide_eq_false c1, decide_eq_true c2]; rfl
      by_cases c3 : room < 1
      · rw [decide_eq_false c1, decide_eq_false c2, decide_eq_true c3]; rfl
      by_cases c4 : 8 < room
      · rw [decide_eq_false c1, decide_eq_false c2, decide_eq_false c3, decide_eq_true c4]; rfl
      · exact absurd ⟨by omega, by omega, by omega, by omega⟩ hc
  · rw [decide_eq_false h1]; rfl
def ofT (st : List Int) (q : Qry) (p room : Int) (g : Bool) : T Out := .node (g && decide (st.length ≤ 1000)) (.leaf (ofOut st q p room)) .bad
def sOf : FSpec
  | [.agg [.slw 0, .int .u8 ag, .slw 1, .slw 2, .bool j, .slw 3, .int .u8 wk, .int .i64 ws, .int .i64 we, .bool bk, .int .u8 lt], .int .i64 p, .int .i64 room], [⟨false, .ints .u8 st⟩, ⟨false, .nodes A⟩, ⟨false, .ints .i64 S⟩, ⟨false, .nodes W⟩] => ofT st ⟨ag, A, S, j, W, wk, ws, we, bk, lt⟩ p room true
  | [.agg [.slw 0, .int .u8 ag, .slw 1, .slw 2, .bool j, .slw 3, .int .u8 wk, .int .i64 ws, .int .i64 we, .bool bk, .int .u8 lt], .int .i64 p, .int .i64 room], [⟨false, .bytes t st⟩, ⟨false, .nodes A⟩, ⟨false, .ints .i64 S⟩, ⟨false, .nodes W⟩] => ofT st ⟨ag, A, S, j, W, wk, ws, we, bk, lt⟩ p room (Nat.beq t 5)
  | _, _ => .bad
theorem ofT_is (m : Bool) {st : List Int} {q : Qry} {p room : Int} {g : Bool} {r : Out} (h : (ofT st q p room g).sel = some r) : g = true ∧
    (runT B libOe Try.f6 [Pl.plAv q 0 1 2 3, i64 p, i64 room] (Pl.plBs m st q) = some r ∨ runT B libO Try.f6 [Pl.plAv q 0 1 2 3, i64 p, i64 room] (Pl.plBs m st q) = some r) := by
  unfold ofT at h
  rcases T.node_sel h with ⟨hc, h2⟩ | ⟨_, h2⟩
  · simp only [T.sel, Option.some.injEq] at h2; subst h2
    rw [Bool.and_eq_true] at hc
    refine ⟨hc.1, ?_⟩
    have hl := of_decide_eq_true hc.2
    unfold ofOut
    by_cases h0 : ofE st q p room = 0
    · right
      rw [decide_eq_true h0, cond_true]
      have hh := h0
      unfold ofE at hh
      by_cases h1 : Pl.plE st q = 0
      · rw [decide_eq_true h1] at hh
        by_cases hcc : 1 ≤ p ∧ p ≤ 3 ∧ 1 ≤ room ∧ room ≤ 8
        · exact run_good m hl h1 hcc.1 hcc.2.1 hcc.2.2.1 hcc.2.2.2
        · rw [decide_eq_false hcc] at hh; cases hh
      · rw [decide_eq_false h1] at hh
        exact absurd hh h1
    · left
      rw [decide_eq_false h0]
      exact run_err m hl h0
  · simp [T.sel] at h2
theorem okOf : FnOk (E0 B) 6 sOf := by
  refine or_spec okRe okRg fun vs bs r h => ?_
  unfold sOf at h
  split at h
  · exact (ofT_is false h).2
  · have hg := Nat.eq_of_beq_eq_true (ofT_is (B := B) true h).1; subst hg; exact (ofT_is true h).2
  · simp [T.sel] at h
end Go.Proofs.Ytdckpbeioemopaa.Gf
