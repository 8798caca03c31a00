/-
  Chars: plain words.
-/
import Derived.Test.YtielnommkhfghaaDoorPlain
namespace Go.Am
def wordList : List (List UInt8) := [[115, 101, 108, 101, 99, 116], [102, 114, 111, 109], [119, 104, 101, 114, 101], [119, 105, 110, 100, 111, 119], [98, 121], [107, 101, 121], [108, 97, 116, 101], [100, 114, 111, 112], [115, 105, 100, 101], [99, 111, 117, 110, 116], [115, 117, 109], [109, 105, 110], [109, 97, 120], [97, 110, 100], [111, 114], [110, 111, 116], [117, 110, 105, 111, 110], [106, 111, 105, 110], [116, 117, 109, 98, 108, 101], [115, 108, 105, 100, 101], [101, 118, 101, 114, 121], [115, 101, 115, 115, 105, 111, 110], [97], [98], [99], [100], [107], [116], [118]]
def isWord (s : List UInt8) : Bool := wordList.contains s
def sWord : FSpec
  | [.str s], [] => .leaf ⟨[.bool (isWord s)], []⟩
  | _, _ => .bad
def inB (c : Int) (t f : Option Out) : List UInt8 → Option Out
  | [] => f
  | x :: r => bif decide ((x.toNat : Int) = c) then t else inB c t f r
def u8o (n : Int) : Option Out := some ⟨[.int .u8 n], []⟩
def tw (b : Bool) : Option Out := bif b then u8o 4 else u8o 0
def btw (c lo hi : Int) (t f : Option Out) : Option Out := bif decide (lo ≤ c) then (bif decide (c ≤ hi) then t else f) else f
def btw4 (c lo hi : Int) (f : Option Out) : Option Out := bif decide (lo ≤ c) then (bif decide (c ≤ hi) then tw (decide (c ≤ hi)) else f) else f
theorem inB_true {c : Int} {t f : Option Out} : ∀ {l : List UInt8}, (∃ x ∈ l, (x.toNat : Int) = c) → inB c t f l = t
  | [], h => by simp at h
  | x :: r, h => by
    unfold inB
    by_cases hx : (x.toNat : Int) = c
    · rw [decide_eq_true hx, cond_true]
    · rw [decide_eq_false hx, cond_false]
      obtain ⟨y, hy, hc⟩ := h
      rcases List.mem_cons.1 hy with rfl | hy
      · exact (hx hc).elim
      · exact inB_true ⟨y, hy, hc⟩
theorem inB_false {c : Int} {t f : Option Out} : ∀ {l : List UInt8}, (∀ x ∈ l, (x.toNat : Int) ≠ c) → inB c t f l = f
  | [], _ => rfl
  | x :: r, h => by
    unfold inB
    rw [decide_eq_false (h x (List.mem_cons_self ..)), cond_false]
    exact inB_false fun y hy => h y (List.mem_cons_of_mem _ hy)
def kindN (c : Int) : Int :=
  bif decide (c = 32) || decide (c = 10) then 1 else bif decide (48 ≤ c) && decide (c ≤ 57) then 2 else bif decide (97 ≤ c) && decide (c ≤ 122) then 3
  else bif (decide (40 ≤ c) && decide (c ≤ 43)) || (decide (60 ≤ c) && decide (c ≤ 62)) || decide (c = 45) || decide (c = 33) then 4 else 0
theorem kind_in (c : Int) : inB c (u8o 1) (inB c (u8o 2) (inB c (u8o 3) (inB c (u8o 4) (u8o 0) [40, 41, 42, 43, 45, 60, 61, 62, 33]) [97, 98, 99, 100, 101, 102, 103, 104, 105, 106, 107, 108, 109, 110, 111, 112, 113, 114, 115, 116, 117, 118, 119, 120, 121, 122]) [48, 49, 50, 51, 52, 53, 54, 55, 56, 57]) [32, 10] = u8o (kindN c) := by
  rcases Int.lt_or_le c 0 with h0 | h0
  · have hno : ∀ l : List UInt8, ∀ x ∈ l, (x.toNat : Int) ≠ c := fun l x _ => by omega
    rw [inB_false (hno _), inB_false (hno _), inB_false (hno _), inB_false (hno _)]
    have : kindN c = 0 := by
      unfold kindN
      simp only [show ¬ c = 32 from by omega, show ¬ c = 10 from by omega, show ¬ 48 ≤ c from by omega, show ¬ 97 ≤ c from by omega, show ¬ 40 ≤ c from by omega, show ¬ 60 ≤ c from by omega, show ¬ c = 45 from by omega, show ¬ c = 33 from by omega]
      rfl
    rw [this]
  · rcases Int.lt_or_le 127 c with h1 | h1
    · have hno : ∀ l : List UInt8, l.all (fun x => decide (x.toNat ≤ 127)) = true → ∀ x ∈ l, (x.toNat : Int) ≠ c := fun l hl x hx => by
        have := of_decide_eq_true (List.all_eq_true.1 hl x hx); omega
      rw [inB_false (hno _ (by decide)), inB_false (hno _ (by decide)), inB_false (hno _ (by decide)), inB_false (hno _ (by decide))]
      have : kindN c = 0 := by
        unfold kindN
        simp only [show ¬ c = 32 from by omega, show ¬ c = 10 from by omega, show ¬ c ≤ 57 from by omega, show ¬ c ≤ 122 from by omega, show ¬ c ≤ 43 from by omega, show ¬ c ≤ 62 from by omega, show ¬ c = 45 from by omega, show ¬ c = 33 from by omega]
        simp
      rw [this]
    · have key : ∀ n : Fin 128, (inB (n.val : Int) (u8o 1) (inB (n.val : Int) (u8o 2) (inB (n.val : Int) (u8o 3) (inB (n.val : Int) (u8o 4) (u8o 0) [40, 41, 42, 43, 45, 60, 61, 62, 33]) [97, 98, 99, 100, 101, 102, 103, 104, 105, 106, 107, 108, 109, 110, 111, 112, 113, 114, 115, 116, 117, 118, 119, 120, 121, 122]) [48, 49, 50, 51, 52, 53, 54, 55, 56, 57]) [32, 10]) = u8o (kindN (n.val : Int)) := by
        have h : (List.range 128).map (fun n : Nat => (inB (n : Int) (u8o 1) (inB (n : Int) (u8o 2) (inB (n : Int) (u8o 3) (inB (n : Int) (u8o 4) (u8o 0) [40, 41, 42, 43, 45, 60, 61, 62, 33]) [97, 98, 99, 100, 101, 102, 103, 104, 105, 106, 107, 108, 109, 110, 111, 112, 113, 114, 115, 116, 117, 118, 119, 120, 121, 122]) [48, 49, 50, 51, 52, 53, 54, 55, 56, 57]) [32, 10])) = (List.range 128).map (fun n : Nat => u8o (kindN (n : Int))) := by kernel_rfl
        intro n
        have := congrArg (fun l => l[n.val]?) h
        simp only [List.getElem?_map, List.getElem?_range n.isLt, Option.map_some] at this
        exact Option.some.inj this
      have := key ⟨c.toNat, by omega⟩
      simp only [show ((c.toNat : Nat) : Int) = c from by omega] at this
      exact this
/-! Symbol -/
def c0 (s : List UInt8) : Int := ((s.getD (0 : Int).toNat 0).toNat : Int)
def c1 (s : List UInt8) : Int := ((s.getD (1 : Int).toNat 0).toNat : Int)
def symTail (s : List UInt8) : Option Out := bif decide (0 ≤ (0 : Int) ∧ (0 : Int) < (s.length : Int)) then (bif decide (c0 s = 33) then rp 0 0 else rp 1 0) else none
def symStep (s : List UInt8) (x : Int) (beh : List UInt8) (next : Option Out) : Option Out :=
  bif decide (0 ≤ (0 : Int) ∧ (0 : Int) < (s.length : Int)) then (bif decide (c0 s = x) then (bif decide (0 ≤ (1 : Int) ∧ (1 : Int) < (s.length : Int)) then
    (bif decide (0 ≤ Lib.indexByte beh ((c1 s).toNat.toUInt8)) then rp 2 0 else next) else none) else next) else none
def symT (s : List UInt8) : Option Out :=
  bif decide (s = []) then rp 0 0 else bif decide (0 ≤ (0 : Int) ∧ (0 : Int) < (s.length : Int)) then (bif !decide (kindN (c0 s) = 4) then rp 0 0 else
    bif decide ((1 : Int) < (s.length : Int)) then symStep s 60 [61, 60] (symStep s 62 [61, 62] (symStep s 33 [61] (symTail s))) else symTail s) else none
/-! the reference's Symbol -/
def symbols : List (List UInt8) := [[60, 61], [60, 60], [62, 61], [62, 62], [33, 61], [40], [41], [42], [43], [45], [60], [62], [61]]
def longT (s : List UInt8) (a : Int) : List (List UInt8) → Option Out
  | [] => rp 0 0
  | l :: r => bif decide ((l.length : Int) ≤ IntKind.i64.wrap ((s.length : Int) - a)) then
      (bif decide (0 ≤ a ∧ a ≤ IntKind.i64.wrap (a + l.length) ∧ IntKind.i64.wrap (a + l.length) ≤ (s.length : Int)) then
        (bif decide ((s.take (IntKind.i64.wrap (a + l.length)).toNat).drop a.toNat = l) then rp l.length 0 else longT s a r) else none) else longT s a r
/-! the reference's Word -/
def wordT (s : List UInt8) : List (List UInt8) → Option Out
  | [] => rb false
  | l :: r => bif decide (l = s) then rb true else wordT s r
def words' : List (List UInt8) := [[115, 101, 108, 101, 99, 116], [99, 111, 117, 110, 116], [115, 117, 109], [109, 105, 110], [109, 97, 120], [102, 114, 111, 109], [117, 110, 105, 111, 110], [106, 111, 105, 110], [119, 104, 101, 114, 101], [119, 105, 110, 100, 111, 119], [116, 117, 109, 98, 108, 101], [115, 108, 105, 100, 101], [101, 118, 101, 114, 121], [115, 101, 115, 115, 105, 111, 110], [98, 121], [107, 101, 121], [108, 97, 116, 101], [100, 114, 111, 112], [115, 105, 100, 101], [97, 110, 100], [111, 114], [110, 111, 116], [97], [98], [99], [100], [107], [116], [118]]
def pairB (s : List UInt8) : Bool :=
  decide ((1 : Int) < (s.length : Int)) && ((decide (c0 s = 60) && decide (0 ≤ Lib.indexByte [61, 60] ((c1 s).toNat.toUInt8))) || (decide (c0 s = 62) && decide (0 ≤ Lib.indexByte [61, 62] ((c1 s).toNat.toUInt8))) || (decide (c0 s = 33) && decide (0 ≤ Lib.indexByte [61] ((c1 s).toNat.toUInt8))))
def sym0 (s : List UInt8) : Int :=
  bif decide (s = []) then 0 else bif !decide (kindN (c0 s) = 4) then 0 else bif pairB s then 2 else bif decide (c0 s = 33) then 0 else 1
theorem symT_is (s : List UInt8) : symT s = rp (sym0 s) 0 := by
  unfold symT sym0
  by_cases h : s = []
  · rw [decide_eq_true h]; rfl
  · have hl : 0 < s.length := List.length_pos_iff.2 h
    have r0 : decide (0 ≤ (0 : Int) ∧ (0 : Int) < (s.length : Int)) = true := decide_eq_true ⟨Int.le_refl _, by omega⟩
    rw [decide_eq_false h, cond_false, cond_false, r0, cond_true]
    unfold pairB symStep symTail
    rw [r0]
    by_cases h1 : (1 : Int) < (s.length : Int)
    · have r1 : decide (0 ≤ (1 : Int) ∧ (1 : Int) < (s.length : Int)) = true := decide_eq_true ⟨by omega, h1⟩
      rw [r1, decide_eq_true h1]
      by_cases h60 : c0 s = 60
      · rw [decide_eq_true h60, decide_eq_false (show ¬ c0 s = 62 from by omega), decide_eq_false (show ¬ c0 s = 33 from by omega)]
        cases decide (kindN (c0 s) = 4) <;> cases decide (0 ≤ Lib.indexByte [61, 60] ((c1 s).toNat.toUInt8)) <;> rfl
      · rw [decide_eq_false h60]
        by_cases h62 : c0 s = 62
        · rw [decide_eq_true h62, decide_eq_false (show ¬ c0 s = 33 from by omega)]
          cases decide (kindN (c0 s) = 4) <;> cases decide (0 ≤ Lib.indexByte [61, 62] ((c1 s).toNat.toUInt8)) <;> rfl
        · rw [decide_eq_false h62]
          cases decide (kindN (c0 s) = 4) <;> cases decide (c0 s = 33) <;> cases decide (0 ≤ Lib.indexByte [61] ((c1 s).toNat.toUInt8)) <;> rfl
    · rw [decide_eq_false h1]
      cases decide (kindN (c0 s) = 4) <;> cases decide (c0 s = 33) <;> rfl
def outA (s : List UInt8) (a : Int) : Bool := decide (a < 0) || decide ((s.length : Int) < a)
def symN (s : List UInt8) (a : Int) : Int := bif outA s a then 0 else sym0 (s.drop a.toNat)
def symE (s : List UInt8) (a : Int) : Int := bif outA s a then 2 else 0
def sSym : FSpec
  | [.str s, .int .i64 a], [] => .leaf ⟨[i64 (symN s a), i64 (symE s a)], []⟩
  | _, _ => .bad
def lenN (s : List UInt8) (a : Int) : Int := bif !decide (symE s a = 0) then -1 else symN s a
def sLen : FSpec
  | [.str s, .int .i64 a], [] => .leaf ⟨[i64 (lenN s a)], []⟩
  | _, _ => .bad
def sTrue : FSpec
  | [], [] => .leaf ⟨[.bool true], []⟩
  | _, _ => .bad
theorem len_in {s : List UInt8} {a : Int} (h0 : 0 ≤ a) (h1 : a ≤ (s.length : Int)) : lenN s a = sym0 (s.drop a.toNat) := by
  have : outA s a = false := by unfold outA; rw [decide_eq_false (by omega), decide_eq_false (by omega)]; rfl
  unfold lenN symE symN
  rw [this]; rfl
theorem len_place (f s : List UInt8) : lenN (f ++ s) (f.length : Int) = lenN s 0 := by
  rw [len_in (by omega) (by simp; omega), len_in (Int.le_refl 0) (by omega)]
  simp
end Go.Am
