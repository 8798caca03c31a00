import Derived.Test.YthfieonkfailkaaAmSem
namespace Go.Am

theorem getD_set {α : Type} (l : List α) (i : Nat) (x d : α) (k : Nat) (h : k < l.length) : (l.set i x).getD k d = if k = i then x else l.getD k d := by
  by_cases hk : k = i
  · subst hk; simp [List.getD, h]
  · have : i ≠ k := fun e => hk e.symm
    simp [List.getD, this, hk]
theorem getD_append {α : Type} (l m : List α) (d : α) (k : Nat) : (l ++ m).getD k d = if k < l.length then l.getD k d else m.getD (k - l.length) d := by
  by_cases hk : k < l.length
  · simp [List.getD, hk, List.getElem?_append_left hk]
  · simp [List.getD, hk, List.getElem?_append_right (Nat.le_of_not_lt hk)]
theorem getD_sub {α : Type} (l : List α) (d : α) (i n k : Nat) (h : k < n) : ((l.drop i).take n).getD k d = l.getD (i + k) d := by
  simp [List.getD, h]

theorem decAll_spec {α : Type} {f : List AV → Option α} : ∀ {rs : List (List AV)} {l : List α}, decAll f rs = some l →
    l.length = rs.length ∧ ∀ i, i < rs.length → f (rs.getD i []) = l[i]?
  | [], l, h => by simp [decAll] at h; subst h; simp
  | x :: r, l, h => by
    unfold decAll at h
    split at h
    · rename_i y hy
      simp only [Option.map_eq_some_iff] at h
      obtain ⟨ys, hys, rfl⟩ := h
      obtain ⟨h1, h2⟩ := decAll_spec hys
      refine ⟨by simp [h1], fun i hi => ?_⟩
      cases i with
      | zero => simpa [List.getD] using hy
      | succ i => simpa [List.getD] using h2 i (by simpa using hi)
    · cases h

theorem intDec_spec {k : IntKind} {r : List AV} {x : Int} (h : intDec k r = some x) : r = [.int k x] := by
  unfold intDec at h
  split at h
  · rename_i k' n
    by_cases hk : k' = k
    · subst hk; simp at h; subst h; rfl
    · simp [hk] at h
  · cases h
theorem boolDec_spec {r : List AV} {x : Bool} (h : boolDec r = some x) : r = [.bool x] := by
  unfold boolDec at h; split at h <;> simp at h; subst h; rfl
theorem strDec_spec {r : List AV} {x : List UInt8} (h : strDec r = some x) : r = [.str x] := by
  unfold strDec at h; split at h <;> simp at h; subst h; rfl
theorem Tok.dec_spec {r : List AV} {x : Tok} (h : Tok.dec r = some x) : r = x.enc := by
  unfold Tok.dec at h; split at h <;> simp at h; subst h; rfl
theorem Nod.dec_spec {r : List AV} {x : Nod} (h : Nod.dec r = some x) : r = x.enc := by
  unfold Nod.dec at h; split at h <;> simp at h; subst h; rfl
theorem Top.dec_spec {r : List AV} {x : Top} (h : Top.dec r = some x) : r = x.enc := by
  unfold Top.dec at h; split at h <;> simp at h; subst h; rfl
theorem Sgn.dec_spec {r : List AV} {x : Sgn} (h : Sgn.dec r = some x) : r = x.enc := by
  unfold Sgn.dec at h; split at h <;> simp at h; subst h; rfl
theorem Opr.dec_spec {r : List AV} {x : Opr} (h : Opr.dec r = some x) : r = x.enc := by
  unfold Opr.dec at h; split at h <;> simp at h; subst h; rfl
theorem Chn.dec_spec {r : List AV} {x : Chn} (h : Chn.dec r = some x) : r = x.enc := by
  unfold Chn.dec at h; split at h <;> simp at h; subst h; rfl
theorem wid_unmark : ∀ s : List TypeId, wid (unmark s) = wid s
  | [] => rfl
  | t :: r => by
    cases h : isMark t with
    | true => simp only [unmark, wid, h, cond_true]; exact wid_unmark r
    | false => simp only [unmark, wid, h, cond_false]; rw [wid_unmark r]
theorem mark_unmark : ∀ s : List TypeId, markOf (unmark s) = none
  | [] => rfl
  | t :: r => by
    cases h : isMark t with
    | true => simp only [unmark, h, cond_true]; exact mark_unmark r
    | false => simp only [unmark, markOf, h, cond_false]; exact mark_unmark r
theorem genDec_spec {s : List TypeId} {r x : List AV} (h : genDec s r = some x) : x = r ∧ r.length = wid s ∧ r.all AV.isCell = true := by
  unfold genDec at h
  cases h1 : Nat.beq r.length (wid s) with
  | false => simp [h1] at h
  | true =>
    cases h2 : r.all AV.isCell with
    | false => simp [h1, h2] at h
    | true => simp [h1, h2] at h; exact ⟨h.symm, Nat.eq_of_beq_eq_true h1, rfl⟩

/-- a datum whose rows are cells, as many as its stride says -/
def Dat.WF (d : Dat) : Prop := ∀ i, i < d.len → (d.row i).length = d.stride ∧ (d.row i).all AV.isCell = true
theorem Dat.wf_typed (d : Dat) (h : ∀ s l, d ≠ .gen s l) : d.WF := by
  intro i _
  cases d <;> first | (exact (h _ _ rfl).elim) | simp [Dat.row, Dat.stride, Tok.enc, Nod.enc, Top.enc, Sgn.enc, Opr.enc, Chn.enc, AV.isCell]

structure SetSpec (d d' : Dat) (i : Nat) (row : List AV) : Prop where
  stride : d'.stride = d.stride
  len : d'.len = d.len
  wf : row.length = d.stride ∧ row.all AV.isCell = true
  row : ∀ k, k < d.len → d'.row k = if k = i then row else d.row k

theorem Dat.setRow_spec {d d' : Dat} {i : Nat} {row : List AV} (h : d.setRow i row = some d') : SetSpec d d' i row := by
  cases d <;> simp only [Dat.setRow, Option.map_eq_some_iff] at h <;> obtain ⟨x, hx, rfl⟩ := h
  case gen s l =>
    obtain ⟨rfl, h1, h2⟩ := genDec_spec hx
    exact ⟨rfl, by simp [Dat.len], ⟨h1, h2⟩, fun k hk => by simp only [Dat.row]; rw [getD_set _ _ _ _ _ (by simpa [Dat.len] using hk)]⟩
  case ints k l =>
    have e := intDec_spec hx; subst e
    exact ⟨rfl, by simp [Dat.len], ⟨rfl, rfl⟩, fun k hk => by simp only [Dat.row]; rw [getD_set _ _ _ _ _ (by simpa [Dat.len] using hk)]; split <;> rfl⟩
  case bools l =>
    have e := boolDec_spec hx; subst e
    exact ⟨rfl, by simp [Dat.len], ⟨rfl, rfl⟩, fun k hk => by simp only [Dat.row]; rw [getD_set _ _ _ _ _ (by simpa [Dat.len] using hk)]; split <;> rfl⟩
  case strs l =>
    have e := strDec_spec hx; subst e
    exact ⟨rfl, by simp [Dat.len], ⟨rfl, rfl⟩, fun k hk => by simp only [Dat.row]; rw [getD_set _ _ _ _ _ (by simpa [Dat.len] using hk)]; split <;> rfl⟩
  case toks l =>
    have e := Tok.dec_spec hx; subst e
    exact ⟨rfl, by simp [Dat.len], ⟨rfl, rfl⟩, fun k hk => by simp only [Dat.row]; rw [getD_set _ _ _ _ _ (by simpa [Dat.len] using hk)]; split <;> rfl⟩
  case nodes l =>
    have e := Nod.dec_spec hx; subst e
    exact ⟨rfl, by simp [Dat.len], ⟨rfl, rfl⟩, fun k hk => by simp only [Dat.row]; rw [getD_set _ _ _ _ _ (by simpa [Dat.len] using hk)]; split <;> rfl⟩
  case tops l =>
    have e := Top.dec_spec hx; subst e
    exact ⟨rfl, by simp [Dat.len], ⟨rfl, rfl⟩, fun k hk => by simp only [Dat.row]; rw [getD_set _ _ _ _ _ (by simpa [Dat.len] using hk)]; split <;> rfl⟩
  case sgns l =>
    have e := Sgn.dec_spec hx; subst e
    exact ⟨rfl, by simp [Dat.len], ⟨rfl, rfl⟩, fun k hk => by simp only [Dat.row]; rw [getD_set _ _ _ _ _ (by simpa [Dat.len] using hk)]; split <;> rfl⟩
  case oprs l =>
    have e := Opr.dec_spec hx; subst e
    exact ⟨rfl, by simp [Dat.len], ⟨rfl, rfl⟩, fun k hk => by simp only [Dat.row]; rw [getD_set _ _ _ _ _ (by simpa [Dat.len] using hk)]; split <;> rfl⟩
  case chns l =>
    have e := Chn.dec_spec hx; subst e
    exact ⟨rfl, by simp [Dat.len], ⟨rfl, rfl⟩, fun k hk => by simp only [Dat.row]; rw [getD_set _ _ _ _ _ (by simpa [Dat.len] using hk)]; split <;> rfl⟩
  case bytes t l =>
    have e := intDec_spec hx; subst e
    exact ⟨rfl, by simp [Dat.len], ⟨rfl, rfl⟩, fun k hk => by simp only [Dat.row]; rw [getD_set _ _ _ _ _ (by simpa [Dat.len] using hk)]; split <;> rfl⟩
theorem Dat.setRow_gen {d d' : Dat} {i : Nat} {row : List AV} (h : d.setRow i row = some d') : d'.isGen = d.isGen := by
  cases d <;> simp only [Dat.setRow, Option.map_eq_some_iff] at h <;> obtain ⟨x, hx, rfl⟩ := h <;> rfl
/-- a mark that a block of elements of type t may bear -/
theorem markIn_ok {t : TypeId} {d : Dat} (h : markIn t d = true) {n m : Nat} : ∀ T, d.mark = some T → t = T ∧ (d.isGen = true → n = m) := by
  intro T hT
  cases d <;> simp only [Dat.mark] at hT <;> try cases hT
  · simp only [markIn, hT] at h; cases h
  · exact ⟨(Nat.eq_of_beq_eq_true h).symm, fun h => by cases h⟩

structure AppSpec (d e r : Dat) : Prop where
  stride : r.stride = d.stride
  same : e.stride = d.stride
  len : r.len = d.len + e.len
  row : ∀ k, r.row k = if k < d.len then d.row k else e.row (k - d.len)

theorem sameTys_eq : ∀ {s t : List TypeId}, sameTys s t = true → s = t
  | [], [], _ => rfl
  | a :: r, b :: q, h => by
    simp only [sameTys, Bool.and_eq_true] at h
    rw [Nat.eq_of_beq_eq_true h.1, sameTys_eq h.2]
  | [], _ :: _, h => by simp [sameTys] at h
  | _ :: _, [], h => by simp [sameTys] at h
theorem Dat.append_spec {d e r : Dat} (h : d.append e = some r) : AppSpec d e r := by
  unfold Dat.append at h
  split at h
  · rename_i s a t b
    cases hs : sameTys (unmark s) (unmark t) with
    | false => simp [hs] at h
    | true =>
      simp [hs] at h; subst h
      have := sameTys_eq hs
      exact ⟨wid_unmark s, by show wid t = wid s; rw [← wid_unmark t, ← this, wid_unmark], by simp [Dat.len], fun k => by simp only [Dat.row, Dat.len]; exact getD_append _ _ _ _⟩
  · rename_i k a k' b
    by_cases hk : k = k'
    · subst hk; simp at h; subst h
      exact ⟨rfl, rfl, by simp [Dat.len], fun k => by simp only [Dat.row, Dat.len]; rw [getD_append]; split <;> simp [*]⟩
    · simp [hk] at h
  case h_11 =>
    rename_i t a u b
    cases hs : Nat.beq t u with
    | false => simp [hs] at h
    | true => simp [hs] at h; subst h; exact ⟨rfl, rfl, by simp [Dat.len], fun k => by simp only [Dat.row, Dat.len]; rw [getD_append]; split <;> simp [*]⟩
  case h_12 =>
    rename_i t a k b
    by_cases hk : k = .u8
    · subst hk; simp at h; subst h
      exact ⟨rfl, rfl, by simp [Dat.len], fun k => by simp only [Dat.row, Dat.len]; rw [getD_append]; split <;> simp [*]⟩
    · simp [hk] at h
  all_goals first
    | (cases h; exact ⟨rfl, rfl, by simp [Dat.len], fun k => by simp only [Dat.row, Dat.len]; rw [getD_append]; split <;> simp [*]⟩)
    | (cases h; done)
theorem Dat.append_wf {d e r : Dat} (h : d.append e = some r) (hd : d.WF) (he : e.WF) : r.WF := by
  have s := Dat.append_spec h
  intro k hk
  rw [s.row k, s.stride]
  split
  · rename_i h1; exact hd k h1
  · rename_i h1; rw [← s.same]; exact he _ (by have := s.len; omega)

structure SubSpec (d r : Dat) (i n : Nat) : Prop where
  stride : r.stride = d.stride
  len : r.len = n
  row : ∀ k, k < n → r.row k = d.row (i + k)
theorem Dat.sub_spec (d : Dat) (i n : Nat) (h : i + n ≤ d.len) : SubSpec d (d.sub i n) i n := by
  cases d <;> simp only [Dat.len] at h <;>
    exact ⟨by first | rfl | exact wid_unmark _, by simp only [Dat.sub, Dat.len, List.length_take, List.length_drop]; omega, fun k hk => by simp only [Dat.sub, Dat.row]; rw [getD_sub _ _ _ _ _ hk]⟩

theorem Dat.sub_mark (d : Dat) (i n : Nat) : (d.sub i n).mark = none := by
  cases d <;> first | rfl | exact mark_unmark _
theorem Dat.append_mark {d e r : Dat} (h : d.append e = some r) : ∀ T, r.mark = some T → d.mark = some T ∧ r.isGen = false := by
  intro T hT
  unfold Dat.append at h
  split at h
  · rename_i s a t b
    cases hs : sameTys (unmark s) (unmark t) with
    | false => simp [hs] at h
    | true => simp [hs] at h; subst h; rw [show (Dat.gen (unmark s) (a ++ b)).mark = markOf (unmark s) from rfl, mark_unmark] at hT; cases hT
  · rename_i k a k' b
    by_cases hk : k = k'
    · subst hk; simp at h; subst h; cases hT
    · simp [hk] at h
  case h_11 =>
    rename_i t a u b
    cases hs : Nat.beq t u with
    | false => simp [hs] at h
    | true => simp [hs] at h; subst h; exact ⟨hT, rfl⟩
  case h_12 =>
    rename_i t a k b
    by_cases hk : k = .u8
    · subst hk; simp at h; subst h; exact ⟨hT, rfl⟩
    · simp [hk] at h
  all_goals first
    | (cases h; cases hT; done)
    | (cases h; done)
theorem Dat.setRow_mark {d d' : Dat} {i : Nat} {row : List AV} (h : d.setRow i row = some d') : d'.mark = d.mark := by
  cases d <;> simp only [Dat.setRow, Option.map_eq_some_iff] at h <;> obtain ⟨x, hx, rfl⟩ := h <;> rfl
structure RowsSpec (d : Dat) (rs : List (List AV)) : Prop where
  len : d.len = rs.length
  row : ∀ i, i < rs.length → d.row i = rs.getD i []
  wf : d.WF
theorem rowOf {α : Type} {f : List AV → Option α} {enc : α → List AV} (hf : ∀ r x, f r = some x → r = enc x) {rs : List (List AV)} {l : List α} (h : decAll f rs = some l) (d : α) (i : Nat) (hi : i < rs.length) :
    enc (l.getD i d) = rs.getD i [] := by
  obtain ⟨h1, h2⟩ := decAll_spec h
  have := h2 i hi
  have hl : i < l.length := by omega
  rw [List.getElem?_eq_getElem hl] at this
  rw [hf _ _ this]
  simp [List.getD, hl]
theorem Dat.ofRows_spec {k : DK} {rs : List (List AV)} {d : Dat} (h : Dat.ofRows k rs = some d) : RowsSpec d rs := by
  cases k <;> simp only [Dat.ofRows, Option.map_eq_some_iff] at h <;> obtain ⟨l, hl, rfl⟩ := h
  case gen s =>
    have hr : ∀ i, i < rs.length → l.getD i [] = rs.getD i [] ∧ (rs.getD i []).length = wid s ∧ (rs.getD i []).all AV.isCell = true := fun i hi => by
      have h2 := (decAll_spec hl).2 i hi
      have hlt : i < l.length := by have := (decAll_spec hl).1; omega
      rw [List.getElem?_eq_getElem hlt] at h2
      obtain ⟨e, h3, h4⟩ := genDec_spec h2
      exact ⟨by rw [← e]; simp [List.getD, hlt], h3, h4⟩
    refine ⟨(decAll_spec hl).1, fun i hi => (hr i hi).1, fun i hi => ?_⟩
    have hi' : i < rs.length := by rw [← (decAll_spec hl).1]; exact hi
    obtain ⟨h1, h2, h3⟩ := hr i hi'
    exact ⟨by show (l.getD i []).length = wid (unmark s); rw [wid_unmark]; rw [h1, h2], by show (l.getD i []).all AV.isCell = true; rw [h1, h3]⟩
  case bytes t => exact ⟨(decAll_spec hl).1, fun i hi => rowOf (enc := fun x => [.int .u8 x]) (fun _ _ => intDec_spec) hl 0 i hi, Dat.wf_typed _ (by intro s l; simp)⟩
  case ints k => exact ⟨(decAll_spec hl).1, fun i hi => rowOf (enc := fun x => [.int k x]) (fun _ _ => intDec_spec) hl 0 i hi, Dat.wf_typed _ (by intro s l; simp)⟩
  case bools => exact ⟨(decAll_spec hl).1, fun i hi => rowOf (enc := fun x => [.bool x]) (fun _ _ => boolDec_spec) hl false i hi, Dat.wf_typed _ (by intro s l; simp)⟩
  case strs => exact ⟨(decAll_spec hl).1, fun i hi => rowOf (enc := fun x => [.str x]) (fun _ _ => strDec_spec) hl [] i hi, Dat.wf_typed _ (by intro s l; simp)⟩
  case toks => exact ⟨(decAll_spec hl).1, fun i hi => rowOf (enc := Tok.enc) (fun _ _ => Tok.dec_spec) hl default i hi, Dat.wf_typed _ (by intro s l; simp)⟩
  case nodes => exact ⟨(decAll_spec hl).1, fun i hi => rowOf (enc := Nod.enc) (fun _ _ => Nod.dec_spec) hl default i hi, Dat.wf_typed _ (by intro s l; simp)⟩
  case tops => exact ⟨(decAll_spec hl).1, fun i hi => rowOf (enc := Top.enc) (fun _ _ => Top.dec_spec) hl default i hi, Dat.wf_typed _ (by intro s l; simp)⟩
  case sgns => exact ⟨(decAll_spec hl).1, fun i hi => rowOf (enc := Sgn.enc) (fun _ _ => Sgn.dec_spec) hl default i hi, Dat.wf_typed _ (by intro s l; simp)⟩
  case oprs => exact ⟨(decAll_spec hl).1, fun i hi => rowOf (enc := Opr.enc) (fun _ _ => Opr.dec_spec) hl default i hi, Dat.wf_typed _ (by intro s l; simp)⟩
  case chns => exact ⟨(decAll_spec hl).1, fun i hi => rowOf (enc := Chn.enc) (fun _ _ => Chn.dec_spec) hl default i hi, Dat.wf_typed _ (by intro s l; simp)⟩
end Go.Am
