/-
  MessageEvents, MessageNames: what the laws answer.
-/
import Derived.Test.YtbjokogmfllcdaaDoorMsgLawT
namespace Go.Proofs.YtbjokogmfllcdaaDoor
open Go.Am
set_option maxRecDepth 100000
variable {B : Nat → Option Obj}
def sNames (_ : Nat → Option Obj) : FSpec := sTrue0
theorem tNames : runT B lib6 Tryd.f8 [] [] = rb true := by kernel_rfl
theorem okNames (hB : Laid B) : FnOk (E0 B) 8 (sNames B) := by
  refine fnT (lib6_ok hB) Tryd.func8 (by kernel_rfl) (by kernel_rfl) fun vs bs r h => ?_
  unfold sNames sTrue0 at h
  split at h
  · simp only [T.sel, Option.some.injEq] at h; subst h; exact tNames
  · simp [T.sel] at h
/-! MessageEvents -/
def eqRecE (e f : Evt) : Bool := decide (e.a = f.a) && (decide (e.b = f.b) && (decide (e.c = f.c) && true))
def eqE (e f : Evt) : Bool := (e.mark == f.mark) && (decide (e.t = f.t) && (eqRecE e f && true))
def eqRM (m : Msg) (e : Evt) : Bool := decide (m.a = e.a) && (decide (m.b = e.b) && (decide (m.c = e.c) && true))
def ev4 (e : Evt) : Option Out := bif !e.mark then rb (eqRM (ofM e) e) else rb false
def ev3 (e f : Evt) : Option Out := bif eqM (ofM e) (ofM f) == eqE e f then (bif e.mark then (bif decide ((ofM e).t = e.t) then rb true else ev4 e) else ev4 e) else rb false
def ev2 (e f : Evt) : Option Out := bif !decide (chkE (ofM e) = 0) then rb false else bif !(decide ((ofM e).k = 2) == e.mark) then rb false else bif (decide ((ofM e).k = 1) == e.mark) then rb false else ev3 e f
theorem tEvents (e f : Evt) : runT B lib6 Tryd.f9 [e.av, f.av] [] =
    bif !decide (evE e = evE e) then rb false else bif !decide (evE f = evE f) then rb false else bif !decide (evE e = 0) then rb true else bif !decide (evE f = 0) then rb true else ev2 e f := by kernel_rfl
theorem eqE_is (e f : Evt) : eqE e f = decide (e = f) := by
  obtain ⟨a1, a2, a3, a4, a5⟩ := e
  obtain ⟨b1, b2, b3, b4, b5⟩ := f
  unfold eqE eqRecE
  rw [Bool.eq_iff_iff]
  simp only [Bool.and_eq_true, decide_eq_true_eq, Evt.mk.injEq, and_true, beq_iff_eq]
theorem evOk_valid {e : Evt} (h : evOk e = true) : validM (told e) = true := by
  rw [validM_parts]
  unfold evOk at h
  unfold told
  cases hm : e.mark with
  | true =>
    rw [hm] at h
    simp only [cond_true, Bool.and_eq_true] at h
    simp [cond_true, h.1, onlyTime]
  | false =>
    rw [hm] at h
    simp only [cond_false, Bool.and_eq_true] at h
    simp [cond_false, h.2, onlyRec]
theorem told_inj {e f : Evt} (he : evOk e = true) (hf : evOk f = true) : told e = told f ↔ e = f := by
  refine ⟨fun h => ?_, fun h => by rw [h]⟩
  obtain ⟨m1, t1, a1, b1, c1⟩ := e
  obtain ⟨m2, t2, a2, b2, c2⟩ := f
  unfold evOk noRec at he hf
  unfold told at h
  cases m1 <;> cases m2 <;> simp_all
theorem events_true (e f : Evt) : runT B lib6 Tryd.f9 [e.av, f.av] [] = rb true := by
  refine (tEvents e f).trans ?_
  rw [evE_ok, evE_ok, decide_eq_true rfl, decide_eq_true rfl]
  cases he : evOk e with
  | false => rfl
  | true =>
    cases hf : evOk f with
    | false => rfl
    | true =>
      have e1 : ofM e = told e := by unfold ofM; rw [he]; rfl
      have e2 : ofM f = told f := by unfold ofM; rw [hf]; rfl
      unfold ev2 ev3 ev4
      rw [e1, e2, chk_valid, evOk_valid he, eqM_is, eqE_is]
      have hi : decide (told e = told f) = decide (e = f) := by
        by_cases h : e = f
        · rw [decide_eq_true h, decide_eq_true (congrArg told h)]
        · rw [decide_eq_false h, decide_eq_false (fun h' => h ((told_inj he hf).1 h'))]
      rw [hi]
      unfold told eqRM
      cases e.mark <;> simp
def sEvents (_ : Nat → Option Obj) : FSpec
  | [.agg [.bool _, .int .i64 _, .int .i64 _, .int .i64 _, .int .i64 _], .agg [.bool _, .int .i64 _, .int .i64 _, .int .i64 _, .int .i64 _]], [] => .leaf ⟨[.bool true], []⟩
  | _, _ => .bad
theorem okEvents (hB : Laid B) : FnOk (E0 B) 9 (sEvents B) := by
  refine fnT (lib6_ok hB) Tryd.func9 (by kernel_rfl) (by kernel_rfl) fun vs bs r h => ?_
  unfold sEvents at h
  split at h
  · rename_i m1 t1 a1 b1 c1 m2 t2 a2 b2 c2
    simp only [T.sel, Option.some.injEq] at h; subst h
    exact events_true ⟨m1, t1, a1, b1, c1⟩ ⟨m2, t2, a2, b2, c2⟩
  · simp [T.sel] at h
end Go.Proofs.YtbjokogmfllcdaaDoor
