/- Plans: what must come at any rate; PlanTells. -/
import Derived.Test.YthmebldaalplpaaPlE
namespace Go.Ab
set_option linter.unusedVariables false
namespace Pl
noncomputable def tAlive : Callf := addT N.plan_Right gRight (addT N.plan_At gAt (addT N.plan_Cross gCross (addT N.ref01_Ints Is.g14 noCall)))
theorem tAlive_ok : CallOK Q tAlive := addT_ok (addT_ok (addT_ok (addT_ok noCall_ok Is.g14_ok) gCross_plan) gAt_plan) gRight_plan
theorem eAlive : runF Q hn0 tAlive 0 N.law07_alive [] [] = some (.bool true, []) := by kernel_rfl
def gAlive : G
  | [], [] => some (true, .bool true, [])
  | _, _ => none
theorem gAlive_ok (a : List AV) (m : List Slot) (r : Bool × AV × List Slot) (h : gAlive a m = some r) (hk : r.1 = true) : Sound Q N.law07_alive a m r.2 := by
  unfold gAlive at h
  split at h
  · simp only [Option.some.injEq] at h; subst h; exact sound_of_run tAlive_ok eAlive
  · simp at h
noncomputable def tTells : Callf := addT N.law07_alive gAlive (addT N.plan_At gAt (addT N.ref07_At gAt (addT N.plan_Right gRight (addT N.ref07_Right gRight (addT N.plan_Meet gMeet (addT N.ref07_Meet gMeet noCall))))))
theorem tTells_ok : CallOK Q tTells := addT_ok (addT_ok (addT_ok (addT_ok (addT_ok (addT_ok (addT_ok noCall_ok gMeet_ref) gMeet_plan) gRight_ref) gRight_plan) gAt_ref) gAt_plan) gAlive_ok
theorem eTells (l : List Ai) (a b : Ai) (p : Pt) (n : Nat) : runF Q hn0 tTells n N.law07_PlanTells [.ro tA l, agA a, agA b, agP p] [] =
  cond (decide ((l.length : Int) > (60 : Int))) (some (.bool true, [])) (cond (decide (l.length < big)) (cond (decide (l.length < big)) (cond (rightB l == rightB l) (cond (meetB a b == meetB a b) (cond ((match List.find? (fun x => hasB x p) l with | some a => a.1 | none => (0 : Int)) == match List.find? (fun x => hasB x p) l with | some a => a.1 | none => (0 : Int)) (cond ((match List.find? (fun x => hasB x p) l with | some a => true | none => false) == match List.find? (fun x => hasB x p) l with | some a => true | none => false) (some (.bool true, [])) (some (.bool false, []))) (some (.bool false, []))) (some (.bool false, []))) (some (.bool false, []))) none) none) := by kernel_rfl
theorem lawTells (l : List Ai) (a b : Ai) (p : Pt) : Sound Q N.law07_PlanTells [.ro tA l, agA a, agA b, agP p] [] (.bool true, []) := by
  refine sound_of_run (hn := hn0) tTells_ok (n := 0) ?_
  rw [eTells]
  by_cases h : l.length > 60
  · rw [cond_dec (by omega)]
  · have h1 : l.length < big := by unfold big; omega
    rw [cond_dec' (by omega), cond_dec h1, cond_dec h1, beq_self_eq_true, beq_self_eq_true, beq_self_eq_true, beq_self_eq_true]
    rfl
end Pl
end Go.Ab
