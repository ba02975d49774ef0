/- TaskChecks. -/
import Derived.Test.YtmclfehlflekhaaTaB
namespace Go.Ab
set_option linter.unusedVariables false
namespace Ta
open Pl Mo
def gCheck : G
  | [.agg [.int .i64 a, .int .i64 b, .int .u64 c, .int .u64 d, .int .i64 e, .int .i64 f, .int .i64 g, .int .i64 h, .ro (.int .i64) l]], [] => some (decide (l.length < 2000000), .int .i64 (checkE (a, b, c, d, (e, f), (g, h), l)), [])
  | _, _ => none
def gRules : G
  | [.agg [.int .i64 a, .int .i64 b, .int .i64 c, .int .i64 d, .int .i64 e, .int .i64 f, .int .i64 g, .ro (.pair (.int .i64) (.pair (.pair (.int .i64) (.int .i64)) (.pair (.int .i64) (.int .i64)))) l]], [] => some (true, .int .i64 (rulesE (a, b, c, d, e, f, g, l)), [])
  | _, _ => none
theorem gCheck_task (a : List AV) (m : List Slot) (r : Bool × AV × List Slot) (h : gCheck a m = some r) (hk : r.1 = true) : Sound Q N.task_Check a m r.2 := by
  unfold gCheck at h
  split at h
  · simp only [Option.some.injEq] at h; subst h
    rename_i a b c d e f g h l
    exact sound_of_run tCk_ok (run_ck (a, b, c, d, (e, f), (g, h), l) (of_decide_eq_true hk))
  · simp at h
theorem gCheck_ref (a : List AV) (m : List Slot) (r : Bool × AV × List Slot) (h : gCheck a m = some r) (hk : r.1 = true) : Sound Q N.ref22_Check a m r.2 := by
  unfold gCheck at h
  split at h
  · simp only [Option.some.injEq] at h; subst h
    rename_i a b c d e f g h l
    exact sound_of_run tRCk_ok (run_rck (a, b, c, d, (e, f), (g, h), l) (of_decide_eq_true hk))
  · simp at h
theorem gRules_task (a : List AV) (m : List Slot) (r : Bool × AV × List Slot) (h : gRules a m = some r) (hk : r.1 = true) : Sound Q N.task_Rules a m r.2 := by
  unfold gRules at h
  split at h
  · simp only [Option.some.injEq] at h; subst h
    rename_i a b c d e f g l
    exact sound_of_run tRu_ok (run_ru (a, b, c, d, e, f, g, l))
  · simp at h
theorem gRules_ref (a : List AV) (m : List Slot) (r : Bool × AV × List Slot) (h : gRules a m = some r) (hk : r.1 = true) : Sound Q N.ref22_Rules a m r.2 := by
  unfold gRules at h
  split at h
  · simp only [Option.some.injEq] at h; subst h
    rename_i a b c d e f g l
    exact sound_of_run tRRu_ok (run_rru (a, b, c, d, e, f, g, l))
  · simp at h
noncomputable def tA0 : Callf := addT N.task_Check gCheck (addT N.task_Rules gRules (addT N.plan_Cross gCross (addT N.ref01_Ints Is.g14 noCall)))
theorem tA0_ok : CallOK Q tA0 := addT_ok (addT_ok (addT_ok (addT_ok noCall_ok Is.g14_ok) gCross_plan) gRules_task) gCheck_task
noncomputable def tA1 : Callf := inlT Q hn0 N.skill_Has 20 (inlT Q hn0 N.task_of 20 (inlT Q hn0 N.slices_Equal_int 20 (inlT Q hn0 N.task_numbers 20 (inlT Q hn0 N.slices_Equal_api_Aisle 20 tA0))))
theorem tA1_ok : CallOK Q tA1 := inlT_ok (inlT_ok (inlT_ok (inlT_ok (inlT_ok tA0_ok))))
noncomputable def tA2 : Callf := inlT Q hn0 N.task_Want 20 (inlT Q hn0 N.task_Fits 20 (inlT Q hn0 N.task_Same 20 (inlT Q hn0 N.task_SameRules 20 tA1)))
theorem tA2_ok : CallOK Q tA2 := inlT_ok (inlT_ok (inlT_ok (inlT_ok tA1_ok)))
theorem eAlive : runF Q hn0 tA2 0 N.law22_alive [] [] = some (.bool true, []) := by kernel_rfl
def gAlive : G
  | [], [] => some (true, .bool true, [])
  | _, _ => none
theorem gAlive_ok (a : List AV) (m : List Slot) (r : Bool × AV × List Slot) (h : gAlive a m = some r) (hk : r.1 = true) : Sound Q N.law22_alive a m r.2 := by
  unfold gAlive at h
  split at h
  · simp only [Option.some.injEq] at h; subst h; exact sound_of_run tA2_ok eAlive
  · simp at h
noncomputable def tTC : Callf := addT N.task_Check gCheck (addT N.ref22_Check gCheck (addT N.task_Rules gRules (addT N.ref22_Rules gRules (addT N.law22_alive gAlive noCall))))
theorem tTC_ok : CallOK Q tTC := addT_ok (addT_ok (addT_ok (addT_ok (addT_ok noCall_ok gAlive_ok) gRules_ref) gRules_task) gCheck_ref) gCheck_task
theorem eTC (x : Sp) (r : Ru) (n : Nat) : runF Q hn0 tTC n N.law22_TaskChecks [agS x, agR r] [] =
  cond (decide ((x.2.2.2.2.2.2.length : Int) > 60)) tt (cond (decide ((r.2.2.2.2.2.2.2.length : Int) > 60)) tt (cond (decide (x.2.2.2.2.2.2.length < 2000000)) (cond (decide (x.2.2.2.2.2.2.length < 2000000)) (cond (checkE x == checkE x) (cond (rulesE r == rulesE r) tt ff) ff) none) none)) := by kernel_rfl
theorem lawChecks (x : Sp) (r : Ru) : Sound Q N.law22_TaskChecks [agS x, agR r] [] (.bool true, []) := by
  refine sound_of_run (hn := hn0) tTC_ok (n := 0) ?_
  rw [eTC]
  by_cases h : x.2.2.2.2.2.2.length > 60
  · rw [cond_dec (by omega)]
  · rw [cond_dec' (by omega)]
    by_cases h2 : r.2.2.2.2.2.2.2.length > 60
    · rw [cond_dec (by omega)]
    · rw [cond_dec' (by omega), cond_dec (p := x.2.2.2.2.2.2.length < 2000000) (by omega), cond_dec (p := x.2.2.2.2.2.2.length < 2000000) (by omega), beq_self_eq_true, beq_self_eq_true]
      rfl
end Ta
end Go.Ab
