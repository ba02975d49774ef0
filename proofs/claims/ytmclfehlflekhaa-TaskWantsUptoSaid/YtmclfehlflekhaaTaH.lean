/- TaskAsks: joined. -/
import Derived.Test.YtmclfehlflekhaaTaF
namespace Go.Ab
set_option linter.unusedVariables false
namespace Ta
open Pl Mo
noncomputable def tAs : Callf := addT N.task_Clone gCl (addT N.task_Want gW (addT N.ref22_Want gW (addT N.ref01_Ints Is.g14 (addT N.task_Fits gFi (addT N.ref22_Fits gFi (addT N.task_Same gSa (addT N.ref22_Same gSa (addT N.task_SameRules gSRu (addT N.ref22_SameRules gSRu (addT N.law22_alive Ta.gAlive noCall))))))))))
theorem tAs_ok : CallOK Q tAs := addT_ok (addT_ok (addT_ok (addT_ok (addT_ok (addT_ok (addT_ok (addT_ok (addT_ok (addT_ok (addT_ok noCall_ok Ta.gAlive_ok) gSRu_ref) gSRu_task) gSa_ref) gSa_task) gFi_ref) gFi_task) Is.g14_ok) gW_ref) gW_task) gCl_ok
theorem eAs (r q : Ru) (x y : Sp) (z : Int × Int) (n : Nat) : runF Q hn0 tAs n N.law22_TaskAsks [agR r, agR q, agS x, agS y, .agg [.int .u64 z.1, .int .u64 z.2]] [] =
  cond (decide ((x.2.2.2.2.2.2.length : Int) > 60)) tt (cond (decide ((y.2.2.2.2.2.2.length : Int) > 60)) tt (cond (decide ((r.2.2.2.2.2.2.2.length : Int) > 40)) tt (cond (decide ((q.2.2.2.2.2.2.2.length : Int) > 40)) tt (cond (decide (x.2.2.2.2.2.2.length < Is.big)) (cond (decide (r.2.2.2.2.2.2.2.length < 1000000)) (cond (decide (r.2.2.2.2.2.2.2.length < 1000000)) (cond (decide ((crossL r.2.2.2.2.2.2.2 x.2.2.2.2.1 x.2.2.2.2.2.1 0).length < Is.big)) (cond (decide (crossL r.2.2.2.2.2.2.2 x.2.2.2.2.1 x.2.2.2.2.2.1 0 = crossL r.2.2.2.2.2.2.2 x.2.2.2.2.1 x.2.2.2.2.2.1 0))
   (cond (decide ((U x.2.2.1 ∧ U x.2.2.2.1) ∧ U z.1 ∧ U z.2)) (cond (decide ((U x.2.2.1 ∧ U x.2.2.2.1) ∧ U z.1 ∧ U z.2)) (cond (fitsW x z.1 z.2 == fitsW x z.1 z.2) (cond (decide (x.2.2.2.2.2.2.length < 1000000)) (cond (decide (x.2.2.2.2.2.2.length < 1000000)) (cond (sameS x y == sameS x y) (cond (decide (r.2.2.2.2.2.2.2.length < 1000000)) (cond (decide (r.2.2.2.2.2.2.2.length < 1000000)) (cond (sameR r q == sameR r q) (cond (decide (x.2.2.2.2.2.2.length < 1000000)) (cond (sameS x x) tt ff) none) ff) none) none) ff) none) none) ff) none) none) ff) none) none) none) none)))) := by kernel_rfl
theorem sameS_self (x : Sp) : sameS x x = true := by
  unfold sameS; exact decide_eq_true ⟨rfl, rfl, rfl, rfl, ⟨rfl, rfl⟩, ⟨rfl, rfl⟩, rfl⟩
theorem lawAsks (r q : Ru) (x y : Sp) (z : Int × Int) (hx : U x.2.2.1 ∧ U x.2.2.2.1) (hz : U z.1 ∧ U z.2) : Sound Q N.law22_TaskAsks [agR r, agR q, agS x, agS y, .agg [.int .u64 z.1, .int .u64 z.2]] [] (.bool true, []) := by
  refine sound_of_run (hn := hn0) tAs_ok (n := 0) ?_
  rw [eAs]
  by_cases h1 : x.2.2.2.2.2.2.length > 60
  · rw [cond_dec (by omega)]
  rw [cond_dec' (by omega)]
  by_cases h2 : y.2.2.2.2.2.2.length > 60
  · rw [cond_dec (by omega)]
  rw [cond_dec' (by omega)]
  by_cases h3 : r.2.2.2.2.2.2.2.length > 40
  · rw [cond_dec (by omega)]
  rw [cond_dec' (by omega)]
  by_cases h4 : q.2.2.2.2.2.2.2.length > 40
  · rw [cond_dec (by omega)]
  rw [cond_dec' (by omega)]
  have hc : (crossL r.2.2.2.2.2.2.2 x.2.2.2.2.1 x.2.2.2.2.2.1 0).length < Is.big := by
    unfold crossL
    have := refSet_len ((r.2.2.2.2.2.2.2.filter (onLegs x.2.2.2.2.1 x.2.2.2.2.2.1 0)).map (·.1))
    have h3 := List.length_filter_le (onLegs x.2.2.2.2.1 x.2.2.2.2.2.1 0) r.2.2.2.2.2.2.2
    rw [List.length_map] at this
    unfold Is.big
    omega
  have hl : decide (x.2.2.2.2.2.2.length < 1000000) = true := decide_eq_true (by omega)
  have hr : decide (r.2.2.2.2.2.2.2.length < 1000000) = true := decide_eq_true (by omega)
  have hu : decide ((U x.2.2.1 ∧ U x.2.2.2.1) ∧ U z.1 ∧ U z.2) = true := decide_eq_true ⟨hx, hz⟩
  rw [cond_dec (p := x.2.2.2.2.2.2.length < Is.big) (by unfold Is.big; omega), hr, cond_true, cond_true, cond_dec hc, cond_dec rfl, hu, cond_true, cond_true, beq_self_eq_true, cond_true, hl, cond_true, cond_true, beq_self_eq_true, cond_true, cond_true, cond_true, beq_self_eq_true, cond_true, cond_true, sameS_self, cond_true]
theorem u_wf {x : Int} (h : (Lit.int .u64 x).wf = true) : U x := by
  simp only [Lit.wf, Bool.and_eq_true, decide_eq_true_eq] at h
  have m1 : IntKind.u64.min = 0 := rfl
  have m2 : IntKind.u64.max = 18446744073709551615 := rfl
  rw [m1, m2] at h
  constructor
  · exact h.1
  · have := h.2; omega
theorem lawAsks' (r q : Ru) (x y : Sp) (z : Int × Int) (hx : WfD tSp x) (hz : WfD (.pair tU tU) z) : Sound Q N.law22_TaskAsks [agR r, agR q, agS x, agS y, .agg [.int .u64 z.1, .int .u64 z.2]] [] (.bool true, []) :=
  lawAsks r q x y z ⟨u_wf hx.2.2.1, u_wf hx.2.2.2.1⟩ ⟨u_wf hz.1, u_wf hz.2⟩
end Ta
end Go.Ab
