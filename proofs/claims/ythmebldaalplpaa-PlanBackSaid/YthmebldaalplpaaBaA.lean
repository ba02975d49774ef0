/- PlanBack, off its code. -/
import Derived.Test.YthmebldaalplpaaRoF
namespace Go.Ab
set_option linter.unusedVariables false
namespace Mo
open Pl
abbrev SBa (l : List Ai) (w : List Pt) (c : List Int) (i5 : Int) : St := ⟨.ro tA l :: js 6 ++ (.ro tP w :: .ro tI c :: js 73 ++ (.ro tA l :: .int .i64 ((l.length : Int)) :: .int .i64 (i5) :: js 45)), []⟩
abbrev SBb (l : List Ai) (w : List Pt) (c : List Int) (a : Ai) (b1 : Bool) (i2 : Int) (i6 : Int) : St := ⟨.ro tA l :: js 6 ++ (.ro tP w :: .ro tI c :: J :: .ptr 0 0 :: .bool b1 :: js 70 ++ (.ro tA l :: .int .i64 ((l.length : Int)) :: .int .i64 (i6) :: J :: J :: J :: .ro tP w :: .int .i64 ((w.length : Int)) :: .int .i64 (i2) :: js 39)), [bxA a]⟩
abbrev SBc (l : List Ai) (w : List Pt) (c : List Int) (a : Ai) (b3 : Bool) (i4 : Int) (b12 : Bool) (i13 : Int) : St := ⟨.ro tA l :: js 6 ++ (.ro tP w :: .ro tI c :: J :: .ptr 0 0 :: .bool b12 :: js 4 ++ (.bool b3 :: js 65 ++ (.ro tA l :: .int .i64 ((l.length : Int)) :: .int .i64 (i13) :: js 26 ++ (.ro tI c :: .int .i64 ((c.length : Int)) :: .int .i64 (i4) :: js 16)))), [bxA a]⟩
/-! ### Steps -/
theorem eRSize (x : Int) (n : Nat) : runF Q hn0 noCall n N.ref03_size [.int .i64 x] [] = some (.int .i64 (if wr ((0 : Int) - x) > x then wr ((0 : Int) - x) else x), []) := by kernel_rfl
def gSize : G
  | [.int .i64 x], [] => some (decide (-1048576 ≤ x ∧ x ≤ 1048576), .int .i64 (x.natAbs : Int), [])
  | _, _ => none
theorem gSize_ok (a : List AV) (m : List Slot) (r : Bool × AV × List Slot) (h : gSize a m = some r) (hk : r.1 = true) : Sound Q N.ref03_size a m r.2 := by
  unfold gSize at h
  split at h
  · simp only [Option.some.injEq] at h; subst h
    rename_i x
    have hk : -1048576 ≤ x ∧ x ≤ 1048576 := of_decide_eq_true hk
    refine sound_of_run (hn := hn0) noCall_ok (n := 0) ((eRSize x 0).trans ?_)
    rw [wr_id (z := 0 - x) (by omega) (by omega)]
    have e1 : (if 0 - x > x then 0 - x else x) = (x.natAbs : Int) := by split <;> omega
    rw [e1]
  · simp at h
noncomputable def tRSt : Callf := addT N.ref03_Fix gGFix (addT N.ref03_size gSize noCall)
theorem tRSt_ok : CallOK Q tRSt := addT_ok (addT_ok noCall_ok gSize_ok) gGFix_ref
theorem eRSteps (p : Pt) (n : Nat) : runF Q hn0 tRSt n N.ref03_Steps [agP p] [] =
  cond (decide (-1048576 ≤ clipF p.1 ∧ clipF p.1 ≤ 1048576)) (cond (decide (-1048576 ≤ clipF p.2 ∧ clipF p.2 ≤ 1048576)) (some (.int .i64 (wr (((clipF p.1).natAbs : Int) + ((clipF p.2).natAbs : Int))), [])) none) none := by kernel_rfl
theorem gSteps_ref (a : List AV) (m : List Slot) (r : Bool × AV × List Slot) (h : gSteps a m = some r) (hk : r.1 = true) : Sound Q N.ref03_Steps a m r.2 := by
  unfold gSteps at h
  split at h
  · simp only [Option.some.injEq] at h; subst h
    rename_i a b
    have h1 := clipF_bd a
    have h2 := clipF_bd b
    refine sound_of_run (hn := hn0) tRSt_ok (n := 0) ((eRSteps (a, b) 0).trans ?_)
    rw [cond_dec h1, cond_dec h2, wr_id (by dsimp only; omega) (by dsimp only; omega)]
    rfl
  · simp at h
noncomputable def tB : Callf := addT N.ref07_Right gRight (addT N.ref03_Small gSmall (addT N.plan_Route gRoute (addT N.plan_Cross gCross (addT N.ref01_Ints Is.g14 (addT N.ref03_Steps gSteps (addT N.plan_At gAt (addT N.law07_alive gAlive noCall)))))))
theorem tB_ok : CallOK Q tB := addT_ok (addT_ok (addT_ok (addT_ok (addT_ok (addT_ok (addT_ok (addT_ok noCall_ok gAlive_ok) gAt_plan) gSteps_ref) Is.g14_ok) gCross_plan) gRoute_plan) gSmall_ok) gRight_ref
noncomputable abbrev LBa (n z : Nat) (s : St) : Ans := loopF Q hn0 tB n N.law07_PlanBack 0 [1, 1, 1, 1, 1, 0, 1, 0] [] z s
noncomputable abbrev LBb (n m z : Nat) (s : St) : Ans := loopF Q hn0 tB n N.law07_PlanBack 0 [1, 1, 1, 1, 1, 0, 1, 0, 0, 1, 1, 0, 0, 1, 1, 0, 1, 0] [m] z s
noncomputable abbrev LBc (n m z : Nat) (s : St) : Ans := loopF Q hn0 tB n N.law07_PlanBack 0 [1, 1, 1, 1, 1, 0, 1, 0, 0, 1, 1, 0, 0, 1, 1, 1, 1, 0, 1, 0] [m] z s
theorem eB (l : List Ai) (p q : Pt) (n : Nat) : runF Q hn0 tB n N.law07_PlanBack [.ro tA l, agP p, agP q] [] =
  cond (!rightB l) tt (cond (!smallB p 200) tt (cond (!smallB q 200) tt (cond (decide (l.length < 1000000)) (cond (decide (l.length < 1000000)) (cond (decide ((crossL l p q 0).length < Is.big)) (cond (!decide (crossL l p q 0 = crossL l q p 1)) ff (cond (((routeL p q 0).length : Int) != wr ((1 : Int) + stepsI (wr (q.1 - p.1)) (wr (q.2 - p.2)))) ff
   (cond (decide ((0 : Int) ≤ (0 : Int)) && decide ((0 : Int) < ((routeL p q 0).length : Int))) (cond (!(clipI p.1 == p.1 && (clipI p.2 == p.2 && true))) ff
    (cond (decide ((0 : Int) ≤ wr (((routeL p q 0).length : Int) - 1)) && decide (wr (((routeL p q 0).length : Int) - 1) < ((routeL p q 0).length : Int))) (cond (!(((routeL p q 0).getD (wr (((routeL p q 0).length : Int) - 1)).toNat Dp).1 == q.1 && (((routeL p q 0).getD (wr (((routeL p q 0).length : Int) - 1)).toNat Dp).2 == q.2 && true))) ff (LBa n n (SBa l (routeL p q 0) (crossL l p q 0) 0))) none)) none))) none) none) none))) := by kernel_rfl
theorem rBa (l : List Ai) (w : List Pt) (c : List Int) (i5 : Int) (n m : Nat) : LBa n (m + 1) (SBa l w c i5) =
  cond (decide (i5 < (l.length : Int))) (cond (decide ((0 : Int) ≤ i5) && decide (i5 < (l.length : Int))) (LBb n m n (SBb l w c (l.getD i5.toNat tA.dflt) false 0 i5)) none) tt := by kernel_rfl
theorem rBb (l : List Ai) (w : List Pt) (c : List Int) (a : Ai) (b1 : Bool) (i2 : Int) (i6 : Int) (n m m1 : Nat) : LBb n m (m1 + 1) (SBb l w c a b1 i2 i6) =
  cond (decide (i2 < (w.length : Int))) (cond (decide ((0 : Int) ≤ i2) && decide (i2 < (w.length : Int))) (cond (decide (l.length < big)) (cond b1 (LBb n m m1 (SBb l w c a true (wr (i2 + 1)) i6)) (cond (atIs l (w.getD i2.toNat Dp)) (LBb n m m1 (SBb l w c a (atId l (w.getD i2.toNat Dp) == a.1) (wr (i2 + 1)) i6)) (LBb n m m1 (SBb l w c a false (wr (i2 + 1)) i6)))) none) none) (LBc n m n (SBc l w c a false 0 b1 i6)) := by kernel_rfl
theorem rBc (l : List Ai) (w : List Pt) (c : List Int) (a : Ai) (b3 : Bool) (i4 : Int) (b12 : Bool) (i13 : Int) (n m m2 : Nat) : LBc n m (m2 + 1) (SBc l w c a b3 i4 b12 i13) =
  cond (decide (i4 < (c.length : Int))) (cond (decide ((0 : Int) ≤ i4) && decide (i4 < (c.length : Int))) (cond b3 (LBc n m m2 (SBc l w c a true (wr (i4 + 1)) b12 i13)) (LBc n m m2 (SBc l w c a (c.getD i4.toNat 0 == a.1) (wr (i4 + 1)) b12 i13))) none) (cond (!b12 == b3) ff (LBa n m (SBa l w c (wr (i13 + 1))))) := by kernel_rfl
end Mo
end Go.Ab
