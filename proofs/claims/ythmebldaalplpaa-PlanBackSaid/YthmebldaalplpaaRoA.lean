/- Ways: the unit step, off its code. -/
import Derived.Test.YthmebldaalplpaaMoC
namespace Go.Ab
set_option linter.unusedVariables false
set_option exponentiation.threshold 3000
namespace Mo
open Pl
def gSub : G
  | [.agg [.int .i64 a, .int .i64 b], .agg [.int .i64 x, .int .i64 y]], [] => some (true, .agg [.int .i64 (clipF a - clipF x), .int .i64 (clipF b - clipF y)], [])
  | _, _ => none
theorem eGSub (p q : Pt) (n : Nat) : runF Q hn0 tG n N.gauss_Sub [agP p, agP q] [] =
  ptB (cSumBits .sub .f64 (FloatKind.f64.nearest (clipF p.1)) (FloatKind.f64.nearest (clipF p.2)) (FloatKind.f64.nearest (clipF q.1)) (FloatKind.f64.nearest (clipF q.2))) := by kernel_rfl
theorem gSub_ok (a : List AV) (m : List Slot) (r : Bool × AV × List Slot) (h : gSub a m = some r) (hk : r.1 = true) : Sound Q N.gauss_Sub a m r.2 := by
  unfold gSub at h
  split at h
  · simp only [Option.some.injEq] at h; subst h
    rename_i a b x y
    refine sound_of_run (hn := hn0) tG_ok (n := 0) ((eGSub (a, b) (x, y) 0).trans ?_)
    have h1 := clipF_bd a
    have h2 := clipF_bd b
    have h3 := clipF_bd x
    have h4 := clipF_bd y
    obtain ⟨c, d, d1, d2, d3⟩ := isC_diff (isF_int (clipF a) (by rw [q53]; omega)) (isF_int (clipF b) (by rw [q53]; omega)) (isF_int (clipF x) (by rw [q53]; omega)) (isF_int (clipF y) (by rw [q53]; omega)) (by rw [q53]; omega) (by rw [q53]; omega)
    dsimp only
    rw [d1]
    unfold ptB
    simp only [Option.isSome_some, Option.getD_some, cond_true]
    rw [isF_cut d2 (by rw [q53]; omega), isF_cut d3 (by rw [q53]; omega)]
    rfl
  · simp at h
def stepsI (x y : Int) : Int := ((clipF x).natAbs : Int) + ((clipF y).natAbs : Int)
def gSteps : G
  | [.agg [.int .i64 a, .int .i64 b]], [] => some (true, .int .i64 (stepsI a b), [])
  | _, _ => none
noncomputable def tSt : Callf := deepT Q hn0 0 (addT N.gauss_Fix gGFix noCall) 2
theorem tSt_ok : CallOK Q tSt := deepT_ok (addT_ok noCall_ok gGFix_ok) 2
theorem eGSteps (p : Pt) (n : Nat) : runF Q hn0 tSt n N.gauss_Steps [agP p] [] =
  some (.int .i64 (wr ((if wr (0 - clipF p.1) > clipF p.1 then wr (0 - clipF p.1) else clipF p.1) + if wr (0 - clipF p.2) > clipF p.2 then wr (0 - clipF p.2) else clipF p.2)), []) := by kernel_rfl
theorem gSteps_ok (a : List AV) (m : List Slot) (r : Bool × AV × List Slot) (h : gSteps a m = some r) (hk : r.1 = true) : Sound Q N.gauss_Steps a m r.2 := by
  unfold gSteps at h
  split at h
  · simp only [Option.some.injEq] at h; subst h
    rename_i a b
    refine sound_of_run (hn := hn0) tSt_ok (n := 0) ((eGSteps (a, b) 0).trans ?_)
    have h1 := clipF_bd a
    have h2 := clipF_bd b
    dsimp only
    rw [wr_id (z := 0 - clipF a) (by omega) (by omega), wr_id (z := 0 - clipF b) (by omega) (by omega)]
    have e1 : (if 0 - clipF a > clipF a then 0 - clipF a else clipF a) = ((clipF a).natAbs : Int) := by split <;> omega
    have e2 : (if 0 - clipF b > clipF b then 0 - clipF b else clipF b) = ((clipF b).natAbs : Int) := by split <;> omega
    rw [e1, e2, wr_id (by omega) (by omega)]
    rfl
  · simp at h
noncomputable def tUnit : Callf := addT N.gauss_Sub gSub (addT N.gauss_Steps gSteps noCall)
theorem tUnit_ok : CallOK Q tUnit := addT_ok (addT_ok noCall_ok gSteps_ok) gSub_ok
theorem eUnit (p q : Pt) (n : Nat) : runF Q hn0 tUnit n N.plan_unit [agP p, agP q] [] =
  cond (stepsI (clipF q.1 - clipF p.1) (clipF q.2 - clipF p.2) == (0 : Int)) (some (.cpx .f64 0 0, [])) (cond (!stepsI (clipF q.1 - clipF p.1) (clipF q.2 - clipF p.2) == (0 : Int)) (cond (!stepsI (clipF q.1 - clipF p.1) (clipF q.2 - clipF p.2) == (0 : Int)) (some (.cpx .f64 (FloatKind.f64.nearest (wr ((clipF q.1 - clipF p.1).tdiv (stepsI (clipF q.1 - clipF p.1) (clipF q.2 - clipF p.2))))) (FloatKind.f64.nearest (wr ((clipF q.2 - clipF p.2).tdiv (stepsI (clipF q.1 - clipF p.1) (clipF q.2 - clipF p.2))))), [])) none) none) := by kernel_rfl
def sgnI (x : Int) : Int := if x > 0 then 1 else if x < 0 then -1 else 0
/-- Do both lie on a straight way, on a floor? -/
def lineB (p q : Pt) : Bool := decide ((p.1 = q.1 ∨ p.2 = q.2) ∧ (-1000 ≤ p.1 ∧ p.1 ≤ 1000) ∧ (-1000 ≤ p.2 ∧ p.2 ≤ 1000) ∧ (-1000 ≤ q.1 ∧ q.1 ≤ 1000) ∧ (-1000 ≤ q.2 ∧ q.2 ≤ 1000))
def gUnit : G
  | [.agg [.int .i64 a, .int .i64 b], .agg [.int .i64 x, .int .i64 y]], [] => some (lineB (a, b) (x, y), .cpx .f64 (FloatKind.f64.nearest (sgnI (x - a))) (FloatKind.f64.nearest (sgnI (y - b))), [])
  | _, _ => none
theorem div_sgn {x : Int} (h : x ≠ 0) : x.tdiv (x.natAbs : Int) = sgnI x := by
  unfold sgnI
  by_cases h1 : x > 0
  · rw [if_pos h1, show ((x.natAbs : Nat) : Int) = x by omega]; exact Int.tdiv_self h
  · rw [if_neg h1, if_pos (by omega), show ((x.natAbs : Nat) : Int) = -x by omega, Int.tdiv_neg, Int.tdiv_self h]
theorem wr_sgn (x : Int) : wr (sgnI x) = sgnI x := by
  unfold sgnI
  split
  · rfl
  · split <;> rfl
theorem gUnit_ok (a : List AV) (m : List Slot) (r : Bool × AV × List Slot) (h : gUnit a m = some r) (hk : r.1 = true) : Sound Q N.plan_unit a m r.2 := by
  unfold gUnit at h
  split at h
  · simp only [Option.some.injEq] at h; subst h
    rename_i a b x y
    have hk := of_decide_eq_true hk
    dsimp only at hk
    obtain ⟨h0, h1, h2, h3, h4⟩ := hk
    refine sound_of_run (hn := hn0) tUnit_ok (n := 0) ((eUnit (a, b) (x, y) 0).trans ?_)
    dsimp only
    have c1 : clipF a = a := by unfold clipF; omega
    have c2 : clipF b = b := by unfold clipF; omega
    have c3 : clipF x = x := by unfold clipF; omega
    have c4 : clipF y = y := by unfold clipF; omega
    have c5 : clipF (x - a) = x - a := by unfold clipF; omega
    have c6 : clipF (y - b) = y - b := by unfold clipF; omega
    rw [c1, c2, c3, c4]
    unfold stepsI
    rw [c5, c6]
    have n0 : FloatKind.f64.nearest 0 = 0 := rfl
    have s0 : sgnI 0 = 0 := rfl
    by_cases hz : x - a = 0 ∧ y - b = 0
    · rw [hz.1, hz.2, s0, n0]; rfl
    · have e : (((x - a).natAbs : Int) + ((y - b).natAbs : Int) == 0) = false := by
        rw [beq_eq_false_iff_ne]; omega
      rw [e, cond_false, Bool.not_false, cond_true, cond_true]
      rcases h0 with h0 | h0
      · have hx : x - a = 0 := by omega
        have hy : y - b ≠ 0 := by omega
        have q1 : ((x - a).natAbs : Int) + ((y - b).natAbs : Int) = ((y - b).natAbs : Int) := by omega
        rw [q1, div_sgn hy, hx, s0, Int.zero_tdiv]
        have w1 : wr 0 = 0 := rfl
        have w2 : wr (sgnI (y - b)) = sgnI (y - b) := wr_sgn _
        rw [w1, w2]
      · have hy : y - b = 0 := by omega
        have hx : x - a ≠ 0 := by omega
        have q1 : ((x - a).natAbs : Int) + ((y - b).natAbs : Int) = ((x - a).natAbs : Int) := by omega
        rw [q1, div_sgn hx, hy, s0, Int.zero_tdiv]
        have w1 : wr 0 = 0 := rfl
        have w2 : wr (sgnI (x - a)) = sgnI (x - a) := wr_sgn _
        rw [w1, w2]
  · simp at h
noncomputable def tRo : Callf := addT N.plan_legs gLegs (addT N.plan_unit gUnit noCall)
theorem tRo_ok : CallOK Q tRo := addT_ok (addT_ok noCall_ok gUnit_ok) gLegs_ok
end Mo
end Go.Ab
