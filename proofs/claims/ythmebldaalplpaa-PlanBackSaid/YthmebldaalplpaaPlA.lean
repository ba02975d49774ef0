/- Plans: whether an aisle has a point, whether two meet: what the smallest functions compute, off their code. -/
import Derived.Test.YthmebldaalplpaaTy2
namespace Go.Ab
set_option linter.unusedVariables false
namespace Pl


/-- Has an aisle a point? -/
def hasB (a : Ai) (p : Pt) : Bool := decide (a.2.1.1 ≤ p.1 ∧ p.1 ≤ a.2.2.1 ∧ a.2.1.2 ≤ p.2 ∧ p.2 ≤ a.2.2.2)
/-- Have two a point that is one? -/
def meetB (a b : Ai) : Bool := decide (max a.2.1.1 b.2.1.1 ≤ min a.2.2.1 b.2.2.1 ∧ max a.2.1.2 b.2.1.2 ≤ min a.2.2.2 b.2.2.2)
/-- Is a point of a floor? -/
def wideB (p : Pt) : Bool := decide (-1000 ≤ p.1 ∧ p.1 ≤ 1000 ∧ -1000 ≤ p.2 ∧ p.2 ≤ 1000)
def clipI (x : Int) : Int := max (-1000) (min x 1000)
def nearP (p : Pt) : Pt := (clipI p.1, clipI p.2)

theorem eInside (a : Ai) (p : Pt) (n : Nat) : runF Q hn0 noCall n N.plan_inside [agA a, agP p] [] =
  cond ((p.fst == if a.snd.snd.fst < if a.snd.fst.fst > p.fst then a.snd.fst.fst else p.fst then a.snd.snd.fst else if a.snd.fst.fst > p.fst then a.snd.fst.fst else p.fst) && ((p.snd == if a.snd.snd.snd < if a.snd.fst.snd > p.snd then a.snd.fst.snd else p.snd then a.snd.snd.snd else if a.snd.fst.snd > p.snd then a.snd.fst.snd else p.snd) && true)) (cond (decide (a.snd.fst.fst ≤ a.snd.snd.fst)) (some (.bool (decide (a.snd.fst.snd ≤ a.snd.snd.snd)), [])) (some (.bool false, []))) (some (.bool false, [])) := by kernel_rfl
theorem run_inside (a : Ai) (p : Pt) (n : Nat) : runF Q hn0 noCall n N.plan_inside [agA a, agP p] [] = some (.bool (hasB a p), []) := by
  rw [eInside]
  simp only [fold_and]
  congr 3
  rw [Bool.eq_iff_iff]
  simp only [Bool.and_eq_true, decide_eq_true_eq, beq_iff_eq, hasB]
  constructor
  · rintro ⟨⟨h1, h2, _⟩, h3, h4⟩
    revert h1 h2
    repeat' split
    all_goals omega
  · rintro ⟨h1, h2, h3, h4⟩
    refine ⟨⟨?_, ?_, trivial⟩, by omega, by omega⟩
    · rw [if_neg (by split <;> omega)]; split <;> omega
    · rw [if_neg (by split <;> omega)]; split <;> omega
theorem eHas (a : Ai) (p : Pt) (n : Nat) : runF Q hn0 noCall n N.ref07_Has [agA a, agP p] [] =
  cond (decide (a.snd.fst.fst ≤ p.fst)) (cond (decide (p.fst ≤ a.snd.snd.fst)) (cond (decide (a.snd.fst.snd ≤ p.snd)) (some (.bool (decide (p.snd ≤ a.snd.snd.snd)), [])) (some (.bool false, []))) (some (.bool false, []))) (some (.bool false, [])) := by kernel_rfl
theorem run_has (a : Ai) (p : Pt) (n : Nat) : runF Q hn0 noCall n N.ref07_Has [agA a, agP p] [] = some (.bool (hasB a p), []) := by
  rw [eHas]
  simp only [fold_and]
  congr 3
  rw [Bool.eq_iff_iff]
  simp only [Bool.and_eq_true, decide_eq_true_eq, hasB]

/-! ### table entries -/
def gHas : G
  | [.agg [.int .i64 a, .int .i64 b, .int .i64 c, .int .i64 d, .int .i64 e], .agg [.int .i64 x, .int .i64 y]], [] => some (true, .bool (hasB (a, (b, c), (d, e)) (x, y)), [])
  | _, _ => none
def gMeet : G
  | [.agg [.int .i64 a, .int .i64 b, .int .i64 c, .int .i64 d, .int .i64 e], .agg [.int .i64 a', .int .i64 b', .int .i64 c', .int .i64 d', .int .i64 e']], [] => some (true, .bool (meetB (a, (b, c), (d, e)) (a', (b', c'), (d', e'))), [])
  | _, _ => none
def gClip : G
  | [.int .i64 x, .int .i64 a, .int .i64 b], [] => some (decide (a = -1000 ∧ b = 1000), .int .i64 (clipI x), [])
  | _, _ => none
def gNear : G
  | [.agg [.int .i64 x, .int .i64 y]], [] => some (true, .agg [.int .i64 (clipI x), .int .i64 (clipI y)], [])
  | _, _ => none
def gWide : G
  | [.agg [.int .i64 x, .int .i64 y]], [] => some (true, .bool (wideB (x, y)), [])
  | _, _ => none
def smallB (p : Pt) (m : Int) : Bool := decide (-m ≤ p.1 ∧ p.1 ≤ m ∧ -m ≤ p.2 ∧ p.2 ≤ m)
def gSmall : G
  | [.agg [.int .i64 x, .int .i64 y], .int .i64 m], [] => some (decide (0 ≤ m ∧ m ≤ 1000000), .bool (smallB (x, y) m), [])
  | _, _ => none
def gAt1 : G
  | [.agg [.int .i64 a, .int .i64 b, .int .i64 c, .int .i64 d, .int .i64 e], .ptr 0 0], [.obj (.box [.int .i64 x, .int .i64 y])] => some (true, .bool (hasB (a, (b, c), (d, e)) (x, y)), [.obj (.box [.int .i64 x, .int .i64 y])])
  | _, _ => none

theorem gHas_inside (a : List AV) (m : List Slot) (r : Bool × AV × List Slot) (h : gHas a m = some r) (hk : r.1 = true) : Sound Q N.plan_inside a m r.2 := by
  unfold gHas at h
  split at h
  · simp only [Option.some.injEq] at h; subst h; exact sound_of_run noCall_ok (run_inside (_, (_, _), (_, _)) (_, _) 0)
  · simp at h
theorem gHas_has (a : List AV) (m : List Slot) (r : Bool × AV × List Slot) (h : gHas a m = some r) (hk : r.1 = true) : Sound Q N.ref07_Has a m r.2 := by
  unfold gHas at h
  split at h
  · simp only [Option.some.injEq] at h; subst h; exact sound_of_run noCall_ok (run_has (_, (_, _), (_, _)) (_, _) 0)
  · simp at h

noncomputable def tIn : Callf := addT N.plan_inside gHas noCall
theorem tIn_ok : CallOK Q tIn := addT_ok noCall_ok gHas_inside
noncomputable def tHas : Callf := addT N.ref07_Has gHas noCall
theorem tHas_ok : CallOK Q tHas := addT_ok noCall_ok gHas_has

/-! ### Meet, by both -/
theorem eMeet (a : Ai) (p : Ai) (n : Nat) : runF Q hn0 tIn n N.plan_Meet [agA a, agA p] [] =
  some (.bool (hasB ((0 : Int), (if p.snd.fst.fst > a.snd.fst.fst then p.snd.fst.fst else a.snd.fst.fst, if p.snd.fst.snd > a.snd.fst.snd then p.snd.fst.snd else a.snd.fst.snd), if p.snd.snd.fst < a.snd.snd.fst then p.snd.snd.fst else a.snd.snd.fst, if p.snd.snd.snd < a.snd.snd.snd then p.snd.snd.snd else a.snd.snd.snd) (if p.snd.fst.fst > a.snd.fst.fst then p.snd.fst.fst else a.snd.fst.fst, if p.snd.fst.snd > a.snd.fst.snd then p.snd.fst.snd else a.snd.fst.snd)), []) := by kernel_rfl
theorem run_meet (a p : Ai) : runF Q hn0 tIn 0 N.plan_Meet [agA a, agA p] [] = some (.bool (meetB a p), []) := by
  rw [eMeet]
  congr 3
  rw [Bool.eq_iff_iff]
  simp only [decide_eq_true_eq, hasB, meetB]
  repeat' split
  all_goals omega
theorem eRMeet (a : Ai) (p : Ai) (n : Nat) : runF Q hn0 tHas n N.ref07_Meet [agA a, agA p] [] =
  cond (hasB a (if p.snd.fst.fst > a.snd.fst.fst then p.snd.fst.fst else a.snd.fst.fst, if p.snd.fst.snd > a.snd.fst.snd then p.snd.fst.snd else a.snd.fst.snd)) (some (.bool (hasB p (if p.snd.fst.fst > a.snd.fst.fst then p.snd.fst.fst else a.snd.fst.fst, if p.snd.fst.snd > a.snd.fst.snd then p.snd.fst.snd else a.snd.fst.snd)), [])) (some (.bool false, [])) := by kernel_rfl
theorem run_rmeet (a p : Ai) : runF Q hn0 tHas 0 N.ref07_Meet [agA a, agA p] [] = some (.bool (meetB a p), []) := by
  rw [eRMeet]
  simp only [fold_and]
  congr 3
  rw [Bool.eq_iff_iff]
  simp only [Bool.and_eq_true, decide_eq_true_eq, hasB, meetB]
  repeat' split
  all_goals omega
theorem gMeet_plan (a : List AV) (m : List Slot) (r : Bool × AV × List Slot) (h : gMeet a m = some r) (hk : r.1 = true) : Sound Q N.plan_Meet a m r.2 := by
  unfold gMeet at h
  split at h
  · simp only [Option.some.injEq] at h; subst h; exact sound_of_run tIn_ok (run_meet (_, (_, _), (_, _)) (_, (_, _), (_, _)))
  · simp at h
theorem gMeet_ref (a : List AV) (m : List Slot) (r : Bool × AV × List Slot) (h : gMeet a m = some r) (hk : r.1 = true) : Sound Q N.ref07_Meet a m r.2 := by
  unfold gMeet at h
  split at h
  · simp only [Option.some.injEq] at h; subst h; exact sound_of_run tHas_ok (run_rmeet (_, (_, _), (_, _)) (_, (_, _), (_, _)))
  · simp at h

/-! ### near, wide, Small -/
theorem eClip (x a b : Int) (n : Nat) : runF Q hn0 noCall n N.ref02_Clip [.int .i64 x, .int .i64 a, .int .i64 b] [] =
  cond (decide (x < a)) (some (.int .i64 (a), [])) (cond (decide (x > b)) (some (.int .i64 (b), [])) (some (.int .i64 (x), []))) := by kernel_rfl
theorem run_clip (x : Int) : runF Q hn0 noCall 0 N.ref02_Clip [.int .i64 x, .int .i64 (-1000), .int .i64 1000] [] = some (.int .i64 (clipI x), []) := by
  rw [eClip]
  simp only [fold_int]
  congr 3
  unfold clipI
  by_cases h : x < -1000
  · simp only [h, decide_true, cond_true]; omega
  · by_cases h' : x > 1000
    · simp only [h, h', decide_true, decide_false, cond_true, cond_false]; omega
    · simp only [h, h', decide_false, cond_false]; omega
theorem gClip_ok (a : List AV) (m : List Slot) (r : Bool × AV × List Slot) (h : gClip a m = some r) (hk : r.1 = true) : Sound Q N.ref02_Clip a m r.2 := by
  unfold gClip at h
  split at h
  · simp only [Option.some.injEq] at h; subst h; obtain ⟨rfl, rfl⟩ := of_decide_eq_true hk; exact sound_of_run noCall_ok (run_clip _)
  · simp at h
noncomputable def tClip : Callf := addT N.ref02_Clip gClip noCall
theorem tClip_ok : CallOK Q tClip := addT_ok noCall_ok gClip_ok
theorem run_rnear (p : Pt) : runF Q hn0 tClip 0 N.ref07_near [agP p] [] = some (agP (nearP p), []) := by kernel_rfl
theorem eNear (p : Pt) (n : Nat) : runF Q hn0 noCall n N.plan_near [agP p] [] =
  some (.agg [.int .i64 (if (-1000 : Int) > if (1000 : Int) < p.fst then (1000 : Int) else p.fst then (-1000 : Int) else if (1000 : Int) < p.fst then (1000 : Int) else p.fst), .int .i64 (if (-1000 : Int) > if (1000 : Int) < p.snd then (1000 : Int) else p.snd then (-1000 : Int) else if (1000 : Int) < p.snd then (1000 : Int) else p.snd)], []) := by kernel_rfl
theorem clip_if (x : Int) : (if (-1000 : Int) > if (1000 : Int) < x then (1000 : Int) else x then (-1000 : Int) else if (1000 : Int) < x then (1000 : Int) else x) = clipI x := by
  unfold clipI; repeat' split
  all_goals omega
theorem run_near (p : Pt) : runF Q hn0 noCall 0 N.plan_near [agP p] [] = some (agP (nearP p), []) := by
  rw [eNear, clip_if, clip_if]; rfl
theorem gNear_plan (a : List AV) (m : List Slot) (r : Bool × AV × List Slot) (h : gNear a m = some r) (hk : r.1 = true) : Sound Q N.plan_near a m r.2 := by
  unfold gNear at h
  split at h
  · simp only [Option.some.injEq] at h; subst h; exact sound_of_run noCall_ok (run_near (_, _))
  · simp at h
theorem gNear_ref (a : List AV) (m : List Slot) (r : Bool × AV × List Slot) (h : gNear a m = some r) (hk : r.1 = true) : Sound Q N.ref07_near a m r.2 := by
  unfold gNear at h
  split at h
  · simp only [Option.some.injEq] at h; subst h; exact sound_of_run tClip_ok (run_rnear (_, _))
  · simp at h
noncomputable def tNear : Callf := addT N.plan_near gNear noCall
theorem tNear_ok : CallOK Q tNear := addT_ok noCall_ok gNear_plan
theorem run_wide (p : Pt) : runF Q hn0 tNear 0 N.plan_wide [agP p] [] = some (.bool (wideB p), []) := by
  have e : runF Q hn0 tNear 0 N.plan_wide [agP p] [] = some (.bool (clipI p.1 == p.1 && (clipI p.2 == p.2 && true)), []) := by kernel_rfl
  refine e.trans ?_
  have e2 : (clipI p.1 == p.1 && (clipI p.2 == p.2 && true)) = wideB p := ?_
  · rw [e2]
  rw [Bool.eq_iff_iff]
  simp only [Bool.and_eq_true, decide_eq_true_eq, wideB, clipI, beq_iff_eq, and_true]
  omega
theorem gWide_ok (a : List AV) (m : List Slot) (r : Bool × AV × List Slot) (h : gWide a m = some r) (hk : r.1 = true) : Sound Q N.plan_wide a m r.2 := by
  unfold gWide at h
  split at h
  · simp only [Option.some.injEq] at h; subst h; exact sound_of_run tNear_ok (run_wide (_, _))
  · simp at h
theorem eSmall (p : Pt) (m : Int) (n : Nat) : runF Q hn0 (deepT Q hn0 0 noCall 2) n N.ref03_Small [agP p, .int .i64 m] [] =
  cond (decide (p.fst ≥ wr ((0 : Int) - m))) (cond (decide (p.fst ≤ m)) (cond (decide (p.snd ≥ wr ((0 : Int) - m))) (some (.bool (decide (p.snd ≤ m)), [])) (some (.bool false, []))) (some (.bool false, []))) (some (.bool false, [])) := by kernel_rfl
theorem run_small (p : Pt) (m : Int) (h : 0 ≤ m ∧ m ≤ 1000000) : runF Q hn0 (deepT Q hn0 0 noCall 2) 0 N.ref03_Small [agP p, .int .i64 m] [] = some (.bool (smallB p m), []) := by
  rw [eSmall]
  simp only [fold_and]
  congr 3
  rw [Bool.eq_iff_iff]
  have hw : wr ((0 : Int) - m) = -m := by unfold wr; rw [wrap64 (by omega) (by omega)]; omega
  rw [hw]
  simp only [Bool.and_eq_true, decide_eq_true_eq, smallB]
  try omega
theorem gSmall_ok (a : List AV) (m : List Slot) (r : Bool × AV × List Slot) (h : gSmall a m = some r) (hk : r.1 = true) : Sound Q N.ref03_Small a m r.2 := by
  unfold gSmall at h
  split at h
  · simp only [Option.some.injEq] at h; subst h; exact sound_of_run (deepT_ok noCall_ok 2) (run_small (_, _) _ (of_decide_eq_true hk))
  · simp at h
theorem small_wide (p : Pt) : smallB p 1000 = wideB p := by
  rw [Bool.eq_iff_iff]; simp only [decide_eq_true_eq, smallB, wideB]

/-! ### At, by both -/
theorem run_at1 (a : Ai) (p : Pt) : runF Q hn0 tIn 0 N.plan_At_1 [agA a, .ptr 0 0] [.obj (.box [.int .i64 p.1, .int .i64 p.2])] = some (.bool (hasB a p), [.obj (.box [.int .i64 p.1, .int .i64 p.2])]) := by kernel_rfl
theorem gAt1_ok (a : List AV) (m : List Slot) (r : Bool × AV × List Slot) (h : gAt1 a m = some r) (hk : r.1 = true) : Sound Q N.plan_At_1 a m r.2 := by
  unfold gAt1 at h
  split at h
  · simp only [Option.some.injEq] at h; subst h; exact sound_of_run tIn_ok (run_at1 (_, (_, _), (_, _)) (_, _))
  · simp at h
end Pl
end Go.Ab
