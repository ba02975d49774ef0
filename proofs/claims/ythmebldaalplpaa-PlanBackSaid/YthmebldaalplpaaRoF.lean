/- Ways: a straight way has a point of an aisle just if the aisle meets the block between its ends; PlanRoutes. -/
import Derived.Test.YthmebldaalplpaaRoE
namespace Go.Ab
set_option linter.unusedVariables false
namespace Mo
open Pl
theorem seg_any (f : Pt → Bool) (s : Pt) : ∀ (n : Nat) (c : Pt), (c :: seg n s c).any f = true ↔ ∃ j : Nat, j ≤ n ∧ f (c.1 + j * s.1, c.2 + j * s.2) = true
  | 0, c => by
    rw [seg, List.any_cons, List.any_nil, Bool.or_false]
    constructor
    · intro h; exact ⟨0, Nat.le_refl _, by simpa using h⟩
    · rintro ⟨j, hj, h⟩
      have : j = 0 := by omega
      subst this; simpa using h
  | n + 1, c => by
    rw [seg, List.any_cons, Bool.or_eq_true, seg_any f s n (addP c s)]
    constructor
    · rintro (h | ⟨j, hj, h⟩)
      · exact ⟨0, by omega, by simpa using h⟩
      · refine ⟨j + 1, by omega, ?_⟩
        rw [show c.1 + ((j + 1 : Nat) : Int) * s.1 = c.1 + s.1 + j * s.1 by rw [Int.natCast_add, Int.add_mul]; simp; omega, show c.2 + ((j + 1 : Nat) : Int) * s.2 = c.2 + s.2 + j * s.2 by rw [Int.natCast_add, Int.add_mul]; simp; omega]
        exact h
    · rintro ⟨j, hj, h⟩
      cases j with
      | zero => left; simpa using h
      | succ j =>
        right
        refine ⟨j, by omega, ?_⟩
        rw [show c.1 + ((j + 1 : Nat) : Int) * s.1 = c.1 + s.1 + j * s.1 by rw [Int.natCast_add, Int.add_mul]; simp; omega, show c.2 + ((j + 1 : Nat) : Int) * s.2 = c.2 + s.2 + j * s.2 by rw [Int.natCast_add, Int.add_mul]; simp; omega] at h
        exact h

theorem line_any (a : Ai) (c d : Pt) (h : c.1 = d.1 ∨ c.2 = d.2) : (c :: lineL c d).any (hasB a) = meetB a (blockA c d) := by
  obtain ⟨i, ⟨l1, l2⟩, g1, g2⟩ := a
  obtain ⟨c1, c2⟩ := c
  obtain ⟨d1, d2⟩ := d
  dsimp only at h
  rw [Bool.eq_iff_iff]
  unfold lineL
  rw [seg_any]
  unfold meetB
  rw [decide_eq_true_iff]
  simp only [hasB, blockA, decide_eq_true_eq]
  rcases h with rfl | rfl
  · rw [show c1 - c1 = 0 by omega, show sgnI 0 = 0 from rfl]
    simp only [Int.mul_zero, Int.add_zero]
    constructor
    · rintro ⟨j, hj, h1, h2, h3, h4⟩
      unfold sgnI at h3 h4
      split at h3
      · rename_i hp; rw [if_pos hp] at h4; omega
      · rename_i hp
        rw [if_neg hp] at h4
        split at h3
        · rename_i hq; rw [if_pos hq] at h4; omega
        · rename_i hq; rw [if_neg hq] at h4; omega
    · rintro ⟨h1, h2⟩
      refine ⟨(max l2 (min c2 d2) - c2).natAbs, by omega, by omega, by omega, ?_⟩
      unfold sgnI
      by_cases hp : d2 - c2 > 0
      · rw [if_pos hp]; omega
      · rw [if_neg hp]
        by_cases hq : d2 - c2 < 0
        · rw [if_pos hq]; omega
        · rw [if_neg hq]; omega
  · rw [show c2 - c2 = 0 by omega, show sgnI 0 = 0 from rfl]
    simp only [Int.mul_zero, Int.add_zero]
    constructor
    · rintro ⟨j, hj, h1, h2, h3, h4⟩
      unfold sgnI at h1 h2
      split at h1
      · rename_i hp; rw [if_pos hp] at h2; omega
      · rename_i hp
        rw [if_neg hp] at h2
        split at h1
        · rename_i hq; rw [if_pos hq] at h2; omega
        · rename_i hq; rw [if_neg hq] at h2; omega
    · rintro ⟨h1, h2⟩
      refine ⟨(max l1 (min c1 d1) - c1).natAbs, by omega, ?_⟩
      unfold sgnI
      by_cases hp : d1 - c1 > 0
      · rw [if_pos hp]; omega
      · rw [if_neg hp]
        by_cases hq : d1 - c1 < 0
        · rw [if_pos hq]; omega
        · rw [if_neg hq]; omega

theorem corner_line (how : Int) (a b : Pt) : (a.1 = (cornP how a b).1 ∨ a.2 = (cornP how a b).2) ∧ ((cornP how a b).1 = b.1 ∨ (cornP how a b).2 = b.2) := by
  unfold cornP cornerX cornerY
  cases how == 1 <;> simp

theorem line_len (c d : Pt) : (lineL c d).length = (d.1 - c.1).natAbs + (d.2 - c.2).natAbs := by unfold lineL; rw [seg_len]
theorem route_len (p q : Pt) (how : Int) : (routeL p q how).length < 100000 := by
  obtain ⟨⟨a1, a2⟩, a3, a4⟩ := near_bd p
  obtain ⟨⟨b1, b2⟩, b3, b4⟩ := near_bd q
  unfold routeL
  rw [List.length_cons, List.length_append, line_len, line_len]
  unfold cornP cornerX cornerY
  cases how == 1 <;> simp only [cond_true, cond_false] <;> omega

/-- The document's test and the program's. -/
theorem route_any (a : Ai) (p q : Pt) (how : Int) : (routeL p q how).any (hasB a) = onLegs p q how a := by
  unfold routeL onLegs
  obtain ⟨h1, h2⟩ := corner_line how (nearP p) (nearP q)
  show _ = (meetB a (blockA (nearP p) (cornP how (nearP p) (nearP q))) || meetB a (blockA (cornP how (nearP p) (nearP q)) (nearP q)))
  rw [← line_any a _ _ h1, ← line_any a _ _ h2]
  generalize nearP p = x at *
  generalize nearP q = z at *
  generalize cornP how x z = c at *
  obtain ⟨l', e1, _⟩ := seg_last ((c.1 - x.1).natAbs + (c.2 - x.2).natAbs) (sgnI (c.1 - x.1), sgnI (c.2 - x.2)) x []
  rw [List.nil_append, endP_line x c h1] at e1
  have hc : hasB a c = true → (x :: lineL x c).any (hasB a) = true := fun h => by
    show List.any (x :: seg _ _ x) (hasB a) = true
    rw [e1, List.any_append, List.any_cons, h]; simp
  rw [show x :: (lineL x c ++ lineL c z) = (x :: lineL x c) ++ lineL c z from rfl, List.any_append, List.any_cons (a := c)]
  cases hx : hasB a c
  · rw [Bool.false_or]
  · rw [hc hx]; rfl

theorem run_rc (l : List Ai) (p q : Pt) (how : Int) (hl : l.length < 1000000) : runF Q hn1 tRC (l.length + 100001) N.ref07_Cross [.ro tA l, agP p, agP q, .int .i64 how] [] = some (.tail 0 0, [.obj (.rows tI (crossL l p q how))]) := by
  rw [eRC]
  have hw := route_len p q how
  have := rc_loop l (routeL p q how) (l.length + 100001) hl hw (by omega) (l.length + 100001) 0 [] (by omega) (by omega) (by simp)
  rw [show ((0 : Nat) : Int) = 0 from rfl, List.drop_zero] at this
  rw [this]
  have e : (fun a => (routeL p q how).any (hasB a)) = onLegs p q how := funext fun a => route_any a p q how
  rw [e]
  rfl
theorem gCross_ref (a : List AV) (m : List Slot) (r : Bool × AV × List Slot) (h : gCross a m = some r) (hk : r.1 = true) : Sound Q N.ref07_Cross a m r.2 := by
  unfold gCross at h
  split at h
  · simp only [Option.some.injEq] at h; subst h; exact Sound.ro (sound_of_run tRC_ok (run_rc _ (_, _) (_, _) _ (of_decide_eq_true hk)))
  · simp at h

/-! ### Points -/
def eqPt (x y : Pt) : Bool := x.1 == y.1 && (x.2 == y.2 && true)
theorem eqPt_iff (x y : Pt) : eqPt x y = decide (x = y) := by
  obtain ⟨a, b⟩ := x
  obtain ⟨c, d⟩ := y
  rw [Bool.eq_iff_iff]
  simp [eqPt]
abbrev SPointsa (p q : List Pt) (i1 : Int) : St := ⟨.ro tP p :: .ro tP q :: J :: J :: J :: .int .i64 i1 :: js 20, []⟩
noncomputable abbrev LPointsa (n z : Nat) (s : St) : Ans := loopF Q hn0 noCall n N.ref05_Points 0 [1, 1, 0, 1, 0] [] z s
theorem ePoints (p q : List Pt) (n : Nat) : runF Q hn0 noCall n N.ref05_Points [.ro tP p, .ro tP q] [] =
  cond ((p.length : Int) != (q.length : Int)) (some (.bool false, [])) (LPointsa n n (SPointsa p q 0)) := by kernel_rfl
theorem rPointsa (p q : List Pt) (i1 : Int) (n m : Nat) : LPointsa n (m + 1) (SPointsa p q i1) =
  cond (decide (i1 < (p.length : Int))) (cond (decide ((0 : Int) ≤ i1) && decide (i1 < (p.length : Int))) (cond (decide ((0 : Int) ≤ i1) && decide (i1 < (q.length : Int))) (cond (!eqPt (p.getD i1.toNat Dp) (q.getD i1.toNat Dp)) (some (.bool false, [])) (LPointsa n m (SPointsa p q (wr (i1 + (1 : Int)))))) none) none) (some (.bool true, [])) := by kernel_rfl
theorem run_points (l k : List Pt) (hl : l.length < 1000000) : runF Q hn0 noCall (l.length + 1) N.ref05_Points [.ro tP l, .ro tP k] [] = some (.bool (decide (l = k)), []) := by
  rw [ePoints]
  by_cases h : k.length = l.length
  · have e1 : ((l.length : Int) != (k.length : Int)) = false := by simp [h]
    rw [e1, cond_false]
    have := same_loop (F := fun m i => LPointsa (l.length + 1) m (SPointsa l k i)) l k Dp eqPt eqPt_iff hl h (fun m i => rPointsa l k i _ m) (l.length + 1) 0 (by omega)
    rw [List.drop_zero, List.drop_zero] at this
    exact this
  · have e1 : ((l.length : Int) != (k.length : Int)) = true := by simp; omega
    have h3 : decide (l = k) = false := decide_eq_false fun e => h (by rw [e])
    rw [e1, cond_true, h3]
def gPoints : G
  | [.ro (.pair (.int .i64) (.int .i64)) l, .ro (.pair (.int .i64) (.int .i64)) k], [] => some (decide (l.length < 1000000), .bool (decide (l = k)), [])
  | _, _ => none
theorem gPoints_ok (a : List AV) (m : List Slot) (r : Bool × AV × List Slot) (h : gPoints a m = some r) (hk : r.1 = true) : Sound Q N.ref05_Points a m r.2 := by
  unfold gPoints at h
  split at h
  · simp only [Option.some.injEq] at h; subst h; exact sound_of_run noCall_ok (run_points _ _ (of_decide_eq_true hk))
  · simp at h

/-! ### PlanRoutes -/
noncomputable def tPR : Callf := addT N.plan_Route gRoute (addT N.ref07_Route gRoute (addT N.plan_Cross gCross (addT N.ref07_Cross gCross (addT N.ref05_Points gPoints (addT N.ref01_Ints Is.g14 (addT N.law07_alive gAlive noCall))))))
theorem tPR_ok : CallOK Q tPR := addT_ok (addT_ok (addT_ok (addT_ok (addT_ok (addT_ok (addT_ok noCall_ok gAlive_ok) Is.g14_ok) gPoints_ok) gCross_ref) gCross_plan) gRoute_ref) gRoute_plan
theorem ePR (l : List Ai) (p q : Pt) (how : Int) (n : Nat) : runF Q hn0 tPR n N.law07_PlanRoutes [.ro tA l, agP p, agP q, .int .i64 how] [] =
  cond (decide ((l.length : Int) > 40)) tt (cond (decide ((routeL p q how).length < 1000000)) (cond (decide (routeL p q how = routeL p q how)) (cond (decide (l.length < 1000000)) (cond (decide (l.length < 1000000)) (cond (decide ((crossL l p q how).length < Is.big)) (cond (decide (crossL l p q how = crossL l p q how)) tt ff) none) none) none) ff) none) := by kernel_rfl
theorem lawRoutes (l : List Ai) (p q : Pt) (how : Int) : Sound Q N.law07_PlanRoutes [.ro tA l, agP p, agP q, .int .i64 how] [] (.bool true, []) := by
  refine sound_of_run (hn := hn0) tPR_ok (n := 0) ?_
  rw [ePR]
  by_cases h : l.length > 40
  · rw [cond_dec (by omega)]
  · have h1 := route_len p q how
    have h2 : (crossL l p q how).length < Is.big := by
      unfold crossL
      have := refSet_len ((l.filter (onLegs p q how)).map (·.1))
      have h3 := List.length_filter_le (onLegs p q how) l
      rw [List.length_map] at this
      unfold Is.big
      omega
    rw [cond_dec' (by omega), cond_dec (by omega), cond_dec rfl, cond_dec (p := l.length < 1000000) (by omega), cond_dec (p := l.length < 1000000) (by omega), cond_dec h2, cond_dec rfl]
end Mo
end Go.Ab
