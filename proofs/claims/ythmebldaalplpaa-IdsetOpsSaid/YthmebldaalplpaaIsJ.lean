/- IdsetOps: the statement's function, off its own code. -/
import Derived.Test.YthmebldaalplpaaIsI
namespace Go.Ab.Is
open Go.Proofs
set_option linter.unusedVariables false

def t3 : Callf := addT 11 g11 (addT 12 gAbove (addT 13 gAbove (addT 14 g14 (addT 15 gOr (addT 16 gOrR (addT 17 gAnd (addT 18 gAnd (addT 19 gLess (addT 20 gLess (addT 21 gWithin noCall))))))))))
theorem t3_ok : CallOK Q t3 := addT_ok (addT_ok (addT_ok (addT_ok (addT_ok (addT_ok (addT_ok (addT_ok (addT_ok (addT_ok (addT_ok noCall_ok gWithin21) gLess20) gLess19) gAnd18) gAnd17) gOr16) gOr15) g14_ok) gAbove13) gAbove12) g11_ok

abbrev tt : Ans := some (.bool true, [])
abbrev ff : Ans := some (.bool false, [])
theorem e3 (a b : List Int) (x : Int) (n : Nat) : runF Q hn t3 n 3 [.ro tI a, .ro tI b, .int .i64 x] [] =
  cond (decide ((a.length : Int) > 60)) tt (cond (decide ((b.length : Int) > 60)) tt
  (cond (decide (a.length < big)) (cond (decide (a.length < big))
  (cond (two a b) (cond (decide (a.length + b.length < big)) (cond (decide ((refSet (a ++ b)).length < big)) (cond (decide (refSet (a ++ b) = refSet (a ++ b)))
  (cond (two a b) (cond (two a b) (cond (decide ((pickR a b true).length < big)) (cond (decide (pickR a b true = pickR a b true))
  (cond (two a b) (cond (two a b) (cond (decide ((pickR a b false).length < big)) (cond (decide (pickR a b false = pickR a b false))
  (cond (two a b) (cond (two a b) (cond ((((pickR a b false).length : Int) == 0) == (((pickR a b false).length : Int) == 0))
  (cond ((aboveS x (refSet a)).1 == (aboveS x (refSet a)).1) (cond ((aboveS x (refSet a)).2 == (aboveS x (refSet a)).2) tt ff) ff) ff) none) none)
  ff) none) none) none) ff) none) none) none) ff) none) none) none) none) none)) := by kernel_rfl

theorem pickR_len (a b : List Int) (is : Bool) : (pickR a b is).length ≤ a.length := Nat.le_trans (List.length_filter_le _ _) (refSet_len a)

theorem law3 (a b : List Int) (x : Int) : Sound Q 3 [.ro tI a, .ro tI b, .int .i64 x] [] (.bool true, []) := by
  refine sound_of_run (hn := hn) t3_ok (n := 0) ?_
  rw [e3]
  by_cases h : a.length > 60
  · rw [cond_dec (by omega)]
  · rw [cond_dec' (by omega)]
    by_cases h' : b.length > 60
    · rw [cond_dec (by omega)]
    · have ha : a.length < big := by unfold big; omega
      have hb : b.length < big := by unfold big; omega
      have hab : a.length + b.length < big := by unfold big; omega
      have h2 : two a b = true := by unfold two; simp [ha, hb]
      have l1 := refSet_len (a ++ b)
      have l2 := pickR_len a b true
      have l3 := pickR_len a b false
      rw [cond_dec' (by omega), cond_dec ha, cond_dec ha, h2, cond_true, cond_dec hab, cond_dec (p := (refSet (a ++ b)).length < big) (by simp at l1; omega), cond_dec rfl, cond_true, cond_true,
        cond_dec (p := (pickR a b true).length < big) (by omega), cond_dec rfl, cond_true, cond_true, cond_dec (p := (pickR a b false).length < big) (by omega), cond_dec rfl, cond_true, cond_true,
        beq_self_eq_true, cond_true, beq_self_eq_true, cond_true, beq_self_eq_true, cond_true]
end Go.Ab.Is
