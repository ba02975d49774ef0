/- Plans: whether aisles are a plan, as the document's answer computes it, off its code. -/
import Derived.Test.YthmebldaalplpaaPlC
namespace Go.Ab
set_option linter.unusedVariables false
namespace Pl
noncomputable def tRRight : Callf := addT N.ref03_Small gSmall (addT N.ref07_Meet gMeet noCall)
theorem tRRight_ok : CallOK Q tRRight := addT_ok (addT_ok noCall_ok gMeet_ref) gSmall_ok
abbrev SRRighta (l : List Ai) (i1 : Int) : St := ⟨.ro tA l :: J :: J :: .int .i64 (i1) :: js 79, []⟩
noncomputable abbrev LRRighta (n z : Nat) (s : St) : Ans := loopF Q hn0 tRRight n N.ref07_Right 0 [1, 1, 0, 1, 0] [] z s
abbrev SRRightb (l : List Ai) (i2 : Int) (a : Ai) (i8 : Int) : St := ⟨.ro tA l :: J :: J :: .int .i64 (i2) :: .ptr 0 0 :: .int .i64 (i8) :: js 77, [bxA a]⟩
noncomputable abbrev LRRightb (n m z : Nat) (s : St) : Ans := loopF Q hn0 tRRight n N.ref07_Right 0 [1, 1, 0, 1, 0, 0, 1, 0, 0, 1, 1, 1, 0] [m] z s
theorem eRRight (l : List Ai) (n : Nat) : runF Q hn0 tRRight n N.ref07_Right [.ro tA l] [] =
  cond (decide ((l.length : Int) > (32 : Int))) (some (.bool false, [])) (LRRighta n n (SRRighta l (0 : Int))) := by kernel_rfl
theorem rRRighta (l : List Ai) (i1 : Int) (n m : Nat) : LRRighta n (m + 1) (SRRighta l i1) =
  cond (decide (i1 < (l.length : Int))) (cond (decide ((0 : Int) ≤ i1) && decide (i1 < (l.length : Int))) (cond (decide ((l.getD i1.toNat tA.dflt).1 < (1 : Int))) (some (.bool false, [])) (cond (decide ((l.getD i1.toNat tA.dflt).1 > (999 : Int))) (some (.bool false, [])) (cond (decide (i1 > (0 : Int))) (cond (decide ((0 : Int) ≤ wr (i1 - (1 : Int))) && decide (wr (i1 - (1 : Int)) < (l.length : Int))) (cond (decide ((l.getD i1.toNat tA.dflt).1 ≤ (l.getD (wr (i1 - (1 : Int))).toNat tA.dflt).1)) (some (.bool false, [])) (cond (!smallB (l.getD i1.toNat tA.dflt).2.1 (1000 : Int)) (some (.bool false, [])) (cond (!smallB (l.getD i1.toNat tA.dflt).2.2 (1000 : Int)) (some (.bool false, [])) (cond (decide ((l.getD i1.toNat tA.dflt).2.1.1 > (l.getD i1.toNat tA.dflt).2.2.1)) (some (.bool false, [])) (cond (decide ((l.getD i1.toNat tA.dflt).2.1.2 > (l.getD i1.toNat tA.dflt).2.2.2)) (some (.bool false, [])) (LRRightb n m n (SRRightb l i1 (l.getD i1.toNat tA.dflt) (0 : Int)))))))) none) (cond (!smallB (l.getD i1.toNat tA.dflt).2.1 (1000 : Int)) (some (.bool false, [])) (cond (!smallB (l.getD i1.toNat tA.dflt).2.2 (1000 : Int)) (some (.bool false, [])) (cond (decide ((l.getD i1.toNat tA.dflt).2.1.1 > (l.getD i1.toNat tA.dflt).2.2.1)) (some (.bool false, [])) (cond (decide ((l.getD i1.toNat tA.dflt).2.1.2 > (l.getD i1.toNat tA.dflt).2.2.2)) (some (.bool false, [])) (LRRightb n m n (SRRightb l i1 (l.getD i1.toNat tA.dflt) (0 : Int)))))))))) none) (some (.bool true, [])) := by kernel_rfl
theorem rRRightb (l : List Ai) (i2 : Int) (a : Ai) (i8 : Int) (n m m1 : Nat) : LRRightb n m (m1 + 1) (SRRightb l i2 a i8) =
  cond (decide (i8 < i2)) (cond (decide ((0 : Int) ≤ i8) && decide (i8 < (l.length : Int))) (cond (meetB (l.getD i8.toNat tA.dflt) a) (some (.bool false, [])) (LRRightb n m m1 (SRRightb l i2 a (wr (i8 + (1 : Int)))))) none) (LRRighta n m (SRRighta l (wr (i2 + (1 : Int))))) := by kernel_rfl

theorem meet_comm (a b : Ai) : meetB a b = meetB b a := by
  unfold meetB
  rw [Bool.eq_iff_iff]; simp only [decide_eq_true_eq]; omega

theorem rright_in (l : List Ai) (a : Ai) (n m : Nat) (hl : l.length < big) (i : Nat) (hi : i ≤ l.length) : ∀ (m1 k : Nat), k ≤ i → i - k < m1 →
    LRRightb n m m1 (SRRightb l i a k) = cond (((l.take i).drop k).any (meetB a)) (some (.bool false, [])) (LRRighta n m (SRRighta l ((i + 1 : Nat) : Int))) := by
  intro m1
  induction m1 with
  | zero => intro k h h'; omega
  | succ m1 ih =>
    intro k hk hm
    unfold big at hl
    rw [rRRightb, dec_lt, dec_lt, dec_nn, Bool.true_and]
    by_cases h : k < i
    · have h2 : k < (l.take i).length := by simp; omega
      rw [cond_dec h, cond_dec (p := k < l.length) (by omega), Int.toNat_natCast, wrN (by omega), ih (k + 1) (by omega) (by omega), getD_drop (d := tA.dflt) h2, List.any_cons, meet_comm]
      have e : (l.take i).getD k tA.dflt = l.getD k tA.dflt := by simp [List.getD, h]
      rw [e]
      cases meetB a (l.getD k tA.dflt) <;> simp only [Bool.true_or, Bool.false_or, cond_true, cond_false]
    · rw [cond_dec' h, wrN (by omega), List.drop_eq_nil_of_le (by simp; omega), List.any_nil, cond_false]

def lastOf (l : List Ai) (i : Nat) : Int := if i = 0 then 0 else (l.getD (i - 1) tA.dflt).1

theorem rright_loop (l : List Ai) (n : Nat) (hl : l.length < big) (hn : l.length < n) : ∀ (m i : Nat), i ≤ l.length → l.length - i < m → 0 ≤ lastOf l i → LRRighta n m (SRRighta l i) = some (.bool (okFrom (l.take i) (lastOf l i) (l.drop i)), []) := by
  intro m
  induction m with
  | zero => intro i h h'; omega
  | succ m ih =>
    intro i hi' hm h0
    rw [rRRighta]
    by_cases hi : i < l.length
    · have hin := rright_in l (l.getD i tA.dflt) n m hl i hi' n 0 (by omega) (by omega)
      rw [show ((0 : Nat) : Int) = 0 from rfl, List.drop_zero] at hin
      rw [dec_lt, dec_nn, Bool.true_and, cond_dec hi, cond_dec hi, Int.toNat_natCast, hin, getD_drop (d := tA.dflt) hi, okFrom]
      have e5 : List.take i l ++ [l.getD i tA.dflt] = List.take (i + 1) l := by rw [List.take_succ_eq_append_getElem hi, ← getD_lt (d := tA.dflt) hi]
      rw [e5]
      have e6 : lastOf l (i + 1) = (l.getD i tA.dflt).1 := by simp [lastOf]
      have key : ∀ rest : Ans, (cond (decide ((l.getD i tA.dflt).1 ≤ lastOf l i)) (some (.bool false, [])) rest) =
          cond (decide ((i : Int) > (0 : Int))) (cond (decide ((0 : Int) ≤ wr ((i : Int) - (1 : Int))) && decide (wr ((i : Int) - (1 : Int)) < (l.length : Int))) (cond (decide ((l.getD i tA.dflt).1 ≤ (l.getD (wr ((i : Int) - (1 : Int))).toNat tA.dflt).1)) (some (.bool false, [])) rest) none) rest ∨ (l.getD i tA.dflt).1 < 1 := fun rest => by
        by_cases c0 : (l.getD i tA.dflt).1 < 1
        · exact .inr c0
        left
        cases i with
        | zero => rw [cond_dec' (p := ((0 : Nat) : Int) > 0) (by omega), cond_dec' (by simp [lastOf] at *; omega)]
        | succ i =>
          rw [cond_dec (p := ((i + 1 : Nat) : Int) > 0) (by omega), wrP (by unfold big at hl; omega), dec_nn, dec_lt, Bool.true_and, cond_dec (p := i < l.length) (by omega), Int.toNat_natCast]
          simp [lastOf]
      generalize hX : cond (!smallB (l.getD i tA.dflt).2.1 (1000 : Int)) (some (AV.bool false, ([] : List Slot))) (cond (!smallB (l.getD i tA.dflt).2.2 (1000 : Int)) (some (.bool false, [])) (cond (decide ((l.getD i tA.dflt).2.1.1 > (l.getD i tA.dflt).2.2.1)) (some (.bool false, [])) (cond (decide ((l.getD i tA.dflt).2.1.2 > (l.getD i tA.dflt).2.2.2)) (some (.bool false, [])) (cond ((l.take i).any (meetB (l.getD i tA.dflt))) (some (.bool false, [])) (LRRighta n m (SRRighta l ((i + 1 : Nat) : Int))))))) = X
      by_cases c1 : (l.getD i tA.dflt).1 < 1
      · rw [cond_dec c1]
        have : okA (List.take i l) (lastOf l i) (l.getD i tA.dflt) = false := by
          unfold okA; rw [decide_eq_false (by omega)]; rfl
        rw [this]; rfl
      · rw [cond_dec' c1]
        by_cases c2 : (l.getD i tA.dflt).1 > 999
        · rw [cond_dec c2]
          have : okA (List.take i l) (lastOf l i) (l.getD i tA.dflt) = false := by
            unfold okA; rw [decide_eq_false (by omega)]; rfl
          rw [this]; rfl
        · rw [cond_dec' c2]
          have hk := (key X).resolve_right c1
          rw [← hk]
          by_cases c3 : (l.getD i tA.dflt).1 ≤ lastOf l i
          · rw [cond_dec c3]
            have : okA (List.take i l) (lastOf l i) (l.getD i tA.dflt) = false := by
              unfold okA; rw [decide_eq_false (by omega)]; rfl
            rw [this]; rfl
          · rw [cond_dec' c3, ← hX, ih (i + 1) (by omega) (by omega) (by rw [e6]; omega), e6, small_wide, small_wide]
            have e7 : okA (List.take i l) (lastOf l i) (l.getD i tA.dflt) = (wideB (l.getD i tA.dflt).2.1 && (wideB (l.getD i tA.dflt).2.2 && (decide ((l.getD i tA.dflt).2.1.1 ≤ (l.getD i tA.dflt).2.2.1 ∧ (l.getD i tA.dflt).2.1.2 ≤ (l.getD i tA.dflt).2.2.2) && !((List.take i l).any (meetB (l.getD i tA.dflt)))))) := by
              unfold okA; rw [decide_eq_true (by omega)]; rfl
            rw [e7]
            generalize l.getD i tA.dflt = a
            by_cases d1 : a.2.1.1 > a.2.2.1
            · rw [cond_dec d1, decide_eq_false (p := a.2.1.1 ≤ a.2.2.1 ∧ a.2.1.2 ≤ a.2.2.2) (by omega)]
              cases wideB a.2.1 <;> cases wideB a.2.2 <;> rfl
            · rw [cond_dec' d1]
              by_cases d2 : a.2.1.2 > a.2.2.2
              · rw [cond_dec d2, decide_eq_false (p := a.2.1.1 ≤ a.2.2.1 ∧ a.2.1.2 ≤ a.2.2.2) (by omega)]
                cases wideB a.2.1 <;> cases wideB a.2.2 <;> rfl
              · rw [cond_dec' d2, decide_eq_true (p := a.2.1.1 ≤ a.2.2.1 ∧ a.2.1.2 ≤ a.2.2.2) (by omega)]
                cases wideB a.2.1 <;> cases wideB a.2.2 <;> cases (List.take i l).any (meetB a) <;> rfl
    · rw [dec_lt, cond_dec' hi, List.drop_eq_nil_of_le (by omega)]; rfl

theorem run_rright (l : List Ai) : runF Q hn0 tRRight (l.length + 1) N.ref07_Right [.ro tA l] [] = some (.bool (rightB l), []) := by
  rw [eRRight]
  by_cases hl : l.length < big
  case neg =>
    have h : ¬ l.length ≤ 32 := by unfold big at hl; omega
    rw [cond_dec (by omega)]
    unfold rightB
    simp [h]
  have := rright_loop l (l.length + 1) hl (by omega) (l.length + 1) 0 (by omega) (by omega) (by simp [lastOf])
  rw [show ((0 : Nat) : Int) = 0 by rfl] at this
  rw [this]
  unfold rightB
  by_cases h : l.length ≤ 32
  · rw [cond_dec' (by omega)]; simp [h, lastOf]
  · rw [cond_dec (by omega)]; simp [h]
theorem gRight_ref (a : List AV) (m : List Slot) (r : Bool × AV × List Slot) (h : gRight a m = some r) (hk : r.1 = true) : Sound Q N.ref07_Right a m r.2 := by
  unfold gRight at h
  split at h
  · simp only [Option.some.injEq] at h; subst h; exact sound_of_run tRRight_ok (run_rright _)
  · simp at h
end Pl
end Go.Ab
