/- Plans: whether aisles are a plan: what both functions compute, off their code. -/
import Derived.Test.YthmebldaalplpaaPlB
namespace Go.Ab
set_option linter.unusedVariables false
namespace Pl
/-- Are aisles right behind others, of which the last one's ID is 'last'? -/
def okA (prev : List Ai) (last : Int) (a : Ai) : Bool := decide (last < a.1 ∧ a.1 ≤ 999) && (wideB a.2.1 && (wideB a.2.2 && (decide (a.2.1.1 ≤ a.2.2.1 ∧ a.2.1.2 ≤ a.2.2.2) && !(prev.any (meetB a)))))
def okFrom : List Ai → Int → List Ai → Bool
  | _, _, [] => true
  | prev, last, a :: t => okA prev last a && okFrom (prev ++ [a]) a.1 t
/-- Are aisles a plan? -/
def rightB (l : List Ai) : Bool := decide (l.length ≤ 32) && okFrom [] 0 l

theorem run_right1 (a b : Ai) : runF Q hn0 (addT N.plan_Meet gMeet noCall) 0 N.plan_Right_1 [agA b, .ptr 0 0] [bxA a] = some (.bool (meetB a b), [bxA a]) := by kernel_rfl
def gRight1 : G
  | [.agg [.int .i64 a, .int .i64 b, .int .i64 c, .int .i64 d, .int .i64 e], .ptr 0 0], [.obj (.box [.int .i64 a', .int .i64 b', .int .i64 c', .int .i64 d', .int .i64 e'])] => some (true, .bool (meetB (a', (b', c'), (d', e')) (a, (b, c), (d, e))), [.obj (.box [.int .i64 a', .int .i64 b', .int .i64 c', .int .i64 d', .int .i64 e'])])
  | _, _ => none
theorem gRight1_ok (a : List AV) (m : List Slot) (r : Bool × AV × List Slot) (h : gRight1 a m = some r) (hk : r.1 = true) : Sound Q N.plan_Right_1 a m r.2 := by
  unfold gRight1 at h
  split at h
  · simp only [Option.some.injEq] at h; subst h; exact sound_of_run (addT_ok noCall_ok gMeet_plan) (run_right1 (_, (_, _), (_, _)) (_, (_, _), (_, _)))
  · simp at h
noncomputable def tRight1 : Callf := addT N.plan_Right_1 gRight1 noCall
theorem tRight1_ok : CallOK Q tRight1 := addT_ok noCall_ok gRight1_ok
abbrev SIdxRa (l : List Ai) (a : Ai) (i1 : Int) : St := ⟨.ro tA l :: .fn (Fn.func N.plan_Right_1) [] [.ptr 0 0] :: J :: J :: J :: J :: J :: .int .i64 (l.length : Int) :: .int .i64 i1 :: js 10, [bxA a]⟩
noncomputable abbrev LIdxRa (n z : Nat) (s : St) : Ans := loopF Q hn0 tRight1 n N.slices_IndexFunc_api_Aisle 1 [1, 0, 1, 0] [] z s
theorem eIdxR (l : List Ai) (a : Ai) (n : Nat) : runF Q hn0 tRight1 n N.slices_IndexFunc_api_Aisle [.ro tA l, .fn (Fn.func N.plan_Right_1) [] [.ptr 0 0]] [bxA a] = LIdxRa n n (SIdxRa l a 0) := by kernel_rfl
theorem rIdxRa (l : List Ai) (a : Ai) (i1 : Int) (n m : Nat) : LIdxRa n (m + 1) (SIdxRa l a i1) =
  cond (decide (i1 < (l.length : Int))) (cond (decide ((0 : Int) ≤ i1) && decide (i1 < (l.length : Int))) (cond (meetB a (l.getD i1.toNat tA.dflt)) (some (.int .i64 i1, [bxA a])) (LIdxRa n m (SIdxRa l a (wr (i1 + 1))))) none) (some (.int .i64 (-1), [bxA a])) := by kernel_rfl
theorem run_idxR (l : List Ai) (a : Ai) (hl : l.length < big) : runF Q hn0 tRight1 (l.length + 1) N.slices_IndexFunc_api_Aisle [.ro tA l, .fn (Fn.func N.plan_Right_1) [] [.ptr 0 0]] [bxA a] = some (.int .i64 (idxF (meetB a) l 0), [bxA a]) := by
  rw [eIdxR]
  exact idx_loop (F := fun m i => LIdxRa (l.length + 1) m (SIdxRa l a i)) l tA.dflt (meetB a) (fun i => some (.int .i64 i, [bxA a])) none hl (fun m i => rIdxRa l a i _ m) (l.length + 1) 0 (by omega)
def gIdxR : G
  | [.ro (.pair (.int .i64) (.pair (.pair (.int .i64) (.int .i64)) (.pair (.int .i64) (.int .i64)))) l, .fn (.func f) [] [.ptr 0 0]], [.obj (.box [.int .i64 a', .int .i64 b', .int .i64 c', .int .i64 d', .int .i64 e'])] =>
    cond (Nat.beq f N.plan_Right_1) (some (decide (l.length < big), .int .i64 (idxF (meetB (a', (b', c'), (d', e'))) l 0), [.obj (.box [.int .i64 a', .int .i64 b', .int .i64 c', .int .i64 d', .int .i64 e'])])) none
  | _, _ => none
theorem gIdxR_ok (a : List AV) (m : List Slot) (r : Bool × AV × List Slot) (h : gIdxR a m = some r) (hk : r.1 = true) : Sound Q N.slices_IndexFunc_api_Aisle a m r.2 := by
  unfold gIdxR at h
  split at h
  · obtain ⟨hf, rfl⟩ := ok_cond h
    obtain rfl := Nat.eq_of_beq_eq_true hf
    exact sound_of_run tRight1_ok (run_idxR _ (_, (_, _), (_, _)) (of_decide_eq_true hk))
  · simp at h
noncomputable def tIdxR : Callf := addT N.slices_IndexFunc_api_Aisle gIdxR noCall
theorem tIdxR_ok : CallOK Q tIdxR := addT_ok noCall_ok gIdxR_ok
theorem eContR (l : List Ai) (a : Ai) (n : Nat) : runF Q hn0 tIdxR n N.slices_ContainsFunc_api_Aisle [.ro tA l, .fn (Fn.func N.plan_Right_1) [] [.ptr 0 0]] [bxA a] =
  cond (decide (l.length < big)) (some (.bool (decide (idxF (meetB a) l 0 ≥ 0)), [bxA a])) none := by kernel_rfl
def gContR : G
  | [.ro (.pair (.int .i64) (.pair (.pair (.int .i64) (.int .i64)) (.pair (.int .i64) (.int .i64)))) l, .fn (.func f) [] [.ptr 0 0]], [.obj (.box [.int .i64 a', .int .i64 b', .int .i64 c', .int .i64 d', .int .i64 e'])] =>
    cond (Nat.beq f N.plan_Right_1) (some (decide (l.length < big), .bool (l.any (meetB (a', (b', c'), (d', e')))), [.obj (.box [.int .i64 a', .int .i64 b', .int .i64 c', .int .i64 d', .int .i64 e'])])) none
  | _, _ => none
theorem gContR_ok (a : List AV) (m : List Slot) (r : Bool × AV × List Slot) (h : gContR a m = some r) (hk : r.1 = true) : Sound Q N.slices_ContainsFunc_api_Aisle a m r.2 := by
  unfold gContR at h
  split at h
  · obtain ⟨hf, rfl⟩ := ok_cond h
    obtain rfl := Nat.eq_of_beq_eq_true hf
    refine sound_of_run (hn := hn0) tIdxR_ok (n := 0) ?_
    rename_i l a b c d e
    have := eContR l (a, (b, c), (d, e)) 0
    rw [cond_dec (of_decide_eq_true hk), idxF_any _ _ _ (by omega)] at this
    exact this
  · simp at h
noncomputable def tRight : Callf := addT N.plan_wide gWide (addT N.plan_inside gHas (addT N.slices_ContainsFunc_api_Aisle gContR noCall))
theorem tRight_ok : CallOK Q tRight := addT_ok (addT_ok (addT_ok noCall_ok gContR_ok) gHas_inside) gWide_ok

abbrev SRighta0 (l : List Ai) (i1 : Int) (i2 : Int) : St := ⟨.ro tA l :: J :: J :: .int .i64 i1 :: .int .i64 i2 :: js 49, []⟩
noncomputable abbrev LRighta0 (n z : Nat) (s : St) : Ans := labelF Q hn0 tRight n N.plan_Right 0 [1] [] 0 z s
theorem eRight (l : List Ai) (n : Nat) : runF Q hn0 tRight n N.plan_Right [.ro tA l] [] =
  cond (decide ((l.length : Int) > (32 : Int))) (some (.bool false, [])) (cond ((0 : Int) == (l.length : Int)) (some (.bool true, [])) (cond (decide ((0 : Int) ≤ (0 : Int)) && decide ((0 : Int) < (l.length : Int))) (cond (decide ((l.getD (Int.toNat (0 : Int)) tA.dflt).1 ≤ (0 : Int))) (some (.bool false, [])) (cond (decide ((l.getD (Int.toNat (0 : Int)) tA.dflt).1 > (999 : Int))) (some (.bool false, [])) (cond (!wideB (l.getD (Int.toNat (0 : Int)) tA.dflt).2.1) (some (.bool false, [])) (cond (!wideB (l.getD (Int.toNat (0 : Int)) tA.dflt).2.2) (some (.bool false, [])) (cond (!hasB (l.getD (Int.toNat (0 : Int)) tA.dflt) (l.getD (Int.toNat (0 : Int)) tA.dflt).2.1) (some (.bool false, [])) (LRighta0 n n (SRighta0 l (l.getD (Int.toNat (0 : Int)) tA.dflt).1 (wr ((0 : Int) + (1 : Int)))))))))) none)) := by kernel_rfl
theorem rRighta0 (l : List Ai) (i1 : Int) (i2 : Int) (n m : Nat) : LRighta0 n (m + 1) (SRighta0 l i1 i2) =
  cond (i2 == (l.length : Int)) (some (.bool true, [])) (cond (decide ((0 : Int) ≤ i2) && decide (i2 < (l.length : Int))) (cond (decide ((l.getD i2.toNat tA.dflt).1 ≤ i1)) (some (.bool false, [])) (cond (decide ((l.getD i2.toNat tA.dflt).1 > (999 : Int))) (some (.bool false, [])) (cond (!wideB (l.getD i2.toNat tA.dflt).2.1) (some (.bool false, [])) (cond (!wideB (l.getD i2.toNat tA.dflt).2.2) (some (.bool false, [])) (cond (!hasB (l.getD i2.toNat tA.dflt) (l.getD i2.toNat tA.dflt).2.1) (some (.bool false, [])) (cond (decide ((0 : Int) ≤ (0 : Int)) && (decide ((0 : Int) ≤ i2) && decide (i2 ≤ (l.length : Int)))) (cond (decide ((List.drop (Int.toNat (0 : Int)) (List.take i2.toNat l)).length < big)) (cond ((List.drop (Int.toNat (0 : Int)) (List.take i2.toNat l)).any (meetB (l.getD i2.toNat tA.dflt))) (some (.bool false, [])) (LRighta0 n m (SRighta0 l (l.getD i2.toNat tA.dflt).1 (wr (i2 + (1 : Int)))))) none) none)))))) none) := by kernel_rfl

theorem has_low (a : Ai) : hasB a a.2.1 = decide (a.2.1.1 ≤ a.2.2.1 ∧ a.2.1.2 ≤ a.2.2.2) := by
  rw [Bool.eq_iff_iff]; simp only [hasB, decide_eq_true_eq]; omega

theorem right_loop (l : List Ai) (n : Nat) (hl : l.length < big) : ∀ (m i : Nat) (last : Int), i ≤ l.length → l.length - i < m → LRighta0 n m (SRighta0 l last i) = some (.bool (okFrom (l.take i) last (l.drop i)), []) := by
  intro m
  induction m with
  | zero => intro i last h h'; omega
  | succ m ih =>
    intro i last hi' hm
    rw [rRighta0]
    by_cases hi : i < l.length
    · have e1 : ((i : Int) == (l.length : Int)) = false := by simp; omega
      have e2 : List.drop (Int.toNat 0) (List.take i l) = List.take i l := by simp
      have e3 : (List.take i l).length < big := by simp; omega
      rw [e1, cond_false, dec_lt, dec_nn, Bool.true_and, cond_dec hi, Int.toNat_natCast, e2, cond_dec e3, has_low, wrN (by unfold big at hl; omega), ih (i + 1) _ (by omega) (by omega), getD_drop (d := tA.dflt) hi, okFrom, List.take_succ_eq_append_getElem hi]
      have e4 : (decide ((0 : Int) ≤ 0) && (true && decide ((i : Int) ≤ (l.length : Int)))) = true := by simp; omega
      rw [e4, cond_true, ← getD_lt (d := tA.dflt) hi]
      generalize l.getD i tA.dflt = a
      simp only [okA]
      by_cases c1 : a.1 ≤ last
      · simp [c1]; intro h; exact absurd h (by omega)
      · by_cases c2 : a.1 > 999
        · simp [c1, c2]; intro _ h; exact absurd h (by omega)
        · have c3 : last < a.1 ∧ a.1 ≤ 999 := by omega
          simp only [c1, c2, c3, decide_false, cond_false, and_self, decide_true, Bool.true_and]
          cases wideB a.2.1 <;> cases wideB a.2.2 <;> cases decide (a.2.1.1 ≤ a.2.2.1 ∧ a.2.1.2 ≤ a.2.2.2) <;> cases (List.take i l).any (meetB a) <;> rfl
    · have e1 : ((i : Int) == (l.length : Int)) = true := by simp; omega
      rw [e1, cond_true, List.drop_eq_nil_of_le (by omega)]; rfl

theorem run_right (l : List Ai) : runF Q hn0 tRight (l.length + 1) N.plan_Right [.ro tA l] [] = some (.bool (rightB l), []) := by
  rw [eRight]
  by_cases hl : l.length < big
  case neg =>
    have h : ¬ l.length ≤ 32 := by unfold big at hl; omega
    rw [cond_dec (by omega)]
    unfold rightB
    simp [h]
  have := right_loop l (l.length + 1) hl (l.length + 1 + 1) 0 0 (by omega) (by omega)
  rw [show ((0 : Nat) : Int) = 0 by rfl, rRighta0] at this
  have e3 : (decide ((0 : Int) ≤ 0) && (decide ((0 : Int) ≤ 0) && decide ((0 : Int) ≤ (l.length : Int)))) = true := by simp
  have e4 : decide (([] : List Ai).length < big) = true := rfl
  rw [e3, cond_true, show Int.toNat 0 = 0 from rfl, List.take_zero, List.drop_nil, e4, cond_true, List.any_nil, cond_false, List.drop_zero] at this
  rw [show Int.toNat 0 = 0 from rfl, this]
  unfold rightB
  by_cases h : l.length ≤ 32
  · rw [cond_dec' (by omega)]; simp [h]
  · rw [cond_dec (by omega)]; simp [h]
def gRight : G
  | [.ro (.pair (.int .i64) (.pair (.pair (.int .i64) (.int .i64)) (.pair (.int .i64) (.int .i64)))) l], [] => some (true, .bool (rightB l), [])
  | _, _ => none
theorem gRight_plan (a : List AV) (m : List Slot) (r : Bool × AV × List Slot) (h : gRight a m = some r) (hk : r.1 = true) : Sound Q N.plan_Right a m r.2 := by
  unfold gRight at h
  split at h
  · simp only [Option.some.injEq] at h; subst h; exact sound_of_run tRight_ok (run_right _)
  · simp at h
end Pl
end Go.Ab
