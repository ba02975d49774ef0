/- Tasks and rules: what both checks answer. -/
import Derived.Test.YtmclfehlflekhaaTaA
namespace Go.Ab
set_option linter.unusedVariables false
namespace Ta
open Pl Mo
def okB (b : Bd) : Bool := decide (b.2.1 ≤ b.1 ∧ b.1 ≤ b.2.2)
theorem all_l (l : List Bd) (n : Nat) (hl : l.length < 2000000) : ∀ (m i : Nat), i ≤ l.length → l.length - i < m → LAlla0 n m (SAlla0 l i) = some (.bool (inB (l.drop i)), []) := by
  intro m
  induction m with
  | zero => intro i h h'; omega
  | succ m ih =>
    intro i hi' hm
    rw [rAlla0]
    by_cases hi : i < l.length
    · have e1 : ((i : Int) == (l.length : Int)) = false := by rw [beq_eq_false_iff_ne]; omega
      rw [e1, cond_false, dec_nn, dec_lt, Bool.true_and, decide_eq_true hi, cond_true, cond_true, cond_true, cond_true, Int.toNat_natCast, Go.Ab.wrN (by omega), ih (i + 1) (by omega) (by omega), getD_drop (d := tB.dflt) hi]
      unfold inB
      rw [List.all_cons]
      generalize l.getD i tB.dflt = b
      by_cases h1 : b.1 < b.2.1
      · rw [cond_dec h1, decide_eq_false (p := b.2.1 ≤ b.1 ∧ b.1 ≤ b.2.2) (by omega)]; rfl
      · rw [cond_dec' h1]
        by_cases h2 : b.1 > b.2.2
        · rw [cond_dec h2, decide_eq_false (p := b.2.1 ≤ b.1 ∧ b.1 ≤ b.2.2) (by omega)]; rfl
        · rw [cond_dec' h2, decide_eq_true (p := b.2.1 ≤ b.1 ∧ b.1 ≤ b.2.2) (by omega), Bool.true_and]
    · have e1 : ((i : Int) == (l.length : Int)) = true := by rw [beq_iff_eq]; omega
      rw [e1, cond_true, List.drop_eq_nil_of_le (by omega)]; rfl
theorem gAll_ok (a : List AV) (m : List Slot) (r : Bool × AV × List Slot) (h : gAll a m = some r) (hk : r.1 = true) : Sound Q N.task_all a m r.2 := by
  unfold gAll at h
  split at h
  · simp only [Option.some.injEq] at h; subst h
    rename_i l
    have hl : List.length l < 2000000 := of_decide_eq_true hk
    refine sound_of_run (hn := hn0) noCall_ok (n := l.length + 1) ?_
    rw [eAll]
    have := all_l l (l.length + 1) hl (l.length + 1 + 1) 0 (by omega) (by omega)
    rw [show ((0 : Nat) : Int) = 0 from rfl, rAlla0, List.drop_zero] at this
    exact this
  · simp at h
theorem tCk_ok : CallOK Q tCk := addT_ok (addT_ok (addT_ok (inlT_ok (inlT_ok noCall_ok)) Is.g61_33) Is.g31_ok) gAll_ok

/-- May a spec be? 0: it may. -/
def checkE (x : Sp) : Int :=
  cond (decide ((1 ≤ x.1 ∧ x.1 ≤ 999) ∧ (0 ≤ x.2.1 ∧ x.2.1 ≤ 1048575)) && (wideB x.2.2.2.2.1 && wideB x.2.2.2.2.2.1))
    (cond (decide (x.2.2.2.2.2.2.length ≤ 8) && (Is.rises x.2.2.2.2.2.2 && (!x.2.2.2.2.2.2.contains x.1 && x.2.2.2.2.2.2.all fun n => decide (1 ≤ n ∧ n ≤ 999)))) 0 1) 2

theorem ck_loop (x : Sp) (n : Nat) (hl : x.2.2.2.2.2.2.length < 2000000) : ∀ (m i : Nat), i ≤ x.2.2.2.2.2.2.length → x.2.2.2.2.2.2.length - i < m →
    LCka n m (SCka x i ((x.2.2.2.2.2.2.take i).map fun n => (n, 1, 999))) = some (.int .i64 (cond (decide (x.2.2.2.2.2.2.length ≤ 8) && (Is.rises x.2.2.2.2.2.2 && (!x.2.2.2.2.2.2.contains x.1 && x.2.2.2.2.2.2.all fun n => decide (1 ≤ n ∧ n ≤ 999)))) 0 1), []) := by
  generalize hL : x.2.2.2.2.2.2 = L at *
  intro m
  induction m with
  | zero => intro i h h'; omega
  | succ m ih =>
    intro i hi' hm
    have r := rCka x (i : Int) ((L.take i).map fun n => (n, 1, 999)) n m
    rw [show x.snd.snd.snd.snd.snd.snd = L from hL] at r
    rw [r, dec_lt, dec_nn, Bool.true_and]
    by_cases hi : i < L.length
    · rw [cond_dec hi, cond_dec hi, cond_dec (by rw [List.length_map, List.length_take]; unfold most; omega), Int.toNat_natCast, Go.Ab.wrN (by omega)]
      have e : (L.take i).map (fun n => ((n, 1, 999) : Bd)) ++ [(L.getD i 0, 1, 999)] = (L.take (i + 1)).map fun n => (n, 1, 999) := by
        rw [List.take_succ_eq_append_getElem hi, List.map_append, getD_lt hi]; rfl
      rw [e]
      exact ih (i + 1) (by omega) (by omega)
    · have e : L.take i = L := List.take_of_length_le (by omega)
      rw [cond_dec' hi, e, cond_dec (p := L.length < Is.big) (by unfold Is.big; omega), cond_dec (p := L.length < Is.big) (by unfold Is.big; omega), cond_dec (p := (List.map (fun n => ((n, 1, 999) : Bd)) L).length < 2000000) (by rw [List.length_map]; omega)]
      have e2 : inB (L.map fun n => ((n, 1, 999) : Bd)) = L.all fun n => decide (1 ≤ n ∧ n ≤ 999) := by
        unfold inB; rw [List.all_map]; rfl
      rw [e2]
      by_cases h8 : L.length ≤ 8
      · rw [cond_dec' (by omega), decide_eq_true h8, Bool.true_and]
        cases Is.rises L
        · rfl
        · cases L.contains x.fst
          · cases L.all fun n => decide (1 ≤ n ∧ n ≤ 999) <;> rfl
          · rfl
      · rw [cond_dec (by omega), decide_eq_false h8]; rfl

theorem run_ck (x : Sp) (hl : x.2.2.2.2.2.2.length < 2000000) : runF Q hn0 tCk (x.2.2.2.2.2.2.length + 1) N.task_Check [agS x] [] = some (.int .i64 (checkE x), []) := by
  refine (eCk x _).trans ?_
  have := ck_loop x (x.2.2.2.2.2.2.length + 1) hl (x.2.2.2.2.2.2.length + 1) 0 (by omega) (by omega)
  rw [show ((0 : Nat) : Int) = 0 from rfl, List.take_zero, List.map_nil] at this
  rw [this]
  unfold checkE
  have e : inB [(x.fst, (1 : Int), (999 : Int)), (x.snd.fst, (0 : Int), (1048575 : Int)), (x.snd.snd.snd.snd.fst.fst, (-1000 : Int), (1000 : Int)), (x.snd.snd.snd.snd.fst.snd, (-1000 : Int), (1000 : Int)), (x.snd.snd.snd.snd.snd.fst.fst, (-1000 : Int), (1000 : Int)), (x.snd.snd.snd.snd.snd.fst.snd, (-1000 : Int), (1000 : Int))] =
      (decide ((1 ≤ x.1 ∧ x.1 ≤ 999) ∧ (0 ≤ x.2.1 ∧ x.2.1 ≤ 1048575)) && (wideB x.2.2.2.2.1 && wideB x.2.2.2.2.2.1)) := by
    rw [Bool.eq_iff_iff]
    simp only [inB, List.all_cons, List.all_nil, Bool.and_eq_true, decide_eq_true_eq, wideB, and_true]
    omega
  rw [e]
  cases (decide ((1 ≤ x.1 ∧ x.1 ≤ 999) ∧ (0 ≤ x.2.1 ∧ x.2.1 ≤ 1048575)) && (wideB x.2.2.2.2.1 && wideB x.2.2.2.2.2.1)) <;> rfl

/-! ### the document's -/
theorem gId_ok (a : List AV) (m : List Slot) (r : Bool × AV × List Slot) (h : gId a m = some r) (hk : r.1 = true) : Sound Q N.ref22_ID a m r.2 := by
  unfold gId at h
  split at h
  · simp only [Option.some.injEq] at h; subst h
    rename_i x
    refine sound_of_run (hn := hn0) noCall_ok (n := 0) ((eRId x 0).trans ?_)
    rw [fold_and]
    congr 3
    rw [Bool.eq_iff_iff]; simp
  · simp at h
theorem tRCk_ok : CallOK Q tRCk := addT_ok (addT_ok (addT_ok (addT_ok noCall_ok Is.g61_34) Is.g31_32) gSmall_ok) gId_ok
theorem rck_loop (x : Sp) (n : Nat) (hl : x.2.2.2.2.2.2.length < 2000000) : ∀ (m i : Nat), i ≤ x.2.2.2.2.2.2.length → x.2.2.2.2.2.2.length - i < m →
    LRCka n m (SRCka x i) = some (.int .i64 (cond ((x.2.2.2.2.2.2.drop i).all fun n => decide (1 ≤ n ∧ n ≤ 999)) 0 1), []) := by
  generalize hL : x.2.2.2.2.2.2 = L at *
  intro m
  induction m with
  | zero => intro i h h'; omega
  | succ m ih =>
    intro i hi' hm
    have r := rRCka x (i : Int) n m
    rw [show x.snd.snd.snd.snd.snd.snd = L from hL] at r
    rw [r, dec_lt, dec_nn, Bool.true_and]
    by_cases hi : i < L.length
    · rw [cond_dec hi, cond_dec hi, Int.toNat_natCast, Go.Ab.wrN (by omega), ih (i + 1) (by omega) (by omega), getD_drop (d := 0) hi, List.all_cons]
      cases decide (1 ≤ L.getD i 0 ∧ L.getD i 0 ≤ 999)
      · rfl
      · rw [Bool.not_true, cond_false, Bool.true_and]
    · rw [cond_dec' hi, List.drop_eq_nil_of_le (by omega)]; rfl
theorem run_rck (x : Sp) (hl : x.2.2.2.2.2.2.length < 2000000) : runF Q hn0 tRCk (x.2.2.2.2.2.2.length + 1) N.ref22_Check [agS x] [] = some (.int .i64 (checkE x), []) := by
  refine (eRCk x _).trans ?_
  have := rck_loop x (x.2.2.2.2.2.2.length + 1) hl (x.2.2.2.2.2.2.length + 1) 0 (by omega) (by omega)
  rw [show ((0 : Nat) : Int) = 0 from rfl, List.drop_zero] at this
  rw [this, small_wide, small_wide, cond_dec (p := x.snd.snd.snd.snd.snd.snd.length < Is.big) (by unfold Is.big; omega), cond_dec (p := x.snd.snd.snd.snd.snd.snd.length < Is.big) (by unfold Is.big; omega)]
  unfold checkE
  generalize x.2.2.2.2.2.2 = L at *
  by_cases h1 : 1 ≤ x.1 ∧ x.1 ≤ 999
  · rw [decide_eq_true h1, Bool.not_true, cond_false]
    by_cases h2 : x.2.1 < 0
    · rw [cond_dec h2, decide_eq_false (p := (1 ≤ x.1 ∧ x.1 ≤ 999) ∧ (0 ≤ x.2.1 ∧ x.2.1 ≤ 1048575)) (by omega)]; rfl
    · rw [cond_dec' h2]
      by_cases h3 : x.2.1 > 1048575
      · rw [cond_dec h3, decide_eq_false (p := (1 ≤ x.1 ∧ x.1 ≤ 999) ∧ (0 ≤ x.2.1 ∧ x.2.1 ≤ 1048575)) (by omega)]; rfl
      · rw [cond_dec' h3, decide_eq_true (p := (1 ≤ x.1 ∧ x.1 ≤ 999) ∧ (0 ≤ x.2.1 ∧ x.2.1 ≤ 1048575)) (by omega), Bool.true_and]
        cases wideB x.2.2.2.2.1
        · rfl
        · cases wideB x.2.2.2.2.2.1
          · rfl
          · simp only [Bool.not_true, cond_false, Bool.and_self, cond_true]
            by_cases h8 : L.length ≤ 8
            · rw [cond_dec' (by omega), decide_eq_true h8, Bool.true_and]
              cases Is.rises L
              · rfl
              · cases L.contains x.fst
                · cases L.all fun n => decide (1 ≤ n ∧ n ≤ 999) <;> rfl
                · rfl
            · rw [cond_dec (by omega), decide_eq_false h8]; rfl
  · rw [decide_eq_false h1, decide_eq_false (p := (1 ≤ x.1 ∧ x.1 ≤ 999) ∧ (0 ≤ x.2.1 ∧ x.2.1 ≤ 1048575)) (by omega)]; rfl

/-! ### rules -/
/-- May rules be? 0: they may. -/
def numsB (r : Ru) : Bool := decide ((1 ≤ r.1 ∧ r.1 ≤ 64) ∧ (1 ≤ r.2.1 ∧ r.2.1 ≤ 16) ∧ (1 ≤ r.2.2.1 ∧ r.2.2.1 ≤ 16) ∧ (1 ≤ r.2.2.2.1 ∧ r.2.2.2.1 ≤ 1000) ∧ (1 ≤ r.2.2.2.2.1 ∧ r.2.2.2.2.1 ≤ 64) ∧ (0 ≤ r.2.2.2.2.2.1 ∧ r.2.2.2.2.2.1 ≤ 1048576) ∧ (0 ≤ r.2.2.2.2.2.2.1 ∧ r.2.2.2.2.2.2.1 ≤ 2147483647))
def rulesE (r : Ru) : Int := cond (numsB r) (cond (rightB r.2.2.2.2.2.2.2) 0 1) 2
theorem tRu_ok : CallOK Q tRu := addT_ok (addT_ok noCall_ok gRight_plan) gAll_ok
theorem run_ru (r : Ru) : runF Q hn0 tRu 0 N.task_Rules [agR r] [] = some (.int .i64 (rulesE r), []) := by
  refine (eRu r 0).trans ?_
  unfold rulesE
  have e : (inB [(r.fst, (1 : Int), (64 : Int)), (r.snd.fst, (1 : Int), (16 : Int)), (r.snd.snd.fst, (1 : Int), (16 : Int))] && inB [(r.snd.snd.snd.fst, (1 : Int), (1000 : Int)), (r.snd.snd.snd.snd.fst, (1 : Int), (64 : Int)), (r.snd.snd.snd.snd.snd.fst, (0 : Int), (1048576 : Int)), (r.snd.snd.snd.snd.snd.snd.fst, (0 : Int), (2147483647 : Int))]) = numsB r := by
    rw [Bool.eq_iff_iff]
    simp only [inB, numsB, List.all_cons, List.all_nil, Bool.and_eq_true, decide_eq_true_eq, and_true]
    omega
  rw [← e]
  cases inB [(r.fst, (1 : Int), (64 : Int)), (r.snd.fst, (1 : Int), (16 : Int)), (r.snd.snd.fst, (1 : Int), (16 : Int))]
  · rfl
  · cases inB [(r.snd.snd.snd.fst, (1 : Int), (1000 : Int)), (r.snd.snd.snd.snd.fst, (1 : Int), (64 : Int)), (r.snd.snd.snd.snd.snd.fst, (0 : Int), (1048576 : Int)), (r.snd.snd.snd.snd.snd.snd.fst, (0 : Int), (2147483647 : Int))]
    · rfl
    · cases rightB r.snd.snd.snd.snd.snd.snd.snd <;> rfl
theorem gWithin_ok (a : List AV) (m : List Slot) (r : Bool × AV × List Slot) (h : gWithin a m = some r) (hk : r.1 = true) : Sound Q N.ref22_within a m r.2 := by
  unfold gWithin at h
  split at h
  · simp only [Option.some.injEq] at h; subst h
    rename_i x a b
    refine sound_of_run (hn := hn0) noCall_ok (n := 0) ((eRWi x a b 0).trans ?_)
    rw [fold_and]
    congr 3
    rw [Bool.eq_iff_iff]; simp
  · simp at h
theorem tRRu_ok : CallOK Q tRRu := addT_ok (addT_ok noCall_ok gRight_ref) gWithin_ok
theorem run_rru (r : Ru) : runF Q hn0 tRRu 0 N.ref22_Rules [agR r] [] = some (.int .i64 (rulesE r), []) := by
  refine (eRRu r 0).trans ?_
  unfold rulesE
  by_cases h1 : 1 ≤ r.1 ∧ r.1 ≤ 64
  case neg => rw [decide_eq_false h1, show numsB r = false from decide_eq_false (by omega)]; rfl
  by_cases h2 : 1 ≤ r.2.1 ∧ r.2.1 ≤ 16
  case neg => rw [decide_eq_true h1, decide_eq_false h2, show numsB r = false from decide_eq_false (by omega)]; rfl
  by_cases h3 : 1 ≤ r.2.2.1 ∧ r.2.2.1 ≤ 16
  case neg => rw [decide_eq_true h1, decide_eq_true h2, decide_eq_false h3, show numsB r = false from decide_eq_false (by omega)]; rfl
  by_cases h4 : 1 ≤ r.2.2.2.1 ∧ r.2.2.2.1 ≤ 1000
  case neg => rw [decide_eq_true h1, decide_eq_true h2, decide_eq_true h3, decide_eq_false h4, show numsB r = false from decide_eq_false (by omega)]; rfl
  by_cases h5 : 1 ≤ r.2.2.2.2.1 ∧ r.2.2.2.2.1 ≤ 64
  case neg => rw [decide_eq_true h1, decide_eq_true h2, decide_eq_true h3, decide_eq_true h4, decide_eq_false h5, show numsB r = false from decide_eq_false (by omega)]; rfl
  by_cases h6 : 0 ≤ r.2.2.2.2.2.1 ∧ r.2.2.2.2.2.1 ≤ 1048576
  case neg => rw [decide_eq_true h1, decide_eq_true h2, decide_eq_true h3, decide_eq_true h4, decide_eq_true h5, decide_eq_false h6, show numsB r = false from decide_eq_false (by omega)]; rfl
  by_cases h7 : 0 ≤ r.2.2.2.2.2.2.1 ∧ r.2.2.2.2.2.2.1 ≤ 2147483647
  case neg => rw [decide_eq_true h1, decide_eq_true h2, decide_eq_true h3, decide_eq_true h4, decide_eq_true h5, decide_eq_true h6, decide_eq_false h7, show numsB r = false from decide_eq_false (by omega)]; rfl
  rw [decide_eq_true h1, decide_eq_true h2, decide_eq_true h3, decide_eq_true h4, decide_eq_true h5, decide_eq_true h6, decide_eq_true h7, show numsB r = true from decide_eq_true ⟨h1, h2, h3, h4, h5, h6, h7⟩]
  cases rightB r.2.2.2.2.2.2.2 <;> rfl
end Ta
end Go.Ab
