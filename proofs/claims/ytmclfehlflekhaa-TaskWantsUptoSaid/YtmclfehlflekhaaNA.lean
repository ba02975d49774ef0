/- The numbers of this seat's functions, by their names. -/
import Derived.Test.YtmclfehlflekhaaFE
import Derived.Test.YtmclfehlflekhaaProg
namespace Go.Ab
namespace N
abbrev main_main : Nat := 0
abbrev gosem_cut : Nat := 1
abbrev gosem_cut_init : Nat := 2
abbrev law22_TaskChecks : Nat := 3
abbrev law22_TaskWants : Nat := 4
abbrev law22_TaskAsks : Nat := 5
abbrev law34_StepTells : Nat := 6
abbrev law34_StepChains : Nat := 7
abbrev law22_alive : Nat := 8
abbrev task_Check : Nat := 9
abbrev ref22_Check : Nat := 10
abbrev task_Rules : Nat := 11
abbrev ref22_Rules : Nat := 12
abbrev task_Want : Nat := 13
abbrev plan_At : Nat := 14
abbrev ref07_Right : Nat := 15
abbrev task_Fits : Nat := 16
abbrev task_Clone : Nat := 17
abbrev ref01_Ints : Nat := 18
abbrev ref22_Want : Nat := 19
abbrev ref22_Fits : Nat := 20
abbrev task_Same : Nat := 21
abbrev ref22_Same : Nat := 22
abbrev task_SameRules : Nat := 23
abbrev ref22_SameRules : Nat := 24
abbrev ref30_Few : Nat := 25
abbrev law34_alive : Nat := 26
abbrev ref34_Breaks : Nat := 27
abbrev step_Breaks : Nat := 28
abbrev step_May : Nat := 29
abbrev task_all : Nat := 30
abbrev task_id : Nat := 31
abbrev task_wide : Nat := 32
abbrev idset_Right : Nat := 33
abbrev idset_Has : Nat := 34
abbrev ref22_ID : Nat := 35
abbrev ref03_Small : Nat := 36
abbrev ref17_Right : Nat := 37
abbrev ref16_In : Nat := 38
abbrev plan_Right : Nat := 39
abbrev ref22_within : Nat := 40
abbrev plan_Cross : Nat := 41
abbrev slices_IndexFunc_api_Aisle : Nat := 42
abbrev plan_At_1 : Nat := 43
abbrev plan_inside : Nat := 44
abbrev ref07_Meet : Nat := 45
abbrev skill_Has : Nat := 46
abbrev slices_Clone_int : Nat := 47
abbrev ref07_Cross : Nat := 48
abbrev ref12_Has : Nat := 49
abbrev task_of : Nat := 50
abbrev slices_Equal_int : Nat := 51
abbrev task_numbers : Nat := 52
abbrev slices_Equal_api_Aisle : Nat := 53
abbrev ref07_Same : Nat := 54
abbrev ref23_Few : Nat := 55
abbrev ref34_two : Nat := 56
abbrev ref34_three : Nat := 57
abbrev ref34_four : Nat := 58
abbrev ref34_five : Nat := 59
abbrev step_Breaks_1 : Nat := 60
abbrev step_pair_rises : Nat := 61
abbrev step_Breaks_2 : Nat := 62
abbrev step_pair_stays : Nat := 63
abbrev step_Breaks_3 : Nat := 64
abbrev step_pair_counts : Nat := 65
abbrev step_Breaks_4 : Nat := 66
abbrev step_pair_people : Nat := 67
abbrev step_Breaks_5 : Nat := 68
abbrev step_pair_leases : Nat := 69
abbrev slices_Contains_int : Nat := 70
abbrev plan_wide : Nat := 71
abbrev slices_ContainsFunc_api_Aisle : Nat := 72
abbrev plan_Right_1 : Nat := 73
abbrev plan_Meet : Nat := 74
abbrev plan_legs : Nat := 75
abbrev plan_block : Nat := 76
abbrev slices_Sort_int : Nat := 77
abbrev slices_Compact_int : Nat := 78
abbrev ref07_Has : Nat := 79
abbrev ref07_Route : Nat := 80
abbrev ref07_put : Nat := 81
abbrev ref12_Is : Nat := 82
abbrev ref30_Task : Nat := 83
abbrev ref24_Ended : Nat := 84
abbrev ref17_Less : Nat := 85
abbrev ref30_Hand : Nat := 86
abbrev ref30_Lease : Nat := 87
abbrev step_pair_tasks : Nat := 88
abbrev step_pair_stays_1 : Nat := 89
abbrev step_pair_counts_1 : Nat := 90
abbrev idset_Within : Nat := 91
abbrev step_hands : Nat := 92
abbrev state_Lease : Nat := 93
abbrev step_kept : Nat := 94
abbrev slices_Index_int : Nat := 95
abbrev plan_near : Nat := 96
abbrev slices_pdqsortOrdered_int : Nat := 97
abbrev math_bits_Len : Nat := 98
abbrev ref07_near : Nat := 99
abbrev ref07_toward : Nat := 100
abbrev ref23_Find : Nat := 101
abbrev ref17_pick : Nat := 102
abbrev ref25_Find : Nat := 103
abbrev ref26_Find : Nat := 104
abbrev slices_ContainsFunc_api_Task : Nat := 105
abbrev step_pair_tasks_1 : Nat := 106
abbrev state_Task : Nat := 107
abbrev idset_Less : Nat := 108
abbrev state_find_api_Lease : Nat := 109
abbrev state_Lease_1 : Nat := 110
abbrev slices_insertionSortOrdered_int : Nat := 111
abbrev slices_heapSortOrdered_int : Nat := 112
abbrev slices_breakPatternsOrdered_int : Nat := 113
abbrev slices_choosePivotOrdered_int : Nat := 114
abbrev slices_reverseRangeOrdered_int : Nat := 115
abbrev slices_partialInsertionSortOrdered_int : Nat := 116
abbrev cmp_Less_int : Nat := 117
abbrev slices_partitionEqualOrdered_int : Nat := 118
abbrev slices_partitionOrdered_int : Nat := 119
abbrev math_bits_Len32 : Nat := 120
abbrev math_bits_Len64 : Nat := 121
abbrev ref02_Clip : Nat := 122
abbrev ref16_Set : Nat := 123
abbrev slices_IndexFunc_api_Task : Nat := 124
abbrev state_find_api_Task : Nat := 125
abbrev state_Task_1 : Nat := 126
abbrev idset_pick : Nat := 127
abbrev idset_Less_1 : Nat := 128
abbrev slices_IndexFunc_api_Lease : Nat := 129
abbrev slices_siftDownOrdered_int : Nat := 130
abbrev slices_nextPowerOfTwo : Nat := 131
abbrev pslices_xorshift_Next : Nat := 132
abbrev slices_medianAdjacentOrdered_int : Nat := 133
abbrev slices_medianOrdered_int : Nat := 134
abbrev cmp_isNaN_int : Nat := 135
abbrev idset_sides : Nat := 136
abbrev idset_pick_1 : Nat := 137
abbrev slices_order2Ordered_int : Nat := 138
abbrev idset_set : Nat := 139
end N
noncomputable abbrev Q : Program := Go.Proofs.Try.prog
end Go.Ab

/- Types of plain data that the seats' texts use; small laws for rounds of loops. -/
namespace Go.Ab
abbrev tP : Ty := .pair tI tI
abbrev tA : Ty := .pair tI (.pair tP tP)
abbrev Pt := Int × Int
abbrev Ai := Int × Pt × Pt
abbrev wr : Int → Int := IntKind.i64.wrap
abbrev big : Nat := 268435456
abbrev agP (p : Pt) : AV := .agg [.int .i64 p.1, .int .i64 p.2]
abbrev agA (a : Ai) : AV := .agg [.int .i64 a.1, .int .i64 a.2.1.1, .int .i64 a.2.1.2, .int .i64 a.2.2.1, .int .i64 a.2.2.2]
noncomputable abbrev hn0 : Hints := ⟨fun f => f == N.slices_Clone_int || f == N.slices_Sort_int || f == N.slices_Compact_int⟩

theorem fold_and {c d : Bool} {m : List Slot} : cond c (some (AV.bool d, m)) (some (AV.bool false, m)) = some (AV.bool (c && d), m) := by cases c <;> rfl
theorem fold_or {c d : Bool} {m : List Slot} : cond c (some (AV.bool true, m)) (some (AV.bool d, m)) = some (AV.bool (c || d), m) := by cases c <;> rfl
theorem fold_not {c d : Bool} {m : List Slot} : cond c (some (AV.bool false, m)) (some (AV.bool d, m)) = some (AV.bool (!c && d), m) := by cases c <;> rfl
theorem fold_int {c : Bool} {a b : Int} {k : IntKind} {m : List Slot} : cond c (some (AV.int k a, m)) (some (AV.int k b, m)) = some (AV.int k (cond c a b), m) := by cases c <;> rfl

/-- Where the first one is of which something is so; -1: there is none. -/
def idxF {α : Type} (f : α → Bool) : List α → Int → Int
  | [], _ => -1
  | a :: t, i => cond (f a) i (idxF f t (i + 1))

theorem idxF_any {α : Type} (f : α → Bool) : ∀ (l : List α) (i : Int), 0 ≤ i → (decide (idxF f l i ≥ 0)) = l.any f
  | [], i, h => by simp [idxF]
  | a :: t, i, h => by
    rw [idxF, List.any_cons]
    cases hx : f a
    · simp only [cond_false, Bool.false_or]; exact idxF_any f t (i + 1) (by omega)
    · simp; omega

theorem idxF_find {α : Type} (f : α → Bool) (d : α) : ∀ (l : List α) (k : Nat), match l.find? f with
    | some a => ∃ i, idxF f l (k : Int) = ((k + i : Nat) : Int) ∧ i < l.length ∧ l.getD i d = a
    | none => idxF f l (k : Int) = -1
  | [], k => by simp [idxF]
  | a :: t, k => by
    rw [List.find?_cons, idxF]
    cases hx : f a
    · have ih := idxF_find f d t (k + 1)
      simp only [cond_false]
      cases hf : t.find? f with
      | none => rw [hf] at ih; simpa using ih
      | some b =>
        rw [hf] at ih
        obtain ⟨i, h1, h2, h3⟩ := ih
        refine ⟨i + 1, ?_, by simpa using h2, by simpa using h3⟩
        simp only [Int.natCast_add, Int.cast_ofNat_Int] at h1 ⊢
        rw [show (k : Int) + 1 = ((k + 1 : Nat) : Int) by omega, show ((k + 1 : Nat) : Int) = (k : Int) + 1 by omega, h1]
        omega
    · exact ⟨0, by simp, by simp, by simp⟩
theorem getD_drop {α : Type} {l : List α} {i : Nat} {d : α} (h : i < l.length) : l.drop i = l.getD i d :: l.drop (i + 1) := by
  rw [getD_lt h]; exact List.drop_eq_getElem_cons h

theorem wrN {n : Nat} (h : n < 4611686018427387904) : wr ((n : Int) + 1) = ((n + 1 : Nat) : Int) := wrapN h
theorem wrP {n : Nat} (h : n < 4611686018427387904) : wr (((n + 1 : Nat) : Int) - 1) = (n : Int) := wrapP h

theorem idx_loop {α β : Type} {F : Nat → Int → β} (l : List α) (d : α) (f : α → Bool) (res : Int → β) (no : β) (hl : l.length < big)
    (h : ∀ m i, F (m + 1) i = cond (decide (i < (l.length : Int))) (cond (decide (0 ≤ i) && decide (i < (l.length : Int))) (cond (f (l.getD i.toNat d)) (res i) (F m (wr (i + 1)))) no) (res (-1))) :
    ∀ (m i : Nat), l.length - i < m → F m i = res (idxF f (l.drop i) i) := by
  intro m
  induction m with
  | zero => intro i h; omega
  | succ m ih =>
    intro i hm
    rw [h, dec_lt, dec_nn, Bool.true_and]
    by_cases hi : i < l.length
    · rw [cond_dec hi, cond_dec hi, Int.toNat_natCast, wrN (by unfold big at hl; omega), ih (i + 1) (by omega), getD_drop (d := d) hi, idxF]
      cases f (l.getD i d)
      · rfl
      · rfl
    · rw [cond_dec' hi, List.drop_eq_nil_of_le (by omega)]; rfl

theorem find_loop {α β : Type} {F : Nat → Int → β} (l : List α) (d : α) (f : α → Bool) (res : α → β) (res' : Int → β) (fin no : β) (hl : l.length < big) (hres : ∀ i : Nat, i < l.length → res' i = res (l.getD i d))
    (h : ∀ m i, F (m + 1) i = cond (decide (i < (l.length : Int))) (cond (decide (0 ≤ i) && decide (i < (l.length : Int))) (cond (f (l.getD i.toNat d)) (res' i) (F m (wr (i + 1)))) no) fin) :
    ∀ (m i : Nat), l.length - i < m → F m i = match (l.drop i).find? f with | some a => res a | none => fin := by
  intro m
  induction m with
  | zero => intro i h; omega
  | succ m ih =>
    intro i hm
    rw [h, dec_lt, dec_nn, Bool.true_and]
    by_cases hi : i < l.length
    · rw [cond_dec hi, cond_dec hi, Int.toNat_natCast, wrN (by unfold big at hl; omega), ih (i + 1) (by omega), getD_drop (d := d) hi, List.find?_cons, hres i hi]
      cases f (l.getD i d)
      · rfl
      · rfl
    · rw [cond_dec' hi, List.drop_eq_nil_of_le (by omega)]; rfl

theorem ok_cond {α : Type} {b : Bool} {x r : α} (h : cond b (some x) none = some r) : b = true ∧ x = r := by
  cases b
  · simp at h
  · exact ⟨rfl, by simpa using h⟩
end Go.Ab
