/- IdsetOps, IdsetLaws: the document's pick and Above, idset's Above, each off its own code. -/
import Derived.Test.YthmebldaalplpaaIsE
namespace Go.Ab.Is
open Go.Proofs
set_option linter.unusedVariables false

theorem gIn_ok : CallOK Q (addT 30 gSet (addT 34 g61 noCall)) := addT_ok (addT_ok noCall_ok g61_34) gSet30
noncomputable def t51 : Callf := deepT Q hn 0 (addT 30 gSet (addT 34 g61 noCall)) 2
theorem t51_ok : CallOK Q t51 := deepT_ok gIn_ok 2

/-! ### ref17.pick -/
abbrev S51 (b s out : List Int) (is : Bool) (i : Int) : St := ⟨J :: .ro tI b :: .bool is :: J :: J :: J :: J :: .ro tI s :: .tail 0 0 :: .int .i64 i :: js 24, [.obj (.rows tI out)]⟩
noncomputable abbrev L51 (n m : Nat) (s : St) : Ans := loopF Q hn t51 n 51 0 [1,1,1,0,1,0] [] m s
theorem e51 (a b : List Int) (is : Bool) (n : Nat) : runF Q hn t51 n 51 [.ro tI a, .ro tI b, .bool is] [] = cond (decide (a.length < big)) (L51 n n (S51 b (refSet a) [] is 0)) none := by kernel_rfl
theorem r51 (b s out : List Int) (is : Bool) (i : Int) (n m : Nat) : L51 n (m + 1) (S51 b s out is i) =
    cond (decide (i < (s.length : Int))) (cond (B s i) (cond (decide (b.length < big)) (cond (b.contains (s.getD i.toNat 0) == is)
      (cond (B s i) (cond (N out [s.getD i.toNat 0]) (L51 n m (S51 b s (out ++ [s.getD i.toNat 0]) is (I1 i))) none) none)
      (L51 n m (S51 b s out is (I1 i)))) none) none) (some (.tail 0 0, [.obj (.rows tI out)])) := by kernel_rfl

theorem pick_loop (b s : List Int) (is : Bool) (n : Nat) (hb : b.length < big) (hs : s.length < big) : ∀ (m i : Nat) (out : List Int), s.length - i < m → out.length ≤ i →
    L51 n m (S51 b s out is i) = some (.tail 0 0, [.obj (.rows tI (out ++ (s.drop i).filter (fun v => b.contains v == is)))]) := by
  intro m
  have hs' := hs
  unfold big at hs'
  induction m with
  | zero => intro i out h; omega
  | succ m ih =>
    intro i out h ho
    rw [r51, dec_lt]
    by_cases hi : i < s.length
    · rw [cond_dec hi, B_true hi, getD_1 hi, cond_dec hb, N_true (by simp [most]; omega), List.drop_eq_getElem_cons (l := s) hi, List.filter_cons, I1, wrapN (by omega)]
      simp only [cond_true]
      cases hc : b.contains s[i] == is with
      | true => rw [cond_true, ih (i + 1) _ (by omega) (by simp; omega), if_pos rfl, List.append_assoc]; simp only [List.singleton_append]
      | false => rw [cond_false, ih (i + 1) _ (by omega) (by omega)]; simp only [Bool.false_eq_true, if_false]
    · rw [cond_dec' hi, @List.drop_eq_nil_of_le Int s _ (by omega), List.filter_nil, List.append_nil]

def pickR (a b : List Int) (is : Bool) : List Int := (refSet a).filter (fun v => b.contains v == is)
theorem s51 {a b : List Int} {is : Bool} (ha : a.length < big) (hb : b.length < big) : Sound Q 51 [.ro tI a, .ro tI b, .bool is] [] (.ro tI (pickR a b is), []) :=
  Sound.ro (sound_of_run (hn := hn) t51_ok (n := a.length + 1) (by
    have := refSet_len a
    rw [e51, cond_dec ha]
    exact pick_loop b (refSet a) is _ hb (by omega) _ 0 [] (by omega) (by simp)))
def g51 : G
  | [.ro (.int .i64) a, .ro (.int .i64) b, .bool is], [] => some (decide (a.length < big) && decide (b.length < big), .ro tI (pickR a b is), [])
  | _, _ => none
theorem g51_ok (a : List AV) (m : List Slot) (r : Bool × AV × List Slot) (h : g51 a m = some r) (hk : r.1 = true) : Sound Q 51 a m r.2 := by
  unfold g51 at h
  split at h
  · exact ok_of h hk fun hb => by
      simp only [Bool.and_eq_true] at hb
      exact s51 (of_decide_eq_true hb.1) (of_decide_eq_true hb.2)
  · simp at h

/-! ### ref17.Above -/
abbrev S13 (s : List Int) (x i : Int) : St := ⟨J :: .int .i64 x :: J :: J :: J :: J :: .ro tI s :: .int .i64 i :: js 18, []⟩
noncomputable abbrev L13 (n m : Nat) (s : St) : Ans := loopF Q hn t51 n 13 0 [1,1,0,1,0] [] m s
theorem e13 (a : List Int) (x : Int) (n : Nat) : runF Q hn t51 n 13 [.ro tI a, .int .i64 x] [] = cond (decide (a.length < big)) (L13 n n (S13 (refSet a) x 0)) none := by kernel_rfl
theorem r13 (s : List Int) (x i : Int) (n m : Nat) : L13 n (m + 1) (S13 s x i) =
    cond (decide (i < (s.length : Int))) (cond (B s i) (cond (decide (s.getD i.toNat 0 > x)) (cond (B s i) (some (.tup [.int .i64 (s.getD i.toNat 0), .bool true], [])) none) (L13 n m (S13 s x (I1 i)))) none)
      (some (.tup [.int .i64 0, .bool false], [])) := by kernel_rfl

def aboveS (x : Int) : List Int → Int × Bool
  | [] => (0, false)
  | v :: t => if v > x then (v, true) else aboveS x t

theorem above_loop (s : List Int) (x : Int) (n : Nat) (hs : s.length < big) : ∀ (m i : Nat), s.length - i < m →
    L13 n m (S13 s x i) = some (.tup [.int .i64 (aboveS x (s.drop i)).1, .bool (aboveS x (s.drop i)).2], []) := by
  intro m
  have hs' := hs
  unfold big at hs'
  induction m with
  | zero => intro i h; omega
  | succ m ih =>
    intro i h
    rw [r13, dec_lt]
    by_cases hi : i < s.length
    · rw [cond_dec hi, B_true hi, getD_1 hi, I1, wrapN (by omega), List.drop_eq_getElem_cons (l := s) hi, aboveS]
      simp only [cond_true]
      by_cases hx : s[i] > x
      · rw [cond_dec hx, if_pos hx]
      · rw [cond_dec' hx, if_neg hx, ih (i + 1) (by omega)]
    · rw [cond_dec' hi, @List.drop_eq_nil_of_le Int s _ (by omega), aboveS]

theorem s13 {a : List Int} {x : Int} (ha : a.length < big) : Sound Q 13 [.ro tI a, .int .i64 x] [] (.tup [.int .i64 (aboveS x (refSet a)).1, .bool (aboveS x (refSet a)).2], []) :=
  sound_of_run (hn := hn) t51_ok (n := a.length + 1) (by
    have := refSet_len a
    rw [e13, cond_dec ha]
    exact above_loop (refSet a) x _ (by omega) _ 0 (by omega))

/-! ### idset.Above -/
abbrev S12 (l : List Int) (x best c i : Int) (is : Bool) : St := ⟨J :: .int .i64 x :: J :: J :: J :: J :: .int .i64 best :: .bool is :: J :: J :: .ro tI l :: .int .i64 c :: .int .i64 i :: js 19, []⟩
noncomputable abbrev L12 (n m : Nat) (s : St) : Ans := loopF Q hn noCall n 12 0 [1,1,0,1,0] [] m s
theorem e12 (a : List Int) (x : Int) (n : Nat) : runF Q hn noCall n 12 [.ro tI a, .int .i64 x] [] = L12 n n (S12 a x 0 (a.length : Int) 0 false) := by kernel_rfl
theorem r12f (l : List Int) (x best c i : Int) (n m : Nat) : L12 n (m + 1) (S12 l x best c i false) =
    cond (decide (i < c)) (cond (B l i) (cond (decide (l.getD i.toNat 0 > x)) (L12 n m (S12 l x (l.getD i.toNat 0) c (I1 i) true)) (L12 n m (S12 l x best c (I1 i) false))) none)
      (some (.tup [.int .i64 best, .bool false], [])) := by kernel_rfl
theorem r12t (l : List Int) (x best c i : Int) (n m : Nat) : L12 n (m + 1) (S12 l x best c i true) =
    cond (decide (i < c)) (cond (B l i) (cond (decide (l.getD i.toNat 0 > x)) (cond (decide (l.getD i.toNat 0 < best)) (L12 n m (S12 l x (l.getD i.toNat 0) c (I1 i) true)) (L12 n m (S12 l x best c (I1 i) true))) (L12 n m (S12 l x best c (I1 i) true))) none)
      (some (.tup [.int .i64 best, .bool true], [])) := by kernel_rfl

def bestS (x : Int) : Int → Bool → List Int → Int × Bool
  | b, is, [] => (b, is)
  | b, false, v :: t => if v > x then bestS x v true t else bestS x b false t
  | b, true, v :: t => if v > x then (if v < b then bestS x v true t else bestS x b true t) else bestS x b true t

theorem best_loop (l : List Int) (x : Int) (n : Nat) (hl : l.length < big) : ∀ (m i : Nat) (best : Int) (is : Bool), l.length - i < m →
    L12 n m (S12 l x best (l.length : Int) i is) = some (.tup [.int .i64 (bestS x best is (l.drop i)).1, .bool (bestS x best is (l.drop i)).2], []) := by
  intro m
  have hl' := hl
  unfold big at hl'
  induction m with
  | zero => intro i best is h; omega
  | succ m ih =>
    intro i best is h
    cases is with
    | false =>
      rw [r12f, dec_lt]
      by_cases hi : i < l.length
      · rw [cond_dec hi, B_true hi, getD_1 hi, I1, wrapN (by omega), List.drop_eq_getElem_cons (l := l) hi, bestS, cond_true]
        by_cases hx : l[i] > x
        · rw [cond_dec hx, if_pos hx, ih (i + 1) _ _ (by omega)]
        · rw [cond_dec' hx, if_neg hx, ih (i + 1) _ _ (by omega)]
      · rw [cond_dec' hi, @List.drop_eq_nil_of_le Int l _ (by omega), bestS]
    | true =>
      rw [r12t, dec_lt]
      by_cases hi : i < l.length
      · rw [cond_dec hi, B_true hi, getD_1 hi, I1, wrapN (by omega), List.drop_eq_getElem_cons (l := l) hi, bestS, cond_true]
        by_cases hx : l[i] > x
        · rw [cond_dec hx, if_pos hx]
          by_cases hy : l[i] < best
          · rw [cond_dec hy, if_pos hy, ih (i + 1) _ _ (by omega)]
          · rw [cond_dec' hy, if_neg hy, ih (i + 1) _ _ (by omega)]
        · rw [cond_dec' hx, if_neg hx, ih (i + 1) _ _ (by omega)]
      · rw [cond_dec' hi, @List.drop_eq_nil_of_le Int l _ (by omega), bestS]

theorem s12' {a : List Int} {x : Int} (ha : a.length < big) : Sound Q 12 [.ro tI a, .int .i64 x] [] (.tup [.int .i64 (bestS x 0 false a).1, .bool (bestS x 0 false a).2], []) :=
  sound_of_run (hn := hn) noCall_ok (n := a.length + 1) (by rw [e12]; exact best_loop a x _ ha _ 0 0 false (by omega))

/-- The least that is above. -/
structure Least (x : Int) (l : List Int) (r : Int × Bool) : Prop where
  no : r.2 = false → r.1 = 0 ∧ ∀ v ∈ l, v ≤ x
  yes : r.2 = true → r.1 ∈ l ∧ x < r.1 ∧ ∀ v ∈ l, x < v → r.1 ≤ v

theorem Least.uniq {x : Int} {l k : List Int} {r s : Int × Bool} (h : Least x l r) (h' : Least x k s) (e : ∀ v, v ∈ l ↔ v ∈ k) : r = s := by
  obtain ⟨r1, r2⟩ := r
  obtain ⟨s1, s2⟩ := s
  cases r2 <;> cases s2
  · have := (h.no rfl).1; have := (h'.no rfl).1; simp_all
  · have h1 := (h.no rfl).2; have h2 := h'.yes rfl
    have := h1 s1 ((e _).2 h2.1); have := h2.2.1; simp at *; omega
  · have h1 := (h'.no rfl).2; have h2 := h.yes rfl
    have := h1 r1 ((e _).1 h2.1); have := h2.2.1; simp at *; omega
  · have h1 := h.yes rfl; have h2 := h'.yes rfl
    have a1 := h1.2.2 s1 ((e _).2 h2.1) h2.2.1
    have a2 := h2.2.2 r1 ((e _).1 h1.1) h1.2.1
    simp at a1 a2
    have : r1 = s1 := by omega
    rw [this]

theorem aboveS_least (x : Int) : ∀ {s : List Int}, Up s → Least x s (aboveS x s)
  | [], _ => ⟨fun _ => ⟨rfl, by simp⟩, fun h => by simp [aboveS] at h⟩
  | v :: t, h => by
    rw [Up, List.pairwise_cons] at h
    rw [aboveS]
    by_cases hx : v > x
    · rw [if_pos hx]
      refine ⟨fun h => by simp at h, fun _ => ⟨by simp, hx, fun u hu _ => ?_⟩⟩
      rcases List.mem_cons.1 hu with rfl | hu
      · exact Int.le_refl _
      · exact Int.le_of_lt (h.1 u hu)
    · rw [if_neg hx]
      have ih := aboveS_least x h.2
      refine ⟨fun hn => ⟨(ih.no hn).1, fun u hu => ?_⟩, fun hy => ⟨.tail _ (ih.yes hy).1, (ih.yes hy).2.1, fun u hu hux => ?_⟩⟩
      · rcases List.mem_cons.1 hu with rfl | hu
        · omega
        · exact (ih.no hn).2 u hu
      · rcases List.mem_cons.1 hu with rfl | hu
        · omega
        · exact (ih.yes hy).2.2 u hu hux

theorem bestT_least (x : Int) : ∀ (t : List Int) (b : Int), x < b → (bestS x b true t).2 = true ∧ ((bestS x b true t).1 = b ∨ (bestS x b true t).1 ∈ t) ∧ x < (bestS x b true t).1 ∧ (bestS x b true t).1 ≤ b ∧ ∀ v ∈ t, x < v → (bestS x b true t).1 ≤ v
  | [], b, hb => by simp [bestS]; exact hb
  | v :: t, b, hb => by
    rw [bestS]
    by_cases hx : v > x
    · rw [if_pos hx]
      by_cases hy : v < b
      · rw [if_pos hy]
        obtain ⟨h1, h2, h3, h4, h5⟩ := bestT_least x t v hx
        refine ⟨h1, .inr ?_, h3, by omega, fun u hu hux => ?_⟩
        · rcases h2 with h2 | h2
          · rw [h2]; simp
          · exact .tail _ h2
        · rcases List.mem_cons.1 hu with rfl | hu
          · exact h4
          · exact h5 u hu hux
      · rw [if_neg hy]
        obtain ⟨h1, h2, h3, h4, h5⟩ := bestT_least x t b hb
        refine ⟨h1, ?_, h3, h4, fun u hu hux => ?_⟩
        · rcases h2 with h2 | h2
          · exact .inl h2
          · exact .inr (.tail _ h2)
        · rcases List.mem_cons.1 hu with rfl | hu
          · omega
          · exact h5 u hu hux
    · rw [if_neg hx]
      obtain ⟨h1, h2, h3, h4, h5⟩ := bestT_least x t b hb
      refine ⟨h1, ?_, h3, h4, fun u hu hux => ?_⟩
      · rcases h2 with h2 | h2
        · exact .inl h2
        · exact .inr (.tail _ h2)
      · rcases List.mem_cons.1 hu with rfl | hu
        · omega
        · exact h5 u hu hux

theorem bestS_least (x : Int) : ∀ (l : List Int), Least x l (bestS x 0 false l)
  | [] => ⟨fun _ => ⟨rfl, by simp⟩, fun h => by simp [bestS] at h⟩
  | v :: t => by
    rw [bestS]
    by_cases hx : v > x
    · rw [if_pos hx]
      obtain ⟨h1, h2, h3, h4, h5⟩ := bestT_least x t v hx
      refine ⟨fun h => by rw [h1] at h; simp at h, fun _ => ⟨?_, h3, fun u hu hux => ?_⟩⟩
      · rcases h2 with h2 | h2
        · rw [h2]; simp
        · exact .tail _ h2
      · rcases List.mem_cons.1 hu with rfl | hu
        · exact h4
        · exact h5 u hu hux
    · rw [if_neg hx]
      have ih := bestS_least x t
      refine ⟨fun hn => ⟨(ih.no hn).1, fun u hu => ?_⟩, fun hy => ⟨.tail _ (ih.yes hy).1, (ih.yes hy).2.1, fun u hu hux => ?_⟩⟩
      · rcases List.mem_cons.1 hu with rfl | hu
        · omega
        · exact (ih.no hn).2 u hu
      · rcases List.mem_cons.1 hu with rfl | hu
        · omega
        · exact (ih.yes hy).2.2 u hu hux

theorem best_above (x : Int) (l : List Int) : bestS x 0 false l = aboveS x (refSet l) := (bestS_least x l).uniq (aboveS_least x (refSet_up l)) (fun v => (refSet_mem l v).symm)

theorem s12 {a : List Int} {x : Int} (ha : a.length < big) : Sound Q 12 [.ro tI a, .int .i64 x] [] (.tup [.int .i64 (aboveS x (refSet a)).1, .bool (aboveS x (refSet a)).2], []) := by
  rw [← best_above]; exact s12' ha

def gAbove : G
  | [.ro (.int .i64) a, .int .i64 x], [] => some (decide (a.length < big), .tup [.int .i64 (aboveS x (refSet a)).1, .bool (aboveS x (refSet a)).2], [])
  | _, _ => none
theorem gAbove12 (a : List AV) (m : List Slot) (r : Bool × AV × List Slot) (h : gAbove a m = some r) (hk : r.1 = true) : Sound Q 12 a m r.2 := by
  unfold gAbove at h
  split at h
  · exact ok_of h hk fun hb => s12 (of_decide_eq_true hb)
  · simp at h
theorem gAbove13 (a : List AV) (m : List Slot) (r : Bool × AV × List Slot) (h : gAbove a m = some r) (hk : r.1 = true) : Sound Q 13 a m r.2 := by
  unfold gAbove at h
  split at h
  · exact ok_of h hk fun hb => s13 (of_decide_eq_true hb)
  · simp at h
end Go.Ab.Is
