/- IdsetTells, IdsetOps, IdsetLaws: the smallest functions: what they compute, each off its own code. -/
import Derived.Test.YthmebldaalplpaaFw25
import Derived.Test.YthmebldaalplpaaProg
namespace Go.Ab.Is
open Go.Proofs
set_option linter.unusedVariables false

noncomputable abbrev Q : Program := Try.prog
def hn : Hints := ⟨fun f => f == 80 || f == 67 || f == 68⟩
abbrev big : Nat := 268435456

/-! ### ref16.In, slices.Index -/
abbrev S34 (l : List Int) (x i : Int) : St := ⟨.ro tI l :: .int .i64 x :: J :: J :: J :: .int .i64 i :: js 12, []⟩
noncomputable abbrev L34 (n m : Nat) (s : St) : Ans := loopF Q hn noCall n 34 0 [1,0,1,0] [] m s
theorem e34 (l : List Int) (x : Int) (n : Nat) : runF Q hn noCall n 34 [.ro tI l, .int .i64 x] [] = L34 n n (S34 l x 0) := by kernel_rfl
theorem r34 (l : List Int) (x i : Int) (n m : Nat) : L34 n (m + 1) (S34 l x i) =
    cond (decide (i < (l.length : Int))) (cond (decide (0 ≤ i) && decide (i < (l.length : Int))) (cond (l.getD i.toNat 0 == x) (some (.bool true, [])) (L34 n m (S34 l x (IntKind.i64.wrap (i + 1))))) none) (some (.bool false, [])) := by kernel_rfl

theorem in_loop (l : List Int) (x : Int) (n : Nat) (hl : l.length < big) : ∀ (m i : Nat), l.length - i < m → L34 n m (S34 l x i) = some (.bool ((l.drop i).contains x), []) := by
  intro m
  induction m with
  | zero => intro i h; omega
  | succ m ih =>
    intro i h
    rw [r34, dec_lt, dec_nn, Bool.true_and]
    by_cases hi : i < l.length
    · rw [cond_dec hi, cond_dec hi, Int.toNat_natCast, getD_lt hi, wrapN (by unfold big at hl; omega), ih (i + 1) (by omega), List.drop_eq_getElem_cons hi, List.contains_cons]
      by_cases hx : l[i] = x
      · simp [hx]
      · have : (x == l[i]) = false := by simp; exact fun e => hx e.symm
        have h2 : (l[i] == x) = false := by simpa using hx
        rw [this, h2]; simp
    · rw [cond_dec' hi, List.drop_eq_nil_of_le (by omega)]; rfl

theorem s34 {l : List Int} {x : Int} (hl : l.length < big) : Sound Q 34 [.ro tI l, .int .i64 x] [] (.bool (l.contains x), []) :=
  sound_of_run (hn := hn) noCall_ok (n := l.length + 1) (by rw [e34]; exact in_loop l x _ hl _ 0 (by omega))

def idx (x : Int) : List Int → Int → Int
  | [], _ => -1
  | a :: t, i => if x = a then i else idx x t (i + 1)

abbrev S81 (l : List Int) (x c i : Int) : St := ⟨.ro tI l :: .int .i64 x :: J :: J :: J :: J :: J :: .int .i64 c :: .int .i64 i :: js 10, []⟩
noncomputable abbrev L81 (n m : Nat) (s : St) : Ans := loopF Q hn noCall n 81 0 [1,0,1,0] [] m s
theorem e81 (l : List Int) (x : Int) (n : Nat) : runF Q hn noCall n 81 [.ro tI l, .int .i64 x] [] = L81 n n (S81 l x (l.length : Int) 0) := by kernel_rfl
theorem r81 (l : List Int) (x c i : Int) (n m : Nat) : L81 n (m + 1) (S81 l x c i) =
    cond (decide (i < c)) (cond (decide (0 ≤ i) && decide (i < (l.length : Int))) (cond (x == l.getD i.toNat 0) (some (.int .i64 i, [])) (L81 n m (S81 l x c (IntKind.i64.wrap (i + 1))))) none) (some (.int .i64 (-1), [])) := by kernel_rfl

theorem idx_loop (l : List Int) (x : Int) (n : Nat) (hl : l.length < big) : ∀ (m i : Nat), l.length - i < m → L81 n m (S81 l x (l.length : Int) i) = some (.int .i64 (idx x (l.drop i) i), []) := by
  intro m
  induction m with
  | zero => intro i h; omega
  | succ m ih =>
    intro i h
    rw [r81, dec_lt, dec_nn, Bool.true_and]
    by_cases hi : i < l.length
    · rw [cond_dec hi, cond_dec hi, Int.toNat_natCast, getD_lt hi, wrapN (by unfold big at hl; omega), ih (i + 1) (by omega), List.drop_eq_getElem_cons hi, idx]
      by_cases hx : x = l[i]
      · simp [hx]
      · have h2 : (x == l[i]) = false := by simpa using hx
        rw [h2]; simp [hx]
    · rw [cond_dec' hi, List.drop_eq_nil_of_le (by omega)]; rfl

theorem s81 {l : List Int} {x : Int} (hl : l.length < big) : Sound Q 81 [.ro tI l, .int .i64 x] [] (.int .i64 (idx x l 0), []) :=
  sound_of_run (hn := hn) noCall_ok (n := l.length + 1) (by rw [e81]; exact idx_loop l x _ hl _ 0 (by omega))

theorem idx_has (x : Int) : ∀ (l : List Int) (i : Int), 0 ≤ i → (decide (idx x l i ≥ 0)) = l.contains x
  | [], i, h => by simp [idx]
  | a :: t, i, h => by
    rw [idx, List.contains_cons]
    by_cases hx : x = a
    · simp [hx]; omega
    · rw [if_neg hx, idx_has x t (i + 1) (by omega)]
      simp [hx]

/-! ### Right, by both -/
def rises : List Int → Bool
  | [] => true
  | [_] => true
  | a :: b :: t => decide (a < b) && rises (b :: t)

abbrev S31 (l : List Int) (i : Int) : St := ⟨.ro tI l :: J :: J :: .int .i64 i :: js 16, []⟩
noncomputable abbrev L31 (n m : Nat) (s : St) : Ans := labelF Q hn noCall n 31 0 [1] [] 0 m s
noncomputable abbrev L32 (n m : Nat) (s : St) : Ans := loopF Q hn noCall n 32 0 [1,0,1,0] [] m s
theorem r31 (l : List Int) (i : Int) (n m : Nat) : L31 n (m + 1) (S31 l i) =
  cond (decide (i ≥ (l.length : Int))) (some (.bool true, [])) (cond (decide (0 ≤ IntKind.i64.wrap (i-1)) && decide (IntKind.i64.wrap (i-1) < l.length)) (cond (decide (0 ≤ i) && decide (i < l.length))
   (cond (decide (l.getD (IntKind.i64.wrap (i - 1)).toNat 0 < l.getD i.toNat 0)) (L31 n m (S31 l (IntKind.i64.wrap (i+1)))) (some (.bool false, []))) none) none) := by kernel_rfl
theorem e31 (l : List Int) (n : Nat) : runF Q hn noCall n 31 [.ro tI l] [] =
  cond (decide ((1:Int) ≥ (l.length : Int))) (some (.bool true, [])) (cond (decide (0 ≤ IntKind.i64.wrap ((1:Int)-1)) && decide (IntKind.i64.wrap ((1:Int)-1) < l.length)) (cond (decide (0 ≤ (1:Int)) && decide ((1:Int) < l.length))
   (cond (decide (l.getD (IntKind.i64.wrap ((1:Int) - 1)).toNat 0 < l.getD (1:Int).toNat 0)) (L31 n n (S31 l (IntKind.i64.wrap ((1:Int)+1)))) (some (.bool false, []))) none) none) := by kernel_rfl
theorem e32 (l : List Int) (n : Nat) : runF Q hn noCall n 32 [.ro tI l] [] = L32 n n (S31 l 1) := by kernel_rfl
theorem r32 (l : List Int) (i : Int) (n m : Nat) : L32 n (m + 1) (S31 l i) =
  cond (decide (i < (l.length : Int))) (cond (decide (0 ≤ i) && decide (i < l.length)) (cond (decide (0 ≤ IntKind.i64.wrap (i-1)) && decide (IntKind.i64.wrap (i-1) < l.length))
   (cond (decide (l.getD i.toNat 0 ≤ l.getD (IntKind.i64.wrap (i - 1)).toNat 0)) (some (.bool false, [])) (L32 n m (S31 l (IntKind.i64.wrap (i+1))))) none) none) (some (.bool true, [])) := by kernel_rfl

theorem rises_drop {l : List Int} {i : Nat} (hi : i + 1 < l.length) : rises (l.drop i) = (decide (l[i] < l[i + 1]) && rises (l.drop (i + 1))) := by
  rw [List.drop_eq_getElem_cons (by omega), List.drop_eq_getElem_cons hi, rises]
theorem rises_end {l : List Int} {i : Nat} (hi : l.length ≤ i + 1) : rises (l.drop i) = true := by
  have : (l.drop i).length ≤ 1 := by simp; omega
  match h : l.drop i with
  | [] => rfl
  | [_] => rfl
  | _ :: _ :: _ => rw [h] at this; simp at this

theorem right_loop (l : List Int) (n : Nat) (hl : l.length < big) : ∀ (m i : Nat), l.length - i < m → L31 n m (S31 l ((i + 1 : Nat) : Int)) = some (.bool (rises (l.drop i)), []) := by
  intro m
  induction m with
  | zero => intro i h; omega
  | succ m ih =>
    intro i h
    unfold big at hl
    rw [r31, dec_ge]
    by_cases hi : i + 1 < l.length
    · rw [cond_dec' (by omega), wrapP (by omega), dec_lt, dec_lt, dec_nn, dec_nn, Bool.true_and, Bool.true_and, cond_dec (by omega), cond_dec hi, Int.toNat_natCast, Int.toNat_natCast, getD_lt (by omega), getD_lt hi,
        wrapN (by omega), ih (i + 1) (by omega), rises_drop hi]
      by_cases hx : l[i] < l[i + 1] <;> simp [hx]
    · rw [cond_dec (by omega), rises_end (by omega)]

theorem right_run (l : List Int) (hl : l.length < big) : runF Q hn noCall (l.length + 1) 31 [.ro tI l] [] = some (.bool (rises l), []) := by
  rw [e31]
  have := right_loop l (l.length + 1) hl (l.length + 1 + 1) 0 (by omega)
  rw [r31] at this
  exact this

theorem s31 {l : List Int} (hl : l.length < big) : Sound Q 31 [.ro tI l] [] (.bool (rises l), []) := sound_of_run (hn := hn) noCall_ok (right_run l hl)

theorem right_loop' (l : List Int) (n : Nat) (hl : l.length < big) : ∀ (m i : Nat), l.length - i < m → L32 n m (S31 l ((i + 1 : Nat) : Int)) = some (.bool (rises (l.drop i)), []) := by
  intro m
  induction m with
  | zero => intro i h; omega
  | succ m ih =>
    intro i h
    unfold big at hl
    rw [r32, dec_lt]
    by_cases hi : i + 1 < l.length
    · rw [cond_dec hi, wrapP (by omega), dec_lt, dec_nn, dec_nn, Bool.true_and, Bool.true_and, cond_dec hi, cond_dec (by omega), Int.toNat_natCast, Int.toNat_natCast, getD_lt hi, getD_lt (i := i) (by omega),
        wrapN (by omega), ih (i + 1) (by omega), rises_drop hi]
      by_cases hx : l[i] < l[i + 1]
      · rw [cond_dec' (by omega)]; simp [hx]
      · rw [cond_dec (by omega)]; simp [hx]
    · rw [cond_dec' hi, rises_end (by omega)]

theorem s32 {l : List Int} (hl : l.length < big) : Sound Q 32 [.ro tI l] [] (.bool (rises l), []) :=
  sound_of_run (hn := hn) noCall_ok (n := l.length + 1) (by rw [e32]; exact right_loop' l _ hl _ 0 (by omega))

/-! ### ref01.Ints -/
abbrev S14 (l k : List Int) (i : Int) : St := ⟨.ro tI l :: .ro tI k :: J :: J :: J :: .int .i64 i :: js 20, []⟩
noncomputable abbrev L14 (n m : Nat) (s : St) : Ans := loopF Q hn noCall n 14 0 [1,1,0,1,0] [] m s
theorem e14 (l k : List Int) (n : Nat) : runF Q hn noCall n 14 [.ro tI l, .ro tI k] [] = cond ((l.length : Int) != (k.length : Int)) (some (.bool false, [])) (L14 n n (S14 l k 0)) := by kernel_rfl
theorem r14 (l k : List Int) (i : Int) (n m : Nat) : L14 n (m + 1) (S14 l k i) =
  cond (decide (i < (l.length : Int))) (cond (decide (0 ≤ i) && decide (i < l.length)) (cond (decide (0 ≤ i) && decide (i < k.length))
   (cond (l.getD i.toNat 0 != k.getD i.toNat 0) (some (.bool false, [])) (L14 n m (S14 l k (IntKind.i64.wrap (i+1))))) none) none) (some (.bool true, [])) := by kernel_rfl

theorem dec_cons {a b : Int} {x y : List Int} : decide (a :: x = b :: y) = (decide (a = b) && decide (x = y)) := by
  by_cases h : a = b <;> by_cases h' : x = y <;> simp [h, h']

theorem ints_loop (l k : List Int) (n : Nat) (hl : l.length < big) (hk : k.length = l.length) : ∀ (m i : Nat), l.length - i < m → L14 n m (S14 l k i) = some (.bool (decide (l.drop i = k.drop i)), []) := by
  intro m
  induction m with
  | zero => intro i h; omega
  | succ m ih =>
    intro i h
    unfold big at hl
    rw [r14, dec_lt, dec_lt, dec_nn, Bool.true_and, Bool.true_and]
    by_cases hi : i < l.length
    · rw [cond_dec hi, cond_dec hi, cond_dec (p := i < k.length) (by omega), Int.toNat_natCast, getD_lt hi, getD_lt (l := k) (i := i) (by omega), wrapN (by omega), ih (i + 1) (by omega), List.drop_eq_getElem_cons (l := l) (i := i) hi, List.drop_eq_getElem_cons (l := k) (i := i) (by omega)]
      rw [dec_cons]
      by_cases hx : l[i] = k[i]
      · have h2 : (l[i] != k[i]) = false := by simpa using hx
        rw [h2, decide_eq_true hx, Bool.true_and, cond_false]
      · have h2 : (l[i] != k[i]) = true := by simpa using hx
        rw [h2, decide_eq_false hx, Bool.false_and, cond_true]
    · rw [cond_dec' hi, List.drop_eq_nil_of_le (by omega), List.drop_eq_nil_of_le (by omega)]; simp

theorem s14 {l k : List Int} (hl : l.length < big) : Sound Q 14 [.ro tI l, .ro tI k] [] (.bool (decide (l = k)), []) := by
  refine sound_of_run (hn := hn) noCall_ok (n := l.length + 1) ?_
  rw [e14]
  by_cases h : k.length = l.length
  · have : ((l.length : Int) != (k.length : Int)) = false := by simp [h]
    rw [this, cond_false]
    exact ints_loop l k _ hl h _ 0 (by omega)
  · have : ((l.length : Int) != (k.length : Int)) = true := by simp; omega
    rw [this]
    have h3 : decide (l = k) = false := decide_eq_false fun e => h (by rw [e])
    rw [h3, cond_true]
end Go.Ab.Is
