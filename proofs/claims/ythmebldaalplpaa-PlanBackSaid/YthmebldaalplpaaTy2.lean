/- Types of plain data that the seats' texts use; small laws for rounds of loops. -/
import Derived.Test.YthmebldaalplpaaNm
namespace Go.Ab
abbrev tP : Ty := .pair tI tI
abbrev tA : Ty := .pair tI (.pair tP tP)
abbrev Pt := Int × Int
abbrev Ai := Int × Pt × Pt
abbrev wr : Int → Int := IntKind.i64.wrap
abbrev big : Nat := 268435456
abbrev agP (p : Pt) : AV := .agg [.int .i64 p.1, .int .i64 p.2]
abbrev agA (a : Ai) : AV := .agg [.int .i64 a.1, .int .i64 a.2.1.1, .int .i64 a.2.1.2, .int .i64 a.2.2.1, .int .i64 a.2.2.2]
noncomputable abbrev hn0 : Hints := ⟨fun f => f == N.slices_Clone_int || f == N.slices_Sort_int || f == N.slices_Compact_int⟩

theorem fold_and {c d : Bool} {m : List Slot} : cond c (some (AV.bool d, m)) (some (AV.bool false, m)) = some (AV.bool (c && d), m) := by cases c <;> rfl
theorem fold_or {c d : Bool} {m : List Slot} : cond c (some (AV.bool true, m)) (some (AV.bool d, m)) = some (AV.bool (c || d), m) := by cases c <;> rfl
theorem fold_not {c d : Bool} {m : List Slot} : cond c (some (AV.bool false, m)) (some (AV.bool d, m)) = some (AV.bool (!c && d), m) := by cases c <;> rfl
theorem fold_int {c : Bool} {a b : Int} {k : IntKind} {m : List Slot} : cond c (some (AV.int k a, m)) (some (AV.int k b, m)) = some (AV.int k (cond c a b), m) := by cases c <;> rfl

/-- Where the first one is of which something is so; -1: there is none. -/
def idxF {α : Type} (f : α → Bool) : List α → Int → Int
  | [], _ => -1
  | a :: t, i => cond (f a) i (idxF f t (i + 1))

theorem idxF_any {α : Type} (f : α → Bool) : ∀ (l : List α) (i : Int), 0 ≤ i → (decide (idxF f l i ≥ 0)) = l.any f
  | [], i, h => by simp [idxF]
  | a :: t, i, h => by
    rw [idxF, List.any_cons]
    cases hx : f a
    · simp only [cond_false, Bool.false_or]; exact idxF_any f t (i + 1) (by omega)
    · simp; omega

theorem idxF_find {α : Type} (f : α → Bool) (d : α) : ∀ (l : List α) (k : Nat), match l.find? f with
    | some a => ∃ i, idxF f l (k : Int) = ((k + i : Nat) : Int) ∧ i < l.length ∧ l.getD i d = a
    | none => idxF f l (k : Int) = -1
  | [], k => by simp [idxF]
  | a :: t, k => by
    rw [List.find?_cons, idxF]
    cases hx : f a
    · have ih := idxF_find f d t (k + 1)
      simp only [cond_false]
      cases hf : t.find? f with
      | none => rw [hf] at ih; simpa using ih
      | some b =>
        rw [hf] at ih
        obtain ⟨i, h1, h2, h3⟩ := ih
        refine ⟨i + 1, ?_, by simpa using h2, by simpa using h3⟩
        simp only [Int.natCast_add, Int.cast_ofNat_Int] at h1 ⊢
        rw [show (k : Int) + 1 = ((k + 1 : Nat) : Int) by omega, show ((k + 1 : Nat) : Int) = (k : Int) + 1 by omega, h1]
        omega
    · exact ⟨0, by simp, by simp, by simp⟩
theorem getD_drop {α : Type} {l : List α} {i : Nat} {d : α} (h : i < l.length) : l.drop i = l.getD i d :: l.drop (i + 1) := by
  rw [getD_lt h]; exact List.drop_eq_getElem_cons h

theorem wrN {n : Nat} (h : n < 4611686018427387904) : wr ((n : Int) + 1) = ((n + 1 : Nat) : Int) := wrapN h
theorem wrP {n : Nat} (h : n < 4611686018427387904) : wr (((n + 1 : Nat) : Int) - 1) = (n : Int) := wrapP h

theorem idx_loop {α β : Type} {F : Nat → Int → β} (l : List α) (d : α) (f : α → Bool) (res : Int → β) (no : β) (hl : l.length < big)
    (h : ∀ m i, F (m + 1) i = cond (decide (i < (l.length : Int))) (cond (decide (0 ≤ i) && decide (i < (l.length : Int))) (cond (f (l.getD i.toNat d)) (res i) (F m (wr (i + 1)))) no) (res (-1))) :
    ∀ (m i : Nat), l.length - i < m → F m i = res (idxF f (l.drop i) i) := by
  intro m
  induction m with
  | zero => intro i h; omega
  | succ m ih =>
    intro i hm
    rw [h, dec_lt, dec_nn, Bool.true_and]
    by_cases hi : i < l.length
    · rw [cond_dec hi, cond_dec hi, Int.toNat_natCast, wrN (by unfold big at hl; omega), ih (i + 1) (by omega), getD_drop (d := d) hi, idxF]
      cases f (l.getD i d)
      · rfl
      · rfl
    · rw [cond_dec' hi, List.drop_eq_nil_of_le (by omega)]; rfl

theorem find_loop {α β : Type} {F : Nat → Int → β} (l : List α) (d : α) (f : α → Bool) (res : α → β) (res' : Int → β) (fin no : β) (hl : l.length < big) (hres : ∀ i : Nat, i < l.length → res' i = res (l.getD i d))
    (h : ∀ m i, F (m + 1) i = cond (decide (i < (l.length : Int))) (cond (decide (0 ≤ i) && decide (i < (l.length : Int))) (cond (f (l.getD i.toNat d)) (res' i) (F m (wr (i + 1)))) no) fin) :
    ∀ (m i : Nat), l.length - i < m → F m i = match (l.drop i).find? f with | some a => res a | none => fin := by
  intro m
  induction m with
  | zero => intro i h; omega
  | succ m ih =>
    intro i hm
    rw [h, dec_lt, dec_nn, Bool.true_and]
    by_cases hi : i < l.length
    · rw [cond_dec hi, cond_dec hi, Int.toNat_natCast, wrN (by unfold big at hl; omega), ih (i + 1) (by omega), getD_drop (d := d) hi, List.find?_cons, hres i hi]
      cases f (l.getD i d)
      · rfl
      · rfl
    · rw [cond_dec' hi, List.drop_eq_nil_of_le (by omega)]; rfl

theorem ok_cond {α : Type} {b : Bool} {x r : α} (h : cond b (some x) none = some r) : b = true ∧ x = r := by
  cases b
  · simp at h
  · exact ⟨rfl, by simpa using h⟩
end Go.Ab
