/- Sets of numbers, in plain words: two ways to make a rising list come to the same. -/
import Derived.Test.YthmebldaalplpaaIsB
import Derived.Lib.SlicesCompact
import Derived.Lib.RowBridge
namespace Go.Ab.Is
set_option linter.unusedVariables false

abbrev Up (l : List Int) : Prop := l.Pairwise (· < ·)

theorem up_uniq : ∀ {a b : List Int}, Up a → Up b → (∀ x, x ∈ a ↔ x ∈ b) → a = b
  | [], [], _, _, _ => rfl
  | [], y :: b, _, _, h => by have := (h y).2 (by simp); simp at this
  | x :: a, [], _, _, h => by have := (h x).1 (by simp); simp at this
  | x :: a, y :: b, ha, hb, h => by
    rw [Up, List.pairwise_cons] at ha hb
    have hxy : x = y := by
      have h1 := (h x).1 (by simp)
      have h2 := (h y).2 (by simp)
      simp only [List.mem_cons] at h1 h2
      rcases h1 with h1 | h1
      · exact h1
      · rcases h2 with h2 | h2
        · exact h2.symm
        · have := ha.1 y h2
          have := hb.1 x h1
          omega
    subst hxy
    refine congrArg _ (up_uniq ha.2 hb.2 fun z => ?_)
    have hz := h z
    simp only [List.mem_cons] at hz
    constructor
    · intro hm
      have := ha.1 z hm
      rcases hz.1 (.inr hm) with e | e
      · omega
      · exact e
    · intro hm
      have := hb.1 z hm
      rcases hz.2 (.inr hm) with e | e
      · omega
      · exact e

theorem rises_up : ∀ {l : List Int}, rises l = true ↔ Up l
  | [] => by simp [rises]
  | [_] => by simp [rises]
  | a :: b :: t => by
    rw [rises, Bool.and_eq_true, rises_up (l := b :: t), decide_eq_true_eq]
    constructor
    · rintro ⟨h1, h2⟩
      refine List.pairwise_cons.2 ⟨fun x hx => ?_, h2⟩
      rcases List.mem_cons.1 hx with rfl | hx
      · exact h1
      · have := (List.pairwise_cons.1 h2).1 x hx; omega
    · intro h
      exact ⟨(List.pairwise_cons.1 h).1 b (by simp), (List.pairwise_cons.1 h).2⟩

theorem insT_mem (x y : Int) : ∀ (l : List Int), y ∈ ins x true l ↔ y ∈ l ∧ y ≠ x
  | [] => by simp [ins]
  | o :: t => by
    rw [ins, List.mem_append, insT_mem x y t]
    by_cases h : o = x
    · rw [if_pos h]; subst h
      simp only [List.mem_cons, List.not_mem_nil, false_or]
      constructor
      · rintro ⟨h1, h2⟩; exact ⟨.inr h1, h2⟩
      · rintro ⟨rfl | h1, h2⟩
        · exact absurd rfl h2
        · exact ⟨h1, h2⟩
    · rw [if_neg h]
      simp only [List.mem_cons, List.not_mem_nil, or_false]
      constructor
      · rintro (rfl | ⟨h1, h2⟩)
        · exact ⟨.inl rfl, h⟩
        · exact ⟨.inr h1, h2⟩
      · rintro ⟨rfl | h1, h2⟩
        · exact .inl rfl
        · exact .inr ⟨h1, h2⟩

theorem insT_up (x : Int) : ∀ {l : List Int}, Up l → Up (ins x true l)
  | [], _ => by simp [ins]
  | o :: t, h => by
    rw [Up, List.pairwise_cons] at h
    rw [ins]
    split
    · exact insT_up x h.2
    · refine List.pairwise_cons.2 ⟨fun y hy => h.1 y ?_, insT_up x h.2⟩
      exact ((insT_mem x y t).1 (by simpa using hy)).1

theorem ins_mem (x y : Int) : ∀ {l : List Int}, Up l → (y ∈ ins x false l ↔ y = x ∨ y ∈ l)
  | [], _ => by simp [ins]
  | o :: t, h => by
    rw [Up, List.pairwise_cons] at h
    rw [ins]
    by_cases hle : x ≤ o
    · rw [if_pos hle, List.mem_cons, List.mem_append, insT_mem, List.mem_cons]
      by_cases hx : o = x
      · rw [if_pos hx]; subst hx
        simp only [List.not_mem_nil, false_or]
        constructor
        · rintro (rfl | ⟨h1, _⟩)
          · exact .inl rfl
          · exact .inr (.inr h1)
        · rintro (rfl | rfl | h1)
          · exact .inl rfl
          · exact .inl rfl
          · by_cases e : y = o
            · exact .inl e
            · exact .inr ⟨h1, e⟩
      · rw [if_neg hx]
        simp only [List.mem_cons, List.not_mem_nil, or_false]
        constructor
        · rintro (rfl | rfl | ⟨h1, _⟩)
          · exact .inl rfl
          · exact .inr (.inl rfl)
          · exact .inr (.inr h1)
        · rintro (rfl | rfl | h1)
          · exact .inl rfl
          · exact .inr (.inl rfl)
          · by_cases e : y = x
            · exact .inl e
            · exact .inr (.inr ⟨h1, e⟩)
    · rw [if_neg hle, if_neg (by omega : ¬ o = x), List.mem_append, ins_mem x y h.2]
      simp only [List.mem_cons, List.not_mem_nil, or_false]
      constructor
      · rintro (h1 | h1 | h1)
        · exact .inr (.inl h1)
        · exact .inl h1
        · exact .inr (.inr h1)
      · rintro (h1 | h1 | h1)
        · exact .inr (.inl h1)
        · exact .inl h1
        · exact .inr (.inr h1)

theorem ins_up (x : Int) : ∀ {l : List Int}, Up l → Up (ins x false l)
  | [], _ => by simp [ins]
  | o :: t, h => by
    have h' := h
    rw [Up, List.pairwise_cons] at h
    rw [ins]
    by_cases hle : x ≤ o
    · rw [if_pos hle]
      have e : ((if o = x then [] else [o]) ++ ins x true t) = ins x true (o :: t) := rfl
      rw [e]
      refine List.pairwise_cons.2 ⟨fun y hy => ?_, insT_up x h'⟩
      have hm := (insT_mem x y _).1 hy
      rcases List.mem_cons.1 hm.1 with e | e
      · have := hm.2; omega
      · have := h.1 y e; omega
    · rw [if_neg hle, if_neg (by omega : ¬ o = x)]
      refine List.pairwise_cons.2 ⟨fun y hy => ?_, ins_up x h.2⟩
      rcases (ins_mem x y h.2).1 (by simpa using hy) with rfl | e
      · omega
      · exact h.1 y e

theorem refSet_from : ∀ (l out : List Int), Up out → Up (l.foldl (fun o x => ins x false o) out) ∧ ∀ y, y ∈ l.foldl (fun o x => ins x false o) out ↔ y ∈ l ∨ y ∈ out
  | [], out, h => ⟨h, fun y => by simp⟩
  | x :: l, out, h => by
    obtain ⟨h1, h2⟩ := refSet_from l (ins x false out) (ins_up x h)
    refine ⟨h1, fun y => ?_⟩
    rw [List.foldl_cons, h2 y, ins_mem x y h, List.mem_cons]
    constructor
    · rintro (h | h | h)
      · exact .inl (.inr h)
      · exact .inl (.inl h)
      · exact .inr h
    · rintro ((h | h) | h)
      · exact .inr (.inl h)
      · exact .inl h
      · exact .inr (.inr h)

theorem refSet_up (l : List Int) : Up (refSet l) := (refSet_from l [] .nil).1
theorem refSet_mem (l : List Int) (y : Int) : y ∈ refSet l ↔ y ∈ l := by
  have := (refSet_from l [] .nil).2 y
  simpa [refSet] using this

theorem refSet_id {l : List Int} (h : Up l) : refSet l = l := up_uniq (refSet_up l) h (refSet_mem l)

theorem compact_upTo (l : List Int) (hs : l.Pairwise (· ≤ ·)) : ∀ (m : Nat), m ≤ l.length → Up (Lib.compactUpTo l.toArray m) ∧ (∀ y, y ∈ Lib.compactUpTo l.toArray m ↔ y ∈ l.take m)
  | 0, _ => by simp [Lib.compactUpTo]
  | m + 1, hm => by
    obtain ⟨h1, h2⟩ := compact_upTo l hs m (by omega)
    have hlt : m < l.length := by omega
    have hget : l.toArray[m]! = l[m] := by rw [getElem!_pos _ m (by simpa using hlt)]; simp
    have mono : ∀ i (hi : i < m), l[i]'(by omega) ≤ l[m] := fun i hi => List.pairwise_iff_getElem.1 hs i m (by omega) hlt hi
    rw [Lib.compactUpTo_succ, hget]
    by_cases hk : Lib.keeps l.toArray m = true
    · rw [if_pos hk]
      refine ⟨List.pairwise_append.2 ⟨h1, by simp, fun y hy z hz => ?_⟩, fun y => ?_⟩
      · obtain rfl : z = l[m] := by simpa using hz
        obtain ⟨i, hi, rfl⟩ := List.mem_iff_getElem.1 ((h2 y).1 hy)
        have hi' : i < m := by simp at hi; omega
        rw [List.getElem_take]
        have hm0 : 0 < m := by omega
        have hne : l[m] ≠ l[m - 1] := by
          unfold Lib.keeps at hk
          have hk' := of_decide_eq_true hk
          rcases hk' with e | e
          · omega
          · rw [hget, getElem!_pos _ (m - 1) (by simp; omega)] at e
            simpa using e
        have a1 := mono (m - 1) (by omega)
        by_cases hi1 : i = m - 1
        · subst hi1; omega
        · have a2 := List.pairwise_iff_getElem.1 hs i (m - 1) (by omega) (by omega) (by omega)
          omega
      · rw [List.mem_append, h2 y, List.take_add_one, List.mem_append]
        simp [hlt]
    · rw [if_neg hk, List.append_nil]
      refine ⟨h1, fun y => ?_⟩
      rw [h2 y, List.take_add_one, List.mem_append]
      constructor
      · exact fun h => .inl h
      · rintro (h | h)
        · exact h
        · have hy : y = l[m] := by simpa [hlt] using h
          subst hy
          have hm0 : ¬ m = 0 ∧ l[m] = l[m - 1] := by
            unfold Lib.keeps at hk
            have hk' := fun c => hk (decide_eq_true c)
            refine ⟨fun e => hk' (.inl e), ?_⟩
            apply Classical.byContradiction
            intro e
            apply hk'
            right
            rw [hget, getElem!_pos _ (m - 1) (by simp; omega)]
            simpa using e
          rw [hm0.2]
          exact List.mem_iff_getElem.2 ⟨m - 1, by simp; omega, by simp⟩

theorem compact_sort (l : List Int) : Lib.compact (l.mergeSort fun x y => decide (x ≤ y)) = refSet l := by
  have hs : (l.mergeSort fun x y => decide (x ≤ y)).Pairwise (· ≤ ·) := by
    have := List.pairwise_mergeSort (le := fun x y : Int => decide (x ≤ y)) (fun a b c h1 h2 => by simp at *; omega) (fun a b => by simp; omega) l
    simpa using this
  obtain ⟨h1, h2⟩ := compact_upTo _ hs _ (Nat.le_refl _)
  refine up_uniq h1 (refSet_up l) fun y => ?_
  have e := h2 y
  rw [List.take_length] at e
  rw [refSet_mem]
  exact e.trans (by simp [List.mem_mergeSort])
end Go.Ab.Is
