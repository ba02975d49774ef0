/- PlanBack: a way back goes through the same aisles; a way goes through an aisle just if it has a point of the way. -/
import Derived.Test.YthmebldaalplpaaBaA
namespace Go.Ab
set_option linter.unusedVariables false
namespace Mo
open Pl
def hitW (l : List Ai) (a : Ai) (x : Pt) : Bool := atIs l x && (atId l x == a.1)
theorem ba_c (l : List Ai) (w : List Pt) (c : List Int) (a : Ai) (b12 : Bool) (n m i : Nat) (hi : i < 1000000) (hc : c.length < 1000000) : ∀ (m2 k : Nat) (b3 : Bool), k ≤ c.length → c.length - k < m2 →
    LBc n m m2 (SBc l w c a b3 k b12 i) = cond (!b12 == (b3 || (c.drop k).any (· == a.1))) ff (LBa n m (SBa l w c ((i + 1 : Nat) : Int))) := by
  intro m2
  induction m2 with
  | zero => intro k b h h'; omega
  | succ m2 ih =>
    intro k b hk hm
    rw [rBc, dec_lt, dec_nn, Bool.true_and]
    by_cases h : k < c.length
    · rw [cond_dec h, cond_dec h, Int.toNat_natCast, Go.Ab.wrN (by omega), ih (k + 1) _ (by omega) (by omega), ih (k + 1) _ (by omega) (by omega), getD_drop (d := 0) h, List.any_cons]
      cases b
      · rw [cond_false, Bool.false_or]
      · rw [cond_true, Bool.true_or, Bool.true_or]
    · rw [cond_dec' h, List.drop_eq_nil_of_le (by omega), List.any_nil, Bool.or_false, Go.Ab.wrN (by omega)]
theorem ba_b (l : List Ai) (w : List Pt) (c : List Int) (a : Ai) (n m i : Nat) (hl : l.length < big) (hw : w.length < 1000000) : ∀ (m1 k : Nat) (b : Bool), k ≤ w.length → w.length - k < m1 →
    LBb n m m1 (SBb l w c a b k i) = LBc n m n (SBc l w c a false 0 (b || (w.drop k).any (hitW l a)) i) := by
  intro m1
  induction m1 with
  | zero => intro k b h h'; omega
  | succ m1 ih =>
    intro k b hk hm
    rw [rBb, dec_lt, dec_nn, Bool.true_and]
    by_cases h : k < w.length
    · rw [cond_dec h, cond_dec h, cond_dec hl, Int.toNat_natCast, Go.Ab.wrN (by omega), ih (k + 1) _ (by omega) (by omega), ih (k + 1) _ (by omega) (by omega), ih (k + 1) _ (by omega) (by omega), getD_drop (d := Dp) h, List.any_cons]
      unfold hitW
      cases b
      · rw [cond_false, Bool.false_or, Bool.false_or]
        cases atIs l (w.getD k Dp)
        · rw [cond_false, Bool.false_and, Bool.false_or]
        · rw [cond_true, Bool.true_and]
      · rw [cond_true, Bool.true_or, Bool.true_or]
    · rw [cond_dec' h, List.drop_eq_nil_of_le (by omega), List.any_nil, Bool.or_false]

theorem ba_loop (l : List Ai) (w : List Pt) (c : List Int) (n : Nat) (hl : l.length < 1000000) (hw : w.length < 1000000) (hc : c.length < 1000000) (hn : w.length < n ∧ c.length < n)
    (H : ∀ a ∈ l, w.any (hitW l a) = c.any (· == a.1)) : ∀ (m i : Nat), l.length - i < m → LBa n m (SBa l w c i) = tt := by
  intro m
  induction m with
  | zero => intro i h; omega
  | succ m ih =>
    intro i hm
    rw [rBa, dec_lt, dec_nn, Bool.true_and]
    by_cases h : i < l.length
    · have h1 := ba_b l w c (l.getD i tA.dflt) n m i (by unfold big; omega) hw n 0 false (by omega) (by omega)
      have h2 := ba_c l w c (l.getD i tA.dflt) (false || (w.drop 0).any (hitW l (l.getD i tA.dflt))) n m i (by omega) hc n 0 false (by omega) (by omega)
      rw [show ((0 : Nat) : Int) = 0 from rfl] at h1 h2
      rw [cond_dec h, cond_dec h, Int.toNat_natCast, h1, h2, List.drop_zero, List.drop_zero, Bool.false_or, Bool.false_or, H _ (by rw [getD_lt h]; exact List.getElem_mem h), ih (i + 1) (by omega), beq_self_eq_true]
      rfl
    · rw [cond_dec' h]

/-! ### of a plan -/
theorem okFrom_last : ∀ (l prev : List Ai) (last : Int), okFrom prev last l = true → ∀ a ∈ l, last < a.1
  | [], _, _, _, a, ha => by simp at ha
  | x :: l, prev, last, h, a, ha => by
    simp only [okFrom, Bool.and_eq_true] at h
    have h1 := h.1
    simp only [okA, Bool.and_eq_true, decide_eq_true_eq] at h1
    rcases List.mem_cons.1 ha with rfl | ha
    · exact h1.1.1
    · have := okFrom_last l _ _ h.2 a ha
      omega
theorem okFrom_prev : ∀ (l prev : List Ai) (last : Int), okFrom prev last l = true → ∀ a ∈ l, ∀ b ∈ prev, meetB a b = false
  | [], _, _, _, a, ha, _, _ => by simp at ha
  | x :: l, prev, last, h, a, ha, b, hb => by
    simp only [okFrom, Bool.and_eq_true] at h
    rcases List.mem_cons.1 ha with rfl | ha
    · have h1 := h.1
      simp only [okA, Bool.and_eq_true, Bool.not_eq_true'] at h1
      have h2 := h1.2.2.2.2
      rw [Bool.eq_false_iff]
      intro hm
      rw [List.any_eq_true.2 ⟨b, hb, hm⟩] at h2
      cases h2
    · exact okFrom_prev l _ _ h.2 a ha b (by simp [hb])
/-- Two aisles of a plan are one, or have other IDs and do not meet. -/
theorem okFrom_two : ∀ (l prev : List Ai) (last : Int), okFrom prev last l = true → ∀ a ∈ l, ∀ b ∈ l, a = b ∨ (a.1 ≠ b.1 ∧ meetB a b = false)
  | [], _, _, _, a, ha, _, _ => by simp at ha
  | x :: l, prev, last, h, a, ha, b, hb => by
    simp only [okFrom, Bool.and_eq_true] at h
    rcases List.mem_cons.1 ha with rfl | ha'
    · rcases List.mem_cons.1 hb with rfl | hb
      · exact .inl rfl
      · have h1 := okFrom_last l _ _ h.2 b hb
        have h2 := okFrom_prev l _ _ h.2 b hb a (by simp)
        exact .inr ⟨by omega, by rw [meet_comm]; exact h2⟩
    · rcases List.mem_cons.1 hb with rfl | hb'
      · have h1 := okFrom_last l _ _ h.2 a ha'
        have h2 := okFrom_prev l _ _ h.2 a ha' b (by simp)
        exact .inr ⟨by omega, h2⟩
      · exact okFrom_two l _ _ h.2 a ha' b hb'
theorem has_meet {a b : Ai} {x : Pt} (h1 : hasB a x = true) (h2 : hasB b x = true) : meetB a b = true := by
  simp only [hasB, decide_eq_true_eq] at h1 h2
  unfold meetB
  exact decide_eq_true (by omega)

theorem refSet_any (l : List Int) (f : Int → Bool) : (Is.refSet l).any f = l.any f := by
  have hm : ∀ x, x ∈ Is.refSet l ↔ x ∈ l := fun x => Is.refSet_mem l x
  rw [Bool.eq_iff_iff, List.any_eq_true, List.any_eq_true]
  constructor
  · rintro ⟨x, h1, h2⟩; exact ⟨x, (hm x).1 h1, h2⟩
  · rintro ⟨x, h1, h2⟩; exact ⟨x, (hm x).2 h1, h2⟩

theorem back_hit (l : List Ai) (p q : Pt) (hok : okFrom [] 0 l = true) (a : Ai) (ha : a ∈ l) : (routeL p q 0).any (hitW l a) = (crossL l p q 0).any (· == a.1) := by
  unfold crossL
  rw [refSet_any, Bool.eq_iff_iff, List.any_eq_true, List.any_eq_true]
  constructor
  · rintro ⟨x, hx, h⟩
    simp only [hitW, atIs, atId, Bool.and_eq_true, beq_iff_eq] at h
    cases hf : l.find? (fun b => hasB b x) with
    | none => rw [hf] at h; cases h.1
    | some b =>
      rw [hf] at h
      have hb : hasB b x = true := by have := List.find?_some hf; simpa using this
      have hon : onLegs p q 0 b = true := by rw [← route_any]; exact List.any_eq_true.2 ⟨x, hx, hb⟩
      refine ⟨b.1, List.mem_map.2 ⟨b, List.mem_filter.2 ⟨List.mem_of_find?_eq_some hf, hon⟩, rfl⟩, ?_⟩
      rw [beq_iff_eq]; exact h.2
  · rintro ⟨z, hz, h⟩
    rw [beq_iff_eq] at h
    obtain ⟨b, hb, rfl⟩ := List.mem_map.1 hz
    obtain ⟨hbl, hon⟩ := List.mem_filter.1 hb
    rw [← route_any, List.any_eq_true] at hon
    obtain ⟨x, hx, hbx⟩ := hon
    refine ⟨x, hx, ?_⟩
    cases hf : l.find? (fun b => hasB b x) with
    | none =>
      have := List.find?_eq_none.1 hf b hbl
      exact absurd hbx this
    | some b' =>
      have hb' : hasB b' x = true := by have := List.find?_some hf; simpa using this
      have hm := has_meet hbx hb'
      rcases okFrom_two l [] 0 hok b hbl b' (List.mem_of_find?_eq_some hf) with e | ⟨_, e⟩
      · subst e
        simp only [hitW, atIs, atId, hf, Bool.true_and, beq_iff_eq]
        exact h
      · rw [hm] at e; cases e

theorem block_comm (p q : Pt) : blockA p q = blockA q p := by
  unfold blockA
  rw [Int.min_comm, Int.min_comm p.2, Int.max_comm, Int.max_comm p.2]
theorem legs_back (p q : Pt) (a : Ai) : onLegs q p 1 a = onLegs p q 0 a := by
  unfold onLegs
  have e1 : (cornerX 1 (nearP q) (nearP p), cornerY 1 (nearP q) (nearP p)) = ((nearP q).1, (nearP p).2) := rfl
  have e2 : (cornerX 0 (nearP p) (nearP q), cornerY 0 (nearP p) (nearP q)) = ((nearP q).1, (nearP p).2) := rfl
  rw [e1, e2, block_comm (nearP q), block_comm _ (nearP p), Bool.or_comm]

theorem route_end (p q : Pt) (how : Int) : ∃ l', routeL p q how = l' ++ [nearP q] := by
  unfold routeL
  obtain ⟨h1, h2⟩ := corner_line how (nearP p) (nearP q)
  generalize nearP p = x at *
  generalize nearP q = z at *
  generalize cornP how x z = c at *
  obtain ⟨l1, e1, _⟩ := seg_last ((c.1 - x.1).natAbs + (c.2 - x.2).natAbs) (sgnI (c.1 - x.1), sgnI (c.2 - x.2)) x []
  rw [List.nil_append, endP_line x c h1] at e1
  obtain ⟨l2, e2, _⟩ := seg_last ((z.1 - c.1).natAbs + (z.2 - c.2).natAbs) (sgnI (z.1 - c.1), sgnI (z.2 - c.2)) c l1
  rw [endP_line c z h2] at e2
  refine ⟨l2, ?_⟩
  rw [show x :: (lineL x c ++ lineL c z) = (x :: lineL x c) ++ lineL c z from rfl, show x :: lineL x c = l1 ++ [c] from e1, List.append_assoc]
  exact e2

theorem lawBack (l : List Ai) (p q : Pt) : Sound Q N.law07_PlanBack [.ro tA l, agP p, agP q] [] (.bool true, []) := by
  refine sound_of_run (hn := hn0) tB_ok (n := 200000) ?_
  rw [eB]
  cases hR : rightB l
  · rfl
  have hlen : l.length ≤ 32 := by
    unfold rightB at hR
    simp only [Bool.and_eq_true, decide_eq_true_eq] at hR
    exact hR.1
  have hok : okFrom [] 0 l = true := by
    unfold rightB at hR
    simp only [Bool.and_eq_true] at hR
    exact hR.2
  cases hp : smallB p 200
  · rfl
  cases hq : smallB q 200
  · rfl
  have hcl : (crossL l p q 0).length ≤ 32 := by
    unfold crossL
    have := refSet_len ((l.filter (onLegs p q 0)).map (·.1))
    have h3 := List.length_filter_le (onLegs p q 0) l
    rw [List.length_map] at this
    omega
  have hcc : crossL l q p 1 = crossL l p q 0 := by
    unfold crossL
    rw [show onLegs q p 1 = onLegs p q 0 from funext (legs_back p q)]
  have np : nearP p = p := near_id (small_up hp)
  have nq : nearP q = q := near_id (small_up hq)
  have hp' := hp
  have hq' := hq
  simp only [smallB, decide_eq_true_eq] at hp' hq'
  have hw : (routeL p q 0).length = 1 + ((q.1 - p.1).natAbs + (q.2 - p.2).natAbs) := by
    unfold routeL
    rw [List.length_cons, List.length_append, line_len, line_len, np, nq]
    show (((q.1 - p.1).natAbs + (p.2 - p.2).natAbs) + ((q.1 - q.1).natAbs + (q.2 - p.2).natAbs)) + 1 = _
    omega
  have hst : wr ((1 : Int) + stepsI (wr (q.1 - p.1)) (wr (q.2 - p.2))) = ((routeL p q 0).length : Int) := by
    rw [wr_id (z := q.1 - p.1) (by omega) (by omega), wr_id (z := q.2 - p.2) (by omega) (by omega)]
    unfold stepsI
    rw [clipF_id (x := q.1 - p.1) (by omega), clipF_id (x := q.2 - p.2) (by omega), wr_id (by omega) (by omega), hw]
    omega
  obtain ⟨l', he⟩ := route_end p q 0
  have hl' : l'.length < 1000000 := by
    have := congrArg List.length he
    rw [List.length_append, List.length_singleton, hw] at this
    omega
  obtain ⟨f1, f2⟩ := lastP_app l' (nearP q) hl'
  rw [← he] at f1 f2
  unfold lastP at f1
  rw [Nat.zero_add] at f1
  unfold inL at f2
  rw [Bool.not_true, cond_false, cond_false, cond_false, cond_dec (p := l.length < 1000000) (by omega), cond_dec (p := l.length < 1000000) (by omega), cond_dec (p := (crossL l p q 0).length < Is.big) (by unfold Is.big; omega), hcc, decide_eq_true rfl, Bool.not_true, cond_false, hst]
  have z1 : (((routeL p q 0).length : Int) != ((routeL p q 0).length : Int)) = false := by simp
  have z2 : (decide ((0 : Int) ≤ (0 : Int)) && decide ((0 : Int) < ((routeL p q 0).length : Int))) = true := by
    rw [hw]; simp; omega
  have z3 : clipI p.1 = p.1 := congrArg Prod.fst np
  have z4 : clipI p.2 = p.2 := congrArg Prod.snd np
  rw [z1, cond_false, z2, cond_true, z3, z4, f2, cond_true, f1, nq]
  simp only [beq_self_eq_true, Bool.and_self, Bool.not_true, cond_false]
  have := ba_loop l (routeL p q 0) (crossL l p q 0) 200000 (by omega) (by omega) (by omega) ⟨by omega, by omega⟩ (fun a ha => back_hit l p q hok a ha) 200000 0 (by omega)
  exact this
end Mo
end Go.Ab
