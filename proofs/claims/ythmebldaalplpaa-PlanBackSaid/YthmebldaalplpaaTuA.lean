/- PlanTurns: moved aisles, points and ways, in plain words. -/
import Derived.Test.YthmebldaalplpaaMoC
namespace Go.Ab
set_option linter.unusedVariables false
namespace Mo
open Pl
/-- A point, turned by k quarters and shifted. -/
def tr (k : Int) (t p : Pt) : Pt := ((turnQ p k).1 + t.1, (turnQ p k).2 + t.2)
theorem clipF_id {x : Int} (h : -1048576 ≤ x ∧ x ≤ 1048576) : clipF x = x := by unfold clipF; omega
theorem clipI_id {x : Int} (h : -1000 ≤ x ∧ x ≤ 1000) : clipI x = x := by unfold clipI; omega
theorem doP_tr (k : Int) (t p : Pt) (ht : smallB t 200 = true) (hp : smallB p 200 = true) : doP k t p = tr (k % 4) t p := by
  simp only [smallB, decide_eq_true_eq] at ht hp
  unfold doP tr fixP
  rw [clipF_id (x := p.1) (by omega), clipF_id (x := p.2) (by omega), clipF_id (x := t.1) (by omega), clipF_id (x := t.2) (by omega)]

/-- Is an aisle one of points at all? -/
def Ok (a : Ai) : Prop := a.2.1.1 ≤ a.2.2.1 ∧ a.2.1.2 ≤ a.2.2.2
/-- An aisle's corners, turned and shifted. -/
def trA (k : Int) (t : Pt) (a : Ai) : Ai := (a.1, (min (tr k t a.2.1).1 (tr k t a.2.2).1, min (tr k t a.2.1).2 (tr k t a.2.2).2), (max (tr k t a.2.1).1 (tr k t a.2.2).1, max (tr k t a.2.1).2 (tr k t a.2.2).2))

theorem quarters {k : Int} (h : 0 ≤ k ∧ k < 4) : k = 0 ∨ k = 1 ∨ k = 2 ∨ k = 3 := by omega

theorem trA_ok (k : Int) (t : Pt) (a : Ai) : Ok (trA k t a) := by unfold Ok trA; dsimp only; omega

theorem tr_meet (k : Int) (hk : 0 ≤ k ∧ k < 4) (t : Pt) (a b : Ai) (ha : Ok a) (hb : Ok b) : meetB (trA k t a) (trA k t b) = meetB a b := by
  obtain ⟨_, ⟨a1, a2⟩, a3, a4⟩ := a
  obtain ⟨_, ⟨b1, b2⟩, b3, b4⟩ := b
  obtain ⟨t1, t2⟩ := t
  unfold Ok at ha hb
  dsimp only at ha hb
  rw [Bool.eq_iff_iff]
  rcases quarters hk with rfl | rfl | rfl | rfl <;> simp [meetB, trA, tr, turnQ] <;> omega

theorem tr_has (k : Int) (hk : 0 ≤ k ∧ k < 4) (t : Pt) (a : Ai) (ha : Ok a) (p : Pt) : hasB (trA k t a) (tr k t p) = hasB a p := by
  obtain ⟨_, ⟨a1, a2⟩, a3, a4⟩ := a
  obtain ⟨p1, p2⟩ := p
  obtain ⟨t1, t2⟩ := t
  unfold Ok at ha
  dsimp only at ha
  rw [Bool.eq_iff_iff]
  rcases quarters hk with rfl | rfl | rfl | rfl <;> simp [hasB, trA, tr, turnQ] <;> omega

theorem tr_block (k : Int) (hk : 0 ≤ k ∧ k < 4) (t p q : Pt) : blockA (tr k t p) (tr k t q) = trA k t (blockA p q) := by
  obtain ⟨p1, p2⟩ := p
  obtain ⟨q1, q2⟩ := q
  obtain ⟨t1, t2⟩ := t
  rcases quarters hk with rfl | rfl | rfl | rfl <;> simp [blockA, trA, tr, turnQ] <;> omega
theorem block_ok (p q : Pt) : Ok (blockA p q) := by unfold Ok blockA; dsimp only; omega

theorem tr_corner (k : Int) (hk : 0 ≤ k ∧ k < 4) (t p q : Pt) (one : Int) (h1 : one = 0 ∨ one = 1) :
    (cornerX (if k % 2 = 0 then one else 1 - one) (tr k t p) (tr k t q), cornerY (if k % 2 = 0 then one else 1 - one) (tr k t p) (tr k t q)) = tr k t (cornerX one p q, cornerY one p q) := by
  obtain ⟨p1, p2⟩ := p
  obtain ⟨q1, q2⟩ := q
  obtain ⟨t1, t2⟩ := t
  rcases quarters hk with rfl | rfl | rfl | rfl <;> rcases h1 with rfl | rfl <;> simp [cornerX, cornerY, tr, turnQ]

theorem tr_small (k : Int) (hk : 0 ≤ k ∧ k < 4) (t p : Pt) (ht : smallB t 200 = true) (hp : smallB p 200 = true) : smallB (tr k t p) 400 = true := by
  obtain ⟨p1, p2⟩ := p
  obtain ⟨t1, t2⟩ := t
  simp only [smallB, decide_eq_true_eq] at ht hp ⊢
  rcases quarters hk with rfl | rfl | rfl | rfl <;> simp [tr, turnQ] <;> omega

theorem near_id {p : Pt} (h : smallB p 400 = true) : nearP p = p := by
  simp only [smallB, decide_eq_true_eq] at h
  unfold nearP
  rw [clipI_id (by omega), clipI_id (by omega)]
theorem small_up {p : Pt} (h : smallB p 200 = true) : smallB p 400 = true := by
  simp only [smallB, decide_eq_true_eq] at h ⊢; omega

/-- A way that is moved goes through the same aisles, moved. -/
theorem tr_onLegs (k : Int) (hk : 0 ≤ k ∧ k < 4) (t p q : Pt) (one : Int) (h1 : one = 0 ∨ one = 1) (ht : smallB t 200 = true) (hp : smallB p 200 = true) (hq : smallB q 200 = true) (a : Ai) (ha : Ok a) :
    onLegs (tr k t p) (tr k t q) (if k % 2 = 0 then one else 1 - one) (trA k t a) = onLegs p q one a := by
  unfold onLegs
  rw [near_id (tr_small k hk t p ht hp), near_id (tr_small k hk t q ht hq), near_id (small_up hp), near_id (small_up hq), tr_corner k hk t p q one h1, tr_block k hk, tr_block k hk, tr_meet k hk t _ _ ha (block_ok _ _), tr_meet k hk t _ _ ha (block_ok _ _)]

/-- A right row of aisles: each one by itself. -/
theorem okFrom_ok : ∀ (l prev : List Ai) (last : Int), okFrom prev last l = true → ∀ a ∈ l, Ok a
  | [], _, _, _, a, ha => by simp at ha
  | x :: l, prev, last, h, a, ha => by
    simp only [okFrom, Bool.and_eq_true] at h
    rcases List.mem_cons.1 ha with rfl | ha
    · have h1 := h.1
      simp only [okA, Bool.and_eq_true, decide_eq_true_eq] at h1
      exact h1.2.2.2.1
    · exact okFrom_ok l _ _ h.2 a ha

theorem tr_okFrom (k : Int) (hk : 0 ≤ k ∧ k < 4) (t : Pt) (ht : smallB t 200 = true) : ∀ (l prev : List Ai) (last : Int), okFrom prev last l = true → (∀ a ∈ prev, Ok a) → (∀ a ∈ l, smallB a.2.1 200 = true ∧ smallB a.2.2 200 = true) →
    okFrom (prev.map (trA k t)) last (l.map (trA k t)) = true
  | [], _, _, _, _, _ => rfl
  | a :: l, prev, last, h, hp, hs => by
    simp only [okFrom, Bool.and_eq_true, List.map_cons] at h ⊢
    obtain ⟨h1, h2⟩ := h
    obtain ⟨s1, s2⟩ := hs a (by simp)
    have hok : Ok a := by
      simp only [okA, Bool.and_eq_true, decide_eq_true_eq] at h1
      exact h1.2.2.2.1
    refine ⟨?_, ?_⟩
    · simp only [okA, Bool.and_eq_true, decide_eq_true_eq, Bool.not_eq_true'] at h1 ⊢
      obtain ⟨i1, i2, i3, i4, i5⟩ := h1
      have b1 := tr_small k hk t _ ht s1
      have b2 := tr_small k hk t _ ht s2
      simp only [smallB, decide_eq_true_eq] at b1 b2
      refine ⟨i1, ?_, ?_, trA_ok k t a, ?_⟩
      · unfold wideB; exact decide_eq_true (by dsimp only [trA]; omega)
      · unfold wideB; exact decide_eq_true (by dsimp only [trA]; omega)
      · rw [List.any_map]
        rw [← i5]
        have : ∀ (prev : List Ai), (∀ a ∈ prev, Ok a) → prev.any (meetB (trA k t a) ∘ trA k t) = prev.any (meetB a) := fun prev => by
          induction prev with
          | nil => intro _; rfl
          | cons b prev ih =>
            intro hp
            rw [List.any_cons, List.any_cons, ih fun c hc => hp c (by simp [hc])]
            simp only [Function.comp]
            rw [tr_meet k hk t a b hok (hp b (by simp))]
        exact this prev hp
    · have := tr_okFrom k hk t ht l (prev ++ [a]) a.1 h2 (fun b hb => by
        rcases List.mem_append.1 hb with hb | hb
        · exact hp b hb
        · have : b = a := by simpa using hb
          subst this; exact hok) (fun b hb => hs b (by simp [hb]))
      rw [List.map_append] at this
      exact this
end Mo
end Go.Ab
