/- PlanTurns: moved aisles, points and ways, in plain words. -/
import Derived.Test.YtmclfehlflekhaaMA
namespace Go.Ab
set_option linter.unusedVariables false
namespace Mo
open Pl
/-- A point, turned by k quarters and shifted. -/
def tr (k : Int) (t p : Pt) : Pt := ((turnQ p k).1 + t.1, (turnQ p k).2 + t.2)
theorem clipF_id {x : Int} (h : -1048576 ≤ x ∧ x ≤ 1048576) : clipF x = x := by unfold clipF; omega
theorem clipI_id {x : Int} (h : -1000 ≤ x ∧ x ≤ 1000) : clipI x = x := by unfold clipI; omega
theorem doP_tr (k : Int) (t p : Pt) (ht : smallB t 200 = true) (hp : smallB p 200 = true) : doP k t p = tr (k % 4) t p := by
  simp only [smallB, decide_eq_true_eq] at ht hp
  unfold doP tr fixP
  rw [clipF_id (x := p.1) (by omega), clipF_id (x := p.2) (by omega), clipF_id (x := t.1) (by omega), clipF_id (x := t.2) (by omega)]

/-- Is an aisle one of points at all? -/
def Ok (a : Ai) : Prop := a.2.1.1 ≤ a.2.2.1 ∧ a.2.1.2 ≤ a.2.2.2
/-- An aisle's corners, turned and shifted. -/
def trA (k : Int) (t : Pt) (a : Ai) : Ai := (a.1, (min (tr k t a.2.1).1 (tr k t a.2.2).1, min (tr k t a.2.1).2 (tr k t a.2.2).2), (max (tr k t a.2.1).1 (tr k t a.2.2).1, max (tr k t a.2.1).2 (tr k t a.2.2).2))

theorem quarters {k : Int} (h : 0 ≤ k ∧ k < 4) : k = 0 ∨ k = 1 ∨ k = 2 ∨ k = 3 := by omega

theorem trA_ok (k : Int) (t : Pt) (a : Ai) : Ok (trA k t a) := by unfold Ok trA; dsimp only; omega

theorem tr_meet (k : Int) (hk : 0 ≤ k ∧ k < 4) (t : Pt) (a b : Ai) (ha : Ok a) (hb : Ok b) : meetB (trA k t a) (trA k t b) = meetB a b := by
  obtain ⟨_, ⟨a1, a2⟩, a3, a4⟩ := a
  obtain ⟨_, ⟨b1, b2⟩, b3, b4⟩ := b
  obtain ⟨t1, t2⟩ := t
  unfold Ok at ha hb
  dsimp only at ha hb
  rw [Bool.eq_iff_iff]
  rcases quarters hk with rfl | rfl | rfl | rfl <;> simp [meetB, trA, tr, turnQ] <;> omega

theorem tr_has (k : Int) (hk : 0 ≤ k ∧ k < 4) (t : Pt) (a : Ai) (ha : Ok a) (p : Pt) : hasB (trA k t a) (tr k t p) = hasB a p := by
  obtain ⟨_, ⟨a1, a2⟩, a3, a4⟩ := a
  obtain ⟨p1, p2⟩ := p
  obtain ⟨t1, t2⟩ := t
  unfold Ok at ha
  dsimp only at ha
  rw [Bool.eq_iff_iff]
  rcases quarters hk with rfl | rfl | rfl | rfl <;> simp [hasB, trA, tr, turnQ] <;> omega

theorem tr_block (k : Int) (hk : 0 ≤ k ∧ k < 4) (t p q : Pt) : blockA (tr k t p) (tr k t q) = trA k t (blockA p q) := by
  obtain ⟨p1, p2⟩ := p
  obtain ⟨q1, q2⟩ := q
  obtain ⟨t1, t2⟩ := t
  rcases quarters hk with rfl | rfl | rfl | rfl <;> simp [blockA, trA, tr, turnQ] <;> omega
theorem block_ok (p q : Pt) : Ok (blockA p q) := by unfold Ok blockA; dsimp only; omega

theorem tr_corner (k : Int) (hk : 0 ≤ k ∧ k < 4) (t p q : Pt) (one : Int) (h1 : one = 0 ∨ one = 1) :
    (cornerX (if k % 2 = 0 then one else 1 - one) (tr k t p) (tr k t q), cornerY (if k % 2 = 0 then one else 1 - one) (tr k t p) (tr k t q)) = tr k t (cornerX one p q, cornerY one p q) := by
  obtain ⟨p1, p2⟩ := p
  obtain ⟨q1, q2⟩ := q
  obtain ⟨t1, t2⟩ := t
  rcases quarters hk with rfl | rfl | rfl | rfl <;> rcases h1 with rfl | rfl <;> simp [cornerX, cornerY, tr, turnQ]

theorem tr_small (k : Int) (hk : 0 ≤ k ∧ k < 4) (t p : Pt) (ht : smallB t 200 = true) (hp : smallB p 200 = true) : smallB (tr k t p) 400 = true := by
  obtain ⟨p1, p2⟩ := p
  obtain ⟨t1, t2⟩ := t
  simp only [smallB, decide_eq_true_eq] at ht hp ⊢
  rcases quarters hk with rfl | rfl | rfl | rfl <;> simp [tr, turnQ] <;> omega

theorem near_id {p : Pt} (h : smallB p 400 = true) : nearP p = p := by
  simp only [smallB, decide_eq_true_eq] at h
  unfold nearP
  rw [clipI_id (by omega), clipI_id (by omega)]
theorem small_up {p : Pt} (h : smallB p 200 = true) : smallB p 400 = true := by
  simp only [smallB, decide_eq_true_eq] at h ⊢; omega

/-- A way that is moved goes through the same aisles, moved. -/
theorem tr_onLegs (k : Int) (hk : 0 ≤ k ∧ k < 4) (t p q : Pt) (one : Int) (h1 : one = 0 ∨ one = 1) (ht : smallB t 200 = true) (hp : smallB p 200 = true) (hq : smallB q 200 = true) (a : Ai) (ha : Ok a) :
    onLegs (tr k t p) (tr k t q) (if k % 2 = 0 then one else 1 - one) (trA k t a) = onLegs p q one a := by
  unfold onLegs
  rw [near_id (tr_small k hk t p ht hp), near_id (tr_small k hk t q ht hq), near_id (small_up hp), near_id (small_up hq), tr_corner k hk t p q one h1, tr_block k hk, tr_block k hk, tr_meet k hk t _ _ ha (block_ok _ _), tr_meet k hk t _ _ ha (block_ok _ _)]

/-- A right row of aisles: each one by itself. -/
theorem okFrom_ok : ∀ (l prev : List Ai) (last : Int), okFrom prev last l = true → ∀ a ∈ l, Ok a
  | [], _, _, _, a, ha => by simp at ha
  | x :: l, prev, last, h, a, ha => by
    simp only [okFrom, Bool.and_eq_true] at h
    rcases List.mem_cons.1 ha with rfl | ha
    · have h1 := h.1
      simp only [okA, Bool.and_eq_true, decide_eq_true_eq] at h1
      exact h1.2.2.2.1
    · exact okFrom_ok l _ _ h.2 a ha

theorem tr_okFrom (k : Int) (hk : 0 ≤ k ∧ k < 4) (t : Pt) (ht : smallB t 200 = true) : ∀ (l prev : List Ai) (last : Int), okFrom prev last l = true → (∀ a ∈ prev, Ok a) → (∀ a ∈ l, smallB a.2.1 200 = true ∧ smallB a.2.2 200 = true) →
    okFrom (prev.map (trA k t)) last (l.map (trA k t)) = true
  | [], _, _, _, _, _ => rfl
  | a :: l, prev, last, h, hp, hs => by
    simp only [okFrom, Bool.and_eq_true, List.map_cons] at h ⊢
    obtain ⟨h1, h2⟩ := h
    obtain ⟨s1, s2⟩ := hs a (by simp)
    have hok : Ok a := by
      simp only [okA, Bool.and_eq_true, decide_eq_true_eq] at h1
      exact h1.2.2.2.1
    refine ⟨?_, ?_⟩
    · simp only [okA, Bool.and_eq_true, decide_eq_true_eq, Bool.not_eq_true'] at h1 ⊢
      obtain ⟨i1, i2, i3, i4, i5⟩ := h1
      have b1 := tr_small k hk t _ ht s1
      have b2 := tr_small k hk t _ ht s2
      simp only [smallB, decide_eq_true_eq] at b1 b2
      refine ⟨i1, ?_, ?_, trA_ok k t a, ?_⟩
      · unfold wideB; exact decide_eq_true (by dsimp only [trA]; omega)
      · unfold wideB; exact decide_eq_true (by dsimp only [trA]; omega)
      · rw [List.any_map]
        rw [← i5]
        have : ∀ (prev : List Ai), (∀ a ∈ prev, Ok a) → prev.any (meetB (trA k t a) ∘ trA k t) = prev.any (meetB a) := fun prev => by
          induction prev with
          | nil => intro _; rfl
          | cons b prev ih =>
            intro hp
            rw [List.any_cons, List.any_cons, ih fun c hc => hp c (by simp [hc])]
            simp only [Function.comp]
            rw [tr_meet k hk t a b hok (hp b (by simp))]
        exact this prev hp
    · have := tr_okFrom k hk t ht l (prev ++ [a]) a.1 h2 (fun b hb => by
        rcases List.mem_append.1 hb with hb | hb
        · exact hp b hb
        · have : b = a := by simpa using hb
          subst this; exact hok) (fun b hb => hs b (by simp [hb]))
      rw [List.map_append] at this
      exact this
end Mo
end Go.Ab

/- PlanTurns: off its code. -/
namespace Go.Ab
set_option linter.unusedVariables false
/-- A row of which each one must fulfil something. -/
theorem all_loop {α : Type} {F : Nat → Int → Ans} (l : List α) (d : α) (e : α → Bool) (hl : l.length < 1000000)
    (h : ∀ m i, F (m + 1) i = cond (decide (i < (l.length : Int))) (cond (decide (0 ≤ i) && decide (i < (l.length : Int))) (cond (e (l.getD i.toNat d)) (F m (wr (i + 1))) (some (.bool false, []))) none) (some (.bool true, []))) :
    ∀ (m i : Nat), l.length - i < m → F m i = some (.bool ((l.drop i).all e), []) := by
  intro m
  induction m with
  | zero => intro i h; omega
  | succ m ih =>
    intro i hm
    rw [h, dec_lt, dec_nn, Bool.true_and]
    by_cases hi : i < l.length
    · rw [cond_dec hi, cond_dec hi, Int.toNat_natCast, wrN (by omega), ih (i + 1) (by omega), getD_drop (d := d) hi, List.all_cons]
      cases e (l.getD i d)
      · rfl
      · simp only [cond_true, Bool.true_and]
    · rw [cond_dec' hi, List.drop_eq_nil_of_le (by omega)]; rfl
namespace Mo
open Pl
noncomputable def tSm : Callf := addT N.ref03_Small gSmall noCall
theorem tSm_ok : CallOK Q tSm := addT_ok noCall_ok gSmall_ok
abbrev SLSma (l : List Ai) (k : Int) (i1 : Int) : St := ⟨.ro tA l :: .int .i64 k :: J :: J :: J :: .int .i64 i1 :: js 24, []⟩
def allSm (l : List Ai) (k : Int) : Bool := l.all fun a => smallB a.2.1 k && smallB a.2.2 k
def gLSm : G
  | [.ro (.pair (.int .i64) (.pair (.pair (.int .i64) (.int .i64)) (.pair (.int .i64) (.int .i64)))) l, .int .i64 k], [] => some (decide (l.length < 1000000 ∧ 0 ≤ k ∧ k ≤ 1000000), .bool (allSm l k), [])
  | _, _ => none
def gMSm : G
  | [.agg [.int .i64 t, .int .i64 x, .int .i64 y], .int .i64 k], [] => some (decide (0 ≤ k ∧ k ≤ 1000000), .bool (smallB (x, y) k), [])
  | _, _ => none
def atId (l : List Ai) (p : Pt) : Int := match List.find? (fun x => hasB x p) l with | some a => a.1 | none => 0
def atIs (l : List Ai) (p : Pt) : Bool := match List.find? (fun x => hasB x p) l with | some a => true | none => false
abbrev ff : Ans := some (.bool false, [])
abbrev tt : Ans := some (.bool true, [])
/-- What comes behind the guards. -/
def restTu (l x : List Ai) (p q a b : Pt) (one other : Int) : Ans :=
  cond (rightB x) (cond (atId l p == atId x a) (cond (atIs l p == atIs x a) (cond (decide (l.length < 1000000)) (cond (decide (x.length < 1000000)) (cond (decide ((crossL l p q one).length < Is.big)) (cond (decide (crossL l p q one = crossL x a b other)) tt ff) none) none) none) ff) ff) ff
theorem refSet_len (l : List Int) : (Is.refSet l).length ≤ l.length := by
  have : ∀ (l out : List Int), (l.foldl (fun o x => Is.ins x false o) out).length ≤ l.length + out.length := by
    intro l
    induction l with
    | nil => intro out; simp
    | cons x l ih => intro out; rw [List.foldl_cons]; have := ih (Is.ins x false out); have := Is.ins_len x false out; simp; omega
  have := this l []
  simpa [Is.refSet] using this

theorem find_map {α : Type} (f : α → α) (g h : α → Bool) : ∀ (l : List α), (∀ a ∈ l, g (f a) = h a) → (l.map f).find? g = (l.find? h).map f
  | [], _ => rfl
  | a :: l, e => by
    rw [List.map_cons, List.find?_cons, List.find?_cons, e a (by simp)]
    cases h a
    · exact find_map f g h l fun b hb => e b (by simp [hb])
    · rfl
theorem filter_map_id (f : Ai → Ai) (hf : ∀ a, (f a).1 = a.1) (g h : Ai → Bool) : ∀ (l : List Ai), (∀ a ∈ l, g (f a) = h a) → ((l.map f).filter g).map (·.1) = (l.filter h).map (·.1)
  | [], _ => rfl
  | a :: l, e => by
    rw [List.map_cons, List.filter_cons, List.filter_cons, e a (by simp)]
    have ih := filter_map_id f hf g h l fun b hb => e b (by simp [hb])
    cases h a
    · simpa using ih
    · simp only [if_true, List.map_cons, hf, ih]

theorem rest_tt (l : List Ai) (w : Mn) (p q : Pt) (one other : Int) (hR : rightB l = true) (hs : allSm l 200 = true) (hw : smallB w.2 200 = true) (hp : smallB p 200 = true) (hq : smallB q 200 = true)
    (h1 : one = 0 ∨ one = 1) (h2 : other = if w.1 % 4 % 2 = 0 then one else 1 - one) : restTu l (l.map (movedA w)) p q (doP w.1 w.2 p) (doP w.1 w.2 q) one other = tt := by
  have hk : 0 ≤ w.1 % 4 ∧ w.1 % 4 < 4 := by omega
  have hs' : ∀ a ∈ l, smallB a.2.1 200 = true ∧ smallB a.2.2 200 = true := fun a ha => by
    have := List.all_eq_true.1 hs a ha
    simpa using this
  have hm : l.map (movedA w) = l.map (trA (w.1 % 4) w.2) := List.map_congr_left fun a ha => by
    obtain ⟨s1, s2⟩ := hs' a ha
    unfold movedA trA
    rw [doP_tr _ _ _ hw s1, doP_tr _ _ _ hw s2]
  have hlen : l.length ≤ 32 := by
    unfold rightB at hR
    simp only [Bool.and_eq_true, decide_eq_true_eq] at hR
    exact hR.1
  have hok : okFrom [] 0 l = true := by
    unfold rightB at hR
    simp only [Bool.and_eq_true] at hR
    exact hR.2
  have hOk := okFrom_ok l [] 0 hok
  have r1 : rightB (l.map (trA (w.1 % 4) w.2)) = true := by
    unfold rightB
    rw [Bool.and_eq_true]
    exact ⟨decide_eq_true (by rw [List.length_map]; exact hlen), tr_okFrom _ hk _ hw l [] 0 hok (fun a ha => by simp at ha) hs'⟩
  have r2 : (l.map (trA (w.1 % 4) w.2)).find? (fun x => hasB x (tr (w.1 % 4) w.2 p)) = (l.find? (fun x => hasB x p)).map (trA (w.1 % 4) w.2) :=
    find_map _ _ _ l fun a ha => tr_has _ hk _ a (hOk a ha) p
  have r3 : atId (l.map (trA (w.1 % 4) w.2)) (tr (w.1 % 4) w.2 p) = atId l p := by
    unfold atId
    rw [r2]
    cases l.find? (fun x => hasB x p) <;> rfl
  have r4 : atIs (l.map (trA (w.1 % 4) w.2)) (tr (w.1 % 4) w.2 p) = atIs l p := by
    unfold atIs
    rw [r2]
    cases l.find? (fun x => hasB x p) <;> rfl
  have r5 : crossL (l.map (trA (w.1 % 4) w.2)) (tr (w.1 % 4) w.2 p) (tr (w.1 % 4) w.2 q) other = crossL l p q one := by
    unfold crossL
    rw [filter_map_id (trA (w.1 % 4) w.2) (fun a => rfl) _ (onLegs p q one) l fun a ha => by rw [h2]; exact tr_onLegs _ hk _ p q one h1 hw hp hq a (hOk a ha)]
  have r6 : (crossL l p q one).length < Is.big := by
    unfold crossL
    have := refSet_len ((l.filter (onLegs p q one)).map (·.1))
    have h3 := List.length_filter_le (onLegs p q one) l
    rw [List.length_map] at this
    unfold Is.big
    omega
  unfold restTu
  rw [hm, doP_tr _ _ _ hw hp, doP_tr _ _ _ hw hq, r1, r3, r4, r5, cond_true, beq_self_eq_true, beq_self_eq_true, cond_true, cond_true, cond_dec (p := l.length < 1000000) (by omega), cond_dec (by rw [List.length_map]; omega), cond_dec r6, cond_dec rfl]

end Mo
end Go.Ab
