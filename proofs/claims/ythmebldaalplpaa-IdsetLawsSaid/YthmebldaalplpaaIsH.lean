/- IdsetOps, IdsetLaws: idset.sides, pick, Or, And, Less: what they compute. -/
import Derived.Test.YthmebldaalplpaaIsG
namespace Go.Ab.Is
open Go.Proofs
set_option linter.unusedVariables false

def one1 (b : Bool) (v : Int) : List Int := cond b [v] []

/-- Two rising lists, gone through at once. -/
def mg (c : Nat) : Nat → List Int → List Int → List Int
  | 0, _, _ => []
  | _ + 1, [], [] => []
  | k + 1, [], y0 :: y => one1 (kp c false true) y0 ++ mg c k [] y
  | k + 1, x0 :: x, [] => one1 (kp c true false) x0 ++ mg c k x []
  | k + 1, x0 :: x, y0 :: y =>
    if y0 ≤ x0 then (if x0 ≤ y0 then one1 (kp c true true) x0 ++ mg c k x y else one1 (kp c false true) y0 ++ mg c k (x0 :: x) y)
    else one1 (kp c true false) x0 ++ mg c k x (y0 :: y)

theorem B_cons (x0 : Int) (x : List Int) : B (x0 :: x) 0 = true := by unfold B; simp
theorem s1_cons (x0 : Int) (x : List Int) : s1 (x0 :: x) = true := by unfold s1; simp; omega
theorem len_pos (x0 : Int) (x : List Int) : decide (((x0 :: x).length : Int) > 0) = true := by simp

theorem leaf_eq {c n m : Nat} {x y l : List Int} {o t : Bool} {v : Int} {z : List Int} (hn : l.length + 1 ≤ most)
    (h : ∀ l', l'.length ≤ l.length + 1 → L77 n m (S77 c x y l') = fin77 c (l' ++ z)) : leaf c n m x y l o t v = fin77 c (l ++ (one1 (kp c o t) v ++ z)) := by
  unfold leaf one1
  cases kp c o t with
  | true => rw [cond_true, cond_true, N_true (by simpa using hn), cond_true, h _ (by simp), List.append_assoc]
  | false => rw [cond_false, cond_false, h _ (by omega), List.nil_append]

theorem sides_loop (c : Nat) (hc : c = 49 ∨ c = 50 ∨ c = 52) (n : Nat) : ∀ (m : Nat) (x y l : List Int), x.length + y.length < m → l.length + x.length + y.length < big * 2 →
    L77 n m (S77 c x y l) = fin77 c (l ++ mg c m x y) := by
  intro m
  unfold big
  induction m with
  | zero => intro x y l h; omega
  | succ m ih =>
    intro x y l h hb
    have hl : l.length + 1 ≤ most := by unfold most; omega
    match x, y with
    | [], [] => rw [r77nn c hc, mg, List.append_nil]
    | [], y0 :: y =>
      simp only [List.length_nil, List.length_cons] at h hb
      rw [r77n c hc, cond_dec (by rw [wrap64 (by simp; omega) (by simp; omega)]; simp only [List.length_nil, List.length_cons]; omega), len_pos, B_cons, s1_cons, cond_true, cond_true, cond_true, mg]
      exact leaf_eq hl fun l' hl' => ih [] y l' (by simp; omega) (by simp; omega)
    | x0 :: x, [] =>
      simp only [List.length_nil, List.length_cons] at h hb
      rw [r77x c hc, cond_dec (by rw [wrap64 (by simp; omega) (by simp; omega)]; simp only [List.length_nil, List.length_cons]; omega), len_pos, B_cons, s1_cons, cond_true, cond_true, cond_true, mg]
      exact leaf_eq hl fun l' hl' => ih x [] l' (by simp; omega) (by simp; omega)
    | x0 :: x, y0 :: y =>
      simp only [List.length_cons] at h hb
      rw [r77 c hc, cond_dec (by rw [wrap64 (by simp; omega) (by simp; omega)]; simp; omega), len_pos, B_cons, B_cons, cond_true, cond_true, cond_true, mg]
      unfold two77
      rw [len_pos, B_cons, B_cons, cond_true, cond_true, cond_true]
      unfold go77
      rw [B_cons, B_cons, s1_cons, s1_cons]
      simp only [cond_true]
      by_cases hy : y0 ≤ x0
      · rw [cond_dec hy, if_pos hy]
        by_cases hx : x0 ≤ y0
        · rw [cond_dec hx, if_pos hx]
          exact leaf_eq hl fun l' hl' => ih x y l' (by omega) (by omega)
        · rw [cond_dec' hx, if_neg hx]
          exact leaf_eq hl fun l' hl' => ih (x0 :: x) y l' (by simp; omega) (by simp; omega)
      · rw [cond_dec' hy, if_neg hy, cond_dec (by omega)]
        exact leaf_eq hl fun l' hl' => ih x (y0 :: y) l' (by simp; omega) (by simp; omega)

theorem one1_mem {b : Bool} {v u : Int} : u ∈ one1 b v ↔ b = true ∧ u = v := by cases b <;> simp [one1]

theorem mg_low (c : Nat) (z : Int) : ∀ (k : Nat) (x y : List Int), (∀ v ∈ x, z < v) → (∀ v ∈ y, z < v) → ∀ v ∈ mg c k x y, z < v
  | 0, _, _, _, _, v, h => by simp [mg] at h
  | _ + 1, [], [], _, _, v, h => by simp [mg] at h
  | k + 1, [], y0 :: y, hx, hy, v, h => by
    rw [mg, List.mem_append, one1_mem] at h
    rcases h with ⟨_, rfl⟩ | h
    · exact hy v (by simp)
    · exact mg_low c z k [] y hx (fun u hu => hy u (.tail _ hu)) v h
  | k + 1, x0 :: x, [], hx, hy, v, h => by
    rw [mg, List.mem_append, one1_mem] at h
    rcases h with ⟨_, rfl⟩ | h
    · exact hx v (by simp)
    · exact mg_low c z k x [] (fun u hu => hx u (.tail _ hu)) hy v h
  | k + 1, x0 :: x, y0 :: y, hx, hy, v, h => by
    rw [mg] at h
    have hx' : ∀ u ∈ x, z < u := fun u hu => hx u (.tail _ hu)
    have hy' : ∀ u ∈ y, z < u := fun u hu => hy u (.tail _ hu)
    split at h
    · split at h
      · rw [List.mem_append, one1_mem] at h
        rcases h with ⟨_, rfl⟩ | h
        · exact hx v (by simp)
        · exact mg_low c z k x y hx' hy' v h
      · rw [List.mem_append, one1_mem] at h
        rcases h with ⟨_, rfl⟩ | h
        · exact hy v (by simp)
        · exact mg_low c z k (x0 :: x) y hx hy' v h
    · rw [List.mem_append, one1_mem] at h
      rcases h with ⟨_, rfl⟩ | h
      · exact hx v (by simp)
      · exact mg_low c z k x (y0 :: y) hx' hy v h

/-- What is in the outcome. -/
theorem mg_mem (c : Nat) : ∀ (k : Nat) (x y : List Int), x.length + y.length < k → Up x → Up y → ∀ v, v ∈ mg c k x y ↔ (v ∈ x ∨ v ∈ y) ∧ kp c (decide (v ∈ x)) (decide (v ∈ y)) = true
  | 0, _, _, h, _, _, v => by omega
  | _ + 1, [], [], _, _, _, v => by simp [mg]
  | k + 1, [], y0 :: y, h, hx, hy, v => by
    have hy' := List.pairwise_cons.1 hy
    rw [mg, List.mem_append, one1_mem, mg_mem c k [] y (by simp at h ⊢; omega) hx hy'.2 v]
    by_cases e : v = y0
    · subst e
      have : v ∉ y := fun hm => by have := hy'.1 v hm; omega
      simp [this]
    · simp [e]
  | k + 1, x0 :: x, [], h, hx, hy, v => by
    have hx' := List.pairwise_cons.1 hx
    rw [mg, List.mem_append, one1_mem, mg_mem c k x [] (by simp at h ⊢; omega) hx'.2 hy v]
    by_cases e : v = x0
    · subst e
      have : v ∉ x := fun hm => by have := hx'.1 v hm; omega
      simp [this]
    · simp [e]
  | k + 1, x0 :: x, y0 :: y, h, hx, hy, v => by
    have hx' := List.pairwise_cons.1 hx
    have hy' := List.pairwise_cons.1 hy
    simp only [List.length_cons] at h
    rw [mg]
    by_cases hle : y0 ≤ x0
    · rw [if_pos hle]
      by_cases hle' : x0 ≤ y0
      · have : y0 = x0 := by omega
        subst this
        rw [if_pos (by omega), List.mem_append, one1_mem, mg_mem c k x y (by omega) hx'.2 hy'.2 v]
        by_cases e : v = y0
        · subst e
          have h1 : v ∉ x := fun hm => by have := hx'.1 v hm; omega
          have h2 : v ∉ y := fun hm => by have := hy'.1 v hm; omega
          simp [h1, h2]
        · simp [e]
      · rw [if_neg hle', List.mem_append, one1_mem, mg_mem c k (x0 :: x) y (by simp; omega) hx hy'.2 v]
        by_cases e : v = y0
        · subst e
          have h1 : v ∉ x := fun hm => by have := hx'.1 v hm; omega
          have h2 : v ∉ y := fun hm => by have := hy'.1 v hm; omega
          have h3 : ¬ v = x0 := by omega
          simp [h1, h2, h3]
        · simp [e]
    · rw [if_neg hle, List.mem_append, one1_mem, mg_mem c k x (y0 :: y) (by simp; omega) hx'.2 hy v]
      by_cases e : v = x0
      · subst e
        have h1 : v ∉ x := fun hm => by have := hx'.1 v hm; omega
        have h2 : v ∉ y := fun hm => by have := hy'.1 v hm; omega
        have h3 : ¬ v = y0 := by omega
        simp [h1, h2, h3]
      · simp [e]

theorem one1_up {b : Bool} {v : Int} {l : List Int} (h : Up l) (hv : ∀ u ∈ l, v < u) : Up (one1 b v ++ l) := by
  cases b
  · simpa [one1] using h
  · exact List.pairwise_cons.2 ⟨hv, h⟩

theorem mg_up (c : Nat) : ∀ (k : Nat) (x y : List Int), Up x → Up y → Up (mg c k x y)
  | 0, _, _, _, _ => by simp [mg]
  | _ + 1, [], [], _, _ => by simp [mg]
  | k + 1, [], y0 :: y, hx, hy => by
    have hy' := List.pairwise_cons.1 hy
    rw [mg]
    exact one1_up (mg_up c k [] y hx hy'.2) (mg_low c y0 k [] y (by simp) hy'.1)
  | k + 1, x0 :: x, [], hx, hy => by
    have hx' := List.pairwise_cons.1 hx
    rw [mg]
    exact one1_up (mg_up c k x [] hx'.2 hy) (mg_low c x0 k x [] hx'.1 (by simp))
  | k + 1, x0 :: x, y0 :: y, hx, hy => by
    have hx' := List.pairwise_cons.1 hx
    have hy' := List.pairwise_cons.1 hy
    rw [mg]
    by_cases hle : y0 ≤ x0
    · rw [if_pos hle]
      by_cases hle' : x0 ≤ y0
      · have : y0 = x0 := by omega
        subst this
        rw [if_pos (by omega)]
        exact one1_up (mg_up c k x y hx'.2 hy'.2) (mg_low c y0 k x y hx'.1 hy'.1)
      · rw [if_neg hle']
        exact one1_up (mg_up c k (x0 :: x) y hx hy'.2) (mg_low c y0 k (x0 :: x) y (fun u hu => by
          rcases List.mem_cons.1 hu with rfl | hu
          · omega
          · have := hx'.1 u hu; omega) hy'.1)
    · rw [if_neg hle]
      exact one1_up (mg_up c k x (y0 :: y) hx'.2 hy) (mg_low c x0 k x (y0 :: y) hx'.1 (fun u hu => by
          rcases List.mem_cons.1 hu with rfl | hu
          · omega
          · have := hy'.1 u hu; omega))

/-- idset.pick's outcome. -/
def pickI (c : Nat) (a b : List Int) : List Int := mg c (a.length + b.length + 1) (refSet a) (refSet b)

theorem mg_fuel (c : Nat) : ∀ (k k' : Nat) (x y : List Int), x.length + y.length < k → x.length + y.length < k' → Up x → Up y → mg c k x y = mg c k' x y := fun k k' x y h h' hx hy =>
  up_uniq (mg_up c k x y hx hy) (mg_up c k' x y hx hy) fun v => by rw [mg_mem c k x y h hx hy, mg_mem c k' x y h' hx hy]

theorem pickI_up (c : Nat) (a b : List Int) : Up (pickI c a b) := mg_up _ _ _ _ (refSet_up a) (refSet_up b)
theorem pickI_mem (c : Nat) (a b : List Int) (v : Int) : v ∈ pickI c a b ↔ (v ∈ a ∨ v ∈ b) ∧ kp c (decide (v ∈ a)) (decide (v ∈ b)) = true := by
  have h1 := refSet_len a
  have h2 := refSet_len b
  rw [pickI, mg_mem c _ _ _ (by omega) (refSet_up a) (refSet_up b)]
  simp only [refSet_mem]

theorem or_eq (a b : List Int) : pickI 49 a b = refSet (a ++ b) := up_uniq (pickI_up _ _ _) (refSet_up _) fun v => by
  rw [pickI_mem, refSet_mem, List.mem_append]; simp [kp]
theorem and_eq (a b : List Int) : pickI 50 a b = pickR a b true := up_uniq (pickI_up _ _ _) ((refSet_up a).filter _) fun v => by
  rw [pickI_mem, pickR, List.mem_filter, refSet_mem]; by_cases h1 : v ∈ a <;> by_cases h2 : v ∈ b <;> simp [kp, h1, h2]
theorem less_eq (a b : List Int) : pickI 52 a b = pickR a b false := up_uniq (pickI_up _ _ _) ((refSet_up a).filter _) fun v => by
  rw [pickI_mem, pickR, List.mem_filter, refSet_mem]; by_cases h1 : v ∈ a <;> by_cases h2 : v ∈ b <;> simp [kp, h1, h2]
end Go.Ab.Is
