/- IdsetLaws: the statement's function, off its own code. -/
import Derived.Test.YthmebldaalplpaaIsI
namespace Go.Ab.Is
open Go.Proofs
set_option linter.unusedVariables false

def t6 : Callf := addT 11 g11 (addT 12 gAbove (addT 14 g14 (addT 15 gOr (addT 17 gAnd (addT 19 gLess (addT 21 gWithin (addT 29 gSet (addT 31 g31 (addT 33 g61 noCall)))))))))
theorem t6_ok : CallOK Q t6 := addT_ok (addT_ok (addT_ok (addT_ok (addT_ok (addT_ok (addT_ok (addT_ok (addT_ok (addT_ok noCall_ok g61_33) g31_ok) gSet29) gWithin21) gLess19) gAnd17) gOr15) g14_ok) gAbove12) g11_ok
abbrev low : Int := -9223372036854775808
abbrev S6 (all told : List Int) (v : Int) (is : Bool) : St := ⟨J :: J :: J :: J :: J :: J :: J :: J :: J :: J :: .ro tI all :: .tail 0 0 :: .int .i64 v :: .bool is :: js 127, [.obj (.rows tI told)]⟩
noncomputable abbrev L6 (n m : Nat) (s : St) : Ans := loopF Q hn t6 n 6 0 [1,1,1,1,1,1,1,0,1,0] [] m s
abbrev end6 (all told : List Int) : Ans := cond (decide (told.length < big)) (cond (decide (told = all)) (some (.bool true, [])) (cond (decide (all.length < big)) (cond (all.contains low) (some (.bool true, [])) (some (.bool false, []))) none)) none
theorem r6 (all told : List Int) (v : Int) (is : Bool) (n m : Nat) : L6 n (m + 1) (S6 all told v is) =
    cond is (cond (decide ((told.length : Int) ≤ (all.length : Int))) (cond (N told [v]) (cond (decide (all.length < big)) (L6 n m (S6 all (told ++ [v]) (aboveS v (refSet all)).1 (aboveS v (refSet all)).2)) none) none) (end6 all told)) (end6 all told) := by kernel_rfl

def hdP : List Int → Int × Bool
  | [] => (0, false)
  | v :: _ => (v, true)

theorem aboveS_mid (x : Int) (s : List Int) : ∀ (p : List Int), Up (p ++ x :: s) → aboveS x (p ++ x :: s) = hdP s
  | [], h => by
    have h' := List.pairwise_cons.1 h
    rw [List.nil_append, aboveS, if_neg (by omega)]
    match s, h' with
    | [], _ => rfl
    | v :: t, h' => rw [aboveS, if_pos (h'.1 v (by simp)), hdP]
  | y :: p, h => by
    have h' := List.pairwise_cons.1 h
    have : y < x := h'.1 x (by simp)
    rw [List.cons_append, aboveS, if_neg (by omega), aboveS_mid x s p h'.2]

theorem told_loop (all : List Int) (n : Nat) (hu : Up all) (hl : all.length < big) : ∀ (m : Nat) (p s told : List Int), all = p ++ s → s.length < m → told.length + s.length ≤ all.length →
    L6 n m (S6 all told (hdP s).1 (hdP s).2) = end6 all (told ++ s) := by
  intro m
  induction m with
  | zero => intro p s told _ h; omega
  | succ m ih =>
    intro p s told hp h ht
    rw [r6]
    match s with
    | [] => rw [hdP, List.append_nil]; simp only [cond_false]
    | v :: s =>
      have hv : aboveS v (refSet all) = hdP s := by rw [refSet_id hu, hp]; exact aboveS_mid v s p (hp ▸ hu)
      simp only [List.length_cons] at h ht
      rw [hdP, cond_true, cond_dec (by omega), N_true (by simp [most]; unfold big at hl; omega), cond_true, cond_dec hl, hv, ih (p ++ [v]) s (told ++ [v]) (by rw [hp]; simp) (by omega) (by simp; omega), List.append_assoc]
      rfl

theorem told_all (all : List Int) (n : Nat) (hu : Up all) (hl : all.length < big) (hlow : ∀ v ∈ all, low ≤ v) (hn : all.length < n) :
    L6 n n (S6 all [] (aboveS low (refSet all)).1 (aboveS low (refSet all)).2) = some (.bool true, []) := by
  rw [refSet_id hu]
  match h : all with
  | [] => exact (told_loop [] n .nil hl n [] [] [] rfl hn (by simp)).trans (by rfl)
  | v :: s =>
    have hu' := List.pairwise_cons.1 hu
    by_cases hv : v = low
    · subst hv
      have e : aboveS low (low :: s) = hdP s := aboveS_mid low s [] hu
      rw [e, told_loop (low :: s) n hu hl n [low] s [] rfl (by simp at hn; omega) (by simp), List.nil_append]
      simp only [List.length_cons] at hl
      have hne : ¬ s = low :: s := fun e => by have := congrArg List.length e; simp at this
      rw [end6, cond_dec (by omega), cond_dec' hne, cond_dec (by simpa using hl)]
      simp
    · have e : aboveS low (v :: s) = hdP (v :: s) := by
        have := hlow v (by simp)
        rw [aboveS, if_pos (by omega), hdP]
      rw [e, told_loop (v :: s) n hu hl n [] (v :: s) [] rfl hn (by simp), List.nil_append, end6, cond_dec hl, cond_dec rfl]
end Go.Ab.Is
