/- IdsetOps: the set operations of both, each off its own code. -/
import Derived.Test.YthmebldaalplpaaIsH
namespace Go.Ab.Is
open Go.Proofs
set_option linter.unusedVariables false

abbrev isC (c : Nat) : Bool := Nat.beq c 49 || Nat.beq c 50 || Nat.beq c 52
theorem isC_of {c : Nat} (h : isC c = true) : c = 49 ∨ c = 50 ∨ c = 52 := by
  unfold isC at h
  simp only [Bool.or_eq_true] at h
  rcases h with (h | h) | h
  · exact .inl (Nat.eq_of_beq_eq_true h)
  · exact .inr (.inl (Nat.eq_of_beq_eq_true h))
  · exact .inr (.inr (Nat.eq_of_beq_eq_true h))
abbrev two (a b : List Int) : Bool := decide (a.length < big) && decide (b.length < big)
theorem two_of {a b : List Int} (h : two a b = true) : a.length < big ∧ b.length < big := by
  unfold two at h
  simp only [Bool.and_eq_true, decide_eq_true_eq] at h
  exact h

theorem s77 {c : Nat} (hc : c = 49 ∨ c = 50 ∨ c = 52) {a b : List Int} (ha : a.length < big) (hb : b.length < big) :
    Sound Q 77 [.ro tI a, .ro tI b, .fn (.func 78) [] [.ptr 0 0, .ptr 1 0]] [.obj (.box [.fn (.func c) [] []]), .obj (.box [.nils tI])] (.tup [], M77 c (pickI c a b)) :=
  sound_of_run (hn := hn) t77_ok (n := a.length + b.length + 1) (by
    have h1 := refSet_len a
    have h2 := refSet_len b
    rw [e77 c hc, cond_dec ha, cond_dec hb, sides_loop c hc _ _ _ _ _ (by omega) (by simp; omega), List.nil_append, pickI])
def g77 : G
  | [.ro (.int .i64) a, .ro (.int .i64) b, .fn (.func 78) [] [.ptr 0 0, .ptr 1 0]], [.obj (.box [.fn (.func c) [] []]), .obj (.box [.nils (.int .i64)])] => some (isC c && two a b, .tup [], M77 c (pickI c a b))
  | _, _ => none
theorem g77_ok (a : List AV) (m : List Slot) (r : Bool × AV × List Slot) (h : g77 a m = some r) (hk : r.1 = true) : Sound Q 77 a m r.2 := by
  unfold g77 at h
  split at h
  · exact ok_of h hk fun hb => by
      rw [Bool.and_eq_true] at hb
      exact s77 (isC_of hb.1) (two_of hb.2).1 (two_of hb.2).2
  · simp at h
def t48 : Callf := addT 77 g77 noCall
theorem t48_ok : CallOK Q t48 := addT_ok noCall_ok g77_ok
theorem e48 (c : Nat) (hc : c = 49 ∨ c = 50 ∨ c = 52) (a b : List Int) (n : Nat) : runF Q hn t48 n 48 [.ro tI a, .ro tI b, .fn (.func c) [] []] [] = cond (isC c && two a b) (some (.tail 0 0, [.obj (.rows tI (pickI c a b))])) none := by
  rcases hc with rfl | rfl | rfl <;> kernel_rfl
theorem s48 {c : Nat} (hc : isC c = true) {a b : List Int} (h : two a b = true) : Sound Q 48 [.ro tI a, .ro tI b, .fn (.func c) [] []] [] (.ro tI (pickI c a b), []) :=
  Sound.ro (sound_of_run (hn := hn) t48_ok (n := 0) (by rw [e48 c (isC_of hc), hc, h]; rfl))
def g48 : G
  | [.ro (.int .i64) a, .ro (.int .i64) b, .fn (.func c) [] []], [] => some (isC c && two a b, .ro tI (pickI c a b), [])
  | _, _ => none
theorem g48_ok (a : List AV) (m : List Slot) (r : Bool × AV × List Slot) (h : g48 a m = some r) (hk : r.1 = true) : Sound Q 48 a m r.2 := by
  unfold g48 at h
  split at h
  · exact ok_of h hk fun hb => by
      rw [Bool.and_eq_true] at hb
      exact s48 hb.1 hb.2
  · simp at h
def t15 : Callf := addT 48 g48 noCall
theorem t15_ok : CallOK Q t15 := addT_ok noCall_ok g48_ok
theorem e15 (a b : List Int) (n : Nat) : runF Q hn t15 n 15 [.ro tI a, .ro tI b] [] = cond (isC 49 && two a b) (some (.ro tI (pickI 49 a b), [])) none := by kernel_rfl
theorem e17 (a b : List Int) (n : Nat) : runF Q hn t15 n 17 [.ro tI a, .ro tI b] [] = cond (isC 50 && two a b) (some (.ro tI (pickI 50 a b), [])) none := by kernel_rfl
theorem e19 (a b : List Int) (n : Nat) : runF Q hn t15 n 19 [.ro tI a, .ro tI b] [] = cond (isC 52 && two a b) (some (.ro tI (pickI 52 a b), [])) none := by kernel_rfl

def gOr : G
  | [.ro (.int .i64) a, .ro (.int .i64) b], [] => some (two a b, .ro tI (refSet (a ++ b)), [])
  | _, _ => none
def gAnd : G
  | [.ro (.int .i64) a, .ro (.int .i64) b], [] => some (two a b, .ro tI (pickR a b true), [])
  | _, _ => none
def gLess : G
  | [.ro (.int .i64) a, .ro (.int .i64) b], [] => some (two a b, .ro tI (pickR a b false), [])
  | _, _ => none
theorem gOr15 (a : List AV) (m : List Slot) (r : Bool × AV × List Slot) (h : gOr a m = some r) (hk : r.1 = true) : Sound Q 15 a m r.2 := by
  unfold gOr at h
  split at h
  · exact ok_of h hk fun hb => by rw [← or_eq]; exact sound_of_run (hn := hn) t15_ok (n := 0) (by rw [e15, hb]; rfl)
  · simp at h
theorem gAnd17 (a : List AV) (m : List Slot) (r : Bool × AV × List Slot) (h : gAnd a m = some r) (hk : r.1 = true) : Sound Q 17 a m r.2 := by
  unfold gAnd at h
  split at h
  · exact ok_of h hk fun hb => by rw [← and_eq]; exact sound_of_run (hn := hn) t15_ok (n := 0) (by rw [e17, hb]; rfl)
  · simp at h
theorem gLess19 (a : List AV) (m : List Slot) (r : Bool × AV × List Slot) (h : gLess a m = some r) (hk : r.1 = true) : Sound Q 19 a m r.2 := by
  unfold gLess at h
  split at h
  · exact ok_of h hk fun hb => by rw [← less_eq]; exact sound_of_run (hn := hn) t15_ok (n := 0) (by rw [e19, hb]; rfl)
  · simp at h

/-! ### the document's -/
def t16 : Callf := addT 30 gSet (addT 51 g51 noCall)
theorem t16_ok : CallOK Q t16 := addT_ok (addT_ok noCall_ok g51_ok) gSet30
theorem e16 (a b : List Int) (n : Nat) : runF Q hn t16 n 16 [.ro tI a, .ro tI b] [] = cond (N [] a) (cond (N ([] ++ a) b) (cond (decide ((([] ++ a) ++ b).length < big)) (some (.ro tI (refSet (([] ++ a) ++ b)), [])) none) none) none := by kernel_rfl
theorem e18 (a b : List Int) (n : Nat) : runF Q hn t16 n 18 [.ro tI a, .ro tI b] [] = cond (two a b) (some (.ro tI (pickR a b true), [])) none := by kernel_rfl
theorem e20 (a b : List Int) (n : Nat) : runF Q hn t16 n 20 [.ro tI a, .ro tI b] [] = cond (two a b) (some (.ro tI (pickR a b false), [])) none := by kernel_rfl
def gOrR : G
  | [.ro (.int .i64) a, .ro (.int .i64) b], [] => some (decide (a.length + b.length < big), .ro tI (refSet (a ++ b)), [])
  | _, _ => none
theorem gOr16 (a : List AV) (m : List Slot) (r : Bool × AV × List Slot) (h : gOrR a m = some r) (hk : r.1 = true) : Sound Q 16 a m r.2 := by
  unfold gOrR at h
  split at h
  · rename_i a b
    exact ok_of h hk fun hb => by
      have hb := of_decide_eq_true hb
      refine sound_of_run (hn := hn) t16_ok (n := 0) ?_
      rw [e16, N_true (by simp [most]; unfold big at hb; omega), N_true (by simp [most]; unfold big at hb; omega), cond_true, cond_true, cond_dec (by simpa using hb), List.nil_append]
  · simp at h
theorem gAnd18 (a : List AV) (m : List Slot) (r : Bool × AV × List Slot) (h : gAnd a m = some r) (hk : r.1 = true) : Sound Q 18 a m r.2 := by
  unfold gAnd at h
  split at h
  · exact ok_of h hk fun hb => sound_of_run (hn := hn) t16_ok (n := 0) (by rw [e18, hb]; rfl)
  · simp at h
theorem gLess20 (a : List AV) (m : List Slot) (r : Bool × AV × List Slot) (h : gLess a m = some r) (hk : r.1 = true) : Sound Q 20 a m r.2 := by
  unfold gLess at h
  split at h
  · exact ok_of h hk fun hb => sound_of_run (hn := hn) t16_ok (n := 0) (by rw [e20, hb]; rfl)
  · simp at h
def t21 : Callf := addT 19 gLess noCall
theorem t21_ok : CallOK Q t21 := addT_ok noCall_ok gLess19
theorem e21 (a b : List Int) (n : Nat) : runF Q hn t21 n 21 [.ro tI a, .ro tI b] [] = cond (two a b) (some (.bool (((pickR a b false).length : Int) == 0), [])) none := by kernel_rfl
def gWithin : G
  | [.ro (.int .i64) a, .ro (.int .i64) b], [] => some (two a b, .bool (((pickR a b false).length : Int) == 0), [])
  | _, _ => none
theorem gWithin21 (a : List AV) (m : List Slot) (r : Bool × AV × List Slot) (h : gWithin a m = some r) (hk : r.1 = true) : Sound Q 21 a m r.2 := by
  unfold gWithin at h
  split at h
  · exact ok_of h hk fun hb => sound_of_run (hn := hn) t21_ok (n := 0) (by rw [e21, hb]; rfl)
  · simp at h
end Go.Ab.Is
