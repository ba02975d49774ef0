/- IdsetTells: its frame's other pieces: what must come at any rate (alive), and the statement's function. -/
import Derived.Test.YthmebldaalplpaaIsD
namespace Go.Ab.Is
open Go.Proofs
set_option linter.unusedVariables false

noncomputable def i78 : Callf := inlT Q hn 49 20 noCall
noncomputable def i77 : Callf := addT 60 gSet (inlT Q hn 78 20 i78)
noncomputable def i48 : Callf := inlT Q hn 77 20 i77
noncomputable def i15 : Callf := inlT Q hn 48 20 i48
noncomputable def t11 : Callf := addT 14 g14 (addT 29 gSet (addT 31 g31 (inlT Q hn 12 20 (inlT Q hn 15 20 i15))))
theorem i77_ok : CallOK Q i77 := addT_ok (inlT_ok (inlT_ok noCall_ok)) gSet60
theorem t11_ok : CallOK Q t11 := addT_ok (addT_ok (addT_ok (inlT_ok (inlT_ok (inlT_ok (inlT_ok i77_ok)))) g31_ok) gSet29) g14_ok
theorem e11 : runF Q hn t11 20 11 [] [] = some (.bool true, []) := by kernel_rfl
theorem s11 : Sound Q 11 [] [] (.bool true, []) := sound_of_run t11_ok e11
def g11 : G
  | [], [] => some (true, .bool true, [])
  | _, _ => none
theorem g11_ok (a : List AV) (m : List Slot) (r : Bool × AV × List Slot) (h : g11 a m = some r) (hk : r.1 = true) : Sound Q 11 a m r.2 := by
  unfold g11 at h
  split at h
  · simp only [Option.some.injEq] at h; subst h; exact s11
  · simp at h

/-! ### IdsetTells -/
def t5 : Callf := addT 11 g11 (addT 14 g14 (addT 29 gSet (addT 30 gSet (addT 31 g31 (addT 32 g31 (addT 33 g61 (addT 34 g61 noCall)))))))
theorem t5_ok : CallOK Q t5 := addT_ok (addT_ok (addT_ok (addT_ok (addT_ok (addT_ok (addT_ok (addT_ok noCall_ok g61_34) g61_33) g31_32) g31_ok) gSet30) gSet29) g14_ok) g11_ok
theorem e5 (l : List Int) (x : Int) (n : Nat) : runF Q hn t5 n 5 [.ro tI l, .int .i64 x] [] =
  cond (decide ((l.length : Int) > 60)) (some (.bool true, []))
  (cond (decide (l.length < big)) (cond (decide (l.length < big)) (cond (decide ((refSet l).length < big)) (cond (decide (refSet l = refSet l))
   (cond (decide (l.length < big)) (cond (decide (l.length < big)) (cond (rises l == rises l)
    (cond (decide (l.length < big)) (cond (decide (l.length < big)) (cond (l.contains x == l.contains x) (some (.bool true, [])) (some (.bool false, []))) none) none)
    (some (.bool false, []))) none) none)
   (some (.bool false, []))) none) none) none) := by kernel_rfl

theorem refSet_len (l : List Int) : (refSet l).length ≤ l.length := by
  have : ∀ (l out : List Int), (l.foldl (fun o x => ins x false o) out).length ≤ l.length + out.length := by
    intro l
    induction l with
    | nil => intro out; simp
    | cons x l ih => intro out; rw [List.foldl_cons]; have := ih (ins x false out); have := ins_len x false out; simp; omega
  have := this l []
  simpa [refSet] using this

theorem law5 (l : List Int) (x : Int) : Sound Q 5 [.ro tI l, .int .i64 x] [] (.bool true, []) := by
  refine sound_of_run (hn := hn) t5_ok (n := 0) ?_
  rw [e5]
  by_cases h : l.length > 60
  · rw [cond_dec (by omega)]
  · have h1 : l.length < big := by unfold big; omega
    have h2 := refSet_len l
    rw [cond_dec' (by omega), cond_dec h1, cond_dec h1, cond_dec (p := (refSet l).length < big) (by omega), cond_dec rfl, cond_dec h1, cond_dec h1, beq_self_eq_true, cond_true, cond_dec h1, cond_dec h1, beq_self_eq_true, cond_true]
end Go.Ab.Is
