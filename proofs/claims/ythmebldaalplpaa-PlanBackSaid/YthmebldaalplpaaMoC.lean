/- Plans, moved: what both functions compute, off their code; PlanMoved. -/
import Derived.Test.YthmebldaalplpaaMoB
namespace Go.Ab
set_option linter.unusedVariables false
theorem cond_dup {α : Type} {c : Bool} {x n : α} : cond c (cond c x n) n = cond c x n := by cases c <;> rfl
theorem map_loop {α β γ : Type} {F : Nat → Int → List β → γ} (l : List α) (d : α) (g : α → β) (res : List β → γ) (no : γ) (hl : l.length < 1000000)
    (h : ∀ m i acc, F (m + 1) i acc = cond (decide (i < (l.length : Int))) (cond (decide (0 ≤ i) && decide (i < (l.length : Int))) (cond (decide (acc.length + 1 ≤ most)) (F m (wr (i + 1)) (acc ++ [g (l.getD i.toNat d)])) no) no) (res acc)) :
    ∀ (m i : Nat) (acc : List β), i ≤ l.length → l.length - i < m → acc.length ≤ i → F m i acc = res (acc ++ (l.drop i).map g) := by
  intro m
  induction m with
  | zero => intro i acc h; omega
  | succ m ih =>
    intro i acc hi' hm ha
    rw [h, dec_lt, dec_nn, Bool.true_and]
    by_cases hi : i < l.length
    · rw [cond_dec hi, cond_dec hi, cond_dec (by unfold most; omega), Int.toNat_natCast, wrN (by omega), ih (i + 1) _ (by omega) (by omega) (by simp; omega), getD_drop (d := d) hi, List.map_cons, List.append_assoc, List.singleton_append]
    · rw [cond_dec' hi, List.drop_eq_nil_of_le (by omega), List.map_nil, List.append_nil]

namespace Mo
open Pl
abbrev Mn := Int × Pt
abbrev tMn : Ty := .pair tI tP
abbrev agM (w : Mn) : AV := .agg [.int .i64 w.1, .int .i64 w.2.1, .int .i64 w.2.2]
/-- An aisle, moved. -/
def movedA (w : Mn) (a : Ai) : Ai :=
  (a.1, (min (doP w.1 w.2 a.2.1).1 (doP w.1 w.2 a.2.2).1, min (doP w.1 w.2 a.2.1).2 (doP w.1 w.2 a.2.2).2), (max (doP w.1 w.2 a.2.1).1 (doP w.1 w.2 a.2.2).1, max (doP w.1 w.2 a.2.1).2 (doP w.1 w.2 a.2.2).2))
def movedR (w : Mn) (a : Ai) : Ai :=
  (a.1, (if (doP w.1 w.2 a.2.2).1 < (doP w.1 w.2 a.2.1).1 then (doP w.1 w.2 a.2.2).1 else (doP w.1 w.2 a.2.1).1, if (doP w.1 w.2 a.2.2).2 < (doP w.1 w.2 a.2.1).2 then (doP w.1 w.2 a.2.2).2 else (doP w.1 w.2 a.2.1).2),
    (if (doP w.1 w.2 a.2.2).1 > (doP w.1 w.2 a.2.1).1 then (doP w.1 w.2 a.2.2).1 else (doP w.1 w.2 a.2.1).1, if (doP w.1 w.2 a.2.2).2 > (doP w.1 w.2 a.2.1).2 then (doP w.1 w.2 a.2.2).2 else (doP w.1 w.2 a.2.1).2))
theorem moved_eq (w : Mn) (a : Ai) : movedR w a = movedA w a := by
  have h1 : ∀ x y : Int, (if y < x then y else x) = min x y := fun x y => by split <;> omega
  have h2 : ∀ x y : Int, (if y > x then y else x) = max x y := fun x y => by split <;> omega
  unfold movedR movedA
  simp only [h1, h2]

noncomputable def tMv : Callf := addT N.motion_Do gDo (addT N.plan_block gBlock noCall)
theorem tMv_ok : CallOK Q tMv := addT_ok (addT_ok noCall_ok gBlock_ok) gDo_motion
abbrev SMva (w : Mn) (l : List Ai) (i1 : Int) (l2 : List Ai) : St := ⟨J :: J :: .ptr 0 0 :: J :: J :: .tail 1 0 :: J :: J :: J :: .ro tA l :: .int .i64 (l.length : Int) :: .int .i64 i1 :: js 21, [.obj (.box [.int .i64 w.1, .int .i64 w.2.1, .int .i64 w.2.2]), .obj (.rows tA l2)]⟩
noncomputable abbrev LMva (n z : Nat) (s : St) : Ans := loopF Q hn0 tMv n N.plan_Moved 0 [1, 1, 0, 1, 0] [] z s
theorem eMv (w : Mn) (l : List Ai) (n : Nat) : runF Q hn0 tMv n N.plan_Moved [agM w, .ro tA l] [] = LMva n n (SMva w l 0 []) := by kernel_rfl
theorem rMva (w : Mn) (l : List Ai) (i1 : Int) (l2 : List Ai) (n m : Nat) : LMva n (m + 1) (SMva w l i1 l2) =
  cond (decide (i1 < (l.length : Int))) (cond (decide ((0 : Int) ≤ i1) && decide (i1 < (l.length : Int))) (cond (decide (l2.length + 1 ≤ most)) (LMva n m (SMva w l (wr (i1 + (1 : Int))) (l2 ++ [movedA w (l.getD i1.toNat tA.dflt)]))) none) none) (some (.tail 0 0, [.obj (.rows tA l2)])) := by kernel_rfl
theorem run_mv (w : Mn) (l : List Ai) (hl : l.length < 1000000) : runF Q hn0 tMv (l.length + 1) N.plan_Moved [agM w, .ro tA l] [] = some (.tail 0 0, [.obj (.rows tA (l.map (movedA w)))]) := by
  rw [eMv]
  exact map_loop (F := fun m i acc => LMva (l.length + 1) m (SMva w l i acc)) l tA.dflt (movedA w) (fun acc => some (.tail 0 0, [.obj (.rows tA acc)])) none hl (fun m i acc => rMva w l i acc _ m) (l.length + 1) 0 [] (by omega) (by omega) (by simp)

noncomputable def tRMv : Callf := addT N.ref04_Do gDo noCall
theorem tRMv_ok : CallOK Q tRMv := addT_ok noCall_ok gDo_ref
abbrev SRMva (w : Mn) (l : List Ai) (i1 : Int) (l2 : List Ai) : St := ⟨J :: .ro tA l :: .ptr 0 0 :: J :: J :: .tail 1 0 :: .int .i64 i1 :: js 54, [.obj (.box [.int .i64 w.1, .int .i64 w.2.1, .int .i64 w.2.2]), .obj (.rows tA l2)]⟩
noncomputable abbrev LRMva (n z : Nat) (s : St) : Ans := loopF Q hn0 tRMv n N.ref07_Moved 0 [1, 1, 0, 1, 0] [] z s
theorem eRMv (w : Mn) (l : List Ai) (n : Nat) : runF Q hn0 tRMv n N.ref07_Moved [agM w, .ro tA l] [] = LRMva n n (SRMva w l 0 []) := by kernel_rfl
theorem rRMva (w : Mn) (l : List Ai) (i1 : Int) (l2 : List Ai) (n m : Nat) : LRMva n (m + 1) (SRMva w l i1 l2) =
  cond (decide (i1 < (l.length : Int))) (cond (decide ((0 : Int) ≤ i1) && decide (i1 < (l.length : Int))) (cond (decide ((0 : Int) ≤ i1) && decide (i1 < (l.length : Int))) (cond (decide ((0 : Int) ≤ i1) && decide (i1 < (l.length : Int))) (cond (decide (l2.length + 1 ≤ most)) (LRMva n m (SRMva w l (wr (i1 + (1 : Int))) (l2 ++ [movedR w (l.getD i1.toNat tA.dflt)]))) none) none) none) none) (some (.tail 0 0, [.obj (.rows tA l2)])) := by kernel_rfl
theorem run_rmv (w : Mn) (l : List Ai) (hl : l.length < 1000000) : runF Q hn0 tRMv (l.length + 1) N.ref07_Moved [agM w, .ro tA l] [] = some (.tail 0 0, [.obj (.rows tA (l.map (movedA w)))]) := by
  rw [eRMv]
  exact map_loop (F := fun m i acc => LRMva (l.length + 1) m (SRMva w l i acc)) l tA.dflt (movedA w) (fun acc => some (.tail 0 0, [.obj (.rows tA acc)])) none hl (fun m i acc => by rw [rRMva, cond_dup, cond_dup, moved_eq]) (l.length + 1) 0 [] (by omega) (by omega) (by simp)
def gMv : G
  | [.agg [.int .i64 k, .int .i64 a, .int .i64 b], .ro (.pair (.int .i64) (.pair (.pair (.int .i64) (.int .i64)) (.pair (.int .i64) (.int .i64)))) l], [] => some (decide (l.length < 1000000), .ro tA (l.map (movedA (k, (a, b)))), [])
  | _, _ => none
theorem gMv_plan (a : List AV) (m : List Slot) (r : Bool × AV × List Slot) (h : gMv a m = some r) (hk : r.1 = true) : Sound Q N.plan_Moved a m r.2 := by
  unfold gMv at h
  split at h
  · simp only [Option.some.injEq] at h; subst h; exact Sound.ro (sound_of_run tMv_ok (run_mv (_, (_, _)) _ (of_decide_eq_true hk)))
  · simp at h
theorem gMv_ref (a : List AV) (m : List Slot) (r : Bool × AV × List Slot) (h : gMv a m = some r) (hk : r.1 = true) : Sound Q N.ref07_Moved a m r.2 := by
  unfold gMv at h
  split at h
  · simp only [Option.some.injEq] at h; subst h; exact Sound.ro (sound_of_run tRMv_ok (run_rmv (_, (_, _)) _ (of_decide_eq_true hk)))
  · simp at h

/-! ### Same -/
def eqAi (x y : Ai) : Bool := x.1 == y.1 && (x.2.1.1 == y.2.1.1 && (x.2.1.2 == y.2.1.2 && true) && (x.2.2.1 == y.2.2.1 && (x.2.2.2 == y.2.2.2 && true) && true))
theorem eqAi_iff (x y : Ai) : eqAi x y = decide (x = y) := by
  obtain ⟨a, ⟨b, c⟩, d, e⟩ := x
  obtain ⟨a', ⟨b', c'⟩, d', e'⟩ := y
  rw [Bool.eq_iff_iff]
  simp [eqAi]
abbrev SSamea (l : List Ai) (k : List Ai) (i1 : Int) : St := ⟨.ro tA l :: .ro tA k :: J :: J :: J :: .int .i64 i1 :: js 20, []⟩
noncomputable abbrev LSamea (n z : Nat) (s : St) : Ans := loopF Q hn0 noCall n N.ref07_Same 0 [1, 1, 0, 1, 0] [] z s
theorem eSame (l : List Ai) (k : List Ai) (n : Nat) : runF Q hn0 noCall n N.ref07_Same [.ro tA l, .ro tA k] [] =
  cond ((l.length : Int) != (k.length : Int)) (some (.bool false, [])) (LSamea n n (SSamea l k 0)) := by kernel_rfl
theorem rSamea (l : List Ai) (k : List Ai) (i1 : Int) (n m : Nat) : LSamea n (m + 1) (SSamea l k i1) =
  cond (decide (i1 < (l.length : Int))) (cond (decide ((0 : Int) ≤ i1) && decide (i1 < (l.length : Int))) (cond (decide ((0 : Int) ≤ i1) && decide (i1 < (k.length : Int))) (cond (!eqAi (l.getD i1.toNat tA.dflt) (k.getD i1.toNat tA.dflt)) (some (.bool false, [])) (LSamea n m (SSamea l k (wr (i1 + (1 : Int)))))) none) none) (some (.bool true, [])) := by kernel_rfl
end Mo

/-- Two rows, place by place. -/
theorem same_loop {α : Type} [DecidableEq α] {F : Nat → Int → Ans} (l k : List α) (d : α) (e : α → α → Bool) (he : ∀ x y, e x y = decide (x = y)) (hl : l.length < 1000000) (hk : k.length = l.length)
    (h : ∀ m i, F (m + 1) i = cond (decide (i < (l.length : Int))) (cond (decide (0 ≤ i) && decide (i < (l.length : Int))) (cond (decide (0 ≤ i) && decide (i < (k.length : Int))) (cond (!e (l.getD i.toNat d) (k.getD i.toNat d)) (some (.bool false, [])) (F m (wr (i + 1)))) none) none) (some (.bool true, []))) :
    ∀ (m i : Nat), l.length - i < m → F m i = some (.bool (decide (l.drop i = k.drop i)), []) := by
  intro m
  induction m with
  | zero => intro i h; omega
  | succ m ih =>
    intro i hm
    rw [h, dec_lt, dec_lt, dec_nn, Bool.true_and, Bool.true_and]
    by_cases hi : i < l.length
    · rw [cond_dec hi, cond_dec hi, cond_dec (p := i < k.length) (by omega), Int.toNat_natCast, wrN (by omega), ih (i + 1) (by omega), getD_drop (d := d) hi, getD_drop (l := k) (d := d) (i := i) (by omega), he]
      by_cases hx : l.getD i d = k.getD i d
      · rw [decide_eq_true hx]; simp only [Bool.not_true, cond_false, hx, List.cons.injEq, true_and]
      · rw [decide_eq_false hx]; simp only [Bool.not_false, cond_true, List.cons.injEq, hx, false_and, decide_false]
    · rw [cond_dec' hi, List.drop_eq_nil_of_le (by omega), List.drop_eq_nil_of_le (by omega)]; simp only [decide_true]

namespace Mo
open Pl
theorem run_same (l k : List Ai) (hl : l.length < 1000000) : runF Q hn0 noCall (l.length + 1) N.ref07_Same [.ro tA l, .ro tA k] [] = some (.bool (decide (l = k)), []) := by
  rw [eSame]
  by_cases h : k.length = l.length
  · have e1 : ((l.length : Int) != (k.length : Int)) = false := by simp [h]
    rw [e1, cond_false]
    have := same_loop (F := fun m i => LSamea (l.length + 1) m (SSamea l k i)) l k tA.dflt eqAi eqAi_iff hl h (fun m i => rSamea l k i _ m) (l.length + 1) 0 (by omega)
    rw [List.drop_zero, List.drop_zero] at this
    exact this
  · have e1 : ((l.length : Int) != (k.length : Int)) = true := by simp; omega
    have h3 : decide (l = k) = false := decide_eq_false fun e => h (by rw [e])
    rw [e1, cond_true, h3]
def gSame : G
  | [.ro (.pair (.int .i64) (.pair (.pair (.int .i64) (.int .i64)) (.pair (.int .i64) (.int .i64)))) l, .ro (.pair (.int .i64) (.pair (.pair (.int .i64) (.int .i64)) (.pair (.int .i64) (.int .i64)))) k], [] => some (decide (l.length < 1000000), .bool (decide (l = k)), [])
  | _, _ => none
theorem gSame_ok (a : List AV) (m : List Slot) (r : Bool × AV × List Slot) (h : gSame a m = some r) (hk : r.1 = true) : Sound Q N.ref07_Same a m r.2 := by
  unfold gSame at h
  split at h
  · simp only [Option.some.injEq] at h; subst h; exact sound_of_run noCall_ok (run_same _ _ (of_decide_eq_true hk))
  · simp at h
noncomputable def tPM : Callf := addT N.plan_Moved gMv (addT N.ref07_Moved gMv (addT N.ref07_Same gSame (addT N.law07_alive gAlive noCall)))
theorem tPM_ok : CallOK Q tPM := addT_ok (addT_ok (addT_ok (addT_ok noCall_ok gAlive_ok) gSame_ok) gMv_ref) gMv_plan
theorem ePM (l : List Ai) (w : Mn) (n : Nat) : runF Q hn0 tPM n N.law07_PlanMoved [.ro tA l, agM w] [] =
  cond (decide ((l.length : Int) > (60 : Int))) (some (.bool true, [])) (cond (decide (l.length < 1000000)) (cond (decide (l.length < 1000000)) (cond (decide ((l.map (movedA w)).length < 1000000)) (cond (decide (l.map (movedA w) = l.map (movedA w))) (some (.bool true, [])) (some (.bool false, []))) none) none) none) := by kernel_rfl
theorem lawMoved (l : List Ai) (w : Mn) : Sound Q N.law07_PlanMoved [.ro tA l, agM w] [] (.bool true, []) := by
  refine sound_of_run (hn := hn0) tPM_ok (n := 0) ?_
  rw [ePM]
  by_cases h : l.length > 60
  · rw [cond_dec (by omega)]
  · rw [cond_dec' (by omega), cond_dec (p := l.length < 1000000) (by omega), cond_dec (p := l.length < 1000000) (by omega), cond_dec (by rw [List.length_map]; omega), cond_dec rfl]
end Mo
end Go.Ab
