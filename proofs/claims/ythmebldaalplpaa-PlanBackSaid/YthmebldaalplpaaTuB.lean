/- PlanTurns: off its code. -/
import Derived.Test.YthmebldaalplpaaTuA
namespace Go.Ab
set_option linter.unusedVariables false
/-- A row of which each one must fulfil something. -/
theorem all_loop {α : Type} {F : Nat → Int → Ans} (l : List α) (d : α) (e : α → Bool) (hl : l.length < 1000000)
    (h : ∀ m i, F (m + 1) i = cond (decide (i < (l.length : Int))) (cond (decide (0 ≤ i) && decide (i < (l.length : Int))) (cond (e (l.getD i.toNat d)) (F m (wr (i + 1))) (some (.bool false, []))) none) (some (.bool true, []))) :
    ∀ (m i : Nat), l.length - i < m → F m i = some (.bool ((l.drop i).all e), []) := by
  intro m
  induction m with
  | zero => intro i h; omega
  | succ m ih =>
    intro i hm
    rw [h, dec_lt, dec_nn, Bool.true_and]
    by_cases hi : i < l.length
    · rw [cond_dec hi, cond_dec hi, Int.toNat_natCast, wrN (by omega), ih (i + 1) (by omega), getD_drop (d := d) hi, List.all_cons]
      cases e (l.getD i d)
      · rfl
      · simp only [cond_true, Bool.true_and]
    · rw [cond_dec' hi, List.drop_eq_nil_of_le (by omega)]; rfl
namespace Mo
open Pl
noncomputable def tSm : Callf := addT N.ref03_Small gSmall noCall
theorem tSm_ok : CallOK Q tSm := addT_ok noCall_ok gSmall_ok
abbrev SLSma (l : List Ai) (k : Int) (i1 : Int) : St := ⟨.ro tA l :: .int .i64 k :: J :: J :: J :: .int .i64 i1 :: js 24, []⟩
noncomputable abbrev LLSma (n z : Nat) (s : St) : Ans := loopF Q hn0 tSm n N.ref07_Small 0 [1, 0, 1, 0] [] z s
theorem eLSm (l : List Ai) (k : Int) (n : Nat) : runF Q hn0 tSm n N.ref07_Small [.ro tA l, .int .i64 k] [] = LLSma n n (SLSma l k 0) := by kernel_rfl
theorem rLSma (l : List Ai) (k : Int) (i1 : Int) (n m : Nat) : LLSma n (m + 1) (SLSma l k i1) =
  cond (decide (i1 < (l.length : Int))) (cond (decide ((0 : Int) ≤ i1) && decide (i1 < (l.length : Int))) (cond (decide ((0 : Int) ≤ k ∧ k ≤ (1000000 : Int))) (cond (!smallB (l.getD i1.toNat tA.dflt).2.1 k) (some (.bool false, [])) (cond (decide ((0 : Int) ≤ i1) && decide (i1 < (l.length : Int))) (cond (decide ((0 : Int) ≤ k ∧ k ≤ (1000000 : Int))) (cond (!smallB (l.getD i1.toNat tA.dflt).2.2 k) (some (.bool false, [])) (LLSma n m (SLSma l k (wr (i1 + (1 : Int)))))) none) none)) none) none) (some (.bool true, [])) := by kernel_rfl
def allSm (l : List Ai) (k : Int) : Bool := l.all fun a => smallB a.2.1 k && smallB a.2.2 k
theorem run_lsm (l : List Ai) (k : Int) (hl : l.length < 1000000) (hk : 0 ≤ k ∧ k ≤ 1000000) : runF Q hn0 tSm (l.length + 1) N.ref07_Small [.ro tA l, .int .i64 k] [] = some (.bool (allSm l k), []) := by
  rw [eLSm]
  refine (all_loop (F := fun m i => LLSma (l.length + 1) m (SLSma l k i)) l tA.dflt (fun a => smallB a.2.1 k && smallB a.2.2 k) hl (fun m i => ?_) (l.length + 1) 0 (by omega)).trans ?_
  · have hkk : decide (0 ≤ k ∧ k ≤ 1000000) = true := decide_eq_true hk
    rw [rLSma, hkk, cond_true]
    cases hc : (decide ((0 : Int) ≤ i) && decide (i < (l.length : Int)))
    · rfl
    · simp only [cond_true]
      cases smallB (l.getD i.toNat tA.dflt).2.1 k
      · rfl
      · cases smallB (l.getD i.toNat tA.dflt).2.2 k <;> simp only [Bool.not_true, Bool.not_false, cond_true, cond_false, Bool.and_self, Bool.and_false]
  · rw [List.drop_zero]; rfl
def gLSm : G
  | [.ro (.pair (.int .i64) (.pair (.pair (.int .i64) (.int .i64)) (.pair (.int .i64) (.int .i64)))) l, .int .i64 k], [] => some (decide (l.length < 1000000 ∧ 0 ≤ k ∧ k ≤ 1000000), .bool (allSm l k), [])
  | _, _ => none
theorem gLSm_ok (a : List AV) (m : List Slot) (r : Bool × AV × List Slot) (h : gLSm a m = some r) (hk : r.1 = true) : Sound Q N.ref07_Small a m r.2 := by
  unfold gLSm at h
  split at h
  · simp only [Option.some.injEq] at h; subst h
    have hk := of_decide_eq_true hk
    exact sound_of_run tSm_ok (run_lsm _ _ hk.1 hk.2)
  · simp at h
theorem eMSm (w : Mn) (k : Int) (n : Nat) : runF Q hn0 tSm n N.ref04_Small [agM w, .int .i64 k] [] = cond (decide ((0 : Int) ≤ k ∧ k ≤ (1000000 : Int))) (some (.bool (smallB w.2 k), [])) none := by kernel_rfl
def gMSm : G
  | [.agg [.int .i64 t, .int .i64 x, .int .i64 y], .int .i64 k], [] => some (decide (0 ≤ k ∧ k ≤ 1000000), .bool (smallB (x, y) k), [])
  | _, _ => none
theorem gMSm_ok (a : List AV) (m : List Slot) (r : Bool × AV × List Slot) (h : gMSm a m = some r) (hk : r.1 = true) : Sound Q N.ref04_Small a m r.2 := by
  unfold gMSm at h
  split at h
  · simp only [Option.some.injEq] at h; subst h
    rename_i t x y k
    exact sound_of_run (hn := hn0) tSm_ok (n := 0) ((eMSm (t, (x, y)) k 0).trans (cond_dec (of_decide_eq_true hk)))
  · simp at h
noncomputable def tTu : Callf := addT N.ref07_Right gRight (addT N.plan_Right gRight (addT N.ref07_Small gLSm (addT N.ref04_Small gMSm (addT N.ref03_Small gSmall (addT N.plan_Moved gMv (addT N.motion_Do gDo (addT N.plan_At gAt (addT N.plan_Cross gCross (addT N.ref01_Ints Is.g14 (addT N.law07_alive gAlive noCall))))))))))
theorem tTu_ok : CallOK Q tTu := addT_ok (addT_ok (addT_ok (addT_ok (addT_ok (addT_ok (addT_ok (addT_ok (addT_ok (addT_ok (addT_ok noCall_ok gAlive_ok) Is.g14_ok) gCross_plan) gAt_plan) gDo_motion) gMv_plan) gSmall_ok) gMSm_ok) gLSm_ok) gRight_plan) gRight_ref

def atId (l : List Ai) (p : Pt) : Int := match List.find? (fun x => hasB x p) l with | some a => a.1 | none => 0
def atIs (l : List Ai) (p : Pt) : Bool := match List.find? (fun x => hasB x p) l with | some a => true | none => false
abbrev ff : Ans := some (.bool false, [])
abbrev tt : Ans := some (.bool true, [])
/-- What comes behind the guards. -/
def restTu (l x : List Ai) (p q a b : Pt) (one other : Int) : Ans :=
  cond (rightB x) (cond (atId l p == atId x a) (cond (atIs l p == atIs x a) (cond (decide (l.length < 1000000)) (cond (decide (x.length < 1000000)) (cond (decide ((crossL l p q one).length < Is.big)) (cond (decide (crossL l p q one = crossL x a b other)) tt ff) none) none) none) ff) ff) ff
theorem eTu (l : List Ai) (w : Mn) (p q : Pt) (how : Bool) (n : Nat) : runF Q hn0 tTu n N.law07_PlanTurns [.ro tA l, agM w, agP p, agP q, .bool how] [] =
  cond (!rightB l) tt (cond (!rightB l) tt (cond (decide (l.length < 1000000 ∧ (0 : Int) ≤ 200 ∧ (200 : Int) ≤ 1000000)) (cond (!allSm l 200) tt (cond (!smallB w.2 200) tt (cond (!smallB p 200) tt (cond (!smallB q 200) tt (cond (decide (l.length < 1000000)) (cond (decide (l.length < big)) (cond (decide ((List.map (movedA w) l).length < big))
   (cond how (cond (w.1.tmod 2 != 0) (restTu l (l.map (movedA w)) p q (doP w.1 w.2 p) (doP w.1 w.2 q) 1 (wr (1 - 1))) (restTu l (l.map (movedA w)) p q (doP w.1 w.2 p) (doP w.1 w.2 q) 1 1))
    (cond (w.1.tmod 2 != 0) (restTu l (l.map (movedA w)) p q (doP w.1 w.2 p) (doP w.1 w.2 q) 0 (wr (1 - 0))) (restTu l (l.map (movedA w)) p q (doP w.1 w.2 p) (doP w.1 w.2 q) 0 0)))
   none) none) none))))) none)) := by kernel_rfl

theorem refSet_len (l : List Int) : (Is.refSet l).length ≤ l.length := by
  have : ∀ (l out : List Int), (l.foldl (fun o x => Is.ins x false o) out).length ≤ l.length + out.length := by
    intro l
    induction l with
    | nil => intro out; simp
    | cons x l ih => intro out; rw [List.foldl_cons]; have := ih (Is.ins x false out); have := Is.ins_len x false out; simp; omega
  have := this l []
  simpa [Is.refSet] using this

theorem find_map {α : Type} (f : α → α) (g h : α → Bool) : ∀ (l : List α), (∀ a ∈ l, g (f a) = h a) → (l.map f).find? g = (l.find? h).map f
  | [], _ => rfl
  | a :: l, e => by
    rw [List.map_cons, List.find?_cons, List.find?_cons, e a (by simp)]
    cases h a
    · exact find_map f g h l fun b hb => e b (by simp [hb])
    · rfl
theorem filter_map_id (f : Ai → Ai) (hf : ∀ a, (f a).1 = a.1) (g h : Ai → Bool) : ∀ (l : List Ai), (∀ a ∈ l, g (f a) = h a) → ((l.map f).filter g).map (·.1) = (l.filter h).map (·.1)
  | [], _ => rfl
  | a :: l, e => by
    rw [List.map_cons, List.filter_cons, List.filter_cons, e a (by simp)]
    have ih := filter_map_id f hf g h l fun b hb => e b (by simp [hb])
    cases h a
    · simpa using ih
    · simp only [if_true, List.map_cons, hf, ih]

theorem rest_tt (l : List Ai) (w : Mn) (p q : Pt) (one other : Int) (hR : rightB l = true) (hs : allSm l 200 = true) (hw : smallB w.2 200 = true) (hp : smallB p 200 = true) (hq : smallB q 200 = true)
    (h1 : one = 0 ∨ one = 1) (h2 : other = if w.1 % 4 % 2 = 0 then one else 1 - one) : restTu l (l.map (movedA w)) p q (doP w.1 w.2 p) (doP w.1 w.2 q) one other = tt := by
  have hk : 0 ≤ w.1 % 4 ∧ w.1 % 4 < 4 := by omega
  have hs' : ∀ a ∈ l, smallB a.2.1 200 = true ∧ smallB a.2.2 200 = true := fun a ha => by
    have := List.all_eq_true.1 hs a ha
    simpa using this
  have hm : l.map (movedA w) = l.map (trA (w.1 % 4) w.2) := List.map_congr_left fun a ha => by
    obtain ⟨s1, s2⟩ := hs' a ha
    unfold movedA trA
    rw [doP_tr _ _ _ hw s1, doP_tr _ _ _ hw s2]
  have hlen : l.length ≤ 32 := by
    unfold rightB at hR
    simp only [Bool.and_eq_true, decide_eq_true_eq] at hR
    exact hR.1
  have hok : okFrom [] 0 l = true := by
    unfold rightB at hR
    simp only [Bool.and_eq_true] at hR
    exact hR.2
  have hOk := okFrom_ok l [] 0 hok
  have r1 : rightB (l.map (trA (w.1 % 4) w.2)) = true := by
    unfold rightB
    rw [Bool.and_eq_true]
    exact ⟨decide_eq_true (by rw [List.length_map]; exact hlen), tr_okFrom _ hk _ hw l [] 0 hok (fun a ha => by simp at ha) hs'⟩
  have r2 : (l.map (trA (w.1 % 4) w.2)).find? (fun x => hasB x (tr (w.1 % 4) w.2 p)) = (l.find? (fun x => hasB x p)).map (trA (w.1 % 4) w.2) :=
    find_map _ _ _ l fun a ha => tr_has _ hk _ a (hOk a ha) p
  have r3 : atId (l.map (trA (w.1 % 4) w.2)) (tr (w.1 % 4) w.2 p) = atId l p := by
    unfold atId
    rw [r2]
    cases l.find? (fun x => hasB x p) <;> rfl
  have r4 : atIs (l.map (trA (w.1 % 4) w.2)) (tr (w.1 % 4) w.2 p) = atIs l p := by
    unfold atIs
    rw [r2]
    cases l.find? (fun x => hasB x p) <;> rfl
  have r5 : crossL (l.map (trA (w.1 % 4) w.2)) (tr (w.1 % 4) w.2 p) (tr (w.1 % 4) w.2 q) other = crossL l p q one := by
    unfold crossL
    rw [filter_map_id (trA (w.1 % 4) w.2) (fun a => rfl) _ (onLegs p q one) l fun a ha => by rw [h2]; exact tr_onLegs _ hk _ p q one h1 hw hp hq a (hOk a ha)]
  have r6 : (crossL l p q one).length < Is.big := by
    unfold crossL
    have := refSet_len ((l.filter (onLegs p q one)).map (·.1))
    have h3 := List.length_filter_le (onLegs p q one) l
    rw [List.length_map] at this
    unfold Is.big
    omega
  unfold restTu
  rw [hm, doP_tr _ _ _ hw hp, doP_tr _ _ _ hw hq, r1, r3, r4, r5, cond_true, beq_self_eq_true, beq_self_eq_true, cond_true, cond_true, cond_dec (p := l.length < 1000000) (by omega), cond_dec (by rw [List.length_map]; omega), cond_dec r6, cond_dec rfl]

theorem lawTurns (l : List Ai) (w : Mn) (p q : Pt) (how : Bool) : Sound Q N.law07_PlanTurns [.ro tA l, agM w, agP p, agP q, .bool how] [] (.bool true, []) := by
  refine sound_of_run (hn := hn0) tTu_ok (n := 0) ?_
  rw [eTu]
  cases hR : rightB l
  · rfl
  have hlen : l.length ≤ 32 := by
    unfold rightB at hR
    simp only [Bool.and_eq_true, decide_eq_true_eq] at hR
    exact hR.1
  rw [Bool.not_true, cond_false, cond_false, cond_dec (p := l.length < 1000000 ∧ (0 : Int) ≤ 200 ∧ (200 : Int) ≤ 1000000) (by omega)]
  cases hs : allSm l 200
  · rfl
  cases hw : smallB w.2 200
  · rfl
  cases hp : smallB p 200
  · rfl
  cases hq : smallB q 200
  · rfl
  rw [Bool.not_true, cond_false, cond_false, cond_false, cond_false, cond_dec (p := l.length < 1000000) (by omega), cond_dec (p := l.length < big) (by unfold big; omega), cond_dec (p := (List.map (movedA w) l).length < big) (by rw [List.length_map]; unfold big; omega)]
  have hm2 : w.1.tmod 2 = 0 ↔ w.1 % 4 % 2 = 0 := by
    rw [← Int.dvd_iff_tmod_eq_zero]
    omega
  have e1 : wr (1 - 1) = 0 := rfl
  have e2 : wr (1 - 0) = 1 := rfl
  by_cases h0 : w.1.tmod 2 = 0
  · have h3 : (w.1.tmod 2 != 0) = false := by simpa using h0
    rw [h3, cond_false, cond_false]
    cases how
    · exact rest_tt l w p q 0 0 hR hs hw hp hq (.inl rfl) (by rw [if_pos (hm2.1 h0)])
    · exact rest_tt l w p q 1 1 hR hs hw hp hq (.inr rfl) (by rw [if_pos (hm2.1 h0)])
  · have h3 : (w.1.tmod 2 != 0) = true := by simpa using h0
    rw [h3, cond_true, cond_true, e1, e2]
    cases how
    · exact rest_tt l w p q 0 1 hR hs hw hp hq (.inl rfl) (by rw [if_neg (fun e => h0 (hm2.2 e))]; rfl)
    · exact rest_tt l w p q 1 0 hR hs hw hp hq (.inr rfl) (by rw [if_neg (fun e => h0 (hm2.2 e))]; rfl)
end Mo
end Go.Ab
