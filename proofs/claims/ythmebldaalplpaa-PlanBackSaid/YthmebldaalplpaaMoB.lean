/- Motions of points, as the document's answer computes them, off its code. -/
import Derived.Test.YthmebldaalplpaaMo
namespace Go.Ab
set_option linter.unusedVariables false
namespace Mo
theorem eMDo' (k : Int) (p q : Pt) : Sound Q N.motion_Do [.agg [.int .i64 k, .int .i64 p.1, .int .i64 p.2], agP q] [] (agP (doP k p q), []) := sound_of_run tDo_ok (run_mdo k p q 0)
def gDo : G
  | [.agg [.int .i64 k, .int .i64 a, .int .i64 b], .agg [.int .i64 x, .int .i64 y]], [] => some (true, .agg [.int .i64 (doP k (a, b) (x, y)).1, .int .i64 (doP k (a, b) (x, y)).2], [])
  | _, _ => none
theorem gDo_motion (a : List AV) (m : List Slot) (r : Bool × AV × List Slot) (h : gDo a m = some r) (hk : r.1 = true) : Sound Q N.motion_Do a m r.2 := by
  unfold gDo at h
  split at h
  · simp only [Option.some.injEq] at h; subst h; exact eMDo' _ (_, _) (_, _)
  · simp at h

theorem eClip3 (x a b : Int) (n : Nat) : runF Q hn0 noCall n N.ref02_Clip [.int .i64 x, .int .i64 a, .int .i64 b] [] =
  cond (decide (x < a)) (some (.int .i64 a, [])) (cond (decide (x > b)) (some (.int .i64 b, [])) (some (.int .i64 x, []))) := by kernel_rfl
def gClip3 : G
  | [.int .i64 x, .int .i64 a, .int .i64 b], [] => some (decide (a ≤ b), .int .i64 (max a (min x b)), [])
  | _, _ => none
theorem gClip3_ok (a : List AV) (m : List Slot) (r : Bool × AV × List Slot) (h : gClip3 a m = some r) (hk : r.1 = true) : Sound Q N.ref02_Clip a m r.2 := by
  unfold gClip3 at h
  split at h
  · simp only [Option.some.injEq] at h; subst h
    rename_i x a b
    have hk : a ≤ b := of_decide_eq_true hk
    refine sound_of_run (hn := hn0) noCall_ok (n := 0) ((eClip3 x a b 0).trans ?_)
    by_cases h : x < a
    · rw [cond_dec h, show max a (min x b) = a by omega]
    · rw [cond_dec' h]
      by_cases h' : x > b
      · rw [cond_dec h', show max a (min x b) = b by omega]
      · rw [cond_dec' h', show max a (min x b) = x by omega]
  · simp at h
noncomputable def tClip3 : Callf := addT N.ref02_Clip gClip3 noCall
theorem tClip3_ok : CallOK Q tClip3 := addT_ok noCall_ok gClip3_ok
theorem ePart (x : Int) (n : Nat) : runF Q hn0 tClip3 n N.ref03_part [.int .i64 x] [] = some (.int .i64 (clipF x), []) := by kernel_rfl
def gPart : G
  | [.int .i64 x], [] => some (true, .int .i64 (clipF x), [])
  | _, _ => none
theorem gPart_ok (a : List AV) (m : List Slot) (r : Bool × AV × List Slot) (h : gPart a m = some r) (hk : r.1 = true) : Sound Q N.ref03_part a m r.2 := by
  unfold gPart at h
  split at h
  · simp only [Option.some.injEq] at h; subst h; exact sound_of_run tClip3_ok (ePart _ 0)
  · simp at h
noncomputable def tPart : Callf := addT N.ref03_part gPart noCall
theorem tPart_ok : CallOK Q tPart := addT_ok noCall_ok gPart_ok
theorem eRFix (p : Pt) (n : Nat) : runF Q hn0 tPart n N.ref03_Fix [agP p] [] = some (agP (fixP p), []) := by kernel_rfl
theorem gGFix_ref (a : List AV) (m : List Slot) (r : Bool × AV × List Slot) (h : gGFix a m = some r) (hk : r.1 = true) : Sound Q N.ref03_Fix a m r.2 := by
  unfold gGFix at h
  split at h
  · simp only [Option.some.injEq] at h; subst h; exact sound_of_run tPart_ok (eRFix (_, _) 0)
  · simp at h
noncomputable def tR : Callf := addT N.ref03_Fix gGFix noCall
theorem tR_ok : CallOK Q tR := addT_ok noCall_ok gGFix_ref
theorem wr_id {z : Int} (h : -9223372036854775808 ≤ z) (h' : z ≤ 9223372036854775807) : wr z = z := wrap64 h h'
theorem eRQ (k : Int) (n : Nat) : runF Q hn0 noCall n N.ref03_Quarter [.int .i64 k] [] =
  cond (decide (k.tmod 4 < 0)) (some (.int .i64 (wr (k.tmod 4 + 4)), [])) (some (.int .i64 (k.tmod 4), [])) := by kernel_rfl
def gQ : G
  | [.int .i64 x], [] => some (true, .int .i64 (x % 4), [])
  | _, _ => none
theorem gQ_ok (a : List AV) (m : List Slot) (r : Bool × AV × List Slot) (h : gQ a m = some r) (hk : r.1 = true) : Sound Q N.ref03_Quarter a m r.2 := by
  unfold gQ at h
  split at h
  · simp only [Option.some.injEq] at h; subst h
    rename_i x
    refine sound_of_run (hn := hn0) noCall_ok (n := 0) ((eRQ x 0).trans ?_)
    have h1 : x.tmod 4 = if x % 4 = 0 ∨ 0 ≤ x then x % 4 else x % 4 - 4 := by
      rw [Int.tmod_eq_emod]
      split <;> split <;> omega
    by_cases h : x.tmod 4 < 0
    · rw [cond_dec h, wr_id (by rw [h1]; split <;> omega) (by rw [h1]; split <;> omega), h1]
      rw [h1] at h
      congr 3
      split at h <;> split <;> omega
    · rw [cond_dec' h, h1]
      rw [h1] at h
      congr 3
      split at h <;> split <;> omega
  · simp at h
noncomputable def tRT : Callf := addT N.ref03_Quarter gQ tR
theorem tRT_ok : CallOK Q tRT := addT_ok tR_ok gQ_ok
theorem eRTurn (p : Pt) (k : Int) (n : Nat) : runF Q hn0 tRT n N.ref03_Turn [agP p, .int .i64 k] [] =
  cond (k % 4 == 1) (some (.agg [.int .i64 (wr (0 - clipF p.2)), .int .i64 (clipF p.1)], [])) (cond (k % 4 == 2) (some (.agg [.int .i64 (wr (0 - clipF p.1)), .int .i64 (wr (0 - clipF p.2))], [])) (cond (k % 4 == 3) (some (.agg [.int .i64 (clipF p.2), .int .i64 (wr (0 - clipF p.1))], [])) (some (.agg [.int .i64 (clipF p.1), .int .i64 (clipF p.2)], [])))) := by kernel_rfl
theorem gGTurn_ref (a : List AV) (m : List Slot) (r : Bool × AV × List Slot) (h : gGTurn a m = some r) (hk : r.1 = true) : Sound Q N.ref03_Turn a m r.2 := by
  unfold gGTurn at h
  split at h
  · simp only [Option.some.injEq] at h; subst h
    rename_i x y k
    refine sound_of_run (hn := hn0) tRT_ok (n := 0) ((eRTurn (x, y) k 0).trans ?_)
    have h1 := clipF_bd x
    have h2 := clipF_bd y
    rw [wr_id (by dsimp only; omega) (by dsimp only; omega), wr_id (by dsimp only; omega) (by dsimp only; omega)]
    have hk : k % 4 = 0 ∨ k % 4 = 1 ∨ k % 4 = 2 ∨ k % 4 = 3 := by omega
    rcases hk with e | e | e | e <;> rw [e] <;> simp [turnQ, fixP]
  · simp at h
theorem eRAdd (p q : Pt) (n : Nat) : runF Q hn0 tR n N.ref03_Add [agP p, agP q] [] = some (.agg [.int .i64 (wr (clipF p.1 + clipF q.1)), .int .i64 (wr (clipF p.2 + clipF q.2))], []) := by kernel_rfl
def gAdd : G
  | [.agg [.int .i64 a, .int .i64 b], .agg [.int .i64 x, .int .i64 y]], [] => some (true, .agg [.int .i64 (clipF a + clipF x), .int .i64 (clipF b + clipF y)], [])
  | _, _ => none
theorem gAdd_ok (a : List AV) (m : List Slot) (r : Bool × AV × List Slot) (h : gAdd a m = some r) (hk : r.1 = true) : Sound Q N.ref03_Add a m r.2 := by
  unfold gAdd at h
  split at h
  · simp only [Option.some.injEq] at h; subst h
    rename_i a b x y
    refine sound_of_run (hn := hn0) tR_ok (n := 0) ((eRAdd (a, b) (x, y) 0).trans ?_)
    have h1 := clipF_bd a
    have h2 := clipF_bd b
    have h3 := clipF_bd x
    have h4 := clipF_bd y
    rw [wr_id (by dsimp only; omega) (by dsimp only; omega), wr_id (by dsimp only; omega) (by dsimp only; omega)]
  · simp at h
noncomputable def tRDo : Callf := addT N.ref03_Turn gGTurn (addT N.ref03_Add gAdd noCall)
theorem tRDo_ok : CallOK Q tRDo := addT_ok (addT_ok noCall_ok gAdd_ok) gGTurn_ref
theorem eRDo (k : Int) (p q : Pt) (n : Nat) : runF Q hn0 tRDo n N.ref04_Do [.agg [.int .i64 k, .int .i64 p.1, .int .i64 p.2], agP q] [] =
  some (.agg [.int .i64 (clipF (turnQ (fixP q) (k % 4)).1 + clipF p.1), .int .i64 (clipF (turnQ (fixP q) (k % 4)).2 + clipF p.2)], []) := by kernel_rfl
theorem turn_bd (q : Pt) (k : Int) : clipF (turnQ (fixP q) k).1 = (turnQ (fixP q) k).1 ∧ clipF (turnQ (fixP q) k).2 = (turnQ (fixP q) k).2 := by
  have h1 := clipF_bd q.1
  have h2 := clipF_bd q.2
  unfold turnQ fixP clipF at *
  split
  · dsimp only; omega
  · split
    · dsimp only; omega
    · split
      · dsimp only; omega
      · dsimp only; omega
theorem gDo_ref (a : List AV) (m : List Slot) (r : Bool × AV × List Slot) (h : gDo a m = some r) (hk : r.1 = true) : Sound Q N.ref04_Do a m r.2 := by
  unfold gDo at h
  split at h
  · simp only [Option.some.injEq] at h; subst h
    rename_i k a b x y
    refine sound_of_run (hn := hn0) tRDo_ok (n := 0) ((eRDo k (a, b) (x, y) 0).trans ?_)
    rw [(turn_bd _ _).1, (turn_bd _ _).2]
    rfl
  · simp at h
end Mo
end Go.Ab
