/- TaskAsks. -/
import Derived.Test.YtmclfehlflekhaaTaE
namespace Go.Ab
set_option linter.unusedVariables false
namespace Ta
open Pl Mo
abbrev U (x : Int) : Prop := 0 ≤ x ∧ x < 18446744073709551616
theorem is_loop (w : Int) (hw : U w) (i : Nat) (hi : i ≤ 63) (n : Nat) : ∀ (m k : Nat), k ≤ i → i - k < m → LRIsa n m (SRIsa i ((w.toNat / 2 ^ k : Nat) : Int) k) = some (.bool (w.toNat.testBit i), []) := by
  intro m
  induction m with
  | zero => intro k h h'; omega
  | succ m ih =>
    intro k hk hm
    rw [rRIsa]
    have hlt : w.toNat / 2 ^ k ≤ w.toNat := Nat.div_le_self _ _
    by_cases h : k < i
    · rw [cond_dec (by omega), Go.Ab.wrN (by omega)]
      have e : ((w.toNat / 2 ^ k : Nat) : Int).tdiv 2 = ((w.toNat / 2 ^ (k + 1) : Nat) : Int) := by
        rw [Int.tdiv_eq_ediv_of_nonneg (Int.natCast_nonneg _), Nat.pow_succ, ← Nat.div_div_eq_div_mul]; rfl
      have hlt2 : w.toNat / 2 ^ (k + 1) ≤ w.toNat := Nat.div_le_self _ _
      have hw2 : IntKind.u64.wrap ((w.toNat / 2 ^ (k + 1) : Nat) : Int) = ((w.toNat / 2 ^ (k + 1) : Nat) : Int) := by
        generalize w.toNat / 2 ^ (k + 1) = q at *
        exact wrapU (by omega) (by have := hw.2; have := hw.1; omega)
      rw [e, hw2]
      exact ih (k + 1) (by omega) (by omega)
    · have : k = i := by omega
      subst this
      rw [cond_dec' (by omega)]
      congr 3
      rw [Int.tmod_eq_emod_of_nonneg (Int.natCast_nonneg _), Nat.testBit_eq_decide_div_mod_eq]
      rw [Bool.eq_iff_iff, beq_iff_eq, decide_eq_true_iff]
      generalize w.toNat / 2 ^ k = q
      omega
theorem run_is (w i : Int) (hw : U w) : runF Q hn0 noCall 65 N.ref12_Is [.int .u64 w, .int .i64 i] [] = some (.bool (bitB w i), []) := by
  rw [eRIs]
  unfold bitB
  by_cases h1 : i < 0
  · rw [cond_dec h1, decide_eq_false (by omega)]; rfl
  · rw [cond_dec' h1]
    by_cases h2 : i > 63
    · rw [cond_dec h2, decide_eq_false (by omega)]; rfl
    · rw [cond_dec' h2, decide_eq_true (by omega), Bool.true_and]
      have := is_loop w hw i.toNat (by omega) 65 65 0 (by omega) (by omega)
      rw [Nat.pow_zero, Nat.div_one, show ((i.toNat : Nat) : Int) = i by omega, show ((w.toNat : Nat) : Int) = w by have := hw.1; omega] at this
      exact this
theorem gIs_ok (a : List AV) (m : List Slot) (r : Bool × AV × List Slot) (h : gIs a m = some r) (hk : r.1 = true) : Sound Q N.ref12_Is a m r.2 := by
  unfold gIs at h
  split at h
  · simp only [Option.some.injEq] at h; subst h; exact sound_of_run noCall_ok (run_is _ _ (of_decide_eq_true hk))
  · simp at h
theorem tRHas_ok : CallOK Q tRHas := addT_ok noCall_ok gIs_ok
theorem has_loop (x y : Int) (hx : U x) (hy : U y) (n : Nat) : ∀ (m i : Nat), i ≤ 64 → 64 - i < m → LRHasa n m (SRHasa x y i) = some (.bool ((List.range' i (64 - i)).all fun k => !(y.toNat.testBit k) || x.toNat.testBit k), []) := by
  intro m
  induction m with
  | zero => intro i h h'; omega
  | succ m ih =>
    intro i hi' hm
    rw [rRHasa, cond_dec (p := 0 ≤ y ∧ y < 18446744073709551616) hy, cond_dec (p := 0 ≤ x ∧ x < 18446744073709551616) hx]
    by_cases hi : i < 64
    · rw [cond_dec (by omega), Go.Ab.wrN (by omega), ih (i + 1) (by omega) (by omega), show 64 - i = (64 - (i + 1)) + 1 by omega, List.range'_succ, List.all_cons]
      have b : ∀ w, bitB w (i : Int) = w.toNat.testBit i := fun w => by
        unfold bitB; rw [decide_eq_true (by omega), Bool.true_and, Int.toNat_natCast]
      rw [b, b]
      cases y.toNat.testBit i <;> cases x.toNat.testBit i <;> rfl
    · rw [cond_dec' (by omega), show 64 - i = 0 by omega]; rfl
theorem run_rhas (x y : Int) (hx : U x) (hy : U y) : runF Q hn0 tRHas 66 N.ref12_Has [.int .u64 x, .int .u64 y] [] = some (.bool (hasW x y), []) := by
  rw [eRHas]
  have := has_loop x y hx hy 66 66 0 (by omega) (by omega)
  unfold hasW
  rw [List.range_eq_range']
  exact this
theorem gHasW_skill (a : List AV) (m : List Slot) (r : Bool × AV × List Slot) (h : gHasW a m = some r) (hk : r.1 = true) : Sound Q N.skill_Has a m r.2 := by
  unfold gHasW at h
  split at h
  · simp only [Option.some.injEq] at h; subst h
    have hk := of_decide_eq_true hk
    exact sound_of_run noCall_ok (run_skH _ _ hk.1 hk.2 0)
  · simp at h
theorem gHasW_ref (a : List AV) (m : List Slot) (r : Bool × AV × List Slot) (h : gHasW a m = some r) (hk : r.1 = true) : Sound Q N.ref12_Has a m r.2 := by
  unfold gHasW at h
  split at h
  · simp only [Option.some.injEq] at h; subst h
    have hk := of_decide_eq_true hk
    exact sound_of_run tRHas_ok (run_rhas _ _ hk.1 hk.2)
  · simp at h
theorem tFi_ok : CallOK Q tFi := addT_ok (addT_ok noCall_ok gHasW_ref) gHasW_skill
def fitsW (x : Sp) (a b : Int) : Bool := hasW a x.2.2.1 && hasW b x.2.2.2.1
def gFi : G
  | [.agg [.int .i64 a, .int .i64 b, .int .u64 c, .int .u64 d, .int .i64 e, .int .i64 f, .int .i64 g, .int .i64 h, .ro (.int .i64) l], .int .u64 y, .int .u64 z], [] =>
    some (decide ((U c ∧ U d) ∧ (U y ∧ U z)), .bool (fitsW (a, b, c, d, (e, f), (g, h), l) y z), [])
  | _, _ => none
theorem gFi_task (a : List AV) (m : List Slot) (r : Bool × AV × List Slot) (h : gFi a m = some r) (hk : r.1 = true) : Sound Q N.task_Fits a m r.2 := by
  unfold gFi at h
  split at h
  · simp only [Option.some.injEq] at h; subst h
    rename_i a b c d e f g h l y z
    have hk := of_decide_eq_true hk
    refine sound_of_run (hn := hn0) tFi_ok (n := 0) ((eFi (a, b, c, d, (e, f), (g, h), l) y z 0).trans ?_)
    rw [cond_dec (p := U y ∧ U c) ⟨hk.2.1, hk.1.1⟩, cond_dec (p := U z ∧ U d) ⟨hk.2.2, hk.1.2⟩, fold_and]
    rfl
  · simp at h
theorem gFi_ref (a : List AV) (m : List Slot) (r : Bool × AV × List Slot) (h : gFi a m = some r) (hk : r.1 = true) : Sound Q N.ref22_Fits a m r.2 := by
  unfold gFi at h
  split at h
  · simp only [Option.some.injEq] at h; subst h
    rename_i a b c d e f g h l y z
    have hk := of_decide_eq_true hk
    refine sound_of_run (hn := hn0) tFi_ok (n := 0) ((eRFi (a, b, c, d, (e, f), (g, h), l) y z 0).trans ?_)
    rw [cond_dec (p := U y ∧ U c) ⟨hk.2.1, hk.1.1⟩, cond_dec (p := U z ∧ U d) ⟨hk.2.2, hk.1.2⟩, fold_and]
    rfl
  · simp at h
theorem tCl_ok : CallOK Q tCl := addT_ok noCall_ok Is.g80_ok
def gCl : G
  | [.agg [.int .i64 a, .int .i64 b, .int .u64 c, .int .u64 d, .int .i64 e, .int .i64 f, .int .i64 g, .int .i64 h, .ro (.int .i64) l]], [] =>
    some (decide (l.length < Is.big), .agg [.int .i64 a, .int .i64 b, .int .u64 c, .int .u64 d, .int .i64 e, .int .i64 f, .int .i64 g, .int .i64 h, .tail 0 0], [.obj (.rows tI l)])
  | _, _ => none
theorem gCl_ok (a : List AV) (m : List Slot) (r : Bool × AV × List Slot) (h : gCl a m = some r) (hk : r.1 = true) : Sound Q N.task_Clone a m r.2 := by
  unfold gCl at h
  split at h
  · simp only [Option.some.injEq] at h; subst h
    rename_i a b c d e f g h l
    exact sound_of_run (hn := hn0) tCl_ok (n := 0) ((eCl (a, b, c, d, (e, f), (g, h), l) 0).trans (cond_dec (of_decide_eq_true hk)))
  · simp at h
noncomputable def tW : Callf := addT N.plan_Cross gCross (addT N.ref07_Cross gCross noCall)
theorem tW_ok : CallOK Q tW := addT_ok (addT_ok noCall_ok gCross_ref) gCross_plan
theorem eW (r : Ru) (x : Sp) (n : Nat) : runF Q hn0 tW n N.task_Want [agR r, agS x] [] = cond (decide (r.2.2.2.2.2.2.2.length < 1000000)) (some (.ro tI (crossL r.2.2.2.2.2.2.2 x.2.2.2.2.1 x.2.2.2.2.2.1 0), [])) none := by kernel_rfl
theorem eRW (r : Ru) (x : Sp) (n : Nat) : runF Q hn0 tW n N.ref22_Want [agR r, agS x] [] = cond (decide (r.2.2.2.2.2.2.2.length < 1000000)) (some (.ro tI (crossL r.2.2.2.2.2.2.2 x.2.2.2.2.1 x.2.2.2.2.2.1 0), [])) none := by kernel_rfl
def gW : G
  | [.agg [.int .i64 a, .int .i64 b, .int .i64 c, .int .i64 d, .int .i64 e, .int .i64 f, .int .i64 g, .ro (.pair (.int .i64) (.pair (.pair (.int .i64) (.int .i64)) (.pair (.int .i64) (.int .i64)))) l], .agg [.int .i64 a', .int .i64 b', .int .u64 c', .int .u64 d', .int .i64 e', .int .i64 f', .int .i64 g', .int .i64 h', .ro (.int .i64) l']], [] =>
    some (decide (l.length < 1000000), .ro tI (crossL l (e', f') (g', h') 0), [])
  | _, _ => none
theorem gW_task (a : List AV) (m : List Slot) (r : Bool × AV × List Slot) (h : gW a m = some r) (hk : r.1 = true) : Sound Q N.task_Want a m r.2 := by
  unfold gW at h
  split at h
  · simp only [Option.some.injEq] at h; subst h
    rename_i a b c d e f g l a' b' c' d' e' f' g' h' l'
    exact sound_of_run (hn := hn0) tW_ok (n := 0) ((eW (a, b, c, d, e, f, g, l) (a', b', c', d', (e', f'), (g', h'), l') 0).trans (cond_dec (of_decide_eq_true hk)))
  · simp at h
theorem gW_ref (a : List AV) (m : List Slot) (r : Bool × AV × List Slot) (h : gW a m = some r) (hk : r.1 = true) : Sound Q N.ref22_Want a m r.2 := by
  unfold gW at h
  split at h
  · simp only [Option.some.injEq] at h; subst h
    rename_i a b c d e f g l a' b' c' d' e' f' g' h' l'
    exact sound_of_run (hn := hn0) tW_ok (n := 0) ((eRW (a, b, c, d, e, f, g, l) (a', b', c', d', (e', f'), (g', h'), l') 0).trans (cond_dec (of_decide_eq_true hk)))
  · simp at h
end Ta
end Go.Ab
