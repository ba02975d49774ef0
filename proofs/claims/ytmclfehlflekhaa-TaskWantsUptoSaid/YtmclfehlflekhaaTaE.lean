/- Tasks and rules: whether they fit, and whether they are alike. -/
import Derived.Test.YtmclfehlflekhaaTaD
namespace Go.Ab
set_option linter.unusedVariables false
namespace Ta
open Pl Mo
theorem beq_dec (a b : Int) : (a == b) = decide (a = b) := rfl
theorem eqI_loop (l k : List Int) (n : Nat) (hl : l.length < 1000000) (hk : k.length = l.length) : ∀ (m i : Nat), l.length - i < m → LEqIa n m (SEqIa l k i) = some (.bool (decide (l.drop i = k.drop i)), []) :=
  same_loop (F := fun m i => LEqIa n m (SEqIa l k i)) l k 0 (fun a b => decide (a = b)) (fun _ _ => rfl) hl hk (fun m i => rEqIa l k i n m)
theorem run_eqI (l k : List Int) (hl : l.length < 1000000) : runF Q hn0 noCall (l.length + 1) N.slices_Equal_int [.ro tI l, .ro tI k] [] = some (.bool (decide (l = k)), []) := by
  rw [eEqI]
  by_cases h : k.length = l.length
  · have e1 : ((l.length : Int) != (k.length : Int)) = false := by simp [h]
    rw [e1, cond_false]
    exact eqI_loop l k _ hl h (l.length + 1) 0 (by omega)
  · have e1 : ((l.length : Int) != (k.length : Int)) = true := by simp; omega
    rw [e1, cond_true, show decide (l = k) = false from decide_eq_false fun e => h (by rw [e])]
theorem run_eqA (l k : List Ai) (hl : l.length < 1000000) : runF Q hn0 noCall (l.length + 1) N.slices_Equal_api_Aisle [.ro tA l, .ro tA k] [] = some (.bool (decide (l = k)), []) := by
  rw [eEqA]
  by_cases h : k.length = l.length
  · have e1 : ((l.length : Int) != (k.length : Int)) = false := by simp [h]
    rw [e1, cond_false]
    exact same_loop (F := fun m i => LEqAa (l.length + 1) m (SEqAa l k i)) l k tA.dflt eqAi eqAi_iff hl h (fun m i => rEqAa l k i _ m) (l.length + 1) 0 (by omega)
  · have e1 : ((l.length : Int) != (k.length : Int)) = true := by simp; omega
    rw [e1, cond_true, show decide (l = k) = false from decide_eq_false fun e => h (by rw [e])]
theorem gEqI_ok (a : List AV) (m : List Slot) (r : Bool × AV × List Slot) (h : gEqI a m = some r) (hk : r.1 = true) : Sound Q N.slices_Equal_int a m r.2 := by
  unfold gEqI at h
  split at h
  · simp only [Option.some.injEq] at h; subst h; exact sound_of_run noCall_ok (run_eqI _ _ (of_decide_eq_true hk))
  · simp at h
theorem gEqA_ok (a : List AV) (m : List Slot) (r : Bool × AV × List Slot) (h : gEqA a m = some r) (hk : r.1 = true) : Sound Q N.slices_Equal_api_Aisle a m r.2 := by
  unfold gEqA at h
  split at h
  · simp only [Option.some.injEq] at h; subst h; exact sound_of_run noCall_ok (run_eqA _ _ (of_decide_eq_true hk))
  · simp at h
theorem tSa_ok : CallOK Q tSa := addT_ok (addT_ok (inlT_ok (inlT_ok noCall_ok)) gEqA_ok) gEqI_ok
theorem tRSa_ok : CallOK Q tRSa := addT_ok (addT_ok noCall_ok gSame_ok) Is.g14_ok
def sameS (x y : Sp) : Bool := decide (x.1 = y.1 ∧ x.2.1 = y.2.1 ∧ x.2.2.1 = y.2.2.1 ∧ x.2.2.2.1 = y.2.2.2.1 ∧ (x.2.2.2.2.1.1 = y.2.2.2.2.1.1 ∧ x.2.2.2.2.1.2 = y.2.2.2.2.1.2) ∧ (x.2.2.2.2.2.1.1 = y.2.2.2.2.2.1.1 ∧ x.2.2.2.2.2.1.2 = y.2.2.2.2.2.1.2) ∧ x.2.2.2.2.2.2 = y.2.2.2.2.2.2)
def sameR (x y : Ru) : Bool := decide (x.1 = y.1 ∧ x.2.1 = y.2.1 ∧ x.2.2.1 = y.2.2.1 ∧ x.2.2.2.1 = y.2.2.2.1 ∧ x.2.2.2.2.1 = y.2.2.2.2.1 ∧ x.2.2.2.2.2.1 = y.2.2.2.2.2.1 ∧ x.2.2.2.2.2.2.1 = y.2.2.2.2.2.2.1 ∧ x.2.2.2.2.2.2.2 = y.2.2.2.2.2.2.2)
def gSa : G
  | [.agg [.int .i64 a, .int .i64 b, .int .u64 c, .int .u64 d, .int .i64 e, .int .i64 f, .int .i64 g, .int .i64 h, .ro (.int .i64) l], .agg [.int .i64 a', .int .i64 b', .int .u64 c', .int .u64 d', .int .i64 e', .int .i64 f', .int .i64 g', .int .i64 h', .ro (.int .i64) l']], [] =>
    some (decide (l.length < 1000000), .bool (sameS (a, b, c, d, (e, f), (g, h), l) (a', b', c', d', (e', f'), (g', h'), l')), [])
  | _, _ => none
def gSRu : G
  | [.agg [.int .i64 a, .int .i64 b, .int .i64 c, .int .i64 d, .int .i64 e, .int .i64 f, .int .i64 g, .ro (.pair (.int .i64) (.pair (.pair (.int .i64) (.int .i64)) (.pair (.int .i64) (.int .i64)))) l], .agg [.int .i64 a', .int .i64 b', .int .i64 c', .int .i64 d', .int .i64 e', .int .i64 f', .int .i64 g', .ro (.pair (.int .i64) (.pair (.pair (.int .i64) (.int .i64)) (.pair (.int .i64) (.int .i64)))) l']], [] =>
    some (decide (l.length < 1000000), .bool (sameR (a, b, c, d, e, f, g, l) (a', b', c', d', e', f', g', l')), [])
  | _, _ => none
theorem gSa_task (a : List AV) (m : List Slot) (r : Bool × AV × List Slot) (h : gSa a m = some r) (hk : r.1 = true) : Sound Q N.task_Same a m r.2 := by
  unfold gSa at h
  split at h
  · simp only [Option.some.injEq] at h; subst h
    rename_i a b c d e f g h l a' b' c' d' e' f' g' h' l'
    have hl : List.length l < 1000000 := of_decide_eq_true hk
    refine sound_of_run (hn := hn0) tSa_ok (n := 0) ((eSa (a, b, c, d, (e, f), (g, h), l) (a', b', c', d', (e', f'), (g', h'), l') 0).trans ?_)
    rw [cond_dec hl, fold_and]
    congr 3
    rw [Bool.eq_iff_iff]
    simp only [Bool.and_eq_true, beq_iff_eq, decide_eq_true_eq, sameS]
    constructor
    · rintro ⟨⟨h1, h2, h3, h4, ⟨h5, h6, _⟩, ⟨h7, h8, _⟩, _⟩, h9⟩; exact ⟨h1, h2, h3, h4, ⟨h5, h6⟩, ⟨h7, h8⟩, h9⟩
    · rintro ⟨h1, h2, h3, h4, ⟨h5, h6⟩, ⟨h7, h8⟩, h9⟩; exact ⟨⟨h1, h2, h3, h4, ⟨h5, h6, trivial⟩, ⟨h7, h8, trivial⟩, trivial⟩, h9⟩
  · simp at h
theorem gSa_ref (a : List AV) (m : List Slot) (r : Bool × AV × List Slot) (h : gSa a m = some r) (hk : r.1 = true) : Sound Q N.ref22_Same a m r.2 := by
  unfold gSa at h
  split at h
  · simp only [Option.some.injEq] at h; subst h
    rename_i a b c d e f g h l a' b' c' d' e' f' g' h' l'
    have hl : List.length l < 1000000 := of_decide_eq_true hk
    refine sound_of_run (hn := hn0) tRSa_ok (n := 0) ((eRSa (a, b, c, d, (e, f), (g, h), l) (a', b', c', d', (e', f'), (g', h'), l') 0).trans ?_)
    rw [cond_dec (p := List.length l < Is.big) (by unfold Is.big; omega)]
    simp only [fold_and]
    congr 3
    rw [Bool.eq_iff_iff]
    simp only [Bool.and_eq_true, beq_iff_eq, decide_eq_true_eq, sameS]
    constructor
    · rintro ⟨h1, h2, h3, h4, ⟨h5, h6, _⟩, ⟨h7, h8, _⟩, h9⟩; exact ⟨h1, h2, h3, h4, ⟨h5, h6⟩, ⟨h7, h8⟩, h9⟩
    · rintro ⟨h1, h2, h3, h4, ⟨h5, h6⟩, ⟨h7, h8⟩, h9⟩; exact ⟨h1, h2, h3, h4, ⟨h5, h6, trivial⟩, ⟨h7, h8, trivial⟩, h9⟩
  · simp at h
theorem gSRu_task (a : List AV) (m : List Slot) (r : Bool × AV × List Slot) (h : gSRu a m = some r) (hk : r.1 = true) : Sound Q N.task_SameRules a m r.2 := by
  unfold gSRu at h
  split at h
  · simp only [Option.some.injEq] at h; subst h
    rename_i a b c d e f g l a' b' c' d' e' f' g' l'
    have hl : List.length l < 1000000 := of_decide_eq_true hk
    refine sound_of_run (hn := hn0) tSa_ok (n := 0) ((eSR (a, b, c, d, e, f, g, l) (a', b', c', d', e', f', g', l') 0).trans ?_)
    rw [cond_dec hl, fold_and]
    congr 3
    rw [Bool.eq_iff_iff]
    simp only [Bool.and_eq_true, beq_iff_eq, decide_eq_true_eq, sameR]
    constructor
    · rintro ⟨⟨h1, h2, h3, h4, h5, h6, h7, _⟩, h9⟩; exact ⟨h1, h2, h3, h4, h5, h6, h7, h9⟩
    · rintro ⟨h1, h2, h3, h4, h5, h6, h7, h9⟩; exact ⟨⟨h1, h2, h3, h4, h5, h6, h7, trivial⟩, h9⟩
  · simp at h
theorem gSRu_ref (a : List AV) (m : List Slot) (r : Bool × AV × List Slot) (h : gSRu a m = some r) (hk : r.1 = true) : Sound Q N.ref22_SameRules a m r.2 := by
  unfold gSRu at h
  split at h
  · simp only [Option.some.injEq] at h; subst h
    rename_i a b c d e f g l a' b' c' d' e' f' g' l'
    have hl : List.length l < 1000000 := of_decide_eq_true hk
    refine sound_of_run (hn := hn0) tRSa_ok (n := 0) ((eRSR (a, b, c, d, e, f, g, l) (a', b', c', d', e', f', g', l') 0).trans ?_)
    rw [cond_dec hl]
    simp only [fold_and]
    congr 3
    rw [Bool.eq_iff_iff]
    simp only [Bool.and_eq_true, beq_iff_eq, decide_eq_true_eq, sameR]
  · simp at h

/-! ### skills -/
theorem wrapU {z : Int} (h : 0 ≤ z) (h' : z < 18446744073709551616) : IntKind.u64.wrap z = z := by
  simp only [IntKind.wrap, IntKind.signed, IntKind.bits]
  simp
  omega
theorem ofInt_u {x : Int} (h : 0 ≤ x ∧ x < 18446744073709551616) : (BitVec.ofInt IntKind.u64.bits x).toNat = x.toNat := by
  show (BitVec.ofInt 64 x).toNat = x.toNat
  rw [BitVec.toNat_ofInt]
  have : (x % ((2 ^ 64 : Nat) : Int)) = x := by
    rw [show ((2 ^ 64 : Nat) : Int) = 18446744073709551616 from rfl]; omega
  rw [this]
theorem run_skH (a b : Int) (ha : 0 ≤ a ∧ a < 18446744073709551616) (hb : 0 ≤ b ∧ b < 18446744073709551616) (n : Nat) : runF Q hn0 noCall n N.skill_Has [.int .u64 a, .int .u64 b] [] = some (.bool (hasW a b), []) := by
  rw [eSkH]
  congr 3
  have e : Nat.bitwise and (BitVec.ofInt IntKind.u64.bits b).toNat (~~~BitVec.ofInt IntKind.u64.bits a).toNat = (BitVec.ofInt 64 b &&& ~~~BitVec.ofInt 64 a).toNat := by
    rw [BitVec.toNat_and]; rfl
  rw [e]
  have hlt := (BitVec.ofInt 64 b &&& ~~~BitVec.ofInt 64 a).isLt
  rw [show (2 : Nat) ^ 64 = 18446744073709551616 from rfl] at hlt
  rw [wrapU (by omega) (by omega), Bool.eq_iff_iff, beq_iff_eq]
  have z : ((BitVec.ofInt 64 b &&& ~~~BitVec.ofInt 64 a).toNat : Int) = 0 ↔ BitVec.ofInt 64 b &&& ~~~BitVec.ofInt 64 a = 0#64 := by
    constructor
    · intro h; apply BitVec.eq_of_toNat_eq; simp only [BitVec.toNat_ofNat]; omega
    · intro h; rw [h]; rfl
  rw [z]
  unfold hasW
  have hbit : ∀ (x : Int), (0 ≤ x ∧ x < 18446744073709551616) → ∀ i, (BitVec.ofInt 64 x).getLsbD i = x.toNat.testBit i := fun x hx i => by
    rw [BitVec.getLsbD, show (BitVec.ofInt 64 x).toNat = x.toNat from ofInt_u hx]
  rw [List.all_eq_true]
  constructor
  · intro h i hi
    have hi : i < 64 := List.mem_range.1 hi
    have := congrArg (fun v => BitVec.getLsbD v i) h
    simp only [BitVec.getLsbD_and, BitVec.getLsbD_not, hi, decide_true, Bool.true_and, hbit a ha, hbit b hb, BitVec.getLsbD_zero] at this
    cases h1 : b.toNat.testBit i <;> cases h2 : a.toNat.testBit i <;> simp [h1, h2] at this ⊢
  · intro h
    apply BitVec.eq_of_getLsbD_eq
    intro i hi
    have := h i (List.mem_range.2 hi)
    simp only [BitVec.getLsbD_and, BitVec.getLsbD_not, hi, decide_true, Bool.true_and, hbit a ha, hbit b hb, BitVec.getLsbD_zero]
    cases h1 : b.toNat.testBit i <;> cases h2 : a.toNat.testBit i <;> simp [h1, h2] at this ⊢
end Ta
end Go.Ab
