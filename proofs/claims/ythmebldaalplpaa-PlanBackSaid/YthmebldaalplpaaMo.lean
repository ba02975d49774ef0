/- Turns and motions of points: what gauss.Fix and gauss.Turn compute with complex numbers, off their code. -/
import Derived.Test.YthmebldaalplpaaPlF
import Derived.Test.YthmebldaalplpaaFl
namespace Go.Ab
set_option linter.unusedVariables false
set_option exponentiation.threshold 3000
namespace Mo
def clipF (x : Int) : Int := max (-1048576) (min x 1048576)
def fixP (p : Pt) : Pt := (clipF p.1, clipF p.2)
/-- A point turned by quarters. -/
def turnQ (p : Pt) (k : Int) : Pt := if k = 1 then (-p.2, p.1) else if k = 2 then (-p.1, -p.2) else if k = 3 then (p.2, -p.1) else p

theorem clip_if (x : Int) : (if (-1048576 : Int) > if (1048576 : Int) < x then (1048576 : Int) else x then (-1048576 : Int) else if (1048576 : Int) < x then (1048576 : Int) else x) = clipF x := by
  unfold clipF; repeat' split
  all_goals omega
theorem clipF_bd (x : Int) : -1048576 ≤ clipF x ∧ clipF x ≤ 1048576 := by unfold clipF; omega

theorem cut_int {x : Int} (h : x.natAbs < 9007199254740992) : floatToIntVal .f64 (FloatKind.f64.nearest x) .i64 = some x := isF_cut (isF_int x h) h

abbrev cpI (x y : Int) : AV := .cpx .f64 (FloatKind.f64.nearest x) (FloatKind.f64.nearest y)
theorem run_gplane (p : Pt) (n : Nat) : runF Q hn0 noCall n N.gauss_plane [agP p] [] = some (cpI (clipF p.1) (clipF p.2), []) := by
  have e : runF Q hn0 noCall n N.gauss_plane [agP p] [] = some (.cpx FloatKind.f64 (FloatKind.f64.nearest (if (-1048576 : Int) > if (1048576 : Int) < p.1 then (1048576 : Int) else p.1 then (-1048576 : Int) else if (1048576 : Int) < p.1 then (1048576 : Int) else p.1)) (FloatKind.f64.nearest (if (-1048576 : Int) > if (1048576 : Int) < p.2 then (1048576 : Int) else p.2 then (-1048576 : Int) else if (1048576 : Int) < p.2 then (1048576 : Int) else p.2)), []) := by kernel_rfl
  rw [e, clip_if, clip_if]
def gGPlane : G
  | [.agg [.int .i64 x, .int .i64 y]], [] => some (true, .cpx .f64 (FloatKind.f64.nearest (clipF x)) (FloatKind.f64.nearest (clipF y)), [])
  | _, _ => none
theorem gGPlane_ok (a : List AV) (m : List Slot) (r : Bool × AV × List Slot) (h : gGPlane a m = some r) (hk : r.1 = true) : Sound Q N.gauss_plane a m r.2 := by
  unfold gGPlane at h
  split at h
  · simp only [Option.some.injEq] at h; subst h; exact sound_of_run noCall_ok (run_gplane (_, _) 0)
  · simp at h
/-- A complex number as a point. -/
def gGPoint : G
  | [.cpx .f64 a b], [] => some ((floatToIntVal .f64 a .i64).isSome && (floatToIntVal .f64 b .i64).isSome, .agg [.int .i64 ((floatToIntVal .f64 a .i64).getD 0), .int .i64 ((floatToIntVal .f64 b .i64).getD 0)], [])
  | _, _ => none
theorem eGPoint (a b : Nat) (n : Nat) : runF Q hn0 noCall n N.gauss_point [.cpx .f64 a b] [] =
  cond (floatToIntVal .f64 a .i64).isSome (cond (floatToIntVal .f64 b .i64).isSome (some (.agg [.int .i64 ((floatToIntVal .f64 a .i64).getD 0), .int .i64 ((floatToIntVal .f64 b .i64).getD 0)], [])) none) none := by kernel_rfl
theorem eMPoint (a b : Nat) (n : Nat) : runF Q hn0 noCall n N.motion_point [.cpx .f64 a b] [] =
  cond (floatToIntVal .f64 a .i64).isSome (cond (floatToIntVal .f64 b .i64).isSome (some (.agg [.int .i64 ((floatToIntVal .f64 a .i64).getD 0), .int .i64 ((floatToIntVal .f64 b .i64).getD 0)], [])) none) none := by kernel_rfl
theorem gGPoint_ok (a : List AV) (m : List Slot) (r : Bool × AV × List Slot) (h : gGPoint a m = some r) (hk : r.1 = true) : Sound Q N.gauss_point a m r.2 := by
  unfold gGPoint at h
  split at h
  · simp only [Option.some.injEq] at h; subst h
    simp only [Bool.and_eq_true] at hk
    exact sound_of_run (hn := hn0) noCall_ok (n := 0) (by rw [eGPoint, hk.1, hk.2, cond_true, cond_true])
  · simp at h
theorem gMPoint_ok (a : List AV) (m : List Slot) (r : Bool × AV × List Slot) (h : gGPoint a m = some r) (hk : r.1 = true) : Sound Q N.motion_point a m r.2 := by
  unfold gGPoint at h
  split at h
  · simp only [Option.some.injEq] at h; subst h
    simp only [Bool.and_eq_true] at hk
    exact sound_of_run (hn := hn0) noCall_ok (n := 0) (by rw [eMPoint, hk.1, hk.2, cond_true, cond_true])
  · simp at h
noncomputable def tG : Callf := addT N.gauss_plane gGPlane (addT N.gauss_point gGPoint noCall)
theorem tG_ok : CallOK Q tG := addT_ok (addT_ok noCall_ok gGPoint_ok) gGPlane_ok

theorem isF0 : IsF 0 0 := ⟨false, 0, -1074, rfl, by omega, by rw [if_neg (by simp)]; simp⟩
theorem isF1 : IsF 4607182418800017408 1 := isF_int 1 (by decide)

theorem q53 : (2 : Nat) ^ 53 = 9007199254740992 := rfl

theorem and3 (k : Int) : wr ((Nat.bitwise and (BitVec.ofInt IntKind.i64.bits k).toNat (BitVec.ofInt IntKind.i64.bits (3 : Int)).toNat : Nat) : Int) = k % 4 := by
  have e1 : (BitVec.ofInt IntKind.i64.bits (3 : Int)).toNat = 2 ^ 2 - 1 := rfl
  have e2 : ∀ a : Nat, Nat.bitwise and a (2 ^ 2 - 1) = a % 4 := fun a => Nat.and_two_pow_sub_one_eq_mod a 2
  rw [e1, e2]
  have e3 : (BitVec.ofInt IntKind.i64.bits k).toNat = (k % 18446744073709551616).toNat := by
    rw [BitVec.toNat_ofInt]; rfl
  rw [e3]
  unfold wr
  rw [wrap64 (by omega) (by omega)]
  omega

/-! ### gauss.Fix, gauss.Turn -/
theorem eGFix (p : Pt) (n : Nat) : runF Q hn0 tG n N.gauss_Fix [agP p] [] =
  cond ((floatToIntVal .f64 (FloatKind.f64.nearest (clipF p.1)) .i64).isSome && (floatToIntVal .f64 (FloatKind.f64.nearest (clipF p.2)) .i64).isSome) (some (.agg [.int .i64 ((floatToIntVal .f64 (FloatKind.f64.nearest (clipF p.1)) .i64).getD 0), .int .i64 ((floatToIntVal .f64 (FloatKind.f64.nearest (clipF p.2)) .i64).getD 0)], [])) none := by kernel_rfl
theorem run_gfix (p : Pt) (n : Nat) : runF Q hn0 tG n N.gauss_Fix [agP p] [] = some (agP (fixP p), []) := by
  rw [eGFix]
  have h1 := clipF_bd p.1
  have h2 := clipF_bd p.2
  rw [cut_int (by omega), cut_int (by omega)]
  rfl
def gGFix : G
  | [.agg [.int .i64 x, .int .i64 y]], [] => some (true, .agg [.int .i64 (clipF x), .int .i64 (clipF y)], [])
  | _, _ => none
theorem gGFix_ok (a : List AV) (m : List Slot) (r : Bool × AV × List Slot) (h : gGFix a m = some r) (hk : r.1 = true) : Sound Q N.gauss_Fix a m r.2 := by
  unfold gGFix at h
  split at h
  · simp only [Option.some.injEq] at h; subst h; exact sound_of_run tG_ok (run_gfix (_, _) 0)
  · simp at h

def rotN : Nat → Pt → Pt
  | 0, p => p
  | i + 1, p => rotN i (-p.2, p.1)
abbrev SGTurna0 (i1 : Int) (k2 : Nat) (k3 : Nat) : St := ⟨J :: .int .i64 i1 :: J :: J :: .ptr 0 0 :: .cpx .f64 k2 k3 :: js 12, [.obj (.box [.int .i64 0, .int .i64 0])]⟩
noncomputable abbrev LGTurna0 (n z : Nat) (s : St) : Ans := labelF Q hn0 tG n N.gauss_Turn 0 [1] [] 0 z s
theorem rGTurna0 (i1 : Int) (k2 : Nat) (k3 : Nat) (n m : Nat) : LGTurna0 n (m + 1) (SGTurna0 i1 k2 k3) =
  cond (i1 == (0 : Int)) (cond ((floatToIntVal .f64 k2 .i64).isSome && (floatToIntVal .f64 k3 .i64).isSome) (some (.agg [.int .i64 ((floatToIntVal .f64 k2 .i64).getD 0), .int .i64 ((floatToIntVal .f64 k3 .i64).getD 0)], [])) none) (cond (cMulBits k2 k3 0 4607182418800017408).isSome (LGTurna0 n m (SGTurna0 (wr (i1 - 1)) ((cMulBits k2 k3 0 4607182418800017408).getD (0, 0)).1 ((cMulBits k2 k3 0 4607182418800017408).getD (0, 0)).2)) none) := by kernel_rfl
theorem eGTurn (p : Pt) (k : Int) (n : Nat) : runF Q hn0 tG n N.gauss_Turn [agP p, .int .i64 k] [] =
  cond (wr (Nat.bitwise and (BitVec.ofInt IntKind.i64.bits k).toNat (BitVec.ofInt IntKind.i64.bits (3 : Int)).toNat : Nat) == (0 : Int)) (cond ((floatToIntVal .f64 (FloatKind.f64.nearest (clipF p.1)) .i64).isSome && (floatToIntVal .f64 (FloatKind.f64.nearest (clipF p.2)) .i64).isSome) (some (.agg [.int .i64 ((floatToIntVal .f64 (FloatKind.f64.nearest (clipF p.1)) .i64).getD 0), .int .i64 ((floatToIntVal .f64 (FloatKind.f64.nearest (clipF p.2)) .i64).getD 0)], [])) none)
   (cond (cMulBits (FloatKind.f64.nearest (clipF p.1)) (FloatKind.f64.nearest (clipF p.2)) 0 4607182418800017408).isSome (LGTurna0 n n (SGTurna0 (wr (wr (Nat.bitwise and (BitVec.ofInt IntKind.i64.bits k).toNat (BitVec.ofInt IntKind.i64.bits (3 : Int)).toNat : Nat) - (1 : Int))) ((cMulBits (FloatKind.f64.nearest (clipF p.1)) (FloatKind.f64.nearest (clipF p.2)) 0 4607182418800017408).getD (0, 0)).1 ((cMulBits (FloatKind.f64.nearest (clipF p.1)) (FloatKind.f64.nearest (clipF p.2)) 0 4607182418800017408).getD (0, 0)).2)) none) := by kernel_rfl

theorem turn_step {a b : Nat} {x y : Int} (ha : IsF a x) (hb : IsF b y) (hx : x.natAbs ≤ 1048576) (hy : y.natAbs ≤ 1048576) : ∃ p q, cMulBits a b 0 4607182418800017408 = some (p, q) ∧ IsF p (-y) ∧ IsF q x := by
  obtain ⟨p, q, h1, h2, h3⟩ := isC_mul (x := x) (y := y) (u := 0) (v := 1) ha hb isF0 isF1 (by rw [q53]; omega) (by rw [q53]; omega) (by rw [q53]; omega) (by rw [q53]; omega) (by rw [q53]; omega) (by rw [q53]; omega)
  refine ⟨p, q, h1, ?_, ?_⟩
  · rwa [show x * 0 - y * 1 = -y by omega] at h2
  · rwa [show x * 1 + y * 0 = x by omega] at h3

theorem turn_loop (n : Nat) : ∀ (m i : Nat) (a b : Nat) (x y : Int), i < m → i < 4 → IsF a x → IsF b y → x.natAbs ≤ 1048576 → y.natAbs ≤ 1048576 →
    LGTurna0 n m (SGTurna0 (i : Int) a b) = some (agP (rotN i (x, y)), []) := by
  intro m
  induction m with
  | zero => intro i a b x y h; omega
  | succ m ih =>
    intro i a b x y h h4 ha hb hx hy
    rw [rGTurna0]
    cases i with
    | zero =>
      rw [isF_cut ha (by rw [q53]; omega), isF_cut hb (by rw [q53]; omega)]; rfl
    | succ i =>
      obtain ⟨p, q, h1, h2, h3⟩ := turn_step ha hb hx hy
      have e1 : (((i + 1 : Nat) : Int) == 0) = false := by simp; omega
      have e2 : wr (((i + 1 : Nat) : Int) - 1) = (i : Int) := Go.Ab.wrP (by omega)
      rw [e1, cond_false, h1, e2]
      simp only [Option.isSome_some, cond_true, Option.getD_some]
      exact ih i p q (-y) x (by omega) (by omega) h2 h3 (by omega) (by omega)

theorem rot_turn (p : Pt) (k : Int) (h : 0 ≤ k ∧ k < 4) : rotN k.toNat p = turnQ p k := by
  have : k = 0 ∨ k = 1 ∨ k = 2 ∨ k = 3 := by omega
  rcases this with rfl | rfl | rfl | rfl <;> simp [rotN, turnQ]

theorem run_gturn (p : Pt) (k : Int) : runF Q hn0 tG 5 N.gauss_Turn [agP p, .int .i64 k] [] = some (agP (turnQ (fixP p) (k % 4)), []) := by
  have h1 := clipF_bd p.1
  have h2 := clipF_bd p.2
  have i1 := isF_int (clipF p.1) (by rw [q53]; omega)
  have i2 := isF_int (clipF p.2) (by rw [q53]; omega)
  have := turn_loop 5 6 (k % 4).toNat _ _ (clipF p.1) (clipF p.2) (by omega) (by omega) i1 i2 (by omega) (by omega)
  rw [show (((k % 4).toNat : Nat) : Int) = k % 4 by omega, rot_turn _ _ (by omega), rGTurna0] at this
  rw [eGTurn, and3]
  refine Eq.trans ?_ this
  rfl
def gGTurn : G
  | [.agg [.int .i64 x, .int .i64 y], .int .i64 k], [] => some (true, .agg [.int .i64 (turnQ (fixP (x, y)) (k % 4)).1, .int .i64 (turnQ (fixP (x, y)) (k % 4)).2], [])
  | _, _ => none
theorem gGTurn_ok (a : List AV) (m : List Slot) (r : Bool × AV × List Slot) (h : gGTurn a m = some r) (hk : r.1 = true) : Sound Q N.gauss_Turn a m r.2 := by
  unfold gGTurn at h
  split at h
  · simp only [Option.some.injEq] at h; subst h; exact sound_of_run tG_ok (run_gturn (_, _) _)
  · simp at h

/-! ### motion.Do -/
noncomputable def tM : Callf := addT N.gauss_Fix gGFix (addT N.gauss_Turn gGTurn (addT N.motion_point gGPoint (inlT Q hn0 N.motion_plane 0 noCall)))
theorem tM_ok : CallOK Q tM := addT_ok (addT_ok (addT_ok (inlT_ok noCall_ok) gMPoint_ok) gGTurn_ok) gGFix_ok
def gMOf : G
  | [.agg [.int .i64 k, .int .i64 x, .int .i64 y]], [] => some (true, .agg [.cpx .f64 (FloatKind.f64.nearest (turnQ (fixP (1, 0)) (k % 4)).1) (FloatKind.f64.nearest (turnQ (fixP (1, 0)) (k % 4)).2), .cpx .f64 (FloatKind.f64.nearest (clipF x)) (FloatKind.f64.nearest (clipF y))], [])
  | _, _ => none
theorem eMOf (k x y : Int) (n : Nat) : runF Q hn0 tM n N.motion_of [.agg [.int .i64 k, .int .i64 x, .int .i64 y]] [] =
  some (.agg [.cpx .f64 (FloatKind.f64.nearest (turnQ (fixP (1, 0)) (k % 4)).1) (FloatKind.f64.nearest (turnQ (fixP (1, 0)) (k % 4)).2), .cpx .f64 (FloatKind.f64.nearest (clipF x)) (FloatKind.f64.nearest (clipF y))], []) := by kernel_rfl
theorem gMOf_ok (a : List AV) (m : List Slot) (r : Bool × AV × List Slot) (h : gMOf a m = some r) (hk : r.1 = true) : Sound Q N.motion_of a m r.2 := by
  unfold gMOf at h
  split at h
  · simp only [Option.some.injEq] at h; subst h; exact sound_of_run tM_ok (eMOf _ _ _ 0)
  · simp at h
noncomputable def tDo : Callf := addT N.motion_of gMOf tM
theorem tDo_ok : CallOK Q tDo := addT_ok tM_ok gMOf_ok
/-- A point, moved. -/
def doP (k : Int) (by_ p : Pt) : Pt := ((turnQ (fixP p) (k % 4)).1 + clipF by_.1, (turnQ (fixP p) (k % 4)).2 + clipF by_.2)
/-- Behind the sums: both parts are cut. -/
def ptB (c : Option (Nat × Nat)) : Ans := cond c.isSome (cond ((floatToIntVal .f64 (c.getD (0, 0)).1 .i64).isSome && (floatToIntVal .f64 (c.getD (0, 0)).2 .i64).isSome) (some (.agg [.int .i64 ((floatToIntVal .f64 (c.getD (0, 0)).1 .i64).getD 0), .int .i64 ((floatToIntVal .f64 (c.getD (0, 0)).2 .i64).getD 0)], [])) none) none
theorem eMDo (k : Int) (p q : Pt) (n : Nat) : runF Q hn0 tDo n N.motion_Do [.agg [.int .i64 k, .int .i64 p.1, .int .i64 p.2], agP q] [] =
  cond (cMulBits (FloatKind.f64.nearest (clipF q.1)) (FloatKind.f64.nearest (clipF q.2)) (FloatKind.f64.nearest (turnQ (fixP (1, 0)) (k % 4)).1) (FloatKind.f64.nearest (turnQ (fixP (1, 0)) (k % 4)).2)).isSome
    (ptB (cSumBits .add .f64 ((cMulBits (FloatKind.f64.nearest (clipF q.1)) (FloatKind.f64.nearest (clipF q.2)) (FloatKind.f64.nearest (turnQ (fixP (1, 0)) (k % 4)).1) (FloatKind.f64.nearest (turnQ (fixP (1, 0)) (k % 4)).2)).getD (0, 0)).1 ((cMulBits (FloatKind.f64.nearest (clipF q.1)) (FloatKind.f64.nearest (clipF q.2)) (FloatKind.f64.nearest (turnQ (fixP (1, 0)) (k % 4)).1) (FloatKind.f64.nearest (turnQ (fixP (1, 0)) (k % 4)).2)).getD (0, 0)).2 (FloatKind.f64.nearest (clipF p.1)) (FloatKind.f64.nearest (clipF p.2)))) none := by kernel_rfl

theorem run_mdo (k : Int) (p q : Pt) (n : Nat) : runF Q hn0 tDo n N.motion_Do [.agg [.int .i64 k, .int .i64 p.1, .int .i64 p.2], agP q] [] = some (agP (doP k p q), []) := by
  rw [eMDo]
  have h1 := clipF_bd q.1
  have h2 := clipF_bd q.2
  have h3 := clipF_bd p.1
  have h4 := clipF_bd p.2
  have ht : ∃ u v : Int, turnQ (fixP (1, 0)) (k % 4) = (u, v) ∧ ((u = 1 ∧ v = 0) ∨ (u = 0 ∧ v = 1) ∨ (u = -1 ∧ v = 0) ∨ (u = 0 ∧ v = -1)) ∧ turnQ (fixP q) (k % 4) = (clipF q.1 * u - clipF q.2 * v, clipF q.1 * v + clipF q.2 * u) := by
    have hk : k % 4 = 0 ∨ k % 4 = 1 ∨ k % 4 = 2 ∨ k % 4 = 3 := by omega
    rcases hk with e | e | e | e <;> rw [e]
    · exact ⟨1, 0, rfl, by omega, by simp [turnQ, fixP]⟩
    · exact ⟨0, 1, rfl, by omega, by simp [turnQ, fixP]⟩
    · exact ⟨-1, 0, rfl, by omega, by simp [turnQ, fixP]⟩
    · exact ⟨0, -1, rfl, by omega, by simp [turnQ, fixP]⟩
  obtain ⟨u, v, e1, huv, e2⟩ := ht
  have small : ∀ z w : Int, z.natAbs ≤ 1048576 → w.natAbs ≤ 1 → (z * w).natAbs ≤ 1048576 := fun z w hz hw => by
    rw [Int.natAbs_mul]
    calc z.natAbs * w.natAbs ≤ 1048576 * 1 := Nat.mul_le_mul hz hw
      _ = 1048576 := rfl
  have hu : u.natAbs ≤ 1 := by omega
  have hv : v.natAbs ≤ 1 := by omega
  have s1 := small (clipF q.1) u (by omega) hu
  have s2 := small (clipF q.2) v (by omega) hv
  have s3 := small (clipF q.1) v (by omega) hv
  have s4 := small (clipF q.2) u (by omega) hu
  obtain ⟨a, b, c1, c2, c3⟩ := isC_mul (isF_int (clipF q.1) (by rw [q53]; omega)) (isF_int (clipF q.2) (by rw [q53]; omega)) (isF_int u (by rw [q53]; omega)) (isF_int v (by rw [q53]; omega))
    (by rw [q53]; omega) (by rw [q53]; omega) (by rw [q53]; omega) (by rw [q53]; omega) (by rw [q53]; omega) (by rw [q53]; omega)
  obtain ⟨c, d, d1, d2, d3⟩ := isC_sum c2 c3 (isF_int (clipF p.1) (by rw [q53]; omega)) (isF_int (clipF p.2) (by rw [q53]; omega)) (by rw [q53]; omega) (by rw [q53]; omega)
  rw [e1]
  dsimp only
  rw [c1]
  simp only [Option.isSome_some, Option.getD_some, cond_true]
  rw [d1]
  unfold ptB
  simp only [Option.isSome_some, Option.getD_some, cond_true]
  rw [isF_cut d2 (by rw [q53]; omega), isF_cut d3 (by rw [q53]; omega)]
  simp only [Option.isSome_some, Option.getD_some, cond_true, Bool.and_self]
  unfold doP
  rw [e2]
end Mo
end Go.Ab
