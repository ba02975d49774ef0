/- Turns and motions of points: what gauss.Fix and gauss.Turn compute with complex numbers, off their code. -/
import Derived.Test.YtmclfehlflekhaaPB
import Derived.Test.YtmclfehlflekhaaFl
namespace Go.Ab
set_option linter.unusedVariables false
set_option exponentiation.threshold 3000
namespace Mo
def clipF (x : Int) : Int := max (-1048576) (min x 1048576)
def fixP (p : Pt) : Pt := (clipF p.1, clipF p.2)
/-- A point turned by quarters. -/
def turnQ (p : Pt) (k : Int) : Pt := if k = 1 then (-p.2, p.1) else if k = 2 then (-p.1, -p.2) else if k = 3 then (p.2, -p.1) else p

theorem clip_if (x : Int) : (if (-1048576 : Int) > if (1048576 : Int) < x then (1048576 : Int) else x then (-1048576 : Int) else if (1048576 : Int) < x then (1048576 : Int) else x) = clipF x := by
  unfold clipF; repeat' split
  all_goals omega
theorem clipF_bd (x : Int) : -1048576 ≤ clipF x ∧ clipF x ≤ 1048576 := by unfold clipF; omega

theorem cut_int {x : Int} (h : x.natAbs < 9007199254740992) : floatToIntVal .f64 (FloatKind.f64.nearest x) .i64 = some x := isF_cut (isF_int x h) h

abbrev cpI (x y : Int) : AV := .cpx .f64 (FloatKind.f64.nearest x) (FloatKind.f64.nearest y)
def gGPlane : G
  | [.agg [.int .i64 x, .int .i64 y]], [] => some (true, .cpx .f64 (FloatKind.f64.nearest (clipF x)) (FloatKind.f64.nearest (clipF y)), [])
  | _, _ => none
/-- A complex number as a point. -/
def gGPoint : G
  | [.cpx .f64 a b], [] => some ((floatToIntVal .f64 a .i64).isSome && (floatToIntVal .f64 b .i64).isSome, .agg [.int .i64 ((floatToIntVal .f64 a .i64).getD 0), .int .i64 ((floatToIntVal .f64 b .i64).getD 0)], [])
  | _, _ => none
theorem isF0 : IsF 0 0 := ⟨false, 0, -1074, rfl, by omega, by rw [if_neg (by simp)]; simp⟩
theorem isF1 : IsF 4607182418800017408 1 := isF_int 1 (by decide)

theorem q53 : (2 : Nat) ^ 53 = 9007199254740992 := rfl

theorem and3 (k : Int) : wr ((Nat.bitwise and (BitVec.ofInt IntKind.i64.bits k).toNat (BitVec.ofInt IntKind.i64.bits (3 : Int)).toNat : Nat) : Int) = k % 4 := by
  have e1 : (BitVec.ofInt IntKind.i64.bits (3 : Int)).toNat = 2 ^ 2 - 1 := rfl
  have e2 : ∀ a : Nat, Nat.bitwise and a (2 ^ 2 - 1) = a % 4 := fun a => Nat.and_two_pow_sub_one_eq_mod a 2
  rw [e1, e2]
  have e3 : (BitVec.ofInt IntKind.i64.bits k).toNat = (k % 18446744073709551616).toNat := by
    rw [BitVec.toNat_ofInt]; rfl
  rw [e3]
  unfold wr
  rw [wrap64 (by omega) (by omega)]
  omega

/-! ### gauss.Fix, gauss.Turn -/
def gGFix : G
  | [.agg [.int .i64 x, .int .i64 y]], [] => some (true, .agg [.int .i64 (clipF x), .int .i64 (clipF y)], [])
  | _, _ => none
def rotN : Nat → Pt → Pt
  | 0, p => p
  | i + 1, p => rotN i (-p.2, p.1)
abbrev SGTurna0 (i1 : Int) (k2 : Nat) (k3 : Nat) : St := ⟨J :: .int .i64 i1 :: J :: J :: .ptr 0 0 :: .cpx .f64 k2 k3 :: js 12, [.obj (.box [.int .i64 0, .int .i64 0])]⟩
theorem turn_step {a b : Nat} {x y : Int} (ha : IsF a x) (hb : IsF b y) (hx : x.natAbs ≤ 1048576) (hy : y.natAbs ≤ 1048576) : ∃ p q, cMulBits a b 0 4607182418800017408 = some (p, q) ∧ IsF p (-y) ∧ IsF q x := by
  obtain ⟨p, q, h1, h2, h3⟩ := isC_mul (x := x) (y := y) (u := 0) (v := 1) ha hb isF0 isF1 (by rw [q53]; omega) (by rw [q53]; omega) (by rw [q53]; omega) (by rw [q53]; omega) (by rw [q53]; omega) (by rw [q53]; omega)
  refine ⟨p, q, h1, ?_, ?_⟩
  · rwa [show x * 0 - y * 1 = -y by omega] at h2
  · rwa [show x * 1 + y * 0 = x by omega] at h3

theorem rot_turn (p : Pt) (k : Int) (h : 0 ≤ k ∧ k < 4) : rotN k.toNat p = turnQ p k := by
  have : k = 0 ∨ k = 1 ∨ k = 2 ∨ k = 3 := by omega
  rcases this with rfl | rfl | rfl | rfl <;> simp [rotN, turnQ]

def gGTurn : G
  | [.agg [.int .i64 x, .int .i64 y], .int .i64 k], [] => some (true, .agg [.int .i64 (turnQ (fixP (x, y)) (k % 4)).1, .int .i64 (turnQ (fixP (x, y)) (k % 4)).2], [])
  | _, _ => none
/-! ### motion.Do -/
def gMOf : G
  | [.agg [.int .i64 k, .int .i64 x, .int .i64 y]], [] => some (true, .agg [.cpx .f64 (FloatKind.f64.nearest (turnQ (fixP (1, 0)) (k % 4)).1) (FloatKind.f64.nearest (turnQ (fixP (1, 0)) (k % 4)).2), .cpx .f64 (FloatKind.f64.nearest (clipF x)) (FloatKind.f64.nearest (clipF y))], [])
  | _, _ => none
/-- A point, moved. -/
def doP (k : Int) (by_ p : Pt) : Pt := ((turnQ (fixP p) (k % 4)).1 + clipF by_.1, (turnQ (fixP p) (k % 4)).2 + clipF by_.2)
/-- Behind the sums: both parts are cut. -/
def ptB (c : Option (Nat × Nat)) : Ans := cond c.isSome (cond ((floatToIntVal .f64 (c.getD (0, 0)).1 .i64).isSome && (floatToIntVal .f64 (c.getD (0, 0)).2 .i64).isSome) (some (.agg [.int .i64 ((floatToIntVal .f64 (c.getD (0, 0)).1 .i64).getD 0), .int .i64 ((floatToIntVal .f64 (c.getD (0, 0)).2 .i64).getD 0)], [])) none) none
end Mo
end Go.Ab

/- Motions of points, as the document's answer computes them, off its code. -/
namespace Go.Ab
set_option linter.unusedVariables false
namespace Mo
def gDo : G
  | [.agg [.int .i64 k, .int .i64 a, .int .i64 b], .agg [.int .i64 x, .int .i64 y]], [] => some (true, .agg [.int .i64 (doP k (a, b) (x, y)).1, .int .i64 (doP k (a, b) (x, y)).2], [])
  | _, _ => none
theorem eClip3 (x a b : Int) (n : Nat) : runF Q hn0 noCall n N.ref02_Clip [.int .i64 x, .int .i64 a, .int .i64 b] [] =
  cond (decide (x < a)) (some (.int .i64 a, [])) (cond (decide (x > b)) (some (.int .i64 b, [])) (some (.int .i64 x, []))) := by kernel_rfl
def gClip3 : G
  | [.int .i64 x, .int .i64 a, .int .i64 b], [] => some (decide (a ≤ b), .int .i64 (max a (min x b)), [])
  | _, _ => none
theorem gClip3_ok (a : List AV) (m : List Slot) (r : Bool × AV × List Slot) (h : gClip3 a m = some r) (hk : r.1 = true) : Sound Q N.ref02_Clip a m r.2 := by
  unfold gClip3 at h
  split at h
  · simp only [Option.some.injEq] at h; subst h
    rename_i x a b
    have hk : a ≤ b := of_decide_eq_true hk
    refine sound_of_run (hn := hn0) noCall_ok (n := 0) ((eClip3 x a b 0).trans ?_)
    by_cases h : x < a
    · rw [cond_dec h, show max a (min x b) = a by omega]
    · rw [cond_dec' h]
      by_cases h' : x > b
      · rw [cond_dec h', show max a (min x b) = b by omega]
      · rw [cond_dec' h', show max a (min x b) = x by omega]
  · simp at h
noncomputable def tClip3 : Callf := addT N.ref02_Clip gClip3 noCall
theorem tClip3_ok : CallOK Q tClip3 := addT_ok noCall_ok gClip3_ok
def gPart : G
  | [.int .i64 x], [] => some (true, .int .i64 (clipF x), [])
  | _, _ => none
theorem wr_id {z : Int} (h : -9223372036854775808 ≤ z) (h' : z ≤ 9223372036854775807) : wr z = z := wrap64 h h'
def gQ : G
  | [.int .i64 x], [] => some (true, .int .i64 (x % 4), [])
  | _, _ => none
def gAdd : G
  | [.agg [.int .i64 a, .int .i64 b], .agg [.int .i64 x, .int .i64 y]], [] => some (true, .agg [.int .i64 (clipF a + clipF x), .int .i64 (clipF b + clipF y)], [])
  | _, _ => none
theorem turn_bd (q : Pt) (k : Int) : clipF (turnQ (fixP q) k).1 = (turnQ (fixP q) k).1 ∧ clipF (turnQ (fixP q) k).2 = (turnQ (fixP q) k).2 := by
  have h1 := clipF_bd q.1
  have h2 := clipF_bd q.2
  unfold turnQ fixP clipF at *
  split
  · dsimp only; omega
  · split
    · dsimp only; omega
    · split
      · dsimp only; omega
      · dsimp only; omega
end Mo
end Go.Ab

/- Plans, moved: what both functions compute, off their code; PlanMoved. -/
namespace Go.Ab
set_option linter.unusedVariables false
theorem cond_dup {α : Type} {c : Bool} {x n : α} : cond c (cond c x n) n = cond c x n := by cases c <;> rfl
theorem map_loop {α β γ : Type} {F : Nat → Int → List β → γ} (l : List α) (d : α) (g : α → β) (res : List β → γ) (no : γ) (hl : l.length < 1000000)
    (h : ∀ m i acc, F (m + 1) i acc = cond (decide (i < (l.length : Int))) (cond (decide (0 ≤ i) && decide (i < (l.length : Int))) (cond (decide (acc.length + 1 ≤ most)) (F m (wr (i + 1)) (acc ++ [g (l.getD i.toNat d)])) no) no) (res acc)) :
    ∀ (m i : Nat) (acc : List β), i ≤ l.length → l.length - i < m → acc.length ≤ i → F m i acc = res (acc ++ (l.drop i).map g) := by
  intro m
  induction m with
  | zero => intro i acc h; omega
  | succ m ih =>
    intro i acc hi' hm ha
    rw [h, dec_lt, dec_nn, Bool.true_and]
    by_cases hi : i < l.length
    · rw [cond_dec hi, cond_dec hi, cond_dec (by unfold most; omega), Int.toNat_natCast, wrN (by omega), ih (i + 1) _ (by omega) (by omega) (by simp; omega), getD_drop (d := d) hi, List.map_cons, List.append_assoc, List.singleton_append]
    · rw [cond_dec' hi, List.drop_eq_nil_of_le (by omega), List.map_nil, List.append_nil]

namespace Mo
open Pl
abbrev Mn := Int × Pt
abbrev tMn : Ty := .pair tI tP
abbrev agM (w : Mn) : AV := .agg [.int .i64 w.1, .int .i64 w.2.1, .int .i64 w.2.2]
/-- An aisle, moved. -/
def movedA (w : Mn) (a : Ai) : Ai :=
  (a.1, (min (doP w.1 w.2 a.2.1).1 (doP w.1 w.2 a.2.2).1, min (doP w.1 w.2 a.2.1).2 (doP w.1 w.2 a.2.2).2), (max (doP w.1 w.2 a.2.1).1 (doP w.1 w.2 a.2.2).1, max (doP w.1 w.2 a.2.1).2 (doP w.1 w.2 a.2.2).2))
def movedR (w : Mn) (a : Ai) : Ai :=
  (a.1, (if (doP w.1 w.2 a.2.2).1 < (doP w.1 w.2 a.2.1).1 then (doP w.1 w.2 a.2.2).1 else (doP w.1 w.2 a.2.1).1, if (doP w.1 w.2 a.2.2).2 < (doP w.1 w.2 a.2.1).2 then (doP w.1 w.2 a.2.2).2 else (doP w.1 w.2 a.2.1).2),
    (if (doP w.1 w.2 a.2.2).1 > (doP w.1 w.2 a.2.1).1 then (doP w.1 w.2 a.2.2).1 else (doP w.1 w.2 a.2.1).1, if (doP w.1 w.2 a.2.2).2 > (doP w.1 w.2 a.2.1).2 then (doP w.1 w.2 a.2.2).2 else (doP w.1 w.2 a.2.1).2))
theorem moved_eq (w : Mn) (a : Ai) : movedR w a = movedA w a := by
  have h1 : ∀ x y : Int, (if y < x then y else x) = min x y := fun x y => by split <;> omega
  have h2 : ∀ x y : Int, (if y > x then y else x) = max x y := fun x y => by split <;> omega
  unfold movedR movedA
  simp only [h1, h2]

abbrev SMva (w : Mn) (l : List Ai) (i1 : Int) (l2 : List Ai) : St := ⟨J :: J :: .ptr 0 0 :: J :: J :: .tail 1 0 :: J :: J :: J :: .ro tA l :: .int .i64 (l.length : Int) :: .int .i64 i1 :: js 21, [.obj (.box [.int .i64 w.1, .int .i64 w.2.1, .int .i64 w.2.2]), .obj (.rows tA l2)]⟩
abbrev SRMva (w : Mn) (l : List Ai) (i1 : Int) (l2 : List Ai) : St := ⟨J :: .ro tA l :: .ptr 0 0 :: J :: J :: .tail 1 0 :: .int .i64 i1 :: js 54, [.obj (.box [.int .i64 w.1, .int .i64 w.2.1, .int .i64 w.2.2]), .obj (.rows tA l2)]⟩
def gMv : G
  | [.agg [.int .i64 k, .int .i64 a, .int .i64 b], .ro (.pair (.int .i64) (.pair (.pair (.int .i64) (.int .i64)) (.pair (.int .i64) (.int .i64)))) l], [] => some (decide (l.length < 1000000), .ro tA (l.map (movedA (k, (a, b)))), [])
  | _, _ => none
/-! ### Same -/
def eqAi (x y : Ai) : Bool := x.1 == y.1 && (x.2.1.1 == y.2.1.1 && (x.2.1.2 == y.2.1.2 && true) && (x.2.2.1 == y.2.2.1 && (x.2.2.2 == y.2.2.2 && true) && true))
theorem eqAi_iff (x y : Ai) : eqAi x y = decide (x = y) := by
  obtain ⟨a, ⟨b, c⟩, d, e⟩ := x
  obtain ⟨a', ⟨b', c'⟩, d', e'⟩ := y
  rw [Bool.eq_iff_iff]
  simp [eqAi]
abbrev SSamea (l : List Ai) (k : List Ai) (i1 : Int) : St := ⟨.ro tA l :: .ro tA k :: J :: J :: J :: .int .i64 i1 :: js 20, []⟩
noncomputable abbrev LSamea (n z : Nat) (s : St) : Ans := loopF Q hn0 noCall n N.ref07_Same 0 [1, 1, 0, 1, 0] [] z s
theorem eSame (l : List Ai) (k : List Ai) (n : Nat) : runF Q hn0 noCall n N.ref07_Same [.ro tA l, .ro tA k] [] =
  cond ((l.length : Int) != (k.length : Int)) (some (.bool false, [])) (LSamea n n (SSamea l k 0)) := by kernel_rfl
theorem rSamea (l : List Ai) (k : List Ai) (i1 : Int) (n m : Nat) : LSamea n (m + 1) (SSamea l k i1) =
  cond (decide (i1 < (l.length : Int))) (cond (decide ((0 : Int) ≤ i1) && decide (i1 < (l.length : Int))) (cond (decide ((0 : Int) ≤ i1) && decide (i1 < (k.length : Int))) (cond (!eqAi (l.getD i1.toNat tA.dflt) (k.getD i1.toNat tA.dflt)) (some (.bool false, [])) (LSamea n m (SSamea l k (wr (i1 + (1 : Int)))))) none) none) (some (.bool true, [])) := by kernel_rfl
end Mo

/-- Two rows, place by place. -/
theorem same_loop {α : Type} [DecidableEq α] {F : Nat → Int → Ans} (l k : List α) (d : α) (e : α → α → Bool) (he : ∀ x y, e x y = decide (x = y)) (hl : l.length < 1000000) (hk : k.length = l.length)
    (h : ∀ m i, F (m + 1) i = cond (decide (i < (l.length : Int))) (cond (decide (0 ≤ i) && decide (i < (l.length : Int))) (cond (decide (0 ≤ i) && decide (i < (k.length : Int))) (cond (!e (l.getD i.toNat d) (k.getD i.toNat d)) (some (.bool false, [])) (F m (wr (i + 1)))) none) none) (some (.bool true, []))) :
    ∀ (m i : Nat), l.length - i < m → F m i = some (.bool (decide (l.drop i = k.drop i)), []) := by
  intro m
  induction m with
  | zero => intro i h; omega
  | succ m ih =>
    intro i hm
    rw [h, dec_lt, dec_lt, dec_nn, Bool.true_and, Bool.true_and]
    by_cases hi : i < l.length
    · rw [cond_dec hi, cond_dec hi, cond_dec (p := i < k.length) (by omega), Int.toNat_natCast, wrN (by omega), ih (i + 1) (by omega), getD_drop (d := d) hi, getD_drop (l := k) (d := d) (i := i) (by omega), he]
      by_cases hx : l.getD i d = k.getD i d
      · rw [decide_eq_true hx]; simp only [Bool.not_true, cond_false, hx, List.cons.injEq, true_and]
      · rw [decide_eq_false hx]; simp only [Bool.not_false, cond_true, List.cons.injEq, hx, false_and, decide_false]
    · rw [cond_dec' hi, List.drop_eq_nil_of_le (by omega), List.drop_eq_nil_of_le (by omega)]; simp only [decide_true]

namespace Mo
open Pl
theorem run_same (l k : List Ai) (hl : l.length < 1000000) : runF Q hn0 noCall (l.length + 1) N.ref07_Same [.ro tA l, .ro tA k] [] = some (.bool (decide (l = k)), []) := by
  rw [eSame]
  by_cases h : k.length = l.length
  · have e1 : ((l.length : Int) != (k.length : Int)) = false := by simp [h]
    rw [e1, cond_false]
    have := same_loop (F := fun m i => LSamea (l.length + 1) m (SSamea l k i)) l k tA.dflt eqAi eqAi_iff hl h (fun m i => rSamea l k i _ m) (l.length + 1) 0 (by omega)
    rw [List.drop_zero, List.drop_zero] at this
    exact this
  · have e1 : ((l.length : Int) != (k.length : Int)) = true := by simp; omega
    have h3 : decide (l = k) = false := decide_eq_false fun e => h (by rw [e])
    rw [e1, cond_true, h3]
def gSame : G
  | [.ro (.pair (.int .i64) (.pair (.pair (.int .i64) (.int .i64)) (.pair (.int .i64) (.int .i64)))) l, .ro (.pair (.int .i64) (.pair (.pair (.int .i64) (.int .i64)) (.pair (.int .i64) (.int .i64)))) k], [] => some (decide (l.length < 1000000), .bool (decide (l = k)), [])
  | _, _ => none
theorem gSame_ok (a : List AV) (m : List Slot) (r : Bool × AV × List Slot) (h : gSame a m = some r) (hk : r.1 = true) : Sound Q N.ref07_Same a m r.2 := by
  unfold gSame at h
  split at h
  · simp only [Option.some.injEq] at h; subst h; exact sound_of_run noCall_ok (run_same _ _ (of_decide_eq_true hk))
  · simp at h
end Mo
end Go.Ab
