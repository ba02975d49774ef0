/- Plans: whether an aisle has a point, whether two meet: what the smallest functions compute, off their code. -/
import Derived.Test.YtmclfehlflekhaaNA
namespace Go.Ab
set_option linter.unusedVariables false
namespace Pl


/-- Has an aisle a point? -/
def hasB (a : Ai) (p : Pt) : Bool := decide (a.2.1.1 ≤ p.1 ∧ p.1 ≤ a.2.2.1 ∧ a.2.1.2 ≤ p.2 ∧ p.2 ≤ a.2.2.2)
/-- Have two a point that is one? -/
def meetB (a b : Ai) : Bool := decide (max a.2.1.1 b.2.1.1 ≤ min a.2.2.1 b.2.2.1 ∧ max a.2.1.2 b.2.1.2 ≤ min a.2.2.2 b.2.2.2)
/-- Is a point of a floor? -/
def wideB (p : Pt) : Bool := decide (-1000 ≤ p.1 ∧ p.1 ≤ 1000 ∧ -1000 ≤ p.2 ∧ p.2 ≤ 1000)
def clipI (x : Int) : Int := max (-1000) (min x 1000)
def nearP (p : Pt) : Pt := (clipI p.1, clipI p.2)

theorem eInside (a : Ai) (p : Pt) (n : Nat) : runF Q hn0 noCall n N.plan_inside [agA a, agP p] [] =
  cond ((p.fst == if a.snd.snd.fst < if a.snd.fst.fst > p.fst then a.snd.fst.fst else p.fst then a.snd.snd.fst else if a.snd.fst.fst > p.fst then a.snd.fst.fst else p.fst) && ((p.snd == if a.snd.snd.snd < if a.snd.fst.snd > p.snd then a.snd.fst.snd else p.snd then a.snd.snd.snd else if a.snd.fst.snd > p.snd then a.snd.fst.snd else p.snd) && true)) (cond (decide (a.snd.fst.fst ≤ a.snd.snd.fst)) (some (.bool (decide (a.snd.fst.snd ≤ a.snd.snd.snd)), [])) (some (.bool false, []))) (some (.bool false, [])) := by kernel_rfl
theorem run_inside (a : Ai) (p : Pt) (n : Nat) : runF Q hn0 noCall n N.plan_inside [agA a, agP p] [] = some (.bool (hasB a p), []) := by
  rw [eInside]
  simp only [fold_and]
  congr 3
  rw [Bool.eq_iff_iff]
  simp only [Bool.and_eq_true, decide_eq_true_eq, beq_iff_eq, hasB]
  constructor
  · rintro ⟨⟨h1, h2, _⟩, h3, h4⟩
    revert h1 h2
    repeat' split
    all_goals omega
  · rintro ⟨h1, h2, h3, h4⟩
    refine ⟨⟨?_, ?_, trivial⟩, by omega, by omega⟩
    · rw [if_neg (by split <;> omega)]; split <;> omega
    · rw [if_neg (by split <;> omega)]; split <;> omega
theorem eHas (a : Ai) (p : Pt) (n : Nat) : runF Q hn0 noCall n N.ref07_Has [agA a, agP p] [] =
  cond (decide (a.snd.fst.fst ≤ p.fst)) (cond (decide (p.fst ≤ a.snd.snd.fst)) (cond (decide (a.snd.fst.snd ≤ p.snd)) (some (.bool (decide (p.snd ≤ a.snd.snd.snd)), [])) (some (.bool false, []))) (some (.bool false, []))) (some (.bool false, [])) := by kernel_rfl
theorem run_has (a : Ai) (p : Pt) (n : Nat) : runF Q hn0 noCall n N.ref07_Has [agA a, agP p] [] = some (.bool (hasB a p), []) := by
  rw [eHas]
  simp only [fold_and]
  congr 3
  rw [Bool.eq_iff_iff]
  simp only [Bool.and_eq_true, decide_eq_true_eq, hasB]

/-! ### table entries -/
def gHas : G
  | [.agg [.int .i64 a, .int .i64 b, .int .i64 c, .int .i64 d, .int .i64 e], .agg [.int .i64 x, .int .i64 y]], [] => some (true, .bool (hasB (a, (b, c), (d, e)) (x, y)), [])
  | _, _ => none
def gMeet : G
  | [.agg [.int .i64 a, .int .i64 b, .int .i64 c, .int .i64 d, .int .i64 e], .agg [.int .i64 a', .int .i64 b', .int .i64 c', .int .i64 d', .int .i64 e']], [] => some (true, .bool (meetB (a, (b, c), (d, e)) (a', (b', c'), (d', e'))), [])
  | _, _ => none
def gClip : G
  | [.int .i64 x, .int .i64 a, .int .i64 b], [] => some (decide (a = -1000 ∧ b = 1000), .int .i64 (clipI x), [])
  | _, _ => none
def gNear : G
  | [.agg [.int .i64 x, .int .i64 y]], [] => some (true, .agg [.int .i64 (clipI x), .int .i64 (clipI y)], [])
  | _, _ => none
def gWide : G
  | [.agg [.int .i64 x, .int .i64 y]], [] => some (true, .bool (wideB (x, y)), [])
  | _, _ => none
def smallB (p : Pt) (m : Int) : Bool := decide (-m ≤ p.1 ∧ p.1 ≤ m ∧ -m ≤ p.2 ∧ p.2 ≤ m)
def gSmall : G
  | [.agg [.int .i64 x, .int .i64 y], .int .i64 m], [] => some (decide (0 ≤ m ∧ m ≤ 1000000), .bool (smallB (x, y) m), [])
  | _, _ => none
def gAt1 : G
  | [.agg [.int .i64 a, .int .i64 b, .int .i64 c, .int .i64 d, .int .i64 e], .ptr 0 0], [.obj (.box [.int .i64 x, .int .i64 y])] => some (true, .bool (hasB (a, (b, c), (d, e)) (x, y)), [.obj (.box [.int .i64 x, .int .i64 y])])
  | _, _ => none

theorem gHas_inside (a : List AV) (m : List Slot) (r : Bool × AV × List Slot) (h : gHas a m = some r) (hk : r.1 = true) : Sound Q N.plan_inside a m r.2 := by
  unfold gHas at h
  split at h
  · simp only [Option.some.injEq] at h; subst h; exact sound_of_run noCall_ok (run_inside (_, (_, _), (_, _)) (_, _) 0)
  · simp at h
theorem gHas_has (a : List AV) (m : List Slot) (r : Bool × AV × List Slot) (h : gHas a m = some r) (hk : r.1 = true) : Sound Q N.ref07_Has a m r.2 := by
  unfold gHas at h
  split at h
  · simp only [Option.some.injEq] at h; subst h; exact sound_of_run noCall_ok (run_has (_, (_, _), (_, _)) (_, _) 0)
  · simp at h

noncomputable def tIn : Callf := addT N.plan_inside gHas noCall
theorem tIn_ok : CallOK Q tIn := addT_ok noCall_ok gHas_inside
noncomputable def tHas : Callf := addT N.ref07_Has gHas noCall
theorem tHas_ok : CallOK Q tHas := addT_ok noCall_ok gHas_has

/-! ### Meet, by both -/
theorem eMeet (a : Ai) (p : Ai) (n : Nat) : runF Q hn0 tIn n N.plan_Meet [agA a, agA p] [] =
  some (.bool (hasB ((0 : Int), (if p.snd.fst.fst > a.snd.fst.fst then p.snd.fst.fst else a.snd.fst.fst, if p.snd.fst.snd > a.snd.fst.snd then p.snd.fst.snd else a.snd.fst.snd), if p.snd.snd.fst < a.snd.snd.fst then p.snd.snd.fst else a.snd.snd.fst, if p.snd.snd.snd < a.snd.snd.snd then p.snd.snd.snd else a.snd.snd.snd) (if p.snd.fst.fst > a.snd.fst.fst then p.snd.fst.fst else a.snd.fst.fst, if p.snd.fst.snd > a.snd.fst.snd then p.snd.fst.snd else a.snd.fst.snd)), []) := by kernel_rfl
theorem run_meet (a p : Ai) : runF Q hn0 tIn 0 N.plan_Meet [agA a, agA p] [] = some (.bool (meetB a p), []) := by
  rw [eMeet]
  congr 3
  rw [Bool.eq_iff_iff]
  simp only [decide_eq_true_eq, hasB, meetB]
  repeat' split
  all_goals omega
theorem eRMeet (a : Ai) (p : Ai) (n : Nat) : runF Q hn0 tHas n N.ref07_Meet [agA a, agA p] [] =
  cond (hasB a (if p.snd.fst.fst > a.snd.fst.fst then p.snd.fst.fst else a.snd.fst.fst, if p.snd.fst.snd > a.snd.fst.snd then p.snd.fst.snd else a.snd.fst.snd)) (some (.bool (hasB p (if p.snd.fst.fst > a.snd.fst.fst then p.snd.fst.fst else a.snd.fst.fst, if p.snd.fst.snd > a.snd.fst.snd then p.snd.fst.snd else a.snd.fst.snd)), [])) (some (.bool false, [])) := by kernel_rfl
theorem run_rmeet (a p : Ai) : runF Q hn0 tHas 0 N.ref07_Meet [agA a, agA p] [] = some (.bool (meetB a p), []) := by
  rw [eRMeet]
  simp only [fold_and]
  congr 3
  rw [Bool.eq_iff_iff]
  simp only [Bool.and_eq_true, decide_eq_true_eq, hasB, meetB]
  repeat' split
  all_goals omega
theorem gMeet_plan (a : List AV) (m : List Slot) (r : Bool × AV × List Slot) (h : gMeet a m = some r) (hk : r.1 = true) : Sound Q N.plan_Meet a m r.2 := by
  unfold gMeet at h
  split at h
  · simp only [Option.some.injEq] at h; subst h; exact sound_of_run tIn_ok (run_meet (_, (_, _), (_, _)) (_, (_, _), (_, _)))
  · simp at h
theorem gMeet_ref (a : List AV) (m : List Slot) (r : Bool × AV × List Slot) (h : gMeet a m = some r) (hk : r.1 = true) : Sound Q N.ref07_Meet a m r.2 := by
  unfold gMeet at h
  split at h
  · simp only [Option.some.injEq] at h; subst h; exact sound_of_run tHas_ok (run_rmeet (_, (_, _), (_, _)) (_, (_, _), (_, _)))
  · simp at h

/-! ### near, wide, Small -/
theorem eClip (x a b : Int) (n : Nat) : runF Q hn0 noCall n N.ref02_Clip [.int .i64 x, .int .i64 a, .int .i64 b] [] =
  cond (decide (x < a)) (some (.int .i64 (a), [])) (cond (decide (x > b)) (some (.int .i64 (b), [])) (some (.int .i64 (x), []))) := by kernel_rfl
theorem run_clip (x : Int) : runF Q hn0 noCall 0 N.ref02_Clip [.int .i64 x, .int .i64 (-1000), .int .i64 1000] [] = some (.int .i64 (clipI x), []) := by
  rw [eClip]
  simp only [fold_int]
  congr 3
  unfold clipI
  by_cases h : x < -1000
  · simp only [h, decide_true, cond_true]; omega
  · by_cases h' : x > 1000
    · simp only [h, h', decide_true, decide_false, cond_true, cond_false]; omega
    · simp only [h, h', decide_false, cond_false]; omega
theorem gClip_ok (a : List AV) (m : List Slot) (r : Bool × AV × List Slot) (h : gClip a m = some r) (hk : r.1 = true) : Sound Q N.ref02_Clip a m r.2 := by
  unfold gClip at h
  split at h
  · simp only [Option.some.injEq] at h; subst h; obtain ⟨rfl, rfl⟩ := of_decide_eq_true hk; exact sound_of_run noCall_ok (run_clip _)
  · simp at h
noncomputable def tClip : Callf := addT N.ref02_Clip gClip noCall
theorem tClip_ok : CallOK Q tClip := addT_ok noCall_ok gClip_ok
theorem run_rnear (p : Pt) : runF Q hn0 tClip 0 N.ref07_near [agP p] [] = some (agP (nearP p), []) := by kernel_rfl
theorem eNear (p : Pt) (n : Nat) : runF Q hn0 noCall n N.plan_near [agP p] [] =
  some (.agg [.int .i64 (if (-1000 : Int) > if (1000 : Int) < p.fst then (1000 : Int) else p.fst then (-1000 : Int) else if (1000 : Int) < p.fst then (1000 : Int) else p.fst), .int .i64 (if (-1000 : Int) > if (1000 : Int) < p.snd then (1000 : Int) else p.snd then (-1000 : Int) else if (1000 : Int) < p.snd then (1000 : Int) else p.snd)], []) := by kernel_rfl
theorem clip_if (x : Int) : (if (-1000 : Int) > if (1000 : Int) < x then (1000 : Int) else x then (-1000 : Int) else if (1000 : Int) < x then (1000 : Int) else x) = clipI x := by
  unfold clipI; repeat' split
  all_goals omega
theorem run_near (p : Pt) : runF Q hn0 noCall 0 N.plan_near [agP p] [] = some (agP (nearP p), []) := by
  rw [eNear, clip_if, clip_if]; rfl
theorem gNear_plan (a : List AV) (m : List Slot) (r : Bool × AV × List Slot) (h : gNear a m = some r) (hk : r.1 = true) : Sound Q N.plan_near a m r.2 := by
  unfold gNear at h
  split at h
  · simp only [Option.some.injEq] at h; subst h; exact sound_of_run noCall_ok (run_near (_, _))
  · simp at h
theorem gNear_ref (a : List AV) (m : List Slot) (r : Bool × AV × List Slot) (h : gNear a m = some r) (hk : r.1 = true) : Sound Q N.ref07_near a m r.2 := by
  unfold gNear at h
  split at h
  · simp only [Option.some.injEq] at h; subst h; exact sound_of_run tClip_ok (run_rnear (_, _))
  · simp at h
noncomputable def tNear : Callf := addT N.plan_near gNear noCall
theorem tNear_ok : CallOK Q tNear := addT_ok noCall_ok gNear_plan
theorem run_wide (p : Pt) : runF Q hn0 tNear 0 N.plan_wide [agP p] [] = some (.bool (wideB p), []) := by
  have e : runF Q hn0 tNear 0 N.plan_wide [agP p] [] = some (.bool (clipI p.1 == p.1 && (clipI p.2 == p.2 && true)), []) := by kernel_rfl
  refine e.trans ?_
  have e2 : (clipI p.1 == p.1 && (clipI p.2 == p.2 && true)) = wideB p := ?_
  · rw [e2]
  rw [Bool.eq_iff_iff]
  simp only [Bool.and_eq_true, decide_eq_true_eq, wideB, clipI, beq_iff_eq, and_true]
  omega
theorem gWide_ok (a : List AV) (m : List Slot) (r : Bool × AV × List Slot) (h : gWide a m = some r) (hk : r.1 = true) : Sound Q N.plan_wide a m r.2 := by
  unfold gWide at h
  split at h
  · simp only [Option.some.injEq] at h; subst h; exact sound_of_run tNear_ok (run_wide (_, _))
  · simp at h
theorem eSmall (p : Pt) (m : Int) (n : Nat) : runF Q hn0 (deepT Q hn0 0 noCall 2) n N.ref03_Small [agP p, .int .i64 m] [] =
  cond (decide (p.fst ≥ wr ((0 : Int) - m))) (cond (decide (p.fst ≤ m)) (cond (decide (p.snd ≥ wr ((0 : Int) - m))) (some (.bool (decide (p.snd ≤ m)), [])) (some (.bool false, []))) (some (.bool false, []))) (some (.bool false, [])) := by kernel_rfl
theorem run_small (p : Pt) (m : Int) (h : 0 ≤ m ∧ m ≤ 1000000) : runF Q hn0 (deepT Q hn0 0 noCall 2) 0 N.ref03_Small [agP p, .int .i64 m] [] = some (.bool (smallB p m), []) := by
  rw [eSmall]
  simp only [fold_and]
  congr 3
  rw [Bool.eq_iff_iff]
  have hw : wr ((0 : Int) - m) = -m := by unfold wr; rw [wrap64 (by omega) (by omega)]; omega
  rw [hw]
  simp only [Bool.and_eq_true, decide_eq_true_eq, smallB]
  try omega
theorem gSmall_ok (a : List AV) (m : List Slot) (r : Bool × AV × List Slot) (h : gSmall a m = some r) (hk : r.1 = true) : Sound Q N.ref03_Small a m r.2 := by
  unfold gSmall at h
  split at h
  · simp only [Option.some.injEq] at h; subst h; exact sound_of_run (deepT_ok noCall_ok 2) (run_small (_, _) _ (of_decide_eq_true hk))
  · simp at h
theorem small_wide (p : Pt) : smallB p 1000 = wideB p := by
  rw [Bool.eq_iff_iff]; simp only [decide_eq_true_eq, smallB, wideB]

/-! ### At, by both -/
theorem run_at1 (a : Ai) (p : Pt) : runF Q hn0 tIn 0 N.plan_At_1 [agA a, .ptr 0 0] [.obj (.box [.int .i64 p.1, .int .i64 p.2])] = some (.bool (hasB a p), [.obj (.box [.int .i64 p.1, .int .i64 p.2])]) := by kernel_rfl
theorem gAt1_ok (a : List AV) (m : List Slot) (r : Bool × AV × List Slot) (h : gAt1 a m = some r) (hk : r.1 = true) : Sound Q N.plan_At_1 a m r.2 := by
  unfold gAt1 at h
  split at h
  · simp only [Option.some.injEq] at h; subst h; exact sound_of_run tIn_ok (run_at1 (_, (_, _), (_, _)) (_, _))
  · simp at h
end Pl
end Go.Ab

/- Plans: which aisle has a point, and whether aisles are a plan: what both functions compute, off their code. -/
namespace Go.Ab
set_option linter.unusedVariables false
namespace Pl
abbrev bxA (a : Ai) : Slot := .obj (.box [.int .i64 a.1, .int .i64 a.2.1.1, .int .i64 a.2.1.2, .int .i64 a.2.2.1, .int .i64 a.2.2.2])
abbrev bxP (p : Pt) : Slot := .obj (.box [.int .i64 p.1, .int .i64 p.2])

/-! ### At -/
noncomputable def tAt1 : Callf := addT N.plan_At_1 gAt1 noCall
theorem tAt1_ok : CallOK Q tAt1 := addT_ok noCall_ok gAt1_ok
abbrev SIdxFa (l : List Ai) (p : Pt) (i1 : Int) : St := ⟨.ro tA l :: .fn (Fn.func N.plan_At_1) [] [.ptr 0 0] :: J :: J :: J :: J :: J :: .int .i64 (l.length : Int) :: .int .i64 i1 :: js 10, [bxP p]⟩
noncomputable abbrev LIdxFa (n z : Nat) (s : St) : Ans := loopF Q hn0 tAt1 n N.slices_IndexFunc_api_Aisle 1 [1, 0, 1, 0] [] z s
theorem eIdxF (l : List Ai) (p : Pt) (n : Nat) : runF Q hn0 tAt1 n N.slices_IndexFunc_api_Aisle [.ro tA l, .fn (Fn.func N.plan_At_1) [] [.ptr 0 0]] [bxP p] = LIdxFa n n (SIdxFa l p 0) := by kernel_rfl
theorem rIdxFa (l : List Ai) (p : Pt) (i1 : Int) (n m : Nat) : LIdxFa n (m + 1) (SIdxFa l p i1) =
  cond (decide (i1 < (l.length : Int))) (cond (decide ((0 : Int) ≤ i1) && decide (i1 < (l.length : Int))) (cond (hasB (l.getD i1.toNat tA.dflt) p) (some (.int .i64 i1, [bxP p])) (LIdxFa n m (SIdxFa l p (wr (i1 + (1 : Int)))))) none) (some (.int .i64 (-1 : Int), [bxP p])) := by kernel_rfl
theorem run_idxF (l : List Ai) (p : Pt) (hl : l.length < big) : runF Q hn0 tAt1 (l.length + 1) N.slices_IndexFunc_api_Aisle [.ro tA l, .fn (Fn.func N.plan_At_1) [] [.ptr 0 0]] [bxP p] = some (.int .i64 (idxF (hasB · p) l 0), [bxP p]) := by
  rw [eIdxF]
  exact idx_loop (F := fun m i => LIdxFa (l.length + 1) m (SIdxFa l p i)) l tA.dflt (hasB · p) (fun i => some (.int .i64 i, [bxP p])) none hl (fun m i => rIdxFa l p i _ m) (l.length + 1) 0 (by omega)
def gIdxF : G
  | [.ro (.pair (.int .i64) (.pair (.pair (.int .i64) (.int .i64)) (.pair (.int .i64) (.int .i64)))) l, .fn (.func f) [] [.ptr 0 0]], [.obj (.box [.int .i64 x, .int .i64 y])] =>
    cond (Nat.beq f N.plan_At_1) (some (decide (l.length < big), .int .i64 (idxF (hasB · (x, y)) l 0), [.obj (.box [.int .i64 x, .int .i64 y])])) none
  | _, _ => none
theorem gIdxF_ok (a : List AV) (m : List Slot) (r : Bool × AV × List Slot) (h : gIdxF a m = some r) (hk : r.1 = true) : Sound Q N.slices_IndexFunc_api_Aisle a m r.2 := by
  unfold gIdxF at h
  split at h
  · obtain ⟨hf, rfl⟩ := ok_cond h
    obtain rfl := Nat.eq_of_beq_eq_true hf
    exact sound_of_run tAt1_ok (run_idxF _ (_, _) (of_decide_eq_true hk))
  · simp at h
noncomputable def tIdxF : Callf := addT N.slices_IndexFunc_api_Aisle gIdxF noCall
theorem tIdxF_ok : CallOK Q tIdxF := addT_ok noCall_ok gIdxF_ok

/-- Which aisle has a point? -/
def atR (l : List Ai) (p : Pt) : AV := match l.find? (hasB · p) with | some a => .tup [.int .i64 a.1, .bool true] | none => .tup [.int .i64 0, .bool false]
theorem eAt (l : List Ai) (p : Pt) (n : Nat) : runF Q hn0 tIdxF n N.plan_At [.ro tA l, agP p] [] =
  cond (decide (l.length < big)) (cond (decide (idxF (hasB · p) l 0 < 0)) (some (.tup [.int .i64 0, .bool false], [])) (cond (decide ((0 : Int) ≤ idxF (hasB · p) l 0) && decide (idxF (hasB · p) l 0 < (l.length : Int))) (some (.tup [.int .i64 (l.getD (idxF (hasB · p) l 0).toNat tA.dflt).1, .bool true], [])) none)) none := by kernel_rfl
theorem run_at (l : List Ai) (p : Pt) (hl : l.length < big) : runF Q hn0 tIdxF 0 N.plan_At [.ro tA l, agP p] [] = some (atR l p, []) := by
  rw [eAt, cond_dec hl]
  have := idxF_find (hasB · p) (Ty.dflt tA) l 0
  unfold atR
  cases hf : l.find? (hasB · p) with
  | none =>
    rw [hf] at this
    have h2 : idxF (hasB · p) l 0 = -1 := this
    rw [h2]; rfl
  | some a =>
    rw [hf] at this
    obtain ⟨i, h1, h2, h3⟩ := this
    have h1 : idxF (hasB · p) l 0 = (i : Int) := by simpa using h1
    rw [h1, cond_dec' (by omega), dec_nn, dec_lt, Bool.true_and, cond_dec h2, Int.toNat_natCast, h3]
abbrev SRAta (l : List Ai) (p : Pt) (i1 : Int) : St := ⟨.ro tA l :: J :: J :: .ptr 0 0 :: J :: J :: .int .i64 i1 :: js 17, [bxP p]⟩
def gAt : G
  | [.ro (.pair (.int .i64) (.pair (.pair (.int .i64) (.int .i64)) (.pair (.int .i64) (.int .i64)))) l, .agg [.int .i64 x, .int .i64 y]], [] =>
    some (decide (l.length < big), .tup [.int .i64 (match l.find? (hasB · (x, y)) with | some a => a.1 | none => 0), .bool (match l.find? (hasB · (x, y)) with | some a => true | none => false)], [])
  | _, _ => none
theorem atR_eq (l : List Ai) (p : Pt) : atR l p = .tup [.int .i64 (match l.find? (hasB · p) with | some a => a.1 | none => 0), .bool (match l.find? (hasB · p) with | some a => true | none => false)] := by
  unfold atR; cases l.find? (hasB · p) <;> rfl
theorem gAt_plan (a : List AV) (m : List Slot) (r : Bool × AV × List Slot) (h : gAt a m = some r) (hk : r.1 = true) : Sound Q N.plan_At a m r.2 := by
  unfold gAt at h
  split at h
  · simp only [Option.some.injEq] at h; subst h
    refine sound_of_run tIdxF_ok ((run_at _ (_, _) (of_decide_eq_true hk)).trans ?_)
    rw [atR_eq]
  · simp at h
end Pl
end Go.Ab

/- Plans: whether aisles are a plan: what both functions compute, off their code. -/
namespace Go.Ab
set_option linter.unusedVariables false
namespace Pl
/-- Are aisles right behind others, of which the last one's ID is 'last'? -/
def okA (prev : List Ai) (last : Int) (a : Ai) : Bool := decide (last < a.1 ∧ a.1 ≤ 999) && (wideB a.2.1 && (wideB a.2.2 && (decide (a.2.1.1 ≤ a.2.2.1 ∧ a.2.1.2 ≤ a.2.2.2) && !(prev.any (meetB a)))))
def okFrom : List Ai → Int → List Ai → Bool
  | _, _, [] => true
  | prev, last, a :: t => okA prev last a && okFrom (prev ++ [a]) a.1 t
/-- Are aisles a plan? -/
def rightB (l : List Ai) : Bool := decide (l.length ≤ 32) && okFrom [] 0 l

theorem run_right1 (a b : Ai) : runF Q hn0 (addT N.plan_Meet gMeet noCall) 0 N.plan_Right_1 [agA b, .ptr 0 0] [bxA a] = some (.bool (meetB a b), [bxA a]) := by kernel_rfl
def gRight1 : G
  | [.agg [.int .i64 a, .int .i64 b, .int .i64 c, .int .i64 d, .int .i64 e], .ptr 0 0], [.obj (.box [.int .i64 a', .int .i64 b', .int .i64 c', .int .i64 d', .int .i64 e'])] => some (true, .bool (meetB (a', (b', c'), (d', e')) (a, (b, c), (d, e))), [.obj (.box [.int .i64 a', .int .i64 b', .int .i64 c', .int .i64 d', .int .i64 e'])])
  | _, _ => none
theorem gRight1_ok (a : List AV) (m : List Slot) (r : Bool × AV × List Slot) (h : gRight1 a m = some r) (hk : r.1 = true) : Sound Q N.plan_Right_1 a m r.2 := by
  unfold gRight1 at h
  split at h
  · simp only [Option.some.injEq] at h; subst h; exact sound_of_run (addT_ok noCall_ok gMeet_plan) (run_right1 (_, (_, _), (_, _)) (_, (_, _), (_, _)))
  · simp at h
noncomputable def tRight1 : Callf := addT N.plan_Right_1 gRight1 noCall
theorem tRight1_ok : CallOK Q tRight1 := addT_ok noCall_ok gRight1_ok
abbrev SIdxRa (l : List Ai) (a : Ai) (i1 : Int) : St := ⟨.ro tA l :: .fn (Fn.func N.plan_Right_1) [] [.ptr 0 0] :: J :: J :: J :: J :: J :: .int .i64 (l.length : Int) :: .int .i64 i1 :: js 10, [bxA a]⟩
noncomputable abbrev LIdxRa (n z : Nat) (s : St) : Ans := loopF Q hn0 tRight1 n N.slices_IndexFunc_api_Aisle 1 [1, 0, 1, 0] [] z s
theorem eIdxR (l : List Ai) (a : Ai) (n : Nat) : runF Q hn0 tRight1 n N.slices_IndexFunc_api_Aisle [.ro tA l, .fn (Fn.func N.plan_Right_1) [] [.ptr 0 0]] [bxA a] = LIdxRa n n (SIdxRa l a 0) := by kernel_rfl
theorem rIdxRa (l : List Ai) (a : Ai) (i1 : Int) (n m : Nat) : LIdxRa n (m + 1) (SIdxRa l a i1) =
  cond (decide (i1 < (l.length : Int))) (cond (decide ((0 : Int) ≤ i1) && decide (i1 < (l.length : Int))) (cond (meetB a (l.getD i1.toNat tA.dflt)) (some (.int .i64 i1, [bxA a])) (LIdxRa n m (SIdxRa l a (wr (i1 + 1))))) none) (some (.int .i64 (-1), [bxA a])) := by kernel_rfl
theorem run_idxR (l : List Ai) (a : Ai) (hl : l.length < big) : runF Q hn0 tRight1 (l.length + 1) N.slices_IndexFunc_api_Aisle [.ro tA l, .fn (Fn.func N.plan_Right_1) [] [.ptr 0 0]] [bxA a] = some (.int .i64 (idxF (meetB a) l 0), [bxA a]) := by
  rw [eIdxR]
  exact idx_loop (F := fun m i => LIdxRa (l.length + 1) m (SIdxRa l a i)) l tA.dflt (meetB a) (fun i => some (.int .i64 i, [bxA a])) none hl (fun m i => rIdxRa l a i _ m) (l.length + 1) 0 (by omega)
def gIdxR : G
  | [.ro (.pair (.int .i64) (.pair (.pair (.int .i64) (.int .i64)) (.pair (.int .i64) (.int .i64)))) l, .fn (.func f) [] [.ptr 0 0]], [.obj (.box [.int .i64 a', .int .i64 b', .int .i64 c', .int .i64 d', .int .i64 e'])] =>
    cond (Nat.beq f N.plan_Right_1) (some (decide (l.length < big), .int .i64 (idxF (meetB (a', (b', c'), (d', e'))) l 0), [.obj (.box [.int .i64 a', .int .i64 b', .int .i64 c', .int .i64 d', .int .i64 e'])])) none
  | _, _ => none
theorem gIdxR_ok (a : List AV) (m : List Slot) (r : Bool × AV × List Slot) (h : gIdxR a m = some r) (hk : r.1 = true) : Sound Q N.slices_IndexFunc_api_Aisle a m r.2 := by
  unfold gIdxR at h
  split at h
  · obtain ⟨hf, rfl⟩ := ok_cond h
    obtain rfl := Nat.eq_of_beq_eq_true hf
    exact sound_of_run tRight1_ok (run_idxR _ (_, (_, _), (_, _)) (of_decide_eq_true hk))
  · simp at h
noncomputable def tIdxR : Callf := addT N.slices_IndexFunc_api_Aisle gIdxR noCall
theorem tIdxR_ok : CallOK Q tIdxR := addT_ok noCall_ok gIdxR_ok
theorem eContR (l : List Ai) (a : Ai) (n : Nat) : runF Q hn0 tIdxR n N.slices_ContainsFunc_api_Aisle [.ro tA l, .fn (Fn.func N.plan_Right_1) [] [.ptr 0 0]] [bxA a] =
  cond (decide (l.length < big)) (some (.bool (decide (idxF (meetB a) l 0 ≥ 0)), [bxA a])) none := by kernel_rfl
def gContR : G
  | [.ro (.pair (.int .i64) (.pair (.pair (.int .i64) (.int .i64)) (.pair (.int .i64) (.int .i64)))) l, .fn (.func f) [] [.ptr 0 0]], [.obj (.box [.int .i64 a', .int .i64 b', .int .i64 c', .int .i64 d', .int .i64 e'])] =>
    cond (Nat.beq f N.plan_Right_1) (some (decide (l.length < big), .bool (l.any (meetB (a', (b', c'), (d', e')))), [.obj (.box [.int .i64 a', .int .i64 b', .int .i64 c', .int .i64 d', .int .i64 e'])])) none
  | _, _ => none
theorem gContR_ok (a : List AV) (m : List Slot) (r : Bool × AV × List Slot) (h : gContR a m = some r) (hk : r.1 = true) : Sound Q N.slices_ContainsFunc_api_Aisle a m r.2 := by
  unfold gContR at h
  split at h
  · obtain ⟨hf, rfl⟩ := ok_cond h
    obtain rfl := Nat.eq_of_beq_eq_true hf
    refine sound_of_run (hn := hn0) tIdxR_ok (n := 0) ?_
    rename_i l a b c d e
    have := eContR l (a, (b, c), (d, e)) 0
    rw [cond_dec (of_decide_eq_true hk), idxF_any _ _ _ (by omega)] at this
    exact this
  · simp at h
noncomputable def tRight : Callf := addT N.plan_wide gWide (addT N.plan_inside gHas (addT N.slices_ContainsFunc_api_Aisle gContR noCall))
theorem tRight_ok : CallOK Q tRight := addT_ok (addT_ok (addT_ok noCall_ok gContR_ok) gHas_inside) gWide_ok

abbrev SRighta0 (l : List Ai) (i1 : Int) (i2 : Int) : St := ⟨.ro tA l :: J :: J :: .int .i64 i1 :: .int .i64 i2 :: js 49, []⟩
noncomputable abbrev LRighta0 (n z : Nat) (s : St) : Ans := labelF Q hn0 tRight n N.plan_Right 0 [1] [] 0 z s
theorem eRight (l : List Ai) (n : Nat) : runF Q hn0 tRight n N.plan_Right [.ro tA l] [] =
  cond (decide ((l.length : Int) > (32 : Int))) (some (.bool false, [])) (cond ((0 : Int) == (l.length : Int)) (some (.bool true, [])) (cond (decide ((0 : Int) ≤ (0 : Int)) && decide ((0 : Int) < (l.length : Int))) (cond (decide ((l.getD (Int.toNat (0 : Int)) tA.dflt).1 ≤ (0 : Int))) (some (.bool false, [])) (cond (decide ((l.getD (Int.toNat (0 : Int)) tA.dflt).1 > (999 : Int))) (some (.bool false, [])) (cond (!wideB (l.getD (Int.toNat (0 : Int)) tA.dflt).2.1) (some (.bool false, [])) (cond (!wideB (l.getD (Int.toNat (0 : Int)) tA.dflt).2.2) (some (.bool false, [])) (cond (!hasB (l.getD (Int.toNat (0 : Int)) tA.dflt) (l.getD (Int.toNat (0 : Int)) tA.dflt).2.1) (some (.bool false, [])) (LRighta0 n n (SRighta0 l (l.getD (Int.toNat (0 : Int)) tA.dflt).1 (wr ((0 : Int) + (1 : Int)))))))))) none)) := by kernel_rfl
theorem rRighta0 (l : List Ai) (i1 : Int) (i2 : Int) (n m : Nat) : LRighta0 n (m + 1) (SRighta0 l i1 i2) =
  cond (i2 == (l.length : Int)) (some (.bool true, [])) (cond (decide ((0 : Int) ≤ i2) && decide (i2 < (l.length : Int))) (cond (decide ((l.getD i2.toNat tA.dflt).1 ≤ i1)) (some (.bool false, [])) (cond (decide ((l.getD i2.toNat tA.dflt).1 > (999 : Int))) (some (.bool false, [])) (cond (!wideB (l.getD i2.toNat tA.dflt).2.1) (some (.bool false, [])) (cond (!wideB (l.getD i2.toNat tA.dflt).2.2) (some (.bool false, [])) (cond (!hasB (l.getD i2.toNat tA.dflt) (l.getD i2.toNat tA.dflt).2.1) (some (.bool false, [])) (cond (decide ((0 : Int) ≤ (0 : Int)) && (decide ((0 : Int) ≤ i2) && decide (i2 ≤ (l.length : Int)))) (cond (decide ((List.drop (Int.toNat (0 : Int)) (List.take i2.toNat l)).length < big)) (cond ((List.drop (Int.toNat (0 : Int)) (List.take i2.toNat l)).any (meetB (l.getD i2.toNat tA.dflt))) (some (.bool false, [])) (LRighta0 n m (SRighta0 l (l.getD i2.toNat tA.dflt).1 (wr (i2 + (1 : Int)))))) none) none)))))) none) := by kernel_rfl

theorem has_low (a : Ai) : hasB a a.2.1 = decide (a.2.1.1 ≤ a.2.2.1 ∧ a.2.1.2 ≤ a.2.2.2) := by
  rw [Bool.eq_iff_iff]; simp only [hasB, decide_eq_true_eq]; omega

theorem right_loop (l : List Ai) (n : Nat) (hl : l.length < big) : ∀ (m i : Nat) (last : Int), i ≤ l.length → l.length - i < m → LRighta0 n m (SRighta0 l last i) = some (.bool (okFrom (l.take i) last (l.drop i)), []) := by
  intro m
  induction m with
  | zero => intro i last h h'; omega
  | succ m ih =>
    intro i last hi' hm
    rw [rRighta0]
    by_cases hi : i < l.length
    · have e1 : ((i : Int) == (l.length : Int)) = false := by simp; omega
      have e2 : List.drop (Int.toNat 0) (List.take i l) = List.take i l := by simp
      have e3 : (List.take i l).length < big := by simp; omega
      rw [e1, cond_false, dec_lt, dec_nn, Bool.true_and, cond_dec hi, Int.toNat_natCast, e2, cond_dec e3, has_low, wrN (by unfold big at hl; omega), ih (i + 1) _ (by omega) (by omega), getD_drop (d := tA.dflt) hi, okFrom, List.take_succ_eq_append_getElem hi]
      have e4 : (decide ((0 : Int) ≤ 0) && (true && decide ((i : Int) ≤ (l.length : Int)))) = true := by simp; omega
      rw [e4, cond_true, ← getD_lt (d := tA.dflt) hi]
      generalize l.getD i tA.dflt = a
      simp only [okA]
      by_cases c1 : a.1 ≤ last
      · simp [c1]; intro h; exact absurd h (by omega)
      · by_cases c2 : a.1 > 999
        · simp [c1, c2]; intro _ h; exact absurd h (by omega)
        · have c3 : last < a.1 ∧ a.1 ≤ 999 := by omega
          simp only [c1, c2, c3, decide_false, cond_false, and_self, decide_true, Bool.true_and]
          cases wideB a.2.1 <;> cases wideB a.2.2 <;> cases decide (a.2.1.1 ≤ a.2.2.1 ∧ a.2.1.2 ≤ a.2.2.2) <;> cases (List.take i l).any (meetB a) <;> rfl
    · have e1 : ((i : Int) == (l.length : Int)) = true := by simp; omega
      rw [e1, cond_true, List.drop_eq_nil_of_le (by omega)]; rfl

theorem run_right (l : List Ai) : runF Q hn0 tRight (l.length + 1) N.plan_Right [.ro tA l] [] = some (.bool (rightB l), []) := by
  rw [eRight]
  by_cases hl : l.length < big
  case neg =>
    have h : ¬ l.length ≤ 32 := by unfold big at hl; omega
    rw [cond_dec (by omega)]
    unfold rightB
    simp [h]
  have := right_loop l (l.length + 1) hl (l.length + 1 + 1) 0 0 (by omega) (by omega)
  rw [show ((0 : Nat) : Int) = 0 by rfl, rRighta0] at this
  have e3 : (decide ((0 : Int) ≤ 0) && (decide ((0 : Int) ≤ 0) && decide ((0 : Int) ≤ (l.length : Int)))) = true := by simp
  have e4 : decide (([] : List Ai).length < big) = true := rfl
  rw [e3, cond_true, show Int.toNat 0 = 0 from rfl, List.take_zero, List.drop_nil, e4, cond_true, List.any_nil, cond_false, List.drop_zero] at this
  rw [show Int.toNat 0 = 0 from rfl, this]
  unfold rightB
  by_cases h : l.length ≤ 32
  · rw [cond_dec' (by omega)]; simp [h]
  · rw [cond_dec (by omega)]; simp [h]
def gRight : G
  | [.ro (.pair (.int .i64) (.pair (.pair (.int .i64) (.int .i64)) (.pair (.int .i64) (.int .i64)))) l], [] => some (true, .bool (rightB l), [])
  | _, _ => none
theorem gRight_plan (a : List AV) (m : List Slot) (r : Bool × AV × List Slot) (h : gRight a m = some r) (hk : r.1 = true) : Sound Q N.plan_Right a m r.2 := by
  unfold gRight at h
  split at h
  · simp only [Option.some.injEq] at h; subst h; exact sound_of_run tRight_ok (run_right _)
  · simp at h
end Pl
end Go.Ab
