/- Plans: which aisle has a point, and whether aisles are a plan: what both functions compute, off their code. -/
import Derived.Test.YthmebldaalplpaaPlA
namespace Go.Ab
set_option linter.unusedVariables false
namespace Pl
abbrev bxA (a : Ai) : Slot := .obj (.box [.int .i64 a.1, .int .i64 a.2.1.1, .int .i64 a.2.1.2, .int .i64 a.2.2.1, .int .i64 a.2.2.2])
abbrev bxP (p : Pt) : Slot := .obj (.box [.int .i64 p.1, .int .i64 p.2])

/-! ### At -/
noncomputable def tAt1 : Callf := addT N.plan_At_1 gAt1 noCall
theorem tAt1_ok : CallOK Q tAt1 := addT_ok noCall_ok gAt1_ok
abbrev SIdxFa (l : List Ai) (p : Pt) (i1 : Int) : St := ⟨.ro tA l :: .fn (Fn.func N.plan_At_1) [] [.ptr 0 0] :: J :: J :: J :: J :: J :: .int .i64 (l.length : Int) :: .int .i64 i1 :: js 10, [bxP p]⟩
noncomputable abbrev LIdxFa (n z : Nat) (s : St) : Ans := loopF Q hn0 tAt1 n N.slices_IndexFunc_api_Aisle 1 [1, 0, 1, 0] [] z s
theorem eIdxF (l : List Ai) (p : Pt) (n : Nat) : runF Q hn0 tAt1 n N.slices_IndexFunc_api_Aisle [.ro tA l, .fn (Fn.func N.plan_At_1) [] [.ptr 0 0]] [bxP p] = LIdxFa n n (SIdxFa l p 0) := by kernel_rfl
theorem rIdxFa (l : List Ai) (p : Pt) (i1 : Int) (n m : Nat) : LIdxFa n (m + 1) (SIdxFa l p i1) =
  cond (decide (i1 < (l.length : Int))) (cond (decide ((0 : Int) ≤ i1) && decide (i1 < (l.length : Int))) (cond (hasB (l.getD i1.toNat tA.dflt) p) (some (.int .i64 i1, [bxP p])) (LIdxFa n m (SIdxFa l p (wr (i1 + (1 : Int)))))) none) (some (.int .i64 (-1 : Int), [bxP p])) := by kernel_rfl
theorem run_idxF (l : List Ai) (p : Pt) (hl : l.length < big) : runF Q hn0 tAt1 (l.length + 1) N.slices_IndexFunc_api_Aisle [.ro tA l, .fn (Fn.func N.plan_At_1) [] [.ptr 0 0]] [bxP p] = some (.int .i64 (idxF (hasB · p) l 0), [bxP p]) := by
  rw [eIdxF]
  exact idx_loop (F := fun m i => LIdxFa (l.length + 1) m (SIdxFa l p i)) l tA.dflt (hasB · p) (fun i => some (.int .i64 i, [bxP p])) none hl (fun m i => rIdxFa l p i _ m) (l.length + 1) 0 (by omega)
def gIdxF : G
  | [.ro (.pair (.int .i64) (.pair (.pair (.int .i64) (.int .i64)) (.pair (.int .i64) (.int .i64)))) l, .fn (.func f) [] [.ptr 0 0]], [.obj (.box [.int .i64 x, .int .i64 y])] =>
    cond (Nat.beq f N.plan_At_1) (some (decide (l.length < big), .int .i64 (idxF (hasB · (x, y)) l 0), [.obj (.box [.int .i64 x, .int .i64 y])])) none
  | _, _ => none
theorem gIdxF_ok (a : List AV) (m : List Slot) (r : Bool × AV × List Slot) (h : gIdxF a m = some r) (hk : r.1 = true) : Sound Q N.slices_IndexFunc_api_Aisle a m r.2 := by
  unfold gIdxF at h
  split at h
  · obtain ⟨hf, rfl⟩ := ok_cond h
    obtain rfl := Nat.eq_of_beq_eq_true hf
    exact sound_of_run tAt1_ok (run_idxF _ (_, _) (of_decide_eq_true hk))
  · simp at h
noncomputable def tIdxF : Callf := addT N.slices_IndexFunc_api_Aisle gIdxF noCall
theorem tIdxF_ok : CallOK Q tIdxF := addT_ok noCall_ok gIdxF_ok

/-- Which aisle has a point? -/
def atR (l : List Ai) (p : Pt) : AV := match l.find? (hasB · p) with | some a => .tup [.int .i64 a.1, .bool true] | none => .tup [.int .i64 0, .bool false]
theorem eAt (l : List Ai) (p : Pt) (n : Nat) : runF Q hn0 tIdxF n N.plan_At [.ro tA l, agP p] [] =
  cond (decide (l.length < big)) (cond (decide (idxF (hasB · p) l 0 < 0)) (some (.tup [.int .i64 0, .bool false], [])) (cond (decide ((0 : Int) ≤ idxF (hasB · p) l 0) && decide (idxF (hasB · p) l 0 < (l.length : Int))) (some (.tup [.int .i64 (l.getD (idxF (hasB · p) l 0).toNat tA.dflt).1, .bool true], [])) none)) none := by kernel_rfl
theorem run_at (l : List Ai) (p : Pt) (hl : l.length < big) : runF Q hn0 tIdxF 0 N.plan_At [.ro tA l, agP p] [] = some (atR l p, []) := by
  rw [eAt, cond_dec hl]
  have := idxF_find (hasB · p) (Ty.dflt tA) l 0
  unfold atR
  cases hf : l.find? (hasB · p) with
  | none =>
    rw [hf] at this
    have h2 : idxF (hasB · p) l 0 = -1 := this
    rw [h2]; rfl
  | some a =>
    rw [hf] at this
    obtain ⟨i, h1, h2, h3⟩ := this
    have h1 : idxF (hasB · p) l 0 = (i : Int) := by simpa using h1
    rw [h1, cond_dec' (by omega), dec_nn, dec_lt, Bool.true_and, cond_dec h2, Int.toNat_natCast, h3]
abbrev SRAta (l : List Ai) (p : Pt) (i1 : Int) : St := ⟨.ro tA l :: J :: J :: .ptr 0 0 :: J :: J :: .int .i64 i1 :: js 17, [bxP p]⟩
noncomputable abbrev LRAta (n z : Nat) (s : St) : Ans := loopF Q hn0 tHas n N.ref07_At 0 [1, 0, 1, 0] [] z s
theorem eRAt (l : List Ai) (p : Pt) (n : Nat) : runF Q hn0 tHas n N.ref07_At [.ro tA l, agP p] [] = LRAta n n (SRAta l p 0) := by kernel_rfl
theorem rRAta (l : List Ai) (p : Pt) (i1 : Int) (n m : Nat) : LRAta n (m + 1) (SRAta l p i1) =
  cond (decide (i1 < (l.length : Int))) (cond (decide ((0 : Int) ≤ i1) && decide (i1 < (l.length : Int))) (cond (hasB (l.getD i1.toNat tA.dflt) p) (cond (decide ((0 : Int) ≤ i1) && decide (i1 < (l.length : Int))) (some (.tup [.int .i64 (l.getD i1.toNat tA.dflt).1, .bool true], [])) none) (LRAta n m (SRAta l p (wr (i1 + 1))))) none) (some (.tup [.int .i64 0, .bool false], [])) := by kernel_rfl
theorem run_rat (l : List Ai) (p : Pt) (hl : l.length < big) : runF Q hn0 tHas (l.length + 1) N.ref07_At [.ro tA l, agP p] [] = some (atR l p, []) := by
  rw [eRAt]
  refine (find_loop (F := fun m i => LRAta (l.length + 1) m (SRAta l p i)) l tA.dflt (hasB · p) (fun a => some (.tup [.int .i64 a.1, .bool true], [])) _ _ none hl (fun i hi => ?_) (fun m i => rRAta l p i _ m) (l.length + 1) 0 (by omega)).trans ?_
  · simp only [dec_lt, dec_nn, Bool.true_and]; rw [cond_dec hi]; simp
  · unfold atR
    rw [List.drop_zero]
    cases l.find? (hasB · p) <;> rfl
def gAt : G
  | [.ro (.pair (.int .i64) (.pair (.pair (.int .i64) (.int .i64)) (.pair (.int .i64) (.int .i64)))) l, .agg [.int .i64 x, .int .i64 y]], [] =>
    some (decide (l.length < big), .tup [.int .i64 (match l.find? (hasB · (x, y)) with | some a => a.1 | none => 0), .bool (match l.find? (hasB · (x, y)) with | some a => true | none => false)], [])
  | _, _ => none
theorem atR_eq (l : List Ai) (p : Pt) : atR l p = .tup [.int .i64 (match l.find? (hasB · p) with | some a => a.1 | none => 0), .bool (match l.find? (hasB · p) with | some a => true | none => false)] := by
  unfold atR; cases l.find? (hasB · p) <;> rfl
theorem gAt_plan (a : List AV) (m : List Slot) (r : Bool × AV × List Slot) (h : gAt a m = some r) (hk : r.1 = true) : Sound Q N.plan_At a m r.2 := by
  unfold gAt at h
  split at h
  · simp only [Option.some.injEq] at h; subst h
    refine sound_of_run tIdxF_ok ((run_at _ (_, _) (of_decide_eq_true hk)).trans ?_)
    rw [atR_eq]
  · simp at h
theorem gAt_ref (a : List AV) (m : List Slot) (r : Bool × AV × List Slot) (h : gAt a m = some r) (hk : r.1 = true) : Sound Q N.ref07_At a m r.2 := by
  unfold gAt at h
  split at h
  · simp only [Option.some.injEq] at h; subst h
    refine sound_of_run tHas_ok ((run_rat _ (_, _) (of_decide_eq_true hk)).trans ?_)
    rw [atR_eq]
  · simp at h
end Pl
end Go.Ab
