/- Plans: whether aisles are a plan, as the document's answer computes it, off its code. -/
import Derived.Test.YtmclfehlflekhaaPA
import Derived.Test.YtmclfehlflekhaaIsD
namespace Go.Ab
set_option linter.unusedVariables false
namespace Pl
noncomputable def tRRight : Callf := addT N.ref03_Small gSmall (addT N.ref07_Meet gMeet noCall)
theorem tRRight_ok : CallOK Q tRRight := addT_ok (addT_ok noCall_ok gMeet_ref) gSmall_ok
abbrev SRRighta (l : List Ai) (i1 : Int) : St := ⟨.ro tA l :: J :: J :: .int .i64 (i1) :: js 79, []⟩
noncomputable abbrev LRRighta (n z : Nat) (s : St) : Ans := loopF Q hn0 tRRight n N.ref07_Right 0 [1, 1, 0, 1, 0] [] z s
abbrev SRRightb (l : List Ai) (i2 : Int) (a : Ai) (i8 : Int) : St := ⟨.ro tA l :: J :: J :: .int .i64 (i2) :: .ptr 0 0 :: .int .i64 (i8) :: js 77, [bxA a]⟩
noncomputable abbrev LRRightb (n m z : Nat) (s : St) : Ans := loopF Q hn0 tRRight n N.ref07_Right 0 [1, 1, 0, 1, 0, 0, 1, 0, 0, 1, 1, 1, 0] [m] z s
theorem eRRight (l : List Ai) (n : Nat) : runF Q hn0 tRRight n N.ref07_Right [.ro tA l] [] =
  cond (decide ((l.length : Int) > (32 : Int))) (some (.bool false, [])) (LRRighta n n (SRRighta l (0 : Int))) := by kernel_rfl
theorem rRRighta (l : List Ai) (i1 : Int) (n m : Nat) : LRRighta n (m + 1) (SRRighta l i1) =
  cond (decide (i1 < (l.length : Int))) (cond (decide ((0 : Int) ≤ i1) && decide (i1 < (l.length : Int))) (cond (decide ((l.getD i1.toNat tA.dflt).1 < (1 : Int))) (some (.bool false, [])) (cond (decide ((l.getD i1.toNat tA.dflt).1 > (999 : Int))) (some (.bool false, [])) (cond (decide (i1 > (0 : Int))) (cond (decide ((0 : Int) ≤ wr (i1 - (1 : Int))) && decide (wr (i1 - (1 : Int)) < (l.length : Int))) (cond (decide ((l.getD i1.toNat tA.dflt).1 ≤ (l.getD (wr (i1 - (1 : Int))).toNat tA.dflt).1)) (some (.bool false, [])) (cond (!smallB (l.getD i1.toNat tA.dflt).2.1 (1000 : Int)) (some (.bool false, [])) (cond (!smallB (l.getD i1.toNat tA.dflt).2.2 (1000 : Int)) (some (.bool false, [])) (cond (decide ((l.getD i1.toNat tA.dflt).2.1.1 > (l.getD i1.toNat tA.dflt).2.2.1)) (some (.bool false, [])) (cond (decide ((l.getD i1.toNat tA.dflt).2.1.2 > (l.getD i1.toNat tA.dflt).2.2.2)) (some (.bool false, [])) (LRRightb n m n (SRRightb l i1 (l.getD i1.toNat tA.dflt) (0 : Int)))))))) none) (cond (!smallB (l.getD i1.toNat tA.dflt).2.1 (1000 : Int)) (some (.bool false, [])) (cond (!smallB (l.getD i1.toNat tA.dflt).2.2 (1000 : Int)) (some (.bool false, [])) (cond (decide ((l.getD i1.toNat tA.dflt).2.1.1 > (l.getD i1.toNat tA.dflt).2.2.1)) (some (.bool false, [])) (cond (decide ((l.getD i1.toNat tA.dflt).2.1.2 > (l.getD i1.toNat tA.dflt).2.2.2)) (some (.bool false, [])) (LRRightb n m n (SRRightb l i1 (l.getD i1.toNat tA.dflt) (0 : Int)))))))))) none) (some (.bool true, [])) := by kernel_rfl
theorem rRRightb (l : List Ai) (i2 : Int) (a : Ai) (i8 : Int) (n m m1 : Nat) : LRRightb n m (m1 + 1) (SRRightb l i2 a i8) =
  cond (decide (i8 < i2)) (cond (decide ((0 : Int) ≤ i8) && decide (i8 < (l.length : Int))) (cond (meetB (l.getD i8.toNat tA.dflt) a) (some (.bool false, [])) (LRRightb n m m1 (SRRightb l i2 a (wr (i8 + (1 : Int)))))) none) (LRRighta n m (SRRighta l (wr (i2 + (1 : Int))))) := by kernel_rfl

theorem meet_comm (a b : Ai) : meetB a b = meetB b a := by
  unfold meetB
  rw [Bool.eq_iff_iff]; simp only [decide_eq_true_eq]; omega

theorem rright_in (l : List Ai) (a : Ai) (n m : Nat) (hl : l.length < big) (i : Nat) (hi : i ≤ l.length) : ∀ (m1 k : Nat), k ≤ i → i - k < m1 →
    LRRightb n m m1 (SRRightb l i a k) = cond (((l.take i).drop k).any (meetB a)) (some (.bool false, [])) (LRRighta n m (SRRighta l ((i + 1 : Nat) : Int))) := by
  intro m1
  induction m1 with
  | zero => intro k h h'; omega
  | succ m1 ih =>
    intro k hk hm
    unfold big at hl
    rw [rRRightb, dec_lt, dec_lt, dec_nn, Bool.true_and]
    by_cases h : k < i
    · have h2 : k < (l.take i).length := by simp; omega
      rw [cond_dec h, cond_dec (p := k < l.length) (by omega), Int.toNat_natCast, wrN (by omega), ih (k + 1) (by omega) (by omega), getD_drop (d := tA.dflt) h2, List.any_cons, meet_comm]
      have e : (l.take i).getD k tA.dflt = l.getD k tA.dflt := by simp [List.getD, h]
      rw [e]
      cases meetB a (l.getD k tA.dflt) <;> simp only [Bool.true_or, Bool.false_or, cond_true, cond_false]
    · rw [cond_dec' h, wrN (by omega), List.drop_eq_nil_of_le (by simp; omega), List.any_nil, cond_false]

def lastOf (l : List Ai) (i : Nat) : Int := if i = 0 then 0 else (l.getD (i - 1) tA.dflt).1

theorem rright_loop (l : List Ai) (n : Nat) (hl : l.length < big) (hn : l.length < n) : ∀ (m i : Nat), i ≤ l.length → l.length - i < m → 0 ≤ lastOf l i → LRRighta n m (SRRighta l i) = some (.bool (okFrom (l.take i) (lastOf l i) (l.drop i)), []) := by
  intro m
  induction m with
  | zero => intro i h h'; omega
  | succ m ih =>
    intro i hi' hm h0
    rw [rRRighta]
    by_cases hi : i < l.length
    · have hin := rright_in l (l.getD i tA.dflt) n m hl i hi' n 0 (by omega) (by omega)
      rw [show ((0 : Nat) : Int) = 0 from rfl, List.drop_zero] at hin
      rw [dec_lt, dec_nn, Bool.true_and, cond_dec hi, cond_dec hi, Int.toNat_natCast, hin, getD_drop (d := tA.dflt) hi, okFrom]
      have e5 : List.take i l ++ [l.getD i tA.dflt] = List.take (i + 1) l := by rw [List.take_succ_eq_append_getElem hi, ← getD_lt (d := tA.dflt) hi]
      rw [e5]
      have e6 : lastOf l (i + 1) = (l.getD i tA.dflt).1 := by simp [lastOf]
      have key : ∀ rest : Ans, (cond (decide ((l.getD i tA.dflt).1 ≤ lastOf l i)) (some (.bool false, [])) rest) =
          cond (decide ((i : Int) > (0 : Int))) (cond (decide ((0 : Int) ≤ wr ((i : Int) - (1 : Int))) && decide (wr ((i : Int) - (1 : Int)) < (l.length : Int))) (cond (decide ((l.getD i tA.dflt).1 ≤ (l.getD (wr ((i : Int) - (1 : Int))).toNat tA.dflt).1)) (some (.bool false, [])) rest) none) rest ∨ (l.getD i tA.dflt).1 < 1 := fun rest => by
        by_cases c0 : (l.getD i tA.dflt).1 < 1
        · exact .inr c0
        left
        cases i with
        | zero => rw [cond_dec' (p := ((0 : Nat) : Int) > 0) (by omega), cond_dec' (by simp [lastOf] at *; omega)]
        | succ i =>
          rw [cond_dec (p := ((i + 1 : Nat) : Int) > 0) (by omega), wrP (by unfold big at hl; omega), dec_nn, dec_lt, Bool.true_and, cond_dec (p := i < l.length) (by omega), Int.toNat_natCast]
          simp [lastOf]
      generalize hX : cond (!smallB (l.getD i tA.dflt).2.1 (1000 : Int)) (some (AV.bool false, ([] : List Slot))) (cond (!smallB (l.getD i tA.dflt).2.2 (1000 : Int)) (some (.bool false, [])) (cond (decide ((l.getD i tA.dflt).2.1.1 > (l.getD i tA.dflt).2.2.1)) (some (.bool false, [])) (cond (decide ((l.getD i tA.dflt).2.1.2 > (l.getD i tA.dflt).2.2.2)) (some (.bool false, [])) (cond ((l.take i).any (meetB (l.getD i tA.dflt))) (some (.bool false, [])) (LRRighta n m (SRRighta l ((i + 1 : Nat) : Int))))))) = X
      by_cases c1 : (l.getD i tA.dflt).1 < 1
      · rw [cond_dec c1]
        have : okA (List.take i l) (lastOf l i) (l.getD i tA.dflt) = false := by
          unfold okA; rw [decide_eq_false (by omega)]; rfl
        rw [this]; rfl
      · rw [cond_dec' c1]
        by_cases c2 : (l.getD i tA.dflt).1 > 999
        · rw [cond_dec c2]
          have : okA (List.take i l) (lastOf l i) (l.getD i tA.dflt) = false := by
            unfold okA; rw [decide_eq_false (by omega)]; rfl
          rw [this]; rfl
        · rw [cond_dec' c2]
          have hk := (key X).resolve_right c1
          rw [← hk]
          by_cases c3 : (l.getD i tA.dflt).1 ≤ lastOf l i
          · rw [cond_dec c3]
            have : okA (List.take i l) (lastOf l i) (l.getD i tA.dflt) = false := by
              unfold okA; rw [decide_eq_false (by omega)]; rfl
            rw [this]; rfl
          · rw [cond_dec' c3, ← hX, ih (i + 1) (by omega) (by omega) (by rw [e6]; omega), e6, small_wide, small_wide]
            have e7 : okA (List.take i l) (lastOf l i) (l.getD i tA.dflt) = (wideB (l.getD i tA.dflt).2.1 && (wideB (l.getD i tA.dflt).2.2 && (decide ((l.getD i tA.dflt).2.1.1 ≤ (l.getD i tA.dflt).2.2.1 ∧ (l.getD i tA.dflt).2.1.2 ≤ (l.getD i tA.dflt).2.2.2) && !((List.take i l).any (meetB (l.getD i tA.dflt)))))) := by
              unfold okA; rw [decide_eq_true (by omega)]; rfl
            rw [e7]
            generalize l.getD i tA.dflt = a
            by_cases d1 : a.2.1.1 > a.2.2.1
            · rw [cond_dec d1, decide_eq_false (p := a.2.1.1 ≤ a.2.2.1 ∧ a.2.1.2 ≤ a.2.2.2) (by omega)]
              cases wideB a.2.1 <;> cases wideB a.2.2 <;> rfl
            · rw [cond_dec' d1]
              by_cases d2 : a.2.1.2 > a.2.2.2
              · rw [cond_dec d2, decide_eq_false (p := a.2.1.1 ≤ a.2.2.1 ∧ a.2.1.2 ≤ a.2.2.2) (by omega)]
                cases wideB a.2.1 <;> cases wideB a.2.2 <;> rfl
              · rw [cond_dec' d2, decide_eq_true (p := a.2.1.1 ≤ a.2.2.1 ∧ a.2.1.2 ≤ a.2.2.2) (by omega)]
                cases wideB a.2.1 <;> cases wideB a.2.2 <;> cases (List.take i l).any (meetB a) <;> rfl
    · rw [dec_lt, cond_dec' hi, List.drop_eq_nil_of_le (by omega)]; rfl

theorem run_rright (l : List Ai) : runF Q hn0 tRRight (l.length + 1) N.ref07_Right [.ro tA l] [] = some (.bool (rightB l), []) := by
  rw [eRRight]
  by_cases hl : l.length < big
  case neg =>
    have h : ¬ l.length ≤ 32 := by unfold big at hl; omega
    rw [cond_dec (by omega)]
    unfold rightB
    simp [h]
  have := rright_loop l (l.length + 1) hl (by omega) (l.length + 1) 0 (by omega) (by omega) (by simp [lastOf])
  rw [show ((0 : Nat) : Int) = 0 by rfl] at this
  rw [this]
  unfold rightB
  by_cases h : l.length ≤ 32
  · rw [cond_dec' (by omega)]; simp [h, lastOf]
  · rw [cond_dec (by omega)]; simp [h]
theorem gRight_ref (a : List AV) (m : List Slot) (r : Bool × AV × List Slot) (h : gRight a m = some r) (hk : r.1 = true) : Sound Q N.ref07_Right a m r.2 := by
  unfold gRight at h
  split at h
  · simp only [Option.some.injEq] at h; subst h; exact sound_of_run tRRight_ok (run_rright _)
  · simp at h
end Pl
end Go.Ab

/- Plans: which aisles a way goes through, as the program computes it, off its code. -/
namespace Go.Ab
set_option linter.unusedVariables false
namespace Pl
/-- A way's corner. -/
def cornerX (how : Int) (a b : Pt) : Int := cond (how == 1) a.1 b.1
def cornerY (how : Int) (a b : Pt) : Int := cond (how == 1) b.2 a.2
def gLegs : G
  | [.agg [.int .i64 a, .int .i64 b], .agg [.int .i64 c, .int .i64 d], .int .i64 how], [] =>
    some (true, .tup [.agg [.int .i64 (clipI a), .int .i64 (clipI b)], .agg [.int .i64 (cornerX how (nearP (a, b)) (nearP (c, d))), .int .i64 (cornerY how (nearP (a, b)) (nearP (c, d)))], .agg [.int .i64 (clipI c), .int .i64 (clipI d)]], [])
  | _, _ => none
theorem eLegs (p q : Pt) (how : Int) (n : Nat) : runF Q hn0 tNear n N.plan_legs [agP p, agP q, .int .i64 how] [] =
  cond (how == (1 : Int)) (some (.tup [agP (nearP p), .agg [.int .i64 (clipI p.1), .int .i64 (clipI q.2)], agP (nearP q)], [])) (some (.tup [agP (nearP p), .agg [.int .i64 (clipI q.1), .int .i64 (clipI p.2)], agP (nearP q)], [])) := by kernel_rfl
theorem gLegs_ok (a : List AV) (m : List Slot) (r : Bool × AV × List Slot) (h : gLegs a m = some r) (hk : r.1 = true) : Sound Q N.plan_legs a m r.2 := by
  unfold gLegs at h
  split at h
  · simp only [Option.some.injEq] at h; subst h
    rename_i a b c d how
    refine sound_of_run (hn := hn0) tNear_ok (n := 0) ((eLegs (a, b) (c, d) how 0).trans ?_)
    unfold cornerX cornerY
    cases how == 1 <;> rfl
  · simp at h
/-- All points between two. -/
def blockA (p q : Pt) : Ai := (0, (min p.1 q.1, min p.2 q.2), (max p.1 q.1, max p.2 q.2))
def gBlock : G
  | [.agg [.int .i64 a, .int .i64 b], .agg [.int .i64 c, .int .i64 d]], [] => some (true, .agg [.int .i64 0, .int .i64 (min a c), .int .i64 (min b d), .int .i64 (max a c), .int .i64 (max b d)], [])
  | _, _ => none
theorem eBlock (p q : Pt) (n : Nat) : runF Q hn0 noCall n N.plan_block [agP p, agP q] [] =
  some (.agg [.int .i64 0, .int .i64 (if q.1 < p.1 then q.1 else p.1), .int .i64 (if q.2 < p.2 then q.2 else p.2), .int .i64 (if q.1 > p.1 then q.1 else p.1), .int .i64 (if q.2 > p.2 then q.2 else p.2)], []) := by kernel_rfl
theorem gBlock_ok (a : List AV) (m : List Slot) (r : Bool × AV × List Slot) (h : gBlock a m = some r) (hk : r.1 = true) : Sound Q N.plan_block a m r.2 := by
  unfold gBlock at h
  split at h
  · simp only [Option.some.injEq] at h; subst h
    rename_i a b c d
    refine sound_of_run (hn := hn0) noCall_ok (n := 0) ((eBlock (a, b) (c, d) 0).trans ?_)
    have h1 : ∀ x y : Int, (if y < x then y else x) = min x y := fun x y => by split <;> omega
    have h2 : ∀ x y : Int, (if y > x then y else x) = max x y := fun x y => by split <;> omega
    simp only [h1, h2]
  · simp at h
/-- Does a way go through an aisle, as its two legs tell? -/
def onLegs (p q : Pt) (how : Int) (x : Ai) : Bool :=
  meetB x (blockA (nearP p) (cornerX how (nearP p) (nearP q), cornerY how (nearP p) (nearP q))) || meetB x (blockA (cornerX how (nearP p) (nearP q), cornerY how (nearP p) (nearP q)) (nearP q))
def crossL (l : List Ai) (p q : Pt) (how : Int) : List Int := Is.refSet ((l.filter (onLegs p q how)).map (·.1))

noncomputable def tCross : Callf := addT N.plan_legs gLegs (addT N.plan_block gBlock (addT N.plan_Meet gMeet (addT N.slices_Sort_int Is.g67 (addT N.slices_Compact_int Is.g68 noCall))))
theorem tCross_ok : CallOK Q tCross := addT_ok (addT_ok (addT_ok (addT_ok (addT_ok noCall_ok Is.g68_ok) Is.g67_ok) gMeet_plan) gBlock_ok) gLegs_ok
abbrev SCrossa (l : List Ai) (one two : Ai) (i1 : Int) (l2 : List Int) : St := ⟨J :: J :: J :: J :: J :: J :: J :: J :: J :: J :: J :: J :: .ptr 0 0 :: .ptr 1 0 :: .tail 2 0 :: J :: J :: J :: J :: J :: J :: J :: J :: J :: J :: J :: J :: J :: J :: J :: J :: .ro tA l :: .int .i64 (l.length : Int) :: .int .i64 i1 :: js 21, [bxA one, bxA two, .obj (.rows tI l2)]⟩
noncomputable abbrev LCrossa (n z : Nat) (s : St) : Ans := loopF Q hn0 tCross n N.plan_Cross 0 [1, 1, 1, 1, 0, 1, 0] [] z s
theorem eCross (l : List Ai) (p q : Pt) (how : Int) (n : Nat) : runF Q hn0 tCross n N.plan_Cross [.ro tA l, agP p, agP q, .int .i64 how] [] =
  LCrossa n n (SCrossa l (blockA (nearP p) (cornerX how (nearP p) (nearP q), cornerY how (nearP p) (nearP q))) (blockA (cornerX how (nearP p) (nearP q), cornerY how (nearP p) (nearP q)) (nearP q)) 0 []) := by kernel_rfl
theorem rCrossa (l : List Ai) (one two : Ai) (i1 : Int) (l2 : List Int) (n m : Nat) : LCrossa n (m + 1) (SCrossa l one two i1 l2) =
  cond (decide (i1 < (l.length : Int))) (cond (decide ((0 : Int) ≤ i1) && decide (i1 < (l.length : Int))) (cond (meetB (l.getD i1.toNat tA.dflt) one) (cond (decide (l2.length + 1 ≤ most)) (LCrossa n m (SCrossa l one two (wr (i1 + (1 : Int))) (l2 ++ [(l.getD i1.toNat tA.dflt).1]))) none) (cond (meetB (l.getD i1.toNat tA.dflt) two) (cond (decide (l2.length + 1 ≤ most)) (LCrossa n m (SCrossa l one two (wr (i1 + (1 : Int))) (l2 ++ [(l.getD i1.toNat tA.dflt).1]))) none) (LCrossa n m (SCrossa l one two (wr (i1 + (1 : Int))) l2)))) none) (cond (decide (l2.length < Is.big)) (cond (decide ((l2.mergeSort fun x y => decide (x ≤ y)).length < Is.big)) (some (.tail 0 0, [.obj (.rows tI (Lib.compact (l2.mergeSort fun x y => decide (x ≤ y))))])) none) none) := by kernel_rfl

theorem cross_loop (l : List Ai) (one two : Ai) (n : Nat) (hl : l.length < 1000000) : ∀ (m i : Nat) (l2 : List Int), i ≤ l.length → l.length - i < m → l2.length ≤ i →
    LCrossa n m (SCrossa l one two i l2) = some (.tail 0 0, [.obj (.rows tI (Is.refSet (l2 ++ ((l.drop i).filter fun x => meetB x one || meetB x two).map (·.1))))]) := by
  intro m
  induction m with
  | zero => intro i l2 h; omega
  | succ m ih =>
    intro i l2 hi' hm h2
    rw [rCrossa, dec_lt, dec_nn, Bool.true_and]
    by_cases hi : i < l.length
    · have hmost : decide (l2.length + 1 ≤ most) = true := decide_eq_true (by unfold most; omega)
      rw [cond_dec hi, cond_dec hi, Int.toNat_natCast, wrN (by omega), hmost, cond_true, ih (i + 1) _ (by omega) (by omega) (by simp; omega), ih (i + 1) _ (by omega) (by omega) (by omega), getD_drop (d := tA.dflt) hi, List.filter_cons]
      cases meetB (l.getD i tA.dflt) one <;> cases meetB (l.getD i tA.dflt) two <;> simp only [cond_true, cond_false, if_true, List.map_cons, List.append_assoc, List.singleton_append, Bool.or_true, Bool.or_false, Bool.false_eq_true, if_false]
    · rw [cond_dec' hi, cond_dec (by unfold Is.big; omega), cond_dec (by rw [List.length_mergeSort]; unfold Is.big; omega), Is.compact_sort, List.drop_eq_nil_of_le (by omega)]
      simp only [List.filter_nil, List.map_nil, List.append_nil]

theorem run_cross (l : List Ai) (p q : Pt) (how : Int) (hl : l.length < 1000000) : runF Q hn0 tCross (l.length + 1) N.plan_Cross [.ro tA l, agP p, agP q, .int .i64 how] [] = some (.tail 0 0, [.obj (.rows tI (crossL l p q how))]) := by
  rw [eCross]
  have := cross_loop l (blockA (nearP p) (cornerX how (nearP p) (nearP q), cornerY how (nearP p) (nearP q))) (blockA (cornerX how (nearP p) (nearP q), cornerY how (nearP p) (nearP q)) (nearP q)) (l.length + 1) hl (l.length + 1) 0 [] (by omega) (by omega) (by simp)
  rw [show ((0 : Nat) : Int) = 0 from rfl, List.drop_zero, List.nil_append] at this
  exact this
def gCross : G
  | [.ro (.pair (.int .i64) (.pair (.pair (.int .i64) (.int .i64)) (.pair (.int .i64) (.int .i64)))) l, .agg [.int .i64 a, .int .i64 b], .agg [.int .i64 c, .int .i64 d], .int .i64 how], [] =>
    some (decide (l.length < 1000000), .ro tI (crossL l (a, b) (c, d) how), [])
  | _, _ => none
theorem gCross_plan (a : List AV) (m : List Slot) (r : Bool × AV × List Slot) (h : gCross a m = some r) (hk : r.1 = true) : Sound Q N.plan_Cross a m r.2 := by
  unfold gCross at h
  split at h
  · simp only [Option.some.injEq] at h; subst h; exact Sound.ro (sound_of_run tCross_ok (run_cross _ (_, _) (_, _) _ (of_decide_eq_true hk)))
  · simp at h
end Pl
end Go.Ab

/- Plans: what must come at any rate; PlanTells. -/
namespace Go.Ab
set_option linter.unusedVariables false
namespace Pl
noncomputable def tAlive : Callf := addT N.plan_Right gRight (addT N.plan_At gAt (addT N.plan_Cross gCross (addT N.ref01_Ints Is.g14 noCall)))
theorem tAlive_ok : CallOK Q tAlive := addT_ok (addT_ok (addT_ok (addT_ok noCall_ok Is.g14_ok) gCross_plan) gAt_plan) gRight_plan
def gAlive : G
  | [], [] => some (true, .bool true, [])
  | _, _ => none
end Pl
end Go.Ab
