/- Ways: which aisles a way goes through, as the document's answer computes it; PlanRoutes. -/
import Derived.Test.YthmebldaalplpaaRoD
import Derived.Test.YthmebldaalplpaaTuB
namespace Go.Ab
set_option linter.unusedVariables false
namespace Mo
open Pl
noncomputable abbrev hn1 : Hints := ⟨fun f => f == N.ref07_put⟩
/-! ### put -/
abbrev SPuta (l : List Int) (x : Int) (b1 : Bool) (i2 : Int) (l3 : List Int) : St := ⟨.tail 0 0 :: .int .i64 x :: J :: J :: J :: .tail 1 0 :: .bool b1 :: .int .i64 i2 :: js 40, [.obj (.rows tI l), .obj (.rows tI l3)]⟩
noncomputable abbrev LPuta (n z : Nat) (s : St) : Ans := loopF Q hn1 noCall n N.ref07_put 1 [1, 1, 1, 0, 1, 0] [] z s
theorem ePut (l : List Int) (x : Int) (n : Nat) : runF Q hn1 noCall n N.ref07_put [.tail 0 0, .int .i64 x] [.obj (.rows tI l)] = LPuta n n (SPuta l x false 0 []) := by kernel_rfl
abbrev inI (l : List Int) (i : Int) : Bool := decide ((0 : Int) ≤ i) && decide (i < (l.length : Int))
noncomputable abbrev keepP (l : List Int) (x : Int) (b : Bool) (i : Int) (l3 : List Int) (n m : Nat) : Ans :=
  cond (inI l i) (cond (l.getD (0 + i.toNat) 0 != x) (cond (inI l i) (cond (decide (l3.length + 1 ≤ most)) (LPuta n m (SPuta l x b (wr (i + 1)) (l3 ++ [l.getD (0 + i.toNat) 0]))) none) none) (LPuta n m (SPuta l x b (wr (i + 1)) l3))) none
theorem rPuta (l : List Int) (x : Int) (b1 : Bool) (i2 : Int) (l3 : List Int) (n m : Nat) : LPuta n (m + 1) (SPuta l x b1 i2 l3) =
  cond (decide (i2 < (l.length : Int))) (cond (!b1) (cond (inI l i2) (cond (decide (x ≤ l.getD (0 + i2.toNat) 0)) (cond (decide (l3.length + 1 ≤ most)) (keepP l x true i2 (l3 ++ [x]) n m) none) (keepP l x b1 i2 l3 n m)) none) (keepP l x b1 i2 l3 n m))
   (cond (!b1) (cond (decide (l3.length + 1 ≤ most)) (some (.tail 1 0, [.obj (.rows tI l), .obj (.rows tI (l3 ++ [x]))])) none) (some (.tail 1 0, [.obj (.rows tI l), .obj (.rows tI l3)]))) := by kernel_rfl

theorem put_loop (l : List Int) (x : Int) (n : Nat) (hl : l.length < 1000000) : ∀ (m i : Nat) (b : Bool) (l3 : List Int), i ≤ l.length → l.length - i < m → l3.length ≤ 2 * i →
    LPuta n m (SPuta l x b i l3) = some (.tail 1 0, [.obj (.rows tI l), .obj (.rows tI (l3 ++ Is.ins x b (l.drop i)))]) := by
  intro m
  induction m with
  | zero => intro i b l3 h; omega
  | succ m ih =>
    intro i b l3 hi' hm h3
    rw [rPuta, dec_lt]
    by_cases hi : i < l.length
    · have e1 : inI l (i : Int) = true := by unfold inI; rw [dec_nn, dec_lt, decide_eq_true hi]; rfl
      have e2 : wr ((i : Int) + 1) = ((i + 1 : Nat) : Int) := wrN (by omega)
      have hk : ∀ (b : Bool) (l3 : List Int), l3.length ≤ 2 * i + 1 → keepP l x b i l3 n m = some (.tail 1 0, [.obj (.rows tI l), .obj (.rows tI (l3 ++ ((if l.getD i 0 = x then [] else [l.getD i 0]) ++ Is.ins x b (l.drop (i + 1)))))]) := fun b l3 h4 => by
        unfold keepP
        rw [e1, e2, Int.toNat_natCast, Nat.zero_add, cond_true, cond_true, cond_dec (p := l3.length + 1 ≤ most) (by unfold most; omega)]
        by_cases hx : l.getD i 0 = x
        · have : (l.getD i 0 != x) = false := by simpa using hx
          rw [this, cond_false, if_pos hx, List.nil_append]
          exact ih (i + 1) b l3 (by omega) (by omega) (by omega)
        · have : (l.getD i 0 != x) = true := by simpa using hx
          rw [this, cond_true, if_neg hx, ← List.append_assoc]
          exact ih (i + 1) b (l3 ++ [l.getD i 0]) (by omega) (by omega) (by rw [List.length_append, List.length_singleton]; omega)
      rw [cond_dec hi, e1, Int.toNat_natCast, Nat.zero_add, cond_true, cond_dec (p := l3.length + 1 ≤ most) (by unfold most; omega), getD_drop (d := 0) hi, hk b l3 (by omega), hk true (l3 ++ [x]) (by rw [List.length_append, List.length_singleton]; omega)]
      cases b
      · rw [Bool.not_false, cond_true, Is.ins]
        by_cases hx : x ≤ l.getD i 0
        · rw [cond_dec hx, if_pos hx, List.append_assoc]; rfl
        · rw [cond_dec' hx, if_neg hx]
      · rw [Bool.not_true, cond_false, Is.ins]
    · rw [cond_dec' hi, List.drop_eq_nil_of_le (by omega), cond_dec (p := l3.length + 1 ≤ most) (by unfold most; omega)]
      cases b <;> simp [Is.ins]
def gPut : G
  | [.tail 0 0, .int .i64 x], [.obj (.rows (.int .i64) l)] => some (decide (l.length < 1000000), .tail 1 0, [.obj (.rows tI l), .obj (.rows tI (Is.ins x false l))])
  | _, _ => none
theorem gPut_ok (a : List AV) (m : List Slot) (r : Bool × AV × List Slot) (h : gPut a m = some r) (hk : r.1 = true) : Sound Q N.ref07_put a m r.2 := by
  unfold gPut at h
  split at h
  · simp only [Option.some.injEq] at h; subst h
    rename_i x l
    have hl : List.length l < 1000000 := of_decide_eq_true hk
    refine sound_of_run (hn := hn1) noCall_ok (n := l.length + 1) ?_
    rw [ePut]
    have := put_loop l x (l.length + 1) hl (l.length + 1) 0 false [] (by omega) (by omega) (by simp)
    rw [show ((0 : Nat) : Int) = 0 from rfl, List.drop_zero, List.nil_append] at this
    exact this
  · simp at h

/-! ### Cross -/
noncomputable def tRC : Callf := addT N.ref07_Route gRoute (addT N.ref07_Has gHas (addT N.ref07_put gPut noCall))
theorem tRC_ok : CallOK Q tRC := addT_ok (addT_ok (addT_ok noCall_ok gPut_ok) gHas_has) gRoute_ref
abbrev SRCa (l : List Ai) (w : List Pt) (i3 : Int) (l5 : List Int) : St := ⟨.ro tA l :: J :: J :: J :: J :: J :: J :: J :: J :: .ro tP w :: .tail 0 0 :: .int .i64 i3 :: js 40, [.obj (.rows tI l5)]⟩
noncomputable abbrev LRCa (n z : Nat) (s : St) : Ans := loopF Q hn1 tRC n N.ref07_Cross 0 [1, 1, 1, 0, 1, 0] [] z s
abbrev SRCb (l : List Ai) (w : List Pt) (b1 : Bool) (i2 : Int) (i4 : Int) (l6 : List Int) : St := ⟨.ro tA l :: J :: J :: J :: J :: J :: J :: J :: J :: .ro tP w :: .tail 0 0 :: .int .i64 i4 :: .bool b1 :: .int .i64 i2 :: js 38, [.obj (.rows tI l6)]⟩
noncomputable abbrev LRCb (n m z : Nat) (s : St) : Ans := loopF Q hn1 tRC n N.ref07_Cross 0 [1, 1, 1, 0, 1, 0, 0, 1, 0, 0, 1, 0, 1, 0] [m] z s
theorem eRC (l : List Ai) (p q : Pt) (how : Int) (n : Nat) : runF Q hn1 tRC n N.ref07_Cross [.ro tA l, agP p, agP q, .int .i64 how] [] = LRCa n n (SRCa l (routeL p q how) 0 []) := by kernel_rfl
theorem rRCa (l : List Ai) (w : List Pt) (i3 : Int) (l5 : List Int) (n m : Nat) : LRCa n (m + 1) (SRCa l w i3 l5) =
  cond (decide (i3 < (l.length : Int))) (LRCb n m n (SRCb l w false 0 i3 l5)) (some (.tail 0 0, [.obj (.rows tI l5)])) := by kernel_rfl
noncomputable abbrev nextRC (l : List Ai) (w : List Pt) (b1 : Bool) (i4 : Int) (l6 : List Int) (n m : Nat) : Ans :=
  cond b1 (cond (decide ((0 : Int) ≤ i4) && decide (i4 < (l.length : Int))) (cond (decide (l6.length < 1000000)) (LRCa n m (SRCa l w (wr (i4 + 1)) (Is.ins (l.getD i4.toNat tA.dflt).1 false l6))) none) none) (LRCa n m (SRCa l w (wr (i4 + 1)) l6))
theorem rRCb (l : List Ai) (w : List Pt) (b1 : Bool) (i2 : Int) (i4 : Int) (l6 : List Int) (n m m1 : Nat) : LRCb n m (m1 + 1) (SRCb l w b1 i2 i4 l6) =
  cond (decide (i2 < (w.length : Int))) (cond (!b1) (cond (decide ((0 : Int) ≤ i4) && decide (i4 < (l.length : Int))) (cond (decide ((0 : Int) ≤ i2) && decide (i2 < (w.length : Int))) (LRCb n m m1 (SRCb l w (hasB (l.getD i4.toNat tA.dflt) (w.getD i2.toNat Dp)) (wr (i2 + 1)) i4 l6)) none) none) (nextRC l w b1 i4 l6 n m)) (nextRC l w b1 i4 l6 n m) := by kernel_rfl

theorem rc_in (l : List Ai) (w : List Pt) (l6 : List Int) (n m i : Nat) (hi : i < l.length) (hl : l.length < 1000000) (hw : w.length < 100000) : ∀ (m1 k : Nat) (b : Bool), k ≤ w.length → w.length - k < m1 →
    LRCb n m m1 (SRCb l w b k i l6) = nextRC l w (b || (w.drop k).any (hasB (l.getD i tA.dflt))) i l6 n m := by
  intro m1
  induction m1 with
  | zero => intro k b h h'; omega
  | succ m1 ih =>
    intro k b hk hm
    rw [rRCb, dec_lt, dec_lt, dec_nn, dec_nn, Bool.true_and, Bool.true_and, decide_eq_true hi, cond_true]
    by_cases h : k < w.length
    · rw [cond_dec h, cond_dec h, Int.toNat_natCast, Int.toNat_natCast, Go.Ab.wrN (by omega), ih (k + 1) _ (by omega) (by omega), getD_drop (d := Dp) h, List.any_cons]
      cases b
      · rw [Bool.not_false, cond_true, Bool.false_or]
      · rw [Bool.not_true, cond_false, Bool.true_or]
    · rw [cond_dec' h, List.drop_eq_nil_of_le (by omega), List.any_nil, Bool.or_false]

theorem rc_loop (l : List Ai) (w : List Pt) (n : Nat) (hl : l.length < 1000000) (hw : w.length < 100000) (hn : w.length < n) : ∀ (m i : Nat) (l5 : List Int), i ≤ l.length → l.length - i < m → l5.length ≤ i →
    LRCa n m (SRCa l w i l5) = some (.tail 0 0, [.obj (.rows tI ((((l.drop i).filter fun a => w.any (hasB a)).map (·.1)).foldl (fun o x => Is.ins x false o) l5))]) := by
  intro m
  induction m with
  | zero => intro i l5 h h'; omega
  | succ m ih =>
    intro i l5 hi' hm h5
    rw [rRCa, dec_lt]
    by_cases hi : i < l.length
    · have hin := rc_in l w l5 n m i hi hl hw n 0 false (by omega) (by omega)
      rw [show ((0 : Nat) : Int) = 0 from rfl, List.drop_zero, Bool.false_or] at hin
      rw [cond_dec hi, hin]
      unfold nextRC
      have := Is.ins_len (l.getD i tA.dflt).1 false l5
      rw [dec_nn, dec_lt, Bool.true_and, cond_dec (p := i < l.length) hi, cond_dec (p := l5.length < 1000000) (by omega), Int.toNat_natCast, Go.Ab.wrN (by omega), ih (i + 1) _ (by omega) (by omega) (by omega), ih (i + 1) _ (by omega) (by omega) (by omega), getD_drop (d := tA.dflt) hi, List.filter_cons]
      cases w.any (hasB (l.getD i tA.dflt))
      · simp only [cond_false, Bool.false_eq_true, if_false]
      · simp only [cond_true, if_true, List.map_cons, List.foldl_cons]
    · rw [cond_dec' hi, List.drop_eq_nil_of_le (by omega)]; rfl
end Mo
end Go.Ab
