/- Ways: the document's way, off its code. -/
import Derived.Test.YtmclfehlflekhaaRA
import Derived.Test.YtmclfehlflekhaaTA
namespace Go.Ab
set_option linter.unusedVariables false
namespace Mo
open Pl
def towI (x y : Int) : Int := if x < y then x + 1 else if x > y then x - 1 else x
theorem eTow (x y : Int) (n : Nat) : runF Q hn0 noCall n N.ref07_toward [.int .i64 x, .int .i64 y] [] =
  cond (decide (x < y)) (some (.int .i64 (wr (x + 1)), [])) (cond (decide (x > y)) (some (.int .i64 (wr (x - 1)), [])) (some (.int .i64 x, []))) := by kernel_rfl
def gTow : G
  | [.int .i64 x, .int .i64 y], [] => some (decide (-1000000 < x ∧ x < 1000000), .int .i64 (towI x y), [])
  | _, _ => none
theorem gTow_ok (a : List AV) (m : List Slot) (r : Bool × AV × List Slot) (h : gTow a m = some r) (hk : r.1 = true) : Sound Q N.ref07_toward a m r.2 := by
  unfold gTow at h
  split at h
  · simp only [Option.some.injEq] at h; subst h
    rename_i x y
    have hk := of_decide_eq_true hk
    refine sound_of_run (hn := hn0) noCall_ok (n := 0) ((eTow x y 0).trans ?_)
    unfold towI
    by_cases h1 : x < y
    · rw [cond_dec h1, if_pos h1, wr_id (by omega) (by omega)]
    · rw [cond_dec' h1, if_neg h1]
      by_cases h2 : x > y
      · rw [cond_dec h2, if_pos h2, wr_id (by omega) (by omega)]
      · rw [cond_dec' h2, if_neg h2]
  · simp at h
noncomputable def tRR : Callf := addT N.ref07_toward gTow (addT N.ref07_near gNear noCall)
theorem tRR_ok : CallOK Q tRR := addT_ok (addT_ok noCall_ok gNear_ref) gTow_ok
abbrev SRRa (b : Pt) (how : Int) (c : Pt) (l2 : List Pt) : St := ⟨J :: J :: .int .i64 how :: J :: J :: J :: J :: .ptr 0 0 :: .ptr 1 0 :: .tail 2 0 :: js 42, [bxP c, bxP b, .obj (.rows tP l2)]⟩
noncomputable abbrev LRRa (n z : Nat) (s : St) : Ans := loopF Q hn0 tRR n N.ref07_Route 0 [1, 1, 1, 0, 0] [] z s
theorem eRR (p q : Pt) (how : Int) (n : Nat) : runF Q hn0 tRR n N.ref07_Route [agP p, agP q, .int .i64 how] [] = LRRa n n (SRRa (nearP q) how (nearP p) [nearP p]) := by kernel_rfl
noncomputable abbrev xRR (n m : Nat) (b : Pt) (how : Int) (c : Pt) (l2 : List Pt) : Ans := cond (decide (-1000000 < c.1 ∧ c.1 < 1000000)) (cond (decide (l2.length + 1 ≤ most)) (LRRa n m (SRRa b how (towI c.1 b.1, c.2) (l2 ++ [(towI c.1 b.1, c.2)]))) none) none
noncomputable abbrev yRR (n m : Nat) (b : Pt) (how : Int) (c : Pt) (l2 : List Pt) : Ans := cond (decide (-1000000 < c.2 ∧ c.2 < 1000000)) (cond (decide (l2.length + 1 ≤ most)) (LRRa n m (SRRa b how (c.1, towI c.2 b.2) (l2 ++ [(c.1, towI c.2 b.2)]))) none) none
theorem rRRa (b : Pt) (how : Int) (c : Pt) (l2 : List Pt) (n m : Nat) : LRRa n (m + 1) (SRRa b how c l2) =
  cond (!(c.1 == b.1 && (c.2 == b.2 && true))) (cond (c.2 == b.2) (xRR n m b how c l2) (cond (how != (1 : Int)) (cond (c.1 != b.1) (xRR n m b how c l2) (yRR n m b how c l2)) (yRR n m b how c l2))) (some (.tail 0 0, [.obj (.rows tP l2)])) := by kernel_rfl

theorem tow_sgn {x y s : Int} {n : Nat} (hs : s = 1 ∨ s = -1) (h : y = x + ((n + 1 : Nat) : Int) * s) : towI x y = x + s ∧ x ≠ y := by
  unfold towI
  rcases hs with rfl | rfl
  · rw [if_pos (by omega)]; omega
  · rw [if_neg (by omega), if_pos (by omega)]; omega

theorem goX (b : Pt) (how : Int) (N0 m : Nat) (s : Int) : ∀ (n : Nat) (c : Pt) (l : List Pt), (how ≠ 1 ∨ c.2 = b.2) → (n ≠ 0 → s = 1 ∨ s = -1) → b.1 = c.1 + (n : Int) * s → c.1.natAbs + n ≤ 10000 → c.2.natAbs ≤ 10000 → l.length + n < 100000 →
    LRRa N0 (m + n) (SRRa b how c l) = LRRa N0 m (SRRa b how (b.1, c.2) (l ++ seg n (s, 0) c))
  | 0, c, l, h0, hs, hb, h1, h2, hl => by
    have : c = (b.1, c.2) := Prod.ext (by dsimp only; omega) rfl
    rw [← this, seg, List.append_nil, Nat.add_zero]
  | n + 1, c, l, h0, hs, hb, h1, h2, hl => by
    obtain ⟨e1, e2⟩ := tow_sgn (hs (by omega)) hb
    have e3 : (c.1 == b.1 && (c.2 == b.2 && true)) = false := by
      rw [Bool.eq_false_iff]; intro h; simp only [Bool.and_eq_true, beq_iff_eq] at h; exact e2 h.1
    have e4 : (c.1 != b.1) = true := by simpa using e2
    have hs' := hs (by omega)
    have ih := goX b how N0 m s n (addP c (s, 0)) (l ++ [addP c (s, 0)]) (by rcases h0 with h | h; exact .inl h; right; dsimp only; omega) (fun _ => hs') (by
      dsimp only; rcases hs' with rfl | rfl <;> omega) (by dsimp only; omega) (by dsimp only; omega) (by rw [List.length_append, List.length_singleton]; omega)
    have hx : xRR N0 (m + n) b how c l = LRRa N0 m (SRRa b how (b.1, c.2) (l ++ seg (n + 1) (s, 0) c)) := by
      unfold xRR
      have ad : addP c (s, 0) = (towI c.1 b.1, c.2) := by rw [e1]; simp only [addP, Int.add_zero]
      rw [cond_dec (by omega), cond_dec (by unfold most; omega), seg, ad] 
      rw [ad, List.append_assoc] at ih
      exact ih
    rw [show m + (n + 1) = (m + n) + 1 by omega, rRRa, e3, Bool.not_false, cond_true, e4, cond_true, hx]
    rcases h0 with h | h
    · have e5 : (how != (1 : Int)) = true := by simpa using h
      rw [e5, cond_true]; cases c.2 == b.2 <;> simp only [cond_true, cond_false]
    · have e5 : (c.2 == b.2) = true := by simpa using h
      rw [e5, cond_true]

theorem goY (b : Pt) (how : Int) (N0 m : Nat) (s : Int) : ∀ (n : Nat) (c : Pt) (l : List Pt), (how = 1 ∨ c.1 = b.1) → (n ≠ 0 → s = 1 ∨ s = -1) → b.2 = c.2 + (n : Int) * s → c.2.natAbs + n ≤ 10000 → c.1.natAbs ≤ 10000 → l.length + n < 100000 →
    LRRa N0 (m + n) (SRRa b how c l) = LRRa N0 m (SRRa b how (c.1, b.2) (l ++ seg n (0, s) c))
  | 0, c, l, h0, hs, hb, h1, h2, hl => by
    have : c = (c.1, b.2) := Prod.ext rfl (by dsimp only; omega)
    rw [← this, seg, List.append_nil, Nat.add_zero]
  | n + 1, c, l, h0, hs, hb, h1, h2, hl => by
    obtain ⟨e1, e2⟩ := tow_sgn (hs (by omega)) hb
    have e3 : (c.1 == b.1 && (c.2 == b.2 && true)) = false := by
      rw [Bool.eq_false_iff]; intro h; simp only [Bool.and_eq_true, beq_iff_eq] at h; exact e2 h.2.1
    have e4 : (c.2 == b.2) = false := by rw [beq_eq_false_iff_ne]; exact e2
    have hs' := hs (by omega)
    have ih := goY b how N0 m s n (addP c (0, s)) (l ++ [addP c (0, s)]) (by rcases h0 with h | h; exact .inl h; right; dsimp only; omega) (fun _ => hs') (by
      dsimp only; rcases hs' with rfl | rfl <;> omega) (by dsimp only; omega) (by dsimp only; omega) (by rw [List.length_append, List.length_singleton]; omega)
    have hy : yRR N0 (m + n) b how c l = LRRa N0 m (SRRa b how (c.1, b.2) (l ++ seg (n + 1) (0, s) c)) := by
      unfold yRR
      have ad : addP c (0, s) = (c.1, towI c.2 b.2) := by rw [e1]; simp only [addP, Int.add_zero]
      rw [cond_dec (by omega), cond_dec (by unfold most; omega), seg, ad]
      rw [ad, List.append_assoc] at ih
      exact ih
    rw [show m + (n + 1) = (m + n) + 1 by omega, rRRa, e3, Bool.not_false, cond_true, e4, cond_false, hy]
    rcases h0 with h | h
    · have e5 : (how != (1 : Int)) = false := by simpa using h
      rw [e5, cond_false]
    · have e5 : (c.1 != b.1) = false := by simpa using h
      rw [e5, cond_false]; cases how != 1 <;> simp only [cond_true, cond_false]

theorem abs_sgn (z : Int) : z = ((z.natAbs : Nat) : Int) * sgnI z := by
  unfold sgnI
  split
  · omega
  · split <;> omega
theorem sgn_one {z : Int} (h : z.natAbs ≠ 0) : sgnI z = 1 ∨ sgnI z = -1 := by
  unfold sgnI
  split
  · exact .inl rfl
  · split
    · exact .inr rfl
    · omega

theorem run_rr (p q : Pt) (how : Int) (n : Nat) (hn : 5000 < n) : runF Q hn0 tRR n N.ref07_Route [agP p, agP q, .int .i64 how] [] = some (.tail 0 0, [.obj (.rows tP (routeL p q how))]) := by
  rw [eRR]
  obtain ⟨⟨a1, a2⟩, a3, a4⟩ := near_bd p
  obtain ⟨⟨b1, b2⟩, b3, b4⟩ := near_bd q
  unfold routeL
  generalize nearP p = a at *
  generalize nearP q = b at *
  have fin : ∀ m l, LRRa n (m + 1) (SRRa b how b l) = some (.tail 0 0, [.obj (.rows tP l)]) := fun m l => by
    rw [rRRa]
    simp only [beq_self_eq_true, Bool.and_self, Bool.not_true, cond_false]
  by_cases h : how = 1
  · subst h
    have hc : cornP 1 a b = (a.1, b.2) := rfl
    rw [hc]
    obtain ⟨m, hm⟩ : ∃ m, n = (m + 1 + (b.1 - a.1).natAbs) + (b.2 - a.2).natAbs := ⟨n - 1 - (b.1 - a.1).natAbs - (b.2 - a.2).natAbs, by omega⟩
    conv => lhs; rw [show LRRa n n = LRRa n ((m + 1 + (b.1 - a.1).natAbs) + (b.2 - a.2).natAbs) by rw [← hm]]
    rw [goY b 1 n _ (sgnI (b.2 - a.2)) _ a [a] (.inl rfl) sgn_one (by have := abs_sgn (b.2 - a.2); omega) (by omega) (by omega) (by simp; omega),
      goX b 1 n _ (sgnI (b.1 - a.1)) _ (a.1, b.2) _ (.inr rfl) sgn_one (by have := abs_sgn (b.1 - a.1); dsimp only; omega) (by dsimp only; omega) (by dsimp only; omega) (by rw [List.length_append, seg_len]; simp; omega), fin]
    unfold lineL
    dsimp only
    rw [show ((a.1 - a.1).natAbs + (b.2 - a.2).natAbs) = (b.2 - a.2).natAbs by omega, show ((b.1 - a.1).natAbs + (b.2 - b.2).natAbs) = (b.1 - a.1).natAbs by omega, show sgnI (a.1 - a.1) = 0 by rw [Int.sub_self]; rfl, show sgnI (b.2 - b.2) = 0 by rw [Int.sub_self]; rfl, List.append_assoc]
    rfl
  · have hc : cornP how a b = (b.1, a.2) := by
      unfold cornP cornerX cornerY
      have : (how == 1) = false := by simpa using h
      rw [this]; rfl
    rw [hc]
    obtain ⟨m, hm⟩ : ∃ m, n = (m + 1 + (b.2 - a.2).natAbs) + (b.1 - a.1).natAbs := ⟨n - 1 - (b.1 - a.1).natAbs - (b.2 - a.2).natAbs, by omega⟩
    conv => lhs; rw [show LRRa n n = LRRa n ((m + 1 + (b.2 - a.2).natAbs) + (b.1 - a.1).natAbs) by rw [← hm]]
    rw [goX b how n _ (sgnI (b.1 - a.1)) _ a [a] (.inl h) sgn_one (by have := abs_sgn (b.1 - a.1); omega) (by omega) (by omega) (by simp; omega),
      goY b how n _ (sgnI (b.2 - a.2)) _ (b.1, a.2) _ (.inr rfl) sgn_one (by have := abs_sgn (b.2 - a.2); dsimp only; omega) (by dsimp only; omega) (by dsimp only; omega) (by rw [List.length_append, seg_len]; simp; omega), fin]
    unfold lineL
    dsimp only
    rw [show ((b.1 - b.1).natAbs + (b.2 - a.2).natAbs) = (b.2 - a.2).natAbs by omega, show ((b.1 - a.1).natAbs + (a.2 - a.2).natAbs) = (b.1 - a.1).natAbs by omega, show sgnI (b.1 - b.1) = 0 by rw [Int.sub_self]; rfl, show sgnI (a.2 - a.2) = 0 by rw [Int.sub_self]; rfl, List.append_assoc]
    rfl

/-! ### table entries -/
def gRoute : G
  | [.agg [.int .i64 a, .int .i64 b], .agg [.int .i64 x, .int .i64 y], .int .i64 how], [] => some (true, .ro tP (routeL (a, b) (x, y) how), [])
  | _, _ => none
theorem gRoute_ref (a : List AV) (m : List Slot) (r : Bool × AV × List Slot) (h : gRoute a m = some r) (hk : r.1 = true) : Sound Q N.ref07_Route a m r.2 := by
  unfold gRoute at h
  split at h
  · simp only [Option.some.injEq] at h; subst h; exact Sound.ro (sound_of_run tRR_ok (run_rr (_, _) (_, _) _ 5001 (by omega)))
  · simp at h
end Mo
end Go.Ab

/- Ways: which aisles a way goes through, as the document's answer computes it; PlanRoutes. -/
namespace Go.Ab
set_option linter.unusedVariables false
namespace Mo
open Pl
noncomputable abbrev hn1 : Hints := ⟨fun f => f == N.ref07_put⟩
/-! ### put -/
abbrev SPuta (l : List Int) (x : Int) (b1 : Bool) (i2 : Int) (l3 : List Int) : St := ⟨.tail 0 0 :: .int .i64 x :: J :: J :: J :: .tail 1 0 :: .bool b1 :: .int .i64 i2 :: js 40, [.obj (.rows tI l), .obj (.rows tI l3)]⟩
noncomputable abbrev LPuta (n z : Nat) (s : St) : Ans := loopF Q hn1 noCall n N.ref07_put 1 [1, 1, 1, 0, 1, 0] [] z s
theorem ePut (l : List Int) (x : Int) (n : Nat) : runF Q hn1 noCall n N.ref07_put [.tail 0 0, .int .i64 x] [.obj (.rows tI l)] = LPuta n n (SPuta l x false 0 []) := by kernel_rfl
abbrev inI (l : List Int) (i : Int) : Bool := decide ((0 : Int) ≤ i) && decide (i < (l.length : Int))
noncomputable abbrev keepP (l : List Int) (x : Int) (b : Bool) (i : Int) (l3 : List Int) (n m : Nat) : Ans :=
  cond (inI l i) (cond (l.getD (0 + i.toNat) 0 != x) (cond (inI l i) (cond (decide (l3.length + 1 ≤ most)) (LPuta n m (SPuta l x b (wr (i + 1)) (l3 ++ [l.getD (0 + i.toNat) 0]))) none) none) (LPuta n m (SPuta l x b (wr (i + 1)) l3))) none
theorem rPuta (l : List Int) (x : Int) (b1 : Bool) (i2 : Int) (l3 : List Int) (n m : Nat) : LPuta n (m + 1) (SPuta l x b1 i2 l3) =
  cond (decide (i2 < (l.length : Int))) (cond (!b1) (cond (inI l i2) (cond (decide (x ≤ l.getD (0 + i2.toNat) 0)) (cond (decide (l3.length + 1 ≤ most)) (keepP l x true i2 (l3 ++ [x]) n m) none) (keepP l x b1 i2 l3 n m)) none) (keepP l x b1 i2 l3 n m))
   (cond (!b1) (cond (decide (l3.length + 1 ≤ most)) (some (.tail 1 0, [.obj (.rows tI l), .obj (.rows tI (l3 ++ [x]))])) none) (some (.tail 1 0, [.obj (.rows tI l), .obj (.rows tI l3)]))) := by kernel_rfl

theorem put_loop (l : List Int) (x : Int) (n : Nat) (hl : l.length < 1000000) : ∀ (m i : Nat) (b : Bool) (l3 : List Int), i ≤ l.length → l.length - i < m → l3.length ≤ 2 * i →
    LPuta n m (SPuta l x b i l3) = some (.tail 1 0, [.obj (.rows tI l), .obj (.rows tI (l3 ++ Is.ins x b (l.drop i)))]) := by
  intro m
  induction m with
  | zero => intro i b l3 h; omega
  | succ m ih =>
    intro i b l3 hi' hm h3
    rw [rPuta, dec_lt]
    by_cases hi : i < l.length
    · have e1 : inI l (i : Int) = true := by unfold inI; rw [dec_nn, dec_lt, decide_eq_true hi]; rfl
      have e2 : wr ((i : Int) + 1) = ((i + 1 : Nat) : Int) := wrN (by omega)
      have hk : ∀ (b : Bool) (l3 : List Int), l3.length ≤ 2 * i + 1 → keepP l x b i l3 n m = some (.tail 1 0, [.obj (.rows tI l), .obj (.rows tI (l3 ++ ((if l.getD i 0 = x then [] else [l.getD i 0]) ++ Is.ins x b (l.drop (i + 1)))))]) := fun b l3 h4 => by
        unfold keepP
        rw [e1, e2, Int.toNat_natCast, Nat.zero_add, cond_true, cond_true, cond_dec (p := l3.length + 1 ≤ most) (by unfold most; omega)]
        by_cases hx : l.getD i 0 = x
        · have : (l.getD i 0 != x) = false := by simpa using hx
          rw [this, cond_false, if_pos hx, List.nil_append]
          exact ih (i + 1) b l3 (by omega) (by omega) (by omega)
        · have : (l.getD i 0 != x) = true := by simpa using hx
          rw [this, cond_true, if_neg hx, ← List.append_assoc]
          exact ih (i + 1) b (l3 ++ [l.getD i 0]) (by omega) (by omega) (by rw [List.length_append, List.length_singleton]; omega)
      rw [cond_dec hi, e1, Int.toNat_natCast, Nat.zero_add, cond_true, cond_dec (p := l3.length + 1 ≤ most) (by unfold most; omega), getD_drop (d := 0) hi, hk b l3 (by omega), hk true (l3 ++ [x]) (by rw [List.length_append, List.length_singleton]; omega)]
      cases b
      · rw [Bool.not_false, cond_true, Is.ins]
        by_cases hx : x ≤ l.getD i 0
        · rw [cond_dec hx, if_pos hx, List.append_assoc]; rfl
        · rw [cond_dec' hx, if_neg hx]
      · rw [Bool.not_true, cond_false, Is.ins]
    · rw [cond_dec' hi, List.drop_eq_nil_of_le (by omega), cond_dec (p := l3.length + 1 ≤ most) (by unfold most; omega)]
      cases b <;> simp [Is.ins]
def gPut : G
  | [.tail 0 0, .int .i64 x], [.obj (.rows (.int .i64) l)] => some (decide (l.length < 1000000), .tail 1 0, [.obj (.rows tI l), .obj (.rows tI (Is.ins x false l))])
  | _, _ => none
theorem gPut_ok (a : List AV) (m : List Slot) (r : Bool × AV × List Slot) (h : gPut a m = some r) (hk : r.1 = true) : Sound Q N.ref07_put a m r.2 := by
  unfold gPut at h
  split at h
  · simp only [Option.some.injEq] at h; subst h
    rename_i x l
    have hl : List.length l < 1000000 := of_decide_eq_true hk
    refine sound_of_run (hn := hn1) noCall_ok (n := l.length + 1) ?_
    rw [ePut]
    have := put_loop l x (l.length + 1) hl (l.length + 1) 0 false [] (by omega) (by omega) (by simp)
    rw [show ((0 : Nat) : Int) = 0 from rfl, List.drop_zero, List.nil_append] at this
    exact this
  · simp at h

/-! ### Cross -/
noncomputable def tRC : Callf := addT N.ref07_Route gRoute (addT N.ref07_Has gHas (addT N.ref07_put gPut noCall))
theorem tRC_ok : CallOK Q tRC := addT_ok (addT_ok (addT_ok noCall_ok gPut_ok) gHas_has) gRoute_ref
abbrev SRCa (l : List Ai) (w : List Pt) (i3 : Int) (l5 : List Int) : St := ⟨.ro tA l :: J :: J :: J :: J :: J :: J :: J :: J :: .ro tP w :: .tail 0 0 :: .int .i64 i3 :: js 40, [.obj (.rows tI l5)]⟩
noncomputable abbrev LRCa (n z : Nat) (s : St) : Ans := loopF Q hn1 tRC n N.ref07_Cross 0 [1, 1, 1, 0, 1, 0] [] z s
abbrev SRCb (l : List Ai) (w : List Pt) (b1 : Bool) (i2 : Int) (i4 : Int) (l6 : List Int) : St := ⟨.ro tA l :: J :: J :: J :: J :: J :: J :: J :: J :: .ro tP w :: .tail 0 0 :: .int .i64 i4 :: .bool b1 :: .int .i64 i2 :: js 38, [.obj (.rows tI l6)]⟩
noncomputable abbrev LRCb (n m z : Nat) (s : St) : Ans := loopF Q hn1 tRC n N.ref07_Cross 0 [1, 1, 1, 0, 1, 0, 0, 1, 0, 0, 1, 0, 1, 0] [m] z s
theorem eRC (l : List Ai) (p q : Pt) (how : Int) (n : Nat) : runF Q hn1 tRC n N.ref07_Cross [.ro tA l, agP p, agP q, .int .i64 how] [] = LRCa n n (SRCa l (routeL p q how) 0 []) := by kernel_rfl
theorem rRCa (l : List Ai) (w : List Pt) (i3 : Int) (l5 : List Int) (n m : Nat) : LRCa n (m + 1) (SRCa l w i3 l5) =
  cond (decide (i3 < (l.length : Int))) (LRCb n m n (SRCb l w false 0 i3 l5)) (some (.tail 0 0, [.obj (.rows tI l5)])) := by kernel_rfl
noncomputable abbrev nextRC (l : List Ai) (w : List Pt) (b1 : Bool) (i4 : Int) (l6 : List Int) (n m : Nat) : Ans :=
  cond b1 (cond (decide ((0 : Int) ≤ i4) && decide (i4 < (l.length : Int))) (cond (decide (l6.length < 1000000)) (LRCa n m (SRCa l w (wr (i4 + 1)) (Is.ins (l.getD i4.toNat tA.dflt).1 false l6))) none) none) (LRCa n m (SRCa l w (wr (i4 + 1)) l6))
theorem rRCb (l : List Ai) (w : List Pt) (b1 : Bool) (i2 : Int) (i4 : Int) (l6 : List Int) (n m m1 : Nat) : LRCb n m (m1 + 1) (SRCb l w b1 i2 i4 l6) =
  cond (decide (i2 < (w.length : Int))) (cond (!b1) (cond (decide ((0 : Int) ≤ i4) && decide (i4 < (l.length : Int))) (cond (decide ((0 : Int) ≤ i2) && decide (i2 < (w.length : Int))) (LRCb n m m1 (SRCb l w (hasB (l.getD i4.toNat tA.dflt) (w.getD i2.toNat Dp)) (wr (i2 + 1)) i4 l6)) none) none) (nextRC l w b1 i4 l6 n m)) (nextRC l w b1 i4 l6 n m) := by kernel_rfl

theorem rc_in (l : List Ai) (w : List Pt) (l6 : List Int) (n m i : Nat) (hi : i < l.length) (hl : l.length < 1000000) (hw : w.length < 100000) : ∀ (m1 k : Nat) (b : Bool), k ≤ w.length → w.length - k < m1 →
    LRCb n m m1 (SRCb l w b k i l6) = nextRC l w (b || (w.drop k).any (hasB (l.getD i tA.dflt))) i l6 n m := by
  intro m1
  induction m1 with
  | zero => intro k b h h'; omega
  | succ m1 ih =>
    intro k b hk hm
    rw [rRCb, dec_lt, dec_lt, dec_nn, dec_nn, Bool.true_and, Bool.true_and, decide_eq_true hi, cond_true]
    by_cases h : k < w.length
    · rw [cond_dec h, cond_dec h, Int.toNat_natCast, Int.toNat_natCast, Go.Ab.wrN (by omega), ih (k + 1) _ (by omega) (by omega), getD_drop (d := Dp) h, List.any_cons]
      cases b
      · rw [Bool.not_false, cond_true, Bool.false_or]
      · rw [Bool.not_true, cond_false, Bool.true_or]
    · rw [cond_dec' h, List.drop_eq_nil_of_le (by omega), List.any_nil, Bool.or_false]

theorem rc_loop (l : List Ai) (w : List Pt) (n : Nat) (hl : l.length < 1000000) (hw : w.length < 100000) (hn : w.length < n) : ∀ (m i : Nat) (l5 : List Int), i ≤ l.length → l.length - i < m → l5.length ≤ i →
    LRCa n m (SRCa l w i l5) = some (.tail 0 0, [.obj (.rows tI ((((l.drop i).filter fun a => w.any (hasB a)).map (·.1)).foldl (fun o x => Is.ins x false o) l5))]) := by
  intro m
  induction m with
  | zero => intro i l5 h h'; omega
  | succ m ih =>
    intro i l5 hi' hm h5
    rw [rRCa, dec_lt]
    by_cases hi : i < l.length
    · have hin := rc_in l w l5 n m i hi hl hw n 0 false (by omega) (by omega)
      rw [show ((0 : Nat) : Int) = 0 from rfl, List.drop_zero, Bool.false_or] at hin
      rw [cond_dec hi, hin]
      unfold nextRC
      have := Is.ins_len (l.getD i tA.dflt).1 false l5
      rw [dec_nn, dec_lt, Bool.true_and, cond_dec (p := i < l.length) hi, cond_dec (p := l5.length < 1000000) (by omega), Int.toNat_natCast, Go.Ab.wrN (by omega), ih (i + 1) _ (by omega) (by omega) (by omega), ih (i + 1) _ (by omega) (by omega) (by omega), getD_drop (d := tA.dflt) hi, List.filter_cons]
      cases w.any (hasB (l.getD i tA.dflt))
      · simp only [cond_false, Bool.false_eq_true, if_false]
      · simp only [cond_true, if_true, List.map_cons, List.foldl_cons]
    · rw [cond_dec' hi, List.drop_eq_nil_of_le (by omega)]; rfl
end Mo
end Go.Ab

/- Ways: a straight way has a point of an aisle just if the aisle meets the block between its ends; PlanRoutes. -/
namespace Go.Ab
set_option linter.unusedVariables false
namespace Mo
open Pl
theorem seg_any (f : Pt → Bool) (s : Pt) : ∀ (n : Nat) (c : Pt), (c :: seg n s c).any f = true ↔ ∃ j : Nat, j ≤ n ∧ f (c.1 + j * s.1, c.2 + j * s.2) = true
  | 0, c => by
    rw [seg, List.any_cons, List.any_nil, Bool.or_false]
    constructor
    · intro h; exact ⟨0, Nat.le_refl _, by simpa using h⟩
    · rintro ⟨j, hj, h⟩
      have : j = 0 := by omega
      subst this; simpa using h
  | n + 1, c => by
    rw [seg, List.any_cons, Bool.or_eq_true, seg_any f s n (addP c s)]
    constructor
    · rintro (h | ⟨j, hj, h⟩)
      · exact ⟨0, by omega, by simpa using h⟩
      · refine ⟨j + 1, by omega, ?_⟩
        rw [show c.1 + ((j + 1 : Nat) : Int) * s.1 = c.1 + s.1 + j * s.1 by rw [Int.natCast_add, Int.add_mul]; simp; omega, show c.2 + ((j + 1 : Nat) : Int) * s.2 = c.2 + s.2 + j * s.2 by rw [Int.natCast_add, Int.add_mul]; simp; omega]
        exact h
    · rintro ⟨j, hj, h⟩
      cases j with
      | zero => left; simpa using h
      | succ j =>
        right
        refine ⟨j, by omega, ?_⟩
        rw [show c.1 + ((j + 1 : Nat) : Int) * s.1 = c.1 + s.1 + j * s.1 by rw [Int.natCast_add, Int.add_mul]; simp; omega, show c.2 + ((j + 1 : Nat) : Int) * s.2 = c.2 + s.2 + j * s.2 by rw [Int.natCast_add, Int.add_mul]; simp; omega] at h
        exact h

theorem line_any (a : Ai) (c d : Pt) (h : c.1 = d.1 ∨ c.2 = d.2) : (c :: lineL c d).any (hasB a) = meetB a (blockA c d) := by
  obtain ⟨i, ⟨l1, l2⟩, g1, g2⟩ := a
  obtain ⟨c1, c2⟩ := c
  obtain ⟨d1, d2⟩ := d
  dsimp only at h
  rw [Bool.eq_iff_iff]
  unfold lineL
  rw [seg_any]
  unfold meetB
  rw [decide_eq_true_iff]
  simp only [hasB, blockA, decide_eq_true_eq]
  rcases h with rfl | rfl
  · rw [show c1 - c1 = 0 by omega, show sgnI 0 = 0 from rfl]
    simp only [Int.mul_zero, Int.add_zero]
    constructor
    · rintro ⟨j, hj, h1, h2, h3, h4⟩
      unfold sgnI at h3 h4
      split at h3
      · rename_i hp; rw [if_pos hp] at h4; omega
      · rename_i hp
        rw [if_neg hp] at h4
        split at h3
        · rename_i hq; rw [if_pos hq] at h4; omega
        · rename_i hq; rw [if_neg hq] at h4; omega
    · rintro ⟨h1, h2⟩
      refine ⟨(max l2 (min c2 d2) - c2).natAbs, by omega, by omega, by omega, ?_⟩
      unfold sgnI
      by_cases hp : d2 - c2 > 0
      · rw [if_pos hp]; omega
      · rw [if_neg hp]
        by_cases hq : d2 - c2 < 0
        · rw [if_pos hq]; omega
        · rw [if_neg hq]; omega
  · rw [show c2 - c2 = 0 by omega, show sgnI 0 = 0 from rfl]
    simp only [Int.mul_zero, Int.add_zero]
    constructor
    · rintro ⟨j, hj, h1, h2, h3, h4⟩
      unfold sgnI at h1 h2
      split at h1
      · rename_i hp; rw [if_pos hp] at h2; omega
      · rename_i hp
        rw [if_neg hp] at h2
        split at h1
        · rename_i hq; rw [if_pos hq] at h2; omega
        · rename_i hq; rw [if_neg hq] at h2; omega
    · rintro ⟨h1, h2⟩
      refine ⟨(max l1 (min c1 d1) - c1).natAbs, by omega, ?_⟩
      unfold sgnI
      by_cases hp : d1 - c1 > 0
      · rw [if_pos hp]; omega
      · rw [if_neg hp]
        by_cases hq : d1 - c1 < 0
        · rw [if_pos hq]; omega
        · rw [if_neg hq]; omega

theorem corner_line (how : Int) (a b : Pt) : (a.1 = (cornP how a b).1 ∨ a.2 = (cornP how a b).2) ∧ ((cornP how a b).1 = b.1 ∨ (cornP how a b).2 = b.2) := by
  unfold cornP cornerX cornerY
  cases how == 1 <;> simp

theorem line_len (c d : Pt) : (lineL c d).length = (d.1 - c.1).natAbs + (d.2 - c.2).natAbs := by unfold lineL; rw [seg_len]
theorem route_len (p q : Pt) (how : Int) : (routeL p q how).length < 100000 := by
  obtain ⟨⟨a1, a2⟩, a3, a4⟩ := near_bd p
  obtain ⟨⟨b1, b2⟩, b3, b4⟩ := near_bd q
  unfold routeL
  rw [List.length_cons, List.length_append, line_len, line_len]
  unfold cornP cornerX cornerY
  cases how == 1 <;> simp only [cond_true, cond_false] <;> omega

/-- The document's test and the program's. -/
theorem route_any (a : Ai) (p q : Pt) (how : Int) : (routeL p q how).any (hasB a) = onLegs p q how a := by
  unfold routeL onLegs
  obtain ⟨h1, h2⟩ := corner_line how (nearP p) (nearP q)
  show _ = (meetB a (blockA (nearP p) (cornP how (nearP p) (nearP q))) || meetB a (blockA (cornP how (nearP p) (nearP q)) (nearP q)))
  rw [← line_any a _ _ h1, ← line_any a _ _ h2]
  generalize nearP p = x at *
  generalize nearP q = z at *
  generalize cornP how x z = c at *
  obtain ⟨l', e1, _⟩ := seg_last ((c.1 - x.1).natAbs + (c.2 - x.2).natAbs) (sgnI (c.1 - x.1), sgnI (c.2 - x.2)) x []
  rw [List.nil_append, endP_line x c h1] at e1
  have hc : hasB a c = true → (x :: lineL x c).any (hasB a) = true := fun h => by
    show List.any (x :: seg _ _ x) (hasB a) = true
    rw [e1, List.any_append, List.any_cons, h]; simp
  rw [show x :: (lineL x c ++ lineL c z) = (x :: lineL x c) ++ lineL c z from rfl, List.any_append, List.any_cons (a := c)]
  cases hx : hasB a c
  · rw [Bool.false_or]
  · rw [hc hx]; rfl

theorem run_rc (l : List Ai) (p q : Pt) (how : Int) (hl : l.length < 1000000) : runF Q hn1 tRC (l.length + 100001) N.ref07_Cross [.ro tA l, agP p, agP q, .int .i64 how] [] = some (.tail 0 0, [.obj (.rows tI (crossL l p q how))]) := by
  rw [eRC]
  have hw := route_len p q how
  have := rc_loop l (routeL p q how) (l.length + 100001) hl hw (by omega) (l.length + 100001) 0 [] (by omega) (by omega) (by simp)
  rw [show ((0 : Nat) : Int) = 0 from rfl, List.drop_zero] at this
  rw [this]
  have e : (fun a => (routeL p q how).any (hasB a)) = onLegs p q how := funext fun a => route_any a p q how
  rw [e]
  rfl
theorem gCross_ref (a : List AV) (m : List Slot) (r : Bool × AV × List Slot) (h : gCross a m = some r) (hk : r.1 = true) : Sound Q N.ref07_Cross a m r.2 := by
  unfold gCross at h
  split at h
  · simp only [Option.some.injEq] at h; subst h; exact Sound.ro (sound_of_run tRC_ok (run_rc _ (_, _) (_, _) _ (of_decide_eq_true hk)))
  · simp at h

/-! ### Points -/
def eqPt (x y : Pt) : Bool := x.1 == y.1 && (x.2 == y.2 && true)
theorem eqPt_iff (x y : Pt) : eqPt x y = decide (x = y) := by
  obtain ⟨a, b⟩ := x
  obtain ⟨c, d⟩ := y
  rw [Bool.eq_iff_iff]
  simp [eqPt]
abbrev SPointsa (p q : List Pt) (i1 : Int) : St := ⟨.ro tP p :: .ro tP q :: J :: J :: J :: .int .i64 i1 :: js 20, []⟩
def gPoints : G
  | [.ro (.pair (.int .i64) (.int .i64)) l, .ro (.pair (.int .i64) (.int .i64)) k], [] => some (decide (l.length < 1000000), .bool (decide (l = k)), [])
  | _, _ => none
/-! ### PlanRoutes -/
end Mo
end Go.Ab
