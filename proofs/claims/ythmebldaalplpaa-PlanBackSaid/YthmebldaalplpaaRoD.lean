/- Ways: the document's way, off its code. -/
import Derived.Test.YthmebldaalplpaaRoC
namespace Go.Ab
set_option linter.unusedVariables false
namespace Mo
open Pl
def towI (x y : Int) : Int := if x < y then x + 1 else if x > y then x - 1 else x
theorem eTow (x y : Int) (n : Nat) : runF Q hn0 noCall n N.ref07_toward [.int .i64 x, .int .i64 y] [] =
  cond (decide (x < y)) (some (.int .i64 (wr (x + 1)), [])) (cond (decide (x > y)) (some (.int .i64 (wr (x - 1)), [])) (some (.int .i64 x, []))) := by kernel_rfl
def gTow : G
  | [.int .i64 x, .int .i64 y], [] => some (decide (-1000000 < x ∧ x < 1000000), .int .i64 (towI x y), [])
  | _, _ => none
theorem gTow_ok (a : List AV) (m : List Slot) (r : Bool × AV × List Slot) (h : gTow a m = some r) (hk : r.1 = true) : Sound Q N.ref07_toward a m r.2 := by
  unfold gTow at h
  split at h
  · simp only [Option.some.injEq] at h; subst h
    rename_i x y
    have hk := of_decide_eq_true hk
    refine sound_of_run (hn := hn0) noCall_ok (n := 0) ((eTow x y 0).trans ?_)
    unfold towI
    by_cases h1 : x < y
    · rw [cond_dec h1, if_pos h1, wr_id (by omega) (by omega)]
    · rw [cond_dec' h1, if_neg h1]
      by_cases h2 : x > y
      · rw [cond_dec h2, if_pos h2, wr_id (by omega) (by omega)]
      · rw [cond_dec' h2, if_neg h2]
  · simp at h
noncomputable def tRR : Callf := addT N.ref07_toward gTow (addT N.ref07_near gNear noCall)
theorem tRR_ok : CallOK Q tRR := addT_ok (addT_ok noCall_ok gNear_ref) gTow_ok
abbrev SRRa (b : Pt) (how : Int) (c : Pt) (l2 : List Pt) : St := ⟨J :: J :: .int .i64 how :: J :: J :: J :: J :: .ptr 0 0 :: .ptr 1 0 :: .tail 2 0 :: js 42, [bxP c, bxP b, .obj (.rows tP l2)]⟩
noncomputable abbrev LRRa (n z : Nat) (s : St) : Ans := loopF Q hn0 tRR n N.ref07_Route 0 [1, 1, 1, 0, 0] [] z s
theorem eRR (p q : Pt) (how : Int) (n : Nat) : runF Q hn0 tRR n N.ref07_Route [agP p, agP q, .int .i64 how] [] = LRRa n n (SRRa (nearP q) how (nearP p) [nearP p]) := by kernel_rfl
noncomputable abbrev xRR (n m : Nat) (b : Pt) (how : Int) (c : Pt) (l2 : List Pt) : Ans := cond (decide (-1000000 < c.1 ∧ c.1 < 1000000)) (cond (decide (l2.length + 1 ≤ most)) (LRRa n m (SRRa b how (towI c.1 b.1, c.2) (l2 ++ [(towI c.1 b.1, c.2)]))) none) none
noncomputable abbrev yRR (n m : Nat) (b : Pt) (how : Int) (c : Pt) (l2 : List Pt) : Ans := cond (decide (-1000000 < c.2 ∧ c.2 < 1000000)) (cond (decide (l2.length + 1 ≤ most)) (LRRa n m (SRRa b how (c.1, towI c.2 b.2) (l2 ++ [(c.1, towI c.2 b.2)]))) none) none
theorem rRRa (b : Pt) (how : Int) (c : Pt) (l2 : List Pt) (n m : Nat) : LRRa n (m + 1) (SRRa b how c l2) =
  cond (!(c.1 == b.1 && (c.2 == b.2 && true))) (cond (c.2 == b.2) (xRR n m b how c l2) (cond (how != (1 : Int)) (cond (c.1 != b.1) (xRR n m b how c l2) (yRR n m b how c l2)) (yRR n m b how c l2))) (some (.tail 0 0, [.obj (.rows tP l2)])) := by kernel_rfl

theorem tow_sgn {x y s : Int} {n : Nat} (hs : s = 1 ∨ s = -1) (h : y = x + ((n + 1 : Nat) : Int) * s) : towI x y = x + s ∧ x ≠ y := by
  unfold towI
  rcases hs with rfl | rfl
  · rw [if_pos (by omega)]; omega
  · rw [if_neg (by omega), if_pos (by omega)]; omega

theorem goX (b : Pt) (how : Int) (N0 m : Nat) (s : Int) : ∀ (n : Nat) (c : Pt) (l : List Pt), (how ≠ 1 ∨ c.2 = b.2) → (n ≠ 0 → s = 1 ∨ s = -1) → b.1 = c.1 + (n : Int) * s → c.1.natAbs + n ≤ 10000 → c.2.natAbs ≤ 10000 → l.length + n < 100000 →
    LRRa N0 (m + n) (SRRa b how c l) = LRRa N0 m (SRRa b how (b.1, c.2) (l ++ seg n (s, 0) c))
  | 0, c, l, h0, hs, hb, h1, h2, hl => by
    have : c = (b.1, c.2) := Prod.ext (by dsimp only; omega) rfl
    rw [← this, seg, List.append_nil, Nat.add_zero]
  | n + 1, c, l, h0, hs, hb, h1, h2, hl => by
    obtain ⟨e1, e2⟩ := tow_sgn (hs (by omega)) hb
    have e3 : (c.1 == b.1 && (c.2 == b.2 && true)) = false := by
      rw [Bool.eq_false_iff]; intro h; simp only [Bool.and_eq_true, beq_iff_eq] at h; exact e2 h.1
    have e4 : (c.1 != b.1) = true := by simpa using e2
    have hs' := hs (by omega)
    have ih := goX b how N0 m s n (addP c (s, 0)) (l ++ [addP c (s, 0)]) (by rcases h0 with h | h; exact .inl h; right; dsimp only; omega) (fun _ => hs') (by
      dsimp only; rcases hs' with rfl | rfl <;> omega) (by dsimp only; omega) (by dsimp only; omega) (by rw [List.length_append, List.length_singleton]; omega)
    have hx : xRR N0 (m + n) b how c l = LRRa N0 m (SRRa b how (b.1, c.2) (l ++ seg (n + 1) (s, 0) c)) := by
      unfold xRR
      have ad : addP c (s, 0) = (towI c.1 b.1, c.2) := by rw [e1]; simp only [addP, Int.add_zero]
      rw [cond_dec (by omega), cond_dec (by unfold most; omega), seg, ad] 
      rw [ad, List.append_assoc] at ih
      exact ih
    rw [show m + (n + 1) = (m + n) + 1 by omega, rRRa, e3, Bool.not_false, cond_true, e4, cond_true, hx]
    rcases h0 with h | h
    · have e5 : (how != (1 : Int)) = true := by simpa using h
      rw [e5, cond_true]; cases c.2 == b.2 <;> simp only [cond_true, cond_false]
    · have e5 : (c.2 == b.2) = true := by simpa using h
      rw [e5, cond_true]

theorem goY (b : Pt) (how : Int) (N0 m : Nat) (s : Int) : ∀ (n : Nat) (c : Pt) (l : List Pt), (how = 1 ∨ c.1 = b.1) → (n ≠ 0 → s = 1 ∨ s = -1) → b.2 = c.2 + (n : Int) * s → c.2.natAbs + n ≤ 10000 → c.1.natAbs ≤ 10000 → l.length + n < 100000 →
    LRRa N0 (m + n) (SRRa b how c l) = LRRa N0 m (SRRa b how (c.1, b.2) (l ++ seg n (0, s) c))
  | 0, c, l, h0, hs, hb, h1, h2, hl => by
    have : c = (c.1, b.2) := Prod.ext rfl (by dsimp only; omega)
    rw [← this, seg, List.append_nil, Nat.add_zero]
  | n + 1, c, l, h0, hs, hb, h1, h2, hl => by
    obtain ⟨e1, e2⟩ := tow_sgn (hs (by omega)) hb
    have e3 : (c.1 == b.1 && (c.2 == b.2 && true)) = false := by
      rw [Bool.eq_false_iff]; intro h; simp only [Bool.and_eq_true, beq_iff_eq] at h; exact e2 h.2.1
    have e4 : (c.2 == b.2) = false := by rw [beq_eq_false_iff_ne]; exact e2
    have hs' := hs (by omega)
    have ih := goY b how N0 m s n (addP c (0, s)) (l ++ [addP c (0, s)]) (by rcases h0 with h | h; exact .inl h; right; dsimp only; omega) (fun _ => hs') (by
      dsimp only; rcases hs' with rfl | rfl <;> omega) (by dsimp only; omega) (by dsimp only; omega) (by rw [List.length_append, List.length_singleton]; omega)
    have hy : yRR N0 (m + n) b how c l = LRRa N0 m (SRRa b how (c.1, b.2) (l ++ seg (n + 1) (0, s) c)) := by
      unfold yRR
      have ad : addP c (0, s) = (c.1, towI c.2 b.2) := by rw [e1]; simp only [addP, Int.add_zero]
      rw [cond_dec (by omega), cond_dec (by unfold most; omega), seg, ad]
      rw [ad, List.append_assoc] at ih
      exact ih
    rw [show m + (n + 1) = (m + n) + 1 by omega, rRRa, e3, Bool.not_false, cond_true, e4, cond_false, hy]
    rcases h0 with h | h
    · have e5 : (how != (1 : Int)) = false := by simpa using h
      rw [e5, cond_false]
    · have e5 : (c.1 != b.1) = false := by simpa using h
      rw [e5, cond_false]; cases how != 1 <;> simp only [cond_true, cond_false]

theorem abs_sgn (z : Int) : z = ((z.natAbs : Nat) : Int) * sgnI z := by
  unfold sgnI
  split
  · omega
  · split <;> omega
theorem sgn_one {z : Int} (h : z.natAbs ≠ 0) : sgnI z = 1 ∨ sgnI z = -1 := by
  unfold sgnI
  split
  · exact .inl rfl
  · split
    · exact .inr rfl
    · omega

theorem run_rr (p q : Pt) (how : Int) (n : Nat) (hn : 5000 < n) : runF Q hn0 tRR n N.ref07_Route [agP p, agP q, .int .i64 how] [] = some (.tail 0 0, [.obj (.rows tP (routeL p q how))]) := by
  rw [eRR]
  obtain ⟨⟨a1, a2⟩, a3, a4⟩ := near_bd p
  obtain ⟨⟨b1, b2⟩, b3, b4⟩ := near_bd q
  unfold routeL
  generalize nearP p = a at *
  generalize nearP q = b at *
  have fin : ∀ m l, LRRa n (m + 1) (SRRa b how b l) = some (.tail 0 0, [.obj (.rows tP l)]) := fun m l => by
    rw [rRRa]
    simp only [beq_self_eq_true, Bool.and_self, Bool.not_true, cond_false]
  by_cases h : how = 1
  · subst h
    have hc : cornP 1 a b = (a.1, b.2) := rfl
    rw [hc]
    obtain ⟨m, hm⟩ : ∃ m, n = (m + 1 + (b.1 - a.1).natAbs) + (b.2 - a.2).natAbs := ⟨n - 1 - (b.1 - a.1).natAbs - (b.2 - a.2).natAbs, by omega⟩
    conv => lhs; rw [show LRRa n n = LRRa n ((m + 1 + (b.1 - a.1).natAbs) + (b.2 - a.2).natAbs) by rw [← hm]]
    rw [goY b 1 n _ (sgnI (b.2 - a.2)) _ a [a] (.inl rfl) sgn_one (by have := abs_sgn (b.2 - a.2); omega) (by omega) (by omega) (by simp; omega),
      goX b 1 n _ (sgnI (b.1 - a.1)) _ (a.1, b.2) _ (.inr rfl) sgn_one (by have := abs_sgn (b.1 - a.1); dsimp only; omega) (by dsimp only; omega) (by dsimp only; omega) (by rw [List.length_append, seg_len]; simp; omega), fin]
    unfold lineL
    dsimp only
    rw [show ((a.1 - a.1).natAbs + (b.2 - a.2).natAbs) = (b.2 - a.2).natAbs by omega, show ((b.1 - a.1).natAbs + (b.2 - b.2).natAbs) = (b.1 - a.1).natAbs by omega, show sgnI (a.1 - a.1) = 0 by rw [Int.sub_self]; rfl, show sgnI (b.2 - b.2) = 0 by rw [Int.sub_self]; rfl, List.append_assoc]
    rfl
  · have hc : cornP how a b = (b.1, a.2) := by
      unfold cornP cornerX cornerY
      have : (how == 1) = false := by simpa using h
      rw [this]; rfl
    rw [hc]
    obtain ⟨m, hm⟩ : ∃ m, n = (m + 1 + (b.2 - a.2).natAbs) + (b.1 - a.1).natAbs := ⟨n - 1 - (b.1 - a.1).natAbs - (b.2 - a.2).natAbs, by omega⟩
    conv => lhs; rw [show LRRa n n = LRRa n ((m + 1 + (b.2 - a.2).natAbs) + (b.1 - a.1).natAbs) by rw [← hm]]
    rw [goX b how n _ (sgnI (b.1 - a.1)) _ a [a] (.inl h) sgn_one (by have := abs_sgn (b.1 - a.1); omega) (by omega) (by omega) (by simp; omega),
      goY b how n _ (sgnI (b.2 - a.2)) _ (b.1, a.2) _ (.inr rfl) sgn_one (by have := abs_sgn (b.2 - a.2); dsimp only; omega) (by dsimp only; omega) (by dsimp only; omega) (by rw [List.length_append, seg_len]; simp; omega), fin]
    unfold lineL
    dsimp only
    rw [show ((b.1 - b.1).natAbs + (b.2 - a.2).natAbs) = (b.2 - a.2).natAbs by omega, show ((b.1 - a.1).natAbs + (a.2 - a.2).natAbs) = (b.1 - a.1).natAbs by omega, show sgnI (b.1 - b.1) = 0 by rw [Int.sub_self]; rfl, show sgnI (a.2 - a.2) = 0 by rw [Int.sub_self]; rfl, List.append_assoc]
    rfl

/-! ### table entries -/
def gRoute : G
  | [.agg [.int .i64 a, .int .i64 b], .agg [.int .i64 x, .int .i64 y], .int .i64 how], [] => some (true, .ro tP (routeL (a, b) (x, y) how), [])
  | _, _ => none
theorem gRoute_plan (a : List AV) (m : List Slot) (r : Bool × AV × List Slot) (h : gRoute a m = some r) (hk : r.1 = true) : Sound Q N.plan_Route a m r.2 := by
  unfold gRoute at h
  split at h
  · simp only [Option.some.injEq] at h; subst h; exact Sound.ro (sound_of_run tRo_ok (run_ro (_, _) (_, _) _ 3001 (by omega)))
  · simp at h
theorem gRoute_ref (a : List AV) (m : List Slot) (r : Bool × AV × List Slot) (h : gRoute a m = some r) (hk : r.1 = true) : Sound Q N.ref07_Route a m r.2 := by
  unfold gRoute at h
  split at h
  · simp only [Option.some.injEq] at h; subst h; exact Sound.ro (sound_of_run tRR_ok (run_rr (_, _) (_, _) _ 5001 (by omega)))
  · simp at h
end Mo
end Go.Ab
