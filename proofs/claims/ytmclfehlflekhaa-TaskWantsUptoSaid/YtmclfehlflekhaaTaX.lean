/- TaskWants: its loops, and why it answers true -/
import Derived.Test.YtmclfehlflekhaaTaW
namespace Go.Ab
set_option linter.unusedVariables false
namespace Ta
open Pl Mo
abbrev aR (r : Ru) : List Ai := r.snd.snd.snd.snd.snd.snd.snd
abbrev wL (r : Ru) (x : Sp) : List Int := crossL r.snd.snd.snd.snd.snd.snd.snd x.snd.snd.snd.snd.fst x.snd.snd.snd.snd.snd.fst (0 : Int)

theorem wb_loop (r : Ru) (x : Sp) (a b c : Int) (n m j : Nat) (hj : j < (wL r x).length) (hR : (aR r).length ≤ 40) (hL : (wL r x).length ≤ 40)
    (hup : 0 < j → (wL r x).getD (j - 1) 0 < (wL r x).getD j 0) : ∀ (m1 i : Nat) (bb : Bool), i ≤ (aR r).length → (aR r).length - i < m1 →
    (bb || ((aR r).drop i).any (fun t => t.1 == (wL r x).getD j 0)) = true →
    LWab n m m1 (SWab r x a b c bb i j ((wL r x).getD j 0)) = LWaa n m (SWaa r x a b c ((j + 1 : Nat) : Int)) := by
  intro m1
  induction m1 with
  | zero => intro i bb h h'; omega
  | succ m1 ih =>
    intro i bb hi' hm h
    rw [rWab, dec_lt, dec_nn, Bool.true_and]
    by_cases hi : i < (aR r).length
    · rw [cond_dec hi, cond_dec hi, Int.toNat_natCast, Go.Ab.wrN (by omega)]
      cases bb with
      | true => rw [cond_true, ih (i + 1) true (by omega) (by omega) (by rw [Bool.true_or])]
      | false =>
        rw [cond_false, ih (i + 1) _ (by omega) (by omega) ?_]
        rw [getD_drop (d := tA.dflt) hi, List.any_cons, Bool.false_or] at h
        exact h
    · rw [List.drop_eq_nil_of_le (by omega), List.any_nil, Bool.or_false] at h
      subst h
      rw [cond_dec' hi, Bool.not_true, cond_false]
      cases j with
      | zero => rw [cond_dec' (by omega), Go.Ab.wrN (by omega)]
      | succ k =>
        have h1 := hup (by omega)
        rw [Nat.add_sub_cancel] at h1
        rw [cond_dec (by omega), Go.Ab.wrP (by omega), dec_nn, dec_lt, Bool.true_and, cond_dec (p := k < (wL r x).length) (by omega), Int.toNat_natCast, cond_dec' (p := (wL r x).getD k 0 ≥ (wL r x).getD (k + 1) 0) (by omega), Go.Ab.wrN (by omega)]

theorem wa_loop (r : Ru) (x : Sp) (a b c : Int) (n : Nat) (hn : 40 < n) (hR : (aR r).length ≤ 40) (hL : (wL r x).length ≤ 40)
    (hup : ∀ j, 0 < j → j < (wL r x).length → (wL r x).getD (j - 1) 0 < (wL r x).getD j 0) (hin : ∀ j, j < (wL r x).length → (aR r).any (fun t => t.1 == (wL r x).getD j 0) = true) :
    ∀ (m i : Nat), i ≤ (wL r x).length → (wL r x).length - i < m → LWaa n m (SWaa r x a b c i) = LWac n n (SWac r x a b c 0) := by
  intro m
  induction m with
  | zero => intro i h h'; omega
  | succ m ih =>
    intro i hi' hm
    rw [rWaa, dec_lt, dec_nn, Bool.true_and]
    by_cases hi : i < (wL r x).length
    · rw [cond_dec hi, cond_dec hi, Int.toNat_natCast]
      have e := wb_loop r x a b c n m i hi hR hL (fun h => hup i h hi) n 0 false (by omega) (by omega) (by rw [List.drop_zero, hin i hi]; rfl)
      rw [show ((0 : Nat) : Int) = 0 from rfl] at e
      rw [e, ih (i + 1) (by omega) (by omega)]
    · rw [cond_dec' hi]

theorem wd_loop (r : Ru) (x : Sp) (a b c : Int) (n m2 : Nat) (i7 i8 : Int) (hL : (wL r x).length ≤ 40) : ∀ (m3 i : Nat) (bb : Bool), i ≤ (wL r x).length → (wL r x).length - i < m3 →
    (bb || ((wL r x).drop i).any (· == i7)) = true → LWad n m2 m3 (SWad r x a b c bb i i7 i8) = LWac n m2 (SWac r x a b c (wr (i8 + 1))) := by
  intro m3
  induction m3 with
  | zero => intro i bb h h'; omega
  | succ m3 ih =>
    intro i bb hi' hm h
    rw [rWad, dec_lt, dec_nn, Bool.true_and]
    by_cases hi : i < (wL r x).length
    · rw [cond_dec hi, cond_dec hi, Int.toNat_natCast, Go.Ab.wrN (by omega)]
      cases bb with
      | true => rw [cond_true, ih (i + 1) true (by omega) (by omega) (by rw [Bool.true_or])]
      | false =>
        rw [cond_false, ih (i + 1) _ (by omega) (by omega) ?_]
        rw [getD_drop (d := (0 : Int)) hi, List.any_cons, Bool.false_or] at h
        exact h
    · rw [List.drop_eq_nil_of_le (by omega), List.any_nil, Bool.or_false] at h
      subst h
      rw [cond_dec' hi, Bool.not_true, cond_false]

theorem wc_step (r : Ru) (x : Sp) (a b c : Int) (n m2 k : Nat) (hn : 40 < n) (hk : k < 2) (hR : (aR r).length ≤ 40) (hL : (wL r x).length ≤ 40)
    (hs : ∀ t, List.find? (fun y => hasB y ([x.snd.snd.snd.snd.fst, x.snd.snd.snd.snd.snd.fst].getD (0 + k) tP.dflt)) (aR r) = some t → t.1 ∈ wL r x) :
    LWac n (m2 + 1) (SWac r x a b c k) = LWac n m2 (SWac r x a b c ((k + 1 : Nat) : Int)) := by
  rw [rWac, dec_lt, dec_nn, Bool.true_and, Int.toNat_natCast]
  rw [cond_dec (p := k < _) (by simpa using hk), cond_dec (p := k < _) (by simpa using hk), cond_dec (p := _ < big) (by unfold big; have := hR; unfold aR at this; omega)]
  cases hf : List.find? (fun y => hasB y ([x.snd.snd.snd.snd.fst, x.snd.snd.snd.snd.snd.fst].getD (0 + k) tP.dflt)) (aR r) with
  | none =>
    dsimp only
    rw [cond_false, Go.Ab.wrN (by omega)]
  | some t =>
    dsimp only
    have e := wd_loop r x a b c n m2 t.1 k hL n 0 false (by omega) (by omega) (by rw [List.drop_zero, Bool.false_or, List.any_eq_true]; exact ⟨t.1, hs t hf, by rw [beq_self_eq_true]⟩)
    rw [show ((0 : Nat) : Int) = 0 from rfl] at e
    rw [cond_true, e, Go.Ab.wrN (by omega)]

theorem wc_end (r : Ru) (x : Sp) (a b c : Int) (n m2 : Nat) (hl : (wL r x).length ≤ (aR r).length) (hr : rightB (aR r) = true) (hx : U x.2.2.1 ∧ U x.2.2.2.1) (ha : U a) (hc : U c)
    (ho : ∀ p q, U p → U q → U (IntKind.u64.wrap (↑(BitVec.ofInt IntKind.u64.bits p ||| BitVec.ofInt IntKind.u64.bits q).toNat : Int))) (hb : U b)
    (hm1 : fitsW x a c = true → fitsW x (IntKind.u64.wrap (↑(Nat.bitwise or (BitVec.ofInt IntKind.u64.bits a).toNat (BitVec.ofInt IntKind.u64.bits b).toNat) : Int)) c = true)
    (hm2 : fitsW x a c = true → fitsW x a (IntKind.u64.wrap (↑(Nat.bitwise or (BitVec.ofInt IntKind.u64.bits c).toNat (BitVec.ofInt IntKind.u64.bits b).toNat) : Int)) = true) :
    LWac n (m2 + 1) (SWac r x a b c (2 : Nat)) = some (.bool true, []) := by
  rw [rWac, dec_lt, cond_dec' (p := 2 < _) (by simp), cond_dec' (by have := hl; unfold wL aR at this; omega), hr, Bool.not_true, cond_false, cond_dec ⟨hx, ha, hc⟩]
  by_cases hf : fitsW x a c = true
  · rw [hf, Bool.not_true, cond_false, cond_dec ⟨hx, ho a b ha hb, hc⟩, hm1 hf, cond_true, cond_dec ⟨hx, ha, ho c b hc hb⟩, hm2 hf, cond_true]
  · rw [Bool.not_eq_true] at hf
    rw [hf, Bool.not_false, cond_true]
end Ta
end Go.Ab
