/- Floats that are whole numbers: what sums, differences, products and cuts of them are, as long as they are less than 2^53. -/
import Derived.Laws.ComplexArith
namespace Go.Ab
open Ieee
set_option linter.unusedVariables false
set_option exponentiation.threshold 3000

/-- b are the bits of a float that is the whole number n (a zero of either sign counts as 0). -/
def IsF (b : Nat) (n : Int) : Prop := ∃ s m e, double.read b = .number s m e ∧ -1074 ≤ e ∧ (m : Int) * 2 ^ (e + 1074).toNat = (if s then -n else n) * 2 ^ 1074

theorem word_read (neg : Bool) (r : Nat) (h : r < 2 ^ 63) : double.word neg r / double.signWeight % 2 = (if neg then 1 else 0) ∧ double.word neg r % double.signWeight = r := by
  have hs : double.signWeight = 2 ^ 63 := rfl
  unfold Format.word
  rw [hs]
  cases neg
  · simp only [Bool.false_eq_true, if_false]; omega
  · simp only [if_true]; omega

theorem pow_le_of {a b : Nat} (h : 2 ^ a < 2 ^ (b + 1)) : a ≤ b := by
  have := (Nat.pow_lt_pow_iff_right (a := 2) (by omega)).1 h
  omega

theorem log_eq {mag v p K : Nat} (hm : mag ≠ 0) (hv : v ≠ 0) (h : mag * 2 ^ p = v * 2 ^ K) : mag.log2 + p = v.log2 + K := by
  have m1 := Nat.log2_self_le hm
  have m2 := @Nat.lt_log2_self mag
  have v1 := Nat.log2_self_le hv
  have v2 := @Nat.lt_log2_self v
  have P := Nat.two_pow_pos p
  have PK := Nat.two_pow_pos K
  have a1 : 2 ^ (mag.log2 + p) ≤ mag * 2 ^ p := by rw [Nat.pow_add]; exact Nat.mul_le_mul_right _ m1
  have a2 : mag * 2 ^ p < 2 ^ (mag.log2 + p + 1) := by
    rw [show mag.log2 + p + 1 = (mag.log2 + 1) + p by omega, Nat.pow_add 2 (mag.log2 + 1)]; exact Nat.mul_lt_mul_of_pos_right m2 P
  have b1 : 2 ^ (v.log2 + K) ≤ v * 2 ^ K := by rw [Nat.pow_add]; exact Nat.mul_le_mul_right _ v1
  have b2 : v * 2 ^ K < 2 ^ (v.log2 + K + 1) := by
    rw [show v.log2 + K + 1 = (v.log2 + 1) + K by omega, Nat.pow_add 2 (v.log2 + 1)]; exact Nat.mul_lt_mul_of_pos_right v2 PK
  have c1 := pow_le_of (Nat.lt_of_le_of_lt a1 (h ▸ b2))
  have c2 := pow_le_of (Nat.lt_of_le_of_lt b1 (h ▸ a2))
  omega

theorem cut_exact (way : Toward) (hw : way = .even ∨ way = .zero) (neg : Bool) (q d : Nat) : way.cut neg (q * 2 ^ d) d = q := by
  unfold Toward.cut
  dsimp only
  by_cases hq : q = 0
  · subst hq
    rw [Nat.zero_mul]
    rcases hw with rfl | rfl
    · simp
    · simp
  · have hd : d ≤ (q * 2 ^ d).log2 := by
      rw [Nat.le_log2 (by have := Nat.two_pow_pos d; exact Nat.mul_ne_zero hq (by omega))]
      exact Nat.le_mul_of_pos_left _ (by omega)
    rw [Nat.min_eq_left (by omega), Nat.one_shiftLeft, Nat.mul_div_cancel _ (Nat.two_pow_pos d), Nat.mul_mod_left]
    rcases hw with rfl | rfl
    · simp
    · simp

/-- The word of a whole number. -/
theorem nearest_ok (neg : Bool) (mag : Nat) (place : Int) (K : Nat) (hK : 0 ≤ place + K) (v : Nat) (hv : v < 2 ^ 53) (h : mag * 2 ^ (place + K).toNat = v * 2 ^ K) :
    ∃ m e, double.read (double.nearest neg mag place) = .number neg m e ∧ -1074 ≤ e ∧ m * 2 ^ (e + 1074).toNat = v * 2 ^ 1074 := by
  by_cases hm : mag = 0
  · subst hm
    have hv0 : v = 0 := by
      have h1 : v * 2 ^ K = 0 := by rw [← h]; simp
      rcases Nat.mul_eq_zero.1 h1 with h2 | h2
      · exact h2
      · have := Nat.two_pow_pos K; omega
    subst hv0
    obtain ⟨w1, w2⟩ := word_read neg 0 (by decide)
    refine ⟨0, -1074, ?_, by omega, by rw [Nat.zero_mul, Nat.zero_mul]⟩
    unfold Format.nearest Format.read
    simp only [if_true]
    rw [w1, w2]
    cases neg <;> rfl
  · have hvpos : v ≠ 0 := by
      intro h0
      subst h0
      rw [Nat.zero_mul] at h
      rcases Nat.mul_eq_zero.1 h with h2 | h2
      · exact absurd h2 hm
      · have := Nat.two_pow_pos (place + K).toNat; omega
    have hlog := log_eq hm hvpos h
    have hvl : v.log2 < 53 := (Nat.log2_lt hvpos).2 hv
    generalize hV : v.log2 = V at *
    generalize hL : mag.log2 = L at *
    have hlast : max (place + (L : Nat) - (52 : Nat)) (-1074) = (V : Int) - 52 := by omega
    have hkept : Toward.even.cut neg (mag <<< (place - ((V : Int) - 52)).toNat) (((V : Int) - 52) - place).toNat = v * 2 ^ (52 - V) := by
      by_cases hc : (V : Int) - 52 ≤ place
      · have e1 : (((V : Int) - 52) - place).toNat = 0 := by omega
        rw [e1]
        have e2 : mag <<< (place - ((V : Int) - 52)).toNat = v * 2 ^ (52 - V) := by
          rw [Nat.shiftLeft_eq]
          have P := Nat.two_pow_pos (place + K).toNat
          apply Nat.eq_of_mul_eq_mul_right P
          rw [Nat.mul_right_comm, h, Nat.mul_assoc, ← Nat.pow_add, Nat.mul_assoc, ← Nat.pow_add]
          congr 2; omega
        rw [e2]
        have := cut_exact .even (.inl rfl) neg (v * 2 ^ (52 - V)) 0
        simpa using this
      · have e1 : (place - ((V : Int) - 52)).toNat = 0 := by omega
        rw [e1, Nat.shiftLeft_zero]
        have e2 : mag = v * 2 ^ (52 - V) * 2 ^ (((V : Int) - 52) - place).toNat := by
          have P := Nat.two_pow_pos (place + K).toNat
          apply Nat.eq_of_mul_eq_mul_right P
          rw [h, Nat.mul_assoc, Nat.mul_assoc, ← Nat.pow_add, ← Nat.pow_add]
          congr 2; omega
        conv => lhs; rw [e2]
        exact cut_exact .even (.inl rfl) neg _ _
    have k1 : 2 ^ 52 ≤ v * 2 ^ (52 - V) := by
      have := Nat.log2_self_le hvpos
      rw [hV] at this
      calc 2 ^ 52 = 2 ^ V * 2 ^ (52 - V) := by rw [← Nat.pow_add]; congr 1; omega
        _ ≤ _ := Nat.mul_le_mul_right _ this
    have k2 : v * 2 ^ (52 - V) < 2 ^ 53 := by
      have := @Nat.lt_log2_self v
      rw [hV] at this
      calc v * 2 ^ (52 - V) < 2 ^ (V + 1) * 2 ^ (52 - V) := Nat.mul_lt_mul_of_pos_right this (Nat.two_pow_pos _)
        _ = 2 ^ 53 := by rw [← Nat.pow_add]; congr 1; omega
    have q52 : (2 : Nat) ^ 52 = 4503599627370496 := rfl
    have q53 : (2 : Nat) ^ 53 = 9007199254740992 := rfl
    rw [q52] at k1
    rw [q53] at k2
    have f1 : double.fractionBits = 52 := rfl
    have f2 : double.leastPlace = -1074 := rfl
    have f3 : double.binade = 4503599627370496 := rfl
    have f4 : double.infRung = 9218868437227405312 := rfl
    generalize hkk : v * 2 ^ (52 - V) = kept at *
    have hn : double.nearest neg mag place = double.word neg ((V + 1022) * 4503599627370496 + kept) := by
      unfold Format.nearest
      rw [if_neg hm, f1, f2, f3, f4, hL]
      dsimp only
      rw [hlast, hkept]
      have e1 : ((V : Int) - 52 - -1074).toNat = V + 1022 := by omega
      rw [e1, Nat.min_eq_left (by omega)]
    obtain ⟨w1, w2⟩ := word_read neg ((V + 1022) * 4503599627370496 + kept) (by rw [show (2 : Nat) ^ 63 = 9223372036854775808 from rfl]; omega)
    refine ⟨kept, (V : Int) - 52, ?_, by omega, ?_⟩
    · rw [hn]
      unfold Format.read
      dsimp only
      rw [w1, w2, f2, f3, f4, if_neg (by omega), if_pos (by omega)]
      have g1 : ((V + 1022) * 4503599627370496 + kept) / 4503599627370496 = V + 1023 := by omega
      have g2 : ((V + 1022) * 4503599627370496 + kept) % 4503599627370496 = kept - 4503599627370496 := by omega
      have g3 : ((if neg = true then 1 else 0) == 1) = neg := by cases neg <;> rfl
      have g4 : 4503599627370496 + (kept - 4503599627370496) = kept := by omega
      have g5 : (-1074 : Int) + ((V + 1023 - 1 : Nat) : Int) = (V : Int) - 52 := by omega
      rw [g1, g2, g3, g4, g5]
    · rw [← hkk, Nat.mul_assoc, ← Nat.pow_add, show 52 - V + ((V : Int) - 52 + 1074).toNat = 1074 by omega]

theorem isF_nearest {neg : Bool} {mag : Nat} {place : Int} {K : Nat} {n : Int} (hK : 0 ≤ place + K) (hn : n.natAbs < 2 ^ 53) (h : mag * 2 ^ (place + K).toNat = n.natAbs * 2 ^ K) (h1 : neg = true → n ≤ 0) (h2 : neg = false → 0 ≤ n) :
    IsF (double.nearest neg mag place) n := by
  obtain ⟨m, e, hr, he, hv⟩ := nearest_ok neg mag place K hK n.natAbs hn h
  refine ⟨neg, m, e, hr, he, ?_⟩
  have : (m : Int) * 2 ^ (e + 1074).toNat = ((m * 2 ^ (e + 1074).toNat : Nat) : Int) := by rw [Int.natCast_mul, Int.natCast_pow]; rfl
  rw [this, hv, Int.natCast_mul, Int.natCast_pow]
  congr 1
  cases neg
  · have := h2 rfl; simp; omega
  · have := h1 rfl; simp; omega

theorem pow_cast (k : Nat) : (2 : Int) ^ k = ((2 ^ k : Nat) : Int) := by rw [Int.natCast_pow]; rfl

theorem signed_val (s : Bool) (m k : Nat) : signed s m k = (if s then -((m : Int) * 2 ^ k) else (m : Int) * 2 ^ k) := by
  unfold signed
  rw [pow_cast]
  cases s <;> simp [Nat.shiftLeft_eq, Int.natCast_mul]

/-- A float out of a whole number. -/
theorem isF_int (n : Int) (hn : n.natAbs < 2 ^ 53) : IsF (FloatKind.f64.nearest n) n := by
  show IsF (double.nearest (decide (n < 0)) n.natAbs 0) n
  refine isF_nearest (K := 0) (by omega) hn (by simp) (fun h => ?_) (fun h => ?_)
  · have := of_decide_eq_true h; omega
  · have := of_decide_eq_false h; omega

theorem sum_ok {s t : Bool} {m k : Nat} {i j : Int} {x y : Int} (hi : -1074 ≤ i) (hj : -1074 ≤ j) (hx : (m : Int) * 2 ^ (i + 1074).toNat = (if s then -x else x) * 2 ^ 1074)
    (hy : (k : Int) * 2 ^ (j + 1074).toNat = (if t then -y else y) * 2 ^ 1074) (hn : (x + y).natAbs < 2 ^ 53) :
    ∃ d, Datum.sum (.number s m i) (.number t k j) = some d ∧ IsF (double.write d) (x + y) := by
  refine ⟨_, rfl, ?_⟩
  generalize hT : signed s m (i - min i j).toNat + signed t k (j - min i j).toNat = T
  have hsc : T * 2 ^ (min i j + 1074).toNat = (x + y) * 2 ^ 1074 := by
    have e1 : signed s m (i - min i j).toNat * 2 ^ (min i j + 1074).toNat = x * 2 ^ 1074 := by
      have : (m : Int) * 2 ^ (i - min i j).toNat * 2 ^ (min i j + 1074).toNat = (m : Int) * 2 ^ (i + 1074).toNat := by
        rw [Int.mul_assoc, ← Int.pow_add, show (i - min i j).toNat + (min i j + 1074).toNat = (i + 1074).toNat by omega]
      rw [signed_val]
      cases s
      · simp only [Bool.false_eq_true, if_false] at hx ⊢; rw [this, hx]
      · simp only [if_true] at hx ⊢; rw [Int.neg_mul, this, hx, Int.neg_mul, Int.neg_neg]
    have e2 : signed t k (j - min i j).toNat * 2 ^ (min i j + 1074).toNat = y * 2 ^ 1074 := by
      have : (k : Int) * 2 ^ (j - min i j).toNat * 2 ^ (min i j + 1074).toNat = (k : Int) * 2 ^ (j + 1074).toNat := by
        rw [Int.mul_assoc, ← Int.pow_add, show (j - min i j).toNat + (min i j + 1074).toNat = (j + 1074).toNat by omega]
      rw [signed_val]
      cases t
      · simp only [Bool.false_eq_true, if_false] at hy ⊢; rw [this, hy]
      · simp only [if_true] at hy ⊢; rw [Int.neg_mul, this, hy, Int.neg_mul, Int.neg_neg]
    rw [← hT, Int.add_mul, e1, e2, Int.add_mul]
  have hp : ∀ q : Nat, (0 : Int) < 2 ^ q := fun q => by rw [pow_cast]; exact Int.natCast_pos.2 (Nat.two_pow_pos q)
  show IsF (double.nearest (if T = 0 then s && t else decide (T < 0)) T.natAbs (min i j)) (x + y)
  refine isF_nearest (K := 1074) (by omega) hn ?_ (fun h => ?_) (fun h => ?_)
  · have := congrArg Int.natAbs hsc
    rw [Int.natAbs_mul, Int.natAbs_mul, pow_cast, pow_cast, Int.natAbs_natCast, Int.natAbs_natCast] at this
    exact this
  · by_cases h0 : x + y ≤ 0
    · exact h0
    · exfalso
      have h1 : 0 < (x + y) * 2 ^ 1074 := Int.mul_pos (by omega) (hp 1074)
      rw [← hsc] at h1
      have h2 : 0 < T := Int.pos_of_mul_pos_left h1 (hp _)
      rw [if_neg (by omega)] at h
      have := of_decide_eq_true h
      omega
  · by_cases h0 : 0 ≤ x + y
    · exact h0
    · exfalso
      have h1 : (x + y) * 2 ^ 1074 < 0 := Int.mul_neg_of_neg_of_pos (by omega) (hp 1074)
      rw [← hsc] at h1
      have h2 : T < 0 := by
        rcases Int.lt_or_le T 0 with h | h
        · exact h
        · have := Int.mul_nonneg h (Int.le_of_lt (hp (min i j + 1074).toNat))
          omega
      rw [if_neg (by omega)] at h
      have := of_decide_eq_false h
      omega

theorem isF_add {a b : Nat} {x y : Int} (ha : IsF a x) (hb : IsF b y) (hn : (x + y).natAbs < 2 ^ 53) : ∃ c, floatBits .add .f64 a b = some c ∧ IsF c (x + y) := by
  obtain ⟨s, m, i, r1, i1, v1⟩ := ha
  obtain ⟨t, k, j, r2, j1, v2⟩ := hb
  obtain ⟨d, h1, h2⟩ := sum_ok i1 j1 v1 v2 hn
  refine ⟨_, ?_, h2⟩
  show ((double.read a).sum (double.read b)).map double.write = _
  rw [r1, r2, h1]; rfl

theorem isF_sub {a b : Nat} {x y : Int} (ha : IsF a x) (hb : IsF b y) (hn : (x - y).natAbs < 2 ^ 53) : ∃ c, floatBits .sub .f64 a b = some c ∧ IsF c (x - y) := by
  obtain ⟨s, m, i, r1, i1, v1⟩ := ha
  obtain ⟨t, k, j, r2, j1, v2⟩ := hb
  obtain ⟨d, h1, h2⟩ := sum_ok (t := !t) (y := -y) i1 j1 v1 (by rw [v2]; cases t <;> simp) (by rw [← Int.sub_eq_add_neg]; exact hn)
  rw [← Int.sub_eq_add_neg] at h2
  refine ⟨_, ?_, h2⟩
  show ((double.read a).sum (double.read b).opposite).map double.write = _
  rw [r1, r2]
  show (Datum.sum (.number s m i) (.number (!t) k j)).map double.write = _
  rw [h1]; rfl

theorem isF_mul {a b : Nat} {x y : Int} (ha : IsF a x) (hb : IsF b y) (hn : (x * y).natAbs < 2 ^ 53) : ∃ c, floatBits .mul .f64 a b = some c ∧ IsF c (x * y) := by
  obtain ⟨s, m, i, r1, i1, v1⟩ := ha
  obtain ⟨t, k, j, r2, j1, v2⟩ := hb
  refine ⟨double.nearest (s ^^ t) (m * k) (i + j), ?_, ?_⟩
  · show ((double.read a).product (double.read b)).map double.write = _
    rw [r1, r2]; rfl
  · have w1 : m * 2 ^ (i + 1074).toNat = x.natAbs * 2 ^ 1074 := by
      have := congrArg Int.natAbs v1
      rw [Int.natAbs_mul, Int.natAbs_mul, pow_cast, pow_cast, Int.natAbs_natCast, Int.natAbs_natCast, Int.natAbs_natCast] at this
      rw [this]; cases s <;> simp
    have w2 : k * 2 ^ (j + 1074).toNat = y.natAbs * 2 ^ 1074 := by
      have := congrArg Int.natAbs v2
      rw [Int.natAbs_mul, Int.natAbs_mul, pow_cast, pow_cast, Int.natAbs_natCast, Int.natAbs_natCast, Int.natAbs_natCast] at this
      rw [this]; cases t <;> simp
    have hp : ∀ q : Nat, (0 : Int) < 2 ^ q := fun q => by rw [pow_cast]; exact Int.natCast_pos.2 (Nat.two_pow_pos q)
    have sx : (if s then -x else x) * 2 ^ 1074 ≥ 0 := by
      rw [← v1, pow_cast]
      exact Int.mul_nonneg (Int.natCast_nonneg _) (Int.natCast_nonneg _)
    have sy : (if t then -y else y) * 2 ^ 1074 ≥ 0 := by
      rw [← v2, pow_cast]
      exact Int.mul_nonneg (Int.natCast_nonneg _) (Int.natCast_nonneg _)
    have nn : ∀ z : Int, z * 2 ^ 1074 ≥ 0 → 0 ≤ z := fun z hz => by
      rcases Int.lt_or_le z 0 with h | h
      · have := Int.mul_neg_of_neg_of_pos h (hp 1074)
        omega
      · exact h
    have sx := nn _ sx
    have sy := nn _ sy
    refine isF_nearest (K := 2148) (by omega) hn ?_ (fun h => ?_) (fun h => ?_)
    · rw [Int.natAbs_mul, show (i + j + (2148 : Nat)).toNat = (i + 1074).toNat + (j + 1074).toNat by omega, Nat.pow_add, show (2148 : Nat) = 1074 + 1074 from rfl, Nat.pow_add 2 1074 1074,
        Nat.mul_mul_mul_comm, w1, w2, Nat.mul_mul_mul_comm]
    · cases s <;> cases t <;> simp at h sx sy
      · exact Int.mul_nonpos_of_nonneg_of_nonpos sx (by omega)
      · exact Int.mul_nonpos_of_nonpos_of_nonneg (by omega) sy
    · cases s <;> cases t <;> simp at h sx sy
      · exact Int.mul_nonneg sx sy
      · exact Int.mul_nonneg_of_nonpos_of_nonpos (by omega) (by omega)

/-- A whole float cut to an int. -/
theorem isF_cut {b : Nat} {n : Int} (h : IsF b n) (hn : n.natAbs < 2 ^ 53) : floatToIntVal .f64 b .i64 = some n := by
  obtain ⟨s, m, e, r, he, hv⟩ := h
  have w : m * 2 ^ (e + 1074).toNat = n.natAbs * 2 ^ 1074 := by
    have := congrArg Int.natAbs hv
    rw [Int.natAbs_mul, Int.natAbs_mul, pow_cast, pow_cast, Int.natAbs_natCast, Int.natAbs_natCast, Int.natAbs_natCast] at this
    rw [this]; cases s <;> simp
  have hp : ∀ q : Nat, (0 : Int) < 2 ^ q := fun q => by rw [pow_cast]; exact Int.natCast_pos.2 (Nat.two_pow_pos q)
  have sg : 0 ≤ (if s then -n else n) := by
    rcases Int.lt_or_le (if s then -n else n) 0 with h | h
    · have h1 := Int.mul_neg_of_neg_of_pos h (hp 1074)
      rw [← hv, pow_cast] at h1
      have := Int.mul_nonneg (Int.natCast_nonneg m) (Int.natCast_nonneg (2 ^ (e + 1074).toNat))
      omega
    · exact h
  have hc : Toward.zero.cut s (m <<< e.toNat) (-e).toNat = n.natAbs := by
    by_cases h0 : 0 ≤ e
    · have e1 : (-e).toNat = 0 := by omega
      have e2 : m <<< e.toNat = n.natAbs := by
        rw [Nat.shiftLeft_eq]
        have P := Nat.two_pow_pos 1074
        apply Nat.eq_of_mul_eq_mul_right P
        rw [Nat.mul_assoc, ← Nat.pow_add, show e.toNat + 1074 = (e + 1074).toNat by omega, w]
      rw [e1, e2]
      have := cut_exact .zero (.inr rfl) s n.natAbs 0
      simpa using this
    · have e1 : e.toNat = 0 := by omega
      have e2 : m = n.natAbs * 2 ^ (-e).toNat := by
        have P := Nat.two_pow_pos (e + 1074).toNat
        apply Nat.eq_of_mul_eq_mul_right P
        rw [w, Nat.mul_assoc, ← Nat.pow_add, show (-e).toNat + (e + 1074).toNat = 1074 by omega]
      rw [e1, Nat.shiftLeft_zero]
      conv => lhs; rw [e2]
      exact cut_exact .zero (.inr rfl) s n.natAbs (-e).toNat
  have ht : ((FloatKind.f64.decode b).toInt .zero) = some n := by
    show ((double.read b).toInt .zero) = some n
    rw [r]
    show some (signed s (Toward.zero.cut s (m <<< e.toNat) (-e).toNat) 0) = some n
    rw [hc]
    unfold signed
    rw [Nat.shiftLeft_zero]
    cases s
    · simp at sg ⊢; omega
    · simp at sg ⊢; omega
  unfold floatToIntVal
  rw [ht]
  dsimp only
  have q53 : (2 : Nat) ^ 53 = 9007199254740992 := rfl
  rw [q53] at hn
  have m1 : IntKind.i64.min = -9223372036854775808 := rfl
  have m2 : IntKind.i64.max = 9223372036854775807 := rfl
  rw [if_pos (by rw [m1, m2]; omega)]

/-- Complex numbers whose parts are whole. -/
theorem isC_sum {a b c d : Nat} {x y u v : Int} (ha : IsF a x) (hb : IsF b y) (hc : IsF c u) (hd : IsF d v) (h1 : (x + u).natAbs < 2 ^ 53) (h2 : (y + v).natAbs < 2 ^ 53) :
    ∃ p q, cSumBits .add .f64 a b c d = some (p, q) ∧ IsF p (x + u) ∧ IsF q (y + v) := by
  obtain ⟨p, e1, f1⟩ := isF_add ha hc h1
  obtain ⟨q, e2, f2⟩ := isF_add hb hd h2
  exact ⟨p, q, by unfold cSumBits; rw [e1, e2]; rfl, f1, f2⟩
theorem isC_diff {a b c d : Nat} {x y u v : Int} (ha : IsF a x) (hb : IsF b y) (hc : IsF c u) (hd : IsF d v) (h1 : (x - u).natAbs < 2 ^ 53) (h2 : (y - v).natAbs < 2 ^ 53) :
    ∃ p q, cSumBits .sub .f64 a b c d = some (p, q) ∧ IsF p (x - u) ∧ IsF q (y - v) := by
  obtain ⟨p, e1, f1⟩ := isF_sub ha hc h1
  obtain ⟨q, e2, f2⟩ := isF_sub hb hd h2
  exact ⟨p, q, by unfold cSumBits; rw [e1, e2]; rfl, f1, f2⟩
theorem isC_mul {a b c d : Nat} {x y u v : Int} (ha : IsF a x) (hb : IsF b y) (hc : IsF c u) (hd : IsF d v) (h1 : (x * u).natAbs < 2 ^ 53) (h2 : (y * v).natAbs < 2 ^ 53) (h3 : (x * v).natAbs < 2 ^ 53) (h4 : (y * u).natAbs < 2 ^ 53)
    (h5 : (x * u - y * v).natAbs < 2 ^ 53) (h6 : (x * v + y * u).natAbs < 2 ^ 53) :
    ∃ p q, cMulBits a b c d = some (p, q) ∧ IsF p (x * u - y * v) ∧ IsF q (x * v + y * u) := by
  obtain ⟨ac, e1, f1⟩ := isF_mul ha hc h1
  obtain ⟨bd, e2, f2⟩ := isF_mul hb hd h2
  obtain ⟨p, e3, f3⟩ := isF_sub f1 f2 h5
  obtain ⟨ad, e4, f4⟩ := isF_mul ha hd h3
  obtain ⟨bc, e5, f5⟩ := isF_mul hb hc h4
  obtain ⟨q, e6, f6⟩ := isF_add f4 f5 h6
  exact ⟨p, q, by unfold cMulBits; rw [e1, e2]; dsimp only [Option.bind]; rw [e3]; dsimp only [Option.bind]; rw [e4, e5]; dsimp only [Option.bind]; rw [e6], f3, f6⟩
end Go.Ab
