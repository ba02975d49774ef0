/- Ways: the unit step, off its code. -/
import Derived.Test.YtmclfehlflekhaaMA
namespace Go.Ab
set_option linter.unusedVariables false
set_option exponentiation.threshold 3000
namespace Mo
open Pl
def gSub : G
  | [.agg [.int .i64 a, .int .i64 b], .agg [.int .i64 x, .int .i64 y]], [] => some (true, .agg [.int .i64 (clipF a - clipF x), .int .i64 (clipF b - clipF y)], [])
  | _, _ => none
def stepsI (x y : Int) : Int := ((clipF x).natAbs : Int) + ((clipF y).natAbs : Int)
def gSteps : G
  | [.agg [.int .i64 a, .int .i64 b]], [] => some (true, .int .i64 (stepsI a b), [])
  | _, _ => none
def sgnI (x : Int) : Int := if x > 0 then 1 else if x < 0 then -1 else 0
/-- Do both lie on a straight way, on a floor? -/
def lineB (p q : Pt) : Bool := decide ((p.1 = q.1 ∨ p.2 = q.2) ∧ (-1000 ≤ p.1 ∧ p.1 ≤ 1000) ∧ (-1000 ≤ p.2 ∧ p.2 ≤ 1000) ∧ (-1000 ≤ q.1 ∧ q.1 ≤ 1000) ∧ (-1000 ≤ q.2 ∧ q.2 ≤ 1000))
def gUnit : G
  | [.agg [.int .i64 a, .int .i64 b], .agg [.int .i64 x, .int .i64 y]], [] => some (lineB (a, b) (x, y), .cpx .f64 (FloatKind.f64.nearest (sgnI (x - a))) (FloatKind.f64.nearest (sgnI (y - b))), [])
  | _, _ => none
theorem div_sgn {x : Int} (h : x ≠ 0) : x.tdiv (x.natAbs : Int) = sgnI x := by
  unfold sgnI
  by_cases h1 : x > 0
  · rw [if_pos h1, show ((x.natAbs : Nat) : Int) = x by omega]; exact Int.tdiv_self h
  · rw [if_neg h1, if_pos (by omega), show ((x.natAbs : Nat) : Int) = -x by omega, Int.tdiv_neg, Int.tdiv_self h]
theorem wr_sgn (x : Int) : wr (sgnI x) = sgnI x := by
  unfold sgnI
  split
  · rfl
  · split <;> rfl
end Mo
end Go.Ab

/- Ways: the program's two legs, off its code. -/
namespace Go.Ab
set_option linter.unusedVariables false
set_option exponentiation.threshold 3000
namespace Mo
open Pl
abbrev Dp : Pt := (0, 0)
abbrev ag2 (c b : Pt) : AV := .agg [.int .i64 c.1, .int .i64 c.2, .int .i64 b.1, .int .i64 b.2]
abbrev SRo (l : List Pt) (zr zi : Nat) (c b : Pt) (i : Int) : St := ⟨js 10 ++ (.tail 0 0 :: .cpx .f64 zr zi :: (js 22 ++ (ag2 c b :: .int .i64 i :: js 33))), [.obj (.rows tP l)]⟩
abbrev TRo (l : List Pt) (zr zi br bi : Nat) (c b to : Pt) (i : Int) : St := ⟨js 10 ++ (.tail 0 0 :: .cpx .f64 zr zi :: J :: .ptr 1 0 :: .cpx .f64 br bi :: (js 19 ++ (ag2 c b :: .int .i64 i :: js 33))), [.obj (.rows tP l), bxP to]⟩
abbrev lastP (l : List Pt) : Pt := l.getD (0 + (wr ((l.length : Int) - 1)).toNat) Dp
abbrev inL (l : List Pt) : Bool := decide ((0 : Int) ≤ wr ((l.length : Int) - 1)) && decide (wr ((l.length : Int) - 1) < (l.length : Int))
end Mo
end Go.Ab

/- Ways: the program's way is two straight legs. -/
namespace Go.Ab
set_option linter.unusedVariables false
set_option exponentiation.threshold 3000
namespace Mo
open Pl
abbrev addP (a s : Pt) : Pt := (a.1 + s.1, a.2 + s.2)
/-- The next points of a straight way. -/
def seg : Nat → Pt → Pt → List Pt
  | 0, _, _ => []
  | n + 1, s, a => addP a s :: seg n s (addP a s)
def endP : Nat → Pt → Pt → Pt
  | 0, _, a => a
  | n + 1, s, a => endP n s (addP a s)
theorem endP_eq : ∀ (n : Nat) (s a : Pt), endP n s a = (a.1 + n * s.1, a.2 + n * s.2)
  | 0, s, a => by simp [endP]
  | n + 1, s, a => by
    rw [endP, endP_eq n s (addP a s)]
    simp only [Int.natCast_add, Int.add_mul, Int.cast_ofNat_Int, Int.one_mul, Prod.mk.injEq]
    omega
theorem endP_ne (n : Nat) (s a : Pt) (hs : s ≠ (0, 0)) : a ≠ endP (n + 1) s a := by
  intro h
  rw [endP_eq] at h
  have h1 := congrArg Prod.fst h
  have h2 := congrArg Prod.snd h
  dsimp only at h1 h2
  have e1 : ((n + 1 : Nat) : Int) * s.1 = 0 := by omega
  have e2 : ((n + 1 : Nat) : Int) * s.2 = 0 := by omega
  have z1 : s.1 = 0 := by rcases Int.mul_eq_zero.1 e1 with h | h <;> omega
  have z2 : s.2 = 0 := by rcases Int.mul_eq_zero.1 e2 with h | h <;> omega
  exact hs (Prod.ext z1 z2)
theorem seg_last : ∀ (n : Nat) (s a : Pt) (l : List Pt), ∃ l', l ++ a :: seg n s a = l' ++ [endP n s a] ∧ l'.length = l.length + n
  | 0, s, a, l => ⟨l, rfl, rfl⟩
  | n + 1, s, a, l => by
    obtain ⟨l', h1, h2⟩ := seg_last n s (addP a s) (l ++ [a])
    refine ⟨l', ?_, by rw [h2, List.length_append]; simp; omega⟩
    rw [seg, endP, ← h1, List.append_assoc]; rfl
theorem seg_len : ∀ (n : Nat) (s a : Pt), (seg n s a).length = n
  | 0, _, _ => rfl
  | n + 1, s, a => by rw [seg, List.length_cons, seg_len]

theorem lastP_app (l : List Pt) (x : Pt) (hl : l.length < 1000000) : lastP (l ++ [x]) = x ∧ inL (l ++ [x]) = true := by
  have e : wr (((l ++ [x]).length : Int) - 1) = (l.length : Int) := by
    rw [List.length_append, List.length_singleton]
    exact Go.Ab.wrP (by omega)
  unfold lastP inL
  rw [e]
  constructor
  · rw [Int.toNat_natCast, Nat.zero_add]; simp [List.getD]
  · simp; omega

/-- One leg. -/
theorem leg (M : Nat → List Pt → Nat → Nat → Ans) (E : List Pt → Nat → Nat → Ans) (br bi : Nat) (to s : Pt) (hbr : IsF br s.1) (hbi : IsF bi s.2) (hs1 : s.1.natAbs ≤ 1) (hs2 : s.2.natAbs ≤ 1)
    (hM : ∀ m1 l zr zi, M (m1 + 1) l zr zi = cond (inL l) (cond (!((lastP l).1 == to.1 && ((lastP l).2 == to.2 && true)))
      (cond (cSumBits .add .f64 zr zi br bi).isSome (cond (floatToIntVal .f64 ((cSumBits .add .f64 zr zi br bi).getD (0, 0)).1 .i64).isSome (cond (floatToIntVal .f64 ((cSumBits .add .f64 zr zi br bi).getD (0, 0)).2 .i64).isSome (cond (decide (l.length + 1 ≤ most))
        (M m1 (l ++ [((floatToIntVal .f64 ((cSumBits .add .f64 zr zi br bi).getD (0, 0)).1 .i64).getD 0, (floatToIntVal .f64 ((cSumBits .add .f64 zr zi br bi).getD (0, 0)).2 .i64).getD 0)]) ((cSumBits .add .f64 zr zi br bi).getD (0, 0)).1 ((cSumBits .add .f64 zr zi br bi).getD (0, 0)).2) none) none) none) none)
      (E l zr zi)) none) :
    ∀ (n m1 : Nat) (l : List Pt) (cur : Pt) (zr zi : Nat), n < m1 → l.length + n < 100000 → cur.1.natAbs + n ≤ 10000 → cur.2.natAbs + n ≤ 10000 → (n ≠ 0 → s ≠ (0, 0)) → IsF zr cur.1 → IsF zi cur.2 → endP n s cur = to →
      ∃ zr' zi', IsF zr' to.1 ∧ IsF zi' to.2 ∧ M m1 (l ++ [cur]) zr zi = E (l ++ cur :: seg n s cur) zr' zi' := by
  intro n
  induction n with
  | zero =>
    intro m1 l cur zr zi hm hl h1 h2 hs hr hi he
    obtain ⟨m1, rfl⟩ : ∃ k, m1 = k + 1 := ⟨m1 - 1, by omega⟩
    obtain ⟨e1, e2⟩ := lastP_app l cur (by omega)
    have he : cur = to := he
    subst he
    refine ⟨zr, zi, hr, hi, ?_⟩
    rw [hM, e1, e2]
    simp only [beq_self_eq_true, Bool.and_self, Bool.not_true, cond_true, cond_false]
    rfl
  | succ n ih =>
    intro m1 l cur zr zi hm hl h1 h2 hs hr hi he
    obtain ⟨m1, rfl⟩ : ∃ k, m1 = k + 1 := ⟨m1 - 1, by omega⟩
    obtain ⟨e1, e2⟩ := lastP_app l cur (by omega)
    have hne : cur ≠ to := by rw [← he]; exact endP_ne n s cur (hs (by omega))
    have e3 : (cur.1 == to.1 && (cur.2 == to.2 && true)) = false := by
      rw [Bool.eq_false_iff]
      intro h
      simp only [Bool.and_eq_true, beq_iff_eq] at h
      exact hne (Prod.ext h.1 h.2.1)
    obtain ⟨c, d, d1, d2, d3⟩ := isC_sum hr hi hbr hbi (by rw [q53]; omega) (by rw [q53]; omega)
    obtain ⟨zr', zi', k1, k2, k3⟩ := ih m1 (l ++ [cur]) (addP cur s) c d (by omega) (by rw [List.length_append, List.length_singleton]; omega) (by dsimp only; omega) (by dsimp only; omega) (fun _ => hs (by omega)) d2 d3 he
    refine ⟨zr', zi', k1, k2, ?_⟩
    rw [hM, e1, e2, e3, d1]
    simp only [Option.isSome_some, Option.getD_some, Bool.not_false, cond_true]
    rw [isF_cut d2 (by rw [q53]; omega), isF_cut d3 (by rw [q53]; omega)]
    simp only [Option.isSome_some, Option.getD_some, cond_true]
    rw [cond_dec (by rw [List.length_append, List.length_singleton]; unfold most; omega), k3, seg, List.append_assoc]
    rfl

theorem endP_line (a c : Pt) (h : a.1 = c.1 ∨ a.2 = c.2) : endP ((c.1 - a.1).natAbs + (c.2 - a.2).natAbs) (sgnI (c.1 - a.1), sgnI (c.2 - a.2)) a = c := by
  have key : ∀ z : Int, ((z.natAbs : Nat) : Int) * sgnI z = z := fun z => by
    unfold sgnI
    split
    · omega
    · split <;> omega
  rw [endP_eq]
  obtain ⟨a1, a2⟩ := a
  obtain ⟨c1, c2⟩ := c
  dsimp only at h ⊢
  rcases h with rfl | rfl
  · have := key (c2 - a2)
    rw [show ((a1 - a1).natAbs + (c2 - a2).natAbs : Nat) = (c2 - a2).natAbs by omega, this]
    simp only [Int.sub_self]
    rw [show sgnI 0 = 0 from rfl, Int.mul_zero]
    simp only [Int.add_zero, Prod.mk.injEq, true_and]; omega
  · have := key (c1 - a1)
    rw [show ((c1 - a1).natAbs + (a2 - a2).natAbs : Nat) = (c1 - a1).natAbs by omega, this]
    simp only [Int.sub_self]
    rw [show sgnI 0 = 0 from rfl, Int.mul_zero]
    simp only [Int.add_zero, Prod.mk.injEq, and_true]; omega
/-- A straight way's points behind the first one. -/
def lineL (a c : Pt) : List Pt := seg ((c.1 - a.1).natAbs + (c.2 - a.2).natAbs) (sgnI (c.1 - a.1), sgnI (c.2 - a.2)) a
def cornP (how : Int) (a b : Pt) : Pt := (cornerX how a b, cornerY how a b)
/-- A way's points. -/
def routeL (p q : Pt) (how : Int) : List Pt := nearP p :: (lineL (nearP p) (cornP how (nearP p) (nearP q)) ++ lineL (cornP how (nearP p) (nearP q)) (nearP q))

theorem near_bd (p : Pt) : (-1000 ≤ (nearP p).1 ∧ (nearP p).1 ≤ 1000) ∧ (-1000 ≤ (nearP p).2 ∧ (nearP p).2 ≤ 1000) := by
  unfold nearP clipI; dsimp only; omega
theorem sgn_bd (x : Int) : (sgnI x).natAbs ≤ 1 := by
  unfold sgnI
  split
  · decide
  · split <;> decide
theorem sgn_zero {x : Int} (h : sgnI x = 0) : x = 0 := by
  unfold sgnI at h
  split at h
  · omega
  · split at h <;> omega
theorem sgn_isF (x : Int) : IsF (FloatKind.f64.nearest (sgnI x)) (sgnI x) := isF_int _ (by have := sgn_bd x; rw [q53]; omega)

end Mo
end Go.Ab
