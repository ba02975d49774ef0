/- Ways: the program's way is two straight legs. -/
import Derived.Test.YthmebldaalplpaaRoB
namespace Go.Ab
set_option linter.unusedVariables false
set_option exponentiation.threshold 3000
namespace Mo
open Pl
abbrev addP (a s : Pt) : Pt := (a.1 + s.1, a.2 + s.2)
/-- The next points of a straight way. -/
def seg : Nat → Pt → Pt → List Pt
  | 0, _, _ => []
  | n + 1, s, a => addP a s :: seg n s (addP a s)
def endP : Nat → Pt → Pt → Pt
  | 0, _, a => a
  | n + 1, s, a => endP n s (addP a s)
theorem endP_eq : ∀ (n : Nat) (s a : Pt), endP n s a = (a.1 + n * s.1, a.2 + n * s.2)
  | 0, s, a => by simp [endP]
  | n + 1, s, a => by
    rw [endP, endP_eq n s (addP a s)]
    simp only [Int.natCast_add, Int.add_mul, Int.cast_ofNat_Int, Int.one_mul, Prod.mk.injEq]
    omega
theorem endP_ne (n : Nat) (s a : Pt) (hs : s ≠ (0, 0)) : a ≠ endP (n + 1) s a := by
  intro h
  rw [endP_eq] at h
  have h1 := congrArg Prod.fst h
  have h2 := congrArg Prod.snd h
  dsimp only at h1 h2
  have e1 : ((n + 1 : Nat) : Int) * s.1 = 0 := by omega
  have e2 : ((n + 1 : Nat) : Int) * s.2 = 0 := by omega
  have z1 : s.1 = 0 := by rcases Int.mul_eq_zero.1 e1 with h | h <;> omega
  have z2 : s.2 = 0 := by rcases Int.mul_eq_zero.1 e2 with h | h <;> omega
  exact hs (Prod.ext z1 z2)
theorem seg_last : ∀ (n : Nat) (s a : Pt) (l : List Pt), ∃ l', l ++ a :: seg n s a = l' ++ [endP n s a] ∧ l'.length = l.length + n
  | 0, s, a, l => ⟨l, rfl, rfl⟩
  | n + 1, s, a, l => by
    obtain ⟨l', h1, h2⟩ := seg_last n s (addP a s) (l ++ [a])
    refine ⟨l', ?_, by rw [h2, List.length_append]; simp; omega⟩
    rw [seg, endP, ← h1, List.append_assoc]; rfl
theorem seg_len : ∀ (n : Nat) (s a : Pt), (seg n s a).length = n
  | 0, _, _ => rfl
  | n + 1, s, a => by rw [seg, List.length_cons, seg_len]

theorem lastP_app (l : List Pt) (x : Pt) (hl : l.length < 1000000) : lastP (l ++ [x]) = x ∧ inL (l ++ [x]) = true := by
  have e : wr (((l ++ [x]).length : Int) - 1) = (l.length : Int) := by
    rw [List.length_append, List.length_singleton]
    exact Go.Ab.wrP (by omega)
  unfold lastP inL
  rw [e]
  constructor
  · rw [Int.toNat_natCast, Nat.zero_add]; simp [List.getD]
  · simp; omega

/-- One leg. -/
theorem leg (M : Nat → List Pt → Nat → Nat → Ans) (E : List Pt → Nat → Nat → Ans) (br bi : Nat) (to s : Pt) (hbr : IsF br s.1) (hbi : IsF bi s.2) (hs1 : s.1.natAbs ≤ 1) (hs2 : s.2.natAbs ≤ 1)
    (hM : ∀ m1 l zr zi, M (m1 + 1) l zr zi = cond (inL l) (cond (!((lastP l).1 == to.1 && ((lastP l).2 == to.2 && true)))
      (cond (cSumBits .add .f64 zr zi br bi).isSome (cond (floatToIntVal .f64 ((cSumBits .add .f64 zr zi br bi).getD (0, 0)).1 .i64).isSome (cond (floatToIntVal .f64 ((cSumBits .add .f64 zr zi br bi).getD (0, 0)).2 .i64).isSome (cond (decide (l.length + 1 ≤ most))
        (M m1 (l ++ [((floatToIntVal .f64 ((cSumBits .add .f64 zr zi br bi).getD (0, 0)).1 .i64).getD 0, (floatToIntVal .f64 ((cSumBits .add .f64 zr zi br bi).getD (0, 0)).2 .i64).getD 0)]) ((cSumBits .add .f64 zr zi br bi).getD (0, 0)).1 ((cSumBits .add .f64 zr zi br bi).getD (0, 0)).2) none) none) none) none)
      (E l zr zi)) none) :
    ∀ (n m1 : Nat) (l : List Pt) (cur : Pt) (zr zi : Nat), n < m1 → l.length + n < 100000 → cur.1.natAbs + n ≤ 10000 → cur.2.natAbs + n ≤ 10000 → (n ≠ 0 → s ≠ (0, 0)) → IsF zr cur.1 → IsF zi cur.2 → endP n s cur = to →
      ∃ zr' zi', IsF zr' to.1 ∧ IsF zi' to.2 ∧ M m1 (l ++ [cur]) zr zi = E (l ++ cur :: seg n s cur) zr' zi' := by
  intro n
  induction n with
  | zero =>
    intro m1 l cur zr zi hm hl h1 h2 hs hr hi he
    obtain ⟨m1, rfl⟩ : ∃ k, m1 = k + 1 := ⟨m1 - 1, by omega⟩
    obtain ⟨e1, e2⟩ := lastP_app l cur (by omega)
    have he : cur = to := he
    subst he
    refine ⟨zr, zi, hr, hi, ?_⟩
    rw [hM, e1, e2]
    simp only [beq_self_eq_true, Bool.and_self, Bool.not_true, cond_true, cond_false]
    rfl
  | succ n ih =>
    intro m1 l cur zr zi hm hl h1 h2 hs hr hi he
    obtain ⟨m1, rfl⟩ : ∃ k, m1 = k + 1 := ⟨m1 - 1, by omega⟩
    obtain ⟨e1, e2⟩ := lastP_app l cur (by omega)
    have hne : cur ≠ to := by rw [← he]; exact endP_ne n s cur (hs (by omega))
    have e3 : (cur.1 == to.1 && (cur.2 == to.2 && true)) = false := by
      rw [Bool.eq_false_iff]
      intro h
      simp only [Bool.and_eq_true, beq_iff_eq] at h
      exact hne (Prod.ext h.1 h.2.1)
    obtain ⟨c, d, d1, d2, d3⟩ := isC_sum hr hi hbr hbi (by rw [q53]; omega) (by rw [q53]; omega)
    obtain ⟨zr', zi', k1, k2, k3⟩ := ih m1 (l ++ [cur]) (addP cur s) c d (by omega) (by rw [List.length_append, List.length_singleton]; omega) (by dsimp only; omega) (by dsimp only; omega) (fun _ => hs (by omega)) d2 d3 he
    refine ⟨zr', zi', k1, k2, ?_⟩
    rw [hM, e1, e2, e3, d1]
    simp only [Option.isSome_some, Option.getD_some, Bool.not_false, cond_true]
    rw [isF_cut d2 (by rw [q53]; omega), isF_cut d3 (by rw [q53]; omega)]
    simp only [Option.isSome_some, Option.getD_some, cond_true]
    rw [cond_dec (by rw [List.length_append, List.length_singleton]; unfold most; omega), k3, seg, List.append_assoc]
    rfl

theorem endP_line (a c : Pt) (h : a.1 = c.1 ∨ a.2 = c.2) : endP ((c.1 - a.1).natAbs + (c.2 - a.2).natAbs) (sgnI (c.1 - a.1), sgnI (c.2 - a.2)) a = c := by
  have key : ∀ z : Int, ((z.natAbs : Nat) : Int) * sgnI z = z := fun z => by
    unfold sgnI
    split
    · omega
    · split <;> omega
  rw [endP_eq]
  obtain ⟨a1, a2⟩ := a
  obtain ⟨c1, c2⟩ := c
  dsimp only at h ⊢
  rcases h with rfl | rfl
  · have := key (c2 - a2)
    rw [show ((a1 - a1).natAbs + (c2 - a2).natAbs : Nat) = (c2 - a2).natAbs by omega, this]
    simp only [Int.sub_self]
    rw [show sgnI 0 = 0 from rfl, Int.mul_zero]
    simp only [Int.add_zero, Prod.mk.injEq, true_and]; omega
  · have := key (c1 - a1)
    rw [show ((c1 - a1).natAbs + (a2 - a2).natAbs : Nat) = (c1 - a1).natAbs by omega, this]
    simp only [Int.sub_self]
    rw [show sgnI 0 = 0 from rfl, Int.mul_zero]
    simp only [Int.add_zero, Prod.mk.injEq, and_true]; omega
/-- A straight way's points behind the first one. -/
def lineL (a c : Pt) : List Pt := seg ((c.1 - a.1).natAbs + (c.2 - a.2).natAbs) (sgnI (c.1 - a.1), sgnI (c.2 - a.2)) a
def cornP (how : Int) (a b : Pt) : Pt := (cornerX how a b, cornerY how a b)
/-- A way's points. -/
def routeL (p q : Pt) (how : Int) : List Pt := nearP p :: (lineL (nearP p) (cornP how (nearP p) (nearP q)) ++ lineL (cornP how (nearP p) (nearP q)) (nearP q))

theorem near_bd (p : Pt) : (-1000 ≤ (nearP p).1 ∧ (nearP p).1 ≤ 1000) ∧ (-1000 ≤ (nearP p).2 ∧ (nearP p).2 ≤ 1000) := by
  unfold nearP clipI; dsimp only; omega
theorem sgn_bd (x : Int) : (sgnI x).natAbs ≤ 1 := by
  unfold sgnI
  split
  · decide
  · split <;> decide
theorem sgn_zero {x : Int} (h : sgnI x = 0) : x = 0 := by
  unfold sgnI at h
  split at h
  · omega
  · split at h <;> omega
theorem sgn_isF (x : Int) : IsF (FloatKind.f64.nearest (sgnI x)) (sgnI x) := isF_int _ (by have := sgn_bd x; rw [q53]; omega)

theorem run_ro (p q : Pt) (how : Int) (n : Nat) (hn : 3000 < n) : runF Q hn0 tRo n N.plan_Route [agP p, agP q, .int .i64 how] [] = some (.tail 0 0, [.obj (.rows tP (routeL p q how))]) := by
  rw [eRo]
  obtain ⟨⟨a1, a2⟩, a3, a4⟩ := near_bd p
  obtain ⟨⟨b1, b2⟩, b3, b4⟩ := near_bd q
  have hf1 : IsF (FloatKind.f64.nearest (clipI p.1)) (nearP p).1 := isF_int (nearP p).1 (by rw [q53]; omega)
  have hf2 : IsF (FloatKind.f64.nearest (clipI p.2)) (nearP p).2 := isF_int (nearP p).2 (by rw [q53]; omega)
  unfold routeL
  have hc : (cornP how (nearP p) (nearP q) = ((nearP p).1, (nearP q).2)) ∨ (cornP how (nearP p) (nearP q) = ((nearP q).1, (nearP p).2)) := by
    unfold cornP cornerX cornerY
    cases how == 1
    · exact .inr rfl
    · exact .inl rfl
  show LRo n n (SRo [nearP p] _ _ (cornP how (nearP p) (nearP q)) (nearP q) 0) = _
  generalize nearP p = a at *
  generalize nearP q = b at *
  generalize cornP how a b = c at *
  have hac : a.1 = c.1 ∨ a.2 = c.2 := by rcases hc with rfl | rfl <;> simp
  have hcb : c.1 = b.1 ∨ c.2 = b.2 := by rcases hc with rfl | rfl <;> simp
  have c1 : -1000 ≤ c.1 ∧ c.1 ≤ 1000 := by rcases hc with rfl | rfl <;> dsimp only <;> omega
  have c2 : -1000 ≤ c.2 ∧ c.2 ≤ 1000 := by rcases hc with rfl | rfl <;> dsimp only <;> omega
  obtain ⟨m, hm⟩ : ∃ m, n = m + 3 := ⟨n - 3, by omega⟩
  obtain ⟨f1, f2⟩ := lastP_app [] a (by simp)
  rw [List.nil_append] at f1 f2
  have e1 : LRo n n (SRo [a] (FloatKind.f64.nearest (clipI p.1)) (FloatKind.f64.nearest (clipI p.2)) c b 0) = MRo n (m + 2) n (TRo [a] (FloatKind.f64.nearest (clipI p.1)) (FloatKind.f64.nearest (clipI p.2)) (FloatKind.f64.nearest (sgnI (c.1 - a.1))) (FloatKind.f64.nearest (sgnI (c.2 - a.2))) c b c 0) := by
    conv => lhs; rw [show LRo n n = LRo n (m + 2 + 1) by rw [hm]]
    rw [rRo0, f1, f2, cond_true]
    have : lineB a c = true := decide_eq_true ⟨hac, by omega, by omega, by omega, by omega⟩
    rw [this, cond_true]
  obtain ⟨zr, zi, g1, g2, g3⟩ := leg (fun m1 l zr zi => MRo n (m + 2) m1 (TRo l zr zi (FloatKind.f64.nearest (sgnI (c.1 - a.1))) (FloatKind.f64.nearest (sgnI (c.2 - a.2))) c b c 0)) (fun l zr zi => LRo n (m + 2) (SRo l zr zi c b 1)) _ _ c (sgnI (c.1 - a.1), sgnI (c.2 - a.2)) (sgn_isF _) (sgn_isF _) (sgn_bd _) (sgn_bd _)
    (fun m1 l zr zi => mRo0 l zr zi _ _ c b c n (m + 2) m1) ((c.1 - a.1).natAbs + (c.2 - a.2).natAbs) n [] a _ _ (by omega) (by simp; omega) (by omega) (by omega)
    (fun h0 hz => h0 (by have z1 := sgn_zero (congrArg Prod.fst hz); have z2 := sgn_zero (congrArg Prod.snd hz); omega)) hf1 hf2 (endP_line a c hac)
  rw [List.nil_append] at g3
  obtain ⟨l1, k1, k2⟩ := seg_last ((c.1 - a.1).natAbs + (c.2 - a.2).natAbs) (sgnI (c.1 - a.1), sgnI (c.2 - a.2)) a []
  rw [List.nil_append, endP_line a c hac] at k1
  rw [List.nil_append] at g3
  obtain ⟨f3, f4⟩ := lastP_app l1 c (by rw [k2]; simp; omega)
  rw [e1, g3, k1, rRo1, f3, f4, cond_true]
  have : lineB c b = true := decide_eq_true ⟨hcb, by omega, by omega, by omega, by omega⟩
  rw [this, cond_true]
  obtain ⟨zr2, zi2, g4, g5, g6⟩ := leg (fun m1 l zr zi => MRo n (m + 1) m1 (TRo l zr zi (FloatKind.f64.nearest (sgnI (b.1 - c.1))) (FloatKind.f64.nearest (sgnI (b.2 - c.2))) c b b 1)) (fun l zr zi => LRo n (m + 1) (SRo l zr zi c b 2)) _ _ b (sgnI (b.1 - c.1), sgnI (b.2 - c.2)) (sgn_isF _) (sgn_isF _) (sgn_bd _) (sgn_bd _)
    (fun m1 l zr zi => mRo1 l zr zi _ _ c b b n (m + 1) m1) ((b.1 - c.1).natAbs + (b.2 - c.2).natAbs) n l1 c _ _ (by omega) (by rw [k2]; simp; omega) (by omega) (by omega)
    (fun h0 hz => h0 (by have z1 := sgn_zero (congrArg Prod.fst hz); have z2 := sgn_zero (congrArg Prod.snd hz); omega)) g1 g2 (endP_line c b hcb)
  rw [g6, rRo2]
  have : l1 ++ c :: seg ((b.1 - c.1).natAbs + (b.2 - c.2).natAbs) (sgnI (b.1 - c.1), sgnI (b.2 - c.2)) c = a :: (lineL a c ++ lineL c b) := by
    rw [show l1 ++ c :: seg ((b.1 - c.1).natAbs + (b.2 - c.2).natAbs) (sgnI (b.1 - c.1), sgnI (b.2 - c.2)) c = (l1 ++ [c]) ++ seg ((b.1 - c.1).natAbs + (b.2 - c.2).natAbs) (sgnI (b.1 - c.1), sgnI (b.2 - c.2)) c by rw [List.append_assoc]; rfl, ← k1]
    rfl
  rw [this]
end Mo
end Go.Ab
