/- Ways: the program's two legs, off its code. -/
import Derived.Test.YthmebldaalplpaaRoA
namespace Go.Ab
set_option linter.unusedVariables false
set_option exponentiation.threshold 3000
namespace Mo
open Pl
abbrev Dp : Pt := (0, 0)
abbrev ag2 (c b : Pt) : AV := .agg [.int .i64 c.1, .int .i64 c.2, .int .i64 b.1, .int .i64 b.2]
abbrev SRo (l : List Pt) (zr zi : Nat) (c b : Pt) (i : Int) : St := ⟨js 10 ++ (.tail 0 0 :: .cpx .f64 zr zi :: (js 22 ++ (ag2 c b :: .int .i64 i :: js 33))), [.obj (.rows tP l)]⟩
abbrev TRo (l : List Pt) (zr zi br bi : Nat) (c b to : Pt) (i : Int) : St := ⟨js 10 ++ (.tail 0 0 :: .cpx .f64 zr zi :: J :: .ptr 1 0 :: .cpx .f64 br bi :: (js 19 ++ (ag2 c b :: .int .i64 i :: js 33))), [.obj (.rows tP l), bxP to]⟩
noncomputable abbrev LRo (n z : Nat) (s : St) : Ans := loopF Q hn0 tRo n N.plan_Route 0 [1,1,1,1,0,1,0] [] z s
noncomputable abbrev MRo (n m z : Nat) (s : St) : Ans := loopF Q hn0 tRo n N.plan_Route 0 [1,1,1,1,0,1,0,0,1,1,0,0,1,1,0] [m] z s
abbrev lastP (l : List Pt) : Pt := l.getD (0 + (wr ((l.length : Int) - 1)).toNat) Dp
abbrev inL (l : List Pt) : Bool := decide ((0 : Int) ≤ wr ((l.length : Int) - 1)) && decide (wr ((l.length : Int) - 1) < (l.length : Int))
theorem eRo (p q : Pt) (how : Int) (n : Nat) : runF Q hn0 tRo n N.plan_Route [agP p, agP q, .int .i64 how] [] =
  LRo n n (SRo [nearP p] (FloatKind.f64.nearest (clipI p.1)) (FloatKind.f64.nearest (clipI p.2)) (cornerX how (nearP p) (nearP q), cornerY how (nearP p) (nearP q)) (nearP q) 0) := by kernel_rfl
theorem rRo0 (l : List Pt) (zr zi : Nat) (c b : Pt) (n m : Nat) : LRo n (m + 1) (SRo l zr zi c b 0) =
  cond (inL l) (cond (lineB (lastP l) c) (MRo n m n (TRo l zr zi (FloatKind.f64.nearest (sgnI (c.1 - (lastP l).1))) (FloatKind.f64.nearest (sgnI (c.2 - (lastP l).2))) c b c 0)) none) none := by kernel_rfl
theorem rRo1 (l : List Pt) (zr zi : Nat) (c b : Pt) (n m : Nat) : LRo n (m + 1) (SRo l zr zi c b 1) =
  cond (inL l) (cond (lineB (lastP l) b) (MRo n m n (TRo l zr zi (FloatKind.f64.nearest (sgnI (b.1 - (lastP l).1))) (FloatKind.f64.nearest (sgnI (b.2 - (lastP l).2))) c b b 1)) none) none := by kernel_rfl
theorem rRo2 (l : List Pt) (zr zi : Nat) (c b : Pt) (n m : Nat) : LRo n (m + 1) (SRo l zr zi c b 2) = some (.tail 0 0, [.obj (.rows tP l)]) := by kernel_rfl
/-- A step along a leg. -/
noncomputable abbrev goRo (n m m1 : Nat) (l : List Pt) (s : Option (Nat × Nat)) (br bi : Nat) (c b to : Pt) (i : Int) : Ans :=
  cond s.isSome (cond (floatToIntVal .f64 (s.getD (0, 0)).1 .i64).isSome (cond (floatToIntVal .f64 (s.getD (0, 0)).2 .i64).isSome (cond (decide (l.length + 1 ≤ most))
    (MRo n m m1 (TRo (l ++ [((floatToIntVal .f64 (s.getD (0, 0)).1 .i64).getD 0, (floatToIntVal .f64 (s.getD (0, 0)).2 .i64).getD 0)]) (s.getD (0, 0)).1 (s.getD (0, 0)).2 br bi c b to i)) none) none) none) none
theorem mRo0 (l : List Pt) (zr zi br bi : Nat) (c b to : Pt) (n m m1 : Nat) : MRo n m (m1 + 1) (TRo l zr zi br bi c b to 0) =
  cond (inL l) (cond (!((lastP l).1 == to.1 && ((lastP l).2 == to.2 && true))) (goRo n m m1 l (cSumBits .add .f64 zr zi br bi) br bi c b to 0) (LRo n m (SRo l zr zi c b 1))) none := by kernel_rfl
theorem mRo1 (l : List Pt) (zr zi br bi : Nat) (c b to : Pt) (n m m1 : Nat) : MRo n m (m1 + 1) (TRo l zr zi br bi c b to 1) =
  cond (inL l) (cond (!((lastP l).1 == to.1 && ((lastP l).2 == to.2 && true))) (goRo n m m1 l (cSumBits .add .f64 zr zi br bi) br bi c b to 1) (LRo n m (SRo l zr zi c b 2))) none := by kernel_rfl
end Mo
end Go.Ab
