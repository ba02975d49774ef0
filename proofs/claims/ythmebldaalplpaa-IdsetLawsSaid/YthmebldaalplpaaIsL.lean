/- IdsetLaws: the statement's function up to its loop, off its own code. -/
import Derived.Test.YthmebldaalplpaaIsK
namespace Go.Ab.Is
open Go.Proofs
set_option linter.unusedVariables false

abbrev X6 (a b : List Int) : List Int := pickR a b false
abbrev Y6 (a b : List Int) : List Int := pickR a b true
abbrev O6 (a b : List Int) : List Int := refSet (X6 a b ++ Y6 a b)
abbrev A6 (a b : List Int) : List Int := refSet (O6 a b ++ X6 b a)
abbrev W6 (a b : List Int) : Bool := ((pickR a b false).length : Int) == 0
abbrev t : Ans := some (.bool true, [])
abbrev f : Ans := some (.bool false, [])
noncomputable abbrev lp6 (a b : List Int) (n : Nat) : Ans := cond (decide ((A6 a b).length < big)) (L6 n n (S6 (A6 a b) [] (aboveS low (refSet (A6 a b))).1 (aboveS low (refSet (A6 a b))).2)) none
noncomputable abbrev eq6 (a b : List Int) (n : Nat) : Ans :=
  cond (two a b) (cond (W6 a b) (cond (two b a) (cond (decide (a.length < big)) (cond (decide (b.length < big)) (cond (decide ((refSet a).length < big)) (cond (W6 b a != decide (refSet a = refSet b)) f (lp6 a b n)) none) none) none) none) (lp6 a b n)) none
theorem e6 (a b c : List Int) (n : Nat) : runF Q hn t6 n 6 [.ro tI a, .ro tI b, .ro tI c] [] =
  cond (decide ((a.length : Int) > 40)) t (cond (decide ((b.length : Int) > 40)) t (cond (decide ((c.length : Int) > 40)) t
  (cond (two a b) (cond (two a b) (cond (two b a) (cond (two (X6 a b) (Y6 a b)) (cond (two (O6 a b) (X6 b a)) (cond (two a b) (cond (decide ((A6 a b).length < big))
   (cond (!decide (A6 a b = refSet (a ++ b))) f
    (cond (((A6 a b).length : Int) != IntKind.i64.wrap (IntKind.i64.wrap (((X6 a b).length : Int) + ((Y6 a b).length : Int)) + ((X6 b a).length : Int))) f
     (cond (decide ((A6 a b).length < big)) (cond (!rises (A6 a b)) f
      (cond (two (Y6 a b) a) (cond (!W6 (Y6 a b) a) f
       (cond (two a (A6 a b)) (cond (!W6 a (A6 a b)) f
        (cond (two a b) (cond (W6 a b)
          (cond (two b c) (cond (W6 b c) (cond (two a c) (cond (!W6 a c) f (eq6 a b n)) none) (eq6 a b n)) none)
          (eq6 a b n)) none)) none)) none)) none))) none) none) none) none) none) none) none))) := by kernel_rfl
end Go.Ab.Is
