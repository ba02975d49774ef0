/- IdsetOps, IdsetLaws: idset.sides with pick's closure: a round, off the code. -/
import Derived.Test.YthmebldaalplpaaIsF
namespace Go.Ab.Is
open Go.Proofs
set_option linter.unusedVariables false

noncomputable def t77 : Callf := deepT Q hn 0 (addT 60 gSet noCall) 2
theorem t77_ok : CallOK Q t77 := deepT_ok (addT_ok noCall_ok gSet60) 2

/-- What the three closures ask: Or (49), And (50), Less (52). -/
def kp : Nat → Bool → Bool → Bool
  | 49, o, t => o || t
  | 50, o, t => o && t
  | _, o, t => o && !t

abbrev M77 (c : Nat) (l : List Int) : List Slot := [.obj (.box [.fn (.func c) [] []]), .obj (.box [.tail 2 0]), .obj (.rows tI l)]
abbrev S77 (c : Nat) (x y l : List Int) : St := ⟨J :: J :: .fn (.func 78) [] [.ptr 0 0, .ptr 1 0] :: J :: J :: J :: .ro tI x :: .ro tI y :: js 64, M77 c l⟩
noncomputable abbrev L77 (n m : Nat) (s : St) : Ans := loopF Q hn t77 n 77 2 [1,0] [] m s
abbrev s1 (l : List Int) : Bool := decide ((0 : Int) ≤ 1) && decide ((1 : Int) ≤ (l.length : Int))
noncomputable abbrev leaf (c n m : Nat) (x y l : List Int) (o t : Bool) (v : Int) : Ans := cond (kp c o t) (cond (N l [v]) (L77 n m (S77 c x y (l ++ [v]))) none) (L77 n m (S77 c x y l))
abbrev fin77 (c : Nat) (l : List Int) : Ans := some (.tup [], M77 c l)
noncomputable abbrev go77 (c n m : Nat) (x0 y0 : Int) (x y l : List Int) (one two : Bool) : Ans :=
  cond two (cond (B (y0 :: y) 0) (cond (s1 (y0 :: y)) (cond one (cond (B (x0 :: x) 0) (cond (s1 (x0 :: x)) (leaf c n m x y l true true x0) none) none) (leaf c n m (x0 :: x) y l false true y0)) none) none)
    (cond one (cond (B (x0 :: x) 0) (cond (s1 (x0 :: x)) (leaf c n m x (y0 :: y) l true false x0) none) none) (leaf c n m (x0 :: x) (y0 :: y) l false false 0))
noncomputable abbrev two77 (c n m : Nat) (x0 y0 : Int) (x y l : List Int) (one : Bool) : Ans :=
  cond (decide (((y0 :: y).length : Int) > 0)) (cond (B (y0 :: y) 0) (cond (B (x0 :: x) 0) (go77 c n m x0 y0 x y l one (decide (y0 ≤ x0))) none) none) (go77 c n m x0 y0 x y l one false)

theorem e77 (c : Nat) (hc : c = 49 ∨ c = 50 ∨ c = 52) (a b : List Int) (n : Nat) : runF Q hn t77 n 77 [.ro tI a, .ro tI b, .fn (.func 78) [] [.ptr 0 0, .ptr 1 0]] [.obj (.box [.fn (.func c) [] []]), .obj (.box [.nils tI])] =
    cond (decide (a.length < big)) (cond (decide (b.length < big)) (L77 n n (S77 c (refSet a) (refSet b) [])) none) none := by
  rcases hc with rfl | rfl | rfl <;> kernel_rfl
theorem r77nn (c : Nat) (hc : c = 49 ∨ c = 50 ∨ c = 52) (l : List Int) (n m : Nat) : L77 n (m + 1) (S77 c [] [] l) = fin77 c l := by
  rcases hc with rfl | rfl | rfl <;> kernel_rfl
theorem r77n (c : Nat) (hc : c = 49 ∨ c = 50 ∨ c = 52) (y0 : Int) (y l : List Int) (n m : Nat) : L77 n (m + 1) (S77 c [] (y0 :: y) l) =
    cond (decide (IntKind.i64.wrap (((([] : List Int).length : Nat) : Int) + ((y0 :: y).length : Int)) > 0))
      (cond (decide (((y0 :: y).length : Int) > 0)) (cond (B (y0 :: y) 0) (cond (s1 (y0 :: y)) (leaf c n m [] y l false true y0) none) none) (leaf c n m [] (y0 :: y) l false false 0)) (fin77 c l) := by
  rcases hc with rfl | rfl | rfl <;> kernel_rfl
theorem r77x (c : Nat) (hc : c = 49 ∨ c = 50 ∨ c = 52) (x0 : Int) (x l : List Int) (n m : Nat) : L77 n (m + 1) (S77 c (x0 :: x) [] l) =
    cond (decide (IntKind.i64.wrap (((x0 :: x).length : Int) + ((([] : List Int).length : Nat) : Int)) > 0))
      (cond (decide (((x0 :: x).length : Int) > 0)) (cond (B (x0 :: x) 0) (cond (s1 (x0 :: x)) (leaf c n m x [] l true false x0) none) none) (leaf c n m (x0 :: x) [] l false false 0)) (fin77 c l) := by
  rcases hc with rfl | rfl | rfl <;> kernel_rfl
theorem r77 (c : Nat) (hc : c = 49 ∨ c = 50 ∨ c = 52) (x0 y0 : Int) (x y l : List Int) (n m : Nat) : L77 n (m + 1) (S77 c (x0 :: x) (y0 :: y) l) =
    cond (decide (IntKind.i64.wrap (((x0 :: x).length : Int) + ((y0 :: y).length : Int)) > 0))
      (cond (decide (((x0 :: x).length : Int) > 0)) (cond (B (x0 :: x) 0) (cond (B (y0 :: y) 0) (two77 c n m x0 y0 x y l (decide (x0 ≤ y0))) none) none) (two77 c n m x0 y0 x y l false)) (fin77 c l) := by
  rcases hc with rfl | rfl | rfl <;> kernel_rfl
end Go.Ab.Is
