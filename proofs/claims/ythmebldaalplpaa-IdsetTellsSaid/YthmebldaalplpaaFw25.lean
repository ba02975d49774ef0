/- The framework, part 25: tables of callees, and small laws for rounds of loops. -/
import Derived.Test.YthmebldaalplpaaFw24
import Derived.KernelRfl
namespace Go.Ab
set_option linter.unusedVariables false

abbrev J := AV.junk
abbrev js (n : Nat) : List AV := List.replicate n .junk

/-- A table with one callee more. -/
def addT (f : FuncId) (g : List AV → List Slot → Option (Bool × AV × List Slot)) (t : Callf) : Callf := fun f' a m => cond (Nat.beq f' f) (g a m) (t f' a m)

/-- A table with a callee that is interpreted in its turn. -/
def inlT (P : Program) (hn : Hints) (f : FuncId) (n : Nat) (t : Callf) : Callf := fun f' a m => cond (Nat.beq f' f) ((runF P hn t n f a m).map fun r => (true, r)) (t f' a m)

section
variable {P : Program} {hn : Hints}

theorem noCall_ok : CallOK P noCall := fun f args m r h => by simp [noCall] at h

theorem addT_ok {f : FuncId} {g : List AV → List Slot → Option (Bool × AV × List Slot)} {t : Callf} (ht : CallOK P t) (hg : ∀ a m r, g a m = some r → r.1 = true → Sound P f a m r.2) : CallOK P (addT f g t) := by
  intro f' a m r h hk
  unfold addT at h
  cases hb : Nat.beq f' f with
  | false => rw [hb] at h; exact ht f' a m r h hk
  | true =>
    rw [hb] at h
    have : f' = f := Nat.eq_of_beq_eq_true hb
    subst this
    exact hg a m r h hk

theorem inlT_ok {f : FuncId} {n : Nat} {t : Callf} (ht : CallOK P t) : CallOK P (inlT P hn f n t) := by
  intro f' a m r h hk
  unfold inlT at h
  cases hb : Nat.beq f' f with
  | false => rw [hb] at h; exact ht f' a m r h hk
  | true =>
    rw [hb] at h
    have : f' = f := Nat.eq_of_beq_eq_true hb
    subst this
    simp only [cond_true, Option.map_eq_some_iff] at h
    obtain ⟨s, h1, rfl⟩ := h
    exact sound_of_run ht h1
end

theorem wrap64 {z : Int} (h : -9223372036854775808 ≤ z) (h' : z ≤ 9223372036854775807) : IntKind.i64.wrap z = z := by
  simp only [IntKind.wrap, IntKind.signed, IntKind.bits]
  simp
  omega

theorem wrapN {n : Nat} (h : n < 4611686018427387904) : IntKind.i64.wrap ((n : Int) + 1) = ((n + 1 : Nat) : Int) := by
  rw [wrap64 (by omega) (by omega)]; simp

theorem wrapP {n : Nat} (h : n < 4611686018427387904) : IntKind.i64.wrap (((n + 1 : Nat) : Int) - 1) = (n : Int) := by
  rw [wrap64 (by omega) (by omega)]; omega

theorem dec_lt {i n : Nat} : decide ((i : Int) < (n : Int)) = decide (i < n) := by simp
theorem dec_ge {i n : Nat} : decide ((i : Int) ≥ (n : Int)) = decide (n ≤ i) := by simp
theorem dec_nn {i : Nat} : decide ((0 : Int) ≤ (i : Int)) = true := by simp
theorem getD_lt {α : Type} {l : List α} {i : Nat} {d : α} (h : i < l.length) : l.getD i d = l[i] := by simp [List.getD, h]
theorem cond_dec {p : Prop} [Decidable p] {α : Type} {a b : α} (h : p) : cond (decide p) a b = a := by simp [h]
theorem cond_dec' {p : Prop} [Decidable p] {α : Type} {a b : α} (h : ¬ p) : cond (decide p) a b = b := by simp [h]
theorem cond_tt {α : Type} {a b c : Bool} {x y : α} (h : a = true) (h' : b = true) : cond (a && b) x y = x := by simp [h, h']
end Go.Ab
