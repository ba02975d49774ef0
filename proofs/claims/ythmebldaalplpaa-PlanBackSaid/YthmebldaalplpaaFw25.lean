/- The framework, part 25: tables of callees, and small laws for rounds of loops. -/
import Derived.Test.YthmebldaalplpaaFw24
import Derived.KernelRfl
namespace Go.Ab
set_option linter.unusedVariables false

abbrev J := AV.junk
abbrev js (n : Nat) : List AV := List.replicate n .junk

abbrev G : Type := List AV → List Slot → Option (Bool × AV × List Slot)

/-- A table with one callee more. -/
def addT (f : FuncId) (g : G) (t : Callf) : Callf := ⟨fun f' a m => cond (Nat.beq f' f) (g a m) (t.tab f' a m), t.inl⟩

/-- A table with a callee that is interpreted in its turn, to a plain answer. -/
def inlT (P : Program) (hn : Hints) (f : FuncId) (n : Nat) (t : Callf) : Callf := ⟨fun f' a m => cond (Nat.beq f' f) ((runF P hn t n f a m).map fun r => (true, r)) (t.tab f' a m), t.inl⟩

/-- What is not in the table is interpreted in its turn, d deep. -/
def deepT (P : Program) (hn : Hints) (n : Nat) (t : Callf) : Nat → Callf
  | 0 => t
  | d + 1 => ⟨t.tab, fun f a m kk => runK P hn (deepT P hn n t d) n f a m kk⟩

section
variable {P : Program} {hn : Hints}

theorem noCall_ok : CallOK P noCall := ⟨fun f args m r h => by simp [noCall] at h, fun f args m kk ans h => by simp [noCall] at h⟩

theorem addT_ok {f : FuncId} {g : G} {t : Callf} (ht : CallOK P t) (hg : ∀ a m r, g a m = some r → r.1 = true → Sound P f a m r.2) : CallOK P (addT f g t) := by
  refine ⟨fun f' a m r h hk => ?_, ht.inl⟩
  unfold addT at h
  simp only at h
  cases hb : Nat.beq f' f with
  | false => rw [hb] at h; exact ht.tab f' a m r h hk
  | true =>
    rw [hb] at h
    have : f' = f := Nat.eq_of_beq_eq_true hb
    subst this
    exact hg a m r h hk

theorem inlT_ok {f : FuncId} {n : Nat} {t : Callf} (ht : CallOK P t) : CallOK P (inlT P hn f n t) := by
  refine ⟨fun f' a m r h hk => ?_, ht.inl⟩
  unfold inlT at h
  simp only at h
  cases hb : Nat.beq f' f with
  | false => rw [hb] at h; exact ht.tab f' a m r h hk
  | true =>
    rw [hb] at h
    have : f' = f := Nat.eq_of_beq_eq_true hb
    subst this
    simp only [cond_true, Option.map_eq_some_iff] at h
    obtain ⟨s, h1, rfl⟩ := h
    exact sound_of_run ht h1

theorem deepT_ok {n : Nat} {t : Callf} (ht : CallOK P t) : ∀ d, CallOK P (deepT P hn n t d)
  | 0 => ht
  | d + 1 => ⟨ht.tab, fun f args m kk ans h => soundK_of_run (deepT_ok ht d) h⟩

/-- An entry that holds where its test holds. -/
theorem ok_of {f : FuncId} {a : List AV} {m : List Slot} {b : Bool} {v : AV} {mm : List Slot} {r : Bool × AV × List Slot} (h : some (b, v, mm) = some r) (hk : r.1 = true) (hs : b = true → Sound P f a m (v, mm)) : Sound P f a m r.2 := by
  simp only [Option.some.injEq] at h; subst h; exact hs hk
end

theorem wrap64 {z : Int} (h : -9223372036854775808 ≤ z) (h' : z ≤ 9223372036854775807) : IntKind.i64.wrap z = z := by
  simp only [IntKind.wrap, IntKind.signed, IntKind.bits]
  simp
  omega

theorem wrapN {n : Nat} (h : n < 4611686018427387904) : IntKind.i64.wrap ((n : Int) + 1) = ((n + 1 : Nat) : Int) := by
  rw [wrap64 (by omega) (by omega)]; simp

theorem wrapP {n : Nat} (h : n < 4611686018427387904) : IntKind.i64.wrap (((n + 1 : Nat) : Int) - 1) = (n : Int) := by
  rw [wrap64 (by omega) (by omega)]; omega

theorem dec_lt {i n : Nat} : decide ((i : Int) < (n : Int)) = decide (i < n) := by simp
theorem dec_ge {i n : Nat} : decide ((i : Int) ≥ (n : Int)) = decide (n ≤ i) := by simp
theorem dec_nn {i : Nat} : decide ((0 : Int) ≤ (i : Int)) = true := by simp
theorem getD_lt {α : Type} {l : List α} {i : Nat} {d : α} (h : i < l.length) : l.getD i d = l[i] := by simp [List.getD, h]
theorem cond_dec {p : Prop} [Decidable p] {α : Type} {a b : α} (h : p) : cond (decide p) a b = a := by simp [h]
theorem cond_dec' {p : Prop} [Decidable p] {α : Type} {a b : α} (h : ¬ p) : cond (decide p) a b = b := by simp [h]
theorem cond_tt {α : Type} {a b c : Bool} {x y : α} (h : a = true) (h' : b = true) : cond (a && b) x y = x := by simp [h, h']
end Go.Ab
