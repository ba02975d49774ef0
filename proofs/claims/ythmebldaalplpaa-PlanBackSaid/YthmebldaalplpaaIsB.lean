/- IdsetTells, IdsetOps, IdsetLaws: the document's set (ref16.Set): what it computes, off its own code. -/
import Derived.Test.YthmebldaalplpaaIsA
namespace Go.Ab.Is
open Go.Proofs
set_option linter.unusedVariables false

abbrev S30 (l out : List Int) (i : Int) : St := ⟨.ro tI l :: J :: J :: .tail 0 0 :: .int .i64 i :: js 62, [.obj (.rows tI out)]⟩
abbrev P30 (l out next : List Int) (i k : Int) (done : Bool) : St := ⟨.ro tI l :: J :: J :: .tail 0 0 :: .int .i64 i :: .tail 1 0 :: .bool done :: .int .i64 k :: js 59, [.obj (.rows tI out), .obj (.rows tI next)]⟩
noncomputable abbrev L30 (n m : Nat) (s : St) : Ans := loopF Q hn noCall n 30 0 [1,1,0,1,0] [] m s
noncomputable abbrev M30 (n m m' : Nat) (s : St) : Ans := loopF Q hn noCall n 30 0 [1,1,0,1,0,0,1,0,0,1,1,0,1,0] [m] m' s
abbrev B (l : List Int) (i : Int) : Bool := decide (0 ≤ i) && decide (i < (l.length : Int))
abbrev C (l : List Int) (i : Int) : Bool := decide (0 ≤ i) && decide (i < ((l.length - 0 : Nat) : Int))
abbrev N (a b : List Int) : Bool := decide (a.length + b.length ≤ most)
abbrev I1 (i : Int) : Int := IntKind.i64.wrap (i + 1)

theorem e30 (l : List Int) (n : Nat) : runF Q hn noCall n 30 [.ro tI l] [] = L30 n n (S30 l [] 0) := by kernel_rfl
theorem r30 (l out : List Int) (i : Int) (n m : Nat) : L30 n (m + 1) (S30 l out i) =
    cond (decide (i < (l.length : Int))) (M30 n m n (P30 l out [] i 0 false)) (some (.tail 0 0, [.obj (.rows tI out)])) := by kernel_rfl

theorem t30 (l out next : List Int) (i k : Int) (n m m' : Nat) : M30 n m (m' + 1) (P30 l out next i k true) =
    cond (decide (k < (out.length : Int)))
      (cond (C out k) (cond (B l i) (cond (out.getD (0 + k.toNat) 0 != l.getD i.toNat 0)
        (cond (C out k) (cond (N next [out.getD (0 + k.toNat) 0]) (M30 n m m' (P30 l out (next ++ [out.getD (0 + k.toNat) 0]) i (I1 k) true)) none) none)
        (M30 n m m' (P30 l out next i (I1 k) true))) none) none)
      (L30 n m (S30 l next (I1 i))) := by kernel_rfl

theorem f30 (l out next : List Int) (i k : Int) (n m m' : Nat) : M30 n m (m' + 1) (P30 l out next i k false) =
    cond (decide (k < (out.length : Int)))
      (cond (B l i) (cond (C out k) (cond (decide (l.getD i.toNat 0 ≤ out.getD (0 + k.toNat) 0))
        (cond (B l i) (cond (N next [l.getD i.toNat 0])
          (cond (C out k) (cond (B l i) (cond (out.getD (0 + k.toNat) 0 != l.getD i.toNat 0)
            (cond (C out k) (cond (N (next ++ [l.getD i.toNat 0]) [out.getD (0 + k.toNat) 0]) (M30 n m m' (P30 l out ((next ++ [l.getD i.toNat 0]) ++ [out.getD (0 + k.toNat) 0]) i (I1 k) true)) none) none)
            (M30 n m m' (P30 l out (next ++ [l.getD i.toNat 0]) i (I1 k) true))) none) none) none) none)
        (cond (C out k) (cond (B l i) (cond (out.getD (0 + k.toNat) 0 != l.getD i.toNat 0)
          (cond (C out k) (cond (N next [out.getD (0 + k.toNat) 0]) (M30 n m m' (P30 l out (next ++ [out.getD (0 + k.toNat) 0]) i (I1 k) false)) none) none)
          (M30 n m m' (P30 l out next i (I1 k) false))) none) none)) none) none)
      (cond (B l i) (cond (N next [l.getD i.toNat 0]) (L30 n m (S30 l (next ++ [l.getD i.toNat 0]) (I1 i))) none) none) := by kernel_rfl

/-- One number put into a rising list; done: it lies ahead of here. -/
def ins (x : Int) : Bool → List Int → List Int
  | true, [] => []
  | false, [] => [x]
  | true, o :: t => (if o = x then [] else [o]) ++ ins x true t
  | false, o :: t => if x ≤ o then x :: ((if o = x then [] else [o]) ++ ins x true t) else (if o = x then [] else [o]) ++ ins x false t

theorem insT_len (x : Int) : ∀ (l : List Int), (ins x true l).length ≤ l.length
  | [] => by simp [ins]
  | o :: t => by have := insT_len x t; simp only [ins]; split <;> simp <;> omega

theorem ins_len (x : Int) : ∀ (d : Bool) (l : List Int), (ins x d l).length ≤ l.length + 1
  | true, l => Nat.le_succ_of_le (insT_len x l)
  | false, [] => by simp [ins]
  | false, o :: t => by
    have h1 := insT_len x t
    have h2 := ins_len x false t
    simp only [ins]; split <;> split <;> simp <;> omega

theorem B_true {l : List Int} {i : Nat} (h : i < l.length) : B l (i : Int) = true := by unfold B; simp [h]
theorem C_true {l : List Int} {i : Nat} (h : i < l.length) : C l (i : Int) = true := by unfold C; simp [h]
theorem N_true {a b : List Int} (h : a.length + b.length ≤ most) : N a b = true := by unfold N; simpa using h
theorem getD_0 {l : List Int} {i : Nat} (h : i < l.length) : l.getD (0 + (i : Int).toNat) 0 = l[i] := by simp [List.getD, h]
theorem getD_1 {l : List Int} {i : Nat} (h : i < l.length) : l.getD (i : Int).toNat 0 = l[i] := by simp [List.getD, h]

theorem t30_loop (l out : List Int) (n m i : Nat) (hi : i < l.length) (hl : l.length < big) (ho : out.length ≤ i) : ∀ (m' k : Nat) (next : List Int), out.length - k < m' → next.length ≤ k + 1 →
    M30 n m m' (P30 l out next i k true) = L30 n m (S30 l (next ++ ins l[i] true (out.drop k)) ((i + 1 : Nat) : Int)) := by
  intro m'
  unfold big at hl
  induction m' with
  | zero => intro k next h; omega
  | succ m' ih =>
    intro k next h hn
    rw [t30, dec_lt]
    by_cases hk : k < out.length
    · rw [cond_dec hk, C_true hk, B_true hi, getD_0 hk, getD_1 hi, N_true (by simp [most]; omega), List.drop_eq_getElem_cons (l := out) hk, ins]
      simp only [cond_true, I1]
      rw [wrapN (by omega)]
      by_cases hx : out[k] = l[i]
      · have h2 : (out[k] != l[i]) = false := by simpa using hx
        rw [h2, cond_false, ih (k + 1) next (by omega) (by omega), if_pos hx, List.nil_append]
      · have h2 : (out[k] != l[i]) = true := by simpa using hx
        rw [h2, cond_true, ih (k + 1) _ (by omega) (by simp; omega), if_neg hx, List.append_assoc]
    · rw [cond_dec' hk, @List.drop_eq_nil_of_le Int out _ (by omega), ins, List.append_nil, I1, wrapN (by omega)]

theorem f30_loop (l out : List Int) (n m i : Nat) (hi : i < l.length) (hl : l.length < big) (ho : out.length ≤ i) : ∀ (m' k : Nat) (next : List Int), out.length - k < m' → k ≤ out.length → next.length ≤ k →
    M30 n m m' (P30 l out next i k false) = L30 n m (S30 l (next ++ ins l[i] false (out.drop k)) ((i + 1 : Nat) : Int)) := by
  intro m'
  have hl' := hl
  unfold big at hl'
  induction m' with
  | zero => intro k next h; omega
  | succ m' ih =>
    intro k next h hko hn
    rw [f30, dec_lt]
    by_cases hk : k < out.length
    · rw [cond_dec hk, C_true hk, B_true hi, getD_0 hk, getD_1 hi, N_true (by simp [most]; omega), N_true (by simp [most]; omega), N_true (by simp [most]; omega), List.drop_eq_getElem_cons (l := out) hk, ins]
      simp only [cond_true, I1]
      rw [wrapN (by omega)]
      by_cases hle : l[i] ≤ out[k]
      · rw [cond_dec hle, if_pos hle]
        by_cases hx : out[k] = l[i]
        · have h2 : (out[k] != l[i]) = false := by simpa using hx
          rw [h2, cond_false, t30_loop l out n m i hi hl ho m' (k + 1) _ (by omega) (by simp; omega), if_pos hx, List.nil_append, List.append_assoc]; rfl
        · have h2 : (out[k] != l[i]) = true := by simpa using hx
          rw [h2, cond_true, t30_loop l out n m i hi hl ho m' (k + 1) _ (by omega) (by simp; omega), if_neg hx, List.append_assoc, List.append_assoc]; rfl
      · rw [cond_dec' hle, if_neg hle]
        by_cases hx : out[k] = l[i]
        · have h2 : (out[k] != l[i]) = false := by simpa using hx
          rw [h2, cond_false, ih (k + 1) next (by omega) (by omega) (by omega), if_pos hx, List.nil_append]
        · have h2 : (out[k] != l[i]) = true := by simpa using hx
          rw [h2, cond_true, ih (k + 1) _ (by omega) (by omega) (by simp; omega), if_neg hx, List.append_assoc]
    · rw [cond_dec' hk, @List.drop_eq_nil_of_le Int out _ (by omega), ins, I1, wrapN (by omega), B_true hi, getD_1 hi, N_true (by simp [most]; omega), cond_true, cond_true]

/-- The document's set: each number put into what there is. -/
def refSet (l : List Int) : List Int := l.foldl (fun o x => ins x false o) []

theorem set_loop (l : List Int) (n : Nat) (hl : l.length < big) (hn : l.length < n) : ∀ (m i : Nat) (out : List Int), l.length - i < m → out.length ≤ i →
    L30 n m (S30 l out i) = some (.tail 0 0, [.obj (.rows tI ((l.drop i).foldl (fun o x => ins x false o) out))]) := by
  intro m
  induction m with
  | zero => intro i out h; omega
  | succ m ih =>
    intro i out h ho
    rw [r30, dec_lt]
    by_cases hi : i < l.length
    · have hf := f30_loop l out n m i hi hl ho n 0 [] (by omega) (by omega) (by simp)
      have h0 : ((0 : Nat) : Int) = 0 := rfl
      rw [h0] at hf
      rw [cond_dec hi, hf, List.nil_append, List.drop_zero, ih (i + 1) _ (by omega) (by have := ins_len l[i] false out; omega), List.drop_eq_getElem_cons (l := l) hi, List.foldl_cons]
    · rw [cond_dec' hi, @List.drop_eq_nil_of_le Int l _ (by omega), List.foldl_nil]

theorem s30 {l : List Int} (hl : l.length < big) : Sound Q 30 [.ro tI l] [] (.ro tI (refSet l), []) :=
  Sound.ro (sound_of_run (hn := hn) noCall_ok (n := l.length + 1) (by rw [e30]; exact set_loop l _ hl (by omega) _ 0 [] (by omega) (by simp)))
end Go.Ab.Is
