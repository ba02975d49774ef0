/- IdsetTells, IdsetOps, IdsetLaws: the smallest functions: what they compute, each off its own code. -/
import Derived.Test.YtmclfehlflekhaaNA
import Derived.Lib.SlicesCompact
import Derived.Lib.RowBridge
namespace Go.Ab.Is
open Go.Proofs
set_option linter.unusedVariables false

noncomputable abbrev Q : Program := Go.Proofs.Try.prog
noncomputable def hn : Hints := ⟨fun f => f == N.slices_Clone_int || f == N.slices_Sort_int || f == N.slices_Compact_int⟩
abbrev big : Nat := 268435456

/-! ### ref16.In, slices.Index -/
abbrev S34 (l : List Int) (x i : Int) : St := ⟨.ro tI l :: .int .i64 x :: J :: J :: J :: .int .i64 i :: js 12, []⟩
noncomputable abbrev L34 (n m : Nat) (s : St) : Ans := loopF Q hn noCall n N.ref16_In 0 [1,0,1,0] [] m s
theorem e34 (l : List Int) (x : Int) (n : Nat) : runF Q hn noCall n N.ref16_In [.ro tI l, .int .i64 x] [] = L34 n n (S34 l x 0) := by kernel_rfl
theorem r34 (l : List Int) (x i : Int) (n m : Nat) : L34 n (m + 1) (S34 l x i) =
    cond (decide (i < (l.length : Int))) (cond (decide (0 ≤ i) && decide (i < (l.length : Int))) (cond (l.getD i.toNat 0 == x) (some (.bool true, [])) (L34 n m (S34 l x (IntKind.i64.wrap (i + 1))))) none) (some (.bool false, [])) := by kernel_rfl

theorem in_loop (l : List Int) (x : Int) (n : Nat) (hl : l.length < big) : ∀ (m i : Nat), l.length - i < m → L34 n m (S34 l x i) = some (.bool ((l.drop i).contains x), []) := by
  intro m
  induction m with
  | zero => intro i h; omega
  | succ m ih =>
    intro i h
    rw [r34, dec_lt, dec_nn, Bool.true_and]
    by_cases hi : i < l.length
    · rw [cond_dec hi, cond_dec hi, Int.toNat_natCast, getD_lt hi, wrapN (by unfold big at hl; omega), ih (i + 1) (by omega), List.drop_eq_getElem_cons hi, List.contains_cons]
      by_cases hx : l[i] = x
      · simp [hx]
      · have : (x == l[i]) = false := by simp; exact fun e => hx e.symm
        have h2 : (l[i] == x) = false := by simpa using hx
        rw [this, h2]; simp
    · rw [cond_dec' hi, List.drop_eq_nil_of_le (by omega)]; rfl

theorem s34 {l : List Int} {x : Int} (hl : l.length < big) : Sound Q N.ref16_In [.ro tI l, .int .i64 x] [] (.bool (l.contains x), []) :=
  sound_of_run (hn := hn) noCall_ok (n := l.length + 1) (by rw [e34]; exact in_loop l x _ hl _ 0 (by omega))

def idx (x : Int) : List Int → Int → Int
  | [], _ => -1
  | a :: t, i => if x = a then i else idx x t (i + 1)

abbrev S81 (l : List Int) (x c i : Int) : St := ⟨.ro tI l :: .int .i64 x :: J :: J :: J :: J :: J :: .int .i64 c :: .int .i64 i :: js 10, []⟩
noncomputable abbrev L81 (n m : Nat) (s : St) : Ans := loopF Q hn noCall n N.slices_Index_int 0 [1,0,1,0] [] m s
theorem e81 (l : List Int) (x : Int) (n : Nat) : runF Q hn noCall n N.slices_Index_int [.ro tI l, .int .i64 x] [] = L81 n n (S81 l x (l.length : Int) 0) := by kernel_rfl
theorem r81 (l : List Int) (x c i : Int) (n m : Nat) : L81 n (m + 1) (S81 l x c i) =
    cond (decide (i < c)) (cond (decide (0 ≤ i) && decide (i < (l.length : Int))) (cond (x == l.getD i.toNat 0) (some (.int .i64 i, [])) (L81 n m (S81 l x c (IntKind.i64.wrap (i + 1))))) none) (some (.int .i64 (-1), [])) := by kernel_rfl

theorem idx_loop (l : List Int) (x : Int) (n : Nat) (hl : l.length < big) : ∀ (m i : Nat), l.length - i < m → L81 n m (S81 l x (l.length : Int) i) = some (.int .i64 (idx x (l.drop i) i), []) := by
  intro m
  induction m with
  | zero => intro i h; omega
  | succ m ih =>
    intro i h
    rw [r81, dec_lt, dec_nn, Bool.true_and]
    by_cases hi : i < l.length
    · rw [cond_dec hi, cond_dec hi, Int.toNat_natCast, getD_lt hi, wrapN (by unfold big at hl; omega), ih (i + 1) (by omega), List.drop_eq_getElem_cons hi, idx]
      by_cases hx : x = l[i]
      · simp [hx]
      · have h2 : (x == l[i]) = false := by simpa using hx
        rw [h2]; simp [hx]
    · rw [cond_dec' hi, List.drop_eq_nil_of_le (by omega)]; rfl

theorem s81 {l : List Int} {x : Int} (hl : l.length < big) : Sound Q N.slices_Index_int [.ro tI l, .int .i64 x] [] (.int .i64 (idx x l 0), []) :=
  sound_of_run (hn := hn) noCall_ok (n := l.length + 1) (by rw [e81]; exact idx_loop l x _ hl _ 0 (by omega))

theorem idx_has (x : Int) : ∀ (l : List Int) (i : Int), 0 ≤ i → (decide (idx x l i ≥ 0)) = l.contains x
  | [], i, h => by simp [idx]
  | a :: t, i, h => by
    rw [idx, List.contains_cons]
    by_cases hx : x = a
    · simp [hx]; omega
    · rw [if_neg hx, idx_has x t (i + 1) (by omega)]
      simp [hx]

/-! ### Right, by both -/
def rises : List Int → Bool
  | [] => true
  | [_] => true
  | a :: b :: t => decide (a < b) && rises (b :: t)

abbrev S31 (l : List Int) (i : Int) : St := ⟨.ro tI l :: J :: J :: .int .i64 i :: js 16, []⟩
noncomputable abbrev L31 (n m : Nat) (s : St) : Ans := labelF Q hn noCall n N.idset_Right 0 [1] [] 0 m s
noncomputable abbrev L32 (n m : Nat) (s : St) : Ans := loopF Q hn noCall n N.ref17_Right 0 [1,0,1,0] [] m s
theorem r31 (l : List Int) (i : Int) (n m : Nat) : L31 n (m + 1) (S31 l i) =
  cond (decide (i ≥ (l.length : Int))) (some (.bool true, [])) (cond (decide (0 ≤ IntKind.i64.wrap (i-1)) && decide (IntKind.i64.wrap (i-1) < l.length)) (cond (decide (0 ≤ i) && decide (i < l.length))
   (cond (decide (l.getD (IntKind.i64.wrap (i - 1)).toNat 0 < l.getD i.toNat 0)) (L31 n m (S31 l (IntKind.i64.wrap (i+1)))) (some (.bool false, []))) none) none) := by kernel_rfl
theorem e31 (l : List Int) (n : Nat) : runF Q hn noCall n N.idset_Right [.ro tI l] [] =
  cond (decide ((1:Int) ≥ (l.length : Int))) (some (.bool true, [])) (cond (decide (0 ≤ IntKind.i64.wrap ((1:Int)-1)) && decide (IntKind.i64.wrap ((1:Int)-1) < l.length)) (cond (decide (0 ≤ (1:Int)) && decide ((1:Int) < l.length))
   (cond (decide (l.getD (IntKind.i64.wrap ((1:Int) - 1)).toNat 0 < l.getD (1:Int).toNat 0)) (L31 n n (S31 l (IntKind.i64.wrap ((1:Int)+1)))) (some (.bool false, []))) none) none) := by kernel_rfl
theorem e32 (l : List Int) (n : Nat) : runF Q hn noCall n N.ref17_Right [.ro tI l] [] = L32 n n (S31 l 1) := by kernel_rfl
theorem r32 (l : List Int) (i : Int) (n m : Nat) : L32 n (m + 1) (S31 l i) =
  cond (decide (i < (l.length : Int))) (cond (decide (0 ≤ i) && decide (i < l.length)) (cond (decide (0 ≤ IntKind.i64.wrap (i-1)) && decide (IntKind.i64.wrap (i-1) < l.length))
   (cond (decide (l.getD i.toNat 0 ≤ l.getD (IntKind.i64.wrap (i - 1)).toNat 0)) (some (.bool false, [])) (L32 n m (S31 l (IntKind.i64.wrap (i+1))))) none) none) (some (.bool true, [])) := by kernel_rfl

theorem rises_drop {l : List Int} {i : Nat} (hi : i + 1 < l.length) : rises (l.drop i) = (decide (l[i] < l[i + 1]) && rises (l.drop (i + 1))) := by
  rw [List.drop_eq_getElem_cons (by omega), List.drop_eq_getElem_cons hi, rises]
theorem rises_end {l : List Int} {i : Nat} (hi : l.length ≤ i + 1) : rises (l.drop i) = true := by
  have : (l.drop i).length ≤ 1 := by simp; omega
  match h : l.drop i with
  | [] => rfl
  | [_] => rfl
  | _ :: _ :: _ => rw [h] at this; simp at this

theorem right_loop (l : List Int) (n : Nat) (hl : l.length < big) : ∀ (m i : Nat), l.length - i < m → L31 n m (S31 l ((i + 1 : Nat) : Int)) = some (.bool (rises (l.drop i)), []) := by
  intro m
  induction m with
  | zero => intro i h; omega
  | succ m ih =>
    intro i h
    unfold big at hl
    rw [r31, dec_ge]
    by_cases hi : i + 1 < l.length
    · rw [cond_dec' (by omega), wrapP (by omega), dec_lt, dec_lt, dec_nn, dec_nn, Bool.true_and, Bool.true_and, cond_dec (by omega), cond_dec hi, Int.toNat_natCast, Int.toNat_natCast, getD_lt (by omega), getD_lt hi,
        wrapN (by omega), ih (i + 1) (by omega), rises_drop hi]
      by_cases hx : l[i] < l[i + 1] <;> simp [hx]
    · rw [cond_dec (by omega), rises_end (by omega)]

theorem right_run (l : List Int) (hl : l.length < big) : runF Q hn noCall (l.length + 1) N.idset_Right [.ro tI l] [] = some (.bool (rises l), []) := by
  rw [e31]
  have := right_loop l (l.length + 1) hl (l.length + 1 + 1) 0 (by omega)
  rw [r31] at this
  exact this

theorem s31 {l : List Int} (hl : l.length < big) : Sound Q N.idset_Right [.ro tI l] [] (.bool (rises l), []) := sound_of_run (hn := hn) noCall_ok (right_run l hl)

theorem right_loop' (l : List Int) (n : Nat) (hl : l.length < big) : ∀ (m i : Nat), l.length - i < m → L32 n m (S31 l ((i + 1 : Nat) : Int)) = some (.bool (rises (l.drop i)), []) := by
  intro m
  induction m with
  | zero => intro i h; omega
  | succ m ih =>
    intro i h
    unfold big at hl
    rw [r32, dec_lt]
    by_cases hi : i + 1 < l.length
    · rw [cond_dec hi, wrapP (by omega), dec_lt, dec_nn, dec_nn, Bool.true_and, Bool.true_and, cond_dec hi, cond_dec (by omega), Int.toNat_natCast, Int.toNat_natCast, getD_lt hi, getD_lt (i := i) (by omega),
        wrapN (by omega), ih (i + 1) (by omega), rises_drop hi]
      by_cases hx : l[i] < l[i + 1]
      · rw [cond_dec' (by omega)]; simp [hx]
      · rw [cond_dec (by omega)]; simp [hx]
    · rw [cond_dec' hi, rises_end (by omega)]

theorem s32 {l : List Int} (hl : l.length < big) : Sound Q N.ref17_Right [.ro tI l] [] (.bool (rises l), []) :=
  sound_of_run (hn := hn) noCall_ok (n := l.length + 1) (by rw [e32]; exact right_loop' l _ hl _ 0 (by omega))

/-! ### ref01.Ints -/
abbrev S14 (l k : List Int) (i : Int) : St := ⟨.ro tI l :: .ro tI k :: J :: J :: J :: .int .i64 i :: js 20, []⟩
noncomputable abbrev L14 (n m : Nat) (s : St) : Ans := loopF Q hn noCall n N.ref01_Ints 0 [1,1,0,1,0] [] m s
theorem e14 (l k : List Int) (n : Nat) : runF Q hn noCall n N.ref01_Ints [.ro tI l, .ro tI k] [] = cond ((l.length : Int) != (k.length : Int)) (some (.bool false, [])) (L14 n n (S14 l k 0)) := by kernel_rfl
theorem r14 (l k : List Int) (i : Int) (n m : Nat) : L14 n (m + 1) (S14 l k i) =
  cond (decide (i < (l.length : Int))) (cond (decide (0 ≤ i) && decide (i < l.length)) (cond (decide (0 ≤ i) && decide (i < k.length))
   (cond (l.getD i.toNat 0 != k.getD i.toNat 0) (some (.bool false, [])) (L14 n m (S14 l k (IntKind.i64.wrap (i+1))))) none) none) (some (.bool true, [])) := by kernel_rfl

theorem dec_cons {a b : Int} {x y : List Int} : decide (a :: x = b :: y) = (decide (a = b) && decide (x = y)) := by
  by_cases h : a = b <;> by_cases h' : x = y <;> simp [h, h']

theorem ints_loop (l k : List Int) (n : Nat) (hl : l.length < big) (hk : k.length = l.length) : ∀ (m i : Nat), l.length - i < m → L14 n m (S14 l k i) = some (.bool (decide (l.drop i = k.drop i)), []) := by
  intro m
  induction m with
  | zero => intro i h; omega
  | succ m ih =>
    intro i h
    unfold big at hl
    rw [r14, dec_lt, dec_lt, dec_nn, Bool.true_and, Bool.true_and]
    by_cases hi : i < l.length
    · rw [cond_dec hi, cond_dec hi, cond_dec (p := i < k.length) (by omega), Int.toNat_natCast, getD_lt hi, getD_lt (l := k) (i := i) (by omega), wrapN (by omega), ih (i + 1) (by omega), List.drop_eq_getElem_cons (l := l) (i := i) hi, List.drop_eq_getElem_cons (l := k) (i := i) (by omega)]
      rw [dec_cons]
      by_cases hx : l[i] = k[i]
      · have h2 : (l[i] != k[i]) = false := by simpa using hx
        rw [h2, decide_eq_true hx, Bool.true_and, cond_false]
      · have h2 : (l[i] != k[i]) = true := by simpa using hx
        rw [h2, decide_eq_false hx, Bool.false_and, cond_true]
    · rw [cond_dec' hi, List.drop_eq_nil_of_le (by omega), List.drop_eq_nil_of_le (by omega)]; simp

theorem s14 {l k : List Int} (hl : l.length < big) : Sound Q N.ref01_Ints [.ro tI l, .ro tI k] [] (.bool (decide (l = k)), []) := by
  refine sound_of_run (hn := hn) noCall_ok (n := l.length + 1) ?_
  rw [e14]
  by_cases h : k.length = l.length
  · have : ((l.length : Int) != (k.length : Int)) = false := by simp [h]
    rw [this, cond_false]
    exact ints_loop l k _ hl h _ 0 (by omega)
  · have : ((l.length : Int) != (k.length : Int)) = true := by simp; omega
    rw [this]
    have h3 : decide (l = k) = false := decide_eq_false fun e => h (by rw [e])
    rw [h3, cond_true]
end Go.Ab.Is

/- IdsetTells, IdsetOps, IdsetLaws: the document's set (ref16.Set): what it computes, off its own code. -/
namespace Go.Ab.Is
open Go.Proofs
set_option linter.unusedVariables false

abbrev S30 (l out : List Int) (i : Int) : St := ⟨.ro tI l :: J :: J :: .tail 0 0 :: .int .i64 i :: js 62, [.obj (.rows tI out)]⟩
abbrev P30 (l out next : List Int) (i k : Int) (done : Bool) : St := ⟨.ro tI l :: J :: J :: .tail 0 0 :: .int .i64 i :: .tail 1 0 :: .bool done :: .int .i64 k :: js 59, [.obj (.rows tI out), .obj (.rows tI next)]⟩
noncomputable abbrev L30 (n m : Nat) (s : St) : Ans := loopF Q hn noCall n N.ref16_Set 0 [1,1,0,1,0] [] m s
noncomputable abbrev M30 (n m m' : Nat) (s : St) : Ans := loopF Q hn noCall n N.ref16_Set 0 [1,1,0,1,0,0,1,0,0,1,1,0,1,0] [m] m' s
abbrev B (l : List Int) (i : Int) : Bool := decide (0 ≤ i) && decide (i < (l.length : Int))
abbrev C (l : List Int) (i : Int) : Bool := decide (0 ≤ i) && decide (i < ((l.length - 0 : Nat) : Int))
abbrev N (a b : List Int) : Bool := decide (a.length + b.length ≤ most)
abbrev I1 (i : Int) : Int := IntKind.i64.wrap (i + 1)

theorem e30 (l : List Int) (n : Nat) : runF Q hn noCall n N.ref16_Set [.ro tI l] [] = L30 n n (S30 l [] 0) := by kernel_rfl
theorem r30 (l out : List Int) (i : Int) (n m : Nat) : L30 n (m + 1) (S30 l out i) =
    cond (decide (i < (l.length : Int))) (M30 n m n (P30 l out [] i 0 false)) (some (.tail 0 0, [.obj (.rows tI out)])) := by kernel_rfl

theorem t30 (l out next : List Int) (i k : Int) (n m m' : Nat) : M30 n m (m' + 1) (P30 l out next i k true) =
    cond (decide (k < (out.length : Int)))
      (cond (C out k) (cond (B l i) (cond (out.getD (0 + k.toNat) 0 != l.getD i.toNat 0)
        (cond (C out k) (cond (N next [out.getD (0 + k.toNat) 0]) (M30 n m m' (P30 l out (next ++ [out.getD (0 + k.toNat) 0]) i (I1 k) true)) none) none)
        (M30 n m m' (P30 l out next i (I1 k) true))) none) none)
      (L30 n m (S30 l next (I1 i))) := by kernel_rfl

theorem f30 (l out next : List Int) (i k : Int) (n m m' : Nat) : M30 n m (m' + 1) (P30 l out next i k false) =
    cond (decide (k < (out.length : Int)))
      (cond (B l i) (cond (C out k) (cond (decide (l.getD i.toNat 0 ≤ out.getD (0 + k.toNat) 0))
        (cond (B l i) (cond (N next [l.getD i.toNat 0])
          (cond (C out k) (cond (B l i) (cond (out.getD (0 + k.toNat) 0 != l.getD i.toNat 0)
            (cond (C out k) (cond (N (next ++ [l.getD i.toNat 0]) [out.getD (0 + k.toNat) 0]) (M30 n m m' (P30 l out ((next ++ [l.getD i.toNat 0]) ++ [out.getD (0 + k.toNat) 0]) i (I1 k) true)) none) none)
            (M30 n m m' (P30 l out (next ++ [l.getD i.toNat 0]) i (I1 k) true))) none) none) none) none)
        (cond (C out k) (cond (B l i) (cond (out.getD (0 + k.toNat) 0 != l.getD i.toNat 0)
          (cond (C out k) (cond (N next [out.getD (0 + k.toNat) 0]) (M30 n m m' (P30 l out (next ++ [out.getD (0 + k.toNat) 0]) i (I1 k) false)) none) none)
          (M30 n m m' (P30 l out next i (I1 k) false))) none) none)) none) none)
      (cond (B l i) (cond (N next [l.getD i.toNat 0]) (L30 n m (S30 l (next ++ [l.getD i.toNat 0]) (I1 i))) none) none) := by kernel_rfl

/-- One number put into a rising list; done: it lies ahead of here. -/
def ins (x : Int) : Bool → List Int → List Int
  | true, [] => []
  | false, [] => [x]
  | true, o :: t => (if o = x then [] else [o]) ++ ins x true t
  | false, o :: t => if x ≤ o then x :: ((if o = x then [] else [o]) ++ ins x true t) else (if o = x then [] else [o]) ++ ins x false t

theorem insT_len (x : Int) : ∀ (l : List Int), (ins x true l).length ≤ l.length
  | [] => by simp [ins]
  | o :: t => by have := insT_len x t; simp only [ins]; split <;> simp <;> omega

theorem ins_len (x : Int) : ∀ (d : Bool) (l : List Int), (ins x d l).length ≤ l.length + 1
  | true, l => Nat.le_succ_of_le (insT_len x l)
  | false, [] => by simp [ins]
  | false, o :: t => by
    have h1 := insT_len x t
    have h2 := ins_len x false t
    simp only [ins]; split <;> split <;> simp <;> omega

theorem B_true {l : List Int} {i : Nat} (h : i < l.length) : B l (i : Int) = true := by unfold B; simp [h]
theorem C_true {l : List Int} {i : Nat} (h : i < l.length) : C l (i : Int) = true := by unfold C; simp [h]
theorem N_true {a b : List Int} (h : a.length + b.length ≤ most) : N a b = true := by unfold N; simpa using h
theorem getD_0 {l : List Int} {i : Nat} (h : i < l.length) : l.getD (0 + (i : Int).toNat) 0 = l[i] := by simp [List.getD, h]
theorem getD_1 {l : List Int} {i : Nat} (h : i < l.length) : l.getD (i : Int).toNat 0 = l[i] := by simp [List.getD, h]

theorem t30_loop (l out : List Int) (n m i : Nat) (hi : i < l.length) (hl : l.length < big) (ho : out.length ≤ i) : ∀ (m' k : Nat) (next : List Int), out.length - k < m' → next.length ≤ k + 1 →
    M30 n m m' (P30 l out next i k true) = L30 n m (S30 l (next ++ ins l[i] true (out.drop k)) ((i + 1 : Nat) : Int)) := by
  intro m'
  unfold big at hl
  induction m' with
  | zero => intro k next h; omega
  | succ m' ih =>
    intro k next h hn
    rw [t30, dec_lt]
    by_cases hk : k < out.length
    · rw [cond_dec hk, C_true hk, B_true hi, getD_0 hk, getD_1 hi, N_true (by simp [most]; omega), List.drop_eq_getElem_cons (l := out) hk, ins]
      simp only [cond_true, I1]
      rw [wrapN (by omega)]
      by_cases hx : out[k] = l[i]
      · have h2 : (out[k] != l[i]) = false := by simpa using hx
        rw [h2, cond_false, ih (k + 1) next (by omega) (by omega), if_pos hx, List.nil_append]
      · have h2 : (out[k] != l[i]) = true := by simpa using hx
        rw [h2, cond_true, ih (k + 1) _ (by omega) (by simp; omega), if_neg hx, List.append_assoc]
    · rw [cond_dec' hk, @List.drop_eq_nil_of_le Int out _ (by omega), ins, List.append_nil, I1, wrapN (by omega)]

theorem f30_loop (l out : List Int) (n m i : Nat) (hi : i < l.length) (hl : l.length < big) (ho : out.length ≤ i) : ∀ (m' k : Nat) (next : List Int), out.length - k < m' → k ≤ out.length → next.length ≤ k →
    M30 n m m' (P30 l out next i k false) = L30 n m (S30 l (next ++ ins l[i] false (out.drop k)) ((i + 1 : Nat) : Int)) := by
  intro m'
  have hl' := hl
  unfold big at hl'
  induction m' with
  | zero => intro k next h; omega
  | succ m' ih =>
    intro k next h hko hn
    rw [f30, dec_lt]
    by_cases hk : k < out.length
    · rw [cond_dec hk, C_true hk, B_true hi, getD_0 hk, getD_1 hi, N_true (by simp [most]; omega), N_true (by simp [most]; omega), N_true (by simp [most]; omega), List.drop_eq_getElem_cons (l := out) hk, ins]
      simp only [cond_true, I1]
      rw [wrapN (by omega)]
      by_cases hle : l[i] ≤ out[k]
      · rw [cond_dec hle, if_pos hle]
        by_cases hx : out[k] = l[i]
        · have h2 : (out[k] != l[i]) = false := by simpa using hx
          rw [h2, cond_false, t30_loop l out n m i hi hl ho m' (k + 1) _ (by omega) (by simp; omega), if_pos hx, List.nil_append, List.append_assoc]; rfl
        · have h2 : (out[k] != l[i]) = true := by simpa using hx
          rw [h2, cond_true, t30_loop l out n m i hi hl ho m' (k + 1) _ (by omega) (by simp; omega), if_neg hx, List.append_assoc, List.append_assoc]; rfl
      · rw [cond_dec' hle, if_neg hle]
        by_cases hx : out[k] = l[i]
        · have h2 : (out[k] != l[i]) = false := by simpa using hx
          rw [h2, cond_false, ih (k + 1) next (by omega) (by omega) (by omega), if_pos hx, List.nil_append]
        · have h2 : (out[k] != l[i]) = true := by simpa using hx
          rw [h2, cond_true, ih (k + 1) _ (by omega) (by omega) (by simp; omega), if_neg hx, List.append_assoc]
    · rw [cond_dec' hk, @List.drop_eq_nil_of_le Int out _ (by omega), ins, I1, wrapN (by omega), B_true hi, getD_1 hi, N_true (by simp [most]; omega), cond_true, cond_true]

/-- The document's set: each number put into what there is. -/
def refSet (l : List Int) : List Int := l.foldl (fun o x => ins x false o) []

theorem set_loop (l : List Int) (n : Nat) (hl : l.length < big) (hn : l.length < n) : ∀ (m i : Nat) (out : List Int), l.length - i < m → out.length ≤ i →
    L30 n m (S30 l out i) = some (.tail 0 0, [.obj (.rows tI ((l.drop i).foldl (fun o x => ins x false o) out))]) := by
  intro m
  induction m with
  | zero => intro i out h; omega
  | succ m ih =>
    intro i out h ho
    rw [r30, dec_lt]
    by_cases hi : i < l.length
    · have hf := f30_loop l out n m i hi hl ho n 0 [] (by omega) (by omega) (by simp)
      have h0 : ((0 : Nat) : Int) = 0 := rfl
      rw [h0] at hf
      rw [cond_dec hi, hf, List.nil_append, List.drop_zero, ih (i + 1) _ (by omega) (by have := ins_len l[i] false out; omega), List.drop_eq_getElem_cons (l := l) hi, List.foldl_cons]
    · rw [cond_dec' hi, @List.drop_eq_nil_of_le Int l _ (by omega), List.foldl_nil]

theorem s30 {l : List Int} (hl : l.length < big) : Sound Q N.ref16_Set [.ro tI l] [] (.ro tI (refSet l), []) :=
  Sound.ro (sound_of_run (hn := hn) noCall_ok (n := l.length + 1) (by rw [e30]; exact set_loop l _ hl (by omega) _ 0 [] (by omega) (by simp)))
end Go.Ab.Is

/- Sets of numbers, in plain words: two ways to make a rising list come to the same. -/
namespace Go.Ab.Is
set_option linter.unusedVariables false

abbrev Up (l : List Int) : Prop := l.Pairwise (· < ·)

theorem up_uniq : ∀ {a b : List Int}, Up a → Up b → (∀ x, x ∈ a ↔ x ∈ b) → a = b
  | [], [], _, _, _ => rfl
  | [], y :: b, _, _, h => by have := (h y).2 (by simp); simp at this
  | x :: a, [], _, _, h => by have := (h x).1 (by simp); simp at this
  | x :: a, y :: b, ha, hb, h => by
    rw [Up, List.pairwise_cons] at ha hb
    have hxy : x = y := by
      have h1 := (h x).1 (by simp)
      have h2 := (h y).2 (by simp)
      simp only [List.mem_cons] at h1 h2
      rcases h1 with h1 | h1
      · exact h1
      · rcases h2 with h2 | h2
        · exact h2.symm
        · have := ha.1 y h2
          have := hb.1 x h1
          omega
    subst hxy
    refine congrArg _ (up_uniq ha.2 hb.2 fun z => ?_)
    have hz := h z
    simp only [List.mem_cons] at hz
    constructor
    · intro hm
      have := ha.1 z hm
      rcases hz.1 (.inr hm) with e | e
      · omega
      · exact e
    · intro hm
      have := hb.1 z hm
      rcases hz.2 (.inr hm) with e | e
      · omega
      · exact e

theorem rises_up : ∀ {l : List Int}, rises l = true ↔ Up l
  | [] => by simp [rises]
  | [_] => by simp [rises]
  | a :: b :: t => by
    rw [rises, Bool.and_eq_true, rises_up (l := b :: t), decide_eq_true_eq]
    constructor
    · rintro ⟨h1, h2⟩
      refine List.pairwise_cons.2 ⟨fun x hx => ?_, h2⟩
      rcases List.mem_cons.1 hx with rfl | hx
      · exact h1
      · have := (List.pairwise_cons.1 h2).1 x hx; omega
    · intro h
      exact ⟨(List.pairwise_cons.1 h).1 b (by simp), (List.pairwise_cons.1 h).2⟩

theorem insT_mem (x y : Int) : ∀ (l : List Int), y ∈ ins x true l ↔ y ∈ l ∧ y ≠ x
  | [] => by simp [ins]
  | o :: t => by
    rw [ins, List.mem_append, insT_mem x y t]
    by_cases h : o = x
    · rw [if_pos h]; subst h
      simp only [List.mem_cons, List.not_mem_nil, false_or]
      constructor
      · rintro ⟨h1, h2⟩; exact ⟨.inr h1, h2⟩
      · rintro ⟨rfl | h1, h2⟩
        · exact absurd rfl h2
        · exact ⟨h1, h2⟩
    · rw [if_neg h]
      simp only [List.mem_cons, List.not_mem_nil, or_false]
      constructor
      · rintro (rfl | ⟨h1, h2⟩)
        · exact ⟨.inl rfl, h⟩
        · exact ⟨.inr h1, h2⟩
      · rintro ⟨rfl | h1, h2⟩
        · exact .inl rfl
        · exact .inr ⟨h1, h2⟩

theorem insT_up (x : Int) : ∀ {l : List Int}, Up l → Up (ins x true l)
  | [], _ => by simp [ins]
  | o :: t, h => by
    rw [Up, List.pairwise_cons] at h
    rw [ins]
    split
    · exact insT_up x h.2
    · refine List.pairwise_cons.2 ⟨fun y hy => h.1 y ?_, insT_up x h.2⟩
      exact ((insT_mem x y t).1 (by simpa using hy)).1

theorem ins_mem (x y : Int) : ∀ {l : List Int}, Up l → (y ∈ ins x false l ↔ y = x ∨ y ∈ l)
  | [], _ => by simp [ins]
  | o :: t, h => by
    rw [Up, List.pairwise_cons] at h
    rw [ins]
    by_cases hle : x ≤ o
    · rw [if_pos hle, List.mem_cons, List.mem_append, insT_mem, List.mem_cons]
      by_cases hx : o = x
      · rw [if_pos hx]; subst hx
        simp only [List.not_mem_nil, false_or]
        constructor
        · rintro (rfl | ⟨h1, _⟩)
          · exact .inl rfl
          · exact .inr (.inr h1)
        · rintro (rfl | rfl | h1)
          · exact .inl rfl
          · exact .inl rfl
          · by_cases e : y = o
            · exact .inl e
            · exact .inr ⟨h1, e⟩
      · rw [if_neg hx]
        simp only [List.mem_cons, List.not_mem_nil, or_false]
        constructor
        · rintro (rfl | rfl | ⟨h1, _⟩)
          · exact .inl rfl
          · exact .inr (.inl rfl)
          · exact .inr (.inr h1)
        · rintro (rfl | rfl | h1)
          · exact .inl rfl
          · exact .inr (.inl rfl)
          · by_cases e : y = x
            · exact .inl e
            · exact .inr (.inr ⟨h1, e⟩)
    · rw [if_neg hle, if_neg (by omega : ¬ o = x), List.mem_append, ins_mem x y h.2]
      simp only [List.mem_cons, List.not_mem_nil, or_false]
      constructor
      · rintro (h1 | h1 | h1)
        · exact .inr (.inl h1)
        · exact .inl h1
        · exact .inr (.inr h1)
      · rintro (h1 | h1 | h1)
        · exact .inr (.inl h1)
        · exact .inl h1
        · exact .inr (.inr h1)

theorem ins_up (x : Int) : ∀ {l : List Int}, Up l → Up (ins x false l)
  | [], _ => by simp [ins]
  | o :: t, h => by
    have h' := h
    rw [Up, List.pairwise_cons] at h
    rw [ins]
    by_cases hle : x ≤ o
    · rw [if_pos hle]
      have e : ((if o = x then [] else [o]) ++ ins x true t) = ins x true (o :: t) := rfl
      rw [e]
      refine List.pairwise_cons.2 ⟨fun y hy => ?_, insT_up x h'⟩
      have hm := (insT_mem x y _).1 hy
      rcases List.mem_cons.1 hm.1 with e | e
      · have := hm.2; omega
      · have := h.1 y e; omega
    · rw [if_neg hle, if_neg (by omega : ¬ o = x)]
      refine List.pairwise_cons.2 ⟨fun y hy => ?_, ins_up x h.2⟩
      rcases (ins_mem x y h.2).1 (by simpa using hy) with rfl | e
      · omega
      · exact h.1 y e

theorem refSet_from : ∀ (l out : List Int), Up out → Up (l.foldl (fun o x => ins x false o) out) ∧ ∀ y, y ∈ l.foldl (fun o x => ins x false o) out ↔ y ∈ l ∨ y ∈ out
  | [], out, h => ⟨h, fun y => by simp⟩
  | x :: l, out, h => by
    obtain ⟨h1, h2⟩ := refSet_from l (ins x false out) (ins_up x h)
    refine ⟨h1, fun y => ?_⟩
    rw [List.foldl_cons, h2 y, ins_mem x y h, List.mem_cons]
    constructor
    · rintro (h | h | h)
      · exact .inl (.inr h)
      · exact .inl (.inl h)
      · exact .inr h
    · rintro ((h | h) | h)
      · exact .inr (.inl h)
      · exact .inl h
      · exact .inr (.inr h)

theorem refSet_up (l : List Int) : Up (refSet l) := (refSet_from l [] .nil).1
theorem refSet_mem (l : List Int) (y : Int) : y ∈ refSet l ↔ y ∈ l := by
  have := (refSet_from l [] .nil).2 y
  simpa [refSet] using this

theorem refSet_id {l : List Int} (h : Up l) : refSet l = l := up_uniq (refSet_up l) h (refSet_mem l)

theorem compact_upTo (l : List Int) (hs : l.Pairwise (· ≤ ·)) : ∀ (m : Nat), m ≤ l.length → Up (Lib.compactUpTo l.toArray m) ∧ (∀ y, y ∈ Lib.compactUpTo l.toArray m ↔ y ∈ l.take m)
  | 0, _ => by simp [Lib.compactUpTo]
  | m + 1, hm => by
    obtain ⟨h1, h2⟩ := compact_upTo l hs m (by omega)
    have hlt : m < l.length := by omega
    have hget : l.toArray[m]! = l[m] := by rw [getElem!_pos _ m (by simpa using hlt)]; simp
    have mono : ∀ i (hi : i < m), l[i]'(by omega) ≤ l[m] := fun i hi => List.pairwise_iff_getElem.1 hs i m (by omega) hlt hi
    rw [Lib.compactUpTo_succ, hget]
    by_cases hk : Lib.keeps l.toArray m = true
    · rw [if_pos hk]
      refine ⟨List.pairwise_append.2 ⟨h1, by simp, fun y hy z hz => ?_⟩, fun y => ?_⟩
      · obtain rfl : z = l[m] := by simpa using hz
        obtain ⟨i, hi, rfl⟩ := List.mem_iff_getElem.1 ((h2 y).1 hy)
        have hi' : i < m := by simp at hi; omega
        rw [List.getElem_take]
        have hm0 : 0 < m := by omega
        have hne : l[m] ≠ l[m - 1] := by
          unfold Lib.keeps at hk
          have hk' := of_decide_eq_true hk
          rcases hk' with e | e
          · omega
          · rw [hget, getElem!_pos _ (m - 1) (by simp; omega)] at e
            simpa using e
        have a1 := mono (m - 1) (by omega)
        by_cases hi1 : i = m - 1
        · subst hi1; omega
        · have a2 := List.pairwise_iff_getElem.1 hs i (m - 1) (by omega) (by omega) (by omega)
          omega
      · rw [List.mem_append, h2 y, List.take_add_one, List.mem_append]
        simp [hlt]
    · rw [if_neg hk, List.append_nil]
      refine ⟨h1, fun y => ?_⟩
      rw [h2 y, List.take_add_one, List.mem_append]
      constructor
      · exact fun h => .inl h
      · rintro (h | h)
        · exact h
        · have hy : y = l[m] := by simpa [hlt] using h
          subst hy
          have hm0 : ¬ m = 0 ∧ l[m] = l[m - 1] := by
            unfold Lib.keeps at hk
            have hk' := fun c => hk (decide_eq_true c)
            refine ⟨fun e => hk' (.inl e), ?_⟩
            apply Classical.byContradiction
            intro e
            apply hk'
            right
            rw [hget, getElem!_pos _ (m - 1) (by simp; omega)]
            simpa using e
          rw [hm0.2]
          exact List.mem_iff_getElem.2 ⟨m - 1, by simp; omega, by simp⟩

theorem compact_sort (l : List Int) : Lib.compact (l.mergeSort fun x y => decide (x ≤ y)) = refSet l := by
  have hs : (l.mergeSort fun x y => decide (x ≤ y)).Pairwise (· ≤ ·) := by
    have := List.pairwise_mergeSort (le := fun x y : Int => decide (x ≤ y)) (fun a b c h1 h2 => by simp at *; omega) (fun a b => by simp; omega) l
    simpa using this
  obtain ⟨h1, h2⟩ := compact_upTo _ hs _ (Nat.le_refl _)
  refine up_uniq h1 (refSet_up l) fun y => ?_
  have e := h2 y
  rw [List.take_length] at e
  rw [refSet_mem]
  exact e.trans (by simp [List.mem_mergeSort])
end Go.Ab.Is
