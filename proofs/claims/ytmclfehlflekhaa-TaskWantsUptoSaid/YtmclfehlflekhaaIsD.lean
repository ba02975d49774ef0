/- IdsetTells, IdsetOps, IdsetLaws: tables of callees; slices.Contains, idset.Has, idset's set. -/
import Derived.Test.YtmclfehlflekhaaIA
import Derived.Test.YtmclfehlflekhaaIsShelf
namespace Go.Ab.Is
open Go.Proofs
set_option linter.unusedVariables false


def g81 : G
  | [.ro (.int .i64) l, .int .i64 x], [] => some (decide (l.length < big), .int .i64 (idx x l 0), [])
  | _, _ => none
def g61 : G
  | [.ro (.int .i64) l, .int .i64 x], [] => some (decide (l.length < big), .bool (l.contains x), [])
  | _, _ => none
def g31 : G
  | [.ro (.int .i64) l], [] => some (decide (l.length < big), .bool (rises l), [])
  | _, _ => none
def g80 : G
  | [.ro (.int .i64) l], [] => some (decide (l.length < big), .tail 0 0, [.obj (.rows tI l)])
  | _, _ => none
def g67 : G
  | [.tail 0 0], [.obj (.rows (.int .i64) l)] => some (decide (l.length < big), .tup [], [.obj (.rows tI (l.mergeSort fun x y => decide (x ≤ y)))])
  | _, _ => none
def g68 : G
  | [.tail 0 0], [.obj (.rows (.int .i64) l)] => some (decide (l.length < big), .tail 1 0, [.dead, .obj (.rows tI (Lib.compact l))])
  | _, _ => none
def gSet : G
  | [.ro (.int .i64) l], [] => some (decide (l.length < big), .ro tI (refSet l), [])
  | _, _ => none
def g14 : G
  | [.ro (.int .i64) l, .ro (.int .i64) k], [] => some (decide (l.length < big), .bool (decide (l = k)), [])
  | _, _ => none

theorem g81_ok (a : List AV) (m : List Slot) (r : Bool × AV × List Slot) (h : g81 a m = some r) (hk : r.1 = true) : Sound Q N.slices_Index_int a m r.2 := by
  unfold g81 at h
  split at h
  · simp only [Option.some.injEq] at h; subst h; exact s81 (of_decide_eq_true hk)
  · simp at h

def t61 : Callf := addT N.slices_Index_int g81 noCall
theorem t61_ok : CallOK Q t61 := addT_ok noCall_ok g81_ok
theorem e61 (l : List Int) (x : Int) (n : Nat) : runF Q hn t61 n N.slices_Contains_int [.ro tI l, .int .i64 x] [] = cond (decide (l.length < big)) (some (.bool (decide (idx x l 0 ≥ 0)), [])) none := by kernel_rfl
theorem s61 {l : List Int} {x : Int} (hl : l.length < big) : Sound Q N.slices_Contains_int [.ro tI l, .int .i64 x] [] (.bool (l.contains x), []) :=
  sound_of_run (hn := hn) t61_ok (n := 0) (by rw [e61, cond_dec hl, idx_has x l 0 (by omega)])
theorem g61_ok (a : List AV) (m : List Slot) (r : Bool × AV × List Slot) (h : g61 a m = some r) (hk : r.1 = true) : Sound Q N.slices_Contains_int a m r.2 := by
  unfold g61 at h
  split at h
  · simp only [Option.some.injEq] at h; subst h; exact s61 (of_decide_eq_true hk)
  · simp at h
def t33 : Callf := addT N.slices_Contains_int g61 noCall
theorem t33_ok : CallOK Q t33 := addT_ok noCall_ok g61_ok
theorem e33 (l : List Int) (x : Int) (n : Nat) : runF Q hn t33 n N.idset_Has [.ro tI l, .int .i64 x] [] = cond (decide (l.length < big)) (some (.bool (l.contains x), [])) none := by kernel_rfl
theorem s33 {l : List Int} {x : Int} (hl : l.length < big) : Sound Q N.idset_Has [.ro tI l, .int .i64 x] [] (.bool (l.contains x), []) :=
  sound_of_run (hn := hn) t33_ok (n := 0) (by rw [e33, cond_dec hl])

/-! ### the library's three -/
theorem s80 {l : List Int} (hl : l.length < big) : Sound Q N.slices_Clone_int [.ro tI l] [] (.tail 0 0, [.obj (.rows tI l)]) :=
  clone_sound (e := 3) (fun b off n c zs w h1 h2 h3 => Try.slices_Clone_int b off n c zs w h1 h2 h3) (fun n c w => Try.slices_Clone_int_nil n c w) (fun a c w => Try.slices_Clone_int_zero a c w) l (by unfold big at hl; omega)
theorem s67 {l : List Int} (hl : l.length < big) : Sound Q N.slices_Sort_int [.tail 0 0] [.obj (.rows tI l)] (.tup [], [.obj (.rows tI (l.mergeSort fun x y => decide (x ≤ y)))]) :=
  sort_sound (fun blk off cap zs w h1 h2 h3 => Try.slices_Sort_int blk off cap zs w h1 h2 h3) (fun p cap w => Try.slices_Sort_int_none p cap w) l (by unfold big at hl; omega)
theorem s68 {l : List Int} (hl : l.length < big) : Sound Q N.slices_Compact_int [.tail 0 0] [.obj (.rows tI l)] (.tail 1 0, [.dead, .obj (.rows tI (Lib.compact l))]) :=
  compact_sound (fun blk off cap zs w h1 h2 h3 => Try.slices_Compact_int blk off cap zs w h1 h2 h3) (fun p cap w => Try.slices_Compact_int_empty p cap w) l (by unfold big at hl; omega)

theorem g31_ok (a : List AV) (m : List Slot) (r : Bool × AV × List Slot) (h : g31 a m = some r) (hk : r.1 = true) : Sound Q N.idset_Right a m r.2 := by
  unfold g31 at h
  split at h
  · simp only [Option.some.injEq] at h; subst h; exact s31 (of_decide_eq_true hk)
  · simp at h
theorem g80_ok (a : List AV) (m : List Slot) (r : Bool × AV × List Slot) (h : g80 a m = some r) (hk : r.1 = true) : Sound Q N.slices_Clone_int a m r.2 := by
  unfold g80 at h
  split at h
  · simp only [Option.some.injEq] at h; subst h; exact s80 (of_decide_eq_true hk)
  · simp at h
theorem g67_ok (a : List AV) (m : List Slot) (r : Bool × AV × List Slot) (h : g67 a m = some r) (hk : r.1 = true) : Sound Q N.slices_Sort_int a m r.2 := by
  unfold g67 at h
  split at h
  · simp only [Option.some.injEq] at h; subst h; exact s67 (of_decide_eq_true hk)
  · simp at h
theorem g68_ok (a : List AV) (m : List Slot) (r : Bool × AV × List Slot) (h : g68 a m = some r) (hk : r.1 = true) : Sound Q N.slices_Compact_int a m r.2 := by
  unfold g68 at h
  split at h
  · simp only [Option.some.injEq] at h; subst h; exact s68 (of_decide_eq_true hk)
  · simp at h

/-! ### idset's set -/
def t60 : Callf := addT N.idset_Right g31 (addT N.slices_Clone_int g80 (addT N.slices_Sort_int g67 (addT N.slices_Compact_int g68 noCall)))
theorem t60_ok : CallOK Q t60 := addT_ok (addT_ok (addT_ok (addT_ok noCall_ok g68_ok) g67_ok) g80_ok) g31_ok
theorem e60 (l : List Int) (n : Nat) : runF Q hn t60 n N.idset_set [.ro tI l] [] =
  cond (decide (l.length < big)) (cond (rises l) (some (.ro tI l, [])) (cond (decide (l.length < big)) (cond (decide (l.length < big)) (cond (decide ((l.mergeSort fun x y => decide (x ≤ y)).length < big))
   (some (.tail 0 0, [.obj (.rows tI (Lib.compact (l.mergeSort fun x y => decide (x ≤ y))))])) none) none) none)) none := by kernel_rfl
theorem s60 {l : List Int} (hl : l.length < big) : Sound Q N.idset_set [.ro tI l] [] (.ro tI (refSet l), []) := by
  cases h : rises l with
  | true =>
    rw [refSet_id (rises_up.1 h)]
    exact sound_of_run (hn := hn) t60_ok (n := 0) (by rw [e60, cond_dec hl, h, cond_true])
  | false =>
    refine Sound.ro (sound_of_run (hn := hn) t60_ok (n := 0) ?_)
    rw [e60, cond_dec hl, h, cond_false, cond_dec hl, cond_dec hl, cond_dec (by simpa using hl), compact_sort]
theorem gSet60 (a : List AV) (m : List Slot) (r : Bool × AV × List Slot) (h : gSet a m = some r) (hk : r.1 = true) : Sound Q N.idset_set a m r.2 := by
  unfold gSet at h
  split at h
  · simp only [Option.some.injEq] at h; subst h; exact s60 (of_decide_eq_true hk)
  · simp at h
theorem gSet30 (a : List AV) (m : List Slot) (r : Bool × AV × List Slot) (h : gSet a m = some r) (hk : r.1 = true) : Sound Q N.ref16_Set a m r.2 := by
  unfold gSet at h
  split at h
  · simp only [Option.some.injEq] at h; subst h; exact s30 (of_decide_eq_true hk)
  · simp at h
def t29 : Callf := addT N.idset_set gSet noCall
theorem t29_ok : CallOK Q t29 := addT_ok noCall_ok gSet60
theorem g14_ok (a : List AV) (m : List Slot) (r : Bool × AV × List Slot) (h : g14 a m = some r) (hk : r.1 = true) : Sound Q N.ref01_Ints a m r.2 := by
  unfold g14 at h
  split at h
  · simp only [Option.some.injEq] at h; subst h; exact s14 (of_decide_eq_true hk)
  · simp at h
theorem g61_34 (a : List AV) (m : List Slot) (r : Bool × AV × List Slot) (h : g61 a m = some r) (hk : r.1 = true) : Sound Q N.ref16_In a m r.2 := by
  unfold g61 at h
  split at h
  · simp only [Option.some.injEq] at h; subst h; exact s34 (of_decide_eq_true hk)
  · simp at h
theorem g61_33 (a : List AV) (m : List Slot) (r : Bool × AV × List Slot) (h : g61 a m = some r) (hk : r.1 = true) : Sound Q N.idset_Has a m r.2 := by
  unfold g61 at h
  split at h
  · simp only [Option.some.injEq] at h; subst h; exact s33 (of_decide_eq_true hk)
  · simp at h
theorem g31_32 (a : List AV) (m : List Slot) (r : Bool × AV × List Slot) (h : g31 a m = some r) (hk : r.1 = true) : Sound Q N.ref17_Right a m r.2 := by
  unfold g31 at h
  split at h
  · simp only [Option.some.injEq] at h; subst h; exact s32 (of_decide_eq_true hk)
  · simp at h
end Go.Ab.Is
