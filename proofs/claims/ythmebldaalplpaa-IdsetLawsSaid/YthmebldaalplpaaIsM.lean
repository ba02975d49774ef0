/- IdsetLaws: in plain words. -/
import Derived.Test.YthmebldaalplpaaIsL
namespace Go.Ab.Is
open Go.Proofs
set_option linter.unusedVariables false

theorem pickR_mem {a b : List Int} {is : Bool} {v : Int} : v ∈ pickR a b is ↔ v ∈ a ∧ (b.contains v == is) = true := by
  rw [pickR, List.mem_filter, refSet_mem]
theorem pickF_mem {a b : List Int} {v : Int} : v ∈ pickR a b false ↔ v ∈ a ∧ v ∉ b := by rw [pickR_mem]; simp
theorem pickT_mem {a b : List Int} {v : Int} : v ∈ pickR a b true ↔ v ∈ a ∧ v ∈ b := by rw [pickR_mem]; simp
theorem pickR_up (a b : List Int) (is : Bool) : Up (pickR a b is) := (refSet_up a).filter _
theorem pickR_len6 (a b : List Int) (is : Bool) : (pickR a b is).length ≤ a.length := Nat.le_trans (List.length_filter_le _ _) (refSet_len a)
theorem up_nodup {l : List Int} (h : Up l) : l.Nodup := h.imp fun h => by omega

theorem W6_iff {a b : List Int} : W6 a b = true ↔ ∀ v ∈ a, v ∈ b := by
  unfold W6
  have : (((pickR a b false).length : Int) == 0) = true ↔ pickR a b false = [] := by
    rw [beq_iff_eq]
    constructor
    · intro h; exact List.length_eq_zero_iff.1 (by omega)
    · intro h; rw [h]; rfl
  rw [this, List.eq_nil_iff_forall_not_mem]
  constructor
  · intro h v hv
    apply Classical.byContradiction
    intro hn
    exact h v (pickF_mem.2 ⟨hv, hn⟩)
  · intro h v hv
    exact (pickF_mem.1 hv).2 (h v (pickF_mem.1 hv).1)

theorem A6_mem {a b : List Int} {v : Int} : v ∈ A6 a b ↔ v ∈ a ∨ v ∈ b := by
  unfold A6 O6 X6 Y6
  rw [refSet_mem, List.mem_append, refSet_mem, List.mem_append, pickF_mem, pickT_mem, pickF_mem]
  by_cases h1 : v ∈ a <;> by_cases h2 : v ∈ b <;> simp [h1, h2]

theorem A6_eq (a b : List Int) : A6 a b = refSet (a ++ b) := up_uniq (refSet_up _) (refSet_up _) fun v => by rw [A6_mem, refSet_mem, List.mem_append]

theorem A6_len (a b : List Int) : (A6 a b).length = (X6 a b).length + (Y6 a b).length + (X6 b a).length := by
  have hp : (A6 a b).Perm ((X6 a b ++ Y6 a b) ++ X6 b a) := by
    refine (List.perm_ext_iff_of_nodup (up_nodup (refSet_up _)) ?_).2 fun v => ?_
    · refine List.nodup_append.2 ⟨List.nodup_append.2 ⟨up_nodup (pickR_up _ _ _), up_nodup (pickR_up _ _ _), fun x hx y hy e => ?_⟩, up_nodup (pickR_up _ _ _), fun x hx y hy e => ?_⟩
      · subst e; exact (pickF_mem.1 hx).2 (pickT_mem.1 hy).2
      · subst e
        rcases List.mem_append.1 hx with hx | hx
        · exact (pickF_mem.1 hx).2 (pickF_mem.1 hy).1
        · exact (pickF_mem.1 hy).2 (pickT_mem.1 hx).1
    · rw [A6_mem, List.mem_append, List.mem_append, pickF_mem, pickT_mem, pickF_mem]
      by_cases h1 : v ∈ a <;> by_cases h2 : v ∈ b <;> simp [h1, h2]
  have := hp.length_eq
  simp only [List.length_append] at this
  exact this

theorem two_true {a b : List Int} (ha : a.length < big) (hb : b.length < big) : two a b = true := by unfold two; simp [ha, hb]

theorem law6 (a b c : List Int) (wa : WfD (.list tI) a) (wb : WfD (.list tI) b) : Sound Q 6 [.ro tI a, .ro tI b, .ro tI c] [] (.bool true, []) := by
  refine sound_of_run (hn := hn) t6_ok (n := 200) ?_
  rw [e6]
  by_cases ha : a.length > 40
  · rw [cond_dec (by omega)]
  by_cases hb : b.length > 40
  · rw [cond_dec' (by omega), cond_dec (by omega)]
  by_cases hc : c.length > 40
  · rw [cond_dec' (by omega), cond_dec' (by omega), cond_dec (by omega)]
  rw [cond_dec' (by omega), cond_dec' (by omega), cond_dec' (by omega)]
  have lX := pickR_len6 a b false
  have lY := pickR_len6 a b true
  have lZ := pickR_len6 b a false
  have lA := A6_len a b
  have lO : (O6 a b).length ≤ (X6 a b).length + (Y6 a b).length := by have := refSet_len (X6 a b ++ Y6 a b); simpa using this
  have ka : a.length < big := by unfold big; omega
  have kb : b.length < big := by unfold big; omega
  have kc : c.length < big := by unfold big; omega
  have kX : (X6 a b).length < big := by unfold X6; omega
  have kY : (Y6 a b).length < big := by unfold Y6; omega
  have kZ : (X6 b a).length < big := by unfold X6; omega
  have kO : (O6 a b).length < big := by unfold X6 Y6 at lO; unfold big; omega
  have kA' : (A6 a b).length < 200 := by unfold X6 Y6 at lA; omega
  have kA : (A6 a b).length < big := by unfold big; omega
  have lp : lp6 a b 200 = some (.bool true, []) := by
    unfold lp6
    rw [cond_dec kA]
    refine told_all (A6 a b) 200 (refSet_up _) kA (fun v hv => ?_) kA'
    rcases A6_mem.1 hv with h | h
    · obtain ⟨i, hi⟩ := List.getElem?_of_mem h
      have := wa.2 i v hi
      simp [WfD, Lit.wf, IntKind.min, IntKind.max, IntKind.signed, IntKind.bits] at this
      unfold low; omega
    · obtain ⟨i, hi⟩ := List.getElem?_of_mem h
      have := wb.2 i v hi
      simp [WfD, Lit.wf, IntKind.min, IntKind.max, IntKind.signed, IntKind.bits] at this
      unfold low; omega
  have eq : eq6 a b 200 = some (.bool true, []) := by
    unfold eq6
    rw [two_true ka kb, cond_true]
    cases hw : W6 a b with
    | false => rw [cond_false, lp]
    | true =>
      rw [cond_true, two_true kb ka, cond_true, cond_dec ka, cond_dec kb, cond_dec (p := (refSet a).length < big) (Nat.lt_of_le_of_lt (refSet_len a) ka), lp]
      have : (W6 b a != decide (refSet a = refSet b)) = false := by
        have : W6 b a = decide (refSet a = refSet b) := by
          rw [Bool.eq_iff_iff, W6_iff, decide_eq_true_eq]
          constructor
          · intro h
            exact up_uniq (refSet_up _) (refSet_up _) fun v => by rw [refSet_mem, refSet_mem]; exact ⟨W6_iff.1 hw v, h v⟩
          · intro h v hv
            rw [← refSet_mem a, h, refSet_mem]; exact hv
        rw [this]; simp
      rw [this, cond_false]
  have w1 : W6 (Y6 a b) a = true := W6_iff.2 fun v hv => (pickT_mem.1 hv).1
  have w2 : W6 a (A6 a b) = true := W6_iff.2 fun v hv => A6_mem.2 (.inl hv)
  have hr : rises (A6 a b) = true := rises_up.2 (refSet_up _)
  have hlen : (((A6 a b).length : Int) != IntKind.i64.wrap (IntKind.i64.wrap (((X6 a b).length : Int) + ((Y6 a b).length : Int)) + ((X6 b a).length : Int))) = false := by
    unfold big at kX kY kZ
    rw [wrap64 (z := ((X6 a b).length : Int) + ((Y6 a b).length : Int)) (by omega) (by omega), wrap64 (by omega) (by omega), lA]
    simp
  rw [two_true ka kb, two_true kb ka, two_true kX kY, two_true kO kZ, two_true kY ka, two_true ka kA, two_true kb kc, two_true ka kc, eq, hlen, hr, w1, w2, decide_eq_true kA]
  simp only [cond_true, cond_false, Bool.not_true, A6_eq, decide_true]
  cases h1 : W6 a b with
  | false => rfl
  | true =>
    cases h2 : W6 b c with
    | false => rfl
    | true =>
      have h3 : W6 a c = true := W6_iff.2 fun v hv => W6_iff.1 h2 v (W6_iff.1 h1 v hv)
      rw [h3]; rfl
end Go.Ab.Is
