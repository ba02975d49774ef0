/- TaskWants: the plain part -/
import Derived.Test.YtmclfehlflekhaaTaX
namespace Go.Ab
set_option linter.unusedVariables false
namespace Ta
open Pl Mo
theorem or_u (p q : Int) (hp : U p) (hq : U q) : U (IntKind.u64.wrap (↑(BitVec.ofInt IntKind.u64.bits p ||| BitVec.ofInt IntKind.u64.bits q).toNat : Int)) ∧
   (IntKind.u64.wrap (↑(BitVec.ofInt IntKind.u64.bits p ||| BitVec.ofInt IntKind.u64.bits q).toNat : Int)).toNat = p.toNat ||| q.toNat := by
  have hb : IntKind.u64.bits = 64 := rfl
  have e1 : (BitVec.ofInt 64 p).toNat = p.toNat := by
    rw [BitVec.toNat_ofInt]; have := hp.1; have := hp.2; omega
  have e2 : (BitVec.ofInt 64 q).toNat = q.toNat := by
    rw [BitVec.toNat_ofInt]; have := hq.1; have := hq.2; omega
  have hlt : (BitVec.ofInt 64 p ||| BitVec.ofInt 64 q).toNat < 18446744073709551616 := (BitVec.ofInt 64 p ||| BitVec.ofInt 64 q).isLt
  have hw : IntKind.u64.wrap (((BitVec.ofInt 64 p ||| BitVec.ofInt 64 q).toNat : Nat) : Int) = (((BitVec.ofInt 64 p ||| BitVec.ofInt 64 q).toNat : Nat) : Int) := by
    generalize (BitVec.ofInt 64 p ||| BitVec.ofInt 64 q).toNat = v at *
    simp [IntKind.wrap, IntKind.signed, IntKind.bits]
    omega
  show U (IntKind.u64.wrap (((BitVec.ofInt 64 p ||| BitVec.ofInt 64 q).toNat : Nat) : Int)) ∧ (IntKind.u64.wrap (((BitVec.ofInt 64 p ||| BitVec.ofInt 64 q).toNat : Nat) : Int)).toNat = _
  rw [hw]
  refine ⟨⟨by omega, by omega⟩, ?_⟩
  rw [Int.toNat_natCast, BitVec.toNat_or, e1, e2]
theorem hasW_mono {a b x : Int} {c : Nat} (h : hasW a x = true) (hab : b.toNat = a.toNat ||| c) : hasW b x = true := by
  unfold hasW at *
  rw [List.all_eq_true] at h ⊢
  intro n hn
  have := h n hn
  rw [hab, Nat.testBit_or]
  cases h1 : x.toNat.testBit n <;> cases h2 : a.toNat.testBit n <;> simp_all
theorem fits_or (x : Sp) (a b c : Int) (ha : U a) (hb : U b) (hc : U c) (h : fitsW x a c = true) :
    fitsW x (IntKind.u64.wrap (↑(Nat.bitwise or (BitVec.ofInt IntKind.u64.bits a).toNat (BitVec.ofInt IntKind.u64.bits b).toNat) : Int)) c = true ∧
    fitsW x a (IntKind.u64.wrap (↑(Nat.bitwise or (BitVec.ofInt IntKind.u64.bits c).toNat (BitVec.ofInt IntKind.u64.bits b).toNat) : Int)) = true := by
  have e : ∀ p q : Int, IntKind.u64.wrap (↑(Nat.bitwise or (BitVec.ofInt IntKind.u64.bits p).toNat (BitVec.ofInt IntKind.u64.bits q).toNat) : Int) = IntKind.u64.wrap (↑(BitVec.ofInt IntKind.u64.bits p ||| BitVec.ofInt IntKind.u64.bits q).toNat : Int) := by
    intro p q
    rw [BitVec.toNat_or]; rfl
  rw [e, e]
  unfold fitsW at *
  rw [Bool.and_eq_true] at h
  rw [Bool.and_eq_true, Bool.and_eq_true]
  exact ⟨⟨hasW_mono h.1 (or_u a b ha hb).2, h.2⟩, h.1, hasW_mono h.2 (or_u c b hc hb).2⟩

theorem wL_mem (r : Ru) (x : Sp) (y : Int) : y ∈ wL r x ↔ ∃ t ∈ aR r, onLegs x.2.2.2.2.1 x.2.2.2.2.2.1 0 t = true ∧ t.1 = y := by
  unfold wL crossL
  rw [Is.refSet_mem, List.mem_map]
  constructor
  · rintro ⟨t, h, e⟩
    rw [List.mem_filter] at h
    exact ⟨t, h.1, h.2, e⟩
  · rintro ⟨t, h, h2, e⟩
    exact ⟨t, List.mem_filter.2 ⟨h, h2⟩, e⟩
theorem wL_len (r : Ru) (x : Sp) : (wL r x).length ≤ (aR r).length := by
  unfold wL crossL
  have := refSet_len (((aR r).filter (onLegs x.2.2.2.2.1 x.2.2.2.2.2.1 0)).map (·.1))
  have h3 := List.length_filter_le (onLegs x.2.2.2.2.1 x.2.2.2.2.2.1 0) (aR r)
  rw [List.length_map] at this
  unfold aR at *
  omega
theorem wL_up (r : Ru) (x : Sp) (j : Nat) (h : 0 < j) (hj : j < (wL r x).length) : (wL r x).getD (j - 1) 0 < (wL r x).getD j 0 := by
  have hu : Is.Up (wL r x) := Is.refSet_up _
  rw [getD_lt hj, getD_lt (show j - 1 < (wL r x).length by omega)]
  exact List.pairwise_iff_getElem.1 hu (j - 1) j (by omega) hj (by omega)
theorem wL_in (r : Ru) (x : Sp) (j : Nat) (hj : j < (wL r x).length) : (aR r).any (fun t => t.1 == (wL r x).getD j 0) = true := by
  have hm : (wL r x).getD j 0 ∈ wL r x := by rw [getD_lt hj]; exact List.getElem_mem hj
  obtain ⟨t, h1, _, h3⟩ := (wL_mem r x _).1 hm
  rw [List.any_eq_true]
  exact ⟨t, h1, by rw [h3, beq_self_eq_true]⟩
theorem near_id {p : Pt} (h : wideB p = true) : nearP p = p := by
  unfold wideB at h
  have h := of_decide_eq_true h
  obtain ⟨a, b⟩ := p
  unfold nearP clipI
  dsimp only at h ⊢
  rw [Prod.mk.injEq]
  omega
theorem end_has (p q z : Pt) (hp : wideB p = true) (hq : wideB q = true) (hz : z = p ∨ z = q) (t : Ai) (ht : hasB t z = true) : onLegs p q 0 t = true := by
  rw [← route_any]
  cases hz with
  | inl e =>
    subst e
    unfold routeL
    rw [List.any_cons, near_id hp, ht, Bool.true_or]
  | inr e =>
    subst e
    unfold routeL
    rw [near_id hp, near_id hq]
    obtain ⟨h1, h2⟩ := corner_line 0 p z
    generalize cornP 0 p z = c at *
    obtain ⟨l1, e1, _⟩ := seg_last ((c.1 - p.1).natAbs + (c.2 - p.2).natAbs) (sgnI (c.1 - p.1), sgnI (c.2 - p.2)) p []
    obtain ⟨l2, e2, _⟩ := seg_last ((z.1 - c.1).natAbs + (z.2 - c.2).natAbs) (sgnI (z.1 - c.1), sgnI (z.2 - c.2)) c []
    rw [List.nil_append, endP_line p c h1] at e1
    rw [List.nil_append, endP_line c z h2] at e2
    have e : p :: (lineL p c ++ lineL c z) = l1 ++ (l2 ++ [z]) := by
      rw [← e2, show p :: (lineL p c ++ lineL c z) = (p :: lineL p c) ++ lineL c z from rfl]
      show (p :: seg _ _ p) ++ seg _ _ c = _
      rw [e1, List.append_assoc]; rfl
    rw [e, List.any_append, List.any_append, List.any_cons, ht]
    simp
theorem ends_mem (r : Ru) (x : Sp) (k : Nat) (hk : k < 2) (h1 : wideB x.2.2.2.2.1 = true) (h2 : wideB x.2.2.2.2.2.1 = true) (t : Ai)
    (h : List.find? (fun y => hasB y ([x.snd.snd.snd.snd.fst, x.snd.snd.snd.snd.snd.fst].getD (0 + k) tP.dflt)) (aR r) = some t) : t.1 ∈ wL r x := by
  rw [wL_mem]
  refine ⟨t, List.mem_of_find?_eq_some h, ?_, rfl⟩
  have h3 := List.find?_some h
  refine end_has _ _ _ h1 h2 ?_ t h3
  match k, hk with
  | 0, _ => exact .inl rfl
  | 1, _ => exact .inr rfl
theorem tWa_ok : CallOK Q tWa := addT_ok (addT_ok (addT_ok (addT_ok (addT_ok (addT_ok (addT_ok (addT_ok (addT_ok noCall_ok Ta.gAlive_ok) gFi_task) gRight_ref) gAt_plan) gW_task) gCheck_ref) gCheck_task) gRules_ref) gRules_task
theorem rules_right {r : Ru} (h : rulesE r = 0) : rightB (aR r) = true := by
  unfold rulesE at h
  cases h1 : numsB r with
  | false => rw [h1, cond_false] at h; cases h
  | true =>
    rw [h1, cond_true] at h
    cases h2 : rightB r.2.2.2.2.2.2.2 with
    | false => rw [h2, cond_false] at h; cases h
    | true => rfl
theorem check_wide {x : Sp} (h : checkE x = 0) : wideB x.2.2.2.2.1 = true ∧ wideB x.2.2.2.2.2.1 = true := by
  unfold checkE at h
  cases h1 : decide ((1 ≤ x.1 ∧ x.1 ≤ 999) ∧ (0 ≤ x.2.1 ∧ x.2.1 ≤ 1048575)) && (wideB x.2.2.2.2.1 && wideB x.2.2.2.2.2.1) with
  | false => rw [h1, cond_false] at h; cases h
  | true =>
    rw [Bool.and_eq_true, Bool.and_eq_true] at h1
    exact h1.2
theorem wc_all (r : Ru) (x : Sp) (a b c : Int) (n k : Nat) (hn : 40 < n) (hR : (aR r).length ≤ 40) (hL : (wL r x).length ≤ 40) (w1 : wideB x.2.2.2.2.1 = true) (w2 : wideB x.2.2.2.2.2.1 = true)
    (hr : rightB (aR r) = true) (hx : U x.2.2.1 ∧ U x.2.2.2.1) (ha : U a) (hb : U b) (hc : U c) : LWac n (k + 3) (SWac r x a b c 0) = some (.bool true, []) := by
  have es0 := wc_step r x a b c n (k + 2) 0 hn (by omega) hR hL (fun t h => ends_mem r x 0 (by omega) w1 w2 t h)
  have es1 := wc_step r x a b c n (k + 1) 1 hn (by omega) hR hL (fun t h => ends_mem r x 1 (by omega) w1 w2 t h)
  have ee := wc_end r x a b c n k (wL_len r x) hr hx ha hc (fun p q hp hq => (or_u p q hp hq).1) hb (fun h => (fits_or x a b c ha hb hc h).1) (fun h => (fits_or x a b c ha hb hc h).2)
  rw [show ((0 : Nat) : Int) = 0 from rfl, Nat.zero_add] at es0
  rw [show (1 : Nat) + 1 = 2 from rfl] at es1
  rw [es0, es1, ee]
theorem lawWants (r : Ru) (x : Sp) (a b c : Int) (hx : U x.2.2.1 ∧ U x.2.2.2.1) (ha : U a) (hb : U b) (hc : U c) (hl : x.2.2.2.2.2.2.length < 2000000) :
    Sound Q N.law22_TaskWants [agR r, agS x, .int .u64 a, .int .u64 b, .int .u64 c] [] (.bool true, []) := by
  obtain ⟨N, hN⟩ : ∃ N : Nat, N = 47 := ⟨_, rfl⟩
  refine sound_of_run (hn := hn0) tWa_ok (n := N + 3) ?_
  have e := eWa r x a b c (N + 3)
  refine Eq.trans e ?_
  by_cases h1 : (aR r).length > 40
  · rw [cond_dec (by unfold aR at h1; omega)]
  have hR : (aR r).length ≤ 40 := by omega
  have hL : (wL r x).length ≤ 40 := Nat.le_trans (wL_len r x) hR
  rw [cond_dec' (by unfold aR at h1; omega), cond_dec hl]
  by_cases h2 : rulesE r = 0
  · rw [h2, bne_self_eq_false, cond_false]
    by_cases h3 : checkE x = 0
    · obtain ⟨w1, w2⟩ := check_wide h3
      rw [h3, bne_self_eq_false, cond_false, cond_false, cond_false, cond_dec (by unfold aR at h1; omega)]
      have ea := wa_loop r x a b c (N + 3) (by omega) hR hL (fun j h h' => wL_up r x j h h') (fun j h => wL_in r x j h) (N + 3) 0 (by omega) (by omega)
      rw [show ((0 : Nat) : Int) = 0 from rfl] at ea
      rw [ea, wc_all r x a b c (N + 3) N (by omega) hR hL w1 w2 (rules_right h2) hx ha hb hc, cond_dec (by unfold aR at h1; omega)]
    · have : (checkE x != 0) = true := by rw [bne_iff_ne]; exact h3
      rw [this, cond_true]
  · have : (rulesE r != 0) = true := by rw [bne_iff_ne]; exact h2
    rw [this, cond_true]
theorem lawWants' (r : Ru) (x : Sp) (a b c : Int) (hx : WfD tSp x) (ha : WfD tU a) (hb : WfD tU b) (hc : WfD tU c) (hl : x.2.2.2.2.2.2.length < 2000000) :
    Sound Q N.law22_TaskWants [agR r, agS x, .int .u64 a, .int .u64 b, .int .u64 c] [] (.bool true, []) :=
  lawWants r x a b c ⟨u_wf hx.2.2.1, u_wf hx.2.2.2.1⟩ (u_wf ha) (u_wf hb) (u_wf hc) hl
end Ta
end Go.Ab
