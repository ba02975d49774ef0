/- The framework, part 11: slicing. -/
import Derived.Test.YthmebldaalplpaaFw10
namespace Go.Ab
set_option linter.unusedVariables false

section
variable {P : Program} {K F : Nat → Prop} {ρ : Locs} {m : List Slot} {w w' : World} {env : List AV} {a : Act} {r : Res}

theorem intLit_vr {v : AV} {n : Int} (h : intLit v = some n) {u : Value} (hv : VR K ρ w v u) : ∃ k, u = .int k n := by
  unfold intLit at h
  split at h
  · simp at h; subst h; cases hv; exact ⟨_, rfl⟩
  · simp at h

/-- The bounds that are there, and those that are not. -/
theorem boundA_vr (he : EnvR K ρ w env a.tmps) {d n : Int} {x : Option Operand} (h : boundA env d x = some n) :
    (x = none ∧ n = d) ∨ ∃ o k, x = some o ∧ a.eval o = .int k n := by
  unfold boundA at h
  split at h
  · simp at h; exact .inl ⟨rfl, h.symm⟩
  · obtain ⟨k, hk⟩ := intLit_vr h (ev_vr he _); exact .inr ⟨_, k, rfl, hk⟩

theorem run_sliceBound {k : IntKind} {i : Int} {y : Nat} {c : BoundsCode} (h0 : 0 ≤ i) (h1 : i ≤ y) (w : World) : (Instr.sliceBound (.int k i) y c).run P w = .ok i.toNat w := by
  simp [Instr.sliceBound, asIntOf, h0, h1]

/-- A slice's bounds, without the third. -/
theorem run_sliceBounds {len cap : Nat} (hlc : len ≤ cap) {lo hi : Option Operand} {i j : Int} (hl : (lo = none ∧ i = 0) ∨ ∃ o k, lo = some o ∧ a.eval o = .int k i)
    (hh : (hi = none ∧ j = len) ∨ ∃ o k, hi = some o ∧ a.eval o = .int k j) (h0 : 0 ≤ i) (hij : i ≤ j) (hj : j ≤ len) (w : World) :
    (Instr.sliceBounds true len cap (lo.map a.eval) (hi.map a.eval) none).run P w = .ok (i.toNat, j.toNat, cap) w := by
  have e1 : ∀ w, (match hi.map a.eval, (none : Option Value) with
      | some v, some _ => Instr.sliceBound v cap .slice3B
      | some v, none => Instr.sliceBound v cap (if true then .sliceAcap else .sliceAlen)
      | none, none => pure len
      | none, some _ => stuck "Slice: max without high").run P w = .ok j.toNat w := fun w => by
    rcases hh with ⟨rfl, rfl⟩ | ⟨o, k, rfl, hk⟩
    · simp
    · simp only [Option.map_some, hk]
      exact run_sliceBound (by omega) (by omega) w
  have e2 : ∀ w, (match lo.map a.eval with
      | some v => Instr.sliceBound v j.toNat (if (none : Option Value).isSome then .slice3C else .sliceB)
      | none => pure 0).run P w = .ok i.toNat w := fun w => by
    rcases hl with ⟨rfl, rfl⟩ | ⟨o, k, rfl, hk⟩
    · simp
    · simp only [Option.map_some, hk]
      exact run_sliceBound h0 (by omega) w
  have e1' := e1 w
  have e2' := e2 w
  unfold Instr.sliceBounds
  cases hi <;> cases lo <;> simp_all

theorem elemSize_some {t : TypeId} {n : Nat} (h : elemSize P t = some n) : ∃ e, P.underlying t = some (.slice e) ∧ sizeP P e = some n := by
  simp only [elemSize, Option.bind_eq_some_iff] at h
  obtain ⟨e, h1, h2⟩ := h
  exact ⟨e, elemP_some h1, h2⟩

theorem run_sliceAt {t e : TypeId} {n : Nat} (hu : P.underlying t = some (.slice e)) (hn : sizeP P e = some n) {ad : Option Addr} {len cap l h k : Nat} {lo hi mx : Option Value} {w : World}
    (hb : (Instr.sliceBounds true len cap lo hi mx).run P w = .ok (l, h, k) w) :
    (Instr.sliceAt t (.slice ad len cap) lo hi mx).run P w = .ok (.slice (if k = l then ad else ad.map (·.add (l * n))) (h - l) (k - l)) w := by
  simp [Instr.sliceAt, Instr.slice, run_underlying hu, hb, run_sizeOf' hn]

/-- A piece of read-only data. -/
theorem slice_ro {t : TypeId} {y : Ty} (hes : elemSize P t = some y.size) {l : List y.den} {v : Value} (hT : TyR K w (.list y) l (fun _ => v)) {lo hi : Option Operand} {i j : Int}
    (hl : (lo = none ∧ i = 0) ∨ ∃ o k, lo = some o ∧ a.eval o = .int k i) (hh : (hi = none ∧ j = (l.length : Int)) ∨ ∃ o k, hi = some o ∧ a.eval o = .int k j)
    (h0 : 0 ≤ i) (hij : i ≤ j) (hj : j ≤ (l.length : Int)) :
    ∃ v', (Instr.sliceAt t v (lo.map a.eval) (hi.map a.eval) none).run P w = .ok v' w ∧ TyR K w (.list y) ((l.take j.toNat).drop i.toNat) (fun _ => v') := by
  obtain ⟨e, hu, hn⟩ := elemSize_some hes
  obtain ⟨ad, c, e1, e2, e3⟩ := hT
  simp only at e1
  subst e1
  have hb := run_sliceBounds (P := P) (a := a) e2 hl hh h0 hij hj w
  refine ⟨_, run_sliceAt hu hn hb, ?_⟩
  have hlen : ((l.take j.toNat).drop i.toNat).length = j.toNat - i.toNat := by simp; omega
  refine ⟨if c = i.toNat then ad else ad.map (·.add (i.toNat * y.size)), c - i.toNat, by rw [hlen], by rw [hlen]; omega, fun q x hx => ?_⟩
  have hq : q < ((l.take j.toNat).drop i.toNat).length := (List.getElem?_eq_some_iff.1 hx).1
  rw [hlen] at hq
  have hx' : l[i.toNat + q]? = some x := by
    rw [List.getElem?_drop, List.getElem?_take, if_pos (by omega)] at hx
    exact hx
  obtain ⟨blk, off, g, k1, k2, k3, k4⟩ := e3 _ x hx'
  subst k1
  refine ⟨blk, off + i.toNat * y.size, g, ?_, k2, fun p hp => ?_, k4⟩
  · rw [if_neg (by omega), Option.map_some, addr_add]
  · have := k3 p hp
    rw [Nat.add_mul] at this
    rw [show off + i.toNat * y.size + (q * y.size + p) = off + (i.toNat * y.size + q * y.size + p) by omega]
    exact this

theorem bound0 (he : EnvR K ρ w env a.tmps) {x : Option Operand} (h : boundA env 0 x = some 0) {y : Nat} {c : BoundsCode} : ∀ o, x = some o → (Instr.sliceBound (a.eval o) y c).run P w = .ok 0 w := fun o ho => by
  subst ho
  rcases boundA_vr he h with ⟨h1, _⟩ | ⟨o', k, h1, h2⟩
  · simp at h1
  · simp at h1; subst h1; rw [h2]; exact run_sliceBound (by omega) (by omega) w

theorem sliceA_sound {t : TypeId} {x : Operand} {lo hi mx : Option Operand} (hi' : Inv K F ρ m w) (he : EnvR K ρ w env a.tmps) (h : sliceA P m env t x lo hi mx = some r) (hok : r.ok = true) :
    Done P K F ρ m w r ((do pure (.value (← Instr.sliceAt t (a.eval x) (lo.map a.eval) (hi.map a.eval) (mx.map a.eval))) : Sem Next).run P w) := by
  unfold sliceA at h
  have hx := ev_vr he x
  split at h
  · simp at h
  · rename_i n hes
    split at h
    · rename_i y l hb
      rw [hb] at hx
      split at h
      · rename_i hny
        rw [hny] at hes
        split at h
        · split at h
          · simp only [Option.map_eq_some_iff] at h
            obtain ⟨i, h1, rfl⟩ := h
            simp only [Bool.and_eq_true, decide_eq_true_eq] at hok
            cases hx with
            | ro _ _ v hT =>
              obtain ⟨v', k1, k2⟩ := slice_ro (a := a) (hi := none) (j := (l.length : Int)) hes hT (boundA_vr he h1) (.inl ⟨rfl, rfl⟩) hok.1 hok.2 (Int.le_refl _)
              simp only [Int.toNat_natCast, List.take_length] at k2
              exact Done.plain hi' (.ro _ _ _ k2) (by simp only [Option.map_none, Sem.run_bind] at k1 ⊢; rw [k1]; rfl)
          · rename_i ho
            split at h
            · rename_i i j h1 h2
              simp only [Option.some.injEq] at h
              subst h
              simp only [Bool.and_eq_true, decide_eq_true_eq] at hok
              obtain ⟨kk, hkk⟩ := intLit_vr h2 (ev_vr he ho)
              cases hx with
              | ro _ _ v hT =>
                obtain ⟨v', k1, k2⟩ := slice_ro (a := a) (hi := some ho) (j := j) hes hT (boundA_vr he h1) (.inr ⟨ho, kk, rfl, hkk⟩) hok.1 hok.2.1 hok.2.2
                exact Done.plain hi' (.ro _ _ _ k2) (by simp only [Option.map_none, Sem.run_bind] at k1 ⊢; rw [k1]; rfl)
            · simp at h
        · rename_i ko
          split at h
          · simp at h
          · rename_i ho
            split at h
            · rename_i hc
              obtain ⟨c1, c2, c3⟩ := hc
              obtain ⟨e, hu, hn⟩ := elemSize_some hes
              cases hx with
              | ro _ _ v hT =>
                obtain ⟨ad, c, e1, _, _⟩ := hT
                simp only at e1
                obtain ⟨k2, hk2⟩ := intLit_vr c2 (ev_vr he ho)
                obtain ⟨k3, hk3⟩ := intLit_vr c3 (ev_vr he ko)
                have hb : (Instr.sliceBounds true l.length c (lo.map a.eval) (some (a.eval ho)) (some (a.eval ko))).run P w = .ok (0, 0, 0) w := by
                  rw [hk2, hk3]
                  have q1 := fun y cd => run_sliceBound (P := P) (k := k2) (i := 0) (y := y) (c := cd) (by omega) (by omega) w
                  have q2 := fun y cd => run_sliceBound (P := P) (k := k3) (i := 0) (y := y) (c := cd) (by omega) (by omega) w
                  have q3 := fun y cd => bound0 (P := P) (y := y) (c := cd) he c1
                  cases lo <;> simp_all [Instr.sliceBounds]
                refine Done.of_pure h hi' (.nils _ ad) ?_
                rw [e1]
                have := run_sliceAt (ad := ad) hu hn hb
                simp only [Option.map_some, Sem.run_bind, this]
                simp
            · simp at h
      · simp at h
    · rename_i y hb
      rw [hb] at hx
      obtain ⟨e, hu, hn⟩ := elemSize_some hes
      split at h
      · simp at h
      · rename_i hne
        split at h
        · rename_i hc
          obtain ⟨c1, c2, c3⟩ := hc
          cases hx' : a.eval x <;> rw [hx'] at hx <;> cases hx
          rename_i ad
          have q1 := fun y cd => bound0 (P := P) (y := y) (c := cd) he c1
          have q2 := fun y cd => bound0 (P := P) (y := y) (c := cd) he c2
          have q3 := fun y cd => bound0 (P := P) (y := y) (c := cd) he c3
          have hb : (Instr.sliceBounds true 0 0 (lo.map a.eval) (hi.map a.eval) (mx.map a.eval)).run P w = .ok (0, 0, 0) w := by
            cases lo <;> cases hi <;> cases mx <;> simp_all [Instr.sliceBounds]
          refine Done.of_pure h hi' (.nils _ ad) ?_
          have := run_sliceAt (ad := ad) hu hn hb
          simp only [Sem.run_bind, this]
          simp
        · simp at h
    · rename_i b i hb
      rw [hb] at hx
      split at h
      · rename_i y l hrow
        split at h
        · rename_i hny
          rw [hny] at hes
          obtain ⟨e, hu, hn⟩ := elemSize_some hes
          obtain ⟨L, hL, hR⟩ := hi'.row hrow
          split at h
          · simp only [Option.map_eq_some_iff] at h
            obtain ⟨p, h1, rfl⟩ := h
            simp only [Bool.and_eq_true, decide_eq_true_eq] at hok
            cases hx with
            | tail _ _ L' v hL' hT =>
              rw [hL] at hL'
              obtain rfl := Option.some.inj hL'
              obtain ⟨t1, ad, c, t2, t3, t4⟩ := hT
              have hll : L.len = l.length := hR.2.1
              have hbb := run_sliceBounds (P := P) (a := a) (len := L.len - i) (cap := c) t3 (hi := none) (boundA_vr he h1) (.inl ⟨rfl, rfl⟩) hok.1 (by rw [hll]; exact hok.2) (Int.le_refl _) w
              have hrun := run_sliceAt (ad := ad) hu hn hbb
              refine Done.plain hi' (.tail b (i + p.toNat) L _ hL ⟨by omega, if c = p.toNat then ad else ad.map (·.add (p.toNat * y.size)), c - p.toNat, rfl, by omega, fun hc => ?_⟩) ?_
              · obtain ⟨u1, u2, u3⟩ := t4 (by omega)
                refine ⟨u1, ?_, ?_⟩
                · rw [if_neg (by omega), u2, Option.map_some, addr_add]
                  congr 2
                  rw [show L.sz = y.size from hR.1, Nat.add_mul]
                  omega
                · rw [show i + p.toNat + (c - p.toNat) = i + c by omega]
                  exact u3
              · rw [t2]
                simp only [Option.map_none, Sem.run_bind] at hrun ⊢
                rw [hrun]
                simp only [Result.andThen_ok, Sem.run_pure, Int.toNat_natCast]
                congr 3
                omega
          · rename_i ho
            split at h
            · rename_i p q h1 h2
              simp only [Option.some.injEq] at h
              subst h
              simp only [Bool.and_eq_true, decide_eq_true_eq] at hok
              obtain ⟨kk, hkk⟩ := intLit_vr h2 (ev_vr he ho)
              have hf : frz m (.tail b i) = some (.ro y (if i = 0 then l else l.drop i), [(b, .obj (.frows y l))]) := by simp [frz, hrow]
              obtain ⟨K1, s1, i1, _, v1⟩ := frz_sound (fun _ _ => trivial) hf (Fz.refl m) hi' hx
              cases v1 with
              | ro _ _ v hT =>
                have hif : (if i = 0 then l else l.drop i) = l.drop i := by split <;> simp_all
                rw [hif] at hT
                obtain ⟨v', k1, k2⟩ := slice_ro (a := a) (hi := some ho) (j := q) hes hT (boundA_vr he h1) (.inr ⟨ho, kk, rfl, hkk⟩) hok.1 hok.2.1 (by rw [List.length_drop]; exact hok.2.2)
                refine ⟨v', w, K1, ρ, .inl ?_, s1, i1, .ro _ _ _ k2⟩
                simp only [Option.map_none, Sem.run_bind] at k1 ⊢
                rw [k1]
                rfl
            · simp at h
        · simp at h
      · simp at h
    · simp at h
end
end Go.Ab
