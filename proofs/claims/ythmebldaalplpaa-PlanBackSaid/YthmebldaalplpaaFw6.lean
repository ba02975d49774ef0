/- The framework, part 6: freezing rows; reading. -/
import Derived.Test.YthmebldaalplpaaFw5
namespace Go.Ab
set_option linter.unusedVariables false

theorem writeM_append (m : List Slot) (a b : List (Nat × Slot)) : writeM m (a ++ b) = writeM (writeM m a) b := by
  induction a generalizing m with
  | nil => rfl
  | cons x xs ih => obtain ⟨i, s⟩ := x; exact ih _

theorem writeM_length (m : List Slot) (a : List (Nat × Slot)) : (writeM m a).length = m.length := by
  induction a generalizing m with
  | nil => rfl
  | cons x xs ih => obtain ⟨i, s⟩ := x; simp [writeM, ih]

/-- m' is m, some rows frozen. -/
def Fz (m m' : List Slot) : Prop :=
  ∀ b : Nat, m'[b]? = m[b]? ∨ ∃ (t : Ty) (l : List t.den), m[b]? = some (Slot.obj (.rows t l)) ∧ m'[b]? = some (Slot.obj (.frows t l))

theorem Fz.refl (m : List Slot) : Fz m m := fun _ => .inl rfl

theorem getObj?_some {m : List Slot} {b : Nat} {o : AObj} (h : getObj? m b = some o) : m[b]? = some (.obj o) := by
  unfold getObj? at h
  split at h
  · rename_i o' he; simp at h; subst h; exact he
  · simp at h

theorem rowOf_some {m : List Slot} {b : Nat} {r : (t : Ty) × List t.den} (h : rowOf m b = some r) :
    m[b]? = some (.obj (.rows r.1 r.2)) ∨ m[b]? = some (.obj (.frows r.1 r.2)) := by
  unfold rowOf at h
  split at h
  · rename_i t l he; simp at h; subst h; exact .inl (getObj?_some he)
  · rename_i t l he; simp at h; subst h; exact .inr (getObj?_some he)
  · simp at h

section
variable {K F : Nat → Prop} {ρ : Locs} {m : List Slot} {w w' : World}

/-- What is known of a row's place. -/
theorem Inv.row (h : Inv K F ρ m w) {b : Nat} {r : (t : Ty) × List t.den} (hr : rowOf m b = some r) : ∃ L, ρ b = some L ∧ RowsR K w L r.1 r.2 := by
  rcases rowOf_some hr with e | e
  · obtain ⟨L, h1, h2, _⟩ := h.ob b _ e; exact ⟨L, h1, h2⟩
  · obtain ⟨L, h1, h2, _⟩ := h.ob b _ e; exact ⟨L, h1, h2.1⟩

theorem frzK_mono {L : Loc} {b : Nat} (h : K b) : frzK K L b := .inl h

/-- A row's elements as read-only data. -/
theorem RowsR.tyR {L : Loc} {t : Ty} {l : List t.den} (hr : RowsR K w L t l) (hk : L.nil = false → K L.blk) {i : Nat} {v : Value} (hv : TailR L i v) :
    TyR K w (.list t) (l.drop i) (fun _ => v) := by
  obtain ⟨h1, h2, h3, h4⟩ := hr
  obtain ⟨g1, a, c, g2, g3, g4⟩ := hv
  refine ⟨a, c, by rw [g2, h2]; simp, by rw [List.length_drop, ← h2]; exact g3, fun j x hx => ?_⟩
  have hj : j < (l.drop i).length := (List.getElem?_eq_some_iff.1 hx).1
  rw [List.length_drop] at hj
  have hn : L.nil = false := by
    cases hn : L.nil with
    | false => rfl
    | true => rw [h3 hn] at hj; simp at hj
  obtain ⟨_, ha, _⟩ := g4 (by omega)
  obtain ⟨vs, e, e1, e2, e3⟩ := h4 hn
  obtain ⟨g, k1, k2⟩ := e3 (i + j) x (by simpa [List.getElem?_drop] using hx)
  refine ⟨L.blk, L.off + i * L.sz, g, ha, hk hn, fun q hq => ?_, k2⟩
  have := k1 q hq
  rw [h1]
  rw [show L.off + i * t.size + (j * t.size + q) = L.off + ((i + j) * t.size + q) by rw [Nat.add_mul]; omega]
  simp [World.cell?, e1, this]

/-- One value frozen. -/
theorem frz_sound (hz : ∀ m', Fz m m' → True) {v x : AV} {wr : List (Nat × Slot)} (hf : frz m v = some (x, wr)) {m' : List Slot} (hm : Fz m m') (hi : Inv K F ρ m' w)
    {u : Value} (hv : VR K ρ w v u) :
    ∃ K', Step K F ρ w K' ρ w ∧ Inv K' F ρ (writeM m' wr) w ∧ Fz m (writeM m' wr) ∧ VR K' ρ w x u := by
  unfold frz at hf
  split at hf
  · rename_i b i
    simp only [Option.map_eq_some_iff] at hf
    obtain ⟨r, hr, he⟩ := hf
    simp only [Prod.mk.injEq] at he
    obtain ⟨rfl, rfl⟩ := he
    cases hv with
    | tail _ _ L _ hL ht =>
      have hdrop : (if i = 0 then r.2 else r.2.drop i) = r.2.drop i := by split <;> simp_all
      have hb : m'[b]? = some (.obj (.rows r.1 r.2)) ∨ m'[b]? = some (.obj (.frows r.1 r.2)) := by
        rcases rowOf_some hr with e | e
        · rcases hm b with e' | ⟨t, l, e1, e2⟩
          · exact .inl (e'.trans e)
          · rw [e] at e1; simp at e1; obtain ⟨rfl, e1⟩ := e1; simp at e1; subst e1; exact .inr e2
        · rcases hm b with e' | ⟨t, l, e1, e2⟩
          · exact .inr (e'.trans e)
          · rw [e] at e1; simp at e1
      have hFz : Fz m (m'.set b (.obj (.frows r.1 r.2))) := fun c => by
        by_cases hc : c = b
        · subst hc
          have hlt : c < m'.length := by rcases hb with e | e <;> exact (List.getElem?_eq_some_iff.1 e).1
          rcases rowOf_some hr with e | e
          · exact .inr ⟨r.1, r.2, e, by simp [hlt]⟩
          · exact .inl (by simp [hlt, e])
        · rw [List.getElem?_set_ne (Ne.symm hc)]; exact hm c
      rcases hb with e | e
      · refine ⟨frzK K L, Step.freeze hi, hi.freeze e hL, hFz, ?_⟩
        obtain ⟨L0, h1, h2, _⟩ := hi.ob b _ e
        rw [hL] at h1
        obtain rfl := Option.some.inj h1
        refine .ro _ _ _ ?_
        rw [hdrop]
        exact RowsR.tyR (RowsR.move (fun _ x => .inl x) (fun _ _ => rfl) (fun _ => rfl) h2) (fun hn => .inr ⟨hn, rfl⟩) ht
      · have hset : m'.set b (.obj (.frows r.1 r.2)) = m' := by
          apply List.ext_getElem?
          intro c
          by_cases hc : c = b
          · subst hc; rw [List.getElem?_set, if_pos rfl, if_pos (List.getElem?_eq_some_iff.1 e).1, e]
          · rw [List.getElem?_set_ne (Ne.symm hc)]
        simp only [writeM]
        rw [hset] at hFz ⊢
        refine ⟨K, Step.refl _ _ _ _, hi, hFz, ?_⟩
        obtain ⟨L0, h1, h2, _⟩ := hi.ob b _ e
        rw [hL] at h1
        obtain rfl := Option.some.inj h1
        refine .ro _ _ _ ?_
        rw [hdrop]
        exact RowsR.tyR h2.1 h2.2 ht
  · split at hf
    · simp at hf
      obtain ⟨rfl, rfl⟩ := hf
      exact ⟨K, Step.refl _ _ _ _, hi, hm, hv⟩
    · simp at hf

theorem frzL_sound {vs xs : List AV} {wr : List (Nat × Slot)} (hf : frzL m vs = some (xs, wr)) : ∀ {m' : List Slot} {K : Nat → Prop} {us : List Value}, Fz m m' → Inv K F ρ m' w → VRL K ρ w vs us →
    ∃ K', Step K F ρ w K' ρ w ∧ Inv K' F ρ (writeM m' wr) w ∧ Fz m (writeM m' wr) ∧ VRL K' ρ w xs us := by
  induction vs generalizing xs wr with
  | nil =>
    intro m' K us hm hi hv
    simp [frzL] at hf
    obtain ⟨rfl, rfl⟩ := hf
    cases hv
    exact ⟨K, Step.refl _ _ _ _, hi, hm, .nil⟩
  | cons v vs ih =>
    intro m' K us hm hi hv
    simp only [frzL] at hf
    split at hf
    · rename_i x a ys b h1 h2
      simp only [Option.some.injEq, Prod.mk.injEq] at hf
      obtain ⟨rfl, rfl⟩ := hf
      cases hv with
      | cons _ u _ us h t =>
        obtain ⟨K1, s1, i1, f1, v1⟩ := frz_sound (fun _ _ => trivial) h1 hm hi h
        obtain ⟨K2, s2, i2, f2, v2⟩ := ih h2 f1 i1 (s1.vrl t)
        rw [writeM_append]
        exact ⟨K2, s1.trans s2, i2, f2, .cons _ _ _ _ (s2.vr v1) v2⟩
    · simp at hf

theorem frzV_sound {v x : AV} {wr : List (Nat × Slot)} (hf : frzV m v = some (x, wr)) {u : Value} (hi : Inv K F ρ m w) (hv : VR K ρ w v u) :
    ∃ K', Step K F ρ w K' ρ w ∧ Inv K' F ρ (writeM m wr) w ∧ VR K' ρ w x u := by
  unfold frzV at hf
  split at hf
  · simp only [Option.map_eq_some_iff] at hf
    obtain ⟨r, hr, he⟩ := hf
    simp only [Prod.mk.injEq] at he
    obtain ⟨rfl, rfl⟩ := he
    cases hv with
    | agg _ vs h =>
      obtain ⟨K1, s1, i1, _, v1⟩ := frzL_sound hr (Fz.refl m) hi h
      exact ⟨K1, s1, i1, .agg _ _ v1⟩
  · simp only [Option.map_eq_some_iff] at hf
    obtain ⟨r, hr, he⟩ := hf
    simp only [Prod.mk.injEq] at he
    obtain ⟨rfl, rfl⟩ := he
    cases hv with
    | tup _ vs h =>
      obtain ⟨K1, s1, i1, _, v1⟩ := frzL_sound hr (Fz.refl m) hi h
      exact ⟨K1, s1, i1, .tup _ _ v1⟩
  · obtain ⟨K1, s1, i1, _, v1⟩ := frz_sound (fun _ _ => trivial) hf (Fz.refl m) hi hv
    exact ⟨K1, s1, i1, v1⟩

/-! ### constants and operands -/
theorem cst_vr (v : Value) : VR K ρ w (cst v) v := by
  unfold cst
  split <;> first | exact .bool _ | exact .int _ _ | exact .flt _ _ | exact .cpx _ _ _ | exact .str _ | exact .nilp | exact .nil0 _ | exact .nilm | exact .nilf | exact .nili | exact .junk _

theorem cstC_vr (v : Value) : VR K ρ w (cstC v) v := by
  unfold cstC
  split
  · rename_i cs
    have h : VRL K ρ w (cs.toList.map cst) cs.toList := by
      have := VRL.map (K := K) (ρ := ρ) (w := w) (f := cst) (g := id) cs.toList fun x _ => cst_vr x
      simpa using this
    have := VR.agg (K := K) (ρ := ρ) (w := w) _ _ h
    simpa using this
  · exact .junk _
  · exact cst_vr _

def EnvR (K : Nat → Prop) (ρ : Locs) (w : World) (env : List AV) (tmps : Array Value) : Prop := ∀ i, VR K ρ w (env.getD i .junk) (tmps.getD i undef)

theorem EnvR.mono {K' : Nat → Prop} {ρ' : Locs} {env : List AV} {tmps : Array Value} (s : Step K F ρ w K' ρ' w') (h : EnvR K ρ w env tmps) : EnvR K' ρ' w' env tmps := fun i => s.vr (h i)

theorem ev_vr {env : List AV} {a : Act} (h : EnvR K ρ w env a.tmps) (x : Operand) : VR K ρ w (ev env x) (a.eval x) := by
  cases x with
  | tmp t => exact h t
  | const v => exact cstC_vr v
  | global g => exact .junk _
  | func f => exact .fn _ _ _ [] [] .nil .nil

theorem fixC_vr (P : Program) (t : TypeId) {v : AV} {u : Value} (h : VR K ρ w v u) : VR K ρ w (fixC P t v) u := by
  unfold fixC
  split
  · cases h with
    | nil0 a =>
      split
      · split
        · exact .nils _ _
        · exact .nil0 _
      · exact .nil0 _
  · exact h

theorem fixL_vr (P : Program) : ∀ (ts : List TypeId) {vs : List AV} {us : List Value}, VRL K ρ w vs us → VRL K ρ w (fixL P ts vs) us
  | [], _, _, h => by simpa [fixL] using h
  | t :: ts, _, _, .nil => by simpa [fixL] using .nil
  | t :: ts, _, _, .cons _ _ _ _ h r => .cons _ _ _ _ (fixC_vr P t h) (fixL_vr P ts r)

theorem fixT_vr (P : Program) (t : TypeId) {v : AV} {u : Value} (h : VR K ρ w v u) : VR K ρ w (fixT P t v) u := by
  unfold fixT
  split
  · cases h with | agg _ _ h => exact .agg _ _ (fixL_vr P _ h)
  · exact fixC_vr P t h

/-! ### values without addresses -/
theorem toV_eq {v : AV} {x u : Value} (h : toV v = some x) (hv : VR K ρ w v u) : u = x := by
  cases hv <;> simp [toV] at h <;> exact h

theorem toVL_eq {vs : List AV} {xs us : List Value} (h : toVL vs = some xs) (hv : VRL K ρ w vs us) : us = xs := by
  induction vs generalizing xs us with
  | nil => cases hv; simp [toVL] at h; first | exact h.symm | exact h
  | cons v vs ih =>
    cases hv with
    | cons _ u _ us h1 t =>
      simp only [toVL] at h
      split at h
      · rename_i y ys e1 e2
        simp at h
        rw [← h, toV_eq e1 h1, ih e2 t]
      · simp at h

theorem toVC_eq {v : AV} {x u : Value} (h : toVC v = some x) (hv : VR K ρ w v u) : u = x := by
  unfold toVC at h
  split at h
  · simp only [Option.map_eq_some_iff] at h
    obtain ⟨l, h1, rfl⟩ := h
    cases hv with | agg _ us h => rw [toVL_eq h1 h]
  · simp only [Option.map_eq_some_iff] at h
    obtain ⟨l, h1, rfl⟩ := h
    cases hv with | tup _ us h => rw [toVL_eq h1 h]
  · exact toV_eq h hv

theorem ofV_vr {v : Value} {a : AV} (h : ofV v = some a) : VR K ρ w a v := by
  unfold ofV at h
  split at h <;> simp at h <;> subst h <;> first | exact .bool _ | exact .int _ _ | exact .flt _ _ | exact .cpx _ _ _ | exact .str _

theorem semEv_run {α : Type} {P : Program} {s : Sem α} {a : α} (w : World) (h : semEv P s = some a) : s.run P w = .ok a w := by
  induction s with
  | pure b => simp [semEv] at h; subst h; rfl
  | program k ih => simp only [semEv] at h; simp only [Sem.run]; exact ih P h
  | mark _ k ih => simp only [semEv] at h; simp only [Sem.run]; exact ih h
  | _ => simp [semEv] at h
end

end Go.Ab
