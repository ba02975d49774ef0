/- The framework, part 16: states; states in normal form. -/
import Derived.Test.YthmebldaalplpaaFw15
namespace Go.Ab
set_option linter.unusedVariables false

structure StepP (pin : Nat) (K F : Nat → Prop) (ρ : Locs) (w : World) (K' : Nat → Prop) (ρ' : Locs) (w' : World) : Prop where
  sub : ∀ b, K b → K' b
  keepK : ∀ b, K b → w'.heap[b]? = w.heap[b]?
  keepF : ∀ b, F b → w'.heap[b]? = w.heap[b]?
  loc : ∀ b L, b < pin → ρ b = some L → ρ' b = some L
  size : w.heap.size ≤ w'.heap.size
  os : w'.os = w.os
  tape : w'.tape = w.tape
  output : w'.output = w.output

/-- A state of the interpreter speaks of a state of the machine; the run began at K0, ρ0, w0. -/
def SR (pin : Nat) (K0 F : Nat → Prop) (ρ0 : Locs) (w0 : World) (σ : St) (a : Act) (w : World) : Prop :=
  ∃ K ρ, StepP pin K0 F ρ0 w0 K ρ w ∧ Inv K F ρ σ.mem w ∧ EnvR K ρ w σ.env a.tmps ∧ σ.env.length ≤ a.tmps.size ∧ a.defers = []

section
variable {pin : Nat} {K0 K F : Nat → Prop} {ρ0 ρ : Locs} {m : List Slot} {w0 w w' : World} {σ : St} {a : Act}

theorem StepP.step {K' : Nat → Prop} {ρ' : Locs} (s : StepP pin K0 F ρ0 w0 K ρ w) (t : Step K F ρ w K' ρ' w') : StepP pin K0 F ρ0 w0 K' ρ' w' :=
  ⟨fun b hb => t.sub b (s.sub b hb), fun b hb => (t.keepK b (s.sub b hb)).trans (s.keepK b hb), fun b hb => (t.keepF b hb).trans (s.keepF b hb),
    fun b L hp hb => t.loc b L (s.loc b L hp hb), Nat.le_trans s.size t.size, t.os.trans s.os, t.tape.trans s.tape, t.output.trans s.output⟩

theorem Inv.weakF {G : Nat → Prop} (h : Inv K (fun b => F b ∨ G b) ρ m w) : Inv K F ρ m w :=
  ⟨h.kw, fun b hb => h.fw b (.inl hb), fun b hb hf => h.dis b hb (.inl hf), fun b o hb => let ⟨L, h1, h2, h3⟩ := h.ob b o hb; ⟨L, h1, h2, fun ho hn => ⟨(h3 ho hn).1, fun hf => (h3 ho hn).2 (.inl hf)⟩⟩, h.inj, h.fr⟩

theorem renL_getD (f : Nat → Option Nat) (l : List AV) (i : Nat) : (renL f l).getD i .junk = ((l.getD i .junk).ren f) := by
  induction l generalizing i with
  | nil => simp [renL, AV.ren]
  | cons x xs ih => cases i with
    | zero => simp [renL]
    | succ i => simpa [renL] using ih i

theorem renL_length (f : Nat → Option Nat) (l : List AV) : (renL f l).length = l.length := by
  induction l with
  | nil => rfl
  | cons x xs ih => simp [renL, ih]

theorem keepL_pin {ids : List Nat} {b : Nat} (h : b < pin) : (keepL pin m ids)[b]? = some b := by
  unfold keepL
  rw [List.getElem?_append_left (by simpa using h)]
  simp [h]

theorem renum_sound (h : SR pin K0 F ρ0 w0 σ a w) : SR pin K0 F ρ0 w0 (renum pin σ) a w := by
  unfold renum
  simp only
  split
  · rename_i hn
    obtain ⟨K, ρ, s, i, e, l, d⟩ := h
    refine ⟨K, subρ ρ (keepL pin σ.mem (idsL σ.env)), ?_, (i.sub hn).weakF, fun j => ?_, by simpa [renL_length] using l, d⟩
    · exact ⟨s.sub, s.keepK, s.keepF, fun b L hp hb => by simp [subρ, keepL_pin hp, s.loc b L hp hb], s.size, s.os, s.tape, s.output⟩
    · simp only [renL_getD]
      exact VR.ren sub_ok (e j)
  · exact h

theorem mask_getD (keep : Nat) : ∀ (l : List AV) (k i : Nat), (mask keep k l).getD i .junk = l.getD i .junk ∨ (mask keep k l).getD i .junk = .junk
  | [], k, i => by simp [mask]
  | x :: xs, k, i => by
    cases i with
    | zero =>
      simp only [mask, List.getD_cons_zero]
      split
      · exact .inl rfl
      · exact .inr rfl
    | succ i => simpa [mask] using mask_getD keep xs (k + 1) i

theorem mask_length (keep : Nat) : ∀ (l : List AV) (k : Nat), (mask keep k l).length = l.length
  | [], k => rfl
  | x :: xs, k => by simp [mask, mask_length keep xs]

theorem mask_sound (keep : Nat) (h : SR pin K0 F ρ0 w0 σ a w) : SR pin K0 F ρ0 w0 ⟨mask keep 0 σ.env, σ.mem⟩ a w := by
  obtain ⟨K, ρ, s, i, e, l, d⟩ := h
  refine ⟨K, ρ, s, i, fun j => ?_, by simpa [mask_length] using l, d⟩
  rcases mask_getD keep σ.env 0 j with h | h
  · simp only [h]; exact e j
  · simp only [h]; exact .junk _

theorem norm0_sound (keep : Nat) (h : SR pin K0 F ρ0 w0 σ a w) : SR pin K0 F ρ0 w0 (norm0 pin keep σ) a w := renum_sound (mask_sound keep h)

/-! ### nil slices as rows -/
theorem Inv.nilrow (h : Inv K F ρ m w) (e : Ty) : ∃ L, L.nil = true ∧ L.len = 0 ∧ Inv K F (upd ρ m.length L) (m ++ [.obj (.rows e [])]) w ∧ ∀ b L', ρ b = some L' → upd ρ m.length L b = some L' := by
  have hg := h.grow 1
  have hρ : ρ m.length = Option.none := by
    cases hρ : ρ m.length with
    | none => rfl
    | some L => exact absurd (h.fr _ L hρ).1 (by omega)
  have := Inv.put (s := m.length) (L := ⟨true, 0, 0, 0, e.size, 0⟩) (o := .rows e []) (w' := w) hg (by simp) (.inl hρ) rfl (Nat.le_refl _) (fun _ _ _ => rfl) (fun h => by simp at h)
    ⟨rfl, rfl, fun _ => rfl, fun h => by simp at h⟩
  refine ⟨⟨true, 0, 0, 0, e.size, 0⟩, rfl, rfl, ?_, upd_loc (.inl hρ)⟩
  have e2 : (m ++ List.replicate 1 Slot.free).set m.length (.obj (.rows e [])) = m ++ [.obj (.rows e [])] := by simp
  rw [e2] at this
  exact this

theorem unnil_sound : ∀ (vs : List AV) (m : List Slot) (ρ : Locs) (f : Nat → Value), Inv K F ρ m w → (∀ i, VR K ρ w (vs.getD i .junk) (f i)) →
    ∃ ρ', (∀ b L, ρ b = some L → ρ' b = some L) ∧ Inv K F ρ' (unnil m vs).2 w ∧ (∀ i, VR K ρ' w ((unnil m vs).1.getD i .junk) (f i)) ∧ (unnil m vs).1.length = vs.length ∧ ∃ t, (unnil m vs).2 = m ++ t
  | [], m, ρ, f, hi, hv => ⟨ρ, fun _ _ h => h, hi, hv, rfl, [], by simp [unnil]⟩
  | v :: vs, m, ρ, f, hi, hv => by
    have h0 := hv 0
    have ht : ∀ i, VR K ρ w (vs.getD i .junk) (f (i + 1)) := fun i => by simpa using hv (i + 1)
    simp only [List.getD_cons_zero] at h0
    by_cases hnil : ∃ e, v = .nils e
    · obtain ⟨e, rfl⟩ := hnil
      obtain ⟨L, hL1, hL2, hi2, hl2⟩ := hi.nilrow e
      have ht2 : ∀ i, VR K (upd ρ m.length L) w (vs.getD i .junk) (f (i + 1)) := fun i => VR.mono (fun _ x => x) (fun _ _ => rfl) hl2 (ht i)
      obtain ⟨ρ', k1, k2, k3, k4, t, k5⟩ := unnil_sound vs _ _ (fun i => f (i + 1)) hi2 ht2
      refine ⟨ρ', fun b L' hb => k1 b L' (hl2 b L' hb), by simpa [unnil] using k2, fun i => ?_, by simp [unnil, k4], .obj (.rows e []) :: t, by simp [unnil, k5]⟩
      cases i with
      | zero =>
        simp only [unnil, List.getD_cons_zero]
        generalize f 0 = u at h0
        cases h0 with
        | nils _ ad => exact .tail _ _ L _ (k1 _ _ (by simp [upd])) ⟨by omega, ad, 0, by simp [hL2], by omega, fun h => by simp at h⟩
      | succ i => simpa [unnil] using k3 i
    · have hun : unnil m (v :: vs) = (v :: (unnil m vs).1, (unnil m vs).2) := by
        cases v <;> simp [unnil] at hnil ⊢
      obtain ⟨ρ', k1, k2, k3, k4, t, k5⟩ := unnil_sound vs m ρ (fun i => f (i + 1)) hi ht
      rw [hun]
      refine ⟨ρ', k1, k2, fun i => ?_, by simp [k4], t, k5⟩
      cases i with
      | zero => simpa using VR.mono (fun _ x => x) (fun _ _ => rfl) k1 h0
      | succ i => simpa using k3 i

theorem VRL.of_get {as : List AV} {vs : List Value} (hl : as.length = vs.length) (h : ∀ i, i < vs.length → VR K ρ w (as.getD i .junk) (vs.getD i undef)) : VRL K ρ w as vs := by
  induction as generalizing vs with
  | nil => cases vs with
    | nil => exact .nil
    | cons => simp at hl
  | cons x xs ih =>
    cases vs with
    | nil => simp at hl
    | cons v vs =>
      refine .cons _ _ _ _ (by simpa using h 0 (by simp)) (ih (by simpa using hl) fun i hi => by simpa using h (i + 1) (by simpa using hi))

theorem unnilM_sound : ∀ (bs : List Nat) (m : List Slot) (ρ : Locs), Inv K F ρ m w → ∃ ρ', (∀ b L, ρ b = some L → ρ' b = some L) ∧ Inv K F ρ' (unnilM bs m) w
  | [], m, ρ, hi => ⟨ρ, fun _ _ h => h, hi⟩
  | b :: bs, m, ρ, hi => by
    unfold unnilM
    split
    · rename_i cs hm
      obtain ⟨L, hL, ⟨hnil, hoff, vs, e, hh, hv⟩, _⟩ := hi.ob b _ hm
      have hlen := hv.length
      have hget : ∀ i, VR K ρ w (cs.getD i .junk) (vs.getD i undef) := fun i => by
        by_cases h : i < vs.length
        · exact hv.get i h
        · have : cs.getD i .junk = .junk := by simp [List.getD, List.getElem?_eq_none (show cs.length ≤ i by omega)]
          rw [this]
          exact .junk _
      obtain ⟨ρ', k1, k2, k3, k4, t, k5⟩ := unnil_sound cs m ρ _ hi hget
      have hm2 : (unnil m cs).2[b]? = some (.obj (.box cs)) := by
        rw [k5, List.getElem?_append_left (List.getElem?_eq_some_iff.1 hm).1]; exact hm
      have hv2 : VRL K ρ' w (unnil m cs).1 vs := VRL.of_get (by rw [k4, hlen]) fun i _ => k3 i
      have hw := Inv.write (w' := w) (o' := .box (unnil m cs).1) k2 hm2 rfl (k1 b L hL) hnil rfl rfl (fun _ _ => rfl) rfl rfl rfl ⟨hnil, hoff, vs, e, hh, hv2⟩
      obtain ⟨ρ2, q1, q2⟩ := unnilM_sound bs _ _ hw.2
      exact ⟨ρ2, fun c L' hc => q1 c L' (k1 c L' hc), q2⟩
    · exact unnilM_sound bs m ρ hi

theorem norm_sound (keep : Nat) (h : SR pin K0 F ρ0 w0 σ a w) : SR pin K0 F ρ0 w0 (norm pin keep σ) a w := by
  unfold norm
  refine renum_sound ?_
  have h1 := renum_sound (mask_sound keep h)
  generalize renum pin ⟨mask keep 0 σ.env, σ.mem⟩ = σ1 at h1
  obtain ⟨K, ρ, s, i, e, l, d⟩ := h1
  obtain ⟨ρ', k1, k2, k3, k4, _⟩ := unnil_sound σ1.env σ1.mem ρ (fun i => a.tmps.getD i undef) i e
  obtain ⟨ρ2, q1, q2⟩ := unnilM_sound (List.range σ1.mem.length) _ _ k2
  refine ⟨K, ρ2, ⟨s.sub, s.keepK, s.keepF, fun b L hp hb => q1 b L (k1 b L (s.loc b L hp hb)), s.size, s.os, s.tape, s.output⟩, q2, fun j => ?_, by simpa [k4] using l, d⟩
  exact VR.mono (fun _ x => x) (fun _ _ => rfl) q1 (k3 j)
end
end Go.Ab
