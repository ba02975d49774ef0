/- The framework, part 5: what becomes of an abstract memory when slots are made, written, frozen and struck. -/
import Derived.Test.YthmebldaalplpaaFw4
namespace Go.Ab
set_option linter.unusedVariables false

section
variable {K F : Nat → Prop} {ρ : Locs} {m : List Slot} {w w' : World}

theorem heap_lt {w : World} {b : Nat} {o : Obj} (h : w.heap[b]? = some o) : b < w.heap.size := (Array.getElem?_eq_some_iff.1 h).1

def upd (ρ : Locs) (s : Nat) (L : Loc) : Locs := fun b => if b = s then some L else ρ b

theorem RowsR.move {K' : Nat → Prop} {L : Loc} {t : Ty} {l : List t.den} (hs : ∀ b, K b → K' b) (hk : ∀ b, K b → w'.heap[b]? = w.heap[b]?)
    (hb : L.nil = false → w'.heap[L.blk]? = w.heap[L.blk]?) (h : RowsR K w L t l) : RowsR K' w' L t l := by
  obtain ⟨h1, h2, h3, h4⟩ := h
  refine ⟨h1, h2, h3, fun hn => ?_⟩
  obtain ⟨vs, e, e1, e2, e3⟩ := h4 hn
  refine ⟨vs, e, (hb hn).trans e1, e2, fun i x hi => ?_⟩
  obtain ⟨g, g1, g2⟩ := e3 i x hi
  exact ⟨g, g1, TyR.mono hs hk _ _ _ g2⟩

theorem OR.move {K' : Nat → Prop} {ρ' : Locs} {L : Loc} {o : AObj} (hs : ∀ b, K b → K' b) (hk : ∀ b, K b → w'.heap[b]? = w.heap[b]?)
    (hl : ∀ b L, ρ b = some L → ρ' b = some L) (hb : L.nil = false → w'.heap[L.blk]? = w.heap[L.blk]?) (h : OR K ρ w L o) : OR K' ρ' w' L o := by
  cases o with
  | box cs =>
    obtain ⟨h1, h2, vs, e, h3, h4⟩ := h
    exact ⟨h1, h2, vs, e, (hb h1).trans h3, VRL.mono hs hk hl h4⟩
  | rows t l => exact RowsR.move hs hk hb h
  | frows t l => exact ⟨RowsR.move hs hk hb h.1, fun hn => hs _ (h.2 hn)⟩

theorem OR.lt {L : Loc} {o : AObj} (h : OR K ρ w L o) (hn : L.nil = false) : L.blk < w.heap.size := by
  cases o with
  | box cs => obtain ⟨_, _, vs, e, h3, _⟩ := h; exact heap_lt h3
  | rows t l => obtain ⟨vs, e, e1, _⟩ := h.2.2.2 hn; exact heap_lt e1
  | frows t l => obtain ⟨vs, e, e1, _⟩ := h.1.2.2.2 hn; exact heap_lt e1

/-- The heap alone matters. -/
theorem Inv.heap (h : Inv K F ρ m w) (he : w'.heap = w.heap) : Inv K F ρ m w' := by
  refine ⟨fun b hb => by rw [he]; exact h.kw b hb, fun b hb => by rw [he]; exact h.fw b hb, h.dis, fun b o hb => ?_, h.inj, h.fr⟩
  obtain ⟨L, h1, h2, h3⟩ := h.ob b o hb
  exact ⟨L, h1, OR.move (fun _ x => x) (fun b _ => by rw [he]) (fun _ _ x => x) (fun _ => by rw [he]) h2, h3⟩

/-- An object is laid into slot s: a new one, or in the place of the one that lay there. -/
theorem Inv.put (h : Inv K F ρ m w) {s : Nat} {L : Loc} {o : AObj} (hs : s < m.length) (hρ : (ρ s = none ∨ ρ s = some L)) (ho : o.own = true)
    (hsz : w.heap.size ≤ w'.heap.size)
    (hsame : ∀ b, b < w.heap.size → (L.nil = true ∨ b ≠ L.blk) → w'.heap[b]? = w.heap[b]?)
    (hfree : L.nil = false → ¬ K L.blk ∧ ¬ F L.blk ∧ ∀ b' o' L', b' ≠ s → m[b']? = some (.obj o') → o'.own = true → ρ b' = some L' → L'.nil = false → L'.blk ≠ L.blk)
    (hor : OR K (upd ρ s L) w' L o) : Inv K F (upd ρ s L) (m.set s (.obj o)) w' := by
  have hl : ∀ b L', ρ b = some L' → upd ρ s L b = some L' := fun b L' hb => by
    unfold upd
    split
    · rename_i hbs; subst hbs; rcases hρ with h0 | h0 <;> rw [h0] at hb <;> simp_all
    · exact hb
  have hkk : ∀ b, K b → w'.heap[b]? = w.heap[b]? := fun b hb => hsame b (h.kw b hb) (by
    cases hn : L.nil with
    | true => exact .inl rfl
    | false => exact .inr fun e => (hfree hn).1 (e ▸ hb))
  refine ⟨fun b hb => Nat.lt_of_lt_of_le (h.kw b hb) hsz, fun b hb => Nat.lt_of_lt_of_le (h.fw b hb) hsz, h.dis, fun b o' hb => ?_, ?_, ?_⟩
  · by_cases hbs : b = s
    · subst hbs
      simp [hs] at hb
      subst hb
      exact ⟨L, by simp [upd], hor, fun _ hn => ⟨(hfree hn).1, (hfree hn).2.1⟩⟩
    · rw [List.getElem?_set_ne (Ne.symm hbs)] at hb
      obtain ⟨L', h1, h2, h3⟩ := h.ob b o' hb
      refine ⟨L', hl b L' h1, OR.move (fun _ x => x) hkk hl (fun hn' => ?_) h2, h3⟩
      refine hsame _ (h2.lt hn') ?_
      cases hn : L.nil with
      | true => exact .inl rfl
      | false =>
        refine .inr fun e => ?_
        cases hoo : o'.own with
        | true => exact (hfree hn).2.2 b o' L' hbs hb hoo h1 hn' e
        | false =>
          cases o' with
          | frows t l => exact (hfree hn).1 (e ▸ h2.2 hn')
          | box cs => simp [AObj.own] at hoo
          | rows t l => simp [AObj.own] at hoo
  · intro b b' o1 o2 L1 L2 hb hb' ho1 ho2 hL1 hL2 hn1 hn2 he
    by_cases hbs : b = s
    · by_cases hbs' : b' = s
      · rw [hbs, hbs']
      · subst hbs
        rw [List.getElem?_set_ne (Ne.symm hbs')] at hb'
        have e1 : L1 = L := by simp [upd] at hL1; exact hL1.symm
        have e2 : ρ b' = some L2 := by simpa [upd, hbs'] using hL2
        subst e1
        exact absurd he.symm ((hfree hn1).2.2 b' o2 L2 hbs' hb' ho2 e2 hn2)
    · by_cases hbs' : b' = s
      · subst hbs'
        rw [List.getElem?_set_ne (Ne.symm hbs)] at hb
        have e1 : L2 = L := by simp [upd] at hL2; exact hL2.symm
        have e2 : ρ b = some L1 := by simpa [upd, hbs] using hL1
        subst e1
        exact absurd he ((hfree hn2).2.2 b o1 L1 hbs hb ho1 e2 hn1)
      · rw [List.getElem?_set_ne (Ne.symm hbs)] at hb
        rw [List.getElem?_set_ne (Ne.symm hbs')] at hb'
        exact h.inj b b' o1 o2 L1 L2 hb hb' ho1 ho2 (by simpa [upd, hbs] using hL1) (by simpa [upd, hbs'] using hL2) hn1 hn2 he
  · intro b L' hb
    by_cases hbs : b = s
    · subst hbs; simp [hs]
    · have := h.fr b L' (by simpa [upd, hbs] using hb)
      rw [List.getElem?_set_ne (Ne.symm hbs)]
      simpa using this

theorem upd_loc {s : Nat} {L : Loc} (hρ : (ρ s = none ∨ ρ s = some L)) : ∀ b L', ρ b = some L' → upd ρ s L b = some L' := fun b L' hb => by
  unfold upd
  split
  · rename_i hbs; subst hbs; rcases hρ with h0 | h0 <;> rw [h0] at hb <;> simp_all
  · exact hb

/-- The step that goes with it. -/
theorem Step.put (h : Inv K F ρ m w) {s : Nat} {L : Loc} (hρ : (ρ s = none ∨ ρ s = some L)) (hsz : w.heap.size ≤ w'.heap.size)
    (hsame : ∀ b, b < w.heap.size → (L.nil = true ∨ b ≠ L.blk) → w'.heap[b]? = w.heap[b]?) (hfree : L.nil = false → ¬ K L.blk ∧ ¬ F L.blk)
    (ho : w'.os = w.os) (ht : w'.tape = w.tape) (hu : w'.output = w.output) : Step K F ρ w K (upd ρ s L) w' := by
  refine ⟨fun _ x => x, fun b hb => hsame b (h.kw b hb) ?_, fun b hb => hsame b (h.fw b hb) ?_, upd_loc hρ, hsz, ho, ht, hu⟩
  · cases hn : L.nil with
    | true => exact .inl rfl
    | false => exact .inr fun e => (hfree hn).1 (e ▸ hb)
  · cases hn : L.nil with
    | true => exact .inl rfl
    | false => exact .inr fun e => (hfree hn).2 (e ▸ hb)

/-- A slot is struck. -/
theorem Inv.kill (h : Inv K F ρ m w) (s : Nat) : Inv K F ρ (m.set s .dead) w := by
  have key : ∀ b o, (m.set s .dead)[b]? = some (Slot.obj o) → b ≠ s ∧ m[b]? = some (.obj o) := fun b o hb => by
    by_cases hbs : b = s
    · subst hbs
      rw [List.getElem?_set] at hb
      simp only [if_true] at hb
      split at hb <;> simp at hb
    · rw [List.getElem?_set_ne (Ne.symm hbs)] at hb; exact ⟨hbs, hb⟩
  refine ⟨h.kw, h.fw, h.dis, fun b o hb => h.ob b o (key b o hb).2, fun b b' o o' L L' hb hb' => h.inj b b' o o' L L' (key b o hb).2 (key b' o' hb').2, fun b L hb => ?_⟩
  obtain ⟨h1, h2⟩ := h.fr b L hb
  refine ⟨by simpa using h1, ?_⟩
  by_cases hbs : b = s
  · subst hbs; simp [h1]
  · rw [List.getElem?_set_ne (Ne.symm hbs)]; exact h2

/-- Free slots are laid behind. -/
theorem Inv.grow (h : Inv K F ρ m w) (n : Nat) : Inv K F ρ (m ++ List.replicate n .free) w := by
  have key : ∀ b o, (m ++ List.replicate n Slot.free)[b]? = some (Slot.obj o) → m[b]? = some (Slot.obj o) := fun b o hb => by
    rw [List.getElem?_append] at hb
    split at hb
    · exact hb
    · rw [List.getElem?_replicate] at hb; split at hb <;> simp at hb
  refine ⟨h.kw, h.fw, h.dis, fun b o hb => h.ob b o (key b o hb), fun b b' o o' L L' hb hb' => h.inj b b' o o' L L' (key b o hb) (key b' o' hb'), fun b L hb => ?_⟩
  obtain ⟨h1, h2⟩ := h.fr b L hb
  refine ⟨by simp; omega, ?_⟩
  rw [List.getElem?_append_left h1]; exact h2

/-- A row is frozen: its block is one of K's from now on. -/
def frzK (K : Nat → Prop) (L : Loc) : Nat → Prop := fun b => K b ∨ (L.nil = false ∧ b = L.blk)

theorem Inv.freeze (h : Inv K F ρ m w) {s : Nat} {t : Ty} {l : List t.den} {L : Loc} (hm : m[s]? = some (.obj (.rows t l))) (hL : ρ s = some L) :
    Inv (frzK K L) F ρ (m.set s (.obj (.frows t l))) w := by
  have hs : s < m.length := (List.getElem?_eq_some_iff.1 hm).1
  obtain ⟨L0, hL0, hor, hfr⟩ := h.ob s _ hm
  have e0 : L0 = L := by rw [hL] at hL0; exact (Option.some.inj hL0).symm
  subst e0
  have hsub : ∀ b, K b → frzK K L0 b := fun b hb => .inl hb
  refine ⟨fun b hb => ?_, h.fw, fun b hb => ?_, fun b o hb => ?_, ?_, ?_⟩
  · rcases hb with hb | ⟨hn, rfl⟩
    · exact h.kw b hb
    · exact hor.lt hn
  · rcases hb with hb | ⟨hn, rfl⟩
    · exact h.dis b hb
    · exact (hfr rfl hn).2
  · by_cases hbs : b = s
    · subst hbs
      simp [hs] at hb
      subst hb
      refine ⟨L0, hL, ⟨?_, fun hn => .inr ⟨hn, rfl⟩⟩, fun ho => by simp [AObj.own] at ho⟩
      exact RowsR.move hsub (fun _ _ => rfl) (fun _ => rfl) hor
    · rw [List.getElem?_set_ne (Ne.symm hbs)] at hb
      obtain ⟨L', h1, h2, h3⟩ := h.ob b o hb
      refine ⟨L', h1, OR.move hsub (fun _ _ => rfl) (fun _ _ x => x) (fun _ => rfl) h2, fun ho hn => ⟨?_, (h3 ho hn).2⟩⟩
      rintro (hk | ⟨hn', he⟩)
      · exact (h3 ho hn).1 hk
      · exact hbs (h.inj b s o _ L' L0 hb hm ho rfl h1 hL hn hn' he)
  · intro b b' o o' L1 L2 hb hb' ho ho' hL1 hL2 hn1 hn2 he
    have k1 : b ≠ s := fun e => by subst e; simp [hs] at hb; subst hb; simp [AObj.own] at ho
    have k2 : b' ≠ s := fun e => by subst e; simp [hs] at hb'; subst hb'; simp [AObj.own] at ho'
    rw [List.getElem?_set_ne (Ne.symm k1)] at hb
    rw [List.getElem?_set_ne (Ne.symm k2)] at hb'
    exact h.inj b b' o o' L1 L2 hb hb' ho ho' hL1 hL2 hn1 hn2 he
  · intro b L' hb
    obtain ⟨h1, h2⟩ := h.fr b L' hb
    refine ⟨by simpa using h1, ?_⟩
    by_cases hbs : b = s
    · subst hbs; simp [hs]
    · rw [List.getElem?_set_ne (Ne.symm hbs)]; exact h2

theorem Step.freeze (h : Inv K F ρ m w) {L : Loc} : Step K F ρ w (frzK K L) ρ w :=
  ⟨fun _ x => .inl x, fun _ _ => rfl, fun _ _ => rfl, fun _ _ x => x, Nat.le_refl _, rfl, rfl, rfl⟩
end

end Go.Ab
