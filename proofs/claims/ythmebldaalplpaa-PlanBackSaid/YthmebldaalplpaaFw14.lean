/- The framework, part 14: calls: what is handed over, and what comes back. -/
import Derived.Test.YthmebldaalplpaaFw13
namespace Go.Ab
set_option linter.unusedVariables false

section
variable {P : Program} {K F : Nat → Prop} {ρ : Locs} {m : List Slot} {w w' : World}

theorem frzV_sound' {v x : AV} {wr : List (Nat × Slot)} (hf : frzV m v = some (x, wr)) {m' : List Slot} {u : Value} (hm : Fz m m') (hi : Inv K F ρ m' w) (hv : VR K ρ w v u) :
    ∃ K', Step K F ρ w K' ρ w ∧ Inv K' F ρ (writeM m' wr) w ∧ Fz m (writeM m' wr) ∧ VR K' ρ w x u := by
  unfold frzV at hf
  split at hf
  · simp only [Option.map_eq_some_iff] at hf
    obtain ⟨r, hr, he⟩ := hf
    simp only [Prod.mk.injEq] at he
    obtain ⟨rfl, rfl⟩ := he
    cases hv with
    | agg _ vs h =>
      obtain ⟨K1, s1, i1, f1, v1⟩ := frzL_sound hr hm hi h
      exact ⟨K1, s1, i1, f1, .agg _ _ v1⟩
  · simp only [Option.map_eq_some_iff] at hf
    obtain ⟨r, hr, he⟩ := hf
    simp only [Prod.mk.injEq] at he
    obtain ⟨rfl, rfl⟩ := he
    cases hv with
    | tup _ vs h =>
      obtain ⟨K1, s1, i1, f1, v1⟩ := frzL_sound hr hm hi h
      exact ⟨K1, s1, i1, f1, .tup _ _ v1⟩
  · exact frz_sound (fun _ _ => trivial) hf hm hi hv

theorem frzVL_sound {vs xs : List AV} {wr : List (Nat × Slot)} (hf : frzVL m vs = some (xs, wr)) : ∀ {m' : List Slot} {K : Nat → Prop} {us : List Value}, Fz m m' → Inv K F ρ m' w → VRL K ρ w vs us →
    ∃ K', Step K F ρ w K' ρ w ∧ Inv K' F ρ (writeM m' wr) w ∧ Fz m (writeM m' wr) ∧ VRL K' ρ w xs us := by
  induction vs generalizing xs wr with
  | nil =>
    intro m' K us hm hi hv
    simp [frzVL] at hf
    obtain ⟨rfl, rfl⟩ := hf
    cases hv
    exact ⟨K, Step.refl _ _ _ _, hi, hm, .nil⟩
  | cons v vs ih =>
    intro m' K us hm hi hv
    simp only [frzVL] at hf
    split at hf
    · rename_i x a ys b h1 h2
      simp only [Option.some.injEq, Prod.mk.injEq] at hf
      obtain ⟨rfl, rfl⟩ := hf
      cases hv with
      | cons _ u _ us h t =>
        obtain ⟨K1, s1, i1, f1, v1⟩ := frzV_sound' h1 hm hi h
        obtain ⟨K2, s2, i2, f2, v2⟩ := ih h2 f1 i1 (s1.vrl t)
        rw [writeM_append]
        exact ⟨K2, s1.trans s2, i2, f2, .cons _ _ _ _ (s2.vr v1) v2⟩
    · simp at hf

theorem frzP_sound {vs : List AV} : ∀ {m' : List Slot} {K : Nat → Prop} {us : List Value}, Fz m m' → Inv K F ρ m' w → VRL K ρ w vs us →
    ∃ K', Step K F ρ w K' ρ w ∧ Inv K' F ρ (writeM m' (frzP m vs).2) w ∧ Fz m (writeM m' (frzP m vs).2) ∧ VRL K' ρ w (frzP m vs).1 us := by
  induction vs with
  | nil =>
    intro m' K us hm hi hv
    cases hv
    exact ⟨K, Step.refl _ _ _ _, hi, hm, .nil⟩
  | cons v vs ih =>
    intro m' K us hm hi hv
    cases hv with
    | cons _ u _ us h t =>
      have h0 : ∃ K', Step K F ρ w K' ρ w ∧ Inv K' F ρ (writeM m' (frzO m v).2) w ∧ Fz m (writeM m' (frzO m v).2) ∧ VR K' ρ w (frzO m v).1 u := by
        unfold frzO
        split
        · rename_i r hr
          exact frzV_sound' hr hm hi h
        · exact ⟨K, Step.refl _ _ _ _, hi, hm, h⟩
      obtain ⟨K1, s1, i1, f1, v1⟩ := h0
      obtain ⟨K2, s2, i2, f2, v2⟩ := ih f1 i1 (s1.vrl t)
      simp only [frzP]
      rw [writeM_append]
      exact ⟨K2, s1.trans s2, i2, f2, .cons _ _ _ _ (s2.vr v1) v2⟩

theorem fixArgs_vr (P : Program) : ∀ (ts : List TypeId) {vs : List AV} {us : List Value}, VRL K ρ w vs us → VRL K ρ w (fixArgs P ts vs) us
  | [], _, _, h => by simpa [fixArgs] using h
  | t :: ts, _, _, .nil => by simpa [fixArgs] using .nil
  | t :: ts, _, _, .cons _ _ _ _ h r => .cons _ _ _ _ (fixT_vr P t h) (fixArgs_vr P ts r)

/-! ### values without ids; plain values -/
mutual
theorem VR.noids {ρ' : Locs} {a : AV} {v : Value} (h : VR K ρ w a v) (hn : a.noids = true) : VR K ρ' w a v := by
  cases h with
  | junk => exact .junk _
  | bool => exact .bool _
  | int => exact .int _ _
  | flt => exact .flt _ _
  | cpx => exact .cpx _ _ _
  | str => exact .str _
  | nilp => exact .nilp
  | nilm => exact .nilm
  | nilf => exact .nilf
  | nili => exact .nili
  | nil0 a => exact .nil0 _
  | nils e a => exact .nils _ _
  | ro e l v h => exact .ro _ _ _ h
  | rop t x j blk off g hk' hc h => exact .rop _ _ _ _ _ g hk' hc h
  | ptr b j L h => simp [AV.noids] at hn
  | eptr b i j L h => simp [AV.noids] at hn
  | tail b i L v h ht => simp [AV.noids] at hn
  | bsl b n c L h hc => simp [AV.noids] at hn
  | fn f a c as cs ha hc =>
    simp only [AV.noids, Bool.and_eq_true] at hn
    exact .fn _ _ _ _ _ (VRL.noids ha hn.1) (VRL.noids hc hn.2)
  | ifc t a v h => exact .ifc _ _ _ (VR.noids h (by simpa [AV.noids] using hn))
  | agg cs vs h => exact .agg _ _ (VRL.noids h (by simpa [AV.noids] using hn))
  | tup cs vs h => exact .tup _ _ (VRL.noids h (by simpa [AV.noids] using hn))
theorem VRL.noids {ρ' : Locs} {a : List AV} {v : List Value} (h : VRL K ρ w a v) (hn : noidsL a = true) : VRL K ρ' w a v := by
  cases h with
  | nil => exact .nil
  | cons a v as vs h t =>
    simp only [noidsL, Bool.and_eq_true] at hn
    exact .cons _ _ _ _ (VR.noids h hn.1) (VRL.noids t hn.2)
end

mutual
theorem VR.plain {K' : Nat → Prop} {ρ' : Locs} {a : AV} {v : Value} (h : VR K ρ w a v) (hn : a.plain = true) : VR K' ρ' w' a v := by
  cases h with
  | bool => exact .bool _
  | int => exact .int _ _
  | flt => exact .flt _ _
  | cpx => exact .cpx _ _ _
  | str => exact .str _
  | nilp => exact .nilp
  | nilm => exact .nilm
  | nilf => exact .nilf
  | nili => exact .nili
  | nil0 a => exact .nil0 _
  | agg cs vs h => exact .agg _ _ (VRL.plain h (by simpa [AV.plain] using hn))
  | tup cs vs h => exact .tup _ _ (VRL.plain h (by simpa [AV.plain] using hn))
  | _ => simp [AV.plain] at hn
theorem VRL.plain {K' : Nat → Prop} {ρ' : Locs} {a : List AV} {v : List Value} (h : VRL K ρ w a v) (hn : plainL a = true) : VRL K' ρ' w' a v := by
  cases h with
  | nil => exact .nil
  | cons a v as vs h t =>
    simp only [plainL, Bool.and_eq_true] at hn
    exact .cons _ _ _ _ (VR.plain h hn.1) (VRL.plain t hn.2)
end

mutual
theorem VR.ren {ρ' : Locs} {f : Nat → Option Nat} (hf : ∀ b c L, f b = some c → ρ b = some L → ρ' c = some L) {a : AV} {v : Value} (h : VR K ρ w a v) : VR K ρ' w (a.ren f) v := by
  cases h with
  | junk => exact .junk _
  | bool => exact .bool _
  | int => exact .int _ _
  | flt => exact .flt _ _
  | cpx => exact .cpx _ _ _
  | str => exact .str _
  | nilp => exact .nilp
  | nilm => exact .nilm
  | nilf => exact .nilf
  | nili => exact .nili
  | nil0 a => exact .nil0 _
  | nils e a => exact .nils _ _
  | ro e l v h => exact .ro _ _ _ h
  | rop t x j blk off g hk' hc h => exact .rop _ _ _ _ _ g hk' hc h
  | ptr b j L h =>
    simp only [AV.ren]
    split
    · rename_i c hc; exact .ptr _ _ _ (hf _ _ _ hc h)
    · exact .junk _
  | eptr b i j L h hlt =>
    simp only [AV.ren]
    split
    · rename_i c hc; exact .eptr _ _ _ _ (hf _ _ _ hc h) hlt
    · exact .junk _
  | tail b i L v h ht =>
    simp only [AV.ren]
    split
    · rename_i c hc; exact .tail _ _ _ _ (hf _ _ _ hc h) ht
    · exact .junk _
  | bsl b n c L h hc =>
    simp only [AV.ren]
    split
    · rename_i c' hc'; exact .bsl _ _ _ _ (hf _ _ _ hc' h) hc
    · exact .junk _
  | fn f a c as cs ha hc => exact .fn _ _ _ _ _ (VRL.ren hf ha) (VRL.ren hf hc)
  | ifc t a v h => exact .ifc _ _ _ (VR.ren hf h)
  | agg cs vs h => exact .agg _ _ (VRL.ren hf h)
  | tup cs vs h => exact .tup _ _ (VRL.ren hf h)
theorem VRL.ren {ρ' : Locs} {f : Nat → Option Nat} (hf : ∀ b c L, f b = some c → ρ b = some L → ρ' c = some L) {a : List AV} {v : List Value} (h : VRL K ρ w a v) : VRL K ρ' w (renL f a) v := by
  cases h with
  | nil => exact .nil
  | cons a v as vs h t => exact .cons _ _ _ _ (VR.ren hf h) (VRL.ren hf t)
end

/-- The places of a part of the memory. -/
def subρ (ρ : Locs) (L : List Nat) : Locs := fun i => (L[i]?).bind ρ

theorem idx_get {L : List Nat} {b i : Nat} (h : L.idxOf? b = some i) : L[i]? = some b := by
  rw [List.idxOf?_eq_some_iff] at h
  obtain ⟨hi, h1, _⟩ := h
  rw [List.getElem?_eq_getElem hi, h1]

theorem sub_ok {L : List Nat} : ∀ b c Lc, (fun b => L.idxOf? b) b = some c → ρ b = some Lc → subρ ρ L c = some Lc := fun b c Lc h1 h2 => by
  simp only at h1
  simp [subρ, idx_get h1, h2]

theorem nodupB_inj {L : List Nat} (h : nodupB L = true) {i j b : Nat} (hi : L[i]? = some b) (hj : L[j]? = some b) : i = j := by
  induction L generalizing i j with
  | nil => simp at hi
  | cons x xs ih =>
    simp only [nodupB, Bool.and_eq_true, Bool.not_eq_true', List.contains_eq_mem, decide_eq_false_iff_not] at h
    cases i with
    | zero =>
      cases j with
      | zero => rfl
      | succ j =>
        simp at hi hj
        subst hi
        exact absurd (List.mem_of_getElem? hj) h.1
    | succ i =>
      cases j with
      | zero =>
        simp at hi hj
        subst hj
        exact absurd (List.mem_of_getElem? hi) h.1
      | succ j => simp at hi hj; rw [ih h.2 hi hj]

theorem renS_obj {f : Nat → Option Nat} {s : Slot} {o : AObj} (h : renS f s = .obj o) : ∃ o', s = .obj o' ∧ o'.own = o.own := by
  unfold renS at h
  split at h
  · rename_i cs; simp at h; subst h; exact ⟨_, rfl, rfl⟩
  · subst h; exact ⟨_, rfl, rfl⟩

theorem renS_free {f : Nat → Option Nat} {s : Slot} : renS f s = .free ↔ s = .free := by
  unfold renS
  split <;> simp

theorem OR.ren {ρ' : Locs} {f : Nat → Option Nat} (hf : ∀ b c L, f b = some c → ρ b = some L → ρ' c = some L) {L : Loc} {o o' : AObj} (h : OR K ρ w L o) (ho : renS f (.obj o) = .obj o') : OR K ρ' w L o' := by
  cases o with
  | box cs =>
    simp only [renS, Slot.obj.injEq] at ho
    subst ho
    obtain ⟨h1, h2, vs, e, h3, h4⟩ := h
    exact ⟨h1, h2, vs, e, h3, VRL.ren hf h4⟩
  | rows t l => simp only [renS, Slot.obj.injEq] at ho; subst ho; exact h
  | frows t l => simp only [renS, Slot.obj.injEq] at ho; subst ho; exact h

/-- The blocks of the objects that are left out. -/
def outB (ρ : Locs) (m : List Slot) (L : List Nat) : Nat → Prop := fun blk => ∃ b o Lc, m[b]? = some (.obj o) ∧ o.own = true ∧ b ∉ L ∧ ρ b = some Lc ∧ Lc.nil = false ∧ Lc.blk = blk

theorem Inv.sub (h : Inv K F ρ m w) {L : List Nat} (hn : nodupB L = true) : Inv K (fun b => F b ∨ outB ρ m L b) (subρ ρ L) (subM m L) w := by
  have getS : ∀ i : Nat, (subM m L)[i]? = (L[i]?).map fun b => renS (fun c => L.idxOf? c) (m.getD b .free) := fun i => by simp [subM]
  have objS : ∀ (i : Nat) (o : AObj), (subM m L)[i]? = some (.obj o) → ∃ b o', L[i]? = some b ∧ m[b]? = some (.obj o') ∧ o'.own = o.own ∧ renS (fun c => L.idxOf? c) (.obj o') = .obj o := fun i o ho => by
    rw [getS, Option.map_eq_some_iff] at ho
    obtain ⟨b, h1, h2⟩ := ho
    obtain ⟨o', h3, h4⟩ := renS_obj h2
    refine ⟨b, o', h1, ?_, h4, by rw [← h3]; exact h2⟩
    unfold List.getD at h3
    cases hb : m[b]? with
    | none => rw [hb] at h3; simp at h3
    | some s => rw [hb] at h3; simp at h3; rw [h3]
  refine ⟨h.kw, fun b hb => ?_, fun b hb => ?_, fun i o ho => ?_, fun i j o o' Li Lj hi hj ho ho' hLi hLj hni hnj he => ?_, fun i Li hi => ?_⟩
  · rcases hb with hb | ⟨c, o, Lc, h1, h2, h3, h4, h5, rfl⟩
    · exact h.fw b hb
    · obtain ⟨L0, q1, q2, _⟩ := h.ob c o h1
      rw [h4] at q1
      obtain rfl := Option.some.inj q1
      exact q2.lt h5
  · rintro (hf | ⟨c, o, Lc, h1, h2, h3, h4, h5, rfl⟩)
    · exact h.dis b hb hf
    · obtain ⟨L0, q1, q2, q3⟩ := h.ob c o h1
      rw [h4] at q1
      obtain rfl := Option.some.inj q1
      exact (q3 h2 h5).1 hb
  · obtain ⟨b, o', h1, h2, h3, h4⟩ := objS i o ho
    obtain ⟨L0, q1, q2, q3⟩ := h.ob b o' h2
    refine ⟨L0, by simp [subρ, h1, q1], OR.ren (sub_ok (L := L)) q2 h4, fun hown hnil => ?_⟩
    have := q3 (by rw [h3]; exact hown) hnil
    refine ⟨this.1, ?_⟩
    rintro (hf | ⟨c, oc, Lc, k1, k2, k3, k4, k5, k6⟩)
    · exact this.2 hf
    · have : c = b := h.inj c b oc o' Lc L0 k1 h2 k2 (by rw [h3]; exact hown) k4 q1 k5 hnil k6
      subst this
      exact k3 (List.mem_of_getElem? h1)
  · obtain ⟨b, ob, h1, h2, h3, _⟩ := objS i o hi
    obtain ⟨c, oc, k1, k2, k3, _⟩ := objS j o' hj
    simp only [subρ, h1, Option.bind_some] at hLi
    simp only [subρ, k1, Option.bind_some] at hLj
    have := h.inj b c ob oc Li Lj h2 k2 (by rw [h3]; exact ho) (by rw [k3]; exact ho') hLi hLj hni hnj he
    subst this
    exact nodupB_inj hn h1 k1
  · simp only [subρ, Option.bind_eq_some_iff] at hi
    obtain ⟨b, h1, h2⟩ := hi
    obtain ⟨q1, q2⟩ := h.fr b Li h2
    refine ⟨by simp [subM]; exact (List.getElem?_eq_some_iff.1 h1).1, ?_⟩
    rw [getS, h1]
    simp only [Option.map_some, ne_eq, Option.some.injEq]
    rw [renS_free]
    intro hc
    apply q2
    rw [List.getElem?_eq_getElem q1] at *
    simp [List.getD, List.getElem?_eq_getElem q1] at hc
    rw [hc]

/-- Behind a call: what was left out is as it was. -/
theorem Inv.after {K' : Nat → Prop} (h : Inv K F ρ m w) (hs : ∀ b, K b → K' b) (hkw : ∀ b, K' b → b < w'.heap.size) (hsz : w.heap.size ≤ w'.heap.size) (hkF : ∀ b, K' b → ¬ F b)
    (hkO : ∀ b, K' b → ¬ outB ρ m [] b) (hk : ∀ b, K b → w'.heap[b]? = w.heap[b]?) (ho : ∀ b, outB ρ m [] b → w'.heap[b]? = w.heap[b]?) : Inv K' F ρ m w' := by
  refine ⟨hkw, fun b hb => Nat.lt_of_lt_of_le (h.fw b hb) hsz, hkF, fun b o hb => ?_, h.inj, h.fr⟩
  obtain ⟨L, h1, h2, h3⟩ := h.ob b o hb
  refine ⟨L, h1, OR.move hs hk (fun _ _ x => x) (fun hn => ?_) h2, fun hown hn => ⟨fun hc => hkO _ hc ⟨b, o, L, hb, hown, by simp, h1, hn, rfl⟩, (h3 hown hn).2⟩⟩
  cases hown : o.own with
  | true => exact ho _ ⟨b, o, L, hb, hown, by simp, h1, hn, rfl⟩
  | false =>
    cases o with
    | frows t l => exact hk _ (h2.2 hn)
    | box cs => simp [AObj.own] at hown
    | rows t l => simp [AObj.own] at hown
end
end Go.Ab
