/- The framework, part 14: calls: what is handed over, and what comes back. -/
import Derived.Test.YtmclfehlflekhaaFB
namespace Go.Ab
set_option linter.unusedVariables false

section
variable {P : Program} {K F : Nat → Prop} {ρ : Locs} {m : List Slot} {w w' : World}

theorem frzV_sound' {v x : AV} {wr : List (Nat × Slot)} (hf : frzV m v = some (x, wr)) {m' : List Slot} {u : Value} (hm : Fz m m') (hi : Inv K F ρ m' w) (hv : VR K ρ w v u) :
    ∃ K', Step K F ρ w K' ρ w ∧ Inv K' F ρ (writeM m' wr) w ∧ Fz m (writeM m' wr) ∧ VR K' ρ w x u := by
  unfold frzV at hf
  split at hf
  · simp only [Option.map_eq_some_iff] at hf
    obtain ⟨r, hr, he⟩ := hf
    simp only [Prod.mk.injEq] at he
    obtain ⟨rfl, rfl⟩ := he
    cases hv with
    | agg _ vs h =>
      obtain ⟨K1, s1, i1, f1, v1⟩ := frzL_sound hr hm hi h
      exact ⟨K1, s1, i1, f1, .agg _ _ v1⟩
  · simp only [Option.map_eq_some_iff] at hf
    obtain ⟨r, hr, he⟩ := hf
    simp only [Prod.mk.injEq] at he
    obtain ⟨rfl, rfl⟩ := he
    cases hv with
    | tup _ vs h =>
      obtain ⟨K1, s1, i1, f1, v1⟩ := frzL_sound hr hm hi h
      exact ⟨K1, s1, i1, f1, .tup _ _ v1⟩
  · exact frz_sound (fun _ _ => trivial) hf hm hi hv

theorem frzVL_sound {vs xs : List AV} {wr : List (Nat × Slot)} (hf : frzVL m vs = some (xs, wr)) : ∀ {m' : List Slot} {K : Nat → Prop} {us : List Value}, Fz m m' → Inv K F ρ m' w → VRL K ρ w vs us →
    ∃ K', Step K F ρ w K' ρ w ∧ Inv K' F ρ (writeM m' wr) w ∧ Fz m (writeM m' wr) ∧ VRL K' ρ w xs us := by
  induction vs generalizing xs wr with
  | nil =>
    intro m' K us hm hi hv
    simp [frzVL] at hf
    obtain ⟨rfl, rfl⟩ := hf
    cases hv
    exact ⟨K, Step.refl _ _ _ _, hi, hm, .nil⟩
  | cons v vs ih =>
    intro m' K us hm hi hv
    simp only [frzVL] at hf
    split at hf
    · rename_i x a ys b h1 h2
      simp only [Option.some.injEq, Prod.mk.injEq] at hf
      obtain ⟨rfl, rfl⟩ := hf
      cases hv with
      | cons _ u _ us h t =>
        obtain ⟨K1, s1, i1, f1, v1⟩ := frzV_sound' h1 hm hi h
        obtain ⟨K2, s2, i2, f2, v2⟩ := ih h2 f1 i1 (s1.vrl t)
        rw [writeM_append]
        exact ⟨K2, s1.trans s2, i2, f2, .cons _ _ _ _ (s2.vr v1) v2⟩
    · simp at hf

theorem frzP_sound {vs : List AV} : ∀ {m' : List Slot} {K : Nat → Prop} {us : List Value}, Fz m m' → Inv K F ρ m' w → VRL K ρ w vs us →
    ∃ K', Step K F ρ w K' ρ w ∧ Inv K' F ρ (writeM m' (frzP m vs).2) w ∧ Fz m (writeM m' (frzP m vs).2) ∧ VRL K' ρ w (frzP m vs).1 us := by
  induction vs with
  | nil =>
    intro m' K us hm hi hv
    cases hv
    exact ⟨K, Step.refl _ _ _ _, hi, hm, .nil⟩
  | cons v vs ih =>
    intro m' K us hm hi hv
    cases hv with
    | cons _ u _ us h t =>
      have h0 : ∃ K', Step K F ρ w K' ρ w ∧ Inv K' F ρ (writeM m' (frzO m v).2) w ∧ Fz m (writeM m' (frzO m v).2) ∧ VR K' ρ w (frzO m v).1 u := by
        unfold frzO
        split
        · rename_i r hr
          exact frzV_sound' hr hm hi h
        · exact ⟨K, Step.refl _ _ _ _, hi, hm, h⟩
      obtain ⟨K1, s1, i1, f1, v1⟩ := h0
      obtain ⟨K2, s2, i2, f2, v2⟩ := ih f1 i1 (s1.vrl t)
      simp only [frzP]
      rw [writeM_append]
      exact ⟨K2, s1.trans s2, i2, f2, .cons _ _ _ _ (s2.vr v1) v2⟩

theorem fixArgs_vr (P : Program) : ∀ (ts : List TypeId) {vs : List AV} {us : List Value}, VRL K ρ w vs us → VRL K ρ w (fixArgs P ts vs) us
  | [], _, _, h => by simpa [fixArgs] using h
  | t :: ts, _, _, .nil => by simpa [fixArgs] using .nil
  | t :: ts, _, _, .cons _ _ _ _ h r => .cons _ _ _ _ (fixT_vr P t h) (fixArgs_vr P ts r)

/-! ### values without ids; plain values -/
mutual
theorem VR.noids {ρ' : Locs} {a : AV} {v : Value} (h : VR K ρ w a v) (hn : a.noids = true) : VR K ρ' w a v := by
  cases h with
  | junk => exact .junk _
  | bool => exact .bool _
  | int => exact .int _ _
  | flt => exact .flt _ _
  | cpx => exact .cpx _ _ _
  | str => exact .str _
  | nilp => exact .nilp
  | nilm => exact .nilm
  | nilf => exact .nilf
  | nili => exact .nili
  | nil0 a => exact .nil0 _
  | nils e a => exact .nils _ _
  | ro e l v h => exact .ro _ _ _ h
  | rop t x j blk off g hk' hc h => exact .rop _ _ _ _ _ g hk' hc h
  | ptr b j L h => simp [AV.noids] at hn
  | eptr b i j L h => simp [AV.noids] at hn
  | tail b i L v h ht => simp [AV.noids] at hn
  | bsl b n c L h hc => simp [AV.noids] at hn
  | fn f a c as cs ha hc =>
    simp only [AV.noids, Bool.and_eq_true] at hn
    exact .fn _ _ _ _ _ (VRL.noids ha hn.1) (VRL.noids hc hn.2)
  | ifc t a v h => exact .ifc _ _ _ (VR.noids h (by simpa [AV.noids] using hn))
  | agg cs vs h => exact .agg _ _ (VRL.noids h (by simpa [AV.noids] using hn))
  | tup cs vs h => exact .tup _ _ (VRL.noids h (by simpa [AV.noids] using hn))
theorem VRL.noids {ρ' : Locs} {a : List AV} {v : List Value} (h : VRL K ρ w a v) (hn : noidsL a = true) : VRL K ρ' w a v := by
  cases h with
  | nil => exact .nil
  | cons a v as vs h t =>
    simp only [noidsL, Bool.and_eq_true] at hn
    exact .cons _ _ _ _ (VR.noids h hn.1) (VRL.noids t hn.2)
end

mutual
theorem VR.plain {K' : Nat → Prop} {ρ' : Locs} {a : AV} {v : Value} (h : VR K ρ w a v) (hn : a.plain = true) : VR K' ρ' w' a v := by
  cases h with
  | bool => exact .bool _
  | int => exact .int _ _
  | flt => exact .flt _ _
  | cpx => exact .cpx _ _ _
  | str => exact .str _
  | nilp => exact .nilp
  | nilm => exact .nilm
  | nilf => exact .nilf
  | nili => exact .nili
  | nil0 a => exact .nil0 _
  | agg cs vs h => exact .agg _ _ (VRL.plain h (by simpa [AV.plain] using hn))
  | tup cs vs h => exact .tup _ _ (VRL.plain h (by simpa [AV.plain] using hn))
  | _ => simp [AV.plain] at hn
theorem VRL.plain {K' : Nat → Prop} {ρ' : Locs} {a : List AV} {v : List Value} (h : VRL K ρ w a v) (hn : plainL a = true) : VRL K' ρ' w' a v := by
  cases h with
  | nil => exact .nil
  | cons a v as vs h t =>
    simp only [plainL, Bool.and_eq_true] at hn
    exact .cons _ _ _ _ (VR.plain h hn.1) (VRL.plain t hn.2)
end

mutual
theorem VR.ren {ρ' : Locs} {f : Nat → Option Nat} (hf : ∀ b c L, f b = some c → ρ b = some L → ρ' c = some L) {a : AV} {v : Value} (h : VR K ρ w a v) : VR K ρ' w (a.ren f) v := by
  cases h with
  | junk => exact .junk _
  | bool => exact .bool _
  | int => exact .int _ _
  | flt => exact .flt _ _
  | cpx => exact .cpx _ _ _
  | str => exact .str _
  | nilp => exact .nilp
  | nilm => exact .nilm
  | nilf => exact .nilf
  | nili => exact .nili
  | nil0 a => exact .nil0 _
  | nils e a => exact .nils _ _
  | ro e l v h => exact .ro _ _ _ h
  | rop t x j blk off g hk' hc h => exact .rop _ _ _ _ _ g hk' hc h
  | ptr b j L h =>
    simp only [AV.ren]
    split
    · rename_i c hc; exact .ptr _ _ _ (hf _ _ _ hc h)
    · exact .junk _
  | eptr b i j L h hlt =>
    simp only [AV.ren]
    split
    · rename_i c hc; exact .eptr _ _ _ _ (hf _ _ _ hc h) hlt
    · exact .junk _
  | tail b i L v h ht =>
    simp only [AV.ren]
    split
    · rename_i c hc; exact .tail _ _ _ _ (hf _ _ _ hc h) ht
    · exact .junk _
  | bsl b n c L h hc =>
    simp only [AV.ren]
    split
    · rename_i c' hc'; exact .bsl _ _ _ _ (hf _ _ _ hc' h) hc
    · exact .junk _
  | fn f a c as cs ha hc => exact .fn _ _ _ _ _ (VRL.ren hf ha) (VRL.ren hf hc)
  | ifc t a v h => exact .ifc _ _ _ (VR.ren hf h)
  | agg cs vs h => exact .agg _ _ (VRL.ren hf h)
  | tup cs vs h => exact .tup _ _ (VRL.ren hf h)
theorem VRL.ren {ρ' : Locs} {f : Nat → Option Nat} (hf : ∀ b c L, f b = some c → ρ b = some L → ρ' c = some L) {a : List AV} {v : List Value} (h : VRL K ρ w a v) : VRL K ρ' w (renL f a) v := by
  cases h with
  | nil => exact .nil
  | cons a v as vs h t => exact .cons _ _ _ _ (VR.ren hf h) (VRL.ren hf t)
end

/-- The places of a part of the memory. -/
def subρ (ρ : Locs) (L : List Nat) : Locs := fun i => (L[i]?).bind ρ

theorem idx_get {L : List Nat} {b i : Nat} (h : L.idxOf? b = some i) : L[i]? = some b := by
  rw [List.idxOf?_eq_some_iff] at h
  obtain ⟨hi, h1, _⟩ := h
  rw [List.getElem?_eq_getElem hi, h1]

theorem sub_ok {L : List Nat} : ∀ b c Lc, (fun b => L.idxOf? b) b = some c → ρ b = some Lc → subρ ρ L c = some Lc := fun b c Lc h1 h2 => by
  simp only at h1
  simp [subρ, idx_get h1, h2]

theorem nodupB_inj {L : List Nat} (h : nodupB L = true) {i j b : Nat} (hi : L[i]? = some b) (hj : L[j]? = some b) : i = j := by
  induction L generalizing i j with
  | nil => simp at hi
  | cons x xs ih =>
    simp only [nodupB, Bool.and_eq_true, Bool.not_eq_true', List.contains_eq_mem, decide_eq_false_iff_not] at h
    cases i with
    | zero =>
      cases j with
      | zero => rfl
      | succ j =>
        simp at hi hj
        subst hi
        exact absurd (List.mem_of_getElem? hj) h.1
    | succ i =>
      cases j with
      | zero =>
        simp at hi hj
        subst hj
        exact absurd (List.mem_of_getElem? hi) h.1
      | succ j => simp at hi hj; rw [ih h.2 hi hj]

theorem renS_obj {f : Nat → Option Nat} {s : Slot} {o : AObj} (h : renS f s = .obj o) : ∃ o', s = .obj o' ∧ o'.own = o.own := by
  unfold renS at h
  split at h
  · rename_i cs; simp at h; subst h; exact ⟨_, rfl, rfl⟩
  · subst h; exact ⟨_, rfl, rfl⟩

theorem renS_free {f : Nat → Option Nat} {s : Slot} : renS f s = .free ↔ s = .free := by
  unfold renS
  split <;> simp

theorem OR.ren {ρ' : Locs} {f : Nat → Option Nat} (hf : ∀ b c L, f b = some c → ρ b = some L → ρ' c = some L) {L : Loc} {o o' : AObj} (h : OR K ρ w L o) (ho : renS f (.obj o) = .obj o') : OR K ρ' w L o' := by
  cases o with
  | box cs =>
    simp only [renS, Slot.obj.injEq] at ho
    subst ho
    obtain ⟨h1, h2, vs, e, h3, h4⟩ := h
    exact ⟨h1, h2, vs, e, h3, VRL.ren hf h4⟩
  | rows t l => simp only [renS, Slot.obj.injEq] at ho; subst ho; exact h
  | frows t l => simp only [renS, Slot.obj.injEq] at ho; subst ho; exact h

/-- The blocks of the objects that are left out. -/
def outB (ρ : Locs) (m : List Slot) (L : List Nat) : Nat → Prop := fun blk => ∃ b o Lc, m[b]? = some (.obj o) ∧ o.own = true ∧ b ∉ L ∧ ρ b = some Lc ∧ Lc.nil = false ∧ Lc.blk = blk

theorem Inv.sub (h : Inv K F ρ m w) {L : List Nat} (hn : nodupB L = true) : Inv K (fun b => F b ∨ outB ρ m L b) (subρ ρ L) (subM m L) w := by
  have getS : ∀ i : Nat, (subM m L)[i]? = (L[i]?).map fun b => renS (fun c => L.idxOf? c) (m.getD b .free) := fun i => by simp [subM]
  have objS : ∀ (i : Nat) (o : AObj), (subM m L)[i]? = some (.obj o) → ∃ b o', L[i]? = some b ∧ m[b]? = some (.obj o') ∧ o'.own = o.own ∧ renS (fun c => L.idxOf? c) (.obj o') = .obj o := fun i o ho => by
    rw [getS, Option.map_eq_some_iff] at ho
    obtain ⟨b, h1, h2⟩ := ho
    obtain ⟨o', h3, h4⟩ := renS_obj h2
    refine ⟨b, o', h1, ?_, h4, by rw [← h3]; exact h2⟩
    unfold List.getD at h3
    cases hb : m[b]? with
    | none => rw [hb] at h3; simp at h3
    | some s => rw [hb] at h3; simp at h3; rw [h3]
  refine ⟨h.kw, fun b hb => ?_, fun b hb => ?_, fun i o ho => ?_, fun i j o o' Li Lj hi hj ho ho' hLi hLj hni hnj he => ?_, fun i Li hi => ?_⟩
  · rcases hb with hb | ⟨c, o, Lc, h1, h2, h3, h4, h5, rfl⟩
    · exact h.fw b hb
    · obtain ⟨L0, q1, q2, _⟩ := h.ob c o h1
      rw [h4] at q1
      obtain rfl := Option.some.inj q1
      exact q2.lt h5
  · rintro (hf | ⟨c, o, Lc, h1, h2, h3, h4, h5, rfl⟩)
    · exact h.dis b hb hf
    · obtain ⟨L0, q1, q2, q3⟩ := h.ob c o h1
      rw [h4] at q1
      obtain rfl := Option.some.inj q1
      exact (q3 h2 h5).1 hb
  · obtain ⟨b, o', h1, h2, h3, h4⟩ := objS i o ho
    obtain ⟨L0, q1, q2, q3⟩ := h.ob b o' h2
    refine ⟨L0, by simp [subρ, h1, q1], OR.ren (sub_ok (L := L)) q2 h4, fun hown hnil => ?_⟩
    have := q3 (by rw [h3]; exact hown) hnil
    refine ⟨this.1, ?_⟩
    rintro (hf | ⟨c, oc, Lc, k1, k2, k3, k4, k5, k6⟩)
    · exact this.2 hf
    · have : c = b := h.inj c b oc o' Lc L0 k1 h2 k2 (by rw [h3]; exact hown) k4 q1 k5 hnil k6
      subst this
      exact k3 (List.mem_of_getElem? h1)
  · obtain ⟨b, ob, h1, h2, h3, _⟩ := objS i o hi
    obtain ⟨c, oc, k1, k2, k3, _⟩ := objS j o' hj
    simp only [subρ, h1, Option.bind_some] at hLi
    simp only [subρ, k1, Option.bind_some] at hLj
    have := h.inj b c ob oc Li Lj h2 k2 (by rw [h3]; exact ho) (by rw [k3]; exact ho') hLi hLj hni hnj he
    subst this
    exact nodupB_inj hn h1 k1
  · simp only [subρ, Option.bind_eq_some_iff] at hi
    obtain ⟨b, h1, h2⟩ := hi
    obtain ⟨q1, q2⟩ := h.fr b Li h2
    refine ⟨by simp [subM]; exact (List.getElem?_eq_some_iff.1 h1).1, ?_⟩
    rw [getS, h1]
    simp only [Option.map_some, ne_eq, Option.some.injEq]
    rw [renS_free]
    intro hc
    apply q2
    rw [List.getElem?_eq_getElem q1] at *
    simp [List.getD, List.getElem?_eq_getElem q1] at hc
    rw [hc]

/-- Behind a call: what was left out is as it was. -/
theorem Inv.after {K' : Nat → Prop} (h : Inv K F ρ m w) (hs : ∀ b, K b → K' b) (hkw : ∀ b, K' b → b < w'.heap.size) (hsz : w.heap.size ≤ w'.heap.size) (hkF : ∀ b, K' b → ¬ F b)
    (hkO : ∀ b, K' b → ¬ outB ρ m [] b) (hk : ∀ b, K b → w'.heap[b]? = w.heap[b]?) (ho : ∀ b, outB ρ m [] b → w'.heap[b]? = w.heap[b]?) : Inv K' F ρ m w' := by
  refine ⟨hkw, fun b hb => Nat.lt_of_lt_of_le (h.fw b hb) hsz, hkF, fun b o hb => ?_, h.inj, h.fr⟩
  obtain ⟨L, h1, h2, h3⟩ := h.ob b o hb
  refine ⟨L, h1, OR.move hs hk (fun _ _ x => x) (fun hn => ?_) h2, fun hown hn => ⟨fun hc => hkO _ hc ⟨b, o, L, hb, hown, by simp, h1, hn, rfl⟩, (h3 hown hn).2⟩⟩
  cases hown : o.own with
  | true => exact ho _ ⟨b, o, L, hb, hown, by simp, h1, hn, rfl⟩
  | false =>
    cases o with
    | frows t l => exact hk _ (h2.2 hn)
    | box cs => simp [AObj.own] at hown
    | rows t l => simp [AObj.own] at hown
end
end Go.Ab

/- The framework, part 15: what a call's contract says, and that a caller may go by it. -/
namespace Go.Ab
set_option linter.unusedVariables false

/-- A call of f with these arguments, over this memory, hands back r.1 and leaves the memory r.2. -/
def Sound (P : Program) (f : FuncId) (args : List AV) (m : List Slot) (r : AV × List Slot) : Prop :=
  ∀ (K F : Nat → Prop) (ρ : Locs) (w : World) (vals : List Value), Inv K F ρ m w → VRL K ρ w args vals →
    Calls P f vals.toArray w fun e w' => ∃ v K' ρ', e = .returned v ∧ Step K F ρ w K' ρ' w' ∧ Inv K' F ρ' r.2 w' ∧ VR K' ρ' w' r.1 v

/-- As Sound, of an answer with which something is done. -/
def SoundK (P : Program) (f : FuncId) (args : List AV) (m : List Slot) (kk : AV → List Slot → Ans) (ans : AV × List Slot) : Prop :=
  ∀ (K F : Nat → Prop) (ρ : Locs) (w : World) (vals : List Value), Inv K F ρ m w → VRL K ρ w args vals →
    Calls P f vals.toArray w fun e w' => ∃ (v : Value) (K' : Nat → Prop) (ρ' : Locs) (r : AV × List Slot), kk r.1 r.2 = some ans ∧ e = .returned v ∧ Step K F ρ w K' ρ' w' ∧ Inv K' F ρ' r.2 w' ∧ VR K' ρ' w' r.1 v

structure CallOK (P : Program) (call : Callf) : Prop where
  tab : ∀ f args m r, call.tab f args m = some r → r.1 = true → Sound P f args m r.2
  inl : ∀ f args m kk ans, call.inl f args m kk = some ans → SoundK P f args m kk ans

section
variable {P : Program} {K F : Nat → Prop} {ρ : Locs} {m : List Slot} {w w' : World}

theorem Inv.none (h : Inv K F ρ m w) : Inv K (fun b => F b ∨ outB ρ m [] b) (fun _ => none) [] w := by
  have := h.sub (L := []) rfl
  have e : subρ ρ [] = fun _ => Option.none := by funext i; simp [subρ]
  rw [e] at this
  exact this

theorem Step.back {K' : Nat → Prop} {ρ' : Locs} {G : Nat → Prop} {ρ0 : Locs} (s : Step K (fun b => F b ∨ G b) ρ0 w K' ρ' w') : Step K F ρ w K' ρ w' :=
  ⟨s.sub, s.keepK, fun b hb => s.keepF b (.inl hb), fun _ _ h => h, s.size, s.os, s.tape, s.output⟩

def mergeρ (ρ ρ' : Locs) (n k : Nat) : Locs := fun b => if b < n then ρ b else ρ' (k + (b - n))

theorem list_find {L : List Nat} {b : Nat} (h : L.idxOf? b = Option.none) : b ∉ L := by
  rwa [List.idxOf?_eq_none_iff] at h

theorem merge_ok {K1 K' : Nat → Prop} {ρ' : Locs} {m1 m' : List Slot} {L : List Nat} (hi : Inv K1 F ρ m1 w) (hn : nodupB L = true) (hlive : L.all (isObj m1) = true)
    (st : Step K1 (fun b => F b ∨ outB ρ m1 L b) (subρ ρ L) w K' ρ' w') (ir : Inv K' (fun b => F b ∨ outB ρ m1 L b) ρ' m' w') (hlen : L.length ≤ m'.length) :
    Step K1 F ρ w K' (mergeρ ρ ρ' m1.length L.length) w' ∧ Inv K' F (mergeρ ρ ρ' m1.length L.length) (mergeM m1 L m') w' ∧
      ∀ b c Lc, backF L m1.length b = some c → ρ' b = some Lc → mergeρ ρ ρ' m1.length L.length c = some Lc := by
  have live : ∀ b, b ∈ L → b < m1.length ∧ ∃ L0, ρ b = some L0 := fun b hb => by
    have := List.all_eq_true.1 hlive b hb
    unfold isObj at this
    split at this
    · rename_i o ho
      obtain ⟨L0, h1, _⟩ := hi.ob b _ ho
      exact ⟨(List.getElem?_eq_some_iff.1 ho).1, L0, h1⟩
    · simp at this
  have hback : ∀ b c Lc, backF L m1.length b = some c → ρ' b = some Lc → mergeρ ρ ρ' m1.length L.length c = some Lc := fun i c Lc h1 h2 => by
    unfold backF at h1
    split at h1
    · obtain ⟨q1, L0, q2⟩ := live c (List.mem_of_getElem? h1)
      have := st.loc i L0 (by simp [subρ, h1, q2])
      rw [this] at h2
      obtain rfl := Option.some.inj h2
      simp [mergeρ, q1, q2]
    · simp only [Option.some.injEq] at h1
      subst h1
      rename_i hge
      simp only [mergeρ]
      rw [if_neg (by omega), show L.length + (m1.length + (i - L.length) - m1.length) = i by omega]
      exact h2
  have hloc : ∀ b L0, ρ b = some L0 → mergeρ ρ ρ' m1.length L.length b = some L0 := fun b L0 hb => by
    simp only [mergeρ]
    rw [if_pos (hi.fr b L0 hb).1]
    exact hb
  have getM : ∀ b : Nat, (mergeM m1 L m')[b]? = if b < m1.length then some (mergeS m1 L m' b) else (m'[L.length + (b - m1.length)]?).map (renS (backF L m1.length)) := fun b => by
    unfold mergeM
    rw [List.getElem?_append]
    simp only [List.length_map, List.length_range]
    split
    · rename_i hb
      simp [hb]
    · simp
  have objM : ∀ (b : Nat) (o : AObj), (mergeM m1 L m')[b]? = some (.obj o) → (b < m1.length ∧ b ∉ L ∧ m1[b]? = some (.obj o)) ∨
      ∃ i o', backF L m1.length i = some b ∧ m'[i]? = some (.obj o') ∧ o'.own = o.own ∧ renS (backF L m1.length) (.obj o') = .obj o := fun b o hb => by
    rw [getM] at hb
    split at hb
    · rename_i hlt
      simp only [Option.some.injEq] at hb
      unfold mergeS at hb
      split at hb
      · rename_i i hidx
        have hi1 := idx_get hidx
        have hilt := (List.getElem?_eq_some_iff.1 hi1).1
        obtain ⟨o', h3, h4⟩ := renS_obj hb
        refine .inr ⟨i, o', by unfold backF; rw [if_pos hilt]; exact hi1, ?_, h4, by rw [← h3]; exact hb⟩
        simp only [List.getD, List.getElem?_eq_getElem (show i < m'.length by omega), Option.getD_some] at h3
        rw [List.getElem?_eq_getElem (by omega), h3]
      · rename_i hidx
        refine .inl ⟨hlt, list_find hidx, ?_⟩
        simp only [List.getD, List.getElem?_eq_getElem hlt, Option.getD_some] at hb
        rw [List.getElem?_eq_getElem hlt, hb]
    · rename_i hge
      rw [Option.map_eq_some_iff] at hb
      obtain ⟨s, h1, h2⟩ := hb
      obtain ⟨o', h3, h4⟩ := renS_obj h2
      refine .inr ⟨L.length + (b - m1.length), o', ?_, by rw [h1, h3], h4, by rw [← h3]; exact h2⟩
      unfold backF
      rw [if_neg (by omega)]
      congr 1
      omega
  have hout : ∀ b o L0, m1[b]? = some (.obj o) → o.own = true → b ∉ L → ρ b = some L0 → L0.nil = false → outB ρ m1 L L0.blk := fun b o L0 h1 h2 h3 h4 h5 => ⟨b, o, L0, h1, h2, h3, h4, h5, rfl⟩
  refine ⟨⟨st.sub, st.keepK, fun b hb => st.keepF b (.inl hb), hloc, st.size, st.os, st.tape, st.output⟩, ⟨ir.kw, fun b hb => ir.fw b (.inl hb), fun b hb hf => ir.dis b hb (.inl hf), ?_, ?_, ?_⟩, hback⟩
  · intro b o hb
    rcases objM b o hb with ⟨hlt, hnot, hm⟩ | ⟨i, o', hb1, hm, hown, hren⟩
    · obtain ⟨L0, h1, h2, h3⟩ := hi.ob b o hm
      refine ⟨L0, hloc b L0 h1, OR.move st.sub st.keepK hloc (fun hnil => ?_) h2, fun ho hnil => ⟨fun hk => ir.dis _ hk (.inr (hout b o L0 hm ho hnot h1 hnil)), (h3 ho hnil).2⟩⟩
      cases ho : o.own with
      | true => exact st.keepF _ (.inr (hout b o L0 hm ho hnot h1 hnil))
      | false =>
        cases o with
        | frows t l => exact st.keepK _ (h2.2 hnil)
        | box cs => simp [AObj.own] at ho
        | rows t l => simp [AObj.own] at ho
    · obtain ⟨L0, h1, h2, h3⟩ := ir.ob i o' hm
      refine ⟨L0, hback i b L0 hb1 h1, OR.ren hback h2 hren, fun ho hnil => ?_⟩
      have := h3 (by rw [hown]; exact ho) hnil
      exact ⟨this.1, fun hf => this.2 (.inl hf)⟩
  · intro b c ob oc Lb Lc hb hc hob hoc hLb hLc hnb hnc he
    rcases objM b ob hb with ⟨hlt, hnot, hm⟩ | ⟨i, o', hb1, hm, hown, _⟩
    · obtain ⟨L0, h1, h2, h3⟩ := hi.ob b ob hm
      rw [hloc b L0 h1] at hLb
      obtain rfl := Option.some.inj hLb
      rcases objM c oc hc with ⟨hlt', hnot', hm'⟩ | ⟨j, oj, hc1, hm', hown', _⟩
      · obtain ⟨L1, k1, _, _⟩ := hi.ob c oc hm'
        rw [hloc c L1 k1] at hLc
        obtain rfl := Option.some.inj hLc
        exact hi.inj b c ob oc L0 L1 hm hm' hob hoc h1 k1 hnb hnc he
      · obtain ⟨L1, k1, k2, k3⟩ := ir.ob j oj hm'
        rw [hback j c L1 hc1 k1] at hLc
        obtain rfl := Option.some.inj hLc
        exact absurd (.inr (he ▸ hout b ob L0 hm hob hnot h1 hnb)) (k3 (by rw [hown']; exact hoc) hnc).2
    · obtain ⟨L0, h1, h2, h3⟩ := ir.ob i o' hm
      rw [hback i b L0 hb1 h1] at hLb
      obtain rfl := Option.some.inj hLb
      rcases objM c oc hc with ⟨hlt', hnot', hm'⟩ | ⟨j, oj, hc1, hm', hown', _⟩
      · obtain ⟨L1, k1, k2, k3⟩ := hi.ob c oc hm'
        rw [hloc c L1 k1] at hLc
        obtain rfl := Option.some.inj hLc
        exact absurd (.inr (he ▸ hout c oc L1 hm' hoc hnot' k1 hnc)) (h3 (by rw [hown]; exact hob) hnb).2
      · obtain ⟨L1, k1, k2, k3⟩ := ir.ob j oj hm'
        rw [hback j c L1 hc1 k1] at hLc
        obtain rfl := Option.some.inj hLc
        have : i = j := ir.inj i j o' oj L0 L1 hm hm' (by rw [hown]; exact hob) (by rw [hown']; exact hoc) h1 k1 hnb hnc he
        subst this
        rw [hb1] at hc1
        exact Option.some.inj hc1
  · intro b Lb hb
    simp only [mergeρ] at hb
    split at hb
    · rename_i hlt
      refine ⟨by simp [mergeM]; omega, ?_⟩
      rw [getM, if_pos hlt]
      simp only [ne_eq, Option.some.injEq]
      unfold mergeS
      split
      · rename_i i hidx
        rw [renS_free]
        have hi1 := idx_get hidx
        have h2 := st.loc i Lb (by simp [subρ, hi1, hb])
        obtain ⟨q1, q2⟩ := ir.fr i Lb h2
        intro hc
        apply q2
        rw [List.getElem?_eq_getElem q1]
        simp only [List.getD, List.getElem?_eq_getElem q1, Option.getD_some] at hc
        rw [hc]
      · obtain ⟨q1, q2⟩ := hi.fr b Lb hb
        intro hc
        apply q2
        simp only [List.getD, List.getElem?_eq_getElem hlt, Option.getD_some] at hc
        rw [List.getElem?_eq_getElem hlt, hc]
    · rename_i hge
      obtain ⟨q1, q2⟩ := ir.fr _ Lb hb
      refine ⟨by simp [mergeM]; omega, ?_⟩
      rw [getM, if_neg hge, List.getElem?_eq_getElem q1]
      simp only [Option.map_some, ne_eq, Option.some.injEq]
      rw [renS_free]
      intro hc
      apply q2
      rw [List.getElem?_eq_getElem q1, hc]

/-- A caller may go by its callees' contracts. -/
theorem callP_sound {hn : Hints} {call : Callf} (hc : CallOK P call) {f : FuncId} {args : List AV} {r : Res} (h : callP P hn call m f args = some r) (hok : r.ok = true) :
    (fnOf P f).isSome = true ∧ ∀ (K F : Nat → Prop) (ρ : Locs) (w : World) (vals : List Value), Inv K F ρ m w → VRL K ρ w args vals →
      Calls P f vals.toArray w fun e w' => ∃ v K' ρ', e = .returned v ∧ Step K F ρ w K' ρ' w' ∧ Inv K' F ρ' (writeM m r.wr) w' ∧ VR K' ρ' w' r.val v := by
  unfold callP at h
  split at h
  · simp at h
  · rename_i fn hfn
    have hsome : (fnOf P f).isSome = true := by rw [hfn]; rfl
    split at h
    · simp at h
    · split at h
      · simp at h
      · rename_i ro wr hro'
        split at h
        · rename_i hnoids
          split at h
          · simp at h
          · rename_i q h1
            split at h
            · split at h
              · rename_i hplain
                simp only [Option.some.injEq] at h
                subst h
                refine ⟨hsome, fun K F ρ w vals hi hv => ?_⟩
                obtain ⟨K1, s1, i1, f1, v1⟩ := frzVL_sound hro' (Fz.refl m) hi (fixArgs_vr P _ hv)
                have v2 : VRL K1 (fun _ => Option.none) w ro vals := VRL.noids v1 hnoids
                refine (hc.tab _ _ _ _ h1 hok K1 _ _ w vals i1.none v2).mono ?_
                rintro e w' ⟨v, K', ρ', rfl, st, ir, vr⟩
                refine ⟨v, K, ρ, rfl, ?_, ?_, VR.plain vr hplain⟩
                · exact ⟨fun _ x => x, fun b hb => st.keepK b (s1.sub b hb), fun b hb => st.keepF b (.inl hb), fun _ _ x => x, st.size, st.os, st.tape, st.output⟩
                · refine Inv.after hi (fun _ x => x) (fun b hb => Nat.lt_of_lt_of_le (hi.kw b hb) st.size) st.size hi.dis (fun b hb ho => ?_) (fun b hb => st.keepK b (s1.sub b hb)) (fun b ho => ?_)
                  · obtain ⟨c, o, Lc, q1, q2, _, q4, q5, rfl⟩ := ho
                    obtain ⟨L0, t1, t2, t3⟩ := hi.ob c o q1
                    rw [q4] at t1
                    obtain rfl := Option.some.inj t1
                    exact (t3 q2 q5).1 hb
                  · obtain ⟨c, o, Lc, q1, q2, _, q4, q5, rfl⟩ := ho
                    rcases f1 c with e | ⟨t, l, e1, e2⟩
                    · exact st.keepF _ (.inr ⟨c, o, Lc, by rw [e]; exact q1, q2, by simp, q4, q5, rfl⟩)
                    · obtain ⟨L0, t1, t2, _⟩ := i1.ob c _ e2
                      rw [q4] at t1
                      obtain rfl := Option.some.inj t1
                      exact st.keepK _ (t2.2 q5)
              · simp at h
            · split at h
              · simp at h
              · rename_i v h2
                split at h
                · rename_i hvn
                  simp only [Option.some.injEq] at h
                  subst h
                  refine ⟨hsome, fun K F ρ w vals hi hv => ?_⟩
                  obtain ⟨K1, s1, i1, f1, v1⟩ := frzVL_sound hro' (Fz.refl m) hi (fixArgs_vr P _ hv)
                  have v2 : VRL K1 (fun _ => Option.none) w ro vals := VRL.noids v1 hnoids
                  refine (hc.tab _ _ _ _ h1 hok K1 _ _ w vals i1.none v2).mono ?_
                  rintro e w' ⟨u, K', ρ', rfl, st, ir, vr⟩
                  obtain ⟨K2, s2, i2, v3⟩ := frzV_sound h2 ir vr
                  refine ⟨u, K2, ρ, rfl, ?_, ?_, VR.noids v3 hvn⟩
                  · exact (s1.trans (Step.back (ρ := ρ) (st.trans s2)))
                  · exact Inv.after i1 (fun b hb => s2.sub b (st.sub b hb)) (fun b hb => i2.kw b hb) st.size (fun b hb hf => i2.dis b hb (.inl hf)) (fun b hb ho => i2.dis b hb (.inr ho)) st.keepK (fun b ho => st.keepF b (.inr ho))
                · simp at h
        · simp at h

theorem callI_sound {hn : Hints} {call : Callf} (hc : CallOK P call) {f : FuncId} {args : List AV} {cr : Bool × AV × List Slot} (h : callI P hn call m f args = some cr) (hok : cr.1 = true) :
    (fnOf P f).isSome = true ∧ ∀ (K F : Nat → Prop) (ρ : Locs) (w : World) (vals : List Value), Inv K F ρ m w → VRL K ρ w args vals →
      Calls P f vals.toArray w fun e w' => ∃ v K' ρ', e = .returned v ∧ Step K F ρ w K' ρ' w' ∧ Inv K' F ρ' cr.2.2 w' ∧ VR K' ρ' w' cr.2.1 v := by
  unfold callI at h
  split at h
  · simp at h
  · rename_i fn hfn
    have hsome : (fnOf P f).isSome = true := by rw [hfn]; rfl
    simp only at h
    obtain ⟨p, hp⟩ : ∃ p, p = (if hn.own f then (fixArgs P fn.params.toList args, []) else frzP m (fixArgs P fn.params.toList args)) := ⟨_, rfl⟩
    rw [← hp] at h
    split at h
    · rename_i hcond
      simp only [Bool.and_eq_true] at hcond
      split at h
      · simp at h
      · rename_i r h1
        split at h
        · rename_i hlen
          simp only [Option.some.injEq] at h
          subst h
          refine ⟨hsome, fun K F ρ w vals hi hv => ?_⟩
          have hfz : ∃ K1, Step K F ρ w K1 ρ w ∧ Inv K1 F ρ (writeM m p.2) w ∧ VRL K1 ρ w p.1 vals := by
            rw [hp]
            split
            · exact ⟨K, Step.refl _ _ _ _, hi, fixArgs_vr P _ hv⟩
            · obtain ⟨K1, s1, i1, _, v1⟩ := frzP_sound (Fz.refl m) hi (fixArgs_vr P _ hv)
              exact ⟨K1, s1, i1, v1⟩
          obtain ⟨K1, s1, i1, v1⟩ := hfz
          have isub := i1.sub hcond.1
          refine (hc.tab _ _ _ _ h1 hok K1 _ _ w vals isub (VRL.ren sub_ok v1)).mono ?_
          rintro e w' ⟨u, K', ρ', rfl, st, ir, vr⟩
          obtain ⟨q1, q2, q3⟩ := merge_ok i1 hcond.1 hcond.2 st ir hlen
          exact ⟨u, K', _, rfl, s1.trans q1, q2, VR.ren q3 vr⟩
        · simp at h
    · simp at h

theorem callK_sound {hn : Hints} {call : Callf} (hc : CallOK P call) {f : FuncId} {args : List AV} {kk : AV → List Slot → Ans} {ans : AV × List Slot} (h : callK P hn call m f args kk = some ans) :
    (fnOf P f).isSome = true ∧ ∀ (K F : Nat → Prop) (ρ : Locs) (w : World) (vals : List Value), Inv K F ρ m w → VRL K ρ w args vals →
      Calls P f vals.toArray w fun e w' => ∃ (v : Value) (K' : Nat → Prop) (ρ' : Locs) (r : AV × List Slot), kk r.1 r.2 = some ans ∧ e = .returned v ∧ Step K F ρ w K' ρ' w' ∧ Inv K' F ρ' r.2 w' ∧ VR K' ρ' w' r.1 v := by
  unfold callK at h
  split at h
  · simp at h
  · rename_i fn hfn
    have hsome : (fnOf P f).isSome = true := by rw [hfn]; rfl
    simp only at h
    obtain ⟨p, hp⟩ : ∃ p, p = (if hn.own f then (fixArgs P fn.params.toList args, []) else frzP m (fixArgs P fn.params.toList args)) := ⟨_, rfl⟩
    rw [← hp] at h
    split at h
    · rename_i hcond
      simp only [Bool.and_eq_true] at hcond
      refine ⟨hsome, fun K F ρ w vals hi hv => ?_⟩
      have hfz : ∃ K1, Step K F ρ w K1 ρ w ∧ Inv K1 F ρ (writeM m p.2) w ∧ VRL K1 ρ w p.1 vals := by
        rw [hp]
        split
        · exact ⟨K, Step.refl _ _ _ _, hi, fixArgs_vr P _ hv⟩
        · obtain ⟨K1, s1, i1, _, v1⟩ := frzP_sound (Fz.refl m) hi (fixArgs_vr P _ hv)
          exact ⟨K1, s1, i1, v1⟩
      obtain ⟨K1, s1, i1, v1⟩ := hfz
      have isub := i1.sub hcond.1
      refine (hc.inl _ _ _ _ _ h K1 _ _ w vals isub (VRL.ren sub_ok v1)).mono ?_
      rintro e w' ⟨u, K', ρ', r, hk, rfl, st, ir, vr⟩
      split at hk
      · rename_i hlen
        obtain ⟨q1, q2, q3⟩ := merge_ok i1 hcond.1 hcond.2 st ir hlen
        exact ⟨u, K', _, ⟨_, _⟩, hk, rfl, s1.trans q1, q2, VR.ren q3 vr⟩
      · simp at hk
    · simp at h
end
end Go.Ab

/- The framework, part 16: states; states in normal form. -/
namespace Go.Ab
set_option linter.unusedVariables false

structure StepP (pin : Nat) (K F : Nat → Prop) (ρ : Locs) (w : World) (K' : Nat → Prop) (ρ' : Locs) (w' : World) : Prop where
  sub : ∀ b, K b → K' b
  keepK : ∀ b, K b → w'.heap[b]? = w.heap[b]?
  keepF : ∀ b, F b → w'.heap[b]? = w.heap[b]?
  loc : ∀ b L, b < pin → ρ b = some L → ρ' b = some L
  size : w.heap.size ≤ w'.heap.size
  os : w'.os = w.os
  tape : w'.tape = w.tape
  output : w'.output = w.output

/-- A state of the interpreter speaks of a state of the machine; the run began at K0, ρ0, w0. -/
def SR (pin : Nat) (K0 F : Nat → Prop) (ρ0 : Locs) (w0 : World) (σ : St) (a : Act) (w : World) : Prop :=
  ∃ K ρ, StepP pin K0 F ρ0 w0 K ρ w ∧ Inv K F ρ σ.mem w ∧ EnvR K ρ w σ.env a.tmps ∧ σ.env.length ≤ a.tmps.size ∧ a.defers = []

section
variable {pin : Nat} {K0 K F : Nat → Prop} {ρ0 ρ : Locs} {m : List Slot} {w0 w w' : World} {σ : St} {a : Act}

theorem StepP.step {K' : Nat → Prop} {ρ' : Locs} (s : StepP pin K0 F ρ0 w0 K ρ w) (t : Step K F ρ w K' ρ' w') : StepP pin K0 F ρ0 w0 K' ρ' w' :=
  ⟨fun b hb => t.sub b (s.sub b hb), fun b hb => (t.keepK b (s.sub b hb)).trans (s.keepK b hb), fun b hb => (t.keepF b hb).trans (s.keepF b hb),
    fun b L hp hb => t.loc b L (s.loc b L hp hb), Nat.le_trans s.size t.size, t.os.trans s.os, t.tape.trans s.tape, t.output.trans s.output⟩

theorem Inv.weakF {G : Nat → Prop} (h : Inv K (fun b => F b ∨ G b) ρ m w) : Inv K F ρ m w :=
  ⟨h.kw, fun b hb => h.fw b (.inl hb), fun b hb hf => h.dis b hb (.inl hf), fun b o hb => let ⟨L, h1, h2, h3⟩ := h.ob b o hb; ⟨L, h1, h2, fun ho hn => ⟨(h3 ho hn).1, fun hf => (h3 ho hn).2 (.inl hf)⟩⟩, h.inj, h.fr⟩

theorem renL_getD (f : Nat → Option Nat) (l : List AV) (i : Nat) : (renL f l).getD i .junk = ((l.getD i .junk).ren f) := by
  induction l generalizing i with
  | nil => simp [renL, AV.ren]
  | cons x xs ih => cases i with
    | zero => simp [renL]
    | succ i => simpa [renL] using ih i

theorem renL_length (f : Nat → Option Nat) (l : List AV) : (renL f l).length = l.length := by
  induction l with
  | nil => rfl
  | cons x xs ih => simp [renL, ih]

theorem keepL_pin {ids : List Nat} {b : Nat} (h : b < pin) : (keepL pin m ids)[b]? = some b := by
  unfold keepL
  rw [List.getElem?_append_left (by simpa using h)]
  simp [h]

theorem renum_sound (h : SR pin K0 F ρ0 w0 σ a w) : SR pin K0 F ρ0 w0 (renum pin σ) a w := by
  unfold renum
  simp only
  split
  · rename_i hn
    obtain ⟨K, ρ, s, i, e, l, d⟩ := h
    refine ⟨K, subρ ρ (keepL pin σ.mem (idsL σ.env)), ?_, (i.sub hn).weakF, fun j => ?_, by simpa [renL_length] using l, d⟩
    · exact ⟨s.sub, s.keepK, s.keepF, fun b L hp hb => by simp [subρ, keepL_pin hp, s.loc b L hp hb], s.size, s.os, s.tape, s.output⟩
    · simp only [renL_getD]
      exact VR.ren sub_ok (e j)
  · exact h

theorem mask_getD (keep : Nat) : ∀ (l : List AV) (k i : Nat), (mask keep k l).getD i .junk = l.getD i .junk ∨ (mask keep k l).getD i .junk = .junk
  | [], k, i => by simp [mask]
  | x :: xs, k, i => by
    cases i with
    | zero =>
      simp only [mask, List.getD_cons_zero]
      split
      · exact .inl rfl
      · exact .inr rfl
    | succ i => simpa [mask] using mask_getD keep xs (k + 1) i

theorem mask_length (keep : Nat) : ∀ (l : List AV) (k : Nat), (mask keep k l).length = l.length
  | [], k => rfl
  | x :: xs, k => by simp [mask, mask_length keep xs]

theorem mask_sound (keep : Nat) (h : SR pin K0 F ρ0 w0 σ a w) : SR pin K0 F ρ0 w0 ⟨mask keep 0 σ.env, σ.mem⟩ a w := by
  obtain ⟨K, ρ, s, i, e, l, d⟩ := h
  refine ⟨K, ρ, s, i, fun j => ?_, by simpa [mask_length] using l, d⟩
  rcases mask_getD keep σ.env 0 j with h | h
  · simp only [h]; exact e j
  · simp only [h]; exact .junk _

theorem norm0_sound (keep : Nat) (h : SR pin K0 F ρ0 w0 σ a w) : SR pin K0 F ρ0 w0 (norm0 pin keep σ) a w := renum_sound (mask_sound keep h)

/-! ### nil slices as rows -/
theorem Inv.nilrow (h : Inv K F ρ m w) (e : Ty) : ∃ L, L.nil = true ∧ L.len = 0 ∧ Inv K F (upd ρ m.length L) (m ++ [.obj (.rows e [])]) w ∧ ∀ b L', ρ b = some L' → upd ρ m.length L b = some L' := by
  have hg := h.grow 1
  have hρ : ρ m.length = Option.none := by
    cases hρ : ρ m.length with
    | none => rfl
    | some L => exact absurd (h.fr _ L hρ).1 (by omega)
  have := Inv.put (s := m.length) (L := ⟨true, 0, 0, 0, e.size, 0⟩) (o := .rows e []) (w' := w) hg (by simp) (.inl hρ) rfl (Nat.le_refl _) (fun _ _ _ => rfl) (fun h => by simp at h)
    ⟨rfl, rfl, fun _ => rfl, fun h => by simp at h⟩
  refine ⟨⟨true, 0, 0, 0, e.size, 0⟩, rfl, rfl, ?_, upd_loc (.inl hρ)⟩
  have e2 : (m ++ List.replicate 1 Slot.free).set m.length (.obj (.rows e [])) = m ++ [.obj (.rows e [])] := by simp
  rw [e2] at this
  exact this

theorem unnil_sound : ∀ (vs : List AV) (m : List Slot) (ρ : Locs) (f : Nat → Value), Inv K F ρ m w → (∀ i, VR K ρ w (vs.getD i .junk) (f i)) →
    ∃ ρ', (∀ b L, ρ b = some L → ρ' b = some L) ∧ Inv K F ρ' (unnil m vs).2 w ∧ (∀ i, VR K ρ' w ((unnil m vs).1.getD i .junk) (f i)) ∧ (unnil m vs).1.length = vs.length ∧ ∃ t, (unnil m vs).2 = m ++ t
  | [], m, ρ, f, hi, hv => ⟨ρ, fun _ _ h => h, hi, hv, rfl, [], by simp [unnil]⟩
  | v :: vs, m, ρ, f, hi, hv => by
    have h0 := hv 0
    have ht : ∀ i, VR K ρ w (vs.getD i .junk) (f (i + 1)) := fun i => by simpa using hv (i + 1)
    simp only [List.getD_cons_zero] at h0
    by_cases hnil : ∃ e, v = .nils e
    · obtain ⟨e, rfl⟩ := hnil
      obtain ⟨L, hL1, hL2, hi2, hl2⟩ := hi.nilrow e
      have ht2 : ∀ i, VR K (upd ρ m.length L) w (vs.getD i .junk) (f (i + 1)) := fun i => VR.mono (fun _ x => x) (fun _ _ => rfl) hl2 (ht i)
      obtain ⟨ρ', k1, k2, k3, k4, t, k5⟩ := unnil_sound vs _ _ (fun i => f (i + 1)) hi2 ht2
      refine ⟨ρ', fun b L' hb => k1 b L' (hl2 b L' hb), by simpa [unnil] using k2, fun i => ?_, by simp [unnil, k4], .obj (.rows e []) :: t, by simp [unnil, k5]⟩
      cases i with
      | zero =>
        simp only [unnil, List.getD_cons_zero]
        generalize f 0 = u at h0
        cases h0 with
        | nils _ ad => exact .tail _ _ L _ (k1 _ _ (by simp [upd])) ⟨by omega, ad, 0, by simp [hL2], by omega, fun h => by simp at h⟩
      | succ i => simpa [unnil] using k3 i
    · have hun : unnil m (v :: vs) = (v :: (unnil m vs).1, (unnil m vs).2) := by
        cases v <;> simp [unnil] at hnil ⊢
      obtain ⟨ρ', k1, k2, k3, k4, t, k5⟩ := unnil_sound vs m ρ (fun i => f (i + 1)) hi ht
      rw [hun]
      refine ⟨ρ', k1, k2, fun i => ?_, by simp [k4], t, k5⟩
      cases i with
      | zero => simpa using VR.mono (fun _ x => x) (fun _ _ => rfl) k1 h0
      | succ i => simpa using k3 i

theorem VRL.of_get {as : List AV} {vs : List Value} (hl : as.length = vs.length) (h : ∀ i, i < vs.length → VR K ρ w (as.getD i .junk) (vs.getD i undef)) : VRL K ρ w as vs := by
  induction as generalizing vs with
  | nil => cases vs with
    | nil => exact .nil
    | cons => simp at hl
  | cons x xs ih =>
    cases vs with
    | nil => simp at hl
    | cons v vs =>
      refine .cons _ _ _ _ (by simpa using h 0 (by simp)) (ih (by simpa using hl) fun i hi => by simpa using h (i + 1) (by simpa using hi))

theorem unnilM_sound : ∀ (bs : List Nat) (m : List Slot) (ρ : Locs), Inv K F ρ m w → ∃ ρ', (∀ b L, ρ b = some L → ρ' b = some L) ∧ Inv K F ρ' (unnilM bs m) w
  | [], m, ρ, hi => ⟨ρ, fun _ _ h => h, hi⟩
  | b :: bs, m, ρ, hi => by
    unfold unnilM
    split
    · rename_i cs hm
      obtain ⟨L, hL, ⟨hnil, hoff, vs, e, hh, hv⟩, _⟩ := hi.ob b _ hm
      have hlen := hv.length
      have hget : ∀ i, VR K ρ w (cs.getD i .junk) (vs.getD i undef) := fun i => by
        by_cases h : i < vs.length
        · exact hv.get i h
        · have : cs.getD i .junk = .junk := by simp [List.getD, List.getElem?_eq_none (show cs.length ≤ i by omega)]
          rw [this]
          exact .junk _
      obtain ⟨ρ', k1, k2, k3, k4, t, k5⟩ := unnil_sound cs m ρ _ hi hget
      have hm2 : (unnil m cs).2[b]? = some (.obj (.box cs)) := by
        rw [k5, List.getElem?_append_left (List.getElem?_eq_some_iff.1 hm).1]; exact hm
      have hv2 : VRL K ρ' w (unnil m cs).1 vs := VRL.of_get (by rw [k4, hlen]) fun i _ => k3 i
      have hw := Inv.write (w' := w) (o' := .box (unnil m cs).1) k2 hm2 rfl (k1 b L hL) hnil rfl rfl (fun _ _ => rfl) rfl rfl rfl ⟨hnil, hoff, vs, e, hh, hv2⟩
      obtain ⟨ρ2, q1, q2⟩ := unnilM_sound bs _ _ hw.2
      exact ⟨ρ2, fun c L' hc => q1 c L' (k1 c L' hc), q2⟩
    · exact unnilM_sound bs m ρ hi

theorem norm_sound (keep : Nat) (h : SR pin K0 F ρ0 w0 σ a w) : SR pin K0 F ρ0 w0 (norm pin keep σ) a w := by
  unfold norm
  refine renum_sound ?_
  have h1 := renum_sound (mask_sound keep h)
  generalize renum pin ⟨mask keep 0 σ.env, σ.mem⟩ = σ1 at h1
  obtain ⟨K, ρ, s, i, e, l, d⟩ := h1
  obtain ⟨ρ', k1, k2, k3, k4, _⟩ := unnil_sound σ1.env σ1.mem ρ (fun i => a.tmps.getD i undef) i e
  obtain ⟨ρ2, q1, q2⟩ := unnilM_sound (List.range σ1.mem.length) _ _ k2
  refine ⟨K, ρ2, ⟨s.sub, s.keepK, s.keepF, fun b L hp hb => q1 b L (k1 b L (s.loc b L hp hb)), s.size, s.os, s.tape, s.output⟩, q2, fun j => ?_, by simpa [k4] using l, d⟩
  exact VR.mono (fun _ x => x) (fun _ _ => rfl) q1 (k3 j)
end
end Go.Ab

/- The framework, part 17: one operation in its place; regions in the text's order. -/
namespace Go.Ab
set_option linter.unusedVariables false

section
variable {P : Program} {hn : Hints} {call : Callf} {ans : AV × List Slot}

theorem put_env {K : Nat → Prop} {ρ : Locs} {w : World} {env : List AV} {a : Act} (h : EnvR K ρ w env a.tmps) (hl : env.length ≤ a.tmps.size) {v : AV} {u : Value} (hv : VR K ρ w v u) (dst : Option Tmp) :
    EnvR K ρ w (put env dst v) (a.put dst u).tmps ∧ (put env dst v).length ≤ (a.put dst u).tmps.size ∧ (a.put dst u).defers = a.defers := by
  cases dst with
  | none => exact ⟨h, hl, rfl⟩
  | some d =>
    refine ⟨fun i => ?_, by simpa [put, Act.put] using hl, rfl⟩
    simp only [put, Act.put]
    by_cases hid : i = d
    · subst hid
      by_cases hlt : i < env.length
      · simp [List.getD, Array.getD, hlt, show i < a.tmps.size by omega]
        exact hv
      · simp only [List.getD]
        rw [List.getElem?_eq_none (by simp; omega)]
        exact .junk _
    · have h1 : (env.set d v).getD i .junk = env.getD i .junk := by simp [List.getD, List.getElem?_set_ne (Ne.symm hid)]
      have h2 : (a.tmps.setIfInBounds d u).getD i undef = a.tmps.getD i undef := by
        simp [Array.getD_eq_getD_getElem?, Array.getElem?_setIfInBounds_ne (Ne.symm hid)]
      rw [h1, h2]
      exact h i

theorem SR.put {pin : Nat} {K0 F : Nat → Prop} {ρ0 : Locs} {w0 : World} {K K' : Nat → Prop} {ρ ρ' : Locs} {w w' : World} {env : List AV} {m : List Slot} {a : Act}
    (s : StepP pin K0 F ρ0 w0 K ρ w) (t : Step K F ρ w K' ρ' w') (i : Inv K' F ρ' m w') (e : EnvR K ρ w env a.tmps) (l : env.length ≤ a.tmps.size) (d : a.defers = [])
    {v : AV} {u : Value} (hv : VR K' ρ' w' v u) (dst : Option Tmp) : SR pin K0 F ρ0 w0 ⟨put env dst v, m⟩ (a.put dst u) w' := by
  obtain ⟨h1, h2, h3⟩ := put_env (EnvR.mono t e) l hv dst
  exact ⟨K', ρ', s.step t, i, h1, h2, by rw [h3]; exact d⟩

theorem fnOf_some {f : FuncId} (h : (fnOf P f).isSome = true) : ∃ fn, P.funcs[f]? = some fn ∧ (fn.name == "runtime.NumGoroutine") = false ∧ fn.body.isSome = true ∧ fnOf P f = some fn := by
  unfold fnOf at h ⊢
  split at h
  · rename_i fn hf
    split at h
    · rename_i hc
      exact ⟨fn, hf, hc.1, hc.2, by rw [if_pos hc]⟩
    · simp at h
  · simp at h

theorem callee_run {f : FuncId} {as : List AV} {env : List AV} {o : Oper} {K : Nat → Prop} {ρ : Locs} {w : World} {a : Act} (hsome : (fnOf P f).isSome = true) (hcal : calleeOf env o.op = some (f, as)) (he : EnvR K ρ w env a.tmps) :
    ∃ vals, VRL K ρ w as vals ∧ (execOp a.eval o).run P w = .ok (.enter f vals.toArray) w := by
  obtain ⟨fn, hf, hname, hbody, _⟩ := fnOf_some hsome
  unfold calleeOf at hcal
  split at hcal
  · rename_i x args ts hop
    split at hcal
    · rename_i f' first captured hx
      simp only [Option.some.injEq, Prod.mk.injEq] at hcal
      obtain ⟨rfl, rfl⟩ := hcal
      have hxv := ev_vr he x
      rw [hx] at hxv
      cases hax : a.eval x <;> rw [hax] at hxv <;> cases hxv
      rename_i fs cs hfs hcs
      have hargs := VRL.map (K := K) (ρ := ρ) (w := w) (f := ev env) (g := a.eval) args.toList fun y _ => ev_vr he y
      refine ⟨_, (hfs.append hargs).append hcs, ?_⟩
      have e1 : (fs ++ args.toList.map a.eval ++ cs).toArray = fs.toArray ++ args.map a.eval ++ cs.toArray := by
        apply Array.ext'
        simp
      rw [e1]
      have hb : ¬ fn.body = none := by intro hbb; rw [hbb] at hbody; simp at hbody
      have hname' : ¬ fn.name = "runtime.NumGoroutine" := by simpa using hname
      simp [execOp, hop, resolve, hax, Deferred.ofValue, invoke, callFunc, hf, hname', hb]
    · simp at hcal
  · simp at hcal

/-- From σ to σ' by one operation that is carried out. -/
def Goes (P : Program) (o : Oper) (σ σ' : St) : Prop :=
  ∀ (pin : Nat) (K0 F : Nat → Prop) (ρ0 : Locs) (w0 : World) (a : Act) (w : World), SR pin K0 F ρ0 w0 σ a w →
    ∀ (next : Act → World → Prop) (Q : Exit → Act → World → Prop), (∀ v w', SR pin K0 F ρ0 w0 σ' (a.put o.dst v) w' → next (a.put o.dst v) w') → o.wp P a w next Q

theorem opR_sound (hc : CallOK P call) {s : Nat} {o : Oper} {σ : St} {r : Res} (h : opR P hn call s o σ = some r) (hok : r.ok = true) : Goes P o σ ⟨put σ.env o.dst r.val, writeM σ.mem r.wr⟩ := by
  intro pin K0 F ρ0 w0 a w hs next Q hnext
  obtain ⟨K, ρ, st, iv, ev', ln, df⟩ := hs
  unfold opR at h
  split at h
  · split at h
    · simp at h
    · rename_i f as hcal
      obtain ⟨hsome, h2⟩ := callP_sound hc h hok
      obtain ⟨vals, hv, hrun⟩ := callee_run hsome hcal ev'
      unfold Oper.wp
      rw [hrun, Oper.upon_enter]
      refine (h2 K F ρ w _ iv hv).mono ?_
      rintro e w' ⟨v, K', ρ', rfl, st', iv', vr'⟩
      exact hnext v w' (SR.put st st' iv' ev' ln df vr' o.dst)
  · obtain ⟨v, w', K', ρ', hres, st', iv', vr'⟩ := aop_sound iv ev' h hok
    unfold Oper.wp
    rcases hres with hres | ⟨hres, rfl⟩
    · rw [hres, Oper.upon_value]
      exact hnext v w' (SR.put st st' iv' ev' ln df vr' o.dst)
    · rw [hres, Oper.upon_skip]
      exact hnext undef w' (SR.put st st' iv' ev' ln df vr' o.dst)

/-- By one operation that is carried out on to whatever is done behind it. -/
def GoesK (P : Program) (ans : AV × List Slot) (o : Oper) (σ : St) (k : St → Tch → Ans) : Prop :=
  ∀ (pin : Nat) (K0 F : Nat → Prop) (ρ0 : Locs) (w0 : World) (a : Act) (w : World), SR pin K0 F ρ0 w0 σ a w →
    ∀ (next : Act → World → Prop) (Q : Exit → Act → World → Prop), (∀ v w' σ' t, k σ' t = some ans → SR pin K0 F ρ0 w0 σ' (a.put o.dst v) w' → next (a.put o.dst v) w') → o.wp P a w next Q

/-- One operation that is carried out. -/
theorem oper_sound (hc : CallOK P call) {dr : Bool} {s : Nat} {o : Oper} {σ : St} {k : St → Tch → Ans} (h : oper P hn call dr s o σ k = some ans) :
    GoesK P ans o σ k ∧ (dr = true → ∃ r, opR P hn call s o σ = some r ∧ r.ok = true ∧ k ⟨put σ.env o.dst r.val, writeM σ.mem r.wr⟩ ⟨r.wr.map (·.1), r.rd⟩ = some ans) := by
  unfold oper at h
  split at h
  · rename_i r hr
    cases hok : r.ok with
    | false => rw [hok] at h; simp at h
    | true =>
      rw [hok] at h
      simp only [cond_true] at h
      exact ⟨fun pin K0 F ρ0 w0 a w hs next Q hnext => opR_sound hc hr hok pin K0 F ρ0 w0 a w hs next Q fun v w' hs' => hnext v w' _ _ h hs', fun _ => ⟨r, hr, hok, h⟩⟩
  · split at h
    · simp at h
    · rename_i hdr
      split at h
      · simp at h
      · rename_i f as hcal
        refine ⟨fun pin K0 F ρ0 w0 a w hs next Q hnext => ?_, fun hd => absurd hd hdr⟩
        obtain ⟨K, ρ, st, iv, ev', ln, df⟩ := hs
        split at h
        · obtain ⟨hsome, h2⟩ := callK_sound hc h
          obtain ⟨vals, hv, hrun⟩ := callee_run hsome hcal ev'
          unfold Oper.wp
          rw [hrun, Oper.upon_enter]
          refine (h2 K F ρ w _ iv hv).mono ?_
          rintro e w' ⟨v, K', ρ', r, hk, rfl, st', iv', vr'⟩
          exact hnext v w' _ _ hk (SR.put st st' iv' ev' ln df vr' o.dst)
        · rename_i cr hcr
          cases hcok : cr.1 with
          | false => rw [hcok] at h; simp at h
          | true =>
          rw [hcok] at h
          simp only [cond_true] at h
          obtain ⟨hsome, h2⟩ := callI_sound hc hcr hcok
          obtain ⟨vals, hv, hrun⟩ := callee_run hsome hcal ev'
          unfold Oper.wp
          rw [hrun, Oper.upon_enter]
          refine (h2 K F ρ w _ iv hv).mono ?_
          rintro e w' ⟨v, K', ρ', rfl, st', iv', vr'⟩
          exact hnext v w' _ _ h (SR.put st st' iv' ev' ln df vr' o.dst)

theorem SR.skip {pin : Nat} {K0 F : Nat → Prop} {ρ0 : Locs} {w0 : World} {σ : St} {a : Act} {w : World} (h : SR pin K0 F ρ0 w0 σ a w) (dst : Option Tmp) :
    SR pin K0 F ρ0 w0 ⟨Go.Ab.put σ.env dst undefA, σ.mem⟩ (a.put dst undef) w := by
  obtain ⟨K, ρ, st, iv, ev', ln, df⟩ := h
  exact SR.put st (Step.refl _ _ _ _) iv ev' ln df (.tup [] [] .nil) dst

/-- A test's outcome, laid into the state. -/
theorem SR.setb {pin : Nat} {K0 F : Nat → Prop} {ρ0 : Locs} {w0 : World} {σ : St} {a : Act} {w : World} (h : SR pin K0 F ρ0 w0 σ a w) {d : Nat} {b : Bool} (hb : σ.env.getD d .junk = .bool b) {c : Bool} (hc : b = c) :
    SR pin K0 F ρ0 w0 ⟨σ.env.set d (.bool c), σ.mem⟩ a w := by
  subst hc
  obtain ⟨K, ρ, st, iv, ev', ln, df⟩ := h
  refine ⟨K, ρ, st, iv, fun i => ?_, by simpa using ln, df⟩
  by_cases hid : i = d
  · subst hid
    have := ev' i
    rw [hb] at this
    by_cases hlt : i < σ.env.length
    · simpa [List.getD, hlt] using this
    · simp only [List.getD]
      rw [List.getElem?_eq_none (by simp; omega)]
      exact .junk _
  · have h1 : (σ.env.set d (.bool b)).getD i .junk = σ.env.getD i .junk := by simp [List.getD, List.getElem?_set_ne (Ne.symm hid)]
    simp only [h1]
    exact ev' i

/-- One step of a region: an operation is carried out, or passed over. -/
def OneR (P : Program) (ops : Array Oper) (o : Oper) (σ σ' : St) : Prop :=
  ∀ (pin : Nat) (K0 F : Nat → Prop) (ρ0 : Locs) (w0 : World) (a : Act) (w : World), SR pin K0 F ρ0 w0 σ a w →
    ∀ (next : Act → World → Prop) (Q : Exit → Act → World → Prop), (∀ v w', SR pin K0 F ρ0 w0 σ' (a.put o.dst v) w' → next (a.put o.dst v) w') →
      if Region.wanted o (yielded ops a.tmps) then o.wp P a w next Q else next (a.put o.dst undef) w

theorem yielded_of {K : Nat → Prop} {ρ : Locs} {w : World} {env : List AV} {a : Act} (he : EnvR K ρ w env a.tmps) (hl : env.length ≤ a.tmps.size) {ops : Array Oper} {g d : Nat} (hd : (ops[g]?).bind (·.dst) = some d) :
    (∀ b, env.getD d .junk = .bool b → yielded ops a.tmps g = some b) ∧ (env.getD d .junk = .tup [] → yielded ops a.tmps g = none) := by
  have h := he d
  unfold yielded
  rw [hd]
  simp only [Option.bind_some]
  constructor
  · intro b hb
    rw [hb] at h
    have hlt : d < env.length := by
      rcases Nat.lt_or_ge d env.length with h' | h'
      · exact h'
      · simp [List.getD, List.getElem?_eq_none h'] at hb
    generalize hx : a.tmps.getD d undef = x at h
    cases h
    have h2 : a.tmps[d]? = some (.bool b) := by
      rw [Array.getElem?_eq_getElem (by omega)]
      simp [Array.getD, show d < a.tmps.size by omega] at hx
      rw [hx]
    rw [h2]
  · intro hb
    rw [hb] at h
    have hlt : d < env.length := by
      rcases Nat.lt_or_ge d env.length with h' | h'
      · exact h'
      · simp [List.getD, List.getElem?_eq_none h'] at hb
    generalize hx : a.tmps.getD d undef = x at h
    cases h with
    | tup _ vs hv =>
      have h2 : a.tmps[d]? = some (.tuple vs.toArray) := by
        rw [Array.getElem?_eq_getElem (by omega)]
        simp [Array.getD, show d < a.tmps.size by omega] at hx
        rw [hx]
      rw [h2]

/-- As OneR, on to whatever is done behind it. -/
def OneK (P : Program) (ans : AV × List Slot) (ops : Array Oper) (o : Oper) (σ : St) (k : St → Tch → Ans) : Prop :=
  ∀ (pin : Nat) (K0 F : Nat → Prop) (ρ0 : Locs) (w0 : World) (a : Act) (w : World), SR pin K0 F ρ0 w0 σ a w →
    ∀ (next : Act → World → Prop) (Q : Exit → Act → World → Prop), (∀ v w' σ' t, k σ' t = some ans → SR pin K0 F ρ0 w0 σ' (a.put o.dst v) w' → next (a.put o.dst v) w') →
      if Region.wanted o (yielded ops a.tmps) then o.wp P a w next Q else next (a.put o.dst undef) w

/-- One step of runOps. -/
theorem runOps_step (hc : CallOK P call) {dr : Bool} {ops : Array Oper} {base : Nat} {o : Oper} {r : List Oper} {i : Nat} {σ : St} {T : List Tch} {k : St → List Tch → Ans}
    (h : runOps P hn call dr ops base (o :: r) i σ T k = some ans) : OneK P ans ops o σ (fun σ' t => runOps P hn call dr ops base r (i + 1) σ' (T ++ [t]) k) := by
  have run : ∀ σ1, oper P hn call dr (base + i) o σ1 (fun σ t => runOps P hn call dr ops base r (i + 1) σ (T ++ [t]) k) = some ans →
      (∀ pin K0 F ρ0 w0 a w, SR pin K0 F ρ0 w0 σ a w → SR pin K0 F ρ0 w0 σ1 a w ∧ Region.wanted o (yielded ops a.tmps) = true) →
      OneK P ans ops o σ (fun σ' t => runOps P hn call dr ops base r (i + 1) σ' (T ++ [t]) k) := fun σ1 h1 h2 => by
    have k2 := (oper_sound hc h1).1
    intro pin K0 F ρ0 w0 a w hs next Q hnext
    obtain ⟨q1, q2⟩ := h2 pin K0 F ρ0 w0 a w hs
    rw [if_pos q2]
    exact k2 pin K0 F ρ0 w0 a w q1 next Q hnext
  have skip : ∀ σ1, runOps P hn call dr ops base r (i + 1) ⟨put σ1.env o.dst undefA, σ1.mem⟩ (T ++ [⟨[], []⟩]) k = some ans →
      (∀ pin K0 F ρ0 w0 a w, SR pin K0 F ρ0 w0 σ a w → SR pin K0 F ρ0 w0 σ1 a w ∧ Region.wanted o (yielded ops a.tmps) = false) →
      OneK P ans ops o σ (fun σ' t => runOps P hn call dr ops base r (i + 1) σ' (T ++ [t]) k) := fun σ1 h1 h2 => by
    intro pin K0 F ρ0 w0 a w hs next Q hnext
    obtain ⟨q1, q2⟩ := h2 pin K0 F ρ0 w0 a w hs
    rw [if_neg (by simp [q2])]
    exact hnext undef w _ _ h1 (q1.skip o.dst)
  simp only [runOps] at h
  split at h
  · rename_i hg
    exact run σ h fun pin K0 F ρ0 w0 a w hs => ⟨hs, by simp [Region.wanted, hg]⟩
  · rename_i g want hg
    split at h
    · rename_i hd
      exact skip σ h fun pin K0 F ρ0 w0 a w hs => ⟨hs, by simp [Region.wanted, hg, yielded, hd]⟩
    · rename_i d hd
      split at h
      · rename_i b hb
        have hy : ∀ pin K0 F ρ0 w0 a w, SR pin K0 F ρ0 w0 σ a w → Region.wanted o (yielded ops a.tmps) = (b == want) := fun pin K0 F ρ0 w0 a w hs => by
          obtain ⟨K, ρ, _, _, e, l, _⟩ := hs
          have := (yielded_of e l hd).1 b hb
          simp [Region.wanted, hg, this]
        cases hbv : b with
        | true =>
          rw [hbv] at h
          simp only [cond_true] at h
          cases hw : want with
          | true =>
            rw [hw] at h
            simp only [if_true] at h
            exact run _ h fun pin K0 F ρ0 w0 a w hs => ⟨hs.setb hb hbv, by rw [hy _ _ _ _ _ _ _ hs, hbv, hw]; rfl⟩
          | false =>
            rw [hw] at h
            simp only [Bool.false_eq_true, if_false] at h
            exact skip _ h fun pin K0 F ρ0 w0 a w hs => ⟨hs.setb hb hbv, by rw [hy _ _ _ _ _ _ _ hs, hbv, hw]; rfl⟩
        | false =>
          rw [hbv] at h
          simp only [cond_false] at h
          cases hw : want with
          | true =>
            rw [hw] at h
            simp only [if_true] at h
            exact skip _ h fun pin K0 F ρ0 w0 a w hs => ⟨hs.setb hb hbv, by rw [hy _ _ _ _ _ _ _ hs, hbv, hw]; rfl⟩
          | false =>
            rw [hw] at h
            simp only [Bool.false_eq_true, if_false] at h
            exact run _ h fun pin K0 F ρ0 w0 a w hs => ⟨hs.setb hb hbv, by rw [hy _ _ _ _ _ _ _ hs, hbv, hw]; rfl⟩
      · rename_i hb
        refine skip σ h fun pin K0 F ρ0 w0 a w hs => ⟨hs, ?_⟩
        obtain ⟨K, ρ, _, _, e, l, _⟩ := hs
        have := (yielded_of e l hd).2 hb
        simp [Region.wanted, hg, this]
      · simp at h

theorem runOps_sound (hc : CallOK P call) {ops : Array Oper} {base : Nat} {pin : Nat} {K0 F : Nat → Prop} {ρ0 : Locs} {w0 : World} {Q : Exit → Act → World → Prop} {k : St → List Tch → Ans}
    (hQ : ∀ σ T a w, k σ T = some ans → SR pin K0 F ρ0 w0 σ a w → Q .normal a w) :
    ∀ (l : List Oper) (i : Nat) (σ : St) (T : List Tch) (a : Act) (w : World), (∀ j, l[j]? = ops[i + j]?) → runOps P hn call false ops base l i σ T k = some ans → SR pin K0 F ρ0 w0 σ a w →
      wpOps P ops Q (List.range' i l.length) a w
  | [], i, σ, T, a, w, hl, h, hs => by simp only [runOps] at h; exact hQ _ _ _ _ h hs
  | o :: r, i, σ, T, a, w, hl, h, hs => by
    have h2 := runOps_step hc h
    have ho : ops[i]? = some o := by simpa using (hl 0).symm
    simp only [List.length_cons, List.range'_succ, wpOps, ho]
    have := h2 pin K0 F ρ0 w0 a w hs (wpOps P ops Q (List.range' (i + 1) r.length)) Q fun v w' σ' t h1 hs' =>
      runOps_sound hc hQ r (i + 1) σ' _ _ w' (fun j => by have := hl (j + 1); simp only [List.getElem?_cons_succ] at this; rw [this]; congr 1; omega) h1 hs'
    split
    · rename_i hw; rw [if_pos hw] at this; exact .inl this
    · rename_i hw; rw [if_neg hw] at this; exact this
end
end Go.Ab

/- The framework, part 18: regions that draw their order. -/
namespace Go.Ab
set_option linter.unusedVariables false

section
variable {P : Program} {hn : Hints} {call : Callf} {ans : AV × List Slot}

/-- A step of a region, told: the state behind it, and what it touched. -/
def stepD (P : Program) (hn : Hints) (call : Callf) (ops : Array Oper) (base i : Nat) (σ : St) : Option (St × Tch) :=
  match ops[i]? with
  | none => none
  | some o =>
    let go : Option (St × Tch) :=
      match opR P hn call (base + i) o σ with
      | some r => if r.ok then some (⟨put σ.env o.dst r.val, writeM σ.mem r.wr⟩, ⟨r.wr.map (·.1), r.rd⟩) else none
      | none => none
    let skip : Option (St × Tch) := some (⟨put σ.env o.dst undefA, σ.mem⟩, ⟨[], []⟩)
    match o.guard with
    | none => go
    | some (g, want) =>
      match (ops[g]?).bind (·.dst) with
      | none => skip
      | some d =>
        match σ.env.getD d .junk with
        | .bool b => if b == want then go else skip
        | .tup [] => skip
        | _ => none

theorem set_same {env : List AV} {d : Nat} {v : AV} (h : env.getD d .junk = v) (hj : v ≠ .junk) : env.set d v = env := by
  have hlt : d < env.length := by
    rcases Nat.lt_or_ge d env.length with h' | h'
    · exact h'
    · simp [List.getD, List.getElem?_eq_none h'] at h; exact absurd h.symm hj
  apply List.ext_getElem?
  intro i
  by_cases hid : d = i
  · subst hid
    rw [List.getElem?_set, if_pos rfl, if_pos hlt]
    simp only [List.getD, List.getElem?_eq_getElem hlt, Option.getD_some] at h
    rw [List.getElem?_eq_getElem hlt, h]
  · rw [List.getElem?_set_ne hid]

/-- runOps goes by steps. -/
theorem runOps_stepD (hc : CallOK P call) {ops : Array Oper} {base : Nat} {o : Oper} {r : List Oper} {i : Nat} {σ : St} {T : List Tch} {k : St → List Tch → Ans} (ho : ops[i]? = some o)
    (h : runOps P hn call true ops base (o :: r) i σ T k = some ans) : ∃ σ' t, runOps P hn call true ops base r (i + 1) σ' (T ++ [t]) k = some ans ∧ stepD P hn call ops base i σ = some (σ', t) := by
  have run : oper P hn call true (base + i) o σ (fun σ t => runOps P hn call true ops base r (i + 1) σ (T ++ [t]) k) = some ans →
      ∃ σ' t, runOps P hn call true ops base r (i + 1) σ' (T ++ [t]) k = some ans ∧ (match opR P hn call (base + i) o σ with
      | some r => if r.ok then some (⟨put σ.env o.dst r.val, writeM σ.mem r.wr⟩, ⟨r.wr.map (·.1), r.rd⟩) else none
      | none => none) = some (σ', t) := fun h1 => by
    obtain ⟨q, q1, q2, k1⟩ := (oper_sound hc h1).2 rfl
    exact ⟨_, _, k1, by rw [q1]; simp [q2]⟩
  simp only [runOps] at h
  unfold stepD
  simp only [ho]
  split at h
  · rename_i hg
    simp only [hg]
    exact run h
  · rename_i g want hg
    simp only [hg]
    split at h
    · rename_i hd
      simp only [hd]
      exact ⟨_, _, h, rfl⟩
    · rename_i d hd
      simp only [hd]
      split at h
      · rename_i b hb
        simp only [hb]
        have hset : σ.env.set d (.bool b) = σ.env := set_same hb (by simp)
        cases b <;> cases want <;> simp only [cond_true, cond_false, if_true, if_false, Bool.false_eq_true, hset] at h <;> simp
        all_goals first | exact run h | exact h | exact ⟨_, _, h, rfl, rfl⟩ | exact ⟨_, _, h, rfl⟩
      · rename_i hb
        simp only [hb]
        exact ⟨_, _, h, rfl⟩
      · simp at h

/-- The concrete side of a step. -/
theorem stepD_one (hc : CallOK P call) {ops : Array Oper} {base i : Nat} {o : Oper} {σ σ' : St} {t : Tch} (ho : ops[i]? = some o) (h : stepD P hn call ops base i σ = some (σ', t)) : OneR P ops o σ σ' := by
  intro pin K0 F ρ0 w0 a w hs next Q hnext
  have go : (match opR P hn call (base + i) o σ with
      | some r => if r.ok then some ((⟨put σ.env o.dst r.val, writeM σ.mem r.wr⟩ : St), (⟨r.wr.map (·.1), r.rd⟩ : Tch)) else none
      | none => none) = some (σ', t) → Region.wanted o (yielded ops a.tmps) = true → if Region.wanted o (yielded ops a.tmps) = true then o.wp P a w next Q else next (a.put o.dst undef) w := fun h1 h2 => by
    rw [if_pos h2]
    split at h1
    · rename_i r hr
      split at h1
      · rename_i hok
        simp only [Option.some.injEq, Prod.mk.injEq] at h1
        obtain ⟨rfl, rfl⟩ := h1
        exact opR_sound hc hr hok pin K0 F ρ0 w0 a w hs next Q hnext
      · simp at h1
    · simp at h1
  have skip : σ' = ⟨put σ.env o.dst undefA, σ.mem⟩ → Region.wanted o (yielded ops a.tmps) = false → if Region.wanted o (yielded ops a.tmps) = true then o.wp P a w next Q else next (a.put o.dst undef) w := fun h1 h2 => by
    rw [if_neg (by simp [h2])]
    subst h1
    exact hnext undef w (hs.skip o.dst)
  obtain ⟨K, ρ, _, _, e, l, _⟩ := id hs
  unfold stepD at h
  simp only [ho] at h
  split at h
  · rename_i hg
    exact go h (by simp [Region.wanted, hg])
  · rename_i g want hg
    split at h
    · rename_i hd
      simp only [Option.some.injEq, Prod.mk.injEq] at h
      exact skip h.1.symm (by simp [Region.wanted, hg, yielded, hd])
    · rename_i d hd
      split at h
      · rename_i b hb
        have hy := (yielded_of e l hd).1 b hb
        split at h
        · rename_i hbw
          exact go h (by simpa [Region.wanted, hg, hy] using hbw)
        · rename_i hbw
          simp only [Option.some.injEq, Prod.mk.injEq] at h
          exact skip h.1.symm (by simpa [Region.wanted, hg, hy] using hbw)
      · rename_i hb
        have hy := (yielded_of e l hd).2 hb
        simp only [Option.some.injEq, Prod.mk.injEq] at h
        exact skip h.1.symm (by simp [Region.wanted, hg, hy])
      · simp at h

/-- Whatever order is picked: every operation that may come up goes, and at the end the state is σf. -/
def anyD (P : Program) (hn : Hints) (call : Callf) (md : Region.Mode) (ops : Array Oper) (base : Nat) (σf : St) : Nat → Array Bool → St → Prop
  | 0, listed, σ => Region.ready md ops listed = [] ∧ σ = σf
  | fuel + 1, listed, σ => (Region.ready md ops listed = [] → σ = σf) ∧
    ∀ i ∈ Region.ready md ops listed, ∃ σ' t, stepD P hn call ops base i σ = some (σ', t) ∧ anyD P hn call md ops base σf fuel (listed.setIfInBounds i true) σ'

theorem anyD_wp (hc : CallOK P call) {md : Region.Mode} {ops : Array Oper} {base : Nat} {σf : St} {pin : Nat} {K0 F : Nat → Prop} {ρ0 : Locs} {w0 : World} {Q : Exit → Act → World → Prop}
    (hQ : ∀ a w, SR pin K0 F ρ0 w0 σf a w → Q .normal a w) :
    ∀ (fuel : Nat) (listed : Array Bool) (σ : St) (a : Act) (w : World), anyD P hn call md ops base σf fuel listed σ → SR pin K0 F ρ0 w0 σ a w → wpAny P md ops Q fuel listed a w
  | 0, listed, σ, a, w, h, hs => ⟨h.1, hQ a w (h.2 ▸ hs)⟩
  | fuel + 1, listed, σ, a, w, h, hs => ⟨fun h0 => hQ a w (h.1 h0 ▸ hs), fun i hi => by
    obtain ⟨σ', t, h1, h2⟩ := h.2 i hi
    unfold wpOp
    have hlt : i < ops.size := by
      unfold Region.ready at hi
      simp only [List.mem_filter, List.mem_range] at hi
      exact hi.1
    rw [Array.getElem?_eq_getElem hlt]
    simp only
    have := stepD_one hc (Array.getElem?_eq_getElem hlt) h1 pin K0 F ρ0 w0 a w hs (wpAny P md ops Q fuel (listed.setIfInBounds i true)) Q fun v w' hs' =>
      anyD_wp hc hQ fuel _ σ' _ w' h2 hs'
    split
    · rename_i hw; rw [if_pos hw] at this; exact .inl this
    · rename_i hw; rw [if_neg hw] at this; exact this⟩

/-! ### operations see only what they read -/
theorem getObj?_same {m m' : List Slot} {b : Nat} (h : m'[b]? = m[b]?) : getObj? m' b = getObj? m b := by simp [getObj?, h]
theorem rowOf_same {m m' : List Slot} {b : Nat} (h : m'[b]? = m[b]?) : rowOf m' b = rowOf m b := by simp [rowOf, getObj?_same h]

theorem frz_same {m m' : List Slot} {v x : AV} {wr : List (Nat × Slot)} (h : frz m v = some (x, wr)) (hs : ∀ b ∈ wr.map (·.1), m'[b]? = m[b]?) : frz m' v = some (x, wr) := by
  unfold frz at h ⊢
  split at h
  · rename_i b i
    simp only [Option.map_eq_some_iff] at h
    obtain ⟨r, h1, h2⟩ := h
    simp only [Prod.mk.injEq] at h2
    obtain ⟨rfl, rfl⟩ := h2
    rw [rowOf_same (hs b (by simp)), h1]
    rfl
  · exact h

theorem frzL_same {m m' : List Slot} : ∀ {vs xs : List AV} {wr : List (Nat × Slot)}, frzL m vs = some (xs, wr) → (∀ b ∈ wr.map (·.1), m'[b]? = m[b]?) → frzL m' vs = some (xs, wr)
  | [], xs, wr, h, _ => h
  | v :: vs, xs, wr, h, hs => by
    simp only [frzL] at h ⊢
    split at h
    · rename_i x a ys b h1 h2
      simp only [Option.some.injEq, Prod.mk.injEq] at h
      obtain ⟨rfl, rfl⟩ := h
      rw [frz_same h1 fun c hc => hs c (by simp at hc ⊢; exact .inl hc), frzL_same h2 fun c hc => hs c (by simp at hc ⊢; exact .inr hc)]
    · simp at h

theorem frzV_same {m m' : List Slot} {v x : AV} {wr : List (Nat × Slot)} (h : frzV m v = some (x, wr)) (hs : ∀ b ∈ wr.map (·.1), m'[b]? = m[b]?) : frzV m' v = some (x, wr) := by
  unfold frzV at h ⊢
  split at h
  · simp only [Option.map_eq_some_iff] at h
    obtain ⟨⟨r1, r2⟩, h1, h2⟩ := h
    simp only [Prod.mk.injEq] at h2
    obtain ⟨rfl, rfl⟩ := h2
    rw [frzL_same h1 hs]
    rfl
  · simp only [Option.map_eq_some_iff] at h
    obtain ⟨⟨r1, r2⟩, h1, h2⟩ := h
    simp only [Prod.mk.injEq] at h2
    obtain ⟨rfl, rfl⟩ := h2
    rw [frzL_same h1 hs]
    rfl
  · exact frz_same h hs

theorem frzVL_same {m m' : List Slot} : ∀ {vs xs : List AV} {wr : List (Nat × Slot)}, frzVL m vs = some (xs, wr) → (∀ b ∈ wr.map (·.1), m'[b]? = m[b]?) → frzVL m' vs = some (xs, wr)
  | [], xs, wr, h, _ => h
  | v :: vs, xs, wr, h, hs => by
    simp only [frzVL] at h ⊢
    split at h
    · rename_i x a ys b h1 h2
      simp only [Option.some.injEq, Prod.mk.injEq] at h
      obtain ⟨rfl, rfl⟩ := h
      rw [frzV_same h1 fun c hc => hs c (by simp at hc ⊢; exact .inl hc), frzVL_same h2 fun c hc => hs c (by simp at hc ⊢; exact .inr hc)]
    · simp at h

theorem newA_same {m m' : List Slot} {s : Nat} {v : AV} {o : AObj} {ok : Bool} {wr : List (Nat × Slot)} {rd : List Nat} {r : Res} (h : newA s m v o ok wr rd = some r) (hs : ∀ b ∈ r.rd, m'[b]? = m[b]?) :
    newA s m' v o ok wr rd = some r := by
  obtain ⟨h1, h2⟩ := newA_free h
  unfold newA
  rw [hs s (by rw [h2]; simp), h1, h2]

theorem callP_same {m m' : List Slot} {f : FuncId} {as : List AV} {r : Res} (h : callP P hn call m f as = some r) (hs : ∀ b ∈ r.rd, m'[b]? = m[b]?) : callP P hn call m' f as = some r := by
  unfold callP at h ⊢
  split at h
  · simp at h
  · rename_i fn hfn
    split at h
    · simp at h
    · rename_i hown
      rw [if_neg hown]
      split at h
      · simp at h
      · rename_i ro w hro
        have hrd : r.rd = w.map (·.1) := by
          split at h
          · split at h
            · simp at h
            · split at h
              · split at h
                · simp at h; subst h; rfl
                · simp at h
              · split at h
                · simp at h
                · split at h
                  · simp at h; subst h; rfl
                  · simp at h
          · simp at h
        rw [frzVL_same hro fun b hb => hs b (by rw [hrd]; exact hb)]
        exact h
end
end Go.Ab
