/- The framework, part 15: what a call's contract says, and that a caller may go by it. -/
import Derived.Test.YthmebldaalplpaaFw14
namespace Go.Ab
set_option linter.unusedVariables false

/-- A call of f with these arguments, over this memory, hands back r.1 and leaves the memory r.2. -/
def Sound (P : Program) (f : FuncId) (args : List AV) (m : List Slot) (r : AV × List Slot) : Prop :=
  ∀ (K F : Nat → Prop) (ρ : Locs) (w : World) (vals : List Value), Inv K F ρ m w → VRL K ρ w args vals →
    Calls P f vals.toArray w fun e w' => ∃ v K' ρ', e = .returned v ∧ Step K F ρ w K' ρ' w' ∧ Inv K' F ρ' r.2 w' ∧ VR K' ρ' w' r.1 v

/-- As Sound, of an answer with which something is done. -/
def SoundK (P : Program) (f : FuncId) (args : List AV) (m : List Slot) (kk : AV → List Slot → Ans) (ans : AV × List Slot) : Prop :=
  ∀ (K F : Nat → Prop) (ρ : Locs) (w : World) (vals : List Value), Inv K F ρ m w → VRL K ρ w args vals →
    Calls P f vals.toArray w fun e w' => ∃ (v : Value) (K' : Nat → Prop) (ρ' : Locs) (r : AV × List Slot), kk r.1 r.2 = some ans ∧ e = .returned v ∧ Step K F ρ w K' ρ' w' ∧ Inv K' F ρ' r.2 w' ∧ VR K' ρ' w' r.1 v

structure CallOK (P : Program) (call : Callf) : Prop where
  tab : ∀ f args m r, call.tab f args m = some r → r.1 = true → Sound P f args m r.2
  inl : ∀ f args m kk ans, call.inl f args m kk = some ans → SoundK P f args m kk ans

section
variable {P : Program} {K F : Nat → Prop} {ρ : Locs} {m : List Slot} {w w' : World}

theorem Inv.none (h : Inv K F ρ m w) : Inv K (fun b => F b ∨ outB ρ m [] b) (fun _ => none) [] w := by
  have := h.sub (L := []) rfl
  have e : subρ ρ [] = fun _ => Option.none := by funext i; simp [subρ]
  rw [e] at this
  exact this

theorem Step.back {K' : Nat → Prop} {ρ' : Locs} {G : Nat → Prop} {ρ0 : Locs} (s : Step K (fun b => F b ∨ G b) ρ0 w K' ρ' w') : Step K F ρ w K' ρ w' :=
  ⟨s.sub, s.keepK, fun b hb => s.keepF b (.inl hb), fun _ _ h => h, s.size, s.os, s.tape, s.output⟩

def mergeρ (ρ ρ' : Locs) (n k : Nat) : Locs := fun b => if b < n then ρ b else ρ' (k + (b - n))

theorem list_find {L : List Nat} {b : Nat} (h : L.idxOf? b = Option.none) : b ∉ L := by
  rwa [List.idxOf?_eq_none_iff] at h

theorem merge_ok {K1 K' : Nat → Prop} {ρ' : Locs} {m1 m' : List Slot} {L : List Nat} (hi : Inv K1 F ρ m1 w) (hn : nodupB L = true) (hlive : L.all (isObj m1) = true)
    (st : Step K1 (fun b => F b ∨ outB ρ m1 L b) (subρ ρ L) w K' ρ' w') (ir : Inv K' (fun b => F b ∨ outB ρ m1 L b) ρ' m' w') (hlen : L.length ≤ m'.length) :
    Step K1 F ρ w K' (mergeρ ρ ρ' m1.length L.length) w' ∧ Inv K' F (mergeρ ρ ρ' m1.length L.length) (mergeM m1 L m') w' ∧
      ∀ b c Lc, backF L m1.length b = some c → ρ' b = some Lc → mergeρ ρ ρ' m1.length L.length c = some Lc := by
  have live : ∀ b, b ∈ L → b < m1.length ∧ ∃ L0, ρ b = some L0 := fun b hb => by
    have := List.all_eq_true.1 hlive b hb
    unfold isObj at this
    split at this
    · rename_i o ho
      obtain ⟨L0, h1, _⟩ := hi.ob b _ ho
      exact ⟨(List.getElem?_eq_some_iff.1 ho).1, L0, h1⟩
    · simp at this
  have hback : ∀ b c Lc, backF L m1.length b = some c → ρ' b = some Lc → mergeρ ρ ρ' m1.length L.length c = some Lc := fun i c Lc h1 h2 => by
    unfold backF at h1
    split at h1
    · obtain ⟨q1, L0, q2⟩ := live c (List.mem_of_getElem? h1)
      have := st.loc i L0 (by simp [subρ, h1, q2])
      rw [this] at h2
      obtain rfl := Option.some.inj h2
      simp [mergeρ, q1, q2]
    · simp only [Option.some.injEq] at h1
      subst h1
      rename_i hge
      simp only [mergeρ]
      rw [if_neg (by omega), show L.length + (m1.length + (i - L.length) - m1.length) = i by omega]
      exact h2
  have hloc : ∀ b L0, ρ b = some L0 → mergeρ ρ ρ' m1.length L.length b = some L0 := fun b L0 hb => by
    simp only [mergeρ]
    rw [if_pos (hi.fr b L0 hb).1]
    exact hb
  have getM : ∀ b : Nat, (mergeM m1 L m')[b]? = if b < m1.length then some (mergeS m1 L m' b) else (m'[L.length + (b - m1.length)]?).map (renS (backF L m1.length)) := fun b => by
    unfold mergeM
    rw [List.getElem?_append]
    simp only [List.length_map, List.length_range]
    split
    · rename_i hb
      simp [hb]
    · simp
  have objM : ∀ (b : Nat) (o : AObj), (mergeM m1 L m')[b]? = some (.obj o) → (b < m1.length ∧ b ∉ L ∧ m1[b]? = some (.obj o)) ∨
      ∃ i o', backF L m1.length i = some b ∧ m'[i]? = some (.obj o') ∧ o'.own = o.own ∧ renS (backF L m1.length) (.obj o') = .obj o := fun b o hb => by
    rw [getM] at hb
    split at hb
    · rename_i hlt
      simp only [Option.some.injEq] at hb
      unfold mergeS at hb
      split at hb
      · rename_i i hidx
        have hi1 := idx_get hidx
        have hilt := (List.getElem?_eq_some_iff.1 hi1).1
        obtain ⟨o', h3, h4⟩ := renS_obj hb
        refine .inr ⟨i, o', by unfold backF; rw [if_pos hilt]; exact hi1, ?_, h4, by rw [← h3]; exact hb⟩
        simp only [List.getD, List.getElem?_eq_getElem (show i < m'.length by omega), Option.getD_some] at h3
        rw [List.getElem?_eq_getElem (by omega), h3]
      · rename_i hidx
        refine .inl ⟨hlt, list_find hidx, ?_⟩
        simp only [List.getD, List.getElem?_eq_getElem hlt, Option.getD_some] at hb
        rw [List.getElem?_eq_getElem hlt, hb]
    · rename_i hge
      rw [Option.map_eq_some_iff] at hb
      obtain ⟨s, h1, h2⟩ := hb
      obtain ⟨o', h3, h4⟩ := renS_obj h2
      refine .inr ⟨L.length + (b - m1.length), o', ?_, by rw [h1, h3], h4, by rw [← h3]; exact h2⟩
      unfold backF
      rw [if_neg (by omega)]
      congr 1
      omega
  have hout : ∀ b o L0, m1[b]? = some (.obj o) → o.own = true → b ∉ L → ρ b = some L0 → L0.nil = false → outB ρ m1 L L0.blk := fun b o L0 h1 h2 h3 h4 h5 => ⟨b, o, L0, h1, h2, h3, h4, h5, rfl⟩
  refine ⟨⟨st.sub, st.keepK, fun b hb => st.keepF b (.inl hb), hloc, st.size, st.os, st.tape, st.output⟩, ⟨ir.kw, fun b hb => ir.fw b (.inl hb), fun b hb hf => ir.dis b hb (.inl hf), ?_, ?_, ?_⟩, hback⟩
  · intro b o hb
    rcases objM b o hb with ⟨hlt, hnot, hm⟩ | ⟨i, o', hb1, hm, hown, hren⟩
    · obtain ⟨L0, h1, h2, h3⟩ := hi.ob b o hm
      refine ⟨L0, hloc b L0 h1, OR.move st.sub st.keepK hloc (fun hnil => ?_) h2, fun ho hnil => ⟨fun hk => ir.dis _ hk (.inr (hout b o L0 hm ho hnot h1 hnil)), (h3 ho hnil).2⟩⟩
      cases ho : o.own with
      | true => exact st.keepF _ (.inr (hout b o L0 hm ho hnot h1 hnil))
      | false =>
        cases o with
        | frows t l => exact st.keepK _ (h2.2 hnil)
        | box cs => simp [AObj.own] at ho
        | rows t l => simp [AObj.own] at ho
    · obtain ⟨L0, h1, h2, h3⟩ := ir.ob i o' hm
      refine ⟨L0, hback i b L0 hb1 h1, OR.ren hback h2 hren, fun ho hnil => ?_⟩
      have := h3 (by rw [hown]; exact ho) hnil
      exact ⟨this.1, fun hf => this.2 (.inl hf)⟩
  · intro b c ob oc Lb Lc hb hc hob hoc hLb hLc hnb hnc he
    rcases objM b ob hb with ⟨hlt, hnot, hm⟩ | ⟨i, o', hb1, hm, hown, _⟩
    · obtain ⟨L0, h1, h2, h3⟩ := hi.ob b ob hm
      rw [hloc b L0 h1] at hLb
      obtain rfl := Option.some.inj hLb
      rcases objM c oc hc with ⟨hlt', hnot', hm'⟩ | ⟨j, oj, hc1, hm', hown', _⟩
      · obtain ⟨L1, k1, _, _⟩ := hi.ob c oc hm'
        rw [hloc c L1 k1] at hLc
        obtain rfl := Option.some.inj hLc
        exact hi.inj b c ob oc L0 L1 hm hm' hob hoc h1 k1 hnb hnc he
      · obtain ⟨L1, k1, k2, k3⟩ := ir.ob j oj hm'
        rw [hback j c L1 hc1 k1] at hLc
        obtain rfl := Option.some.inj hLc
        exact absurd (.inr (he ▸ hout b ob L0 hm hob hnot h1 hnb)) (k3 (by rw [hown']; exact hoc) hnc).2
    · obtain ⟨L0, h1, h2, h3⟩ := ir.ob i o' hm
      rw [hback i b L0 hb1 h1] at hLb
      obtain rfl := Option.some.inj hLb
      rcases objM c oc hc with ⟨hlt', hnot', hm'⟩ | ⟨j, oj, hc1, hm', hown', _⟩
      · obtain ⟨L1, k1, k2, k3⟩ := hi.ob c oc hm'
        rw [hloc c L1 k1] at hLc
        obtain rfl := Option.some.inj hLc
        exact absurd (.inr (he ▸ hout c oc L1 hm' hoc hnot' k1 hnc)) (h3 (by rw [hown]; exact hob) hnb).2
      · obtain ⟨L1, k1, k2, k3⟩ := ir.ob j oj hm'
        rw [hback j c L1 hc1 k1] at hLc
        obtain rfl := Option.some.inj hLc
        have : i = j := ir.inj i j o' oj L0 L1 hm hm' (by rw [hown]; exact hob) (by rw [hown']; exact hoc) h1 k1 hnb hnc he
        subst this
        rw [hb1] at hc1
        exact Option.some.inj hc1
  · intro b Lb hb
    simp only [mergeρ] at hb
    split at hb
    · rename_i hlt
      refine ⟨by simp [mergeM]; omega, ?_⟩
      rw [getM, if_pos hlt]
      simp only [ne_eq, Option.some.injEq]
      unfold mergeS
      split
      · rename_i i hidx
        rw [renS_free]
        have hi1 := idx_get hidx
        have h2 := st.loc i Lb (by simp [subρ, hi1, hb])
        obtain ⟨q1, q2⟩ := ir.fr i Lb h2
        intro hc
        apply q2
        rw [List.getElem?_eq_getElem q1]
        simp only [List.getD, List.getElem?_eq_getElem q1, Option.getD_some] at hc
        rw [hc]
      · obtain ⟨q1, q2⟩ := hi.fr b Lb hb
        intro hc
        apply q2
        simp only [List.getD, List.getElem?_eq_getElem hlt, Option.getD_some] at hc
        rw [List.getElem?_eq_getElem hlt, hc]
    · rename_i hge
      obtain ⟨q1, q2⟩ := ir.fr _ Lb hb
      refine ⟨by simp [mergeM]; omega, ?_⟩
      rw [getM, if_neg hge, List.getElem?_eq_getElem q1]
      simp only [Option.map_some, ne_eq, Option.some.injEq]
      rw [renS_free]
      intro hc
      apply q2
      rw [List.getElem?_eq_getElem q1, hc]

/-- A caller may go by its callees' contracts. -/
theorem callP_sound {hn : Hints} {call : Callf} (hc : CallOK P call) {f : FuncId} {args : List AV} {r : Res} (h : callP P hn call m f args = some r) (hok : r.ok = true) :
    (fnOf P f).isSome = true ∧ ∀ (K F : Nat → Prop) (ρ : Locs) (w : World) (vals : List Value), Inv K F ρ m w → VRL K ρ w args vals →
      Calls P f vals.toArray w fun e w' => ∃ v K' ρ', e = .returned v ∧ Step K F ρ w K' ρ' w' ∧ Inv K' F ρ' (writeM m r.wr) w' ∧ VR K' ρ' w' r.val v := by
  unfold callP at h
  split at h
  · simp at h
  · rename_i fn hfn
    have hsome : (fnOf P f).isSome = true := by rw [hfn]; rfl
    split at h
    · simp at h
    · split at h
      · simp at h
      · rename_i ro wr hro'
        split at h
        · rename_i hnoids
          split at h
          · simp at h
          · rename_i q h1
            split at h
            · split at h
              · rename_i hplain
                simp only [Option.some.injEq] at h
                subst h
                refine ⟨hsome, fun K F ρ w vals hi hv => ?_⟩
                obtain ⟨K1, s1, i1, f1, v1⟩ := frzVL_sound hro' (Fz.refl m) hi (fixArgs_vr P _ hv)
                have v2 : VRL K1 (fun _ => Option.none) w ro vals := VRL.noids v1 hnoids
                refine (hc.tab _ _ _ _ h1 hok K1 _ _ w vals i1.none v2).mono ?_
                rintro e w' ⟨v, K', ρ', rfl, st, ir, vr⟩
                refine ⟨v, K, ρ, rfl, ?_, ?_, VR.plain vr hplain⟩
                · exact ⟨fun _ x => x, fun b hb => st.keepK b (s1.sub b hb), fun b hb => st.keepF b (.inl hb), fun _ _ x => x, st.size, st.os, st.tape, st.output⟩
                · refine Inv.after hi (fun _ x => x) (fun b hb => Nat.lt_of_lt_of_le (hi.kw b hb) st.size) st.size hi.dis (fun b hb ho => ?_) (fun b hb => st.keepK b (s1.sub b hb)) (fun b ho => ?_)
                  · obtain ⟨c, o, Lc, q1, q2, _, q4, q5, rfl⟩ := ho
                    obtain ⟨L0, t1, t2, t3⟩ := hi.ob c o q1
                    rw [q4] at t1
                    obtain rfl := Option.some.inj t1
                    exact (t3 q2 q5).1 hb
                  · obtain ⟨c, o, Lc, q1, q2, _, q4, q5, rfl⟩ := ho
                    rcases f1 c with e | ⟨t, l, e1, e2⟩
                    · exact st.keepF _ (.inr ⟨c, o, Lc, by rw [e]; exact q1, q2, by simp, q4, q5, rfl⟩)
                    · obtain ⟨L0, t1, t2, _⟩ := i1.ob c _ e2
                      rw [q4] at t1
                      obtain rfl := Option.some.inj t1
                      exact st.keepK _ (t2.2 q5)
              · simp at h
            · split at h
              · simp at h
              · rename_i v h2
                split at h
                · rename_i hvn
                  simp only [Option.some.injEq] at h
                  subst h
                  refine ⟨hsome, fun K F ρ w vals hi hv => ?_⟩
                  obtain ⟨K1, s1, i1, f1, v1⟩ := frzVL_sound hro' (Fz.refl m) hi (fixArgs_vr P _ hv)
                  have v2 : VRL K1 (fun _ => Option.none) w ro vals := VRL.noids v1 hnoids
                  refine (hc.tab _ _ _ _ h1 hok K1 _ _ w vals i1.none v2).mono ?_
                  rintro e w' ⟨u, K', ρ', rfl, st, ir, vr⟩
                  obtain ⟨K2, s2, i2, v3⟩ := frzV_sound h2 ir vr
                  refine ⟨u, K2, ρ, rfl, ?_, ?_, VR.noids v3 hvn⟩
                  · exact (s1.trans (Step.back (ρ := ρ) (st.trans s2)))
                  · exact Inv.after i1 (fun b hb => s2.sub b (st.sub b hb)) (fun b hb => i2.kw b hb) st.size (fun b hb hf => i2.dis b hb (.inl hf)) (fun b hb ho => i2.dis b hb (.inr ho)) st.keepK (fun b ho => st.keepF b (.inr ho))
                · simp at h
        · simp at h

theorem callI_sound {hn : Hints} {call : Callf} (hc : CallOK P call) {f : FuncId} {args : List AV} {cr : Bool × AV × List Slot} (h : callI P hn call m f args = some cr) (hok : cr.1 = true) :
    (fnOf P f).isSome = true ∧ ∀ (K F : Nat → Prop) (ρ : Locs) (w : World) (vals : List Value), Inv K F ρ m w → VRL K ρ w args vals →
      Calls P f vals.toArray w fun e w' => ∃ v K' ρ', e = .returned v ∧ Step K F ρ w K' ρ' w' ∧ Inv K' F ρ' cr.2.2 w' ∧ VR K' ρ' w' cr.2.1 v := by
  unfold callI at h
  split at h
  · simp at h
  · rename_i fn hfn
    have hsome : (fnOf P f).isSome = true := by rw [hfn]; rfl
    simp only at h
    obtain ⟨p, hp⟩ : ∃ p, p = (if hn.own f then (fixArgs P fn.params.toList args, []) else frzP m (fixArgs P fn.params.toList args)) := ⟨_, rfl⟩
    rw [← hp] at h
    split at h
    · rename_i hcond
      simp only [Bool.and_eq_true] at hcond
      split at h
      · simp at h
      · rename_i r h1
        split at h
        · rename_i hlen
          simp only [Option.some.injEq] at h
          subst h
          refine ⟨hsome, fun K F ρ w vals hi hv => ?_⟩
          have hfz : ∃ K1, Step K F ρ w K1 ρ w ∧ Inv K1 F ρ (writeM m p.2) w ∧ VRL K1 ρ w p.1 vals := by
            rw [hp]
            split
            · exact ⟨K, Step.refl _ _ _ _, hi, fixArgs_vr P _ hv⟩
            · obtain ⟨K1, s1, i1, _, v1⟩ := frzP_sound (Fz.refl m) hi (fixArgs_vr P _ hv)
              exact ⟨K1, s1, i1, v1⟩
          obtain ⟨K1, s1, i1, v1⟩ := hfz
          have isub := i1.sub hcond.1
          refine (hc.tab _ _ _ _ h1 hok K1 _ _ w vals isub (VRL.ren sub_ok v1)).mono ?_
          rintro e w' ⟨u, K', ρ', rfl, st, ir, vr⟩
          obtain ⟨q1, q2, q3⟩ := merge_ok i1 hcond.1 hcond.2 st ir hlen
          exact ⟨u, K', _, rfl, s1.trans q1, q2, VR.ren q3 vr⟩
        · simp at h
    · simp at h

theorem callK_sound {hn : Hints} {call : Callf} (hc : CallOK P call) {f : FuncId} {args : List AV} {kk : AV → List Slot → Ans} {ans : AV × List Slot} (h : callK P hn call m f args kk = some ans) :
    (fnOf P f).isSome = true ∧ ∀ (K F : Nat → Prop) (ρ : Locs) (w : World) (vals : List Value), Inv K F ρ m w → VRL K ρ w args vals →
      Calls P f vals.toArray w fun e w' => ∃ (v : Value) (K' : Nat → Prop) (ρ' : Locs) (r : AV × List Slot), kk r.1 r.2 = some ans ∧ e = .returned v ∧ Step K F ρ w K' ρ' w' ∧ Inv K' F ρ' r.2 w' ∧ VR K' ρ' w' r.1 v := by
  unfold callK at h
  split at h
  · simp at h
  · rename_i fn hfn
    have hsome : (fnOf P f).isSome = true := by rw [hfn]; rfl
    simp only at h
    obtain ⟨p, hp⟩ : ∃ p, p = (if hn.own f then (fixArgs P fn.params.toList args, []) else frzP m (fixArgs P fn.params.toList args)) := ⟨_, rfl⟩
    rw [← hp] at h
    split at h
    · rename_i hcond
      simp only [Bool.and_eq_true] at hcond
      refine ⟨hsome, fun K F ρ w vals hi hv => ?_⟩
      have hfz : ∃ K1, Step K F ρ w K1 ρ w ∧ Inv K1 F ρ (writeM m p.2) w ∧ VRL K1 ρ w p.1 vals := by
        rw [hp]
        split
        · exact ⟨K, Step.refl _ _ _ _, hi, fixArgs_vr P _ hv⟩
        · obtain ⟨K1, s1, i1, _, v1⟩ := frzP_sound (Fz.refl m) hi (fixArgs_vr P _ hv)
          exact ⟨K1, s1, i1, v1⟩
      obtain ⟨K1, s1, i1, v1⟩ := hfz
      have isub := i1.sub hcond.1
      refine (hc.inl _ _ _ _ _ h K1 _ _ w vals isub (VRL.ren sub_ok v1)).mono ?_
      rintro e w' ⟨u, K', ρ', r, hk, rfl, st, ir, vr⟩
      split at hk
      · rename_i hlen
        obtain ⟨q1, q2, q3⟩ := merge_ok i1 hcond.1 hcond.2 st ir hlen
        exact ⟨u, K', _, ⟨_, _⟩, hk, rfl, s1.trans q1, q2, VR.ren q3 vr⟩
      · simp at hk
    · simp at h
end
end Go.Ab
