/- The framework, part 18: regions that draw their order. -/
import Derived.Test.YthmebldaalplpaaFw17
namespace Go.Ab
set_option linter.unusedVariables false

section
variable {P : Program} {hn : Hints} {call : Callf} {ans : AV × List Slot}

/-- A step of a region, told: the state behind it, and what it touched. -/
def stepD (P : Program) (hn : Hints) (call : Callf) (ops : Array Oper) (base i : Nat) (σ : St) : Option (St × Tch) :=
  match ops[i]? with
  | none => none
  | some o =>
    let go : Option (St × Tch) :=
      match opR P hn call (base + i) o σ with
      | some r => if r.ok then some (⟨put σ.env o.dst r.val, writeM σ.mem r.wr⟩, ⟨r.wr.map (·.1), r.rd⟩) else none
      | none => none
    let skip : Option (St × Tch) := some (⟨put σ.env o.dst undefA, σ.mem⟩, ⟨[], []⟩)
    match o.guard with
    | none => go
    | some (g, want) =>
      match (ops[g]?).bind (·.dst) with
      | none => skip
      | some d =>
        match σ.env.getD d .junk with
        | .bool b => if b == want then go else skip
        | .tup [] => skip
        | _ => none

theorem set_same {env : List AV} {d : Nat} {v : AV} (h : env.getD d .junk = v) (hj : v ≠ .junk) : env.set d v = env := by
  have hlt : d < env.length := by
    rcases Nat.lt_or_ge d env.length with h' | h'
    · exact h'
    · simp [List.getD, List.getElem?_eq_none h'] at h; exact absurd h.symm hj
  apply List.ext_getElem?
  intro i
  by_cases hid : d = i
  · subst hid
    rw [List.getElem?_set, if_pos rfl, if_pos hlt]
    simp only [List.getD, List.getElem?_eq_getElem hlt, Option.getD_some] at h
    rw [List.getElem?_eq_getElem hlt, h]
  · rw [List.getElem?_set_ne hid]

/-- runOps goes by steps. -/
theorem runOps_stepD (hc : CallOK P call) {ops : Array Oper} {base : Nat} {o : Oper} {r : List Oper} {i : Nat} {σ : St} {T : List Tch} {k : St → List Tch → Ans} (ho : ops[i]? = some o)
    (h : runOps P hn call true ops base (o :: r) i σ T k = some ans) : ∃ σ' t, runOps P hn call true ops base r (i + 1) σ' (T ++ [t]) k = some ans ∧ stepD P hn call ops base i σ = some (σ', t) := by
  have run : oper P hn call true (base + i) o σ (fun σ t => runOps P hn call true ops base r (i + 1) σ (T ++ [t]) k) = some ans →
      ∃ σ' t, runOps P hn call true ops base r (i + 1) σ' (T ++ [t]) k = some ans ∧ (match opR P hn call (base + i) o σ with
      | some r => if r.ok then some (⟨put σ.env o.dst r.val, writeM σ.mem r.wr⟩, ⟨r.wr.map (·.1), r.rd⟩) else none
      | none => none) = some (σ', t) := fun h1 => by
    obtain ⟨q, q1, q2, k1⟩ := (oper_sound hc h1).2 rfl
    exact ⟨_, _, k1, by rw [q1]; simp [q2]⟩
  simp only [runOps] at h
  unfold stepD
  simp only [ho]
  split at h
  · rename_i hg
    simp only [hg]
    exact run h
  · rename_i g want hg
    simp only [hg]
    split at h
    · rename_i hd
      simp only [hd]
      exact ⟨_, _, h, rfl⟩
    · rename_i d hd
      simp only [hd]
      split at h
      · rename_i b hb
        simp only [hb]
        have hset : σ.env.set d (.bool b) = σ.env := set_same hb (by simp)
        cases b <;> cases want <;> simp only [cond_true, cond_false, if_true, if_false, Bool.false_eq_true, hset] at h <;> simp
        all_goals first | exact run h | exact h | exact ⟨_, _, h, rfl, rfl⟩ | exact ⟨_, _, h, rfl⟩
      · rename_i hb
        simp only [hb]
        exact ⟨_, _, h, rfl⟩
      · simp at h

/-- The concrete side of a step. -/
theorem stepD_one (hc : CallOK P call) {ops : Array Oper} {base i : Nat} {o : Oper} {σ σ' : St} {t : Tch} (ho : ops[i]? = some o) (h : stepD P hn call ops base i σ = some (σ', t)) : OneR P ops o σ σ' := by
  intro pin K0 F ρ0 w0 a w hs next Q hnext
  have go : (match opR P hn call (base + i) o σ with
      | some r => if r.ok then some ((⟨put σ.env o.dst r.val, writeM σ.mem r.wr⟩ : St), (⟨r.wr.map (·.1), r.rd⟩ : Tch)) else none
      | none => none) = some (σ', t) → Region.wanted o (yielded ops a.tmps) = true → if Region.wanted o (yielded ops a.tmps) = true then o.wp P a w next Q else next (a.put o.dst undef) w := fun h1 h2 => by
    rw [if_pos h2]
    split at h1
    · rename_i r hr
      split at h1
      · rename_i hok
        simp only [Option.some.injEq, Prod.mk.injEq] at h1
        obtain ⟨rfl, rfl⟩ := h1
        exact opR_sound hc hr hok pin K0 F ρ0 w0 a w hs next Q hnext
      · simp at h1
    · simp at h1
  have skip : σ' = ⟨put σ.env o.dst undefA, σ.mem⟩ → Region.wanted o (yielded ops a.tmps) = false → if Region.wanted o (yielded ops a.tmps) = true then o.wp P a w next Q else next (a.put o.dst undef) w := fun h1 h2 => by
    rw [if_neg (by simp [h2])]
    subst h1
    exact hnext undef w (hs.skip o.dst)
  obtain ⟨K, ρ, _, _, e, l, _⟩ := id hs
  unfold stepD at h
  simp only [ho] at h
  split at h
  · rename_i hg
    exact go h (by simp [Region.wanted, hg])
  · rename_i g want hg
    split at h
    · rename_i hd
      simp only [Option.some.injEq, Prod.mk.injEq] at h
      exact skip h.1.symm (by simp [Region.wanted, hg, yielded, hd])
    · rename_i d hd
      split at h
      · rename_i b hb
        have hy := (yielded_of e l hd).1 b hb
        split at h
        · rename_i hbw
          exact go h (by simpa [Region.wanted, hg, hy] using hbw)
        · rename_i hbw
          simp only [Option.some.injEq, Prod.mk.injEq] at h
          exact skip h.1.symm (by simpa [Region.wanted, hg, hy] using hbw)
      · rename_i hb
        have hy := (yielded_of e l hd).2 hb
        simp only [Option.some.injEq, Prod.mk.injEq] at h
        exact skip h.1.symm (by simp [Region.wanted, hg, hy])
      · simp at h

/-- Whatever order is picked: every operation that may come up goes, and at the end the state is σf. -/
def anyD (P : Program) (hn : Hints) (call : Callf) (md : Region.Mode) (ops : Array Oper) (base : Nat) (σf : St) : Nat → Array Bool → St → Prop
  | 0, listed, σ => Region.ready md ops listed = [] ∧ σ = σf
  | fuel + 1, listed, σ => (Region.ready md ops listed = [] → σ = σf) ∧
    ∀ i ∈ Region.ready md ops listed, ∃ σ' t, stepD P hn call ops base i σ = some (σ', t) ∧ anyD P hn call md ops base σf fuel (listed.setIfInBounds i true) σ'

theorem anyD_wp (hc : CallOK P call) {md : Region.Mode} {ops : Array Oper} {base : Nat} {σf : St} {pin : Nat} {K0 F : Nat → Prop} {ρ0 : Locs} {w0 : World} {Q : Exit → Act → World → Prop}
    (hQ : ∀ a w, SR pin K0 F ρ0 w0 σf a w → Q .normal a w) :
    ∀ (fuel : Nat) (listed : Array Bool) (σ : St) (a : Act) (w : World), anyD P hn call md ops base σf fuel listed σ → SR pin K0 F ρ0 w0 σ a w → wpAny P md ops Q fuel listed a w
  | 0, listed, σ, a, w, h, hs => ⟨h.1, hQ a w (h.2 ▸ hs)⟩
  | fuel + 1, listed, σ, a, w, h, hs => ⟨fun h0 => hQ a w (h.1 h0 ▸ hs), fun i hi => by
    obtain ⟨σ', t, h1, h2⟩ := h.2 i hi
    unfold wpOp
    have hlt : i < ops.size := by
      unfold Region.ready at hi
      simp only [List.mem_filter, List.mem_range] at hi
      exact hi.1
    rw [Array.getElem?_eq_getElem hlt]
    simp only
    have := stepD_one hc (Array.getElem?_eq_getElem hlt) h1 pin K0 F ρ0 w0 a w hs (wpAny P md ops Q fuel (listed.setIfInBounds i true)) Q fun v w' hs' =>
      anyD_wp hc hQ fuel _ σ' _ w' h2 hs'
    split
    · rename_i hw; rw [if_pos hw] at this; exact .inl this
    · rename_i hw; rw [if_neg hw] at this; exact this⟩

/-! ### operations see only what they read -/
theorem getObj?_same {m m' : List Slot} {b : Nat} (h : m'[b]? = m[b]?) : getObj? m' b = getObj? m b := by simp [getObj?, h]
theorem rowOf_same {m m' : List Slot} {b : Nat} (h : m'[b]? = m[b]?) : rowOf m' b = rowOf m b := by simp [rowOf, getObj?_same h]

theorem frz_same {m m' : List Slot} {v x : AV} {wr : List (Nat × Slot)} (h : frz m v = some (x, wr)) (hs : ∀ b ∈ wr.map (·.1), m'[b]? = m[b]?) : frz m' v = some (x, wr) := by
  unfold frz at h ⊢
  split at h
  · rename_i b i
    simp only [Option.map_eq_some_iff] at h
    obtain ⟨r, h1, h2⟩ := h
    simp only [Prod.mk.injEq] at h2
    obtain ⟨rfl, rfl⟩ := h2
    rw [rowOf_same (hs b (by simp)), h1]
    rfl
  · exact h

theorem frzL_same {m m' : List Slot} : ∀ {vs xs : List AV} {wr : List (Nat × Slot)}, frzL m vs = some (xs, wr) → (∀ b ∈ wr.map (·.1), m'[b]? = m[b]?) → frzL m' vs = some (xs, wr)
  | [], xs, wr, h, _ => h
  | v :: vs, xs, wr, h, hs => by
    simp only [frzL] at h ⊢
    split at h
    · rename_i x a ys b h1 h2
      simp only [Option.some.injEq, Prod.mk.injEq] at h
      obtain ⟨rfl, rfl⟩ := h
      rw [frz_same h1 fun c hc => hs c (by simp at hc ⊢; exact .inl hc), frzL_same h2 fun c hc => hs c (by simp at hc ⊢; exact .inr hc)]
    · simp at h

theorem frzV_same {m m' : List Slot} {v x : AV} {wr : List (Nat × Slot)} (h : frzV m v = some (x, wr)) (hs : ∀ b ∈ wr.map (·.1), m'[b]? = m[b]?) : frzV m' v = some (x, wr) := by
  unfold frzV at h ⊢
  split at h
  · simp only [Option.map_eq_some_iff] at h
    obtain ⟨⟨r1, r2⟩, h1, h2⟩ := h
    simp only [Prod.mk.injEq] at h2
    obtain ⟨rfl, rfl⟩ := h2
    rw [frzL_same h1 hs]
    rfl
  · simp only [Option.map_eq_some_iff] at h
    obtain ⟨⟨r1, r2⟩, h1, h2⟩ := h
    simp only [Prod.mk.injEq] at h2
    obtain ⟨rfl, rfl⟩ := h2
    rw [frzL_same h1 hs]
    rfl
  · exact frz_same h hs

theorem frzVL_same {m m' : List Slot} : ∀ {vs xs : List AV} {wr : List (Nat × Slot)}, frzVL m vs = some (xs, wr) → (∀ b ∈ wr.map (·.1), m'[b]? = m[b]?) → frzVL m' vs = some (xs, wr)
  | [], xs, wr, h, _ => h
  | v :: vs, xs, wr, h, hs => by
    simp only [frzVL] at h ⊢
    split at h
    · rename_i x a ys b h1 h2
      simp only [Option.some.injEq, Prod.mk.injEq] at h
      obtain ⟨rfl, rfl⟩ := h
      rw [frzV_same h1 fun c hc => hs c (by simp at hc ⊢; exact .inl hc), frzVL_same h2 fun c hc => hs c (by simp at hc ⊢; exact .inr hc)]
    · simp at h

theorem newA_same {m m' : List Slot} {s : Nat} {v : AV} {o : AObj} {ok : Bool} {wr : List (Nat × Slot)} {rd : List Nat} {r : Res} (h : newA s m v o ok wr rd = some r) (hs : ∀ b ∈ r.rd, m'[b]? = m[b]?) :
    newA s m' v o ok wr rd = some r := by
  obtain ⟨h1, h2⟩ := newA_free h
  unfold newA
  rw [hs s (by rw [h2]; simp), h1, h2]

theorem callP_same {m m' : List Slot} {f : FuncId} {as : List AV} {r : Res} (h : callP P hn call m f as = some r) (hs : ∀ b ∈ r.rd, m'[b]? = m[b]?) : callP P hn call m' f as = some r := by
  unfold callP at h ⊢
  split at h
  · simp at h
  · rename_i fn hfn
    split at h
    · simp at h
    · rename_i hown
      rw [if_neg hown]
      split at h
      · simp at h
      · rename_i ro w hro
        have hrd : r.rd = w.map (·.1) := by
          split at h
          · split at h
            · simp at h
            · split at h
              · split at h
                · simp at h; subst h; rfl
                · simp at h
              · split at h
                · simp at h
                · split at h
                  · simp at h; subst h; rfl
                  · simp at h
          · simp at h
        rw [frzVL_same hro fun b hb => hs b (by rw [hrd]; exact hb)]
        exact h
end
end Go.Ab
