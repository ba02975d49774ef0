/- The framework, part 17: one operation in its place; regions in the text's order. -/
import Derived.Test.YthmebldaalplpaaFw16
namespace Go.Ab
set_option linter.unusedVariables false

section
variable {P : Program} {hn : Hints} {call : Callf} {ans : AV × List Slot}

theorem put_env {K : Nat → Prop} {ρ : Locs} {w : World} {env : List AV} {a : Act} (h : EnvR K ρ w env a.tmps) (hl : env.length ≤ a.tmps.size) {v : AV} {u : Value} (hv : VR K ρ w v u) (dst : Option Tmp) :
    EnvR K ρ w (put env dst v) (a.put dst u).tmps ∧ (put env dst v).length ≤ (a.put dst u).tmps.size ∧ (a.put dst u).defers = a.defers := by
  cases dst with
  | none => exact ⟨h, hl, rfl⟩
  | some d =>
    refine ⟨fun i => ?_, by simpa [put, Act.put] using hl, rfl⟩
    simp only [put, Act.put]
    by_cases hid : i = d
    · subst hid
      by_cases hlt : i < env.length
      · simp [List.getD, Array.getD, hlt, show i < a.tmps.size by omega]
        exact hv
      · simp only [List.getD]
        rw [List.getElem?_eq_none (by simp; omega)]
        exact .junk _
    · have h1 : (env.set d v).getD i .junk = env.getD i .junk := by simp [List.getD, List.getElem?_set_ne (Ne.symm hid)]
      have h2 : (a.tmps.setIfInBounds d u).getD i undef = a.tmps.getD i undef := by
        simp [Array.getD_eq_getD_getElem?, Array.getElem?_setIfInBounds_ne (Ne.symm hid)]
      rw [h1, h2]
      exact h i

theorem SR.put {pin : Nat} {K0 F : Nat → Prop} {ρ0 : Locs} {w0 : World} {K K' : Nat → Prop} {ρ ρ' : Locs} {w w' : World} {env : List AV} {m : List Slot} {a : Act}
    (s : StepP pin K0 F ρ0 w0 K ρ w) (t : Step K F ρ w K' ρ' w') (i : Inv K' F ρ' m w') (e : EnvR K ρ w env a.tmps) (l : env.length ≤ a.tmps.size) (d : a.defers = [])
    {v : AV} {u : Value} (hv : VR K' ρ' w' v u) (dst : Option Tmp) : SR pin K0 F ρ0 w0 ⟨put env dst v, m⟩ (a.put dst u) w' := by
  obtain ⟨h1, h2, h3⟩ := put_env (EnvR.mono t e) l hv dst
  exact ⟨K', ρ', s.step t, i, h1, h2, by rw [h3]; exact d⟩

theorem fnOf_some {f : FuncId} (h : (fnOf P f).isSome = true) : ∃ fn, P.funcs[f]? = some fn ∧ (fn.name == "runtime.NumGoroutine") = false ∧ fn.body.isSome = true ∧ fnOf P f = some fn := by
  unfold fnOf at h ⊢
  split at h
  · rename_i fn hf
    split at h
    · rename_i hc
      exact ⟨fn, hf, hc.1, hc.2, by rw [if_pos hc]⟩
    · simp at h
  · simp at h

theorem callee_run {f : FuncId} {as : List AV} {env : List AV} {o : Oper} {K : Nat → Prop} {ρ : Locs} {w : World} {a : Act} (hsome : (fnOf P f).isSome = true) (hcal : calleeOf env o.op = some (f, as)) (he : EnvR K ρ w env a.tmps) :
    ∃ vals, VRL K ρ w as vals ∧ (execOp a.eval o).run P w = .ok (.enter f vals.toArray) w := by
  obtain ⟨fn, hf, hname, hbody, _⟩ := fnOf_some hsome
  unfold calleeOf at hcal
  split at hcal
  · rename_i x args ts hop
    split at hcal
    · rename_i f' first captured hx
      simp only [Option.some.injEq, Prod.mk.injEq] at hcal
      obtain ⟨rfl, rfl⟩ := hcal
      have hxv := ev_vr he x
      rw [hx] at hxv
      cases hax : a.eval x <;> rw [hax] at hxv <;> cases hxv
      rename_i fs cs hfs hcs
      have hargs := VRL.map (K := K) (ρ := ρ) (w := w) (f := ev env) (g := a.eval) args.toList fun y _ => ev_vr he y
      refine ⟨_, (hfs.append hargs).append hcs, ?_⟩
      have e1 : (fs ++ args.toList.map a.eval ++ cs).toArray = fs.toArray ++ args.map a.eval ++ cs.toArray := by
        apply Array.ext'
        simp
      rw [e1]
      have hb : ¬ fn.body = none := by intro hbb; rw [hbb] at hbody; simp at hbody
      have hname' : ¬ fn.name = "runtime.NumGoroutine" := by simpa using hname
      simp [execOp, hop, resolve, hax, Deferred.ofValue, invoke, callFunc, hf, hname', hb]
    · simp at hcal
  · simp at hcal

/-- From σ to σ' by one operation that is carried out. -/
def Goes (P : Program) (o : Oper) (σ σ' : St) : Prop :=
  ∀ (pin : Nat) (K0 F : Nat → Prop) (ρ0 : Locs) (w0 : World) (a : Act) (w : World), SR pin K0 F ρ0 w0 σ a w →
    ∀ (next : Act → World → Prop) (Q : Exit → Act → World → Prop), (∀ v w', SR pin K0 F ρ0 w0 σ' (a.put o.dst v) w' → next (a.put o.dst v) w') → o.wp P a w next Q

theorem opR_sound (hc : CallOK P call) {s : Nat} {o : Oper} {σ : St} {r : Res} (h : opR P hn call s o σ = some r) (hok : r.ok = true) : Goes P o σ ⟨put σ.env o.dst r.val, writeM σ.mem r.wr⟩ := by
  intro pin K0 F ρ0 w0 a w hs next Q hnext
  obtain ⟨K, ρ, st, iv, ev', ln, df⟩ := hs
  unfold opR at h
  split at h
  · split at h
    · simp at h
    · rename_i f as hcal
      obtain ⟨hsome, h2⟩ := callP_sound hc h hok
      obtain ⟨vals, hv, hrun⟩ := callee_run hsome hcal ev'
      unfold Oper.wp
      rw [hrun, Oper.upon_enter]
      refine (h2 K F ρ w _ iv hv).mono ?_
      rintro e w' ⟨v, K', ρ', rfl, st', iv', vr'⟩
      exact hnext v w' (SR.put st st' iv' ev' ln df vr' o.dst)
  · obtain ⟨v, w', K', ρ', hres, st', iv', vr'⟩ := aop_sound iv ev' h hok
    unfold Oper.wp
    rcases hres with hres | ⟨hres, rfl⟩
    · rw [hres, Oper.upon_value]
      exact hnext v w' (SR.put st st' iv' ev' ln df vr' o.dst)
    · rw [hres, Oper.upon_skip]
      exact hnext undef w' (SR.put st st' iv' ev' ln df vr' o.dst)

/-- By one operation that is carried out on to whatever is done behind it. -/
def GoesK (P : Program) (ans : AV × List Slot) (o : Oper) (σ : St) (k : St → Tch → Ans) : Prop :=
  ∀ (pin : Nat) (K0 F : Nat → Prop) (ρ0 : Locs) (w0 : World) (a : Act) (w : World), SR pin K0 F ρ0 w0 σ a w →
    ∀ (next : Act → World → Prop) (Q : Exit → Act → World → Prop), (∀ v w' σ' t, k σ' t = some ans → SR pin K0 F ρ0 w0 σ' (a.put o.dst v) w' → next (a.put o.dst v) w') → o.wp P a w next Q

/-- One operation that is carried out. -/
theorem oper_sound (hc : CallOK P call) {dr : Bool} {s : Nat} {o : Oper} {σ : St} {k : St → Tch → Ans} (h : oper P hn call dr s o σ k = some ans) :
    GoesK P ans o σ k ∧ (dr = true → ∃ r, opR P hn call s o σ = some r ∧ r.ok = true ∧ k ⟨put σ.env o.dst r.val, writeM σ.mem r.wr⟩ ⟨r.wr.map (·.1), r.rd⟩ = some ans) := by
  unfold oper at h
  split at h
  · rename_i r hr
    cases hok : r.ok with
    | false => rw [hok] at h; simp at h
    | true =>
      rw [hok] at h
      simp only [cond_true] at h
      exact ⟨fun pin K0 F ρ0 w0 a w hs next Q hnext => opR_sound hc hr hok pin K0 F ρ0 w0 a w hs next Q fun v w' hs' => hnext v w' _ _ h hs', fun _ => ⟨r, hr, hok, h⟩⟩
  · split at h
    · simp at h
    · rename_i hdr
      split at h
      · simp at h
      · rename_i f as hcal
        refine ⟨fun pin K0 F ρ0 w0 a w hs next Q hnext => ?_, fun hd => absurd hd hdr⟩
        obtain ⟨K, ρ, st, iv, ev', ln, df⟩ := hs
        split at h
        · obtain ⟨hsome, h2⟩ := callK_sound hc h
          obtain ⟨vals, hv, hrun⟩ := callee_run hsome hcal ev'
          unfold Oper.wp
          rw [hrun, Oper.upon_enter]
          refine (h2 K F ρ w _ iv hv).mono ?_
          rintro e w' ⟨v, K', ρ', r, hk, rfl, st', iv', vr'⟩
          exact hnext v w' _ _ hk (SR.put st st' iv' ev' ln df vr' o.dst)
        · rename_i cr hcr
          cases hcok : cr.1 with
          | false => rw [hcok] at h; simp at h
          | true =>
          rw [hcok] at h
          simp only [cond_true] at h
          obtain ⟨hsome, h2⟩ := callI_sound hc hcr hcok
          obtain ⟨vals, hv, hrun⟩ := callee_run hsome hcal ev'
          unfold Oper.wp
          rw [hrun, Oper.upon_enter]
          refine (h2 K F ρ w _ iv hv).mono ?_
          rintro e w' ⟨v, K', ρ', rfl, st', iv', vr'⟩
          exact hnext v w' _ _ h (SR.put st st' iv' ev' ln df vr' o.dst)

theorem SR.skip {pin : Nat} {K0 F : Nat → Prop} {ρ0 : Locs} {w0 : World} {σ : St} {a : Act} {w : World} (h : SR pin K0 F ρ0 w0 σ a w) (dst : Option Tmp) :
    SR pin K0 F ρ0 w0 ⟨Go.Ab.put σ.env dst undefA, σ.mem⟩ (a.put dst undef) w := by
  obtain ⟨K, ρ, st, iv, ev', ln, df⟩ := h
  exact SR.put st (Step.refl _ _ _ _) iv ev' ln df (.tup [] [] .nil) dst

/-- A test's outcome, laid into the state. -/
theorem SR.setb {pin : Nat} {K0 F : Nat → Prop} {ρ0 : Locs} {w0 : World} {σ : St} {a : Act} {w : World} (h : SR pin K0 F ρ0 w0 σ a w) {d : Nat} {b : Bool} (hb : σ.env.getD d .junk = .bool b) {c : Bool} (hc : b = c) :
    SR pin K0 F ρ0 w0 ⟨σ.env.set d (.bool c), σ.mem⟩ a w := by
  subst hc
  obtain ⟨K, ρ, st, iv, ev', ln, df⟩ := h
  refine ⟨K, ρ, st, iv, fun i => ?_, by simpa using ln, df⟩
  by_cases hid : i = d
  · subst hid
    have := ev' i
    rw [hb] at this
    by_cases hlt : i < σ.env.length
    · simpa [List.getD, hlt] using this
    · simp only [List.getD]
      rw [List.getElem?_eq_none (by simp; omega)]
      exact .junk _
  · have h1 : (σ.env.set d (.bool b)).getD i .junk = σ.env.getD i .junk := by simp [List.getD, List.getElem?_set_ne (Ne.symm hid)]
    simp only [h1]
    exact ev' i

/-- One step of a region: an operation is carried out, or passed over. -/
def OneR (P : Program) (ops : Array Oper) (o : Oper) (σ σ' : St) : Prop :=
  ∀ (pin : Nat) (K0 F : Nat → Prop) (ρ0 : Locs) (w0 : World) (a : Act) (w : World), SR pin K0 F ρ0 w0 σ a w →
    ∀ (next : Act → World → Prop) (Q : Exit → Act → World → Prop), (∀ v w', SR pin K0 F ρ0 w0 σ' (a.put o.dst v) w' → next (a.put o.dst v) w') →
      if Region.wanted o (yielded ops a.tmps) then o.wp P a w next Q else next (a.put o.dst undef) w

theorem yielded_of {K : Nat → Prop} {ρ : Locs} {w : World} {env : List AV} {a : Act} (he : EnvR K ρ w env a.tmps) (hl : env.length ≤ a.tmps.size) {ops : Array Oper} {g d : Nat} (hd : (ops[g]?).bind (·.dst) = some d) :
    (∀ b, env.getD d .junk = .bool b → yielded ops a.tmps g = some b) ∧ (env.getD d .junk = .tup [] → yielded ops a.tmps g = none) := by
  have h := he d
  unfold yielded
  rw [hd]
  simp only [Option.bind_some]
  constructor
  · intro b hb
    rw [hb] at h
    have hlt : d < env.length := by
      rcases Nat.lt_or_ge d env.length with h' | h'
      · exact h'
      · simp [List.getD, List.getElem?_eq_none h'] at hb
    generalize hx : a.tmps.getD d undef = x at h
    cases h
    have h2 : a.tmps[d]? = some (.bool b) := by
      rw [Array.getElem?_eq_getElem (by omega)]
      simp [Array.getD, show d < a.tmps.size by omega] at hx
      rw [hx]
    rw [h2]
  · intro hb
    rw [hb] at h
    have hlt : d < env.length := by
      rcases Nat.lt_or_ge d env.length with h' | h'
      · exact h'
      · simp [List.getD, List.getElem?_eq_none h'] at hb
    generalize hx : a.tmps.getD d undef = x at h
    cases h with
    | tup _ vs hv =>
      have h2 : a.tmps[d]? = some (.tuple vs.toArray) := by
        rw [Array.getElem?_eq_getElem (by omega)]
        simp [Array.getD, show d < a.tmps.size by omega] at hx
        rw [hx]
      rw [h2]

/-- As OneR, on to whatever is done behind it. -/
def OneK (P : Program) (ans : AV × List Slot) (ops : Array Oper) (o : Oper) (σ : St) (k : St → Tch → Ans) : Prop :=
  ∀ (pin : Nat) (K0 F : Nat → Prop) (ρ0 : Locs) (w0 : World) (a : Act) (w : World), SR pin K0 F ρ0 w0 σ a w →
    ∀ (next : Act → World → Prop) (Q : Exit → Act → World → Prop), (∀ v w' σ' t, k σ' t = some ans → SR pin K0 F ρ0 w0 σ' (a.put o.dst v) w' → next (a.put o.dst v) w') →
      if Region.wanted o (yielded ops a.tmps) then o.wp P a w next Q else next (a.put o.dst undef) w

/-- One step of runOps. -/
theorem runOps_step (hc : CallOK P call) {dr : Bool} {ops : Array Oper} {base : Nat} {o : Oper} {r : List Oper} {i : Nat} {σ : St} {T : List Tch} {k : St → List Tch → Ans}
    (h : runOps P hn call dr ops base (o :: r) i σ T k = some ans) : OneK P ans ops o σ (fun σ' t => runOps P hn call dr ops base r (i + 1) σ' (T ++ [t]) k) := by
  have run : ∀ σ1, oper P hn call dr (base + i) o σ1 (fun σ t => runOps P hn call dr ops base r (i + 1) σ (T ++ [t]) k) = some ans →
      (∀ pin K0 F ρ0 w0 a w, SR pin K0 F ρ0 w0 σ a w → SR pin K0 F ρ0 w0 σ1 a w ∧ Region.wanted o (yielded ops a.tmps) = true) →
      OneK P ans ops o σ (fun σ' t => runOps P hn call dr ops base r (i + 1) σ' (T ++ [t]) k) := fun σ1 h1 h2 => by
    have k2 := (oper_sound hc h1).1
    intro pin K0 F ρ0 w0 a w hs next Q hnext
    obtain ⟨q1, q2⟩ := h2 pin K0 F ρ0 w0 a w hs
    rw [if_pos q2]
    exact k2 pin K0 F ρ0 w0 a w q1 next Q hnext
  have skip : ∀ σ1, runOps P hn call dr ops base r (i + 1) ⟨put σ1.env o.dst undefA, σ1.mem⟩ (T ++ [⟨[], []⟩]) k = some ans →
      (∀ pin K0 F ρ0 w0 a w, SR pin K0 F ρ0 w0 σ a w → SR pin K0 F ρ0 w0 σ1 a w ∧ Region.wanted o (yielded ops a.tmps) = false) →
      OneK P ans ops o σ (fun σ' t => runOps P hn call dr ops base r (i + 1) σ' (T ++ [t]) k) := fun σ1 h1 h2 => by
    intro pin K0 F ρ0 w0 a w hs next Q hnext
    obtain ⟨q1, q2⟩ := h2 pin K0 F ρ0 w0 a w hs
    rw [if_neg (by simp [q2])]
    exact hnext undef w _ _ h1 (q1.skip o.dst)
  simp only [runOps] at h
  split at h
  · rename_i hg
    exact run σ h fun pin K0 F ρ0 w0 a w hs => ⟨hs, by simp [Region.wanted, hg]⟩
  · rename_i g want hg
    split at h
    · rename_i hd
      exact skip σ h fun pin K0 F ρ0 w0 a w hs => ⟨hs, by simp [Region.wanted, hg, yielded, hd]⟩
    · rename_i d hd
      split at h
      · rename_i b hb
        have hy : ∀ pin K0 F ρ0 w0 a w, SR pin K0 F ρ0 w0 σ a w → Region.wanted o (yielded ops a.tmps) = (b == want) := fun pin K0 F ρ0 w0 a w hs => by
          obtain ⟨K, ρ, _, _, e, l, _⟩ := hs
          have := (yielded_of e l hd).1 b hb
          simp [Region.wanted, hg, this]
        cases hbv : b with
        | true =>
          rw [hbv] at h
          simp only [cond_true] at h
          cases hw : want with
          | true =>
            rw [hw] at h
            simp only [if_true] at h
            exact run _ h fun pin K0 F ρ0 w0 a w hs => ⟨hs.setb hb hbv, by rw [hy _ _ _ _ _ _ _ hs, hbv, hw]; rfl⟩
          | false =>
            rw [hw] at h
            simp only [Bool.false_eq_true, if_false] at h
            exact skip _ h fun pin K0 F ρ0 w0 a w hs => ⟨hs.setb hb hbv, by rw [hy _ _ _ _ _ _ _ hs, hbv, hw]; rfl⟩
        | false =>
          rw [hbv] at h
          simp only [cond_false] at h
          cases hw : want with
          | true =>
            rw [hw] at h
            simp only [if_true] at h
            exact skip _ h fun pin K0 F ρ0 w0 a w hs => ⟨hs.setb hb hbv, by rw [hy _ _ _ _ _ _ _ hs, hbv, hw]; rfl⟩
          | false =>
            rw [hw] at h
            simp only [Bool.false_eq_true, if_false] at h
            exact run _ h fun pin K0 F ρ0 w0 a w hs => ⟨hs.setb hb hbv, by rw [hy _ _ _ _ _ _ _ hs, hbv, hw]; rfl⟩
      · rename_i hb
        refine skip σ h fun pin K0 F ρ0 w0 a w hs => ⟨hs, ?_⟩
        obtain ⟨K, ρ, _, _, e, l, _⟩ := hs
        have := (yielded_of e l hd).2 hb
        simp [Region.wanted, hg, this]
      · simp at h

theorem runOps_sound (hc : CallOK P call) {ops : Array Oper} {base : Nat} {pin : Nat} {K0 F : Nat → Prop} {ρ0 : Locs} {w0 : World} {Q : Exit → Act → World → Prop} {k : St → List Tch → Ans}
    (hQ : ∀ σ T a w, k σ T = some ans → SR pin K0 F ρ0 w0 σ a w → Q .normal a w) :
    ∀ (l : List Oper) (i : Nat) (σ : St) (T : List Tch) (a : Act) (w : World), (∀ j, l[j]? = ops[i + j]?) → runOps P hn call false ops base l i σ T k = some ans → SR pin K0 F ρ0 w0 σ a w →
      wpOps P ops Q (List.range' i l.length) a w
  | [], i, σ, T, a, w, hl, h, hs => by simp only [runOps] at h; exact hQ _ _ _ _ h hs
  | o :: r, i, σ, T, a, w, hl, h, hs => by
    have h2 := runOps_step hc h
    have ho : ops[i]? = some o := by simpa using (hl 0).symm
    simp only [List.length_cons, List.range'_succ, wpOps, ho]
    have := h2 pin K0 F ρ0 w0 a w hs (wpOps P ops Q (List.range' (i + 1) r.length)) Q fun v w' σ' t h1 hs' =>
      runOps_sound hc hQ r (i + 1) σ' _ _ w' (fun j => by have := hl (j + 1); simp only [List.getElem?_cons_succ] at this; rw [this]; congr 1; omega) h1 hs'
    split
    · rename_i hw; rw [if_pos hw] at this; exact .inl this
    · rename_i hw; rw [if_neg hw] at this; exact this
end
end Go.Ab
