/- The framework, part 21: code, and functions. -/
import Derived.Test.YthmebldaalplpaaFw20
import Derived.ScopeJumps
namespace Go.Ab
set_option linter.unusedVariables false

def exR : AExit → Exit → Prop
  | .normal, e => e = .normal
  | .exit i, e => e = .exit i
  | .goto l, e => e = .goto l
  | .ret, e => e = .ret

/-- Where the code comes to. -/
def Post (pin : Nat) (K0 F : Nat → Prop) (ρ0 : Locs) (w0 : World) (k : Cont) (ans : AV × List Slot) : Exit → Act → World → Prop :=
  fun e a w => ∃ x σ, exR x e ∧ k x σ = some ans ∧ SR pin K0 F ρ0 w0 σ a w

/-- A run of the interpreter's, as a run of the machine's. -/
def RunOK (P : Program) (ans : AV × List Slot) (f : Code → LC → St → Cont → Ans) : Prop :=
  ∀ (c : Code) (l : LC) (σ : St) (k : Cont), f c l σ k = some ans → ∀ (K0 F : Nat → Prop) (ρ0 : Locs) (w0 : World) (a : Act) (w : World), SR l.pin K0 F ρ0 w0 σ a w →
    c.wp P (Post l.pin K0 F ρ0 w0 k ans) a w

section
variable {P : Program} {hn : Hints} {call : Callf} {ans : AV × List Slot}

theorem SR.cond {pin : Nat} {K0 F : Nat → Prop} {ρ0 : Locs} {w0 : World} {σ : St} {a : Act} {w : World} (h : SR pin K0 F ρ0 w0 σ a w) {x : Operand} {b : Bool} (hb : ev σ.env x = .bool b) :
    a.eval x = .bool b ∧ SR pin K0 F ρ0 w0 ⟨setB σ.env x b, σ.mem⟩ a w := by
  obtain ⟨K, ρ, st, iv, e, l, d⟩ := id h
  have hv := ev_vr e x
  rw [hb] at hv
  refine ⟨by cases hx : a.eval x <;> rw [hx] at hv <;> cases hv; rfl, ?_⟩
  cases x with
  | tmp t => exact h.setb (d := t) (b := b) hb rfl
  | _ => exact h

theorem iter_arr {body : Code} {f : St → Cont → Ans} {pin keep : Nat} {K0 F : Nat → Prop} {ρ0 : Locs} {w0 : World} {k : Cont}
    (hf : ∀ (σ : St) (k : Cont), f σ k = some ans → ∀ a w, SR pin K0 F ρ0 w0 σ a w → body.wp P (Post pin K0 F ρ0 w0 k ans) a w) :
    ∀ (n : Nat) (σ : St) (a : Act) (w : World), iterK f pin keep n σ k = some ans → SR pin K0 F ρ0 w0 σ a w → ∀ (b : Frame) (kk : List Item) (cs : List Frame),
      ∃ e a' w', Post pin K0 F ρ0 w0 k ans e a' w' ∧ Arrives P (lone (b.at a (.code body :: .inLoop body :: kk)) cs w) b kk cs e a' w' := by
  intro n
  induction n with
  | zero => intro σ a w h; simp [iterK] at h
  | succ n ih =>
    intro σ a w h hs b kk cs
    simp only [iterK] at h
    obtain ⟨e, a1, w1, ⟨x, σ1, hx, hk, hs1⟩, harr⟩ := hf σ _ h a w hs b (.inLoop body :: kk) cs
    cases x with
    | normal =>
      simp only [exR] at hx
      subst hx
      obtain ⟨e2, a2, w2, hq2, harr2⟩ := ih _ a1 w1 hk (norm_sound keep hs1) b kk cs
      exact ⟨e2, a2, w2, hq2, .of_steps (Steps.trans harr (.one step_inLoop)) harr2⟩
    | exit id =>
      simp only [exR] at hx
      subst hx
      exact ⟨_, a1, w1, ⟨.exit id, σ1, rfl, hk, hs1⟩, .pass (x := .inLoop body) rfl (fun _ _ => .inl (by simp)) harr⟩
    | goto l =>
      simp only [exR] at hx
      subst hx
      exact ⟨_, a1, w1, ⟨.goto l, σ1, rfl, hk, hs1⟩, .pass (x := .inLoop body) rfl (fun _ _ => .inl (by simp)) harr⟩
    | ret =>
      simp only [exR] at hx
      subst hx
      exact ⟨_, a1, w1, ⟨.ret, σ1, rfl, hk, hs1⟩, .pass (x := .inLoop body) rfl (fun _ _ => .inl (by simp)) harr⟩

theorem jump_arr {body : Code} {again : Code → St → Cont → Ans} {pin : Nat} {gt : List (Nat × Nat)} {K0 F : Nat → Prop} {ρ0 : Locs} {w0 : World} {k : Cont}
    (hag : ∀ (c : Code) (σ : St) (k : Cont), again c σ k = some ans → ∀ a w, SR pin K0 F ρ0 w0 σ a w → c.wp P (Post pin K0 F ρ0 w0 k ans) a w) (b : Frame) (kk : List Item) (cs : List Frame) :
    ∀ (n : Nat) (x : AExit) (σ : St) (a : Act) (w : World) (e : Exit) (m : Machine), jumpK again body pin gt n k x σ = some ans → exR x e → SR pin K0 F ρ0 w0 σ a w →
      Arrives P m b (.inScope body :: kk) cs e a w → ∃ e' a' w', Post pin K0 F ρ0 w0 k ans e' a' w' ∧ Arrives P m b kk cs e' a' w' := by
  intro n
  induction n with
  | zero =>
    intro x σ a w e m h hx hs harr
    cases x with
    | normal =>
      simp only [exR] at hx
      subst hx
      exact ⟨.normal, a, w, ⟨.normal, σ, rfl, by simpa [jumpK] using h, hs⟩, Steps.trans harr (.one step_inScope)⟩
    | exit id =>
      simp only [exR] at hx
      subst hx
      exact ⟨.exit id, a, w, ⟨.exit id, σ, rfl, by simpa [jumpK] using h, hs⟩, fun k' hk => harr k' (by simp [exitTo, hk])⟩
    | goto l =>
      simp only [exR] at hx
      subst hx
      simp only [jumpK] at h
      split at h
      · simp [enterK] at h
      · rename_i hf
        exact ⟨.goto l, a, w, ⟨.goto l, σ, rfl, h, hs⟩, fun k' hk => harr k' (by simp [gotoIn, hf, hk])⟩
    | ret =>
      simp only [exR] at hx
      subst hx
      exact ⟨.ret, a, w, ⟨.ret, σ, rfl, by simpa [jumpK] using h, hs⟩, harr⟩
  | succ n ih =>
    intro x σ a w e m h hx hs harr
    cases x with
    | normal =>
      simp only [exR] at hx
      subst hx
      exact ⟨.normal, a, w, ⟨.normal, σ, rfl, by simpa [jumpK] using h, hs⟩, Steps.trans harr (.one step_inScope)⟩
    | exit id =>
      simp only [exR] at hx
      subst hx
      exact ⟨.exit id, a, w, ⟨.exit id, σ, rfl, by simpa [jumpK] using h, hs⟩, fun k' hk => harr k' (by simp [exitTo, hk])⟩
    | goto l =>
      simp only [exR] at hx
      subst hx
      simp only [jumpK] at h
      split at h
      · rename_i rest hf
        simp only [enterK, hf] at h
        have h : again rest (norm pin (look gt l) σ) (jumpK again body pin gt n k) = some ans := h
        have hg : gotoIn l (.inScope body :: kk) = some (.code rest :: .inScope body :: kk) := by simp [gotoIn, hf]
        obtain ⟨e1, a1, w1, ⟨x1, σ1, hx1, hk1, hs1⟩, harr1⟩ := hag rest _ _ h a w (norm_sound _ hs) b (.inScope body :: kk) cs
        obtain ⟨e2, a2, w2, hq2, harr2⟩ := ih x1 σ1 a1 w1 e1 _ hk1 hx1 hs1 harr1
        exact ⟨e2, a2, w2, hq2, .of_steps (harr _ hg) harr2⟩
      · rename_i hf
        exact ⟨.goto l, a, w, ⟨.goto l, σ, rfl, h, hs⟩, fun k' hk => harr k' (by simp [gotoIn, hf, hk])⟩
    | ret =>
      simp only [exR] at hx
      subst hx
      exact ⟨.ret, a, w, ⟨.ret, σ, rfl, by simpa [jumpK] using h, hs⟩, harr⟩

theorem forkK_sound {v : Option Tmp} {σ : St} {k : St → Ans} {pin : Nat} {K0 F : Nat → Prop} {ρ0 : Locs} {w0 : World} {a : Act} {w : World} (h : forkK v σ k = some ans) (hs : SR pin K0 F ρ0 w0 σ a w) :
    ∃ σ', k σ' = some ans ∧ SR pin K0 F ρ0 w0 σ' a w := by
  unfold forkK at h
  split at h
  · exact ⟨σ, h, hs⟩
  · rename_i v
    split at h
    · rename_i b hb
      cases b with
      | true => simp only [cond_true] at h; exact ⟨_, h, hs.setb hb rfl⟩
      | false => simp only [cond_false] at h; exact ⟨_, h, hs.setb hb rfl⟩
    · exact ⟨σ, h, hs⟩

theorem runC_sound (hc : CallOK P call) {again : Code → LC → St → Cont → Ans} (hag : RunOK P ans again) (n : Nat) : RunOK P ans (runC P hn again call n) := by
  intro c
  induction c with
  | skip => intro l σ k h K0 F ρ0 w0 a w hs; exact wp_skip ⟨.normal, σ, rfl, by simpa [runC] using h, hs⟩
  | region id ops dr =>
    intro l σ k h K0 F ρ0 w0 a w hs
    simp only [runC] at h
    exact regionA_sound hc h hs fun σ' a' w' h1 h2 => ⟨.normal, σ', rfl, h1, h2⟩
  | seq x y ihx ihy =>
    intro l σ k h K0 F ρ0 w0 a w hs
    simp only [runC] at h
    obtain ⟨σ1, h, hs⟩ := forkK_sound h hs
    refine wp_seq (wp_mono (ihx _ σ1 _ h K0 F ρ0 w0 a w hs) ?_)
    rintro e a' w' ⟨ae, σ', hx, hk, hs'⟩
    cases ae with
    | normal =>
      simp only [exR] at hx
      subst hx
      exact ihy l σ' k hk K0 F ρ0 w0 a' w' hs'
    | exit i => simp only [exR] at hx; subst hx; exact ⟨.exit i, σ', rfl, hk, hs'⟩
    | goto i => simp only [exR] at hx; subst hx; exact ⟨.goto i, σ', rfl, hk, hs'⟩
    | ret => simp only [exR] at hx; subst hx; exact ⟨.ret, σ', rfl, hk, hs'⟩
  | cond x t e iht ihe =>
    intro l σ k h K0 F ρ0 w0 a w hs
    simp only [runC] at h
    split at h
    · rename_i b hb
      obtain ⟨h1, h2⟩ := hs.cond hb
      refine wp_cond h1 ?_
      cases b with
      | true => simp only [cond_true] at h; exact iht l _ k h K0 F ρ0 w0 a w h2
      | false => simp only [cond_false] at h; exact ihe l _ k h K0 F ρ0 w0 a w h2
    · simp at h
  | block i b ih =>
    intro l σ k h K0 F ρ0 w0 a w hs
    simp only [runC] at h
    refine wp_block (wp_mono (ih _ σ _ h K0 F ρ0 w0 a w hs) ?_)
    rintro e a' w' ⟨ae, σ', hx, hk, hs'⟩
    cases ae with
    | normal => simp only [exR] at hx; subst hx; exact ⟨.normal, σ', rfl, hk, hs'⟩
    | exit j =>
      simp only [exR] at hx
      subst hx
      simp only [Exit.inBlock]
      simp only at hk
      split at hk
      · rename_i hj; rw [if_pos hj]; exact ⟨.normal, σ', rfl, hk, hs'⟩
      · rename_i hj; rw [if_neg hj]; exact ⟨.exit j, σ', rfl, hk, hs'⟩
    | goto j => simp only [exR] at hx; subst hx; exact ⟨.goto j, σ', rfl, hk, hs'⟩
    | ret => simp only [exR] at hx; subst hx; exact ⟨.ret, σ', rfl, hk, hs'⟩
  | loop b ih =>
    intro l σ k h K0 F ρ0 w0 a w hs
    simp only [runC] at h
    intro fr kk cs
    obtain ⟨e, a', w', hq, harr⟩ := iter_arr (fun σ k h a w hs => ih _ σ k h K0 F ρ0 w0 a w hs) n _ a w h (norm_sound _ hs) fr kk cs
    exact ⟨e, a', w', hq, .of_steps (.one step_loop) harr⟩
  | exit i =>
    intro l σ k h K0 F ρ0 w0 a w hs
    simp only [runC] at h
    exact wp_exit ⟨.exit i, _, rfl, h, norm0_sound _ hs⟩
  | goto j =>
    intro l σ k h K0 F ρ0 w0 a w hs
    simp only [runC] at h
    exact wp_goto ⟨.goto j, _, rfl, h, hs⟩
  | label j =>
    intro l σ k h K0 F ρ0 w0 a w hs
    simp only [runC] at h
    exact wp_label ⟨.normal, _, rfl, h, hs⟩
  | scope b ih =>
    intro l σ k h K0 F ρ0 w0 a w hs
    simp only [runC] at h
    intro fr kk cs
    obtain ⟨e, a1, w1, ⟨x, σ1, hx, hk, hs1⟩, harr⟩ := ih _ σ _ h K0 F ρ0 w0 a w hs fr (.inScope b :: kk) cs
    obtain ⟨e2, a2, w2, hq2, harr2⟩ := jump_arr (fun c σ k h a w hs => hag c _ σ k h K0 F ρ0 w0 a w hs) fr kk cs n x σ1 a1 w1 e _ hk hx hs1 harr
    exact ⟨e2, a2, w2, hq2, .of_steps (.one step_scope) harr2⟩
  | ret =>
    intro l σ k h K0 F ρ0 w0 a w hs
    simp only [runC] at h
    exact wp_ret ⟨.ret, _, rfl, h, mask_sound _ hs⟩
  | rangeFunc => intro l σ k h; simp [runC] at h
  | refuse => intro l σ k h; simp [runC] at h

theorem run_sound (hc : CallOK P call) (n : Nat) : ∀ d, RunOK P ans (run P hn call n d)
  | 0 => fun c l σ k h => by simp [run] at h
  | d + 1 => fun c l σ k h K0 F ρ0 w0 a w hs => runC_sound hc (run_sound hc n d) n c l σ k (by simpa [run] using h) K0 F ρ0 w0 a w hs

def resF (a : Act) (r : ResultVar) : Sem Value :=
  match r with
  | .tmp t => pure (a.tmps.getD t undef)
  | .cell c t => do loadVar t (← asAddr (a.tmps.getD c undef))

theorem results_run {K : Nat → Prop} {ρ : Locs} {w : World} {F : Nat → Prop} {σ : St} {a : Act} (hi : Inv K F ρ σ.mem w) (he : EnvR K ρ w σ.env a.tmps) :
    ∀ (rs : List ResultVar) (vs : List AV), allSome (rs.map (resOne P σ)) = some vs → ∃ us : List Value, VRL K ρ w vs us ∧ (rs.mapM (resF a)).run P w = .ok us w
  | [], vs, h => by simp [allSome] at h; subst h; exact ⟨[], .nil, rfl⟩
  | r :: rs, vs, h => by
    obtain ⟨y, zs, h1, h2, rfl⟩ := allSome_cons h
    obtain ⟨us, k1, k2⟩ := results_run hi he rs zs h2
    cases r with
    | tmp t =>
      simp only [resOne, Option.some.injEq] at h1
      subst h1
      refine ⟨_ :: us, .cons _ _ _ _ (he t) k1, ?_⟩
      have : (resF a (.tmp t)).run P w = .ok (a.tmps.getD t undef) w := rfl
      simp only [List.mapM_cons, Sem.run_bind, this, k2, Result.andThen_ok, Sem.run_pure]
    | cell c t =>
      simp only [resOne, Option.map_eq_some_iff] at h1
      obtain ⟨r, h3, rfl⟩ := h1
      obtain ⟨v, q1, q2, _⟩ := loadA_sound' (a := a) hi he h3
      refine ⟨v :: us, .cons _ _ _ _ q2 k1, ?_⟩
      have : (resF a (.cell c t)).run P w = .ok v w := by
        show (do loadVar t (← asAddr (a.tmps.getD c undef)) : Sem Value).run P w = .ok v w
        have e1 : a.eval (.tmp c) = a.tmps.getD c undef := rfl
        rw [e1] at q1
        unfold Instr.loadAt at q1
        cases hx : a.tmps.getD c undef <;> rw [hx] at q1 <;> try (simp [Instr.sureAddr] at q1; done)
        rename_i ad
        cases ad with
        | none => simp [Instr.sureAddr] at q1
        | some ad => simpa [Instr.sureAddr, asAddr] using q1
      simp only [List.mapM_cons, Sem.run_bind, this, k2, Result.andThen_ok, Sem.run_pure]

/-- A function's contract, and what is done with its answer, out of the interpreter's run. -/
theorem soundK_of_run (hc : CallOK P call) {n : Nat} {f : FuncId} {args : List AV} {m : List Slot} {kk : AV → List Slot → Ans} (h : runK P hn call n f args m kk = some ans) : SoundK P f args m kk ans := by
  intro K F ρ w vals hi hv
  unfold runK at h
  split at h
  · simp at h
  · rename_i fn hfn
    obtain ⟨fn', hf, hname, hbody, hfn'⟩ := fnOf_some (P := P) (f := f) (by rw [hfn]; rfl)
    rw [hfn] at hfn'
    obtain rfl := Option.some.inj hfn'
    split at h
    · simp at h
    · rename_i b hb
      refine calls_of_wp hf hb ?_
      have hlen := hv.length
      have hs : SR m.length K F ρ w ⟨args ++ List.replicate (fn.ntmps - args.length) undefA, m⟩ { tmps := vals.toArray ++ Array.replicate (fn.ntmps - vals.toArray.size) undef, defers := [] } w := by
        have hall := hv.append (VRL.replicate (K := K) (ρ := ρ) (w := w) (.tup [] [] .nil) (fn.ntmps - args.length))
        refine ⟨K, ρ, ⟨fun _ x => x, fun _ _ => rfl, fun _ _ => rfl, fun _ _ _ x => x, Nat.le_refl _, rfl, rfl, rfl⟩, hi, fun i => ?_, by simp [hlen], rfl⟩
        have e1 : (vals.toArray ++ Array.replicate (fn.ntmps - vals.toArray.size) undef).getD i undef = (vals ++ List.replicate (fn.ntmps - args.length) undef).getD i undef := by
          rw [Array.getD_eq_getD_getElem?, List.getD]
          congr 1
          rw [← Array.getElem?_toList]
          simp [hlen]
        show VR K ρ w ((args ++ List.replicate (fn.ntmps - args.length) undefA).getD i .junk) _
        rw [e1]
        by_cases hlt : i < (vals ++ List.replicate (fn.ntmps - args.length) undef).length
        · exact hall.get i hlt
        · have : (args ++ List.replicate (fn.ntmps - args.length) undefA).getD i .junk = .junk := by
            have hl : (args ++ List.replicate (fn.ntmps - args.length) undefA).length = (vals ++ List.replicate (fn.ntmps - args.length) undef).length := hall.length
            rw [List.getD, List.getElem?_eq_none (by omega)]
            rfl
          rw [this]
          exact .junk _
      refine wp_mono (run_sound hc n depthN b _ _ _ h K F ρ w _ w hs) ?_
      rintro e a' w' ⟨x, σ', hx, hk, K', ρ', st, iv, ev', ln, df⟩
      have fin : (match resultA P fn σ' with
          | none => none
          | some v =>
            let L := keepL m.length σ'.mem v.ids
            if nodupB L then kk (v.ren (fun c => L.idxOf? c)) (subM σ'.mem L) else none) = some ans →
          a'.defers = [] ∧ ∃ v, (results fn a'.tmps).run P w' = .ok v w' ∧ (∃ (v' : Value) (K' : Nat → Prop) (ρ' : Locs) (r : AV × List Slot), kk r.1 r.2 = some ans ∧ Ending.returned v = .returned v' ∧ Step K F ρ w K' ρ' w' ∧ Inv K' F ρ' r.2 w' ∧ VR K' ρ' w' r.1 v') := fun hk => by
        refine ⟨df, ?_⟩
        split at hk
        · simp at hk
        · rename_i v hv'
          simp only at hk
          split at hk
          · rename_i hnd
            simp only [resultA, Option.map_eq_some_iff] at hv'
            obtain ⟨vs, h1, h2⟩ := hv'
            obtain ⟨us, q1, q2⟩ := results_run iv ev' fn.results.toList vs h1
            have hrun : (results fn a'.tmps).run P w' = .ok (if h : us.toArray.size = 1 then us.toArray[0] else .tuple us.toArray) w' := by
              show (do let vs ← fn.results.mapM (resF a'); pure (if h : vs.size = 1 then vs[0] else .tuple vs) : Sem Value).run P w' = _
              simp only [Sem.run_bind, Array.mapM_eq_mapM_toList, Sem.run_map]
              rw [q2]
              rfl
            refine ⟨_, hrun, _, K', subρ ρ' (keepL m.length σ'.mem v.ids), ⟨_, _⟩, hk, rfl, ?_, (iv.sub hnd).weakF, ?_⟩
            · refine ⟨st.sub, st.keepK, st.keepF, fun b L hb => ?_, st.size, st.os, st.tape, st.output⟩
              have hlt := (hi.fr b L hb).1
              simp [subρ, keepL_pin hlt, st.loc b L hlt hb]
            · refine VR.ren sub_ok ?_
              rw [← h2]
              cases q1 with
              | nil => exact .tup [] [] .nil
              | cons x u xs us hx hxs =>
                cases hxs with
                | nil => exact hx
                | cons y u2 ys us2 hy hys =>
                  have := VR.tup (K := K') (ρ := ρ') (w := w') _ _ (.cons _ _ _ _ hx (.cons _ _ _ _ hy hys))
                  simpa using this
          · simp at hk
      cases x with
      | normal => simp only [exR] at hx; subst hx; exact fin hk
      | ret => simp only [exR] at hx; subst hx; exact fin hk
      | exit i => simp [finK] at hk
      | goto i => simp [finK] at hk

/-- **A function's contract, out of the interpreter's answer.** -/
theorem sound_of_run (hc : CallOK P call) {n : Nat} {f : FuncId} {args : List AV} {m : List Slot} (h : runF P hn call n f args m = some ans) : Sound P f args m ans := by
  intro K F ρ w vals hi hv
  refine (soundK_of_run hc h K F ρ w vals hi hv).mono ?_
  rintro e w' ⟨v, K', ρ', r, hk, rfl, st, iv, vr⟩
  simp only [retK, Option.some.injEq] at hk
  subst hk
  exact ⟨v, K', ρ', rfl, st, iv, vr⟩
end
end Go.Ab
