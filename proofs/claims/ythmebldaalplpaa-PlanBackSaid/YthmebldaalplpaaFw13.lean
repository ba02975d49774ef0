/- The framework, part 13: all operations together; a call's target. -/
import Derived.Test.YthmebldaalplpaaFw12
import Derived.ChangeKeysEq
namespace Go.Ab
set_option linter.unusedVariables false

section
variable {P : Program} {K F : Nat → Prop} {ρ : Locs} {m : List Slot} {w w' : World} {env : List AV} {a : Act} {r : Res}

theorem args_two {as : Array Operand} {x y : Operand} (h : as.toList = [x, y]) : as = #[x, y] := by
  apply Array.ext'; simpa using h
theorem args_one {α : Type} {as : Array α} {x : α} (h : as.toList = [x]) : as = #[x] := by
  apply Array.ext'; simpa using h

theorem builtinA_sound {s : Nat} {o : Oper} {c : Call} (hi : Inv K F ρ m w) (he : EnvR K ρ w env a.tmps) (ho : o.op = .call c) (h : builtinA P s m env o c = some r) (hok : r.ok = true) :
    Done P K F ρ m w r ((execOp a.eval o).run P w) := by
  have sc : scalarOp P env o = some r → Done P K F ρ m w r ((execOp a.eval o).run P w) := fun h => scalarOp_sound hi he (fun cs b => by rw [ho]; simp) h
  obtain ⟨callee, args, ts⟩ := c
  unfold builtinA at h
  simp only at h
  split at h
  · rename_i b hb
    split at h
    · unfold appendOp at h
      simp only at h
      split at h
      · rename_i x0 x1 hargs
        have hargs := args_two hargs
        subst hargs
        have := appendA_sound (P := P) (ty := o.type) hi he h hok
        simpa [execOp, ho, resolve, invoke, builtin] using this
      · simp at h
    · unfold lenOp at h
      simp only at h
      split at h
      · rename_i x t hargs hts
        have hargs := args_one hargs
        have hts := args_one hts
        subst hargs
        subst hts
        split at h
        · exact sc h
        · have := lenOpA_sound (P := P) (ty := o.type) hi he h
          simpa [execOp, ho, resolve, invoke, builtin] using this
      · simp at h
    all_goals first | exact sc h | simp at h
  · simp at h

theorem eqFs_run {eqc : TypeId → List AV → List AV → Option Bool} {d : Nat} {xs ys : List AV} {us vs : List Value} (hx : VRL K ρ w xs us) (hy : VRL K ρ w ys vs)
    (hq : ∀ t a b r (ua ub : List Value), eqc t a b = some r → VRL K ρ w a ua → VRL K ρ w b ub →
      (∀ u v, isAggP P t = some false → ua = [u] → ub = [v] → (Op.equalIn d t u v).run P w = .ok r w) ∧ (isAggP P t = some true → (Op.equalIn d t (.agg ua.toArray) (.agg ub.toArray)).run P w = .ok r w)) :
    ∀ (fs : List Field) (b : Bool), eqFs P eqc xs ys fs = some b → (Op.eqFields d us.toArray vs.toArray fs).run P w = .ok b w
  | [], b, h => by simp [eqFs] at h; subst h; rfl
  | f :: fs, b, h => by
    rw [eqFs] at h
    split at h
    · simp at h
    · rename_i hname
      split at h
      · rename_i g n hg hn
        split at h
        · rename_i hgn
          split at h
          · rename_i a b' ha hb
            split at h
            · rename_i r q hr hqq
              simp only [Option.some.injEq] at h
              subst h
              have ih := eqFs_run hx hy hq fs q hqq
              obtain ⟨a1, a2⟩ := cellsAt_vr hx ha
              obtain ⟨b1, b2⟩ := cellsAt_vr hy hb
              obtain ⟨q1, q2⟩ := hq _ _ _ _ _ _ hr a1 b1
              have step : ∀ u v, (part f.type us.toArray f.offset).run P w = .ok u w → (part f.type vs.toArray f.offset).run P w = .ok v w → (Op.equalIn d f.type u v).run P w = .ok r w →
                  (Op.eqFields d us.toArray vs.toArray (f :: fs)).run P w = .ok (r && q) w := fun u v h1 h2 h3 => by
                simp only [Op.eqFields, ne_eq, hname, not_false_eq_true, if_true, Sem.run_bind, h1, h2, h3, Result.andThen_ok]
                cases r
                · simp
                · simpa using ih
              cases g with
              | true =>
                refine step _ _ ?_ ?_ (q2 hg)
                · simp [part, run_isAgg' hg, run_sizeOf' hn, List.extract_eq_take_drop]
                · simp [part, run_isAgg' hg, run_sizeOf' hn, List.extract_eq_take_drop]
              | false =>
                simp only [Bool.false_or, beq_iff_eq] at hgn
                subst hgn
                rw [List.length_eq_one_iff] at a2 b2
                obtain ⟨u, hu1⟩ := a2
                obtain ⟨v, hv1⟩ := b2
                refine step u v ?_ ?_ (q1 u v hg hu1 hv1)
                · have hget : us[f.offset]? = some u := by
                    have := congrArg (fun l : List Value => l[0]?) hu1
                    simpa [List.getElem?_take, List.getElem?_drop] using this
                  simp [part, run_isAgg' hg, hget]
                · have hget : vs[f.offset]? = some v := by
                    have := congrArg (fun l : List Value => l[0]?) hv1
                    simpa [List.getElem?_take, List.getElem?_drop] using this
                  simp [part, run_isAgg' hg, hget]
            · simp at h
          · simp at h
        · simp at h
      · simp at h

theorem eqIs_run {eqc : TypeId → List AV → List AV → Option Bool} {d n : Nat} {e : TypeId} {g : Bool} {xs ys : List AV} {us vs : List Value} (hx : VRL K ρ w xs us) (hy : VRL K ρ w ys vs)
    (hg : isAggP P e = some g) (hn : sizeP P e = some n) (hgn : (g || n == 1) = true)
    (hq : ∀ a b r (ua ub : List Value), eqc e a b = some r → VRL K ρ w a ua → VRL K ρ w b ub →
      (∀ u v, isAggP P e = some false → ua = [u] → ub = [v] → (Op.equalIn d e u v).run P w = .ok r w) ∧ (isAggP P e = some true → (Op.equalIn d e (.agg ua.toArray) (.agg ub.toArray)).run P w = .ok r w)) :
    ∀ (is : List Nat) (b : Bool), eqIs eqc e n xs ys is = some b → (Op.eqItems d e n us.toArray vs.toArray is).run P w = .ok b w
  | [], b, h => by simp [eqIs] at h; subst h; rfl
  | i :: is, b, h => by
    rw [eqIs] at h
    split at h
    · rename_i a b' ha hb
      split at h
      · rename_i r q hr hqq
        simp only [Option.some.injEq] at h
        subst h
        have ih := eqIs_run hx hy hg hn hgn hq is q hqq
        obtain ⟨a1, a2⟩ := cellsAt_vr hx ha
        obtain ⟨b1, b2⟩ := cellsAt_vr hy hb
        obtain ⟨q1, q2⟩ := hq _ _ _ _ _ hr a1 b1
        have step : ∀ u v, (part e us.toArray (i * n)).run P w = .ok u w → (part e vs.toArray (i * n)).run P w = .ok v w → (Op.equalIn d e u v).run P w = .ok r w →
            (Op.eqItems d e n us.toArray vs.toArray (i :: is)).run P w = .ok (r && q) w := fun u v h1 h2 h3 => by
          simp only [Op.eqItems, Sem.run_bind, h1, h2, h3, Result.andThen_ok]
          cases r
          · simp
          · simpa using ih
        cases g with
        | true =>
          refine step _ _ ?_ ?_ (q2 hg)
          · simp [part, run_isAgg' hg, run_sizeOf' hn, List.extract_eq_take_drop]
          · simp [part, run_isAgg' hg, run_sizeOf' hn, List.extract_eq_take_drop]
        | false =>
          simp only [Bool.false_or, beq_iff_eq] at hgn
          subst hgn
          rw [List.length_eq_one_iff] at a2 b2
          obtain ⟨u, hu1⟩ := a2
          obtain ⟨v, hv1⟩ := b2
          refine step u v ?_ ?_ (q1 u v hg hu1 hv1)
          · have hget : us[i * 1]? = some u := by
              have := congrArg (fun l : List Value => l[0]?) hu1
              simpa [List.getElem?_take, List.getElem?_drop] using this
            rw [Nat.mul_one] at hget ⊢
            simp [part, run_isAgg' hg, hget]
          · have hget : vs[i * 1]? = some v := by
              have := congrArg (fun l : List Value => l[0]?) hv1
              simpa [List.getElem?_take, List.getElem?_drop] using this
            rw [Nat.mul_one] at hget ⊢
            simp [part, run_isAgg' hg, hget]
      · simp at h
    · simp at h

theorem isAgg_of {t : TypeId} {D : TypeDesc} (hu : P.underlying t = some D) (h1 : ∀ fs, D ≠ .struct fs) (h2 : ∀ n e, D ≠ .array n e) (h3 : isAggP P t = some true) : False := by
  simp only [isAggP, hu, Option.map_some, Option.some.injEq] at h3
  cases D <;> simp at h3 h1 h2

theorem eqCells_run (k : Nat) : ∀ (d : Nat) (t : TypeId) (xs ys : List AV) (b : Bool) (us vs : List Value), eqCells P d t xs ys = some b → VRL K ρ w xs us → VRL K ρ w ys vs →
    (∀ u v, isAggP P t = some false → us = [u] → vs = [v] → (Op.equalIn (d + k) t u v).run P w = .ok b w) ∧ (isAggP P t = some true → (Op.equalIn (d + k) t (.agg us.toArray) (.agg vs.toArray)).run P w = .ok b w)
  | 0, t, xs, ys, b, us, vs, h, hx, hy => by simp [eqCells] at h
  | d + 1, t, xs, ys, b, us, vs, h, hx, hy => by
    rw [show d + 1 + k = (d + k) + 1 by omega]
    unfold eqCells at h
    split at h
    · rename_i kk hu
      refine ⟨fun u v _ e1 e2 => ?_, fun h3 => (isAgg_of hu (by simp) (by simp) h3).elim⟩
      subst e1; subst e2
      split at h
      · cases hx with | cons _ _ _ _ hx _ => cases hy with | cons _ _ _ _ hy _ =>
          cases hx; cases hy
          split at h
          · rename_i hkk
            simp only [Option.some.injEq] at h
            subst h
            subst hkk
            exact run_equalIn_int w _ _ _ _ _ _ hu
          · simp at h
      · simp at h
    · rename_i hu
      refine ⟨fun u v _ e1 e2 => ?_, fun h3 => (isAgg_of hu (by simp) (by simp) h3).elim⟩
      subst e1; subst e2
      split at h
      · cases hx with | cons _ _ _ _ hx _ => cases hy with | cons _ _ _ _ hy _ =>
          cases hx; cases hy
          simp only [Option.some.injEq] at h
          subst h
          exact run_equalIn_bool' w _ _ _ _ hu
      · simp at h
    · rename_i hu
      refine ⟨fun u v _ e1 e2 => ?_, fun h3 => (isAgg_of hu (by simp) (by simp) h3).elim⟩
      subst e1; subst e2
      split at h
      · cases hx with | cons _ _ _ _ hx _ => cases hy with | cons _ _ _ _ hy _ =>
          cases hx; cases hy
          simp only [Option.some.injEq] at h
          subst h
          rw [run_equalIn_string w _ _ _ _ hu, beq_toListBytes]
      · simp at h
    · rename_i fs hu
      split at h
      · simp at h
      · rename_i hst
        refine ⟨fun u v h3 _ _ => by simp [isAggP, hu] at h3, fun _ => ?_⟩
        have hfs : P.fieldsOf t = fs := by simp [Program.fieldsOf, hu]
        rw [run_equalIn_struct w _ t _ _ (by rw [hfs]; exact hu) (by simpa using hst), hfs]
        exact eqFs_run hx hy (fun t a b r ua ub h1 h2 h3 => eqCells_run k d t a b r ua ub h1 h2 h3) _ _ h
    · rename_i n e hu
      split at h
      · rename_i g sz hg hn
        split at h
        · rename_i hgn
          refine ⟨fun u v h3 _ _ => by simp [isAggP, hu] at h3, fun _ => ?_⟩
          simp only [sizeP, Option.map_eq_some_iff] at hn
          obtain ⟨inf, hi, rfl⟩ := hn
          have hc : P.cellsOf e = inf.size := by simp [Program.cellsOf, hi]
          rw [run_equalIn_array w _ _ _ hu hi, hc]
          exact eqIs_run hx hy hg (by simp [sizeP, hi]) hgn (fun a b r ua ub h1 h2 h3 => eqCells_run k d e a b r ua ub h1 h2 h3) _ _ h
        · simp at h
      · simp at h
    · simp at h

theorem isPtr_vr {x : AV} {v : Value} (h : isPtr x = true) (hv : VR K ρ w x v) : ∃ a, v = .pointer (some a) := by
  cases x <;> simp [isPtr] at h <;> cases hv <;> exact ⟨_, rfl⟩
theorem isNilp_vr {x : AV} {v : Value} (h : isNilp x = true) (hv : VR K ρ w x v) : v = .pointer none := by
  cases x <;> simp [isNilp] at h <;> cases hv <;> rfl
theorem isPtrT_some {t : TypeId} (h : isPtrT P t = true) : ∃ e, P.underlying t = some (.pointer e) := by
  unfold isPtrT at h
  split at h
  · exact ⟨_, by assumption⟩
  · simp at h

theorem run_eqGuard_ptr (op : BinOp) (t : TypeId) (x y : Operand) (p q : Option Addr) : (eqGuard op t x y (.pointer p) (.pointer q)).run P w = .ok () w := by
  cases op <;> simp [eqGuard]

theorem run_eqGuard_flt (op : BinOp) (t : TypeId) (x y : Operand) (k k' : FloatKind) (p q : Nat) : (eqGuard op t x y (.float k p) (.float k' q)).run P w = .ok () w := by
  cases op <;> simp [eqGuard]
theorem run_eqGuard_cpx (op : BinOp) (t : TypeId) (x y : Operand) (k k' : FloatKind) (p q p' q' : Nat) : (eqGuard op t x y (.complex k p q) (.complex k' p' q')).run P w = .ok () w := by
  cases op <;> simp [eqGuard]

theorem fltA_sound {o : Oper} {op : BinOp} {t : TypeId} {x y : Operand} {yt : TypeId} (hi : Inv K F ρ m w) (he : EnvR K ρ w env a.tmps) (h : fltA op (ev env x) (ev env y) = some r) (hok : r.ok = true) (ho : o.op = .binOp op t x y yt) :
    Done P K F ρ m w r ((execOp a.eval o).run P w) := by
  have hx := ev_vr he x
  have hy := ev_vr he y
  unfold fltA at h
  split at h
  · rename_i k p k' q hu hv
    rw [hu] at hx
    rw [hv] at hy
    cases hax : a.eval x <;> rw [hax] at hx <;> cases hx
    cases hay : a.eval y <;> rw [hay] at hy <;> cases hy
    split at h
    · rename_i hkk
      subst hkk
      have hg : (eqGuard op t x y (.int k p) (.int k q)).run P w = .ok () w := by cases op <;> simp [eqGuard]
      unfold divA at h
      split at h
      · simp only [Option.some.injEq] at h
        subst h
        have hq : q ≠ 0 := by simpa using hok
        refine Done.plain hi (u := .int k (k.wrap (p.tdiv q))) (.int _ _) ?_
        simp [execOp, ho, hax, hay, hg, binOp, Op.intDiv, hq]
      · simp only [Option.some.injEq] at h
        subst h
        have hq : q ≠ 0 := by simpa using hok
        refine Done.plain hi (u := .int k (p.tmod q)) (.int _ _) ?_
        simp [execOp, ho, hax, hay, hg, binOp, Op.intDiv, hq]
      · simp at h
    · simp at h
  · rename_i u v hu hv
    rw [hu] at hx
    rw [hv] at hy
    cases hax : a.eval x <;> rw [hax] at hx <;> cases hx
    cases hay : a.eval y <;> rw [hay] at hy <;> cases hy
    split at h
    · rename_i hop
      simp only [Option.some.injEq] at h
      subst h
      obtain ⟨z, hz⟩ := Option.isSome_iff_exists.1 hok
      have := run_float_arith (P := P) w op t .f64 _ _ z hz
      refine Done.plain hi (u := .float .f64 z) (by rw [hz]; exact .flt _ _) ?_
      simp only [execOp, ho, hax, hay, Sem.run_bind, run_eqGuard_flt, Result.andThen_ok, this, Sem.run_pure]
    · simp at h
  · rename_i u v u' v' hu hv
    rw [hu] at hx
    rw [hv] at hy
    cases hax : a.eval x <;> rw [hax] at hx <;> cases hx
    cases hay : a.eval y <;> rw [hay] at hy <;> cases hy
    split at h
    · rename_i hop
      simp only [Option.some.injEq] at h
      subst h
      obtain ⟨⟨z1, z2⟩, hz⟩ := Option.isSome_iff_exists.1 hok
      have hop' : op = .add ∨ op = .sub := by cases op <;> simp [isSum] at hop ⊢
      have := run_complex_sum (P := P) w op hop' t .f64 _ _ _ _ z1 z2 hz
      refine Done.plain hi (u := .complex .f64 z1 z2) (by rw [hz]; exact .cpx _ _ _) ?_
      simp only [execOp, ho, hax, hay, Sem.run_bind, run_eqGuard_cpx, Result.andThen_ok, this, Sem.run_pure]
    · split at h
      · rename_i hop
        simp only [Option.some.injEq] at h
        subst h
        obtain ⟨⟨z1, z2⟩, hz⟩ := Option.isSome_iff_exists.1 hok
        have hop' : op = .mul := by cases op <;> simp [isMul] at hop ⊢
        subst hop'
        have := run_complex_mul (P := P) w t _ _ _ _ z1 z2 hz
        refine Done.plain hi (u := .complex .f64 z1 z2) (by rw [hz]; exact .cpx _ _ _) ?_
        simp only [execOp, ho, hax, hay, Sem.run_bind, run_eqGuard_cpx, Result.andThen_ok, this, Sem.run_pure]
      · simp at h
  · simp at h

theorem cvtA_sound {o : Oper} {src dst : TypeId} {x : Operand} (hi : Inv K F ρ m w) (he : EnvR K ρ w env a.tmps) (h : cvtA P env o src dst x = some r) (hok : r.ok = true) (ho : o.op = .convert src dst x) :
    Done P K F ρ m w r ((execOp a.eval o).run P w) := by
  have hx := ev_vr he x
  unfold cvtA at h
  split at h
  · rename_i b hb
    rw [hb] at hx
    cases hax : a.eval x <;> rw [hax] at hx <;> cases hx
    split at h
    · rename_i k hk
      split at h
      · rename_i hs
        simp only [Option.some.injEq] at h
        subst h
        obtain ⟨z, hz⟩ := Option.isSome_iff_exists.1 hok
        have hu : P.underlying dst = some (.int k) := by
          unfold intKindP at hk
          split at hk
          · rename_i k' hk'; simp at hk; subst hk; exact hk'
          · simp at hk
        have := run_convert_float_int (P := P) w src dst .f64 k _ z hs hu hz
        refine Done.plain hi (u := .int k z) (by rw [hz]; exact .int _ _) ?_
        simp only [execOp, ho, hax, Sem.run_bind, this, Result.andThen_ok, Sem.run_pure]
      · simp at h
    · exact scalarOp_sound hi he (fun cs b => by rw [ho]; simp) h
  · exact scalarOp_sound hi he (fun cs b => by rw [ho]; simp) h

theorem eqA_sound {o : Oper} {op : BinOp} {t : TypeId} {x y : Operand} {yt : TypeId} (hi : Inv K F ρ m w) (he : EnvR K ρ w env a.tmps) (h : eqA P env o op t x y = some r) (hok : r.ok = true) (ho : o.op = .binOp op t x y yt) :
    Done P K F ρ m w r ((execOp a.eval o).run P w) := by
  unfold eqA at h
  have hx := ev_vr he x
  have hy := ev_vr he y
  split at h
  · rename_i xs ys hxs hys
    rw [hxs] at hx
    rw [hys] at hy
    cases hax : a.eval x <;> rw [hax] at hx <;> cases hx
    cases hay : a.eval y <;> rw [hay] at hy <;> cases hy
    rename_i us hus vs hvs
    split at h
    · simp at h
    · rename_i hg
      have hg : P.eqGuardType P.depth t = false := by simpa using hg
      split at h
      · simp at h
      rename_i ht
      have ht : isAggP P t = some true := by simpa using ht
      split at h
      · rename_i b hb
        have he := (eqCells_run (10000 - eqD) _ _ _ _ _ _ _ hb hus hvs).2 ht
        have he : (Op.equalIn 10000 t (.agg us.toArray) (.agg vs.toArray)).run P w = .ok b w := he
        split at h
        · refine Done.of_pure h hi (.bool _) ?_
          simp only [execOp, ho, hax, hay, Sem.run_bind, run_eqGuard_agg w _ t x y _ _ hg, Result.andThen_ok, run_eql_struct, he, Sem.run_pure]
        · refine Done.of_pure h hi (.bool _) ?_
          simp only [execOp, ho, hax, hay, Sem.run_bind, run_eqGuard_agg w _ t x y _ _ hg, Result.andThen_ok, run_neq_struct, he, Sem.run_pure]
        · simp at h
      · simp at h
  · split at h
    · rename_i hf
      simp only [Option.some.injEq] at h
      subst h
      exact fltA_sound hi he hf hok ho
    split at h
    · rename_i hp
      simp only [Bool.and_eq_true, Bool.or_eq_true] at hp
      obtain ⟨hp, ht⟩ := hp
      obtain ⟨el, hu⟩ := isPtrT_some ht
      have both : (∃ ad, a.eval x = .pointer (some ad) ∧ a.eval y = .pointer none) ∨ (∃ ad, a.eval x = .pointer none ∧ a.eval y = .pointer (some ad)) := by
        rcases hp with ⟨h1, h2⟩ | ⟨h1, h2⟩
        · obtain ⟨ad, e1⟩ := isPtr_vr h1 hx
          exact .inl ⟨ad, e1, isNilp_vr h2 hy⟩
        · obtain ⟨ad, e1⟩ := isPtr_vr h2 hy
          exact .inr ⟨ad, isNilp_vr h1 hx, e1⟩
      have heq' : ∀ d, (Op.equalIn (d + 1) t (a.eval x) (a.eval y)).run P w = .ok false w := fun d => by
        rcases both with ⟨ad, e1, e2⟩ | ⟨ad, e1, e2⟩ <;> rw [e1, e2] <;> simp [Op.equalIn, run_underlying hu]
      have heq : (Op.equalIn 10000 t (a.eval x) (a.eval y)).run P w = .ok false w := heq' 9999
      have hgd : ∀ op, (eqGuard op t x y (a.eval x) (a.eval y)).run P w = .ok () w := fun op => by
        rcases both with ⟨ad, e1, e2⟩ | ⟨ad, e1, e2⟩ <;> rw [e1, e2] <;> exact run_eqGuard_ptr _ _ _ _ _ _
      split at h
      · refine Done.of_pure h hi (.bool _) ?_
        have : (binOp .eql t (a.eval x) (a.eval y)).run P w = .ok (.bool false) w := by
          rcases both with ⟨ad, e1, e2⟩ | ⟨ad, e1, e2⟩ <;> rw [e1, e2] at heq ⊢ <;> simp [binOp, Op.equal, Op.maxDepth, heq]
        simp only [execOp, ho, Sem.run_bind, hgd, Result.andThen_ok, this, Sem.run_pure]
      · refine Done.of_pure h hi (.bool _) ?_
        have : (binOp .neq t (a.eval x) (a.eval y)).run P w = .ok (.bool true) w := by
          rcases both with ⟨ad, e1, e2⟩ | ⟨ad, e1, e2⟩ <;> rw [e1, e2] at heq ⊢ <;> simp [binOp, Op.equal, Op.maxDepth, heq]
        simp only [execOp, ho, Sem.run_bind, hgd, Result.andThen_ok, this, Sem.run_pure]
      · simp at h
    · exact scalarOp_sound hi he (fun cs b => by rw [ho]; simp) h

theorem indexA_sound {o : Oper} {t : TypeId} {x i : Operand} (hi : Inv K F ρ m w) (he : EnvR K ρ w env a.tmps) (h : indexA P env o t x i = some r) (hok : r.ok = true) (ho : o.op = .index t x i) :
    Done P K F ρ m w r ((execOp a.eval o).run P w) := by
  unfold indexA at h
  have hx := ev_vr he x
  have hy := ev_vr he i
  split at h
  · rename_i cs hb
    rw [hb] at hx
    cases hax : a.eval x <;> rw [hax] at hx <;> cases hx
    rename_i vs hvs
    split at h
    · rename_i ik n hn
      rw [hn] at hy
      cases hay : a.eval i <;> rw [hay] at hy <;> cases hy
      split at h
      · rename_i k e hk
        have hu : P.underlying t = some (.array k e) := by
          unfold arrP at hk
          split at hk
          · rename_i k' e' hk'; simp only [Option.some.injEq, Prod.mk.injEq] at hk; obtain ⟨rfl, rfl⟩ := hk; exact hk'
          · simp at hk
        split at h
        · rename_i g sz hg hs
          split at h
          · rename_i hgn
            simp only [Option.map_eq_some_iff, Option.bind_eq_some_iff] at h
            obtain ⟨v, ⟨ds, h1, h2⟩, rfl⟩ := h
            simp only [Bool.and_eq_true, decide_eq_true_eq] at hok
            obtain ⟨k1, k2⟩ := cellsAt_vr hvs h1
            cases g with
            | true =>
              simp only [valOf, if_true, Option.some.injEq] at h2
              subst h2
              refine Done.plain hi (.agg _ _ k1) ?_
              simp [execOp, ho, hax, hay, Instr.index, asIntOf, run_underlying hu, hok.1, hok.2, part, run_isAgg' hg, run_sizeOf' hs, List.extract_eq_take_drop]
            | false =>
              simp only [Bool.false_or, beq_iff_eq] at hgn
              subst hgn
              rw [List.length_eq_one_iff] at k2
              obtain ⟨u, hu1⟩ := k2
              rw [hu1] at k1
              cases k1 with
              | cons q _ qs _ hq tq =>
                cases tq
                simp only [valOf, Bool.false_eq_true, if_false, Option.some.injEq] at h2
                subst h2
                have hget : vs[n.toNat]? = some u := by
                  have := congrArg (fun l : List Value => l[0]?) hu1
                  simpa [List.getElem?_take, List.getElem?_drop] using this
                refine Done.plain hi hq ?_
                simp [execOp, ho, hax, hay, Instr.index, asIntOf, run_underlying hu, hok.1, hok.2, part, run_isAgg' hg, run_sizeOf' hs, hget]
          · simp at h
        · simp at h
      · simp at h
    · simp at h
  · exact scalarOp_sound hi he (fun cs b => by rw [ho]; simp) h

theorem aop_sound {s : Nat} {o : Oper} (hi : Inv K F ρ m w) (he : EnvR K ρ w env a.tmps) (h : aop P s m env o = some r) (hok : r.ok = true) :
    Done P K F ρ m w r ((execOp a.eval o).run P w) := by
  have sc : (∀ cs b, o.op ≠ .select cs b) → scalarOp P env o = some r → Done P K F ρ m w r ((execOp a.eval o).run P w) := fun hs h => scalarOp_sound hi he hs h
  unfold aop at h
  split at h
  · rename_i x ho; simp only [execOp, ho]; exact moveA_sound hi he h
  · rename_i x ho; simp only [execOp, ho]; exact moveA_sound hi he h
  · rename_i c x y ho; simp only [execOp, ho]; exact pickA_sound hi he h
  · rename_i t ho; simp only [execOp, ho]; exact allocA_sound hi h
  · rename_i t x ho; simp only [execOp, ho]; exact boxA_sound hi he h
  · rename_i t ps ho; simp only [execOp, ho]; exact buildA_sound hi he h
  · rename_i t n ps ho; simp only [execOp, ho]; exact buildSliceA_sound hi he h
  · rename_i t x ho; simp only [execOp, ho]; exact loadA_sound hi he h
  · rename_i t x v ho; simp only [execOp, ho]; exact storeA_sound hi he h
  · rename_i x ho; exact nilCheckA_sound hi he h ho
  · rename_i f as cs ho; simp only [execOp, ho]; exact makeFuncA_sound hi he h
  · rename_i t l c ho; simp only [execOp, ho]; exact makeSliceA_sound hi he h hok
  · rename_i t x lo hi' mx ho
    split at h
    · exact sc (fun cs b => by rw [ho]; simp) h
    · simp only [execOp, ho]; exact sliceA_sound hi he h hok
  · rename_i t x f ho; simp only [execOp, ho]; exact fieldAddrA_sound hi he h
  · rename_i t x f ho; simp only [execOp, ho]; exact fieldA_sound hi he h
  · rename_i t x i ho; simp only [execOp, ho]; exact indexAddrA_sound hi he h hok
  · rename_i x i ho; simp only [execOp, ho]; exact extractA_sound hi he h
  · rename_i c ho; exact builtinA_sound hi he ho h hok
  · rename_i op t x y yt ho; exact eqA_sound hi he h hok ho
  all_goals first
    | (rename_i t x i ho; exact indexA_sound hi he h hok ho)
    | (rename_i src dst x ho; exact cvtA_sound hi he h hok ho)
    | (rename_i ho; exact sc (fun cs b => by rw [ho]; simp) h)
    | (rename_i _ ho; exact sc (fun cs b => by rw [ho]; simp) h)
    | (rename_i _ _ ho; exact sc (fun cs b => by rw [ho]; simp) h)
    | (rename_i _ _ _ ho; exact sc (fun cs b => by rw [ho]; simp) h)
    | (rename_i _ _ _ _ ho; exact sc (fun cs b => by rw [ho]; simp) h)
    | (rename_i _ _ _ _ _ ho; exact sc (fun cs b => by rw [ho]; simp) h)
    | simp at h
end
end Go.Ab
