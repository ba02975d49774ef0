/- The framework, part 19: an operation sees only the slots that it reads, and its own operands. -/
import Derived.Test.YtmclfehlflekhaaFC
import Derived.ScopeJumps
namespace Go.Ab
set_option linter.unusedVariables false

section
variable {P : Program} {hn : Hints} {call : Callf} {m m' : List Slot} {env env' : List AV} {r : Res}

theorem allocA_same {s : Nat} {t : TypeId} (h : allocA P s m t = some r) (hs : ∀ b ∈ r.rd, m'[b]? = m[b]?) : allocA P s m' t = some r := by
  unfold allocA at h ⊢
  split at h
  · exact newA_same h hs
  · simp at h

theorem boxA_same {s : Nat} {t : TypeId} {x : Operand} (h : boxA P s m env t x = some r) (hs : ∀ b ∈ r.rd, m'[b]? = m[b]?) : boxA P s m' env t x = some r := by
  unfold boxA at h ⊢
  split at h
  · exact newA_same h hs
  · simp at h

theorem buildSliceA_same {s : Nat} {t : TypeId} {n : Nat} {ps : Array (Nat × Operand)} (h : buildSliceA P s m env t n ps = some r) (hs : ∀ b ∈ r.rd, m'[b]? = m[b]?) : buildSliceA P s m' env t n ps = some r := by
  unfold buildSliceA at h ⊢
  split at h
  · simp at h
  · split at h
    · split at h
      · rename_i hc
        rw [if_pos hc]
        split at h
        · simp at h
        · split at h
          · split at h
            · rename_i hy
              rw [if_pos hy]
              split at h
              · rename_i fs w hf
                simp only [Option.bind_eq_some_iff] at h
                obtain ⟨l, h1, h2⟩ := h
                have hrd := (newA_free h2).2
                rw [frzL_same hf fun b hb => hs b (by rw [hrd]; simp only [List.mem_cons]; exact .inr hb)]
                simp only [h1, Option.bind_some]
                exact newA_same h2 hs
              · simp at h
            · simp at h
          · exact newA_same h hs
      · simp at h
    · simp at h

theorem makeSliceA_same {s : Nat} {t : TypeId} {l c : Operand} (h : makeSliceA P s m env t l c = some r) (hs : ∀ b ∈ r.rd, m'[b]? = m[b]?) : makeSliceA P s m' env t l c = some r := by
  unfold makeSliceA at h ⊢
  split at h
  · simp at h
  · split at h
    · split at h
      · split at h
        · rename_i hc
          rw [if_pos hc]
          exact newA_same h hs
        · simp at h
      · simp at h
    · simp at h

theorem loadA_same {t : TypeId} {x : Operand} (h : loadA P m env t x = some r) (hs : ∀ b ∈ r.rd, m'[b]? = m[b]?) : loadA P m' env t x = some r := by
  unfold loadA at h ⊢
  split at h
  · split at h
    · rename_i hg
      rw [if_pos hg]
      split at h
      · rename_i b j hb
        have hm : getObj? m' b = getObj? m b := getObj?_same (hs b (by
          split at h
          · simp only [Option.map_eq_some_iff] at h
            obtain ⟨v, _, rfl⟩ := h
            simp
          · simp at h))
        rw [hm]
        exact h
      · rename_i b i j hb
        have hm : rowOf m' b = rowOf m b := rowOf_same (hs b (by
          split at h
          · simp only [Option.map_eq_some_iff] at h
            obtain ⟨v, _, rfl⟩ := h
            simp
          · simp at h))
        rw [hm]
        exact h
      · exact h
      · simp at h
    · simp at h
  · simp at h

theorem storeA_same {t : TypeId} {x v : Operand} (h : storeA P m env t x v = some r) (hs : ∀ b ∈ r.rd, m'[b]? = m[b]?) : storeA P m' env t x v = some r := by
  unfold storeA at h ⊢
  split at h
  · split at h
    · rename_i hg
      rw [if_pos hg]
      split at h
      · rename_i b j hb
        have hm : getObj? m' b = getObj? m b := getObj?_same (hs b (by
          split at h
          · split at h
            · simp at h; subst h; simp
            · simp at h
          · simp at h))
        rw [hm]
        exact h
      · rename_i b i j hb
        split at h
        · rename_i y l hm
          split at h
          · rename_i fs w hf
            split at h
            · simp at h
            · rename_i hnb
              split at h
              · rename_i hj
                simp only [Option.map_eq_some_iff] at h
                obtain ⟨d, hd, rfl⟩ := h
                have hm' : getObj? m' b = getObj? m b := getObj?_same (hs b (by simp))
                rw [hm', hm]
                simp only
                rw [frzL_same hf fun c hc => hs c (by simp only [List.mem_cons]; exact .inr hc)]
                simp only
                rw [if_neg hnb, if_pos hj, hd]
                rfl
              · simp at h
          · simp at h
        · simp at h
      · simp at h
    · simp at h
  · simp at h

theorem sliceA_same {t : TypeId} {x : Operand} {lo hi mx : Option Operand} (h : sliceA P m env t x lo hi mx = some r) (hs : ∀ b ∈ r.rd, m'[b]? = m[b]?) : sliceA P m' env t x lo hi mx = some r := by
  unfold sliceA at h ⊢
  split at h
  · simp at h
  · split at h
    · exact h
    · exact h
    · rename_i b i hb
      have hm : rowOf m' b = rowOf m b := rowOf_same (hs b (by
        split at h
        · split at h
          · split at h
            · simp only [Option.map_eq_some_iff] at h
              obtain ⟨v, _, rfl⟩ := h
              simp
            · split at h
              · simp at h; subst h; simp
              · simp at h
          · simp at h
        · simp at h))
      rw [hm]
      exact h
    · simp at h

theorem indexAddrA_same {t : TypeId} {x i : Operand} (h : indexAddrA P m env t x i = some r) (hs : ∀ b ∈ r.rd, m'[b]? = m[b]?) : indexAddrA P m' env t x i = some r := by
  unfold indexAddrA at h ⊢
  split at h
  · split at h
    · split at h
      · split at h
        · exact h
        · rename_i b k hb
          have hm : rowOf m' b = rowOf m b := rowOf_same (hs b (by
            split at h
            · split at h
              · simp at h; subst h; simp
              · simp at h
            · simp at h))
          rw [hm]
          exact h
        · exact h
        · simp at h
      · simp at h
    · exact h
  · simp at h

theorem lenOpA_same {t : TypeId} {x : Operand} (h : lenOpA P m env t x = some r) (hs : ∀ b ∈ r.rd, m'[b]? = m[b]?) : lenOpA P m' env t x = some r := by
  unfold lenOpA at h ⊢
  split at h
  · split at h
    · simp at h
    · simp only [Option.map_eq_some_iff] at h ⊢
      obtain ⟨q, h1, h2⟩ := h
      refine ⟨q, ?_, h2⟩
      unfold lenA at h1 ⊢
      split at h1 <;> try exact h1
      rename_i b i hb
      simp only [Option.map_eq_some_iff] at h1
      obtain ⟨q', h3, h4⟩ := h1
      rw [rowOf_same (hs b (by rw [← h2, ← h4]; split <;> simp)), h3]
      simp [h4]
  · simp at h

theorem elemsOf_same {t : Ty} {v : AV} {xs : List t.den} {rd : List Nat} (h : elemsOf m t v = some (xs, rd)) (hs : ∀ b ∈ rd, m'[b]? = m[b]?) : elemsOf m' t v = some (xs, rd) := by
  unfold elemsOf at h ⊢
  split at h <;> try exact h
  rename_i b i
  have hm : rowOf m' b = rowOf m b := rowOf_same (hs b (by
    split at h
    · split at h
      · simp at h; rw [← h.2]; simp
      · simp at h
    · simp at h))
  rw [hm]
  exact h

theorem appendA_same {s : Nat} {ts : Array TypeId} {a x : Operand} (h : appendA P s m env ts a x = some r) (hs : ∀ b ∈ r.rd, m'[b]? = m[b]?) : appendA P s m' env ts a x = some r := by
  unfold appendA at h ⊢
  split at h
  · simp at h
  · split at h
    · split at h
      · rename_i hc
        rw [if_pos hc]
        split at h
        · simp at h
        · rename_i xs rd hxs
          have hrd : ∀ b ∈ rd, b ∈ r.rd := fun b hb => by
            split at h
            · rw [(newA_free h).2]; simp [hb]
            · rw [(newA_free h).2]; simp [hb]
            · split at h
              · split at h
                · split at h
                  · rw [(newA_free h).2]; simp [hb]
                  · rw [(newA_free h).2]; simp [hb]
                · simp at h
              · simp at h
            · simp at h
          rw [elemsOf_same hxs fun b hb => hs b (hrd b hb)]
          simp only
          split at h
          · exact newA_same h hs
          · exact newA_same h hs
          · rename_i b i hb
            split at h
            · rename_i z l hm
              have hbr : b ∈ r.rd := by
                split at h
                · split at h
                  · rw [(newA_free h).2]; simp
                  · rw [(newA_free h).2]; simp
                · simp at h
              rw [getObj?_same (hs b hbr), hm]
              simp only
              split at h
              · rename_i hz
                rw [dif_pos hz]
                split at h
                · rename_i h0; rw [if_pos h0]; exact newA_same h hs
                · rename_i h0; rw [if_neg h0]; exact newA_same h hs
              · simp at h
            · simp at h
          · simp at h
      · simp at h
    · simp at h

theorem builtinA_same {s : Nat} {o : Oper} {c : Call} (h : builtinA P s m env o c = some r) (hs : ∀ b ∈ r.rd, m'[b]? = m[b]?) : builtinA P s m' env o c = some r := by
  unfold builtinA at h ⊢
  split at h
  · split at h
    · unfold appendOp at h ⊢
      split at h
      · exact appendA_same h hs
      · simp at h
    · unfold lenOp at h ⊢
      split at h
      · split at h
        · exact h
        · exact lenOpA_same h hs
      · simp at h
    all_goals exact h
  · simp at h

theorem aop_same {s : Nat} {o : Oper} (h : aop P s m env o = some r) (hs : ∀ b ∈ r.rd, m'[b]? = m[b]?) : aop P s m' env o = some r := by
  unfold aop at h ⊢
  split at h <;> try exact h
  · exact allocA_same h hs
  · exact boxA_same h hs
  · exact buildSliceA_same h hs
  · exact loadA_same h hs
  · exact storeA_same h hs
  · exact makeSliceA_same h hs
  · split at h
    · exact h
    · exact sliceA_same h hs
  · exact indexAddrA_same h hs
  · exact builtinA_same h hs

/-! ### operands -/
theorem evParts_env {ps : Array (Nat × Operand)} (h : ∀ x ∈ (ps.toList.map (·.2)), ev env' x = ev env x) : evParts env' ps = evParts env ps := by
  unfold evParts
  apply List.map_congr_left
  intro p hp
  rw [h p.2 (List.mem_map.2 ⟨p, hp, rfl⟩)]

theorem scalarOp_env {o : Oper} (hsel : ∀ cs b, o.op ≠ .select cs b) (h : ∀ x ∈ o.op.operands, ev env' x = ev env x) : scalarOp P env' o = scalarOp P env o := by
  unfold scalarOp
  have h1 : (o.op.operands.all fun x => (toVC (ev env' x)).isSome) = (o.op.operands.all fun x => (toVC (ev env x)).isSome) := by
    rw [Bool.eq_iff_iff, Array.all_eq_true_iff_forall_mem, Array.all_eq_true_iff_forall_mem]
    constructor
    · intro h2 x hx; have := h2 x hx; rwa [h x hx] at this
    · intro h2 x hx; rw [h x hx]; exact h2 x hx
  have h2 : execOp (fun x => (toVC (ev env' x)).getD undef) o = execOp (fun x => (toVC (ev env x)).getD undef) o := execOp_congr o hsel fun x hx => by rw [h x hx]
  rw [h1, h2]

theorem boundA_env {d : Int} {x : Option Operand} (h : ∀ y, x = some y → ev env' y = ev env y) : boundA env' d x = boundA env d x := by
  unfold boundA
  cases x with
  | none => rfl
  | some y => simp only; rw [h y rfl]

theorem aop_env {s : Nat} {o : Oper} (h : ∀ x ∈ o.op.operands, ev env' x = ev env x) : aop P s m env' o = aop P s m env o := by
  have sc : (∀ cs b, o.op ≠ .select cs b) → scalarOp P env' o = scalarOp P env o := fun hs => scalarOp_env hs h
  unfold aop
  obtain ⟨dst, op, type, pos, after, guard⟩ := o
  cases op <;> simp only [Op.operands] at h <;> simp only
  case move x => unfold moveA; rw [h x (by simp)]
  case assign x => unfold moveA; rw [h x (by simp)]
  case pick c x y => unfold pickA; rw [h c (by simp), h x (by simp), h y (by simp)]
  case box t x => unfold boxA; rw [h x (by simp)]
  case build t ps => unfold buildA; rw [evParts_env fun x hx => h x (by simpa using hx)]
  case buildSlice t n ps => unfold buildSliceA; rw [evParts_env fun x hx => h x (by simpa using hx)]
  case load t x => unfold loadA; rw [h x (by simp)]
  case store t x v => unfold storeA; rw [h x (by simp), h v (by simp)]
  case nilCheck x => unfold nilCheckA; rw [h x (by simp)]
  case makeFunc f as cs =>
    unfold makeFuncA
    rw [List.map_congr_left (l := as.toList) (f := ev env') (g := ev env) fun x hx => h x (by simp at hx ⊢; exact .inl hx), List.map_congr_left (l := cs.toList) (f := ev env') (g := ev env) fun x hx => h x (by simp at hx ⊢; exact .inr hx)]
  case makeSlice t l c => unfold makeSliceA; rw [h l (by simp), h c (by simp)]
  case fieldAddr t x f => unfold fieldAddrA; rw [h x (by simp)]
  case field t x f => unfold fieldA; rw [h x (by simp)]
  case indexAddr t x i => unfold indexAddrA; rw [h x (by simp), h i (by simp)]
  case extract x i => unfold extractA; rw [h x (by simp)]
  case binOp op t x y yt =>
    have e := sc (by simp)
    unfold eqA; rw [h x (by simp), h y (by simp), e]
  case unOp => exact sc (by simp)
  case convert src dst x =>
    have e := sc (by simp)
    unfold cvtA; rw [h x (by simp), e]
  case index t x i =>
    have e := sc (by simp)
    unfold indexA; rw [h x (by simp), h i (by simp), e]
  case slice t x lo hi mx =>
    have hx := h x (by simp)
    rw [hx]
    have e1 : scalarOp P env' ⟨dst, .slice t x lo hi mx, type, pos, after, guard⟩ = scalarOp P env ⟨dst, .slice t x lo hi mx, type, pos, after, guard⟩ := sc (by simp)
    have e2 : sliceA P m env' t x lo hi mx = sliceA P m env t x lo hi mx := by
      unfold sliceA
      rw [hx]
      have b1 : boundA env' 0 lo = boundA env 0 lo := boundA_env fun y hy => h y (by subst hy; simp)
      have b2 : boundA env' 0 hi = boundA env 0 hi := boundA_env fun y hy => h y (by subst hy; simp)
      have b3 : boundA env' 0 mx = boundA env 0 mx := boundA_env fun y hy => h y (by subst hy; simp)
      rw [b1, b2, b3]
      cases hi with
      | none => cases mx <;> rfl
      | some y =>
        have hy := h y (by simp)
        cases mx with
        | none => simp only; rw [hy]
        | some z => simp only; rw [hy, h z (by simp)]
    rw [e1, e2]
  case call c =>
    obtain ⟨callee, args, ts⟩ := c
    have ha : ∀ x ∈ args.toList, ev env' x = ev env x := fun x hx => h x (by
      simp only [Call.operands, Array.mem_append]
      exact .inr (by simpa using hx))
    have e1 := sc (by simp)
    unfold builtinA
    simp only
    split
    · split
      · unfold appendOp
        simp only
        split
        · rename_i x y hxy
          unfold appendA
          rw [ha x (by rw [hxy]; simp), ha y (by rw [hxy]; simp)]
        · rfl
      · unfold lenOp
        simp only
        split
        · rename_i x t hx _
          rw [ha x (by rw [hx]; simp), e1]
          have : lenOpA P m env' t x = lenOpA P m env t x := by unfold lenOpA; rw [ha x (by rw [hx]; simp)]
          rw [this]
        · rfl
      all_goals first | exact e1 | rfl
    · rfl

theorem calleeOf_env {o : Oper} (h : ∀ x ∈ o.op.operands, ev env' x = ev env x) : calleeOf env' o.op = calleeOf env o.op := by
  unfold calleeOf
  split
  · rename_i x as ts hop
    rw [hop] at h
    simp only [Op.operands, Call.operands] at h
    rw [h x (by simp)]
    have : as.toList.map (ev env') = as.toList.map (ev env) := List.map_congr_left fun y hy => h y (by simp at hy ⊢; exact .inr hy)
    rw [this]
  · rfl

theorem opR_same {s : Nat} {o : Oper} {σ σ' : St} (h : opR P hn call s o σ = some r) (he : ∀ x ∈ o.op.operands, ev σ'.env x = ev σ.env x) (hs : ∀ b ∈ r.rd, σ'.mem[b]? = σ.mem[b]?) : opR P hn call s o σ' = some r := by
  unfold opR at h ⊢
  split at h
  · rename_i hc
    rw [if_pos hc, calleeOf_env he]
    split at h
    · simp at h
    · exact callP_same h hs
  · rename_i hc
    rw [if_neg hc, aop_env he]
    exact aop_same h hs
end
end Go.Ab

/- The framework, part 20: whatever order a region draws, it comes to what the text's order comes to. -/
namespace Go.Ab
set_option linter.unusedVariables false

section
variable {P : Program} {hn : Hints} {call : Callf} {ops : Array Oper} {base : Nat}

theorem put_comm (env : List AV) {x y : Option Tmp} (v u : AV) (h : ∀ d, x = some d → y ≠ some d) : put (put env x v) y u = put (put env y u) x v := by
  cases x with
  | none => rfl
  | some d =>
    cases y with
    | none => rfl
    | some e =>
      have hne : d ≠ e := fun he => h d rfl (he ▸ rfl)
      simp only [put]
      exact List.set_comm _ _ hne

theorem put_getD (env : List AV) {x : Option Tmp} (v : AV) {d : Nat} (h : x ≠ some d) : (put env x v).getD d .junk = env.getD d .junk := by
  cases x with
  | none => rfl
  | some e =>
    have hne : e ≠ d := fun he => h (he ▸ rfl)
    simp [put, List.getD, List.getElem?_set_ne hne]

theorem ev_put (env : List AV) {dst : Option Tmp} (v : AV) {x : Operand} (h : ∀ d, dst = some d → x ≠ .tmp d) : ev (put env dst v) x = ev env x := by
  cases x with
  | tmp t => exact put_getD env v fun e => h t e rfl
  | _ => rfl

theorem writeM_set_comm (m : List Slot) {c : Nat} {s : Slot} : ∀ (ws : List (Nat × Slot)), c ∉ ws.map (·.1) → writeM (m.set c s) ws = (writeM m ws).set c s := by
  intro ws
  induction ws generalizing m with
  | nil => intro _; rfl
  | cons p ws ih =>
    intro h
    obtain ⟨d, u⟩ := p
    simp only [List.map_cons, List.mem_cons, not_or] at h
    simp only [writeM]
    rw [List.set_comm _ _ h.1, ih _ h.2]

theorem writeM_comm (m : List Slot) (us : List (Nat × Slot)) : ∀ (ws : List (Nat × Slot)), (∀ c ∈ ws.map (·.1), c ∉ us.map (·.1)) → writeM (writeM m us) ws = writeM (writeM m ws) us := by
  intro ws
  induction ws generalizing m with
  | nil => intro _; rfl
  | cons p ws ih =>
    intro h
    obtain ⟨d, s⟩ := p
    simp only [writeM]
    rw [← writeM_set_comm m us (h d (by simp)), ih _ fun c hc => h c (by simp only [List.map_cons, List.mem_cons]; exact .inr hc)]

theorem meets_false {a b : List Nat} (h : meets a b = false) : ∀ c ∈ a, c ∉ b := by
  intro c hc hb
  unfold meets at h
  rw [List.any_eq_false] at h
  exact h c hc (by simpa using hb)

/-- A step hangs on what it looks at. -/
theorem stepD_same {i : Nat} {oi : Oper} {σ σ' σ1 : St} {t : Tch} (hi : ops[i]? = some oi) (h : stepD P hn call ops base i σ = some (σ1, t))
    (he : ∀ d ∈ oi.looksAt ops, σ'.env.getD d .junk = σ.env.getD d .junk) (hm : ∀ b ∈ t.rd, σ'.mem[b]? = σ.mem[b]?) :
    ∃ v ws, t.wr = ws.map (·.1) ∧ σ1 = ⟨put σ.env oi.dst v, writeM σ.mem ws⟩ ∧ stepD P hn call ops base i σ' = some (⟨put σ'.env oi.dst v, writeM σ'.mem ws⟩, t) := by
  have hops : ∀ x ∈ oi.op.operands, ev σ'.env x = ev σ.env x := fun x hx => by
    cases x with
    | tmp d => exact he d (List.mem_append_left _ (List.mem_filterMap.2 ⟨.tmp d, by simpa using hx, rfl⟩))
    | _ => rfl
  have hg : ∀ g want d, oi.guard = some (g, want) → (ops[g]?).bind (·.dst) = some d → σ'.env.getD d .junk = σ.env.getD d .junk := fun g want d h1 h2 =>
    he d (by simp [Oper.looksAt, h1, h2])
  unfold stepD at h ⊢
  simp only [hi] at h ⊢
  have go : (match opR P hn call (base + i) oi σ with
      | some r => if r.ok = true then some ((⟨put σ.env oi.dst r.val, writeM σ.mem r.wr⟩ : St), (⟨r.wr.map (·.1), r.rd⟩ : Tch)) else none
      | none => none) = some (σ1, t) → ∃ v ws, t.wr = ws.map (·.1) ∧ σ1 = ⟨put σ.env oi.dst v, writeM σ.mem ws⟩ ∧ (match opR P hn call (base + i) oi σ' with
      | some r => if r.ok = true then some ((⟨put σ'.env oi.dst r.val, writeM σ'.mem r.wr⟩ : St), (⟨r.wr.map (·.1), r.rd⟩ : Tch)) else none
      | none => none) = some (⟨put σ'.env oi.dst v, writeM σ'.mem ws⟩, t) := fun h1 => by
    split at h1
    · rename_i r hr
      split at h1
      · rename_i hok
        simp only [Option.some.injEq, Prod.mk.injEq] at h1
        obtain ⟨rfl, rfl⟩ := h1
        rw [opR_same hr hops hm]
        exact ⟨r.val, r.wr, rfl, rfl, by simp [hok]⟩
      · simp at h1
    · simp at h1
  have skip : some ((⟨put σ.env oi.dst undefA, σ.mem⟩ : St), (⟨[], []⟩ : Tch)) = some (σ1, t) → ∃ v ws, t.wr = ws.map (·.1) ∧ σ1 = ⟨put σ.env oi.dst v, writeM σ.mem ws⟩ ∧
      some ((⟨put σ'.env oi.dst undefA, σ'.mem⟩ : St), (⟨[], []⟩ : Tch)) = some (⟨put σ'.env oi.dst v, writeM σ'.mem ws⟩, t) := fun h1 => by
    simp only [Option.some.injEq, Prod.mk.injEq] at h1
    obtain ⟨rfl, rfl⟩ := h1
    exact ⟨undefA, [], rfl, rfl, rfl⟩
  split at h
  · exact go h
  · rename_i g want hgd
    split at h
    · exact skip h
    · rename_i d hd
      rw [hg g want d hgd hd]
      split at h
      · split at h
        · rename_i hb; simp only [hb, if_true]; exact go h
        · rename_i hb; rw [if_neg hb]; exact skip h
      · exact skip h
      · simp at h

/-- Two steps that are apart may change places. -/
theorem stepD_swap {i j : Nat} {oi oj : Oper} {σ σi σij : St} {ti tj : Tch} (hi : ops[i]? = some oi) (hj : ops[j]? = some oj) (hap : oi.apart ops oj = true) (hcl : clash ti tj = false)
    (h1 : stepD P hn call ops base i σ = some (σi, ti)) (h2 : stepD P hn call ops base j σi = some (σij, tj)) :
    ∃ σj, stepD P hn call ops base j σ = some (σj, tj) ∧ stepD P hn call ops base i σj = some (σij, ti) := by
  obtain ⟨a1, a2, a3⟩ := Oper.apart_spec hap
  simp only [clash, Bool.or_eq_false_iff] at hcl
  obtain ⟨⟨c1, c2⟩, c3⟩ := hcl
  obtain ⟨vi, wi, e1, e2, _⟩ := stepD_same (σ' := σ) hi h1 (fun _ _ => rfl) (fun _ _ => rfl)
  obtain ⟨vj, wj, f1, f2, f3⟩ := stepD_same (σ' := σ) hj h2 (fun d hd => by
    rw [e2]
    exact (put_getD σ.env vi fun e => a1 d e hd).symm) (fun b hb => by
    rw [e2]
    refine (writeM_other wi σ.mem ?_).symm
    rw [← e1]
    exact fun hc => meets_false c2 b hc hb)
  refine ⟨_, f3, ?_⟩
  obtain ⟨vi', wi', g1, g2, g3⟩ := stepD_same (σ' := ⟨put σ.env oj.dst vj, writeM σ.mem wj⟩) hi h1 (fun d hd => by
    exact put_getD σ.env vj fun e => a3 d e hd) (fun b hb => by
    refine writeM_other wj σ.mem ?_
    rw [← f1]
    exact fun hc => meets_false c3 b hb hc)
  rw [g3]
  congr 2
  have hvi : put σ.env oi.dst vi' = put σ.env oi.dst vi ∧ writeM σ.mem wi' = writeM σ.mem wi := by
    rw [e2] at g2
    simp only [St.mk.injEq] at g2
    exact ⟨g2.1.symm, g2.2.symm⟩
  rw [f2, e2]
  simp only [St.mk.injEq]
  constructor
  · rw [put_comm _ _ _ fun d hd => by
      intro he
      exact a2 d he hd, hvi.1]
  · have w1 : ∀ c ∈ wi'.map (·.1), c ∉ wj.map (·.1) := fun c hc hc' => meets_false c1 c (by rw [g1]; exact hc) (by rw [f1]; exact hc')
    rw [writeM_comm σ.mem wj wi' w1, hvi.2]

/-- Whatever order is picked, each operation touching what it touched in the text's order. -/
def anyT (P : Program) (hn : Hints) (call : Callf) (md : Region.Mode) (ops : Array Oper) (base : Nat) (T : Nat → Tch) (σf : St) : Nat → Array Bool → St → Prop
  | 0, listed, σ => Region.ready md ops listed = [] ∧ σ = σf
  | fuel + 1, listed, σ => (Region.ready md ops listed = [] → σ = σf) ∧
    ∀ i ∈ Region.ready md ops listed, ∃ σ', stepD P hn call ops base i σ = some (σ', T i) ∧ anyT P hn call md ops base T σf fuel (listed.setIfInBounds i true) σ'

theorem anyT_anyD {md : Region.Mode} {T : Nat → Tch} {σf : St} : ∀ (fuel : Nat) (listed : Array Bool) (σ : St), anyT P hn call md ops base T σf fuel listed σ → anyD P hn call md ops base σf fuel listed σ
  | 0, _, _, h => h
  | fuel + 1, listed, σ, h => ⟨h.1, fun i hi => let ⟨σ', h1, h2⟩ := h.2 i hi; ⟨σ', _, h1, anyT_anyD fuel _ _ h2⟩⟩

theorem anyT_first {md : Region.Mode} {T : Nat → Tch} {σf : St} {i : Nat} {oi : Oper} (hi : ops[i]? = some oi) :
    ∀ (fuel : Nat) (listed : Array Bool) (σ σi : St),
      (∀ j oj, ops[j]? = some oj → j ≠ i → listed.getD j true = false → (∀ e ∈ oj.after, Region.binds md e = true → e.on ≠ i) → oi.apart ops oj = true ∧ clash (T i) (T j) = false) →
      i ∈ Region.ready md ops listed → stepD P hn call ops base i σ = some (σi, T i) →
      anyT P hn call md ops base T σf fuel (listed.setIfInBounds i true) σi → anyT P hn call md ops base T σf (fuel + 1) listed σ := by
  intro fuel
  induction fuel with
  | zero =>
    intro listed σ σi _ hr hy H
    refine ⟨fun h => (by rw [h] at hr; cases hr), fun j hj => ?_⟩
    by_cases hji : j = i
    · subst hji; exact ⟨σi, hy, H⟩
    · have := ready_mono hj hji
      rw [H.1] at this
      cases this
  | succ fuel ih =>
    intro listed σ σi hfree hr hy H
    refine ⟨fun h => (by rw [h] at hr; cases hr), fun j hj => ?_⟩
    by_cases hji : j = i
    · subst hji; exact ⟨σi, hy, H⟩
    · obtain ⟨σij, s1, s2⟩ := H.2 j (ready_mono hj hji)
      obtain ⟨hjun, oj, hoj, hall⟩ := mem_ready.1 hj
      have hnot : ∀ e ∈ oj.after, Region.binds md e = true → e.on ≠ i := fun e he hb heq => by
        have h1 := hall e he hb
        have h0 := (mem_ready.1 hr).1
        rw [heq] at h1
        rcases Nat.lt_or_ge i listed.size with h' | h'
        · simp [h'] at h0 h1; rw [h0] at h1; cases h1
        · simp [Array.getElem?_eq_none h'] at h1
      obtain ⟨f1, f2⟩ := hfree j oj hoj hji hjun hnot
      obtain ⟨σj, k1, k2⟩ := stepD_swap hi hoj f1 f2 hy s1
      refine ⟨σj, k1, ?_⟩
      refine ih (listed.setIfInBounds j true) σj σij (fun k ok hk hki hun hno => ?_) (ready_mono hr (Ne.symm hji)) k2 (by rw [Array.setIfInBounds_comm _ _ hji]; exact s2)
      refine hfree k ok hk hki ?_ hno
      by_cases hjk : j = k
      · subst hjk; exact hjun
      · rw [getD_set_ne true hjk] at hun; exact hun

theorem drawOk_get : ∀ {T : List Tch} {k i j : Nat} {x y : Tch} {oj : Oper}, drawOk ops T k = true → T[i]? = some x → T[i + 1 + j]? = some y → ops[k + i + 1 + j]? = some oj →
    (∃ e ∈ oj.after, (Region.binds .any e && e.on == k + i) = true) ∨ clash x y = false
  | [], k, i, j, x, y, oj, h, hx, hy, ho => by simp at hx
  | t :: T, k, i, j, x, y, oj, h, hx, hy, ho => by
    simp only [drawOk, Bool.and_eq_true] at h
    cases i with
    | zero =>
      simp only [List.getElem?_cons_zero, Option.some.injEq] at hx
      subst hx
      have hy' : T[j]? = some y := by rw [show 0 + 1 + j = j + 1 by omega] at hy; simpa using hy
      have := List.all_eq_true.1 h.1 (y, j) (by
        rw [List.mem_zipIdx_iff_getElem?]
        exact hy')
      simp only at this
      rw [show k + 1 + j = k + 0 + 1 + j by omega, ho] at this
      simp only [Bool.or_eq_true, Bool.not_eq_true'] at this
      rcases this with h1 | h1
      · exact .inr h1
      · rw [Array.any_eq_true'] at h1
        obtain ⟨e, he, hb⟩ := h1
        exact .inl ⟨e, he, by simpa using hb⟩
    | succ i =>
      have hx' : T[i]? = some x := by simpa using hx
      have hy' : T[i + 1 + j]? = some y := by rw [show i + 1 + 1 + j = (i + 1 + j) + 1 by omega] at hy; simpa using hy
      have := drawOk_get h.2 hx' hy' (oj := oj) (by rw [show k + 1 + i + 1 + j = k + (i + 1) + 1 + j by omega]; exact ho)
      rw [show k + 1 + i = k + (i + 1) by omega] at this
      exact this

/-- The text's order, told. -/
def lexD (P : Program) (hn : Hints) (call : Callf) (ops : Array Oper) (base : Nat) (T : List Tch) (σf : St) : Nat → Nat → St → Prop
  | 0, _, σ => σ = σf
  | n + 1, k, σ => ∃ σ' t, T[k]? = some t ∧ stepD P hn call ops base k σ = some (σ', t) ∧ lexD P hn call ops base T σf n (k + 1) σ'

theorem runOps_lex {ans : AV × List Slot} (hc : CallOK P call) {kk : St → List Tch → Ans} :
    ∀ (l : List Oper) (i : Nat) (σ : St) (T : List Tch), (∀ j, l[j]? = ops[i + j]?) → T.length = i → runOps P hn call true ops base l i σ T kk = some ans →
      ∃ σf Tf, kk σf Tf = some ans ∧ (∃ r, Tf = T ++ r) ∧ Tf.length = i + l.length ∧ lexD P hn call ops base Tf σf l.length i σ
  | [], i, σ, T, hl, hT, h => ⟨σ, T, by simpa [runOps] using h, ⟨[], by simp⟩, by simpa using hT, rfl⟩
  | o :: r, i, σ, T, hl, hT, h => by
    have ho : ops[i]? = some o := by simpa using (hl 0).symm
    obtain ⟨σ', t, h1, h2⟩ := runOps_stepD hc ho h
    obtain ⟨σf, Tf, k1, ⟨q, k2⟩, k3, k4⟩ := runOps_lex hc r (i + 1) σ' (T ++ [t]) (fun j => by have := hl (j + 1); simp only [List.getElem?_cons_succ] at this; rw [this]; congr 1; omega) (by simp [hT]) h1
    refine ⟨σf, Tf, k1, ⟨t :: q, by rw [k2]; simp⟩, by rw [k3]; simp; omega, σ', t, ?_, h2, k4⟩
    rw [k2, List.append_assoc, List.getElem?_append_right (by omega), hT]
    simp

theorem bit_lookM {d : Nat} : ∀ (l : List Nat) (n : Nat), d ∈ l ∨ n.testBit d = true → (l.foldl (fun n d => n ||| bit d) n).testBit d = true
  | [], n, h => by simpa using h
  | x :: l, n, h => by
    rw [List.foldl_cons]
    refine bit_lookM l _ ?_
    rcases h with h | h
    · rcases List.mem_cons.1 h with h | h
      · subst h; right; simp [bit, Nat.testBit_or, Nat.testBit_shiftLeft]
      · exact .inl h
    · right; simp [Nat.testBit_or, h]

theorem bit_and {d m : Nat} (h : Nat.beq (bit d &&& m) 0 = true) : m.testBit d = false := by
  have h := Nat.eq_of_beq_eq_true h
  have h2 := congrArg (fun n => n.testBit d) h
  simp only [Nat.testBit_and, Nat.zero_testBit, bit] at h2
  simpa [Nat.testBit_shiftLeft] using h2

theorem apartM_spec {o o' : Oper} (h : apartM (dstM o, lookM ops o, o.after) (dstM o', lookM ops o', o'.after) = true) : o.apart ops o' = true := by
  simp only [apartM, Bool.and_eq_true] at h
  obtain ⟨h1, h2⟩ := h
  simp only [Oper.apart, Bool.and_eq_true]
  constructor
  · cases hd : o.dst with
    | none => rfl
    | some d =>
      simp only [dstM, hd] at h1
      have h3 := bit_and h1
      rw [Nat.testBit_or, Bool.or_eq_false_iff] at h3
      simp only [Bool.and_eq_true, Bool.not_eq_true', bne_iff_ne, ne_eq]
      constructor
      · rw [Bool.eq_false_iff]
        intro hc
        have := bit_lookM (o'.looksAt ops) 0 (.inl (List.contains_iff_mem.1 hc))
        unfold lookM at h3
        rw [this] at h3
        cases h3.1
      · intro he
        have := h3.2
        cases he' : o'.dst with
        | none => rw [he'] at he; cases he
        | some d' =>
          rw [he'] at he
          cases he
          simp [he', bit, Nat.testBit_shiftLeft] at this
  · cases hd : o'.dst with
    | none => rfl
    | some d =>
      simp only [dstM, hd] at h2
      have h3 := bit_and h2
      simp only [Bool.not_eq_true']
      rw [Bool.eq_false_iff]
      intro hc
      have := bit_lookM (o.looksAt ops) 0 (.inl (List.contains_iff_mem.1 hc))
      unfold lookM at h3
      rw [this] at h3
      cases h3

theorem fastL_get : ∀ {L : List (Nat × Nat × Array Edge)} {k i : Nat} {x : Nat × Nat × Array Edge}, fastL L k = true → L[i]? = some x →
    (∀ e ∈ x.2.2, Region.binds .any e = true → e.on < k + i) ∧ ∀ j y, L[i + 1 + j]? = some y → apartM x y = true ∨ ∃ e ∈ y.2.2, (Region.binds .any e && e.on == k + i) = true
  | [], k, i, x, h, hx => by simp at hx
  | z :: L, k, i, x, h, hx => by
    simp only [fastL, Bool.and_eq_true] at h
    obtain ⟨⟨h1, h2⟩, h3⟩ := h
    cases i with
    | zero =>
      simp only [List.getElem?_cons_zero, Option.some.injEq] at hx
      subst hx
      refine ⟨fun e he hb => ?_, fun j y hy => ?_⟩
      · have := Array.all_eq_true_iff_forall_mem.1 h1 e he
        simpa [hb] using this
      · have hy' : L[j]? = some y := by rw [show 0 + 1 + j = j + 1 by omega] at hy; simpa using hy
        have := List.all_eq_true.1 h2 y (List.mem_of_getElem? hy')
        simp only [Bool.or_eq_true] at this
        rcases this with h | h
        · exact .inl h
        · rw [Array.any_eq_true'] at h
          exact .inr h
    | succ i =>
      have := fastL_get (i := i) h3 (by simpa using hx)
      rw [show k + 1 + i = k + (i + 1) by omega] at this
      refine ⟨this.1, fun j y hy => this.2 j y ?_⟩
      rw [show i + 1 + 1 + j = (i + 1 + j) + 1 by omega] at hy
      simpa using hy

theorem lex_anyT {T : List Tch} {σf : St} (hd : drawOk ops T 0 = true) (hTl : T.length = ops.size) (hB : fastB ops = true) :
    ∀ (n k : Nat) (listed : Array Bool) (σ : St), k + n = ops.size → (∀ j, j < ops.size → listed.getD j true = false → k ≤ j) → (∀ j, j < k → listed.getD j false = true) → (∀ j, k ≤ j → j < ops.size → listed.getD j true = false) →
      listed.size = ops.size → lexD P hn call ops base T σf n k σ →
      anyT P hn call .any ops base (fun i => T.getD i ⟨[], []⟩) σf n listed σ
  | 0, k, listed, σ, hk, hl, hl2, hl3, hls, h => by
    refine ⟨List.eq_nil_iff_forall_not_mem.2 fun j hj => ?_, h⟩
    obtain ⟨h1, o, ho, _⟩ := mem_ready.1 hj
    have hjs : j < ops.size := (Array.getElem?_eq_some_iff.1 ho).1
    have := hl j hjs h1
    omega
  | n + 1, k, listed, σ, hk, hl, hl2, hl3, hls, h => by
    obtain ⟨σ', t, h1, h2, h3⟩ := h
    have hlt : k < ops.size := by omega
    have ho : ops[k]? = some ops[k] := Array.getElem?_eq_getElem hlt
    have hTk : T.getD k ⟨[], []⟩ = t := by simp [List.getD, h1]
    have hL : ∀ (j : Nat) (oj : Oper), ops[j]? = some oj → (ops.toList.map fun o => (dstM o, lookM ops o, o.after))[j]? = some (dstM oj, lookM ops oj, oj.after) := fun j oj hj => by
      rw [List.getElem?_map, Array.getElem?_toList, hj]; rfl
    obtain ⟨hready, hfree⟩ := fastL_get hB (hL k _ ho)
    refine anyT_first ho n listed σ σ' (fun j oj hj hji hun hno => ?_) (mem_ready.2 ⟨hl3 k (Nat.le_refl k) hlt, _, ho, fun e he hb => hl2 _ (by have := hready e he hb; omega)⟩) (by simp only [hTk]; exact h2) ?_
    · have hjs : j < ops.size := (Array.getElem?_eq_some_iff.1 hj).1
      have hkj := hl j hjs hun
      have hty : T[j]? = some T[j] := List.getElem?_eq_getElem (by omega)
      have := drawOk_get (i := k) (j := j - k - 1) (x := t) (y := T[j]) (oj := oj) hd h1 (by rw [show k + 1 + (j - k - 1) = j by omega]; exact hty) (by rw [show 0 + k + 1 + (j - k - 1) = j by omega]; exact hj)
      refine ⟨?_, ?_⟩
      · rcases hfree (j - k - 1) _ (by rw [show k + 1 + (j - k - 1) = j by omega]; exact hL j oj hj) with h | ⟨e, he, hb⟩
        · exact apartM_spec h
        · simp only [Bool.and_eq_true, beq_iff_eq] at hb
          exact absurd (by omega) (hno e he hb.1)
      · rcases this with ⟨e, he, hb⟩ | hcl
        · simp only [Bool.and_eq_true, beq_iff_eq] at hb
          exact absurd (by omega) (hno e he hb.1)
        · simp only [hTk]
          rw [show T.getD j ⟨[], []⟩ = T[j] by simp [List.getD, hty]]
          exact hcl
    · refine lex_anyT hd hTl hB n (k + 1) _ σ' (by omega) (fun j hj hun => ?_) (fun j hj => ?_) (fun j hj hjs => ?_) (by simpa using hls) h3
      · by_cases hkj : k = j
        · subst hkj
          exfalso
          rcases Nat.lt_or_ge k listed.size with h' | h'
          · simp [h'] at hun
          · simp [h'] at hun
        · rw [getD_set_ne true hkj] at hun
          have := hl j hj hun
          omega
      · by_cases hkj : k = j
        · subst hkj
          simp [hls, hlt]
        · have h4 := hl2 j (by omega)
          rw [Array.getD_eq_getD_getElem?] at h4 ⊢
          rw [Array.getElem?_setIfInBounds_ne hkj]
          exact h4
      · have hkj : k ≠ j := by omega
        rw [getD_set_ne true hkj]
        exact hl3 j (by omega) hjs

/-- Regions. -/
theorem regionA_sound (hc : CallOK P call) {id : Nat} {dr : Bool} {σ : St} {k : St → Ans} {ans : AV × List Slot} {pin : Nat} {K0 F : Nat → Prop} {ρ0 : Locs} {w0 : World} {Q : Exit → Act → World → Prop} {a : Act} {w : World}
    (h : regionA P hn call ops dr σ k = some ans) (hs : SR pin K0 F ρ0 w0 σ a w) (hQ : ∀ σ' a' w', k σ' = some ans → SR pin K0 F ρ0 w0 σ' a' w' → Q .normal a' w') :
    (Code.region id ops dr).wp P Q a w := by
  have hs0 : SR pin K0 F ρ0 w0 ⟨σ.env, σ.mem ++ List.replicate ops.size .free⟩ a w := by
    obtain ⟨K, ρ, st, iv, e, l, d⟩ := hs
    exact ⟨K, ρ, st, iv.grow _, e, l, d⟩
  unfold regionA at h
  simp only at h
  cases dr with
  | false =>
    simp only [Bool.false_eq_true, if_false] at h
    refine wp_region ?_
    have := runOps_sound hc (Q := Q) (fun σ' T a' w' h1 h2 => hQ σ' a' w' h1 h2) ops.toList 0 _ [] a w (fun j => by simp) h hs0
    rw [List.range_eq_range']
    simpa using this
  | true =>
    simp only [if_true] at h
    split at h
    · rename_i hcond
      simp only [Bool.and_eq_true] at hcond
      obtain ⟨hm, hB⟩ := hcond
      obtain ⟨σf, Tf, k1, _, k3, k4⟩ := runOps_lex hc ops.toList 0 _ [] (fun j => by simp) rfl h
      split at k1
      · rename_i hd
        have hT := lex_anyT (P := P) (hn := hn) (call := call) (base := σ.mem.length) (T := Tf) (σf := σf) hd (by simpa using k3) hB ops.size 0 (Array.replicate ops.size false) _ (by simp) (fun j _ _ => Nat.zero_le _) (fun j hj => by omega) (fun j _ hj => by simp [hj]) (by simp) (by simpa using k4)
        refine wp_region_any hm (anyD_wp hc (fun a' w' hs' => hQ σf a' w' k1 hs') _ _ _ a _ (anyT_anyD _ _ _ hT) ?_)
        obtain ⟨K, ρ, st, iv, e, l, d⟩ := hs0
        refine ⟨K, ρ, ⟨st.sub, st.keepK, st.keepF, st.loc, st.size, st.os, st.tape, st.output⟩, iv.heap rfl, fun i => ?_, l, d⟩
        exact VR.mono (w := w) (w' := { w with drawn := w.drawn + 1 }) (fun _ x => x) (fun _ _ => rfl) (fun _ _ x => x) (e i)
      · simp at k1
    · simp at h
end
end Go.Ab

/- The framework, part 21: code, and functions. -/
namespace Go.Ab
set_option linter.unusedVariables false

def exR : AExit → Exit → Prop
  | .normal, e => e = .normal
  | .exit i, e => e = .exit i
  | .goto l, e => e = .goto l
  | .ret, e => e = .ret

/-- Where the code comes to. -/
def Post (pin : Nat) (K0 F : Nat → Prop) (ρ0 : Locs) (w0 : World) (k : Cont) (ans : AV × List Slot) : Exit → Act → World → Prop :=
  fun e a w => ∃ x σ, exR x e ∧ k x σ = some ans ∧ SR pin K0 F ρ0 w0 σ a w

/-- A run of the interpreter's, as a run of the machine's. -/
def RunOK (P : Program) (ans : AV × List Slot) (f : Code → LC → St → Cont → Ans) : Prop :=
  ∀ (c : Code) (l : LC) (σ : St) (k : Cont), f c l σ k = some ans → ∀ (K0 F : Nat → Prop) (ρ0 : Locs) (w0 : World) (a : Act) (w : World), SR l.pin K0 F ρ0 w0 σ a w →
    c.wp P (Post l.pin K0 F ρ0 w0 k ans) a w

section
variable {P : Program} {hn : Hints} {call : Callf} {ans : AV × List Slot}

theorem SR.cond {pin : Nat} {K0 F : Nat → Prop} {ρ0 : Locs} {w0 : World} {σ : St} {a : Act} {w : World} (h : SR pin K0 F ρ0 w0 σ a w) {x : Operand} {b : Bool} (hb : ev σ.env x = .bool b) :
    a.eval x = .bool b ∧ SR pin K0 F ρ0 w0 ⟨setB σ.env x b, σ.mem⟩ a w := by
  obtain ⟨K, ρ, st, iv, e, l, d⟩ := id h
  have hv := ev_vr e x
  rw [hb] at hv
  refine ⟨by cases hx : a.eval x <;> rw [hx] at hv <;> cases hv; rfl, ?_⟩
  cases x with
  | tmp t => exact h.setb (d := t) (b := b) hb rfl
  | _ => exact h

theorem iter_arr {body : Code} {f : St → Cont → Ans} {pin keep : Nat} {K0 F : Nat → Prop} {ρ0 : Locs} {w0 : World} {k : Cont}
    (hf : ∀ (σ : St) (k : Cont), f σ k = some ans → ∀ a w, SR pin K0 F ρ0 w0 σ a w → body.wp P (Post pin K0 F ρ0 w0 k ans) a w) :
    ∀ (n : Nat) (σ : St) (a : Act) (w : World), iterK f pin keep n σ k = some ans → SR pin K0 F ρ0 w0 σ a w → ∀ (b : Frame) (kk : List Item) (cs : List Frame),
      ∃ e a' w', Post pin K0 F ρ0 w0 k ans e a' w' ∧ Arrives P (lone (b.at a (.code body :: .inLoop body :: kk)) cs w) b kk cs e a' w' := by
  intro n
  induction n with
  | zero => intro σ a w h; simp [iterK] at h
  | succ n ih =>
    intro σ a w h hs b kk cs
    simp only [iterK] at h
    obtain ⟨e, a1, w1, ⟨x, σ1, hx, hk, hs1⟩, harr⟩ := hf σ _ h a w hs b (.inLoop body :: kk) cs
    cases x with
    | normal =>
      simp only [exR] at hx
      subst hx
      obtain ⟨e2, a2, w2, hq2, harr2⟩ := ih _ a1 w1 hk (norm_sound keep hs1) b kk cs
      exact ⟨e2, a2, w2, hq2, .of_steps (Steps.trans harr (.one step_inLoop)) harr2⟩
    | exit id =>
      simp only [exR] at hx
      subst hx
      exact ⟨_, a1, w1, ⟨.exit id, σ1, rfl, hk, hs1⟩, .pass (x := .inLoop body) rfl (fun _ _ => .inl (by simp)) harr⟩
    | goto l =>
      simp only [exR] at hx
      subst hx
      exact ⟨_, a1, w1, ⟨.goto l, σ1, rfl, hk, hs1⟩, .pass (x := .inLoop body) rfl (fun _ _ => .inl (by simp)) harr⟩
    | ret =>
      simp only [exR] at hx
      subst hx
      exact ⟨_, a1, w1, ⟨.ret, σ1, rfl, hk, hs1⟩, .pass (x := .inLoop body) rfl (fun _ _ => .inl (by simp)) harr⟩

theorem jump_arr {body : Code} {again : Code → St → Cont → Ans} {pin : Nat} {gt : List (Nat × Nat)} {K0 F : Nat → Prop} {ρ0 : Locs} {w0 : World} {k : Cont}
    (hag : ∀ (c : Code) (σ : St) (k : Cont), again c σ k = some ans → ∀ a w, SR pin K0 F ρ0 w0 σ a w → c.wp P (Post pin K0 F ρ0 w0 k ans) a w) (b : Frame) (kk : List Item) (cs : List Frame) :
    ∀ (n : Nat) (x : AExit) (σ : St) (a : Act) (w : World) (e : Exit) (m : Machine), jumpK again body pin gt n k x σ = some ans → exR x e → SR pin K0 F ρ0 w0 σ a w →
      Arrives P m b (.inScope body :: kk) cs e a w → ∃ e' a' w', Post pin K0 F ρ0 w0 k ans e' a' w' ∧ Arrives P m b kk cs e' a' w' := by
  intro n
  induction n with
  | zero =>
    intro x σ a w e m h hx hs harr
    cases x with
    | normal =>
      simp only [exR] at hx
      subst hx
      exact ⟨.normal, a, w, ⟨.normal, σ, rfl, by simpa [jumpK] using h, hs⟩, Steps.trans harr (.one step_inScope)⟩
    | exit id =>
      simp only [exR] at hx
      subst hx
      exact ⟨.exit id, a, w, ⟨.exit id, σ, rfl, by simpa [jumpK] using h, hs⟩, fun k' hk => harr k' (by simp [exitTo, hk])⟩
    | goto l =>
      simp only [exR] at hx
      subst hx
      simp only [jumpK] at h
      split at h
      · simp [enterK] at h
      · rename_i hf
        exact ⟨.goto l, a, w, ⟨.goto l, σ, rfl, h, hs⟩, fun k' hk => harr k' (by simp [gotoIn, hf, hk])⟩
    | ret =>
      simp only [exR] at hx
      subst hx
      exact ⟨.ret, a, w, ⟨.ret, σ, rfl, by simpa [jumpK] using h, hs⟩, harr⟩
  | succ n ih =>
    intro x σ a w e m h hx hs harr
    cases x with
    | normal =>
      simp only [exR] at hx
      subst hx
      exact ⟨.normal, a, w, ⟨.normal, σ, rfl, by simpa [jumpK] using h, hs⟩, Steps.trans harr (.one step_inScope)⟩
    | exit id =>
      simp only [exR] at hx
      subst hx
      exact ⟨.exit id, a, w, ⟨.exit id, σ, rfl, by simpa [jumpK] using h, hs⟩, fun k' hk => harr k' (by simp [exitTo, hk])⟩
    | goto l =>
      simp only [exR] at hx
      subst hx
      simp only [jumpK] at h
      split at h
      · rename_i rest hf
        simp only [enterK, hf] at h
        have h : again rest (norm pin (look gt l) σ) (jumpK again body pin gt n k) = some ans := h
        have hg : gotoIn l (.inScope body :: kk) = some (.code rest :: .inScope body :: kk) := by simp [gotoIn, hf]
        obtain ⟨e1, a1, w1, ⟨x1, σ1, hx1, hk1, hs1⟩, harr1⟩ := hag rest _ _ h a w (norm_sound _ hs) b (.inScope body :: kk) cs
        obtain ⟨e2, a2, w2, hq2, harr2⟩ := ih x1 σ1 a1 w1 e1 _ hk1 hx1 hs1 harr1
        exact ⟨e2, a2, w2, hq2, .of_steps (harr _ hg) harr2⟩
      · rename_i hf
        exact ⟨.goto l, a, w, ⟨.goto l, σ, rfl, h, hs⟩, fun k' hk => harr k' (by simp [gotoIn, hf, hk])⟩
    | ret =>
      simp only [exR] at hx
      subst hx
      exact ⟨.ret, a, w, ⟨.ret, σ, rfl, by simpa [jumpK] using h, hs⟩, harr⟩

theorem forkK_sound {v : Option Tmp} {σ : St} {k : St → Ans} {pin : Nat} {K0 F : Nat → Prop} {ρ0 : Locs} {w0 : World} {a : Act} {w : World} (h : forkK v σ k = some ans) (hs : SR pin K0 F ρ0 w0 σ a w) :
    ∃ σ', k σ' = some ans ∧ SR pin K0 F ρ0 w0 σ' a w := by
  unfold forkK at h
  split at h
  · exact ⟨σ, h, hs⟩
  · rename_i v
    split at h
    · rename_i b hb
      cases b with
      | true => simp only [cond_true] at h; exact ⟨_, h, hs.setb hb rfl⟩
      | false => simp only [cond_false] at h; exact ⟨_, h, hs.setb hb rfl⟩
    · exact ⟨σ, h, hs⟩

theorem runC_sound (hc : CallOK P call) {again : Code → LC → St → Cont → Ans} (hag : RunOK P ans again) (n : Nat) : RunOK P ans (runC P hn again call n) := by
  intro c
  induction c with
  | skip => intro l σ k h K0 F ρ0 w0 a w hs; exact wp_skip ⟨.normal, σ, rfl, by simpa [runC] using h, hs⟩
  | region id ops dr =>
    intro l σ k h K0 F ρ0 w0 a w hs
    simp only [runC] at h
    exact regionA_sound hc h hs fun σ' a' w' h1 h2 => ⟨.normal, σ', rfl, h1, h2⟩
  | seq x y ihx ihy =>
    intro l σ k h K0 F ρ0 w0 a w hs
    simp only [runC] at h
    obtain ⟨σ1, h, hs⟩ := forkK_sound h hs
    refine wp_seq (wp_mono (ihx _ σ1 _ h K0 F ρ0 w0 a w hs) ?_)
    rintro e a' w' ⟨ae, σ', hx, hk, hs'⟩
    cases ae with
    | normal =>
      simp only [exR] at hx
      subst hx
      exact ihy l σ' k hk K0 F ρ0 w0 a' w' hs'
    | exit i => simp only [exR] at hx; subst hx; exact ⟨.exit i, σ', rfl, hk, hs'⟩
    | goto i => simp only [exR] at hx; subst hx; exact ⟨.goto i, σ', rfl, hk, hs'⟩
    | ret => simp only [exR] at hx; subst hx; exact ⟨.ret, σ', rfl, hk, hs'⟩
  | cond x t e iht ihe =>
    intro l σ k h K0 F ρ0 w0 a w hs
    simp only [runC] at h
    split at h
    · rename_i b hb
      obtain ⟨h1, h2⟩ := hs.cond hb
      refine wp_cond h1 ?_
      cases b with
      | true => simp only [cond_true] at h; exact iht l _ k h K0 F ρ0 w0 a w h2
      | false => simp only [cond_false] at h; exact ihe l _ k h K0 F ρ0 w0 a w h2
    · simp at h
  | block i b ih =>
    intro l σ k h K0 F ρ0 w0 a w hs
    simp only [runC] at h
    refine wp_block (wp_mono (ih _ σ _ h K0 F ρ0 w0 a w hs) ?_)
    rintro e a' w' ⟨ae, σ', hx, hk, hs'⟩
    cases ae with
    | normal => simp only [exR] at hx; subst hx; exact ⟨.normal, σ', rfl, hk, hs'⟩
    | exit j =>
      simp only [exR] at hx
      subst hx
      simp only [Exit.inBlock]
      simp only at hk
      split at hk
      · rename_i hj; rw [if_pos hj]; exact ⟨.normal, σ', rfl, hk, hs'⟩
      · rename_i hj; rw [if_neg hj]; exact ⟨.exit j, σ', rfl, hk, hs'⟩
    | goto j => simp only [exR] at hx; subst hx; exact ⟨.goto j, σ', rfl, hk, hs'⟩
    | ret => simp only [exR] at hx; subst hx; exact ⟨.ret, σ', rfl, hk, hs'⟩
  | loop b ih =>
    intro l σ k h K0 F ρ0 w0 a w hs
    simp only [runC] at h
    intro fr kk cs
    obtain ⟨e, a', w', hq, harr⟩ := iter_arr (fun σ k h a w hs => ih _ σ k h K0 F ρ0 w0 a w hs) n _ a w h (norm_sound _ hs) fr kk cs
    exact ⟨e, a', w', hq, .of_steps (.one step_loop) harr⟩
  | exit i =>
    intro l σ k h K0 F ρ0 w0 a w hs
    simp only [runC] at h
    exact wp_exit ⟨.exit i, _, rfl, h, norm0_sound _ hs⟩
  | goto j =>
    intro l σ k h K0 F ρ0 w0 a w hs
    simp only [runC] at h
    exact wp_goto ⟨.goto j, _, rfl, h, hs⟩
  | label j =>
    intro l σ k h K0 F ρ0 w0 a w hs
    simp only [runC] at h
    exact wp_label ⟨.normal, _, rfl, h, hs⟩
  | scope b ih =>
    intro l σ k h K0 F ρ0 w0 a w hs
    simp only [runC] at h
    intro fr kk cs
    obtain ⟨e, a1, w1, ⟨x, σ1, hx, hk, hs1⟩, harr⟩ := ih _ σ _ h K0 F ρ0 w0 a w hs fr (.inScope b :: kk) cs
    obtain ⟨e2, a2, w2, hq2, harr2⟩ := jump_arr (fun c σ k h a w hs => hag c _ σ k h K0 F ρ0 w0 a w hs) fr kk cs n x σ1 a1 w1 e _ hk hx hs1 harr
    exact ⟨e2, a2, w2, hq2, .of_steps (.one step_scope) harr2⟩
  | ret =>
    intro l σ k h K0 F ρ0 w0 a w hs
    simp only [runC] at h
    exact wp_ret ⟨.ret, _, rfl, h, mask_sound _ hs⟩
  | rangeFunc => intro l σ k h; simp [runC] at h
  | refuse => intro l σ k h; simp [runC] at h

theorem run_sound (hc : CallOK P call) (n : Nat) : ∀ d, RunOK P ans (run P hn call n d)
  | 0 => fun c l σ k h => by simp [run] at h
  | d + 1 => fun c l σ k h K0 F ρ0 w0 a w hs => runC_sound hc (run_sound hc n d) n c l σ k (by simpa [run] using h) K0 F ρ0 w0 a w hs

def resF (a : Act) (r : ResultVar) : Sem Value :=
  match r with
  | .tmp t => pure (a.tmps.getD t undef)
  | .cell c t => do loadVar t (← asAddr (a.tmps.getD c undef))

theorem results_run {K : Nat → Prop} {ρ : Locs} {w : World} {F : Nat → Prop} {σ : St} {a : Act} (hi : Inv K F ρ σ.mem w) (he : EnvR K ρ w σ.env a.tmps) :
    ∀ (rs : List ResultVar) (vs : List AV), allSome (rs.map (resOne P σ)) = some vs → ∃ us : List Value, VRL K ρ w vs us ∧ (rs.mapM (resF a)).run P w = .ok us w
  | [], vs, h => by simp [allSome] at h; subst h; exact ⟨[], .nil, rfl⟩
  | r :: rs, vs, h => by
    obtain ⟨y, zs, h1, h2, rfl⟩ := allSome_cons h
    obtain ⟨us, k1, k2⟩ := results_run hi he rs zs h2
    cases r with
    | tmp t =>
      simp only [resOne, Option.some.injEq] at h1
      subst h1
      refine ⟨_ :: us, .cons _ _ _ _ (he t) k1, ?_⟩
      have : (resF a (.tmp t)).run P w = .ok (a.tmps.getD t undef) w := rfl
      simp only [List.mapM_cons, Sem.run_bind, this, k2, Result.andThen_ok, Sem.run_pure]
    | cell c t =>
      simp only [resOne, Option.map_eq_some_iff] at h1
      obtain ⟨r, h3, rfl⟩ := h1
      obtain ⟨v, q1, q2, _⟩ := loadA_sound' (a := a) hi he h3
      refine ⟨v :: us, .cons _ _ _ _ q2 k1, ?_⟩
      have : (resF a (.cell c t)).run P w = .ok v w := by
        show (do loadVar t (← asAddr (a.tmps.getD c undef)) : Sem Value).run P w = .ok v w
        have e1 : a.eval (.tmp c) = a.tmps.getD c undef := rfl
        rw [e1] at q1
        unfold Instr.loadAt at q1
        cases hx : a.tmps.getD c undef <;> rw [hx] at q1 <;> try (simp [Instr.sureAddr] at q1; done)
        rename_i ad
        cases ad with
        | none => simp [Instr.sureAddr] at q1
        | some ad => simpa [Instr.sureAddr, asAddr] using q1
      simp only [List.mapM_cons, Sem.run_bind, this, k2, Result.andThen_ok, Sem.run_pure]

/-- A function's contract, and what is done with its answer, out of the interpreter's run. -/
theorem soundK_of_run (hc : CallOK P call) {n : Nat} {f : FuncId} {args : List AV} {m : List Slot} {kk : AV → List Slot → Ans} (h : runK P hn call n f args m kk = some ans) : SoundK P f args m kk ans := by
  intro K F ρ w vals hi hv
  unfold runK at h
  split at h
  · simp at h
  · rename_i fn hfn
    obtain ⟨fn', hf, hname, hbody, hfn'⟩ := fnOf_some (P := P) (f := f) (by rw [hfn]; rfl)
    rw [hfn] at hfn'
    obtain rfl := Option.some.inj hfn'
    split at h
    · simp at h
    · rename_i b hb
      refine calls_of_wp hf hb ?_
      have hlen := hv.length
      have hs : SR m.length K F ρ w ⟨args ++ List.replicate (fn.ntmps - args.length) undefA, m⟩ { tmps := vals.toArray ++ Array.replicate (fn.ntmps - vals.toArray.size) undef, defers := [] } w := by
        have hall := hv.append (VRL.replicate (K := K) (ρ := ρ) (w := w) (.tup [] [] .nil) (fn.ntmps - args.length))
        refine ⟨K, ρ, ⟨fun _ x => x, fun _ _ => rfl, fun _ _ => rfl, fun _ _ _ x => x, Nat.le_refl _, rfl, rfl, rfl⟩, hi, fun i => ?_, by simp [hlen], rfl⟩
        have e1 : (vals.toArray ++ Array.replicate (fn.ntmps - vals.toArray.size) undef).getD i undef = (vals ++ List.replicate (fn.ntmps - args.length) undef).getD i undef := by
          rw [Array.getD_eq_getD_getElem?, List.getD]
          congr 1
          rw [← Array.getElem?_toList]
          simp [hlen]
        show VR K ρ w ((args ++ List.replicate (fn.ntmps - args.length) undefA).getD i .junk) _
        rw [e1]
        by_cases hlt : i < (vals ++ List.replicate (fn.ntmps - args.length) undef).length
        · exact hall.get i hlt
        · have : (args ++ List.replicate (fn.ntmps - args.length) undefA).getD i .junk = .junk := by
            have hl : (args ++ List.replicate (fn.ntmps - args.length) undefA).length = (vals ++ List.replicate (fn.ntmps - args.length) undef).length := hall.length
            rw [List.getD, List.getElem?_eq_none (by omega)]
            rfl
          rw [this]
          exact .junk _
      refine wp_mono (run_sound hc n depthN b _ _ _ h K F ρ w _ w hs) ?_
      rintro e a' w' ⟨x, σ', hx, hk, K', ρ', st, iv, ev', ln, df⟩
      have fin : (match resultA P fn σ' with
          | none => none
          | some v =>
            let L := keepL m.length σ'.mem v.ids
            if nodupB L then kk (v.ren (fun c => L.idxOf? c)) (subM σ'.mem L) else none) = some ans →
          a'.defers = [] ∧ ∃ v, (results fn a'.tmps).run P w' = .ok v w' ∧ (∃ (v' : Value) (K' : Nat → Prop) (ρ' : Locs) (r : AV × List Slot), kk r.1 r.2 = some ans ∧ Ending.returned v = .returned v' ∧ Step K F ρ w K' ρ' w' ∧ Inv K' F ρ' r.2 w' ∧ VR K' ρ' w' r.1 v') := fun hk => by
        refine ⟨df, ?_⟩
        split at hk
        · simp at hk
        · rename_i v hv'
          simp only at hk
          split at hk
          · rename_i hnd
            simp only [resultA, Option.map_eq_some_iff] at hv'
            obtain ⟨vs, h1, h2⟩ := hv'
            obtain ⟨us, q1, q2⟩ := results_run iv ev' fn.results.toList vs h1
            have hrun : (results fn a'.tmps).run P w' = .ok (if h : us.toArray.size = 1 then us.toArray[0] else .tuple us.toArray) w' := by
              show (do let vs ← fn.results.mapM (resF a'); pure (if h : vs.size = 1 then vs[0] else .tuple vs) : Sem Value).run P w' = _
              simp only [Sem.run_bind, Array.mapM_eq_mapM_toList, Sem.run_map]
              rw [q2]
              rfl
            refine ⟨_, hrun, _, K', subρ ρ' (keepL m.length σ'.mem v.ids), ⟨_, _⟩, hk, rfl, ?_, (iv.sub hnd).weakF, ?_⟩
            · refine ⟨st.sub, st.keepK, st.keepF, fun b L hb => ?_, st.size, st.os, st.tape, st.output⟩
              have hlt := (hi.fr b L hb).1
              simp [subρ, keepL_pin hlt, st.loc b L hlt hb]
            · refine VR.ren sub_ok ?_
              rw [← h2]
              cases q1 with
              | nil => exact .tup [] [] .nil
              | cons x u xs us hx hxs =>
                cases hxs with
                | nil => exact hx
                | cons y u2 ys us2 hy hys =>
                  have := VR.tup (K := K') (ρ := ρ') (w := w') _ _ (.cons _ _ _ _ hx (.cons _ _ _ _ hy hys))
                  simpa using this
          · simp at hk
      cases x with
      | normal => simp only [exR] at hx; subst hx; exact fin hk
      | ret => simp only [exR] at hx; subst hx; exact fin hk
      | exit i => simp [finK] at hk
      | goto i => simp [finK] at hk

/-- **A function's contract, out of the interpreter's answer.** -/
theorem sound_of_run (hc : CallOK P call) {n : Nat} {f : FuncId} {args : List AV} {m : List Slot} (h : runF P hn call n f args m = some ans) : Sound P f args m ans := by
  intro K F ρ w vals hi hv
  refine (soundK_of_run hc h K F ρ w vals hi hv).mono ?_
  rintro e w' ⟨v, K', ρ', r, hk, rfl, st, iv, vr⟩
  simp only [retK, Option.some.injEq] at hk
  subst hk
  exact ⟨v, K', ρ', rfl, st, iv, vr⟩
end
end Go.Ab
