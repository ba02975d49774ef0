/- The framework, part 19: an operation sees only the slots that it reads, and its own operands. -/
import Derived.Test.YthmebldaalplpaaFw18
namespace Go.Ab
set_option linter.unusedVariables false

section
variable {P : Program} {hn : Hints} {call : Callf} {m m' : List Slot} {env env' : List AV} {r : Res}

theorem allocA_same {s : Nat} {t : TypeId} (h : allocA P s m t = some r) (hs : ∀ b ∈ r.rd, m'[b]? = m[b]?) : allocA P s m' t = some r := by
  unfold allocA at h ⊢
  split at h
  · exact newA_same h hs
  · simp at h

theorem boxA_same {s : Nat} {t : TypeId} {x : Operand} (h : boxA P s m env t x = some r) (hs : ∀ b ∈ r.rd, m'[b]? = m[b]?) : boxA P s m' env t x = some r := by
  unfold boxA at h ⊢
  split at h
  · exact newA_same h hs
  · simp at h

theorem buildSliceA_same {s : Nat} {t : TypeId} {n : Nat} {ps : Array (Nat × Operand)} (h : buildSliceA P s m env t n ps = some r) (hs : ∀ b ∈ r.rd, m'[b]? = m[b]?) : buildSliceA P s m' env t n ps = some r := by
  unfold buildSliceA at h ⊢
  split at h
  · simp at h
  · split at h
    · split at h
      · rename_i hc
        rw [if_pos hc]
        split at h
        · simp at h
        · split at h
          · split at h
            · rename_i hy
              rw [if_pos hy]
              split at h
              · rename_i fs w hf
                simp only [Option.bind_eq_some_iff] at h
                obtain ⟨l, h1, h2⟩ := h
                have hrd := (newA_free h2).2
                rw [frzL_same hf fun b hb => hs b (by rw [hrd]; simp only [List.mem_cons]; exact .inr hb)]
                simp only [h1, Option.bind_some]
                exact newA_same h2 hs
              · simp at h
            · simp at h
          · exact newA_same h hs
      · simp at h
    · simp at h

theorem makeSliceA_same {s : Nat} {t : TypeId} {l c : Operand} (h : makeSliceA P s m env t l c = some r) (hs : ∀ b ∈ r.rd, m'[b]? = m[b]?) : makeSliceA P s m' env t l c = some r := by
  unfold makeSliceA at h ⊢
  split at h
  · simp at h
  · split at h
    · split at h
      · split at h
        · rename_i hc
          rw [if_pos hc]
          exact newA_same h hs
        · simp at h
      · simp at h
    · simp at h

theorem loadA_same {t : TypeId} {x : Operand} (h : loadA P m env t x = some r) (hs : ∀ b ∈ r.rd, m'[b]? = m[b]?) : loadA P m' env t x = some r := by
  unfold loadA at h ⊢
  split at h
  · split at h
    · rename_i hg
      rw [if_pos hg]
      split at h
      · rename_i b j hb
        have hm : getObj? m' b = getObj? m b := getObj?_same (hs b (by
          split at h
          · simp only [Option.map_eq_some_iff] at h
            obtain ⟨v, _, rfl⟩ := h
            simp
          · simp at h))
        rw [hm]
        exact h
      · rename_i b i j hb
        have hm : rowOf m' b = rowOf m b := rowOf_same (hs b (by
          split at h
          · simp only [Option.map_eq_some_iff] at h
            obtain ⟨v, _, rfl⟩ := h
            simp
          · simp at h))
        rw [hm]
        exact h
      · exact h
      · simp at h
    · simp at h
  · simp at h

theorem storeA_same {t : TypeId} {x v : Operand} (h : storeA P m env t x v = some r) (hs : ∀ b ∈ r.rd, m'[b]? = m[b]?) : storeA P m' env t x v = some r := by
  unfold storeA at h ⊢
  split at h
  · split at h
    · rename_i hg
      rw [if_pos hg]
      split at h
      · rename_i b j hb
        have hm : getObj? m' b = getObj? m b := getObj?_same (hs b (by
          split at h
          · split at h
            · simp at h; subst h; simp
            · simp at h
          · simp at h))
        rw [hm]
        exact h
      · rename_i b i j hb
        split at h
        · rename_i y l hm
          split at h
          · rename_i fs w hf
            split at h
            · simp at h
            · rename_i hnb
              split at h
              · rename_i hj
                simp only [Option.map_eq_some_iff] at h
                obtain ⟨d, hd, rfl⟩ := h
                have hm' : getObj? m' b = getObj? m b := getObj?_same (hs b (by simp))
                rw [hm', hm]
                simp only
                rw [frzL_same hf fun c hc => hs c (by simp only [List.mem_cons]; exact .inr hc)]
                simp only
                rw [if_neg hnb, if_pos hj, hd]
                rfl
              · simp at h
          · simp at h
        · simp at h
      · simp at h
    · simp at h
  · simp at h

theorem sliceA_same {t : TypeId} {x : Operand} {lo hi mx : Option Operand} (h : sliceA P m env t x lo hi mx = some r) (hs : ∀ b ∈ r.rd, m'[b]? = m[b]?) : sliceA P m' env t x lo hi mx = some r := by
  unfold sliceA at h ⊢
  split at h
  · simp at h
  · split at h
    · exact h
    · exact h
    · rename_i b i hb
      have hm : rowOf m' b = rowOf m b := rowOf_same (hs b (by
        split at h
        · split at h
          · split at h
            · simp only [Option.map_eq_some_iff] at h
              obtain ⟨v, _, rfl⟩ := h
              simp
            · split at h
              · simp at h; subst h; simp
              · simp at h
          · simp at h
        · simp at h))
      rw [hm]
      exact h
    · simp at h

theorem indexAddrA_same {t : TypeId} {x i : Operand} (h : indexAddrA P m env t x i = some r) (hs : ∀ b ∈ r.rd, m'[b]? = m[b]?) : indexAddrA P m' env t x i = some r := by
  unfold indexAddrA at h ⊢
  split at h
  · split at h
    · split at h
      · split at h
        · exact h
        · rename_i b k hb
          have hm : rowOf m' b = rowOf m b := rowOf_same (hs b (by
            split at h
            · split at h
              · simp at h; subst h; simp
              · simp at h
            · simp at h))
          rw [hm]
          exact h
        · exact h
        · simp at h
      · simp at h
    · exact h
  · simp at h

theorem lenOpA_same {t : TypeId} {x : Operand} (h : lenOpA P m env t x = some r) (hs : ∀ b ∈ r.rd, m'[b]? = m[b]?) : lenOpA P m' env t x = some r := by
  unfold lenOpA at h ⊢
  split at h
  · split at h
    · simp at h
    · simp only [Option.map_eq_some_iff] at h ⊢
      obtain ⟨q, h1, h2⟩ := h
      refine ⟨q, ?_, h2⟩
      unfold lenA at h1 ⊢
      split at h1 <;> try exact h1
      rename_i b i hb
      simp only [Option.map_eq_some_iff] at h1
      obtain ⟨q', h3, h4⟩ := h1
      rw [rowOf_same (hs b (by rw [← h2, ← h4]; split <;> simp)), h3]
      simp [h4]
  · simp at h

theorem elemsOf_same {t : Ty} {v : AV} {xs : List t.den} {rd : List Nat} (h : elemsOf m t v = some (xs, rd)) (hs : ∀ b ∈ rd, m'[b]? = m[b]?) : elemsOf m' t v = some (xs, rd) := by
  unfold elemsOf at h ⊢
  split at h <;> try exact h
  rename_i b i
  have hm : rowOf m' b = rowOf m b := rowOf_same (hs b (by
    split at h
    · split at h
      · simp at h; rw [← h.2]; simp
      · simp at h
    · simp at h))
  rw [hm]
  exact h

theorem appendA_same {s : Nat} {ts : Array TypeId} {a x : Operand} (h : appendA P s m env ts a x = some r) (hs : ∀ b ∈ r.rd, m'[b]? = m[b]?) : appendA P s m' env ts a x = some r := by
  unfold appendA at h ⊢
  split at h
  · simp at h
  · split at h
    · split at h
      · rename_i hc
        rw [if_pos hc]
        split at h
        · simp at h
        · rename_i xs rd hxs
          have hrd : ∀ b ∈ rd, b ∈ r.rd := fun b hb => by
            split at h
            · rw [(newA_free h).2]; simp [hb]
            · rw [(newA_free h).2]; simp [hb]
            · split at h
              · split at h
                · split at h
                  · rw [(newA_free h).2]; simp [hb]
                  · rw [(newA_free h).2]; simp [hb]
                · simp at h
              · simp at h
            · simp at h
          rw [elemsOf_same hxs fun b hb => hs b (hrd b hb)]
          simp only
          split at h
          · exact newA_same h hs
          · exact newA_same h hs
          · rename_i b i hb
            split at h
            · rename_i z l hm
              have hbr : b ∈ r.rd := by
                split at h
                · split at h
                  · rw [(newA_free h).2]; simp
                  · rw [(newA_free h).2]; simp
                · simp at h
              rw [getObj?_same (hs b hbr), hm]
              simp only
              split at h
              · rename_i hz
                rw [dif_pos hz]
                split at h
                · rename_i h0; rw [if_pos h0]; exact newA_same h hs
                · rename_i h0; rw [if_neg h0]; exact newA_same h hs
              · simp at h
            · simp at h
          · simp at h
      · simp at h
    · simp at h

theorem builtinA_same {s : Nat} {o : Oper} {c : Call} (h : builtinA P s m env o c = some r) (hs : ∀ b ∈ r.rd, m'[b]? = m[b]?) : builtinA P s m' env o c = some r := by
  unfold builtinA at h ⊢
  split at h
  · split at h
    · unfold appendOp at h ⊢
      split at h
      · exact appendA_same h hs
      · simp at h
    · unfold lenOp at h ⊢
      split at h
      · split at h
        · exact h
        · exact lenOpA_same h hs
      · simp at h
    all_goals exact h
  · simp at h

theorem aop_same {s : Nat} {o : Oper} (h : aop P s m env o = some r) (hs : ∀ b ∈ r.rd, m'[b]? = m[b]?) : aop P s m' env o = some r := by
  unfold aop at h ⊢
  split at h <;> try exact h
  · exact allocA_same h hs
  · exact boxA_same h hs
  · exact buildSliceA_same h hs
  · exact loadA_same h hs
  · exact storeA_same h hs
  · exact makeSliceA_same h hs
  · split at h
    · exact h
    · exact sliceA_same h hs
  · exact indexAddrA_same h hs
  · exact builtinA_same h hs

/-! ### operands -/
theorem evParts_env {ps : Array (Nat × Operand)} (h : ∀ x ∈ (ps.toList.map (·.2)), ev env' x = ev env x) : evParts env' ps = evParts env ps := by
  unfold evParts
  apply List.map_congr_left
  intro p hp
  rw [h p.2 (List.mem_map.2 ⟨p, hp, rfl⟩)]

theorem scalarOp_env {o : Oper} (hsel : ∀ cs b, o.op ≠ .select cs b) (h : ∀ x ∈ o.op.operands, ev env' x = ev env x) : scalarOp P env' o = scalarOp P env o := by
  unfold scalarOp
  have h1 : (o.op.operands.all fun x => (toVC (ev env' x)).isSome) = (o.op.operands.all fun x => (toVC (ev env x)).isSome) := by
    rw [Bool.eq_iff_iff, Array.all_eq_true_iff_forall_mem, Array.all_eq_true_iff_forall_mem]
    constructor
    · intro h2 x hx; have := h2 x hx; rwa [h x hx] at this
    · intro h2 x hx; rw [h x hx]; exact h2 x hx
  have h2 : execOp (fun x => (toVC (ev env' x)).getD undef) o = execOp (fun x => (toVC (ev env x)).getD undef) o := execOp_congr o hsel fun x hx => by rw [h x hx]
  rw [h1, h2]

theorem boundA_env {d : Int} {x : Option Operand} (h : ∀ y, x = some y → ev env' y = ev env y) : boundA env' d x = boundA env d x := by
  unfold boundA
  cases x with
  | none => rfl
  | some y => simp only; rw [h y rfl]

theorem aop_env {s : Nat} {o : Oper} (h : ∀ x ∈ o.op.operands, ev env' x = ev env x) : aop P s m env' o = aop P s m env o := by
  have sc : (∀ cs b, o.op ≠ .select cs b) → scalarOp P env' o = scalarOp P env o := fun hs => scalarOp_env hs h
  unfold aop
  obtain ⟨dst, op, type, pos, after, guard⟩ := o
  cases op <;> simp only [Op.operands] at h <;> simp only
  case move x => unfold moveA; rw [h x (by simp)]
  case assign x => unfold moveA; rw [h x (by simp)]
  case pick c x y => unfold pickA; rw [h c (by simp), h x (by simp), h y (by simp)]
  case box t x => unfold boxA; rw [h x (by simp)]
  case build t ps => unfold buildA; rw [evParts_env fun x hx => h x (by simpa using hx)]
  case buildSlice t n ps => unfold buildSliceA; rw [evParts_env fun x hx => h x (by simpa using hx)]
  case load t x => unfold loadA; rw [h x (by simp)]
  case store t x v => unfold storeA; rw [h x (by simp), h v (by simp)]
  case nilCheck x => unfold nilCheckA; rw [h x (by simp)]
  case makeFunc f as cs =>
    unfold makeFuncA
    rw [List.map_congr_left (l := as.toList) (f := ev env') (g := ev env) fun x hx => h x (by simp at hx ⊢; exact .inl hx), List.map_congr_left (l := cs.toList) (f := ev env') (g := ev env) fun x hx => h x (by simp at hx ⊢; exact .inr hx)]
  case makeSlice t l c => unfold makeSliceA; rw [h l (by simp), h c (by simp)]
  case fieldAddr t x f => unfold fieldAddrA; rw [h x (by simp)]
  case field t x f => unfold fieldA; rw [h x (by simp)]
  case indexAddr t x i => unfold indexAddrA; rw [h x (by simp), h i (by simp)]
  case extract x i => unfold extractA; rw [h x (by simp)]
  case binOp op t x y yt =>
    have e := sc (by simp)
    unfold eqA; rw [h x (by simp), h y (by simp), e]
  case unOp => exact sc (by simp)
  case convert src dst x =>
    have e := sc (by simp)
    unfold cvtA; rw [h x (by simp), e]
  case index t x i =>
    have e := sc (by simp)
    unfold indexA; rw [h x (by simp), h i (by simp), e]
  case slice t x lo hi mx =>
    have hx := h x (by simp)
    rw [hx]
    have e1 : scalarOp P env' ⟨dst, .slice t x lo hi mx, type, pos, after, guard⟩ = scalarOp P env ⟨dst, .slice t x lo hi mx, type, pos, after, guard⟩ := sc (by simp)
    have e2 : sliceA P m env' t x lo hi mx = sliceA P m env t x lo hi mx := by
      unfold sliceA
      rw [hx]
      have b1 : boundA env' 0 lo = boundA env 0 lo := boundA_env fun y hy => h y (by subst hy; simp)
      have b2 : boundA env' 0 hi = boundA env 0 hi := boundA_env fun y hy => h y (by subst hy; simp)
      have b3 : boundA env' 0 mx = boundA env 0 mx := boundA_env fun y hy => h y (by subst hy; simp)
      rw [b1, b2, b3]
      cases hi with
      | none => cases mx <;> rfl
      | some y =>
        have hy := h y (by simp)
        cases mx with
        | none => simp only; rw [hy]
        | some z => simp only; rw [hy, h z (by simp)]
    rw [e1, e2]
  case call c =>
    obtain ⟨callee, args, ts⟩ := c
    have ha : ∀ x ∈ args.toList, ev env' x = ev env x := fun x hx => h x (by
      simp only [Call.operands, Array.mem_append]
      exact .inr (by simpa using hx))
    have e1 := sc (by simp)
    unfold builtinA
    simp only
    split
    · split
      · unfold appendOp
        simp only
        split
        · rename_i x y hxy
          unfold appendA
          rw [ha x (by rw [hxy]; simp), ha y (by rw [hxy]; simp)]
        · rfl
      · unfold lenOp
        simp only
        split
        · rename_i x t hx _
          rw [ha x (by rw [hx]; simp), e1]
          have : lenOpA P m env' t x = lenOpA P m env t x := by unfold lenOpA; rw [ha x (by rw [hx]; simp)]
          rw [this]
        · rfl
      all_goals first | exact e1 | rfl
    · rfl

theorem calleeOf_env {o : Oper} (h : ∀ x ∈ o.op.operands, ev env' x = ev env x) : calleeOf env' o.op = calleeOf env o.op := by
  unfold calleeOf
  split
  · rename_i x as ts hop
    rw [hop] at h
    simp only [Op.operands, Call.operands] at h
    rw [h x (by simp)]
    have : as.toList.map (ev env') = as.toList.map (ev env) := List.map_congr_left fun y hy => h y (by simp at hy ⊢; exact .inr hy)
    rw [this]
  · rfl

theorem opR_same {s : Nat} {o : Oper} {σ σ' : St} (h : opR P hn call s o σ = some r) (he : ∀ x ∈ o.op.operands, ev σ'.env x = ev σ.env x) (hs : ∀ b ∈ r.rd, σ'.mem[b]? = σ.mem[b]?) : opR P hn call s o σ' = some r := by
  unfold opR at h ⊢
  split at h
  · rename_i hc
    rw [if_pos hc, calleeOf_env he]
    split at h
    · simp at h
    · exact callP_same h hs
  · rename_i hc
    rw [if_neg hc, aop_env he]
    exact aop_same h hs
end
end Go.Ab
