/- The framework, part 20: whatever order a region draws, it comes to what the text's order comes to. -/
import Derived.Test.YthmebldaalplpaaFw19
namespace Go.Ab
set_option linter.unusedVariables false

section
variable {P : Program} {hn : Hints} {call : Callf} {ops : Array Oper} {base : Nat}

theorem put_comm (env : List AV) {x y : Option Tmp} (v u : AV) (h : ∀ d, x = some d → y ≠ some d) : put (put env x v) y u = put (put env y u) x v := by
  cases x with
  | none => rfl
  | some d =>
    cases y with
    | none => rfl
    | some e =>
      have hne : d ≠ e := fun he => h d rfl (he ▸ rfl)
      simp only [put]
      exact List.set_comm _ _ hne

theorem put_getD (env : List AV) {x : Option Tmp} (v : AV) {d : Nat} (h : x ≠ some d) : (put env x v).getD d .junk = env.getD d .junk := by
  cases x with
  | none => rfl
  | some e =>
    have hne : e ≠ d := fun he => h (he ▸ rfl)
    simp [put, List.getD, List.getElem?_set_ne hne]

theorem ev_put (env : List AV) {dst : Option Tmp} (v : AV) {x : Operand} (h : ∀ d, dst = some d → x ≠ .tmp d) : ev (put env dst v) x = ev env x := by
  cases x with
  | tmp t => exact put_getD env v fun e => h t e rfl
  | _ => rfl

theorem writeM_set_comm (m : List Slot) {c : Nat} {s : Slot} : ∀ (ws : List (Nat × Slot)), c ∉ ws.map (·.1) → writeM (m.set c s) ws = (writeM m ws).set c s := by
  intro ws
  induction ws generalizing m with
  | nil => intro _; rfl
  | cons p ws ih =>
    intro h
    obtain ⟨d, u⟩ := p
    simp only [List.map_cons, List.mem_cons, not_or] at h
    simp only [writeM]
    rw [List.set_comm _ _ h.1, ih _ h.2]

theorem writeM_comm (m : List Slot) (us : List (Nat × Slot)) : ∀ (ws : List (Nat × Slot)), (∀ c ∈ ws.map (·.1), c ∉ us.map (·.1)) → writeM (writeM m us) ws = writeM (writeM m ws) us := by
  intro ws
  induction ws generalizing m with
  | nil => intro _; rfl
  | cons p ws ih =>
    intro h
    obtain ⟨d, s⟩ := p
    simp only [writeM]
    rw [← writeM_set_comm m us (h d (by simp)), ih _ fun c hc => h c (by simp only [List.map_cons, List.mem_cons]; exact .inr hc)]

theorem meets_false {a b : List Nat} (h : meets a b = false) : ∀ c ∈ a, c ∉ b := by
  intro c hc hb
  unfold meets at h
  rw [List.any_eq_false] at h
  exact h c hc (by simpa using hb)

/-- A step hangs on what it looks at. -/
theorem stepD_same {i : Nat} {oi : Oper} {σ σ' σ1 : St} {t : Tch} (hi : ops[i]? = some oi) (h : stepD P hn call ops base i σ = some (σ1, t))
    (he : ∀ d ∈ oi.looksAt ops, σ'.env.getD d .junk = σ.env.getD d .junk) (hm : ∀ b ∈ t.rd, σ'.mem[b]? = σ.mem[b]?) :
    ∃ v ws, t.wr = ws.map (·.1) ∧ σ1 = ⟨put σ.env oi.dst v, writeM σ.mem ws⟩ ∧ stepD P hn call ops base i σ' = some (⟨put σ'.env oi.dst v, writeM σ'.mem ws⟩, t) := by
  have hops : ∀ x ∈ oi.op.operands, ev σ'.env x = ev σ.env x := fun x hx => by
    cases x with
    | tmp d => exact he d (List.mem_append_left _ (List.mem_filterMap.2 ⟨.tmp d, by simpa using hx, rfl⟩))
    | _ => rfl
  have hg : ∀ g want d, oi.guard = some (g, want) → (ops[g]?).bind (·.dst) = some d → σ'.env.getD d .junk = σ.env.getD d .junk := fun g want d h1 h2 =>
    he d (by simp [Oper.looksAt, h1, h2])
  unfold stepD at h ⊢
  simp only [hi] at h ⊢
  have go : (match opR P hn call (base + i) oi σ with
      | some r => if r.ok = true then some ((⟨put σ.env oi.dst r.val, writeM σ.mem r.wr⟩ : St), (⟨r.wr.map (·.1), r.rd⟩ : Tch)) else none
      | none => none) = some (σ1, t) → ∃ v ws, t.wr = ws.map (·.1) ∧ σ1 = ⟨put σ.env oi.dst v, writeM σ.mem ws⟩ ∧ (match opR P hn call (base + i) oi σ' with
      | some r => if r.ok = true then some ((⟨put σ'.env oi.dst r.val, writeM σ'.mem r.wr⟩ : St), (⟨r.wr.map (·.1), r.rd⟩ : Tch)) else none
      | none => none) = some (⟨put σ'.env oi.dst v, writeM σ'.mem ws⟩, t) := fun h1 => by
    split at h1
    · rename_i r hr
      split at h1
      · rename_i hok
        simp only [Option.some.injEq, Prod.mk.injEq] at h1
        obtain ⟨rfl, rfl⟩ := h1
        rw [opR_same hr hops hm]
        exact ⟨r.val, r.wr, rfl, rfl, by simp [hok]⟩
      · simp at h1
    · simp at h1
  have skip : some ((⟨put σ.env oi.dst undefA, σ.mem⟩ : St), (⟨[], []⟩ : Tch)) = some (σ1, t) → ∃ v ws, t.wr = ws.map (·.1) ∧ σ1 = ⟨put σ.env oi.dst v, writeM σ.mem ws⟩ ∧
      some ((⟨put σ'.env oi.dst undefA, σ'.mem⟩ : St), (⟨[], []⟩ : Tch)) = some (⟨put σ'.env oi.dst v, writeM σ'.mem ws⟩, t) := fun h1 => by
    simp only [Option.some.injEq, Prod.mk.injEq] at h1
    obtain ⟨rfl, rfl⟩ := h1
    exact ⟨undefA, [], rfl, rfl, rfl⟩
  split at h
  · exact go h
  · rename_i g want hgd
    split at h
    · exact skip h
    · rename_i d hd
      rw [hg g want d hgd hd]
      split at h
      · split at h
        · rename_i hb; simp only [hb, if_true]; exact go h
        · rename_i hb; rw [if_neg hb]; exact skip h
      · exact skip h
      · simp at h

/-- Two steps that are apart may change places. -/
theorem stepD_swap {i j : Nat} {oi oj : Oper} {σ σi σij : St} {ti tj : Tch} (hi : ops[i]? = some oi) (hj : ops[j]? = some oj) (hap : oi.apart ops oj = true) (hcl : clash ti tj = false)
    (h1 : stepD P hn call ops base i σ = some (σi, ti)) (h2 : stepD P hn call ops base j σi = some (σij, tj)) :
    ∃ σj, stepD P hn call ops base j σ = some (σj, tj) ∧ stepD P hn call ops base i σj = some (σij, ti) := by
  obtain ⟨a1, a2, a3⟩ := Oper.apart_spec hap
  simp only [clash, Bool.or_eq_false_iff] at hcl
  obtain ⟨⟨c1, c2⟩, c3⟩ := hcl
  obtain ⟨vi, wi, e1, e2, _⟩ := stepD_same (σ' := σ) hi h1 (fun _ _ => rfl) (fun _ _ => rfl)
  obtain ⟨vj, wj, f1, f2, f3⟩ := stepD_same (σ' := σ) hj h2 (fun d hd => by
    rw [e2]
    exact (put_getD σ.env vi fun e => a1 d e hd).symm) (fun b hb => by
    rw [e2]
    refine (writeM_other wi σ.mem ?_).symm
    rw [← e1]
    exact fun hc => meets_false c2 b hc hb)
  refine ⟨_, f3, ?_⟩
  obtain ⟨vi', wi', g1, g2, g3⟩ := stepD_same (σ' := ⟨put σ.env oj.dst vj, writeM σ.mem wj⟩) hi h1 (fun d hd => by
    exact put_getD σ.env vj fun e => a3 d e hd) (fun b hb => by
    refine writeM_other wj σ.mem ?_
    rw [← f1]
    exact fun hc => meets_false c3 b hb hc)
  rw [g3]
  congr 2
  have hvi : put σ.env oi.dst vi' = put σ.env oi.dst vi ∧ writeM σ.mem wi' = writeM σ.mem wi := by
    rw [e2] at g2
    simp only [St.mk.injEq] at g2
    exact ⟨g2.1.symm, g2.2.symm⟩
  rw [f2, e2]
  simp only [St.mk.injEq]
  constructor
  · rw [put_comm _ _ _ fun d hd => by
      intro he
      exact a2 d he hd, hvi.1]
  · have w1 : ∀ c ∈ wi'.map (·.1), c ∉ wj.map (·.1) := fun c hc hc' => meets_false c1 c (by rw [g1]; exact hc) (by rw [f1]; exact hc')
    rw [writeM_comm σ.mem wj wi' w1, hvi.2]

/-- Whatever order is picked, each operation touching what it touched in the text's order. -/
def anyT (P : Program) (hn : Hints) (call : Callf) (md : Region.Mode) (ops : Array Oper) (base : Nat) (T : Nat → Tch) (σf : St) : Nat → Array Bool → St → Prop
  | 0, listed, σ => Region.ready md ops listed = [] ∧ σ = σf
  | fuel + 1, listed, σ => (Region.ready md ops listed = [] → σ = σf) ∧
    ∀ i ∈ Region.ready md ops listed, ∃ σ', stepD P hn call ops base i σ = some (σ', T i) ∧ anyT P hn call md ops base T σf fuel (listed.setIfInBounds i true) σ'

theorem anyT_anyD {md : Region.Mode} {T : Nat → Tch} {σf : St} : ∀ (fuel : Nat) (listed : Array Bool) (σ : St), anyT P hn call md ops base T σf fuel listed σ → anyD P hn call md ops base σf fuel listed σ
  | 0, _, _, h => h
  | fuel + 1, listed, σ, h => ⟨h.1, fun i hi => let ⟨σ', h1, h2⟩ := h.2 i hi; ⟨σ', _, h1, anyT_anyD fuel _ _ h2⟩⟩

theorem anyT_first {md : Region.Mode} {T : Nat → Tch} {σf : St} {i : Nat} {oi : Oper} (hi : ops[i]? = some oi) :
    ∀ (fuel : Nat) (listed : Array Bool) (σ σi : St),
      (∀ j oj, ops[j]? = some oj → j ≠ i → listed.getD j true = false → (∀ e ∈ oj.after, Region.binds md e = true → e.on ≠ i) → oi.apart ops oj = true ∧ clash (T i) (T j) = false) →
      i ∈ Region.ready md ops listed → stepD P hn call ops base i σ = some (σi, T i) →
      anyT P hn call md ops base T σf fuel (listed.setIfInBounds i true) σi → anyT P hn call md ops base T σf (fuel + 1) listed σ := by
  intro fuel
  induction fuel with
  | zero =>
    intro listed σ σi _ hr hy H
    refine ⟨fun h => (by rw [h] at hr; cases hr), fun j hj => ?_⟩
    by_cases hji : j = i
    · subst hji; exact ⟨σi, hy, H⟩
    · have := ready_mono hj hji
      rw [H.1] at this
      cases this
  | succ fuel ih =>
    intro listed σ σi hfree hr hy H
    refine ⟨fun h => (by rw [h] at hr; cases hr), fun j hj => ?_⟩
    by_cases hji : j = i
    · subst hji; exact ⟨σi, hy, H⟩
    · obtain ⟨σij, s1, s2⟩ := H.2 j (ready_mono hj hji)
      obtain ⟨hjun, oj, hoj, hall⟩ := mem_ready.1 hj
      have hnot : ∀ e ∈ oj.after, Region.binds md e = true → e.on ≠ i := fun e he hb heq => by
        have h1 := hall e he hb
        have h0 := (mem_ready.1 hr).1
        rw [heq] at h1
        rcases Nat.lt_or_ge i listed.size with h' | h'
        · simp [h'] at h0 h1; rw [h0] at h1; cases h1
        · simp [Array.getElem?_eq_none h'] at h1
      obtain ⟨f1, f2⟩ := hfree j oj hoj hji hjun hnot
      obtain ⟨σj, k1, k2⟩ := stepD_swap hi hoj f1 f2 hy s1
      refine ⟨σj, k1, ?_⟩
      refine ih (listed.setIfInBounds j true) σj σij (fun k ok hk hki hun hno => ?_) (ready_mono hr (Ne.symm hji)) k2 (by rw [Array.setIfInBounds_comm _ _ hji]; exact s2)
      refine hfree k ok hk hki ?_ hno
      by_cases hjk : j = k
      · subst hjk; exact hjun
      · rw [getD_set_ne true hjk] at hun; exact hun

theorem drawOk_get : ∀ {T : List Tch} {k i j : Nat} {x y : Tch} {oj : Oper}, drawOk ops T k = true → T[i]? = some x → T[i + 1 + j]? = some y → ops[k + i + 1 + j]? = some oj →
    (∃ e ∈ oj.after, (Region.binds .any e && e.on == k + i) = true) ∨ clash x y = false
  | [], k, i, j, x, y, oj, h, hx, hy, ho => by simp at hx
  | t :: T, k, i, j, x, y, oj, h, hx, hy, ho => by
    simp only [drawOk, Bool.and_eq_true] at h
    cases i with
    | zero =>
      simp only [List.getElem?_cons_zero, Option.some.injEq] at hx
      subst hx
      have hy' : T[j]? = some y := by rw [show 0 + 1 + j = j + 1 by omega] at hy; simpa using hy
      have := List.all_eq_true.1 h.1 (y, j) (by
        rw [List.mem_zipIdx_iff_getElem?]
        exact hy')
      simp only at this
      rw [show k + 1 + j = k + 0 + 1 + j by omega, ho] at this
      simp only [Bool.or_eq_true, Bool.not_eq_true'] at this
      rcases this with h1 | h1
      · exact .inr h1
      · rw [Array.any_eq_true'] at h1
        obtain ⟨e, he, hb⟩ := h1
        exact .inl ⟨e, he, by simpa using hb⟩
    | succ i =>
      have hx' : T[i]? = some x := by simpa using hx
      have hy' : T[i + 1 + j]? = some y := by rw [show i + 1 + 1 + j = (i + 1 + j) + 1 by omega] at hy; simpa using hy
      have := drawOk_get h.2 hx' hy' (oj := oj) (by rw [show k + 1 + i + 1 + j = k + (i + 1) + 1 + j by omega]; exact ho)
      rw [show k + 1 + i = k + (i + 1) by omega] at this
      exact this

/-- The text's order, told. -/
def lexD (P : Program) (hn : Hints) (call : Callf) (ops : Array Oper) (base : Nat) (T : List Tch) (σf : St) : Nat → Nat → St → Prop
  | 0, _, σ => σ = σf
  | n + 1, k, σ => ∃ σ' t, T[k]? = some t ∧ stepD P hn call ops base k σ = some (σ', t) ∧ lexD P hn call ops base T σf n (k + 1) σ'

theorem runOps_lex {ans : AV × List Slot} (hc : CallOK P call) {kk : St → List Tch → Ans} :
    ∀ (l : List Oper) (i : Nat) (σ : St) (T : List Tch), (∀ j, l[j]? = ops[i + j]?) → T.length = i → runOps P hn call true ops base l i σ T kk = some ans →
      ∃ σf Tf, kk σf Tf = some ans ∧ (∃ r, Tf = T ++ r) ∧ Tf.length = i + l.length ∧ lexD P hn call ops base Tf σf l.length i σ
  | [], i, σ, T, hl, hT, h => ⟨σ, T, by simpa [runOps] using h, ⟨[], by simp⟩, by simpa using hT, rfl⟩
  | o :: r, i, σ, T, hl, hT, h => by
    have ho : ops[i]? = some o := by simpa using (hl 0).symm
    obtain ⟨σ', t, h1, h2⟩ := runOps_stepD hc ho h
    obtain ⟨σf, Tf, k1, ⟨q, k2⟩, k3, k4⟩ := runOps_lex hc r (i + 1) σ' (T ++ [t]) (fun j => by have := hl (j + 1); simp only [List.getElem?_cons_succ] at this; rw [this]; congr 1; omega) (by simp [hT]) h1
    refine ⟨σf, Tf, k1, ⟨t :: q, by rw [k2]; simp⟩, by rw [k3]; simp; omega, σ', t, ?_, h2, k4⟩
    rw [k2, List.append_assoc, List.getElem?_append_right (by omega), hT]
    simp

theorem bit_lookM {d : Nat} : ∀ (l : List Nat) (n : Nat), d ∈ l ∨ n.testBit d = true → (l.foldl (fun n d => n ||| bit d) n).testBit d = true
  | [], n, h => by simpa using h
  | x :: l, n, h => by
    rw [List.foldl_cons]
    refine bit_lookM l _ ?_
    rcases h with h | h
    · rcases List.mem_cons.1 h with h | h
      · subst h; right; simp [bit, Nat.testBit_or, Nat.testBit_shiftLeft]
      · exact .inl h
    · right; simp [Nat.testBit_or, h]

theorem bit_and {d m : Nat} (h : Nat.beq (bit d &&& m) 0 = true) : m.testBit d = false := by
  have h := Nat.eq_of_beq_eq_true h
  have h2 := congrArg (fun n => n.testBit d) h
  simp only [Nat.testBit_and, Nat.zero_testBit, bit] at h2
  simpa [Nat.testBit_shiftLeft] using h2

theorem apartM_spec {o o' : Oper} (h : apartM (dstM o, lookM ops o, o.after) (dstM o', lookM ops o', o'.after) = true) : o.apart ops o' = true := by
  simp only [apartM, Bool.and_eq_true] at h
  obtain ⟨h1, h2⟩ := h
  simp only [Oper.apart, Bool.and_eq_true]
  constructor
  · cases hd : o.dst with
    | none => rfl
    | some d =>
      simp only [dstM, hd] at h1
      have h3 := bit_and h1
      rw [Nat.testBit_or, Bool.or_eq_false_iff] at h3
      simp only [Bool.and_eq_true, Bool.not_eq_true', bne_iff_ne, ne_eq]
      constructor
      · rw [Bool.eq_false_iff]
        intro hc
        have := bit_lookM (o'.looksAt ops) 0 (.inl (List.contains_iff_mem.1 hc))
        unfold lookM at h3
        rw [this] at h3
        cases h3.1
      · intro he
        have := h3.2
        cases he' : o'.dst with
        | none => rw [he'] at he; cases he
        | some d' =>
          rw [he'] at he
          cases he
          simp [he', bit, Nat.testBit_shiftLeft] at this
  · cases hd : o'.dst with
    | none => rfl
    | some d =>
      simp only [dstM, hd] at h2
      have h3 := bit_and h2
      simp only [Bool.not_eq_true']
      rw [Bool.eq_false_iff]
      intro hc
      have := bit_lookM (o.looksAt ops) 0 (.inl (List.contains_iff_mem.1 hc))
      unfold lookM at h3
      rw [this] at h3
      cases h3

theorem fastL_get : ∀ {L : List (Nat × Nat × Array Edge)} {k i : Nat} {x : Nat × Nat × Array Edge}, fastL L k = true → L[i]? = some x →
    (∀ e ∈ x.2.2, Region.binds .any e = true → e.on < k + i) ∧ ∀ j y, L[i + 1 + j]? = some y → apartM x y = true ∨ ∃ e ∈ y.2.2, (Region.binds .any e && e.on == k + i) = true
  | [], k, i, x, h, hx => by simp at hx
  | z :: L, k, i, x, h, hx => by
    simp only [fastL, Bool.and_eq_true] at h
    obtain ⟨⟨h1, h2⟩, h3⟩ := h
    cases i with
    | zero =>
      simp only [List.getElem?_cons_zero, Option.some.injEq] at hx
      subst hx
      refine ⟨fun e he hb => ?_, fun j y hy => ?_⟩
      · have := Array.all_eq_true_iff_forall_mem.1 h1 e he
        simpa [hb] using this
      · have hy' : L[j]? = some y := by rw [show 0 + 1 + j = j + 1 by omega] at hy; simpa using hy
        have := List.all_eq_true.1 h2 y (List.mem_of_getElem? hy')
        simp only [Bool.or_eq_true] at this
        rcases this with h | h
        · exact .inl h
        · rw [Array.any_eq_true'] at h
          exact .inr h
    | succ i =>
      have := fastL_get (i := i) h3 (by simpa using hx)
      rw [show k + 1 + i = k + (i + 1) by omega] at this
      refine ⟨this.1, fun j y hy => this.2 j y ?_⟩
      rw [show i + 1 + 1 + j = (i + 1 + j) + 1 by omega] at hy
      simpa using hy

theorem lex_anyT {T : List Tch} {σf : St} (hd : drawOk ops T 0 = true) (hTl : T.length = ops.size) (hB : fastB ops = true) :
    ∀ (n k : Nat) (listed : Array Bool) (σ : St), k + n = ops.size → (∀ j, j < ops.size → listed.getD j true = false → k ≤ j) → (∀ j, j < k → listed.getD j false = true) → (∀ j, k ≤ j → j < ops.size → listed.getD j true = false) →
      listed.size = ops.size → lexD P hn call ops base T σf n k σ →
      anyT P hn call .any ops base (fun i => T.getD i ⟨[], []⟩) σf n listed σ
  | 0, k, listed, σ, hk, hl, hl2, hl3, hls, h => by
    refine ⟨List.eq_nil_iff_forall_not_mem.2 fun j hj => ?_, h⟩
    obtain ⟨h1, o, ho, _⟩ := mem_ready.1 hj
    have hjs : j < ops.size := (Array.getElem?_eq_some_iff.1 ho).1
    have := hl j hjs h1
    omega
  | n + 1, k, listed, σ, hk, hl, hl2, hl3, hls, h => by
    obtain ⟨σ', t, h1, h2, h3⟩ := h
    have hlt : k < ops.size := by omega
    have ho : ops[k]? = some ops[k] := Array.getElem?_eq_getElem hlt
    have hTk : T.getD k ⟨[], []⟩ = t := by simp [List.getD, h1]
    have hL : ∀ (j : Nat) (oj : Oper), ops[j]? = some oj → (ops.toList.map fun o => (dstM o, lookM ops o, o.after))[j]? = some (dstM oj, lookM ops oj, oj.after) := fun j oj hj => by
      rw [List.getElem?_map, Array.getElem?_toList, hj]; rfl
    obtain ⟨hready, hfree⟩ := fastL_get hB (hL k _ ho)
    refine anyT_first ho n listed σ σ' (fun j oj hj hji hun hno => ?_) (mem_ready.2 ⟨hl3 k (Nat.le_refl k) hlt, _, ho, fun e he hb => hl2 _ (by have := hready e he hb; omega)⟩) (by simp only [hTk]; exact h2) ?_
    · have hjs : j < ops.size := (Array.getElem?_eq_some_iff.1 hj).1
      have hkj := hl j hjs hun
      have hty : T[j]? = some T[j] := List.getElem?_eq_getElem (by omega)
      have := drawOk_get (i := k) (j := j - k - 1) (x := t) (y := T[j]) (oj := oj) hd h1 (by rw [show k + 1 + (j - k - 1) = j by omega]; exact hty) (by rw [show 0 + k + 1 + (j - k - 1) = j by omega]; exact hj)
      refine ⟨?_, ?_⟩
      · rcases hfree (j - k - 1) _ (by rw [show k + 1 + (j - k - 1) = j by omega]; exact hL j oj hj) with h | ⟨e, he, hb⟩
        · exact apartM_spec h
        · simp only [Bool.and_eq_true, beq_iff_eq] at hb
          exact absurd (by omega) (hno e he hb.1)
      · rcases this with ⟨e, he, hb⟩ | hcl
        · simp only [Bool.and_eq_true, beq_iff_eq] at hb
          exact absurd (by omega) (hno e he hb.1)
        · simp only [hTk]
          rw [show T.getD j ⟨[], []⟩ = T[j] by simp [List.getD, hty]]
          exact hcl
    · refine lex_anyT hd hTl hB n (k + 1) _ σ' (by omega) (fun j hj hun => ?_) (fun j hj => ?_) (fun j hj hjs => ?_) (by simpa using hls) h3
      · by_cases hkj : k = j
        · subst hkj
          exfalso
          rcases Nat.lt_or_ge k listed.size with h' | h'
          · simp [h'] at hun
          · simp [h'] at hun
        · rw [getD_set_ne true hkj] at hun
          have := hl j hj hun
          omega
      · by_cases hkj : k = j
        · subst hkj
          simp [hls, hlt]
        · have h4 := hl2 j (by omega)
          rw [Array.getD_eq_getD_getElem?] at h4 ⊢
          rw [Array.getElem?_setIfInBounds_ne hkj]
          exact h4
      · have hkj : k ≠ j := by omega
        rw [getD_set_ne true hkj]
        exact hl3 j (by omega) hjs

/-- Regions. -/
theorem regionA_sound (hc : CallOK P call) {id : Nat} {dr : Bool} {σ : St} {k : St → Ans} {ans : AV × List Slot} {pin : Nat} {K0 F : Nat → Prop} {ρ0 : Locs} {w0 : World} {Q : Exit → Act → World → Prop} {a : Act} {w : World}
    (h : regionA P hn call ops dr σ k = some ans) (hs : SR pin K0 F ρ0 w0 σ a w) (hQ : ∀ σ' a' w', k σ' = some ans → SR pin K0 F ρ0 w0 σ' a' w' → Q .normal a' w') :
    (Code.region id ops dr).wp P Q a w := by
  have hs0 : SR pin K0 F ρ0 w0 ⟨σ.env, σ.mem ++ List.replicate ops.size .free⟩ a w := by
    obtain ⟨K, ρ, st, iv, e, l, d⟩ := hs
    exact ⟨K, ρ, st, iv.grow _, e, l, d⟩
  unfold regionA at h
  simp only at h
  cases dr with
  | false =>
    simp only [Bool.false_eq_true, if_false] at h
    refine wp_region ?_
    have := runOps_sound hc (Q := Q) (fun σ' T a' w' h1 h2 => hQ σ' a' w' h1 h2) ops.toList 0 _ [] a w (fun j => by simp) h hs0
    rw [List.range_eq_range']
    simpa using this
  | true =>
    simp only [if_true] at h
    split at h
    · rename_i hcond
      simp only [Bool.and_eq_true] at hcond
      obtain ⟨hm, hB⟩ := hcond
      obtain ⟨σf, Tf, k1, _, k3, k4⟩ := runOps_lex hc ops.toList 0 _ [] (fun j => by simp) rfl h
      split at k1
      · rename_i hd
        have hT := lex_anyT (P := P) (hn := hn) (call := call) (base := σ.mem.length) (T := Tf) (σf := σf) hd (by simpa using k3) hB ops.size 0 (Array.replicate ops.size false) _ (by simp) (fun j _ _ => Nat.zero_le _) (fun j hj => by omega) (fun j _ hj => by simp [hj]) (by simp) (by simpa using k4)
        refine wp_region_any hm (anyD_wp hc (fun a' w' hs' => hQ σf a' w' k1 hs') _ _ _ a _ (anyT_anyD _ _ _ hT) ?_)
        obtain ⟨K, ρ, st, iv, e, l, d⟩ := hs0
        refine ⟨K, ρ, ⟨st.sub, st.keepK, st.keepF, st.loc, st.size, st.os, st.tape, st.output⟩, iv.heap rfl, fun i => ?_, l, d⟩
        exact VR.mono (w := w) (w' := { w with drawn := w.drawn + 1 }) (fun _ x => x) (fun _ _ => rfl) (fun _ _ x => x) (e i)
      · simp at k1
    · simp at h
end
end Go.Ab
