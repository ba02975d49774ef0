/- The framework, part 7: each operation does what the interpreter says. -/
import Derived.Test.YthmebldaalplpaaFw6
namespace Go.Ab
set_option linter.unusedVariables false

section
variable {P : Program} {K F : Nat → Prop} {ρ : Locs} {m : List Slot} {w : World}

theorem run_typeInfo' {t : TypeId} {i : TypeInfo} (h : P.info? t = some i) (w : World) : (typeInfo t).run P w = .ok i w := by simp [typeInfo, h]
theorem run_sizeOf' {t : TypeId} {n : Nat} (h : sizeP P t = some n) (w : World) : (sizeOf t).run P w = .ok n w := by
  unfold sizeP at h
  simp only [Option.map_eq_some_iff] at h
  obtain ⟨i, h1, rfl⟩ := h
  simp [sizeOf, run_typeInfo' h1]
theorem run_isAgg' {t : TypeId} {g : Bool} (h : isAggP P t = some g) (w : World) : (isAgg t).run P w = .ok g w := by
  unfold isAggP at h
  simp only [Option.map_eq_some_iff] at h
  obtain ⟨d, h1, rfl⟩ := h
  simp only [isAgg, Sem.run_bind, run_underlying h1, Result.andThen_ok]
  cases d <;> rfl
theorem run_zeroValue' {t : TypeId} {z : Value} (h : (P.info? t).bind (·.zero) = some z) (w : World) : (zeroValue t).run P w = .ok z w := by
  simp only [Option.bind_eq_some_iff] at h
  obtain ⟨i, h1, h2⟩ := h
  simp [zeroValue, run_typeInfo' h1, h2]

theorem zeroA_some {t : TypeId} {cs : List AV} (h : (zeroA P t).bind AV.cells = some cs) : ∃ z, (P.info? t).bind (·.zero) = some z ∧ (fixT P t (cstC z)).cells = some cs := by
  simp only [zeroA, Option.bind_eq_some_iff, Option.map_eq_some_iff] at h
  obtain ⟨a, ⟨z, ⟨i, h1, h2⟩, rfl⟩, h3⟩ := h
  exact ⟨z, by simp [h1, h2], h3⟩

theorem VR.cells {a : AV} {v : Value} {cs : List AV} (h : VR K ρ w a v) (hc : a.cells = some cs) : VRL K ρ w cs v.cells.toList := by
  cases h <;> simp [AV.cells] at hc <;> subst hc <;> simp only [Value.cells]
  case agg h => exact h
  case ro e l h => obtain ⟨a, c, h1, h2⟩ := id h; subst h1; exact .cons _ _ _ _ (.ro _ _ _ h) .nil
  case tail b i L h ht => obtain ⟨_, a, c, h1, _⟩ := id ht; subst h1; exact .cons _ _ _ _ (.tail _ _ L _ h ht) .nil
  all_goals (refine .cons _ _ _ _ ?_ .nil)
  case bool => exact .bool _
  case int => exact .int _ _
  case flt => exact .flt _ _
  case cpx => exact .cpx _ _ _
  case str => exact .str _
  case nilp => exact .nilp
  case nilm => exact .nilm
  case nilf => exact .nilf
  case nili => exact .nili
  case nil0 => exact .nil0 _
  case nils => exact .nils _ _
  case rop t x j blk off g hk hc h => exact .rop _ _ _ _ _ g hk hc h
  case ptr b j L h => exact .ptr _ _ _ h
  case eptr b i j L h hlt => exact .eptr _ _ _ _ h hlt
  case bsl b n c L h hc => exact .bsl _ _ _ _ h hc
  case fn f a c as cs ha hc => exact .fn _ _ _ _ _ ha hc
  case ifc t a v h => exact .ifc _ _ _ h
  case tup cs vs h => exact .tup _ _ h

theorem VR.oneCell {a : AV} {v : Value} (h : VR K ρ w a v) (hc : a.cell = true) : v.oneCell' = true := by
  cases h <;> simp [AV.cell] at hc <;> try rfl
  case ro e l h => obtain ⟨a, c, h1, h2⟩ := h; subst h1; rfl
  case tail b i L h ht => obtain ⟨_, a, c, h1, _⟩ := ht; subst h1; rfl

theorem VRL.oneCell {as : List AV} {vs : List Value} (h : VRL K ρ w as vs) (hc : as.all AV.cell = true) : ∀ v ∈ vs, v.oneCell' = true := by
  induction as generalizing vs with
  | nil => cases h; simp
  | cons a as ih =>
    cases h with
    | cons _ v _ vs h t =>
      simp only [List.all_cons, Bool.and_eq_true] at hc
      intro x hx
      rcases List.mem_cons.1 hx with rfl | hx
      · exact h.oneCell hc.1
      · exact ih t hc.2 x hx

theorem alloc_old (w : World) (o : Obj) {b : Nat} (h : b < w.heap.size) : (w.alloc o).heap[b]? = w.heap[b]? := by
  show (w.heap.push o)[b]? = _
  rw [Array.getElem?_push, if_neg (by omega)]

/-- What is asked of an operation's run. -/
def Done (P : Program) (K F : Nat → Prop) (ρ : Locs) (m : List Slot) (w : World) (r : Res) (res : Result Next) : Prop :=
  ∃ v w' K' ρ', (res = .ok (.value v) w' ∨ (res = .ok .skip w' ∧ v = undef)) ∧ Step K F ρ w K' ρ' w' ∧ Inv K' F ρ' (writeM m r.wr) w' ∧ VR K' ρ' w' r.val v

theorem Done.plain {v : AV} {u : Value} {rd : List Nat} {ok : Bool} (hi : Inv K F ρ m w) (hv : VR K ρ w v u) {res : Result Next} (hr : res = .ok (.value u) w) :
    Done P K F ρ m w ⟨ok, v, [], rd⟩ res := ⟨u, w, K, ρ, .inl hr, Step.refl _ _ _ _, hi, hv⟩

theorem Done.of_pure {v : AV} {r : Res} {u : Value} (h : Res.pure v = some r) (hi : Inv K F ρ m w) (hv : VR K ρ w v u) {res : Result Next} (hr : res = .ok (.value u) w) : Done P K F ρ m w r res := by
  simp only [Res.pure, Option.some.injEq] at h
  subst h
  exact Done.plain hi hv hr

variable {env : List AV} {a : Act} {r : Res}

theorem scalarOp_sound {o : Oper} (hi : Inv K F ρ m w) (he : EnvR K ρ w env a.tmps) (hsel : ∀ cs b, o.op ≠ .select cs b) (h : scalarOp P env o = some r) :
    Done P K F ρ m w r ((execOp a.eval o).run P w) := by
  unfold scalarOp at h
  split at h
  · rename_i hall
    have hρ : ∀ x ∈ o.op.operands, a.eval x = (toVC (ev env x)).getD undef := fun x hx => by
      have := Array.all_eq_true_iff_forall_mem.1 hall x hx
      obtain ⟨y, hy⟩ := Option.isSome_iff_exists.1 this
      rw [hy, Option.getD_some]
      exact toVC_eq hy (ev_vr he x)
    rw [execOp_congr o hsel hρ]
    split at h
    · rename_i v hv
      simp only [Option.map_eq_some_iff] at h
      obtain ⟨b, hb, rfl⟩ := h
      exact Done.plain hi (ofV_vr hb) (semEv_run w hv)
    · simp at h
  · simp at h

theorem moveA_sound {t : TypeId} {x : Operand} (hi : Inv K F ρ m w) (he : EnvR K ρ w env a.tmps) (h : moveA P env t x = some r) :
    Done P K F ρ m w r ((pure (Next.value (a.eval x)) : Sem Next).run P w) :=
  Done.of_pure h hi (fixT_vr P t (ev_vr he x)) rfl

theorem pickA_sound {c x y : Operand} (hi : Inv K F ρ m w) (he : EnvR K ρ w env a.tmps) (h : pickA env c x y = some r) :
    Done P K F ρ m w r ((do pure (Next.value (if ← asBool (a.eval c) then a.eval x else a.eval y)) : Sem Next).run P w) := by
  unfold pickA at h
  have hc := ev_vr he c
  have hx := ev_vr he x
  have hy := ev_vr he y
  split at h
  · rename_i b hb
    rw [hb] at hc
    cases hc' : a.eval c <;> rw [hc'] at hc <;> cases hc
    split at h
    · rename_i p q h1 h2
      rw [h1] at hx
      rw [h2] at hy
      refine Done.of_pure h hi (u := if b then a.eval x else a.eval y) ?_ (by simp [asBool])
      cases b
      · simpa using hy
      · simpa using hx
    · refine Done.of_pure h hi (u := if b then a.eval x else a.eval y) ?_ (by simp [asBool])
      cases b
      · simpa using hy
      · simpa using hx
  · simp at h

/-- A new object in a new block. -/
theorem new_sound {s : Nat} {v : AV} {o : AObj} {ok : Bool} {wr : List (Nat × Slot)} {rd : List Nat} {m0 : List Slot} (h : newA s m0 v o ok wr rd = some r)
    {K0 : Nat → Prop} (hs : Step K0 F ρ w K ρ w) (hi : Inv K F ρ (writeM m0 wr) w) (hfr : (writeM m0 wr)[s]? = some .free) (ho : o.own = true)
    {vs : Array Value} {e : TypeId} {L : Loc} (hn : L.nil = false) (hb : L.blk = w.heap.size)
    (hor : OR K (upd ρ s L) (w.alloc (.cells vs e)) L o) {u : Value} (hv : VR K (upd ρ s L) (w.alloc (.cells vs e)) v u)
    {res : Result Next} {w1 : World} (hw1 : w1.heap = w.heap ∧ w1.os = w.os ∧ w1.tape = w.tape ∧ w1.output = w.output) (hres : res = .ok (.value u) (w1.alloc (.cells vs e))) : Done P K0 F ρ m0 w r res := by
  unfold newA at h
  split at h
  · simp only [Option.some.injEq] at h
    subst h
    have hlt : s < (writeM m0 wr).length := (List.getElem?_eq_some_iff.1 hfr).1
    have hρ : ρ s = none := by
      cases hρ : ρ s with
      | none => rfl
      | some L' => exact absurd hfr (hi.fr s L' hρ).2
    have hheap : (w1.alloc (.cells vs e)).heap = (w.alloc (.cells vs e)).heap := congrArg (fun h : Array Obj => h.push (.cells vs e)) hw1.1
    have hsame : ∀ b, b < w.heap.size → (L.nil = true ∨ b ≠ L.blk) → (w.alloc (.cells vs e)).heap[b]? = w.heap[b]? := fun b hb' _ => by
      exact alloc_old w _ hb'
    have hfree : L.nil = false → ¬ K L.blk ∧ ¬ F L.blk := fun _ => ⟨fun hk => absurd (hi.kw _ hk) (by omega), fun hf => absurd (hi.fw _ hf) (by omega)⟩
    refine ⟨u, w1.alloc (.cells vs e), K, upd ρ s L, .inl hres, ?_, ?_, ?_⟩
    · have st := Step.put (w' := w.alloc (.cells vs e)) hi (.inl hρ) (by simp) hsame hfree rfl rfl rfl
      have := hs.trans st
      exact ⟨this.sub, fun b hb => by rw [hheap]; exact this.keepK b hb, fun b hb => by rw [hheap]; exact this.keepF b hb, this.loc, by rw [hheap]; exact this.size, hw1.2.1, hw1.2.2.1, hw1.2.2.2⟩
    · simp only [writeM_append, writeM]
      refine Inv.heap ?_ hheap
      exact Inv.put (w' := w.alloc (.cells vs e)) hi hlt (.inl hρ) ho (by simp) hsame (fun hn' => ⟨(hfree hn').1, (hfree hn').2, fun b' o' L' hbs hm' ho' hL' hnil' he' => by
        obtain ⟨L2, h1, h2, _⟩ := hi.ob b' o' hm'
        rw [hL'] at h1
        obtain rfl := Option.some.inj h1
        have := h2.lt hnil'
        omega⟩) hor
    · exact VR.mono (fun _ x => x) (fun b hb => by rw [hheap]) (fun _ _ x => x) hv
  · simp at h

theorem heap_alloc' (w : World) (o : Obj) : (w.alloc o).heap[w.heap.size]? = some o := by
  show (w.heap.push o)[w.heap.size]? = _
  rw [Array.getElem?_push, if_pos rfl]

theorem keep_alloc (hi : Inv K F ρ m w) (o : Obj) : ∀ b, K b → (w.alloc o).heap[b]? = w.heap[b]? := fun b hb => by
  exact alloc_old w o (hi.kw b hb)

theorem upd_mono {s : Nat} (hi : Inv K F ρ m w) (hfr : m[s]? = some .free) (L : Loc) : ∀ b L', ρ b = some L' → upd ρ s L b = some L' :=
  upd_loc (.inl (by
    cases hρ : ρ s with
    | none => rfl
    | some L' => exact absurd hfr (hi.fr s L' hρ).2))

/-- A new variable. -/
theorem newbox_sound {s : Nat} {cs : List AV} {vs : List Value} (hi : Inv K F ρ m w) (h : newA s m (.ptr s 0) (.box cs) true [] [] = some r) (hv : VRL K ρ w cs vs) {t : TypeId}
    {res : Result Next} (hres : res = .ok (.value (.pointer (some ⟨w.heap.size, 0, none⟩))) (w.alloc (.cells vs.toArray t))) : Done P K F ρ m w r res := by
  have hfr : m[s]? = some .free := by
    unfold newA at h
    split at h
    · assumption
    · simp at h
  refine new_sound h (Step.refl _ _ _ _) hi hfr rfl (L := ⟨false, w.heap.size, 0, 0, 0, 0⟩) rfl rfl ?_ ?_ ⟨rfl, rfl, rfl, rfl⟩ hres
  · exact ⟨rfl, rfl, vs, t, heap_alloc' _ _, VRL.mono (fun _ x => x) (keep_alloc hi _) (upd_mono hi hfr _) hv⟩
  · exact .ptr s 0 ⟨false, w.heap.size, 0, 0, 0, 0⟩ (by simp [upd])

theorem allocA_sound {s : Nat} {t : TypeId} (hi : Inv K F ρ m w) (h : allocA P s m t = some r) :
    Done P K F ρ m w r ((do pure (.value (← Instr.alloc t true (.tuple #[]))) : Sem Next).run P w) := by
  unfold allocA at h
  split at h
  · rename_i z hz
    obtain ⟨zv, h1, h2⟩ := zeroA_some hz
    have hv := VR.cells (K := K) (ρ := ρ) (w := w) (fixT_vr P t (cstC_vr zv)) h2
    refine newbox_sound hi h hv (t := t) ?_
    simp [Instr.alloc, run_zeroValue' h1, newVar, newRow]
  · simp at h

theorem boxA_sound {s : Nat} {t : TypeId} {x : Operand} (hi : Inv K F ρ m w) (he : EnvR K ρ w env a.tmps) (h : boxA P s m env t x = some r) :
    Done P K F ρ m w r ((do pure (.value (← Instr.box t (a.eval x))) : Sem Next).run P w) := by
  unfold boxA at h
  split at h
  · rename_i cs hc
    have hv := VR.cells (fixT_vr P t (ev_vr he x)) hc
    refine newbox_sound hi h hv (t := t) ?_
    simp [Instr.box, newVar, newRow]
  · simp at h

/-! ### parts of aggregates -/
theorem laid_vr {cs ds : List AV} {us vs : List Value} (h : VRL K ρ w cs us) (h' : VRL K ρ w ds vs) (off : Nat) :
    VRL K ρ w (laid cs off ds) (us.take off ++ vs ++ us.drop (off + vs.length)) := by
  unfold laid
  rw [h'.length]
  exact ((h.take off).append h').append (h.drop _)

theorem foldl_set (vs : List Value) : ∀ (i off : Nat) (pre us post : List Value), pre.length = off + i → us.length = vs.length →
    (vs.zipIdx i).foldl (fun cs (c, j) => cs.setIfInBounds (off + j) c) (pre ++ us ++ post).toArray = (pre ++ vs ++ post).toArray := by
  induction vs with
  | nil => intro i off pre us post h1 h2; have := List.eq_nil_of_length_eq_zero h2; subst this; rfl
  | cons v vs ih =>
    intro i off pre us post h1 h2
    cases us with
    | nil => simp at h2
    | cons u us =>
      simp only [List.zipIdx_cons, List.foldl_cons]
      have : ((pre ++ (u :: us) ++ post).toArray.setIfInBounds (off + i) v) = ((pre ++ [v]) ++ us ++ post).toArray := by
        apply Array.ext'
        rw [Array.toList_setIfInBounds]
        show (pre ++ (u :: us) ++ post).set (off + i) v = (pre ++ [v]) ++ us ++ post
        rw [← h1]
        simp
      rw [this, ih (i + 1) off (pre ++ [v]) us post (by simp; omega) (by simpa using h2)]
      simp

/-- Parts laid into cells, as the interpreter lays them. -/
theorem fillA_sound {pl : Nat → Option (Nat × Nat)} {f : Operand → AV} {g : Operand → Value} (hfg : ∀ x, VR K ρ w (f x) (g x)) :
    ∀ (ps : List (Nat × Operand)) {cells out : List AV} {us : List Value}, VRL K ρ w cells us → fillA pl cells (ps.map fun p => (p.1, f p.2)) = some out →
      ∃ vs, Instr.fill pl us.toArray (ps.map fun p => (p.1, g p.2)) = some vs ∧ VRL K ρ w out vs.toList := by
  intro ps
  induction ps with
  | nil => intro cells out us h hf; simp [fillA] at hf; subst hf; exact ⟨us.toArray, rfl, h⟩
  | cons p ps ih =>
    intro cells out us hv hf
    obtain ⟨i, x⟩ := p
    have h2 := hfg x
    simp only [List.map_cons, fillA] at hf
    cases hp : pl i with
    | none => simp [hp] at hf
    | some q =>
      obtain ⟨off, size⟩ := q
      simp only [hp] at hf
      split at hf
      · rename_i cs hc
        split at hf
        · rename_i hcond
          have hx := VR.cells h2 hc
          have hl := laid_vr hv hx off
          obtain ⟨vs, e1, e2⟩ := ih hl hf
          refine ⟨vs, ?_, e2⟩
          have hlen := hv.length
          have hlen2 := hx.length
          simp only [Array.length_toList] at hlen2
          simp only [List.map_cons, Instr.fill, hp]
          rw [if_neg (by simp; omega)]
          rw [← e1]
          congr 1
          have hsplit : us = us.take off ++ (us.drop off).take (g x).cells.size ++ us.drop (off + (g x).cells.size) := by
            rw [List.append_assoc, ← List.drop_drop, List.take_append_drop, List.take_append_drop]
          have hmid : ((us.drop off).take (g x).cells.size).length = (g x).cells.toList.length := by simp; omega
          have key := foldl_set (g x).cells.toList 0 off (us.take off) ((us.drop off).take (g x).cells.size) (us.drop (off + (g x).cells.size)) (by simp; omega) hmid
          rw [← hsplit] at key
          rw [← Array.foldl_toList, Array.toList_zipIdx, key]
          simp
        · simp at hf
      · simp at hf
end
end Go.Ab
