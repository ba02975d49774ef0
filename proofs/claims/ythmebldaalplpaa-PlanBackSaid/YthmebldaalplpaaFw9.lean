/- The framework, part 9: each operation does what the interpreter says (stores, addresses, lengths). -/
import Derived.Test.YthmebldaalplpaaFw8
import Derived.Laws.CopyRow
namespace Go.Ab
set_option linter.unusedVariables false

section
variable {P : Program} {K F : Nat → Prop} {ρ : Locs} {m : List Slot} {w w' : World} {env : List AV} {a : Act} {r : Res}

theorem upd_self {b : Nat} {L : Loc} (h : ρ b = some L) : upd ρ b L = ρ := by
  funext c
  unfold upd
  split
  · rename_i e; rw [e, h]
  · rfl

/-- An object of the call's own is written. -/
theorem Inv.write (h : Inv K F ρ m w) {b : Nat} {o o' : AObj} {L : Loc} (hm : m[b]? = some (.obj o)) (ho : o.own = true) (hL : ρ b = some L) (hn : L.nil = false) (ho' : o'.own = true)
    (hsz : w'.heap.size = w.heap.size) (hsame : ∀ c, c ≠ L.blk → w'.heap[c]? = w.heap[c]?) (hos : w'.os = w.os) (ht : w'.tape = w.tape) (hu : w'.output = w.output)
    (hor : OR K ρ w' L o') : Step K F ρ w K ρ w' ∧ Inv K F ρ (m.set b (.obj o')) w' := by
  obtain ⟨L0, h1, h2, h3⟩ := h.ob b o hm
  rw [hL] at h1
  obtain rfl := Option.some.inj h1
  have hk := h3 ho hn
  have hlt : b < m.length := (List.getElem?_eq_some_iff.1 hm).1
  have hs : ∀ c, c < w.heap.size → (L.nil = true ∨ c ≠ L.blk) → w'.heap[c]? = w.heap[c]? := fun c _ hc => hsame c (hc.resolve_left (by simp [hn]))
  have st := Step.put (w' := w') h (.inr hL) (by omega) hs (fun _ => hk) hos ht hu
  have iv := Inv.put (w' := w') (o := o') h hlt (.inr hL) ho' (by omega) hs (fun _ => ⟨hk.1, hk.2, fun b' o2 L' hbs hm' ho2 hL' hn' he =>
    hbs (h.inj b' b o2 o L' L hm' hm ho2 ho hL' hL hn' hn he)⟩) (by rw [upd_self hL]; exact hor)
  rw [upd_self hL] at st iv
  exact ⟨st, iv⟩

theorem writeM_other {b : Nat} : ∀ (ws : List (Nat × Slot)) (m : List Slot), b ∉ ws.map (·.1) → (writeM m ws)[b]? = m[b]?
  | [], m, _ => rfl
  | (c, s) :: ws, m, h => by
    simp only [List.map_cons, List.mem_cons, not_or] at h
    simp only [writeM]
    rw [writeM_other ws _ h.2, List.getElem?_set_ne (Ne.symm h.1)]

theorem setRow_size (w : World) (g : Nat) (cs : Array Value) : (w.setRow g cs).heap.size = w.heap.size := by simp [World.setRow]

theorem splice_get (cur cs : List Value) (p : Nat) (hp : p + cs.length ≤ cur.length) (x : Nat) :
    (cur.take p ++ cs ++ cur.drop (p + cs.length))[x]? = if p ≤ x ∧ x < p + cs.length then cs[x - p]? else cur[x]? := by
  rw [List.append_assoc, List.getElem?_append]
  simp only [List.length_take]
  rw [Nat.min_eq_left (by omega)]
  by_cases h1 : x < p
  · rw [if_pos h1, if_neg (by omega), List.getElem?_take, if_pos h1]
  · rw [if_neg h1, List.getElem?_append]
    by_cases h2 : x - p < cs.length
    · rw [if_pos h2, if_pos (by omega)]
    · rw [if_neg h2, if_neg (by omega), List.getElem?_drop]
      congr 1
      omega

theorem storeA_sound {t : TypeId} {x v : Operand} (hi : Inv K F ρ m w) (he : EnvR K ρ w env a.tmps) (h : storeA P m env t x v = some r) :
    Done P K F ρ m w r ((do Instr.storeAt t (a.eval x) (a.eval v); pure .skip : Sem Next).run P w) := by
  unfold storeA at h
  split at h
  · rename_i n cs hn hcs
    have hx := ev_vr he x
    have hv := VR.cells (fixT_vr P t (ev_vr he v)) hcs
    split at h
    · rename_i hcond
      obtain ⟨hlen, hcell⟩ := hcond
      have h1 := VRL.oneCell hv hcell
      have hlen' : (a.eval v).cells.size = n := by have := hv.length; simp at this; omega
      split at h
      · rename_i b j hb
        rw [hb] at hx
        split at h
        · rename_i ds hm
          split at h
          · rename_i hj
            simp only [Option.some.injEq] at h
            subst h
            have hm' := getObj?_some hm
            obtain ⟨L, hL, ⟨hnil, hoff, vs, e, hheap, hvs⟩, _⟩ := hi.ob b _ hm'
            cases hax : a.eval x <;> rw [hax] at hx <;> cases hx
            rename_i L' hL'
            rw [hL] at hL'
            obtain rfl := Option.some.inj hL'
            have hl2 := hvs.length
            have hl3 := hv.length
            have hst := run_storeCells_at P L.blk (L.off + j) e (a.eval v).cells.toList 0 vs.toArray w hheap (by simp [hoff]; omega) h1
            obtain ⟨cur, hcur⟩ : ∃ cur : Array Value, cur = (vs.toArray.toList.take (L.off + j + 0) ++ (a.eval v).cells.toList ++ vs.toArray.toList.drop (L.off + j + 0 + (a.eval v).cells.toList.length)).toArray := ⟨_, rfl⟩
            rw [← hcur] at hst
            have hnK : ¬ K L.blk := by
              obtain ⟨L2, k1, k2, k3⟩ := hi.ob b _ hm'
              rw [hL] at k1
              obtain rfl := Option.some.inj k1
              exact (k3 rfl hnil).1
            have hkk : ∀ c, K c → (w.setRow L.blk cur).heap[c]? = w.heap[c]? := fun c hc => setRow_other _ _ _ _ fun e => hnK (e ▸ hc)
            have hrow := setRow_heap w L.blk _ cur e _ hheap
            have hcur2 : cur = (vs.take j ++ (a.eval v).cells.toList ++ vs.drop (j + (a.eval v).cells.toList.length)).toArray := by rw [hcur, hoff]; simp
            rw [hcur2] at hrow
            have hw := Inv.write (w' := w.setRow L.blk cur) (o' := .box (laid ds j cs)) hi hm' rfl hL hnil rfl (setRow_size _ _ _) (fun c hc => setRow_other _ _ _ _ hc) rfl rfl rfl
              ⟨hnil, hoff, _, e, by rw [← hcur2] at hrow ⊢; exact hrow, VRL.mono (fun _ x => x) hkk (fun _ _ x => x) (laid_vr hvs hv j)⟩
            refine ⟨undef, w.setRow L.blk cur, K, ρ, .inr ⟨?_, rfl⟩, hw.1, hw.2, .junk _⟩
            simp only [Instr.storeAt, storeVar, Instr.sureAddr, Sem.run_bind, Sem.run_pure, Result.andThen_ok, run_sizeOf' hn, Sem.run_ite, hlen', ne_eq, not_true, if_false, hst]
          · simp at h
        · simp at h
      · rename_i b i j hb
        rw [hb] at hx
        split at h
        · rename_i y l hm
          split at h
          · rename_i fs wr hf
            split at h
            · simp at h
            · rename_i hnb
              split at h
              · rename_i hj
                simp only [Option.map_eq_some_iff] at h
                obtain ⟨d, hd, rfl⟩ := h
                have hm' := getObj?_some hm
                obtain ⟨K1, s1, i1, _, v1⟩ := frzL_sound hf (Fz.refl m) hi hv
                have hm1 : (writeM m wr)[b]? = some (.obj (.rows y l)) := by rw [writeM_other _ _ (by simpa using hnb)]; exact hm'
                obtain ⟨L, hL, ⟨q1, q2, q3, q4⟩, _⟩ := i1.ob b _ hm1
                cases hax : a.eval x <;> rw [hax] at hx <;> cases hx
                rename_i L' hL' hlt
                rw [hL] at hL'
                obtain rfl := Option.some.inj hL'
                have hil : i < l.length := by omega
                have hn0 : L.nil = false := by
                  cases hn0 : L.nil with
                  | false => rfl
                  | true => rw [q3 hn0] at hil; simp at hil
                obtain ⟨vs, e, p1, p2, p3⟩ := q4 hn0
                obtain ⟨g, p4, p5⟩ := p3 i l[i] (List.getElem?_eq_getElem hil)
                have hdd : l.getD i y.dflt = l[i] := by simp [List.getD, List.getElem?_eq_getElem hil]
                rw [hdd] at hd
                have hsz := Ty.size_pos y
                have hl3 := hv.length
                simp only [Array.length_toList] at hl3
                have hvsz : L.off + (i * y.size + (y.size - 1)) < vs.size := (Array.getElem?_eq_some_iff.1 (p4 (y.size - 1) (by omega))).1
                have hfit : L.off + (i * L.sz + j) + 0 + (a.eval v).cells.toList.length ≤ vs.size := by
                  rw [q1]; simp only [Array.length_toList]; omega
                have hst := run_storeCells_at P L.blk (L.off + (i * L.sz + j)) e (a.eval v).cells.toList 0 vs w p1 hfit h1
                have hnK : ¬ K1 L.blk := by
                  obtain ⟨L2, k1, k2, k3⟩ := i1.ob b _ hm1
                  rw [hL] at k1
                  obtain rfl := Option.some.inj k1
                  exact (k3 rfl hn0).1
                have hlaid := laid_vr (TyR.enc (ρ := ρ) p5) v1 j
                have hT := TyR.dec hd hlaid
                obtain ⟨cur, hcur⟩ : ∃ cur : Array Value, cur = (vs.toList.take (L.off + (i * L.sz + j) + 0) ++ (a.eval v).cells.toList ++ vs.toList.drop (L.off + (i * L.sz + j) + 0 + (a.eval v).cells.toList.length)).toArray := ⟨_, rfl⟩
                rw [← hcur] at hst
                have hkk : ∀ c, K1 c → (w.setRow L.blk cur).heap[c]? = w.heap[c]? := fun c hc => setRow_other _ _ _ _ fun e => hnK (e ▸ hc)
                have hlist : vs.toList.length = vs.size := Array.length_toList
                have hcsz : cur.size = L.bsz := by
                  rw [hcur]
                  simp only [List.size_toArray, List.length_append, List.length_take, List.length_drop, Array.length_toList] at hfit ⊢
                  omega
                have hget : ∀ x, cur[x]? = if L.off + (i * L.sz + j) ≤ x ∧ x < L.off + (i * L.sz + j) + (a.eval v).cells.toList.length then (a.eval v).cells.toList[x - (L.off + (i * L.sz + j))]? else vs[x]? := fun x => by
                  have hg := splice_get vs.toList (a.eval v).cells.toList (L.off + (i * L.sz + j)) (by simpa using hfit) x
                  rw [hcur, Nat.add_zero, List.getElem?_toArray, hg]
                  simp only [Array.getElem?_toList]
                have hrows : RowsR K1 (w.setRow L.blk cur) L y (l.set i d) := by
                  refine ⟨q1, by simpa using q2, fun hh => by simp [hn0] at hh, fun _ => ⟨cur, e, setRow_heap w L.blk _ cur e _ p1, hcsz, fun k z hz => ?_⟩⟩
                  by_cases hki : k = i
                  · subst hki
                    rw [List.getElem?_set, if_pos rfl, if_pos hil] at hz
                    simp only [Option.some.injEq] at hz
                    subst hz
                    refine ⟨_, fun q hq => ?_, TyR.mono (fun _ x => x) hkk _ _ _ hT⟩
                    have hg2 := splice_get ((List.range y.size).map g) (a.eval v).cells.toList j (by simp; omega) q
                    rw [hget]
                    simp only [List.getD, hg2]
                    rw [q1]
                    by_cases hq2 : j ≤ q ∧ q < j + (a.eval v).cells.toList.length
                    · rw [if_pos (by omega), if_pos hq2]
                      rw [show L.off + (k * y.size + q) - (L.off + (k * y.size + j)) = q - j by omega]
                      rw [List.getElem?_eq_getElem (by omega)]
                      rfl
                    · rw [if_neg (by omega), if_neg hq2]
                      rw [p4 q hq]
                      simp [hq]
                  · rw [List.getElem?_set_ne (Ne.symm hki)] at hz
                    obtain ⟨g', z1, z2⟩ := p3 k z hz
                    refine ⟨g', fun q hq => ?_, TyR.mono (fun _ x => x) hkk _ _ _ z2⟩
                    rw [hget, if_neg]
                    · exact z1 q hq
                    · rw [q1]
                      simp only [Array.length_toList]
                      rcases Nat.lt_or_gt_of_ne hki with hlt' | hlt'
                      · have := Nat.mul_le_mul_right y.size (Nat.succ_le_of_lt hlt')
                        rw [Nat.succ_mul] at this
                        omega
                      · have := Nat.mul_le_mul_right y.size (Nat.succ_le_of_lt hlt')
                        rw [Nat.succ_mul] at this
                        omega
                have hw := Inv.write (w' := w.setRow L.blk cur) (o' := .rows y (l.set i d)) i1 hm1 rfl hL hn0 rfl (setRow_size _ _ _) (fun c hc => setRow_other _ _ _ _ hc) rfl rfl rfl hrows
                refine ⟨undef, w.setRow L.blk cur, K1, ρ, .inr ⟨?_, rfl⟩, s1.trans hw.1, ?_, .junk _⟩
                · simp only [Instr.storeAt, storeVar, Instr.sureAddr, Sem.run_bind, Sem.run_pure, Result.andThen_ok, run_sizeOf' hn, Sem.run_ite, hlen', ne_eq, not_true, if_false, hst]
                · simp only [writeM_append, writeM]
                  exact hw.2
              · simp at h
          · simp at h
        · simp at h
      · simp at h
    · simp at h
  · simp at h

/-! ### addresses and the like -/
theorem nilCheckA_sound {x : Operand} (hi : Inv K F ρ m w) (he : EnvR K ρ w env a.tmps) (h : nilCheckA env x = some r) {o : Oper} (ho : o.op = .nilCheck x) :
    Done P K F ρ m w r ((execOp a.eval o).run P w) := by
  unfold nilCheckA at h
  have hx := ev_vr he x
  split at h
  · rename_i b j hb
    rw [hb] at hx
    cases hax : a.eval x <;> rw [hax] at hx <;> cases hx
    rename_i L hL
    exact Done.of_pure h hi (.ptr _ _ _ hL) (by simp [execOp, ho, hax])
  · rename_i b i j hb
    rw [hb] at hx
    cases hax : a.eval x <;> rw [hax] at hx <;> cases hx
    rename_i L hL hlt
    exact Done.of_pure h hi (.eptr _ _ _ _ hL hlt) (by simp [execOp, ho, hax])
  · rename_i t y j hb
    rw [hb] at hx
    cases hax : a.eval x <;> rw [hax] at hx <;> cases hx
    rename_i blk off g hk hc hT
    exact Done.of_pure h hi (.rop _ _ _ _ _ g hk hc hT) (by simp [execOp, ho, hax])
  · rename_i f as cs hb
    rw [hb] at hx
    cases hax : a.eval x <;> rw [hax] at hx <;> cases hx
    rename_i as' cs' h1 h2
    exact Done.of_pure h hi (.fn _ _ _ _ _ h1 h2) (by simp [execOp, ho, hax])
  · simp at h

theorem makeFuncA_sound {f : Fn} {as cs : Array Operand} (hi : Inv K F ρ m w) (he : EnvR K ρ w env a.tmps) (h : makeFuncA env f as cs = some r) :
    Done P K F ρ m w r ((do pure (.value (← Instr.makeFunc f (as.map a.eval) (cs.map a.eval))) : Sem Next).run P w) := by
  refine Done.of_pure h hi (u := .func f (as.map a.eval) (cs.map a.eval)) ?_ (by simp [Instr.makeFunc])
  have h1 := VRL.map (K := K) (ρ := ρ) (w := w) (f := ev env) (g := a.eval) as.toList fun x _ => ev_vr he x
  have h2 := VRL.map (K := K) (ρ := ρ) (w := w) (f := ev env) (g := a.eval) cs.toList fun x _ => ev_vr he x
  have := VR.fn f _ _ _ _ h1 h2
  have e1 : (as.toList.map a.eval).toArray = as.map a.eval := by rw [← Array.toList_map, Array.toArray_toList]
  have e2 : (cs.toList.map a.eval).toArray = cs.map a.eval := by rw [← Array.toList_map, Array.toArray_toList]
  rw [e1, e2] at this
  exact this

theorem fieldsP_some {t : TypeId} {fs : Array Field} (h : fieldsP P t = some fs) : P.underlying t = some (.struct fs) := by
  unfold fieldsP at h
  split at h
  · rename_i fs' hu; simp at h; subst h; exact hu
  · simp at h
theorem elemP_some {t e : TypeId} (h : elemP P t = some e) : P.underlying t = some (.slice e) := by
  unfold elemP at h
  split at h
  · rename_i fs' hu; simp at h; subst h; exact hu
  · simp at h
theorem arrP_some {t e : TypeId} {n : Nat} (h : arrP P t = some (n, e)) : P.underlying t = some (.array n e) := by
  unfold arrP at h
  split at h
  · rename_i n' e' hu; simp at h; obtain ⟨rfl, rfl⟩ := h; exact hu
  · simp at h

theorem fieldAddrA_sound {s : TypeId} {x : Operand} {f : Nat} (hi : Inv K F ρ m w) (he : EnvR K ρ w env a.tmps) (h : fieldAddrA P env s x f = some r) :
    Done P K F ρ m w r ((do pure (.value (← Instr.fieldAt s (a.eval x) f)) : Sem Next).run P w) := by
  unfold fieldAddrA at h
  have hx := ev_vr he x
  split at h
  · rename_i fs hfs
    have hu := fieldsP_some hfs
    split at h
    · rename_i fd hf
      split at h
      · rename_i n hn
        have hpl : ∀ b o, (fieldPlace ⟨b, o, none⟩ fd).run P w = .ok ⟨b, o + fd.offset, none⟩ w := fun b o => by
          simp [fieldPlace, run_sizeOf' hn, addr_add]
        split at h
        · rename_i b j hb
          rw [hb] at hx
          cases hax : a.eval x <;> rw [hax] at hx <;> cases hx
          rename_i L hL
          have := VR.ptr (K := K) (w := w) b (j + fd.offset) L hL
          exact Done.of_pure h hi this (by simp [Instr.fieldAt, run_underlying hu, hf, Instr.sureAddr, hpl, Nat.add_assoc])
        · rename_i b i j hb
          rw [hb] at hx
          cases hax : a.eval x <;> rw [hax] at hx <;> cases hx
          rename_i L hL hlt
          have := VR.eptr (K := K) (w := w) b i (j + fd.offset) L hL hlt
          exact Done.of_pure h hi this (by simp [Instr.fieldAt, run_underlying hu, hf, Instr.sureAddr, hpl, Nat.add_assoc])
        · rename_i t y j hb
          rw [hb] at hx
          cases hax : a.eval x <;> rw [hax] at hx <;> cases hx
          rename_i blk off g hk hc hT
          have := VR.rop (ρ := ρ) t y (j + fd.offset) blk off g hk hc hT
          exact Done.of_pure h hi this (by simp [Instr.fieldAt, run_underlying hu, hf, Instr.sureAddr, hpl, Nat.add_assoc])
        · simp at h
      · simp at h
    · simp at h
  · simp at h

theorem fieldA_sound {t : TypeId} {x : Operand} {f : Nat} (hi : Inv K F ρ m w) (he : EnvR K ρ w env a.tmps) (h : fieldA P env t x f = some r) :
    Done P K F ρ m w r ((do pure (.value (← Instr.field t (a.eval x) f)) : Sem Next).run P w) := by
  unfold fieldA at h
  have hx := ev_vr he x
  split at h
  · rename_i fs hfs
    have hu := fieldsP_some hfs
    split at h
    · rename_i fd hf
      split at h
      · rename_i g n cs hg hn hb
        rw [hb] at hx
        cases hax : a.eval x <;> rw [hax] at hx <;> cases hx
        rename_i vs hvs
        split at h
        · rename_i hgn
          simp only [Option.bind_eq_some_iff] at h
          obtain ⟨v, ⟨ds, h1, h2⟩, h3⟩ := h
          obtain ⟨k1, k2⟩ := cellsAt_vr hvs h1
          cases g with
          | true =>
            simp only [valOf, if_true, Option.some.injEq] at h2
            subst h2
            refine Done.of_pure h3 hi (.agg _ _ k1) ?_
            simp [Instr.field, run_underlying hu, hf, asAgg, part, run_isAgg' hg, run_sizeOf' hn, List.extract_eq_take_drop]
          | false =>
            simp only [Bool.false_or, beq_iff_eq] at hgn
            subst hgn
            rw [List.length_eq_one_iff] at k2
            obtain ⟨u, hu1⟩ := k2
            rw [hu1] at k1
            cases k1 with
            | cons q _ qs _ hq tq =>
              cases tq
              simp only [valOf, Bool.false_eq_true, if_false, Option.some.injEq] at h2
              subst h2
              have hget : vs[fd.offset]? = some u := by
                have := congrArg (fun l : List Value => l[0]?) hu1
                simpa [List.getElem?_take, List.getElem?_drop] using this
              refine Done.of_pure h3 hi hq ?_
              simp [Instr.field, run_underlying hu, hf, asAgg, part, run_isAgg' hg, hget]
        · simp at h
      · simp at h
    · simp at h
  · simp at h

theorem extractA_sound {x : Operand} {i : Nat} (hi : Inv K F ρ m w) (he : EnvR K ρ w env a.tmps) (h : extractA env x i = some r) :
    Done P K F ρ m w r ((do pure (.value (← Instr.extract (a.eval x) i)) : Sem Next).run P w) := by
  unfold extractA at h
  have hx := ev_vr he x
  split at h
  · rename_i vs hb
    rw [hb] at hx
    cases hax : a.eval x <;> rw [hax] at hx <;> cases hx
    rename_i us hus
    simp only [Option.bind_eq_some_iff] at h
    obtain ⟨v, h1, h2⟩ := h
    obtain ⟨hlt, h3⟩ := List.getElem?_eq_some_iff.1 h1
    have hlt' : i < us.length := by rw [← hus.length]; exact hlt
    have := hus.get i hlt'
    rw [List.getD, h1, Option.getD_some, List.getD, List.getElem?_eq_getElem hlt', Option.getD_some] at this
    exact Done.of_pure h2 hi this (by simp [Instr.extract, hlt'])
  · simp at h

theorem indexAddrA_sound {t : TypeId} {x i : Operand} (hi : Inv K F ρ m w) (he : EnvR K ρ w env a.tmps) (h : indexAddrA P m env t x i = some r) (hok : r.ok = true) :
    Done P K F ρ m w r ((do pure (.value (← Instr.indexAt t (a.eval x) (a.eval i))) : Sem Next).run P w) := by
  unfold indexAddrA at h
  have hx := ev_vr he x
  have hii := ev_vr he i
  split at h
  · rename_i k i' hb
    rw [hb] at hii
    cases hai : a.eval i <;> rw [hai] at hii <;> cases hii
    split at h
    · rename_i e hE
      have hu := elemP_some hE
      split at h
      · rename_i n hn
        split at h
        · rename_i y l hb2
          rw [hb2] at hx
          split at h
          · rename_i hsz
            simp only [Option.some.injEq] at h
            subst h
            simp only [Bool.and_eq_true, decide_eq_true_eq] at hok
            obtain ⟨h0, h1⟩ := hok
            have hlt : i'.toNat < l.length := by omega
            cases hx with
            | ro _ _ v hT =>
              obtain ⟨ad, c, e1, e2, e3⟩ := hT
              obtain ⟨blk, off, g, e4, e5, e6, e7⟩ := e3 i'.toNat l[i'.toNat] (List.getElem?_eq_getElem hlt)
              subst e4
              have hd : l.getD i'.toNat y.dflt = l[i'.toNat] := by simp [List.getD, List.getElem?_eq_getElem hlt]
              refine Done.plain (u := .pointer (some ⟨blk, off + i'.toNat * y.size + 0, none⟩)) hi ?_ ?_
              · rw [hd]
                exact .rop y _ 0 blk (off + i'.toNat * y.size) g e5 (fun j hj => by rw [Nat.add_assoc]; exact e6 j hj) e7
              · simp only at e1
                rw [e1]
                simp [Instr.indexAt, asIntOf, run_underlying hu, h0, h1, run_sizeOf' hn, addr_add, hsz]
          · simp at h
        · rename_i b k hb2
          rw [hb2] at hx
          split at h
          · rename_i y l hrow
            split at h
            · rename_i hsz
              simp only [Option.some.injEq] at h
              subst h
              simp only [Bool.and_eq_true, decide_eq_true_eq] at hok
              obtain ⟨h0, h1⟩ := hok
              obtain ⟨L, hL, q1, q2, q3, q4⟩ := hi.row hrow
              simp only at q1 q2 q3 q4
              cases hx with
              | tail _ _ L' v hL' hT =>
                rw [hL] at hL'
                obtain rfl := Option.some.inj hL'
                obtain ⟨t1, ad, c, t2, t3, t4⟩ := hT
                obtain ⟨t5, t6, t7⟩ := t4 (by omega)
                subst t6
                have hlt : i'.toNat < L.len - k := by omega
                refine Done.plain (u := .pointer (some ⟨L.blk, L.off + ((k + i'.toNat) * L.sz + 0), none⟩)) hi (.eptr _ _ _ _ hL (by omega)) ?_
                rw [t2]
                have h1' : i' < ((L.len - k : Nat) : Int) := by rw [q2]; exact h1
                simp [Instr.indexAt, asIntOf, run_underlying hu, h0, h1', run_sizeOf' hn, addr_add, ← hsz, q1, Nat.add_mul, Nat.add_assoc]
            · simp at h
          · simp at h
        · rename_i b k hb2
          rw [hb2] at hx
          simp only [Option.some.injEq] at h
          subst h
          simp only [Bool.and_eq_true, decide_eq_true_eq] at hok
          obtain ⟨h0, h1⟩ := hok
          cases hax : a.eval x <;> rw [hax] at hx <;> cases hx
          rename_i c L hL hc
          refine Done.plain hi (.ptr _ _ _ hL) ?_
          simp [Instr.indexAt, asIntOf, run_underlying hu, h0, h1, run_sizeOf' hn, addr_add]
        · simp at h
      · simp at h
    · split at h
      · rename_i k e hE
        have hu := arrP_some hE
        split at h
        · rename_i n hn
          split at h
          · rename_i b j hb2
            rw [hb2] at hx
            simp only [Option.some.injEq] at h
            subst h
            simp only [Bool.and_eq_true, decide_eq_true_eq] at hok
            obtain ⟨h0, h1⟩ := hok
            cases hax : a.eval x <;> rw [hax] at hx <;> cases hx
            rename_i L hL
            refine Done.plain hi (.ptr _ _ _ hL) ?_
            simp [Instr.indexAt, asIntOf, run_underlying hu, h0, h1, run_sizeOf' hn, addr_add, Instr.sureAddr, Nat.add_assoc]
          · simp at h
        · simp at h
      · simp at h
  · simp at h

theorem lenA_sound {v : AV} {u : Value} {n : Int} {rd : List Nat} (hi : Inv K F ρ m w) (hv : VR K ρ w v u) (hs : ∀ s, v ≠ .str s) (h : lenA m v = some (n, rd)) :
    ∃ b k c, u = .slice b k c ∧ (k : Int) = n := by
  unfold lenA at h
  split at h
  · cases hv; simp at h; exact ⟨_, _, _, rfl, by simp [← h.1]⟩
  · cases hv; simp at h; exact ⟨_, _, _, rfl, by simp [← h.1]⟩
  · rename_i l
    cases hv with
    | ro _ _ _ hT => obtain ⟨b, c, e1, _⟩ := hT; simp at h; exact ⟨_, _, _, e1, h.1⟩
  · rename_i b i
    simp only [Option.map_eq_some_iff] at h
    obtain ⟨r, hr, he⟩ := h
    obtain ⟨L, hL, q1, q2, q3, q4⟩ := hi.row hr
    cases hv with
    | tail _ _ L' _ hL' hT =>
      rw [hL] at hL'
      obtain rfl := Option.some.inj hL'
      obtain ⟨t1, ad, c, t2, _⟩ := hT
      refine ⟨_, _, _, t2, ?_⟩
      split at he
      · rename_i h0; subst h0; simp at he; rw [← he.1, q2]; simp
      · simp at he; rw [← he.1, q2]
  · cases hv; simp at h; exact ⟨_, _, _, rfl, h.1⟩
  · exact absurd rfl (hs _)
  · simp at h

theorem lenOpA_sound {t ty : TypeId} {x : Operand} (hi : Inv K F ρ m w) (he : EnvR K ρ w env a.tmps) (h : lenOpA P m env t x = some r) :
    Done P K F ρ m w r ((do pure (.value (← Builtin.len_ #[t] ty #[a.eval x])) : Sem Next).run P w) := by
  unfold lenOpA at h
  split at h
  · rename_i e hu
    split at h
    · simp at h
    · rename_i hs
      simp only [Option.map_eq_some_iff] at h
      obtain ⟨⟨n, rd⟩, h1, rfl⟩ := h
      obtain ⟨b, k, c, e1, e2⟩ := lenA_sound hi (ev_vr he x) hs h1
      refine Done.plain (u := .int .i64 k) hi (by rw [e2]; exact .int _ _) ?_
      rw [e1]
      simp [Builtin.len_, run_underlying hu, goInt]
  · simp at h
end
end Go.Ab
