/- The framework, part 9: each operation does what the interpreter says (stores, addresses, lengths). -/
import Derived.Test.YtmclfehlflekhaaFA
import Derived.Laws.CopyRow
import Derived.ChangeKeysEq
namespace Go.Ab
set_option linter.unusedVariables false

section
variable {P : Program} {K F : Nat → Prop} {ρ : Locs} {m : List Slot} {w w' : World} {env : List AV} {a : Act} {r : Res}

theorem upd_self {b : Nat} {L : Loc} (h : ρ b = some L) : upd ρ b L = ρ := by
  funext c
  unfold upd
  split
  · rename_i e; rw [e, h]
  · rfl

/-- An object of the call's own is written. -/
theorem Inv.write (h : Inv K F ρ m w) {b : Nat} {o o' : AObj} {L : Loc} (hm : m[b]? = some (.obj o)) (ho : o.own = true) (hL : ρ b = some L) (hn : L.nil = false) (ho' : o'.own = true)
    (hsz : w'.heap.size = w.heap.size) (hsame : ∀ c, c ≠ L.blk → w'.heap[c]? = w.heap[c]?) (hos : w'.os = w.os) (ht : w'.tape = w.tape) (hu : w'.output = w.output)
    (hor : OR K ρ w' L o') : Step K F ρ w K ρ w' ∧ Inv K F ρ (m.set b (.obj o')) w' := by
  obtain ⟨L0, h1, h2, h3⟩ := h.ob b o hm
  rw [hL] at h1
  obtain rfl := Option.some.inj h1
  have hk := h3 ho hn
  have hlt : b < m.length := (List.getElem?_eq_some_iff.1 hm).1
  have hs : ∀ c, c < w.heap.size → (L.nil = true ∨ c ≠ L.blk) → w'.heap[c]? = w.heap[c]? := fun c _ hc => hsame c (hc.resolve_left (by simp [hn]))
  have st := Step.put (w' := w') h (.inr hL) (by omega) hs (fun _ => hk) hos ht hu
  have iv := Inv.put (w' := w') (o := o') h hlt (.inr hL) ho' (by omega) hs (fun _ => ⟨hk.1, hk.2, fun b' o2 L' hbs hm' ho2 hL' hn' he =>
    hbs (h.inj b' b o2 o L' L hm' hm ho2 ho hL' hL hn' hn he)⟩) (by rw [upd_self hL]; exact hor)
  rw [upd_self hL] at st iv
  exact ⟨st, iv⟩

theorem writeM_other {b : Nat} : ∀ (ws : List (Nat × Slot)) (m : List Slot), b ∉ ws.map (·.1) → (writeM m ws)[b]? = m[b]?
  | [], m, _ => rfl
  | (c, s) :: ws, m, h => by
    simp only [List.map_cons, List.mem_cons, not_or] at h
    simp only [writeM]
    rw [writeM_other ws _ h.2, List.getElem?_set_ne (Ne.symm h.1)]

theorem setRow_size (w : World) (g : Nat) (cs : Array Value) : (w.setRow g cs).heap.size = w.heap.size := by simp [World.setRow]

theorem splice_get (cur cs : List Value) (p : Nat) (hp : p + cs.length ≤ cur.length) (x : Nat) :
    (cur.take p ++ cs ++ cur.drop (p + cs.length))[x]? = if p ≤ x ∧ x < p + cs.length then cs[x - p]? else cur[x]? := by
  rw [List.append_assoc, List.getElem?_append]
  simp only [List.length_take]
  rw [Nat.min_eq_left (by omega)]
  by_cases h1 : x < p
  · rw [if_pos h1, if_neg (by omega), List.getElem?_take, if_pos h1]
  · rw [if_neg h1, List.getElem?_append]
    by_cases h2 : x - p < cs.length
    · rw [if_pos h2, if_pos (by omega)]
    · rw [if_neg h2, if_neg (by omega), List.getElem?_drop]
      congr 1
      omega

theorem storeA_sound {t : TypeId} {x v : Operand} (hi : Inv K F ρ m w) (he : EnvR K ρ w env a.tmps) (h : storeA P m env t x v = some r) :
    Done P K F ρ m w r ((do Instr.storeAt t (a.eval x) (a.eval v); pure .skip : Sem Next).run P w) := by
  unfold storeA at h
  split at h
  · rename_i n cs hn hcs
    have hx := ev_vr he x
    have hv := VR.cells (fixT_vr P t (ev_vr he v)) hcs
    split at h
    · rename_i hcond
      obtain ⟨hlen, hcell⟩ := hcond
      have h1 := VRL.oneCell hv hcell
      have hlen' : (a.eval v).cells.size = n := by have := hv.length; simp at this; omega
      split at h
      · rename_i b j hb
        rw [hb] at hx
        split at h
        · rename_i ds hm
          split at h
          · rename_i hj
            simp only [Option.some.injEq] at h
            subst h
            have hm' := getObj?_some hm
            obtain ⟨L, hL, ⟨hnil, hoff, vs, e, hheap, hvs⟩, _⟩ := hi.ob b _ hm'
            cases hax : a.eval x <;> rw [hax] at hx <;> cases hx
            rename_i L' hL'
            rw [hL] at hL'
            obtain rfl := Option.some.inj hL'
            have hl2 := hvs.length
            have hl3 := hv.length
            have hst := run_storeCells_at P L.blk (L.off + j) e (a.eval v).cells.toList 0 vs.toArray w hheap (by simp [hoff]; omega) h1
            obtain ⟨cur, hcur⟩ : ∃ cur : Array Value, cur = (vs.toArray.toList.take (L.off + j + 0) ++ (a.eval v).cells.toList ++ vs.toArray.toList.drop (L.off + j + 0 + (a.eval v).cells.toList.length)).toArray := ⟨_, rfl⟩
            rw [← hcur] at hst
            have hnK : ¬ K L.blk := by
              obtain ⟨L2, k1, k2, k3⟩ := hi.ob b _ hm'
              rw [hL] at k1
              obtain rfl := Option.some.inj k1
              exact (k3 rfl hnil).1
            have hkk : ∀ c, K c → (w.setRow L.blk cur).heap[c]? = w.heap[c]? := fun c hc => setRow_other _ _ _ _ fun e => hnK (e ▸ hc)
            have hrow := setRow_heap w L.blk _ cur e _ hheap
            have hcur2 : cur = (vs.take j ++ (a.eval v).cells.toList ++ vs.drop (j + (a.eval v).cells.toList.length)).toArray := by rw [hcur, hoff]; simp
            rw [hcur2] at hrow
            have hw := Inv.write (w' := w.setRow L.blk cur) (o' := .box (laid ds j cs)) hi hm' rfl hL hnil rfl (setRow_size _ _ _) (fun c hc => setRow_other _ _ _ _ hc) rfl rfl rfl
              ⟨hnil, hoff, _, e, by rw [← hcur2] at hrow ⊢; exact hrow, VRL.mono (fun _ x => x) hkk (fun _ _ x => x) (laid_vr hvs hv j)⟩
            refine ⟨undef, w.setRow L.blk cur, K, ρ, .inr ⟨?_, rfl⟩, hw.1, hw.2, .junk _⟩
            simp only [Instr.storeAt, storeVar, Instr.sureAddr, Sem.run_bind, Sem.run_pure, Result.andThen_ok, run_sizeOf' hn, Sem.run_ite, hlen', ne_eq, not_true, if_false, hst]
          · simp at h
        · simp at h
      · rename_i b i j hb
        rw [hb] at hx
        split at h
        · rename_i y l hm
          split at h
          · rename_i fs wr hf
            split at h
            · simp at h
            · rename_i hnb
              split at h
              · rename_i hj
                simp only [Option.map_eq_some_iff] at h
                obtain ⟨d, hd, rfl⟩ := h
                have hm' := getObj?_some hm
                obtain ⟨K1, s1, i1, _, v1⟩ := frzL_sound hf (Fz.refl m) hi hv
                have hm1 : (writeM m wr)[b]? = some (.obj (.rows y l)) := by rw [writeM_other _ _ (by simpa using hnb)]; exact hm'
                obtain ⟨L, hL, ⟨q1, q2, q3, q4⟩, _⟩ := i1.ob b _ hm1
                cases hax : a.eval x <;> rw [hax] at hx <;> cases hx
                rename_i L' hL' hlt
                rw [hL] at hL'
                obtain rfl := Option.some.inj hL'
                have hil : i < l.length := by omega
                have hn0 : L.nil = false := by
                  cases hn0 : L.nil with
                  | false => rfl
                  | true => rw [q3 hn0] at hil; simp at hil
                obtain ⟨vs, e, p1, p2, p3⟩ := q4 hn0
                obtain ⟨g, p4, p5⟩ := p3 i l[i] (List.getElem?_eq_getElem hil)
                have hdd : l.getD i y.dflt = l[i] := by simp [List.getD, List.getElem?_eq_getElem hil]
                rw [hdd] at hd
                have hsz := Ty.size_pos y
                have hl3 := hv.length
                simp only [Array.length_toList] at hl3
                have hvsz : L.off + (i * y.size + (y.size - 1)) < vs.size := (Array.getElem?_eq_some_iff.1 (p4 (y.size - 1) (by omega))).1
                have hfit : L.off + (i * L.sz + j) + 0 + (a.eval v).cells.toList.length ≤ vs.size := by
                  rw [q1]; simp only [Array.length_toList]; omega
                have hst := run_storeCells_at P L.blk (L.off + (i * L.sz + j)) e (a.eval v).cells.toList 0 vs w p1 hfit h1
                have hnK : ¬ K1 L.blk := by
                  obtain ⟨L2, k1, k2, k3⟩ := i1.ob b _ hm1
                  rw [hL] at k1
                  obtain rfl := Option.some.inj k1
                  exact (k3 rfl hn0).1
                have hlaid := laid_vr (TyR.enc (ρ := ρ) p5) v1 j
                have hT := TyR.dec hd hlaid
                obtain ⟨cur, hcur⟩ : ∃ cur : Array Value, cur = (vs.toList.take (L.off + (i * L.sz + j) + 0) ++ (a.eval v).cells.toList ++ vs.toList.drop (L.off + (i * L.sz + j) + 0 + (a.eval v).cells.toList.length)).toArray := ⟨_, rfl⟩
                rw [← hcur] at hst
                have hkk : ∀ c, K1 c → (w.setRow L.blk cur).heap[c]? = w.heap[c]? := fun c hc => setRow_other _ _ _ _ fun e => hnK (e ▸ hc)
                have hlist : vs.toList.length = vs.size := Array.length_toList
                have hcsz : cur.size = L.bsz := by
                  rw [hcur]
                  simp only [List.size_toArray, List.length_append, List.length_take, List.length_drop, Array.length_toList] at hfit ⊢
                  omega
                have hget : ∀ x, cur[x]? = if L.off + (i * L.sz + j) ≤ x ∧ x < L.off + (i * L.sz + j) + (a.eval v).cells.toList.length then (a.eval v).cells.toList[x - (L.off + (i * L.sz + j))]? else vs[x]? := fun x => by
                  have hg := splice_get vs.toList (a.eval v).cells.toList (L.off + (i * L.sz + j)) (by simpa using hfit) x
                  rw [hcur, Nat.add_zero, List.getElem?_toArray, hg]
                  simp only [Array.getElem?_toList]
                have hrows : RowsR K1 (w.setRow L.blk cur) L y (l.set i d) := by
                  refine ⟨q1, by simpa using q2, fun hh => by simp [hn0] at hh, fun _ => ⟨cur, e, setRow_heap w L.blk _ cur e _ p1, hcsz, fun k z hz => ?_⟩⟩
                  by_cases hki : k = i
                  · subst hki
                    rw [List.getElem?_set, if_pos rfl, if_pos hil] at hz
                    simp only [Option.some.injEq] at hz
                    subst hz
                    refine ⟨_, fun q hq => ?_, TyR.mono (fun _ x => x) hkk _ _ _ hT⟩
                    have hg2 := splice_get ((List.range y.size).map g) (a.eval v).cells.toList j (by simp; omega) q
                    rw [hget]
                    simp only [List.getD, hg2]
                    rw [q1]
                    by_cases hq2 : j ≤ q ∧ q < j + (a.eval v).cells.toList.length
                    · rw [if_pos (by omega), if_pos hq2]
                      rw [show L.off + (k * y.size + q) - (L.off + (k * y.size + j)) = q - j by omega]
                      rw [List.getElem?_eq_getElem (by omega)]
                      rfl
                    · rw [if_neg (by omega), if_neg hq2]
                      rw [p4 q hq]
                      simp [hq]
                  · rw [List.getElem?_set_ne (Ne.symm hki)] at hz
                    obtain ⟨g', z1, z2⟩ := p3 k z hz
                    refine ⟨g', fun q hq => ?_, TyR.mono (fun _ x => x) hkk _ _ _ z2⟩
                    rw [hget, if_neg]
                    · exact z1 q hq
                    · rw [q1]
                      simp only [Array.length_toList]
                      rcases Nat.lt_or_gt_of_ne hki with hlt' | hlt'
                      · have := Nat.mul_le_mul_right y.size (Nat.succ_le_of_lt hlt')
                        rw [Nat.succ_mul] at this
                        omega
                      · have := Nat.mul_le_mul_right y.size (Nat.succ_le_of_lt hlt')
                        rw [Nat.succ_mul] at this
                        omega
                have hw := Inv.write (w' := w.setRow L.blk cur) (o' := .rows y (l.set i d)) i1 hm1 rfl hL hn0 rfl (setRow_size _ _ _) (fun c hc => setRow_other _ _ _ _ hc) rfl rfl rfl hrows
                refine ⟨undef, w.setRow L.blk cur, K1, ρ, .inr ⟨?_, rfl⟩, s1.trans hw.1, ?_, .junk _⟩
                · simp only [Instr.storeAt, storeVar, Instr.sureAddr, Sem.run_bind, Sem.run_pure, Result.andThen_ok, run_sizeOf' hn, Sem.run_ite, hlen', ne_eq, not_true, if_false, hst]
                · simp only [writeM_append, writeM]
                  exact hw.2
              · simp at h
          · simp at h
        · simp at h
      · simp at h
    · simp at h
  · simp at h

/-! ### addresses and the like -/
theorem nilCheckA_sound {x : Operand} (hi : Inv K F ρ m w) (he : EnvR K ρ w env a.tmps) (h : nilCheckA env x = some r) {o : Oper} (ho : o.op = .nilCheck x) :
    Done P K F ρ m w r ((execOp a.eval o).run P w) := by
  unfold nilCheckA at h
  have hx := ev_vr he x
  split at h
  · rename_i b j hb
    rw [hb] at hx
    cases hax : a.eval x <;> rw [hax] at hx <;> cases hx
    rename_i L hL
    exact Done.of_pure h hi (.ptr _ _ _ hL) (by simp [execOp, ho, hax])
  · rename_i b i j hb
    rw [hb] at hx
    cases hax : a.eval x <;> rw [hax] at hx <;> cases hx
    rename_i L hL hlt
    exact Done.of_pure h hi (.eptr _ _ _ _ hL hlt) (by simp [execOp, ho, hax])
  · rename_i t y j hb
    rw [hb] at hx
    cases hax : a.eval x <;> rw [hax] at hx <;> cases hx
    rename_i blk off g hk hc hT
    exact Done.of_pure h hi (.rop _ _ _ _ _ g hk hc hT) (by simp [execOp, ho, hax])
  · rename_i f as cs hb
    rw [hb] at hx
    cases hax : a.eval x <;> rw [hax] at hx <;> cases hx
    rename_i as' cs' h1 h2
    exact Done.of_pure h hi (.fn _ _ _ _ _ h1 h2) (by simp [execOp, ho, hax])
  · simp at h

theorem makeFuncA_sound {f : Fn} {as cs : Array Operand} (hi : Inv K F ρ m w) (he : EnvR K ρ w env a.tmps) (h : makeFuncA env f as cs = some r) :
    Done P K F ρ m w r ((do pure (.value (← Instr.makeFunc f (as.map a.eval) (cs.map a.eval))) : Sem Next).run P w) := by
  refine Done.of_pure h hi (u := .func f (as.map a.eval) (cs.map a.eval)) ?_ (by simp [Instr.makeFunc])
  have h1 := VRL.map (K := K) (ρ := ρ) (w := w) (f := ev env) (g := a.eval) as.toList fun x _ => ev_vr he x
  have h2 := VRL.map (K := K) (ρ := ρ) (w := w) (f := ev env) (g := a.eval) cs.toList fun x _ => ev_vr he x
  have := VR.fn f _ _ _ _ h1 h2
  have e1 : (as.toList.map a.eval).toArray = as.map a.eval := by rw [← Array.toList_map, Array.toArray_toList]
  have e2 : (cs.toList.map a.eval).toArray = cs.map a.eval := by rw [← Array.toList_map, Array.toArray_toList]
  rw [e1, e2] at this
  exact this

theorem fieldsP_some {t : TypeId} {fs : Array Field} (h : fieldsP P t = some fs) : P.underlying t = some (.struct fs) := by
  unfold fieldsP at h
  split at h
  · rename_i fs' hu; simp at h; subst h; exact hu
  · simp at h
theorem elemP_some {t e : TypeId} (h : elemP P t = some e) : P.underlying t = some (.slice e) := by
  unfold elemP at h
  split at h
  · rename_i fs' hu; simp at h; subst h; exact hu
  · simp at h
theorem arrP_some {t e : TypeId} {n : Nat} (h : arrP P t = some (n, e)) : P.underlying t = some (.array n e) := by
  unfold arrP at h
  split at h
  · rename_i n' e' hu; simp at h; obtain ⟨rfl, rfl⟩ := h; exact hu
  · simp at h

theorem fieldAddrA_sound {s : TypeId} {x : Operand} {f : Nat} (hi : Inv K F ρ m w) (he : EnvR K ρ w env a.tmps) (h : fieldAddrA P env s x f = some r) :
    Done P K F ρ m w r ((do pure (.value (← Instr.fieldAt s (a.eval x) f)) : Sem Next).run P w) := by
  unfold fieldAddrA at h
  have hx := ev_vr he x
  split at h
  · rename_i fs hfs
    have hu := fieldsP_some hfs
    split at h
    · rename_i fd hf
      split at h
      · rename_i n hn
        have hpl : ∀ b o, (fieldPlace ⟨b, o, none⟩ fd).run P w = .ok ⟨b, o + fd.offset, none⟩ w := fun b o => by
          simp [fieldPlace, run_sizeOf' hn, addr_add]
        split at h
        · rename_i b j hb
          rw [hb] at hx
          cases hax : a.eval x <;> rw [hax] at hx <;> cases hx
          rename_i L hL
          have := VR.ptr (K := K) (w := w) b (j + fd.offset) L hL
          exact Done.of_pure h hi this (by simp [Instr.fieldAt, run_underlying hu, hf, Instr.sureAddr, hpl, Nat.add_assoc])
        · rename_i b i j hb
          rw [hb] at hx
          cases hax : a.eval x <;> rw [hax] at hx <;> cases hx
          rename_i L hL hlt
          have := VR.eptr (K := K) (w := w) b i (j + fd.offset) L hL hlt
          exact Done.of_pure h hi this (by simp [Instr.fieldAt, run_underlying hu, hf, Instr.sureAddr, hpl, Nat.add_assoc])
        · rename_i t y j hb
          rw [hb] at hx
          cases hax : a.eval x <;> rw [hax] at hx <;> cases hx
          rename_i blk off g hk hc hT
          have := VR.rop (ρ := ρ) t y (j + fd.offset) blk off g hk hc hT
          exact Done.of_pure h hi this (by simp [Instr.fieldAt, run_underlying hu, hf, Instr.sureAddr, hpl, Nat.add_assoc])
        · simp at h
      · simp at h
    · simp at h
  · simp at h

theorem fieldA_sound {t : TypeId} {x : Operand} {f : Nat} (hi : Inv K F ρ m w) (he : EnvR K ρ w env a.tmps) (h : fieldA P env t x f = some r) :
    Done P K F ρ m w r ((do pure (.value (← Instr.field t (a.eval x) f)) : Sem Next).run P w) := by
  unfold fieldA at h
  have hx := ev_vr he x
  split at h
  · rename_i fs hfs
    have hu := fieldsP_some hfs
    split at h
    · rename_i fd hf
      split at h
      · rename_i g n cs hg hn hb
        rw [hb] at hx
        cases hax : a.eval x <;> rw [hax] at hx <;> cases hx
        rename_i vs hvs
        split at h
        · rename_i hgn
          simp only [Option.bind_eq_some_iff] at h
          obtain ⟨v, ⟨ds, h1, h2⟩, h3⟩ := h
          obtain ⟨k1, k2⟩ := cellsAt_vr hvs h1
          cases g with
          | true =>
            simp only [valOf, if_true, Option.some.injEq] at h2
            subst h2
            refine Done.of_pure h3 hi (.agg _ _ k1) ?_
            simp [Instr.field, run_underlying hu, hf, asAgg, part, run_isAgg' hg, run_sizeOf' hn, List.extract_eq_take_drop]
          | false =>
            simp only [Bool.false_or, beq_iff_eq] at hgn
            subst hgn
            rw [List.length_eq_one_iff] at k2
            obtain ⟨u, hu1⟩ := k2
            rw [hu1] at k1
            cases k1 with
            | cons q _ qs _ hq tq =>
              cases tq
              simp only [valOf, Bool.false_eq_true, if_false, Option.some.injEq] at h2
              subst h2
              have hget : vs[fd.offset]? = some u := by
                have := congrArg (fun l : List Value => l[0]?) hu1
                simpa [List.getElem?_take, List.getElem?_drop] using this
              refine Done.of_pure h3 hi hq ?_
              simp [Instr.field, run_underlying hu, hf, asAgg, part, run_isAgg' hg, hget]
        · simp at h
      · simp at h
    · simp at h
  · simp at h

theorem extractA_sound {x : Operand} {i : Nat} (hi : Inv K F ρ m w) (he : EnvR K ρ w env a.tmps) (h : extractA env x i = some r) :
    Done P K F ρ m w r ((do pure (.value (← Instr.extract (a.eval x) i)) : Sem Next).run P w) := by
  unfold extractA at h
  have hx := ev_vr he x
  split at h
  · rename_i vs hb
    rw [hb] at hx
    cases hax : a.eval x <;> rw [hax] at hx <;> cases hx
    rename_i us hus
    simp only [Option.bind_eq_some_iff] at h
    obtain ⟨v, h1, h2⟩ := h
    obtain ⟨hlt, h3⟩ := List.getElem?_eq_some_iff.1 h1
    have hlt' : i < us.length := by rw [← hus.length]; exact hlt
    have := hus.get i hlt'
    rw [List.getD, h1, Option.getD_some, List.getD, List.getElem?_eq_getElem hlt', Option.getD_some] at this
    exact Done.of_pure h2 hi this (by simp [Instr.extract, hlt'])
  · simp at h

theorem indexAddrA_sound {t : TypeId} {x i : Operand} (hi : Inv K F ρ m w) (he : EnvR K ρ w env a.tmps) (h : indexAddrA P m env t x i = some r) (hok : r.ok = true) :
    Done P K F ρ m w r ((do pure (.value (← Instr.indexAt t (a.eval x) (a.eval i))) : Sem Next).run P w) := by
  unfold indexAddrA at h
  have hx := ev_vr he x
  have hii := ev_vr he i
  split at h
  · rename_i k i' hb
    rw [hb] at hii
    cases hai : a.eval i <;> rw [hai] at hii <;> cases hii
    split at h
    · rename_i e hE
      have hu := elemP_some hE
      split at h
      · rename_i n hn
        split at h
        · rename_i y l hb2
          rw [hb2] at hx
          split at h
          · rename_i hsz
            simp only [Option.some.injEq] at h
            subst h
            simp only [Bool.and_eq_true, decide_eq_true_eq] at hok
            obtain ⟨h0, h1⟩ := hok
            have hlt : i'.toNat < l.length := by omega
            cases hx with
            | ro _ _ v hT =>
              obtain ⟨ad, c, e1, e2, e3⟩ := hT
              obtain ⟨blk, off, g, e4, e5, e6, e7⟩ := e3 i'.toNat l[i'.toNat] (List.getElem?_eq_getElem hlt)
              subst e4
              have hd : l.getD i'.toNat y.dflt = l[i'.toNat] := by simp [List.getD, List.getElem?_eq_getElem hlt]
              refine Done.plain (u := .pointer (some ⟨blk, off + i'.toNat * y.size + 0, none⟩)) hi ?_ ?_
              · rw [hd]
                exact .rop y _ 0 blk (off + i'.toNat * y.size) g e5 (fun j hj => by rw [Nat.add_assoc]; exact e6 j hj) e7
              · simp only at e1
                rw [e1]
                simp [Instr.indexAt, asIntOf, run_underlying hu, h0, h1, run_sizeOf' hn, addr_add, hsz]
          · simp at h
        · rename_i b k hb2
          rw [hb2] at hx
          split at h
          · rename_i y l hrow
            split at h
            · rename_i hsz
              simp only [Option.some.injEq] at h
              subst h
              simp only [Bool.and_eq_true, decide_eq_true_eq] at hok
              obtain ⟨h0, h1⟩ := hok
              obtain ⟨L, hL, q1, q2, q3, q4⟩ := hi.row hrow
              simp only at q1 q2 q3 q4
              cases hx with
              | tail _ _ L' v hL' hT =>
                rw [hL] at hL'
                obtain rfl := Option.some.inj hL'
                obtain ⟨t1, ad, c, t2, t3, t4⟩ := hT
                obtain ⟨t5, t6, t7⟩ := t4 (by omega)
                subst t6
                have hlt : i'.toNat < L.len - k := by omega
                refine Done.plain (u := .pointer (some ⟨L.blk, L.off + ((k + i'.toNat) * L.sz + 0), none⟩)) hi (.eptr _ _ _ _ hL (by omega)) ?_
                rw [t2]
                have h1' : i' < ((L.len - k : Nat) : Int) := by rw [q2]; exact h1
                simp [Instr.indexAt, asIntOf, run_underlying hu, h0, h1', run_sizeOf' hn, addr_add, ← hsz, q1, Nat.add_mul, Nat.add_assoc]
            · simp at h
          · simp at h
        · rename_i b k hb2
          rw [hb2] at hx
          simp only [Option.some.injEq] at h
          subst h
          simp only [Bool.and_eq_true, decide_eq_true_eq] at hok
          obtain ⟨h0, h1⟩ := hok
          cases hax : a.eval x <;> rw [hax] at hx <;> cases hx
          rename_i c L hL hc
          refine Done.plain hi (.ptr _ _ _ hL) ?_
          simp [Instr.indexAt, asIntOf, run_underlying hu, h0, h1, run_sizeOf' hn, addr_add]
        · simp at h
      · simp at h
    · split at h
      · rename_i k e hE
        have hu := arrP_some hE
        split at h
        · rename_i n hn
          split at h
          · rename_i b j hb2
            rw [hb2] at hx
            simp only [Option.some.injEq] at h
            subst h
            simp only [Bool.and_eq_true, decide_eq_true_eq] at hok
            obtain ⟨h0, h1⟩ := hok
            cases hax : a.eval x <;> rw [hax] at hx <;> cases hx
            rename_i L hL
            refine Done.plain hi (.ptr _ _ _ hL) ?_
            simp [Instr.indexAt, asIntOf, run_underlying hu, h0, h1, run_sizeOf' hn, addr_add, Instr.sureAddr, Nat.add_assoc]
          · simp at h
        · simp at h
      · simp at h
  · simp at h

theorem lenA_sound {v : AV} {u : Value} {n : Int} {rd : List Nat} (hi : Inv K F ρ m w) (hv : VR K ρ w v u) (hs : ∀ s, v ≠ .str s) (h : lenA m v = some (n, rd)) :
    ∃ b k c, u = .slice b k c ∧ (k : Int) = n := by
  unfold lenA at h
  split at h
  · cases hv; simp at h; exact ⟨_, _, _, rfl, by simp [← h.1]⟩
  · cases hv; simp at h; exact ⟨_, _, _, rfl, by simp [← h.1]⟩
  · rename_i l
    cases hv with
    | ro _ _ _ hT => obtain ⟨b, c, e1, _⟩ := hT; simp at h; exact ⟨_, _, _, e1, h.1⟩
  · rename_i b i
    simp only [Option.map_eq_some_iff] at h
    obtain ⟨r, hr, he⟩ := h
    obtain ⟨L, hL, q1, q2, q3, q4⟩ := hi.row hr
    cases hv with
    | tail _ _ L' _ hL' hT =>
      rw [hL] at hL'
      obtain rfl := Option.some.inj hL'
      obtain ⟨t1, ad, c, t2, _⟩ := hT
      refine ⟨_, _, _, t2, ?_⟩
      split at he
      · rename_i h0; subst h0; simp at he; rw [← he.1, q2]; simp
      · simp at he; rw [← he.1, q2]
  · cases hv; simp at h; exact ⟨_, _, _, rfl, h.1⟩
  · exact absurd rfl (hs _)
  · simp at h

theorem lenOpA_sound {t ty : TypeId} {x : Operand} (hi : Inv K F ρ m w) (he : EnvR K ρ w env a.tmps) (h : lenOpA P m env t x = some r) :
    Done P K F ρ m w r ((do pure (.value (← Builtin.len_ #[t] ty #[a.eval x])) : Sem Next).run P w) := by
  unfold lenOpA at h
  split at h
  · rename_i e hu
    split at h
    · simp at h
    · rename_i hs
      simp only [Option.map_eq_some_iff] at h
      obtain ⟨⟨n, rd⟩, h1, rfl⟩ := h
      obtain ⟨b, k, c, e1, e2⟩ := lenA_sound hi (ev_vr he x) hs h1
      refine Done.plain (u := .int .i64 k) hi (by rw [e2]; exact .int _ _) ?_
      rw [e1]
      simp [Builtin.len_, run_underlying hu, goInt]
  · simp at h
end
end Go.Ab

/- The framework, part 10: rows that are made, cut and appended to. -/
namespace Go.Ab
set_option linter.unusedVariables false

section
variable {P : Program} {K F : Nat → Prop} {ρ : Locs} {m : List Slot} {w w' : World} {env : List AV} {a : Act} {r : Res}

theorem flat_get {α : Type} (l : List α) (hl : 0 < l.length) : ∀ k i, i < k * l.length → (List.replicate k l).flatten[i]? = l[i % l.length]?
  | 0, i, h => by simp at h
  | k + 1, i, h => by
    rw [List.replicate_succ, List.flatten_cons, List.getElem?_append]
    by_cases hi : i < l.length
    · rw [if_pos hi, Nat.mod_eq_of_lt hi]
    · rw [if_neg hi, flat_get l hl k (i - l.length) (by rw [Nat.succ_mul] at h; omega), ← Nat.mod_eq_sub_mod (by omega)]

theorem zeros_list (z : Array Value) (hz : 0 < z.size) (k : Nat) : ((Array.range (k * z.size)).map (fun i => z[i % z.size]!)) = (List.replicate k z.toList).flatten.toArray := by
  apply Array.ext'
  simp only [Array.toList_map, Array.toList_range]
  apply List.ext_getElem?
  intro i
  by_cases hi : i < k * z.size
  · rw [flat_get z.toList (by simpa using hz) k i (by simpa using hi)]
    have hm : i % z.size < z.size := Nat.mod_lt _ hz
    simp [hi, hm, getElem!_pos]
  · have h1 : ((List.replicate k z.toList).flatten).length = k * z.size := by simp
    rw [List.getElem?_eq_none (by simp; omega), List.getElem?_eq_none (by omega)]

theorem decN_get {t : Ty} : ∀ {n : Nat} {cs : List AV} {l : List t.den}, decN t n cs = some l → l.length = n ∧ ∀ i x, l[i]? = some x → t.dec ((cs.drop (i * t.size)).take t.size) = some x
  | 0, cs, l, h => by simp [decN] at h; subst h; exact ⟨rfl, fun i x hx => by simp at hx⟩
  | n + 1, cs, l, h => by
    simp only [decN] at h
    split at h
    · rename_i x xs h1 h2
      simp only [Option.some.injEq] at h
      subst h
      obtain ⟨k1, k2⟩ := decN_get h2
      refine ⟨by simp [k1], fun i y hy => ?_⟩
      cases i with
      | zero => simp at hy; subst hy; simpa using h1
      | succ i =>
        have := k2 i y (by simpa using hy)
        rw [List.drop_drop] at this
        rw [show (i + 1) * t.size = t.size + i * t.size by rw [Nat.succ_mul]; omega]
        exact this
    · simp at h

/-- A new row out of cells. -/
theorem rowsR_new {L : Loc} {t : Ty} {n : Nat} {cs : List AV} {l : List t.den} {vs rest : List Value} {e : TypeId} (hd : decN t n cs = some l) (hv : VRL K ρ w cs vs)
    (hh : w.heap[L.blk]? = some (.cells (vs ++ rest).toArray e (0, 0))) (hn : L.nil = false) (ho : L.off = 0) (hsz : L.sz = t.size) (hl : L.len = n) (hb : L.bsz = (vs ++ rest).length) : RowsR K w L t l := by
  obtain ⟨k1, k2⟩ := decN_get hd
  refine ⟨hsz, by rw [hl, k1], fun h => by simp [hn] at h, fun _ => ⟨_, e, hh, by simp [hb], fun i x hx => ?_⟩⟩
  have hdec := k2 i x hx
  have hlen := dec_length hdec
  simp only [List.length_take, List.length_drop] at hlen
  have hlv := hv.length
  have hpos := Ty.size_pos t
  refine ⟨_, fun j hj => ?_, TyR.dec hdec ((hv.drop _).take _)⟩
  rw [ho, List.getElem?_toArray, Nat.zero_add, List.getElem?_append_left (by omega)]
  rw [List.getElem?_eq_getElem (by omega)]
  simp [List.getD, hj, List.getElem?_eq_getElem (show i * t.size + j < vs.length by omega)]

theorem newA_free {s : Nat} {v : AV} {o : AObj} {ok : Bool} {wr : List (Nat × Slot)} {rd : List Nat} (h : newA s m v o ok wr rd = some r) : m[s]? = some .free ∧ r = ⟨ok, v, wr ++ [(s, .obj o)], s :: rd⟩ := by
  unfold newA at h
  split at h
  · rename_i hf; simp at h; exact ⟨hf, h.symm⟩
  · simp at h

theorem Fz.free {m m' : List Slot} (h : Fz m m') {s : Nat} (hs : m[s]? = some .free) : m'[s]? = some .free := by
  rcases h s with e | ⟨t, l, e1, e2⟩
  · rw [e, hs]
  · rw [hs] at e1; simp at e1

theorem buildSliceA_sound {s : Nat} {t : TypeId} {len : Nat} {ps : Array (Nat × Operand)} (hi : Inv K F ρ m w) (he : EnvR K ρ w env a.tmps) (h : buildSliceA P s m env t len ps = some r) :
    Done P K F ρ m w r ((do pure (.value (← Instr.buildSlice t len (ps.map fun (i, x) => (i, a.eval x)))) : Sem Next).run P w) := by
  unfold buildSliceA at h
  split at h
  · simp at h
  · rename_i e hE
    have hu := elemP_some hE
    split at h
    · rename_i z n hz hn
      obtain ⟨zv, h1, h2⟩ := zeroA_some hz
      have hv := VR.cells (K := K) (ρ := ρ) (w := w) (fixT_vr P e (cstC_vr zv)) h2
      split at h
      · rename_i hcond
        obtain ⟨hzl, hn0, hlim⟩ := hcond
        have hzs : zv.cells.size = n := by have := hv.length; simp at this; omega
        split at h
        · simp at h
        · rename_i cs hcs
          have hv0 : VRL K ρ w (List.replicate len z).flatten (List.replicate len zv.cells.toList).flatten := by
            clear hcs hlim h
            induction len with
            | zero => exact .nil
            | succ k ih => rw [List.replicate_succ, List.replicate_succ, List.flatten_cons, List.flatten_cons]; exact hv.append ih
          obtain ⟨vs, e1, e2⟩ := fillA_sound (fun x => ev_vr he x) ps.toList hv0 hcs
          have hrun : (Instr.buildSlice t len (ps.map fun (i, x) => (i, a.eval x))).run P w = .ok (.slice (some ⟨w.heap.size, 0, none⟩) len len) (w.alloc (.cells vs e)) := by
            have hcells : len * n ≠ 0 → ((Array.range (len * n)).map (fun i => zv.cells[i % zv.cells.size]!)) = (List.replicate len zv.cells.toList).flatten.toArray := fun _ => by
              rw [← hzs]
              exact zeros_list zv.cells (by omega) len
            simp only [Instr.buildSlice, run_underlying hu, Sem.run_bind, Result.andThen_ok, run_sizeOf' hn, Sem.run_ite]
            rw [if_neg (by omega)]
            by_cases h0 : len * n = 0
            · have hl0 : len = 0 := by rcases Nat.mul_eq_zero.1 h0 with h0 | h0 <;> omega
              subst hl0
              simp only [List.replicate_zero, List.flatten_nil] at e1
              simp only [Nat.zero_mul, if_true, Sem.run_pure, Result.andThen_ok, parts_list]
              rw [show (Array.map (fun x => (#[] : Array Value)[x % (#[] : Array Value).size]!) (Array.range 0)) = ([] : List Value).toArray from by simp, e1]
              simp [newRow]
            · rw [if_neg h0]
              simp only [run_zeroValue' h1, Result.andThen_ok, Sem.run_pure, parts_list]
              rw [hcells h0, e1]
              simp [newRow]
          split at h
          · rename_i y hy
            split at h
            · rename_i hys
              split at h
              · rename_i fs wr hf
                simp only [Option.bind_eq_some_iff] at h
                obtain ⟨l, hl, hnew⟩ := h
                obtain ⟨hfree, hr⟩ := newA_free hnew
                obtain ⟨K1, s1, i1, f1, v1⟩ := frzL_sound hf (Fz.refl m) hi e2
                have hfree1 := f1.free hfree
                have hres : (do pure (.value (← Instr.buildSlice t len (ps.map fun (i, x) => (i, a.eval x)))) : Sem Next).run P w = .ok (.value (.slice (some ⟨w.heap.size, 0, none⟩) len len)) (w.alloc (.cells vs e)) := by
                  simp [hrun]
                refine new_sound hnew s1 i1 hfree1 rfl (L := ⟨false, w.heap.size, 0, len, y.size, vs.size⟩) rfl rfl ?_ ?_ ⟨rfl, rfl, rfl, rfl⟩ hres
                · have hk := keep_alloc i1 (.cells vs e)
                  exact rowsR_new (rest := []) hl (VRL.mono (fun _ x => x) hk (fun _ _ x => x) v1) (by simpa using heap_alloc' w _) rfl rfl rfl rfl (by simp)
                · refine .tail s 0 ⟨false, w.heap.size, 0, len, y.size, vs.size⟩ _ (by simp [upd]) ⟨Nat.zero_le _, some ⟨w.heap.size, 0, none⟩, len, rfl, Nat.le_refl _, fun _ => ⟨rfl, by simp, ?_⟩⟩
                  have := e2.length
                  simp only [Array.length_toList] at this
                  have h3 : cs.length = fs.length := by rw [e2.length, v1.length]
                  obtain ⟨k1, k2⟩ := decN_get hl
                  rcases Nat.eq_zero_or_pos len with h0 | h0
                  · subst h0; simp
                  · have h4 := k2 (len - 1) l[len - 1] (List.getElem?_eq_getElem (by omega))
                    have h5 := dec_length h4
                    simp only [List.length_take, List.length_drop] at h5
                    have h6 : len * y.size = (len - 1) * y.size + y.size := by
                      rw [← Nat.succ_mul]; congr 1; omega
                    have := Ty.size_pos y
                    simp only [Nat.zero_add]
                    omega
              · simp at h
            · simp at h
          · obtain ⟨hfree, hr⟩ := newA_free h
            have hres : (do pure (.value (← Instr.buildSlice t len (ps.map fun (i, x) => (i, a.eval x)))) : Sem Next).run P w = .ok (.value (.slice (some ⟨w.heap.size, 0, none⟩) len len)) (w.alloc (.cells vs e)) := by
              simp [hrun]
            refine new_sound h (Step.refl _ _ _ _) hi hfree rfl (L := ⟨false, w.heap.size, 0, 0, 0, 0⟩) rfl rfl ?_ ?_ ⟨rfl, rfl, rfl, rfl⟩ hres
            · exact ⟨rfl, rfl, vs.toList, e, by simpa using heap_alloc' w _, VRL.mono (fun _ x => x) (keep_alloc hi _) (upd_mono hi hfree _) e2⟩
            · exact .bsl s len len ⟨false, w.heap.size, 0, 0, 0, 0⟩ (by simp [upd]) (Nat.le_refl _)
      · simp at h
    · simp at h

theorem replicate_tyR {t : Ty} {cs : List AV} {vs : List Value} {d : t.den} (hd : t.dec cs = some d) (hv : VRL K ρ w cs vs) (n : Nat) :
    decN t n (List.replicate n cs).flatten = some (List.replicate n d) := by
  induction n with
  | zero => rfl
  | succ n ih =>
    have hl := dec_length hd
    simp only [List.replicate_succ, List.flatten_cons, decN]
    rw [List.take_left' hl, List.drop_left' hl, hd, ih]

theorem makeSliceA_sound {s : Nat} {t : TypeId} {l c : Operand} (hi : Inv K F ρ m w) (he : EnvR K ρ w env a.tmps) (h : makeSliceA P s m env t l c = some r) (hok : r.ok = true) :
    Done P K F ρ m w r ((do pure (.value (← Instr.makeSlice t (a.eval l) (a.eval c))) : Sem Next).run P w) := by
  unfold makeSliceA at h
  split at h
  · simp at h
  · rename_i e hE
    have hu := elemP_some hE
    split at h
    · rename_i y z i n k hy hz hinf hl hc
      obtain ⟨zv, h1, h2⟩ := zeroA_some hz
      have hv := VR.cells (K := K) (ρ := ρ) (w := w) (fixT_vr P e (cstC_vr zv)) h2
      split at h
      · rename_i d hd
        split at h
        · rename_i hcond
          obtain ⟨hys, hzl, hby⟩ := hcond
          obtain ⟨hfree, hr⟩ := newA_free h
          rw [hr] at hok
          simp only [Bool.and_eq_true, decide_eq_true_eq] at hok
          obtain ⟨h0, hnk, hk⟩ := hok
          have hlv := ev_vr he l
          have hcv := ev_vr he c
          rw [hl] at hlv
          rw [hc] at hcv
          cases hal : a.eval l <;> rw [hal] at hlv <;> cases hlv
          cases hac : a.eval c <;> rw [hac] at hcv <;> cases hcv
          have hzs : zv.cells.size = i.size := by have := hv.length; simp at this; omega
          have hpos := Ty.size_pos y
          have hwn : IntKind.i64.wrap n = n := by simp only [IntKind.wrap, IntKind.bits, IntKind.signed]; simp; omega
          have hwk : IntKind.i64.wrap k = k := by simp only [IntKind.wrap, IntKind.bits, IntKind.signed]; simp; omega
          have hbk : (i.bytes : Int) * k ≤ 2 ^ 48 := by
            have h3 : (i.bytes : Int) * k ≤ 65536 * 1073741824 := by
              have a1 : (i.bytes : Int) ≤ 65536 := by omega
              have a2 : (i.bytes : Int) * k ≤ 65536 * k := Int.mul_le_mul_of_nonneg_right a1 (by omega)
              omega
            omega
          have hrun : (do pure (.value (← Instr.makeSlice t (.int .i64 n) (.int .i64 k))) : Sem Next).run P w =
              .ok (.value (.slice (some ⟨w.heap.size, 0, none⟩) n.toNat k.toNat)) (w.alloc (.cells (List.replicate k.toNat zv.cells.toList).flatten.toArray e)) := by
            have hz0 : (if k.toNat * i.size = 0 then (pure #[] : Sem (Array Value)) else do pure (← zeroValue e).cells).run P w = .ok (if k.toNat * i.size = 0 then #[] else zv.cells) w := by
              split <;> simp [run_zeroValue' h1]
            have hsz : sizeP P e = some i.size := by simp [sizeP, hinf]
            simp only [Instr.makeSlice, run_underlying hu, Sem.run_bind, Result.andThen_ok, asInt, asIntOf, Sem.run_pure, run_typeInfo' hinf, hwn, hwk, Sem.run_ite]
            rw [if_neg (by simp; omega)]
            simp only [run_askRoom, Result.andThen_ok, run_sizeOf' hsz]
            by_cases hk0 : k.toNat * i.size = 0
            · have : k.toNat = 0 := by rcases Nat.mul_eq_zero.1 hk0 with h9 | h9 <;> omega
              rw [if_pos hk0]
              simp [this, newRow, Array.range_zero']
            · rw [if_neg hk0]
              simp only [run_zeroValue' h1, Result.andThen_ok]
              rw [← hzs, zeros_list zv.cells (by omega)]
              simp [newRow]
          have hdec := replicate_tyR hd hv k.toNat
          have hfl : VRL K ρ w (List.replicate k.toNat z).flatten (List.replicate k.toNat zv.cells.toList).flatten := by
            generalize k.toNat = q
            induction q with
            | zero => exact .nil
            | succ k ih => rw [List.replicate_succ, List.replicate_succ, List.flatten_cons, List.flatten_cons]; exact hv.append ih
          have hlen : ((List.replicate k.toNat zv.cells.toList).flatten).length = k.toNat * y.size := by simp [hzs, hys]
          refine new_sound h (Step.refl _ _ _ _) hi hfree rfl (L := ⟨false, w.heap.size, 0, n.toNat, y.size, k.toNat * y.size⟩) rfl rfl ?_ ?_ ⟨rfl, rfl, rfl, rfl⟩ hrun
          · have hkk := keep_alloc hi (.cells (List.replicate k.toNat zv.cells.toList).flatten.toArray e)
            have big := rowsR_new (rest := []) (L := ⟨false, w.heap.size, 0, k.toNat, y.size, k.toNat * y.size⟩) hdec (VRL.mono (fun _ x => x) hkk (fun _ _ x => x) hfl) (by simpa using heap_alloc' w _) rfl rfl rfl rfl (by simp [hlen])
            obtain ⟨b1, b2, b3, b4⟩ := big
            refine ⟨rfl, by simp, fun hh => by simp at hh, fun _ => ?_⟩
            obtain ⟨vs, e', c1, c2, c3⟩ := b4 rfl
            refine ⟨vs, e', c1, c2, fun q x hx => c3 q x ?_⟩
            rw [List.getElem?_replicate] at hx ⊢
            split at hx
            · rw [if_pos (by omega)]; exact hx
            · simp at hx
          · refine .tail s 0 ⟨false, w.heap.size, 0, n.toNat, y.size, k.toNat * y.size⟩ _ (by simp [upd]) ⟨Nat.zero_le _, some ⟨w.heap.size, 0, none⟩, k.toNat, rfl, by show n.toNat - 0 ≤ _; omega, fun _ => ⟨rfl, by simp, by simp⟩⟩
        · simp at h
      · simp at h
    · simp at h
end
end Go.Ab

/- The framework, part 11: slicing. -/
namespace Go.Ab
set_option linter.unusedVariables false

section
variable {P : Program} {K F : Nat → Prop} {ρ : Locs} {m : List Slot} {w w' : World} {env : List AV} {a : Act} {r : Res}

theorem intLit_vr {v : AV} {n : Int} (h : intLit v = some n) {u : Value} (hv : VR K ρ w v u) : ∃ k, u = .int k n := by
  unfold intLit at h
  split at h
  · simp at h; subst h; cases hv; exact ⟨_, rfl⟩
  · simp at h

/-- The bounds that are there, and those that are not. -/
theorem boundA_vr (he : EnvR K ρ w env a.tmps) {d n : Int} {x : Option Operand} (h : boundA env d x = some n) :
    (x = none ∧ n = d) ∨ ∃ o k, x = some o ∧ a.eval o = .int k n := by
  unfold boundA at h
  split at h
  · simp at h; exact .inl ⟨rfl, h.symm⟩
  · obtain ⟨k, hk⟩ := intLit_vr h (ev_vr he _); exact .inr ⟨_, k, rfl, hk⟩

theorem run_sliceBound {k : IntKind} {i : Int} {y : Nat} {c : BoundsCode} (h0 : 0 ≤ i) (h1 : i ≤ y) (w : World) : (Instr.sliceBound (.int k i) y c).run P w = .ok i.toNat w := by
  simp [Instr.sliceBound, asIntOf, h0, h1]

/-- A slice's bounds, without the third. -/
theorem run_sliceBounds {len cap : Nat} (hlc : len ≤ cap) {lo hi : Option Operand} {i j : Int} (hl : (lo = none ∧ i = 0) ∨ ∃ o k, lo = some o ∧ a.eval o = .int k i)
    (hh : (hi = none ∧ j = len) ∨ ∃ o k, hi = some o ∧ a.eval o = .int k j) (h0 : 0 ≤ i) (hij : i ≤ j) (hj : j ≤ len) (w : World) :
    (Instr.sliceBounds true len cap (lo.map a.eval) (hi.map a.eval) none).run P w = .ok (i.toNat, j.toNat, cap) w := by
  have e1 : ∀ w, (match hi.map a.eval, (none : Option Value) with
      | some v, some _ => Instr.sliceBound v cap .slice3B
      | some v, none => Instr.sliceBound v cap (if true then .sliceAcap else .sliceAlen)
      | none, none => pure len
      | none, some _ => stuck "Slice: max without high").run P w = .ok j.toNat w := fun w => by
    rcases hh with ⟨rfl, rfl⟩ | ⟨o, k, rfl, hk⟩
    · simp
    · simp only [Option.map_some, hk]
      exact run_sliceBound (by omega) (by omega) w
  have e2 : ∀ w, (match lo.map a.eval with
      | some v => Instr.sliceBound v j.toNat (if (none : Option Value).isSome then .slice3C else .sliceB)
      | none => pure 0).run P w = .ok i.toNat w := fun w => by
    rcases hl with ⟨rfl, rfl⟩ | ⟨o, k, rfl, hk⟩
    · simp
    · simp only [Option.map_some, hk]
      exact run_sliceBound h0 (by omega) w
  have e1' := e1 w
  have e2' := e2 w
  unfold Instr.sliceBounds
  cases hi <;> cases lo <;> simp_all

theorem elemSize_some {t : TypeId} {n : Nat} (h : elemSize P t = some n) : ∃ e, P.underlying t = some (.slice e) ∧ sizeP P e = some n := by
  simp only [elemSize, Option.bind_eq_some_iff] at h
  obtain ⟨e, h1, h2⟩ := h
  exact ⟨e, elemP_some h1, h2⟩

theorem run_sliceAt {t e : TypeId} {n : Nat} (hu : P.underlying t = some (.slice e)) (hn : sizeP P e = some n) {ad : Option Addr} {len cap l h k : Nat} {lo hi mx : Option Value} {w : World}
    (hb : (Instr.sliceBounds true len cap lo hi mx).run P w = .ok (l, h, k) w) :
    (Instr.sliceAt t (.slice ad len cap) lo hi mx).run P w = .ok (.slice (if k = l then ad else ad.map (·.add (l * n))) (h - l) (k - l)) w := by
  simp [Instr.sliceAt, Instr.slice, run_underlying hu, hb, run_sizeOf' hn]

/-- A piece of read-only data. -/
theorem slice_ro {t : TypeId} {y : Ty} (hes : elemSize P t = some y.size) {l : List y.den} {v : Value} (hT : TyR K w (.list y) l (fun _ => v)) {lo hi : Option Operand} {i j : Int}
    (hl : (lo = none ∧ i = 0) ∨ ∃ o k, lo = some o ∧ a.eval o = .int k i) (hh : (hi = none ∧ j = (l.length : Int)) ∨ ∃ o k, hi = some o ∧ a.eval o = .int k j)
    (h0 : 0 ≤ i) (hij : i ≤ j) (hj : j ≤ (l.length : Int)) :
    ∃ v', (Instr.sliceAt t v (lo.map a.eval) (hi.map a.eval) none).run P w = .ok v' w ∧ TyR K w (.list y) ((l.take j.toNat).drop i.toNat) (fun _ => v') := by
  obtain ⟨e, hu, hn⟩ := elemSize_some hes
  obtain ⟨ad, c, e1, e2, e3⟩ := hT
  simp only at e1
  subst e1
  have hb := run_sliceBounds (P := P) (a := a) e2 hl hh h0 hij hj w
  refine ⟨_, run_sliceAt hu hn hb, ?_⟩
  have hlen : ((l.take j.toNat).drop i.toNat).length = j.toNat - i.toNat := by simp; omega
  refine ⟨if c = i.toNat then ad else ad.map (·.add (i.toNat * y.size)), c - i.toNat, by rw [hlen], by rw [hlen]; omega, fun q x hx => ?_⟩
  have hq : q < ((l.take j.toNat).drop i.toNat).length := (List.getElem?_eq_some_iff.1 hx).1
  rw [hlen] at hq
  have hx' : l[i.toNat + q]? = some x := by
    rw [List.getElem?_drop, List.getElem?_take, if_pos (by omega)] at hx
    exact hx
  obtain ⟨blk, off, g, k1, k2, k3, k4⟩ := e3 _ x hx'
  subst k1
  refine ⟨blk, off + i.toNat * y.size, g, ?_, k2, fun p hp => ?_, k4⟩
  · rw [if_neg (by omega), Option.map_some, addr_add]
  · have := k3 p hp
    rw [Nat.add_mul] at this
    rw [show off + i.toNat * y.size + (q * y.size + p) = off + (i.toNat * y.size + q * y.size + p) by omega]
    exact this

theorem bound0 (he : EnvR K ρ w env a.tmps) {x : Option Operand} (h : boundA env 0 x = some 0) {y : Nat} {c : BoundsCode} : ∀ o, x = some o → (Instr.sliceBound (a.eval o) y c).run P w = .ok 0 w := fun o ho => by
  subst ho
  rcases boundA_vr he h with ⟨h1, _⟩ | ⟨o', k, h1, h2⟩
  · simp at h1
  · simp at h1; subst h1; rw [h2]; exact run_sliceBound (by omega) (by omega) w

theorem sliceA_sound {t : TypeId} {x : Operand} {lo hi mx : Option Operand} (hi' : Inv K F ρ m w) (he : EnvR K ρ w env a.tmps) (h : sliceA P m env t x lo hi mx = some r) (hok : r.ok = true) :
    Done P K F ρ m w r ((do pure (.value (← Instr.sliceAt t (a.eval x) (lo.map a.eval) (hi.map a.eval) (mx.map a.eval))) : Sem Next).run P w) := by
  unfold sliceA at h
  have hx := ev_vr he x
  split at h
  · simp at h
  · rename_i n hes
    split at h
    · rename_i y l hb
      rw [hb] at hx
      split at h
      · rename_i hny
        rw [hny] at hes
        split at h
        · split at h
          · simp only [Option.map_eq_some_iff] at h
            obtain ⟨i, h1, rfl⟩ := h
            simp only [Bool.and_eq_true, decide_eq_true_eq] at hok
            cases hx with
            | ro _ _ v hT =>
              obtain ⟨v', k1, k2⟩ := slice_ro (a := a) (hi := none) (j := (l.length : Int)) hes hT (boundA_vr he h1) (.inl ⟨rfl, rfl⟩) hok.1 hok.2 (Int.le_refl _)
              simp only [Int.toNat_natCast, List.take_length] at k2
              exact Done.plain hi' (.ro _ _ _ k2) (by simp only [Option.map_none, Sem.run_bind] at k1 ⊢; rw [k1]; rfl)
          · rename_i ho
            split at h
            · rename_i i j h1 h2
              simp only [Option.some.injEq] at h
              subst h
              simp only [Bool.and_eq_true, decide_eq_true_eq] at hok
              obtain ⟨kk, hkk⟩ := intLit_vr h2 (ev_vr he ho)
              cases hx with
              | ro _ _ v hT =>
                obtain ⟨v', k1, k2⟩ := slice_ro (a := a) (hi := some ho) (j := j) hes hT (boundA_vr he h1) (.inr ⟨ho, kk, rfl, hkk⟩) hok.1 hok.2.1 hok.2.2
                exact Done.plain hi' (.ro _ _ _ k2) (by simp only [Option.map_none, Sem.run_bind] at k1 ⊢; rw [k1]; rfl)
            · simp at h
        · rename_i ko
          split at h
          · simp at h
          · rename_i ho
            split at h
            · rename_i hc
              obtain ⟨c1, c2, c3⟩ := hc
              obtain ⟨e, hu, hn⟩ := elemSize_some hes
              cases hx with
              | ro _ _ v hT =>
                obtain ⟨ad, c, e1, _, _⟩ := hT
                simp only at e1
                obtain ⟨k2, hk2⟩ := intLit_vr c2 (ev_vr he ho)
                obtain ⟨k3, hk3⟩ := intLit_vr c3 (ev_vr he ko)
                have hb : (Instr.sliceBounds true l.length c (lo.map a.eval) (some (a.eval ho)) (some (a.eval ko))).run P w = .ok (0, 0, 0) w := by
                  rw [hk2, hk3]
                  have q1 := fun y cd => run_sliceBound (P := P) (k := k2) (i := 0) (y := y) (c := cd) (by omega) (by omega) w
                  have q2 := fun y cd => run_sliceBound (P := P) (k := k3) (i := 0) (y := y) (c := cd) (by omega) (by omega) w
                  have q3 := fun y cd => bound0 (P := P) (y := y) (c := cd) he c1
                  cases lo <;> simp_all [Instr.sliceBounds]
                refine Done.of_pure h hi' (.nils _ ad) ?_
                rw [e1]
                have := run_sliceAt (ad := ad) hu hn hb
                simp only [Option.map_some, Sem.run_bind, this]
                simp
            · simp at h
      · simp at h
    · rename_i y hb
      rw [hb] at hx
      obtain ⟨e, hu, hn⟩ := elemSize_some hes
      split at h
      · simp at h
      · rename_i hne
        split at h
        · rename_i hc
          obtain ⟨c1, c2, c3⟩ := hc
          cases hx' : a.eval x <;> rw [hx'] at hx <;> cases hx
          rename_i ad
          have q1 := fun y cd => bound0 (P := P) (y := y) (c := cd) he c1
          have q2 := fun y cd => bound0 (P := P) (y := y) (c := cd) he c2
          have q3 := fun y cd => bound0 (P := P) (y := y) (c := cd) he c3
          have hb : (Instr.sliceBounds true 0 0 (lo.map a.eval) (hi.map a.eval) (mx.map a.eval)).run P w = .ok (0, 0, 0) w := by
            cases lo <;> cases hi <;> cases mx <;> simp_all [Instr.sliceBounds]
          refine Done.of_pure h hi' (.nils _ ad) ?_
          have := run_sliceAt (ad := ad) hu hn hb
          simp only [Sem.run_bind, this]
          simp
        · simp at h
    · rename_i b i hb
      rw [hb] at hx
      split at h
      · rename_i y l hrow
        split at h
        · rename_i hny
          rw [hny] at hes
          obtain ⟨e, hu, hn⟩ := elemSize_some hes
          obtain ⟨L, hL, hR⟩ := hi'.row hrow
          split at h
          · simp only [Option.map_eq_some_iff] at h
            obtain ⟨p, h1, rfl⟩ := h
            simp only [Bool.and_eq_true, decide_eq_true_eq] at hok
            cases hx with
            | tail _ _ L' v hL' hT =>
              rw [hL] at hL'
              obtain rfl := Option.some.inj hL'
              obtain ⟨t1, ad, c, t2, t3, t4⟩ := hT
              have hll : L.len = l.length := hR.2.1
              have hbb := run_sliceBounds (P := P) (a := a) (len := L.len - i) (cap := c) t3 (hi := none) (boundA_vr he h1) (.inl ⟨rfl, rfl⟩) hok.1 (by rw [hll]; exact hok.2) (Int.le_refl _) w
              have hrun := run_sliceAt (ad := ad) hu hn hbb
              refine Done.plain hi' (.tail b (i + p.toNat) L _ hL ⟨by omega, if c = p.toNat then ad else ad.map (·.add (p.toNat * y.size)), c - p.toNat, rfl, by omega, fun hc => ?_⟩) ?_
              · obtain ⟨u1, u2, u3⟩ := t4 (by omega)
                refine ⟨u1, ?_, ?_⟩
                · rw [if_neg (by omega), u2, Option.map_some, addr_add]
                  congr 2
                  rw [show L.sz = y.size from hR.1, Nat.add_mul]
                  omega
                · rw [show i + p.toNat + (c - p.toNat) = i + c by omega]
                  exact u3
              · rw [t2]
                simp only [Option.map_none, Sem.run_bind] at hrun ⊢
                rw [hrun]
                simp only [Result.andThen_ok, Sem.run_pure, Int.toNat_natCast]
                congr 3
                omega
          · rename_i ho
            split at h
            · rename_i p q h1 h2
              simp only [Option.some.injEq] at h
              subst h
              simp only [Bool.and_eq_true, decide_eq_true_eq] at hok
              obtain ⟨kk, hkk⟩ := intLit_vr h2 (ev_vr he ho)
              have hf : frz m (.tail b i) = some (.ro y (if i = 0 then l else l.drop i), [(b, .obj (.frows y l))]) := by simp [frz, hrow]
              obtain ⟨K1, s1, i1, _, v1⟩ := frz_sound (fun _ _ => trivial) hf (Fz.refl m) hi' hx
              cases v1 with
              | ro _ _ v hT =>
                have hif : (if i = 0 then l else l.drop i) = l.drop i := by split <;> simp_all
                rw [hif] at hT
                obtain ⟨v', k1, k2⟩ := slice_ro (a := a) (hi := some ho) (j := q) hes hT (boundA_vr he h1) (.inr ⟨ho, kk, rfl, hkk⟩) hok.1 hok.2.1 (by rw [List.length_drop]; exact hok.2.2)
                refine ⟨v', w, K1, ρ, .inl ?_, s1, i1, .ro _ _ _ k2⟩
                simp only [Option.map_none, Sem.run_bind] at k1 ⊢
                rw [k1]
                rfl
            · simp at h
        · simp at h
      · simp at h
    · simp at h
end
end Go.Ab

/- The framework, part 12: append. -/
namespace Go.Ab
set_option linter.unusedVariables false

section
variable {P : Program} {K F : Nat → Prop} {ρ : Locs} {m : List Slot} {w w' : World} {env : List AV} {a : Act} {r : Res}

/-- The cells from ⟨b, o⟩ on hold these elements. -/
def RowRead (K : Nat → Prop) (w : World) (b o : Nat) (t : Ty) (xs : List t.den) : Prop :=
  ∀ i x, xs[i]? = some x → ∃ g, (∀ j, j < t.size → w.cell? ⟨b, o + (i * t.size + j), none⟩ = some (g j)) ∧ TyR K w t x g

def cellsL (w : World) (b o n : Nat) : List Value := (List.range n).map fun q => (w.cell? ⟨b, o + q, none⟩).getD undef

theorem TyR.one {t : Ty} {x : t.den} {g : Nat → Value} (h : TyR K w t x g) : ∀ j, j < t.size → (g j).oneCell' = true := by
  induction t generalizing g with
  | int k => intro j hj; simp [Ty.size] at hj; subst hj; simp only [TyR] at h; rw [h]; rfl
  | bool => intro j hj; simp [Ty.size] at hj; subst hj; simp only [TyR] at h; rw [h]; rfl
  | str => intro j hj; simp [Ty.size] at hj; subst hj; simp only [TyR] at h; rw [h]; rfl
  | list e ih => intro j hj; simp [Ty.size] at hj; subst hj; obtain ⟨a, c, h1, _⟩ := h; rw [h1]; rfl
  | pair a b iha ihb =>
    intro j hj
    simp only [Ty.size] at hj
    by_cases hja : j < a.size
    · exact iha h.1 j hja
    · have := ihb h.2 (j - a.size) (by omega)
      rwa [show a.size + (j - a.size) = j by omega] at this

theorem RowRead.split {b o : Nat} {t : Ty} {xs : List t.den} (h : RowRead K w b o t xs) {q : Nat} (hq : q < xs.length * t.size) :
    ∃ v, w.cell? ⟨b, o + q, none⟩ = some v ∧ v.oneCell' = true := by
  have hpos := Ty.size_pos t
  have hi : q / t.size < xs.length := by rw [Nat.div_lt_iff_lt_mul hpos]; exact hq
  obtain ⟨g, h1, h2⟩ := h (q / t.size) _ (List.getElem?_eq_getElem hi)
  have hm := Nat.mod_lt q hpos
  have := h1 (q % t.size) hm
  rw [show q / t.size * t.size + q % t.size = q by rw [Nat.mul_comm]; exact Nat.div_add_mod q t.size] at this
  exact ⟨_, this, TyR.one h2 _ hm⟩

theorem RowRead.cells {b o : Nat} {t : Ty} {xs : List t.den} (h : RowRead K w b o t xs) : ∀ j v, (cellsL w b o (xs.length * t.size))[j]? = some v → w.cell? ⟨b, o + j, none⟩ = some v := by
  intro j v hv
  simp only [cellsL, List.getElem?_map, Option.map_eq_some_iff] at hv
  obtain ⟨q, hq, rfl⟩ := hv
  obtain ⟨h1, h2⟩ := List.getElem?_eq_some_iff.1 hq
  simp at h1 h2
  subst h2
  obtain ⟨v, hv, _⟩ := h.split h1
  simp [hv]

theorem RowRead.one {b o : Nat} {t : Ty} {xs : List t.den} (h : RowRead K w b o t xs) : ∀ v ∈ cellsL w b o (xs.length * t.size), v.oneCell' = true := by
  intro v hv
  simp only [cellsL, List.mem_map, List.mem_range] at hv
  obtain ⟨q, hq, rfl⟩ := hv
  obtain ⟨v, hv, h1⟩ := h.split hq
  simp [hv, h1]

/-- Elements in a list of cells. -/
def Elems (K : Nat → Prop) (w : World) (t : Ty) (xs : List t.den) (vs : List Value) : Prop :=
  vs.length = xs.length * t.size ∧ ∀ i x, xs[i]? = some x → ∃ g, (∀ j, j < t.size → vs[i * t.size + j]? = some (g j)) ∧ TyR K w t x g

theorem RowRead.elems {b o : Nat} {t : Ty} {xs : List t.den} (h : RowRead K w b o t xs) : Elems K w t xs (cellsL w b o (xs.length * t.size)) := by
  refine ⟨by simp [cellsL], fun i x hx => ?_⟩
  obtain ⟨g, h1, h2⟩ := h i x hx
  refine ⟨g, fun j hj => ?_, h2⟩
  have hi : i < xs.length := (List.getElem?_eq_some_iff.1 hx).1
  have : i * t.size + j < xs.length * t.size := by
    have := Nat.mul_le_mul_right t.size (Nat.succ_le_of_lt hi)
    rw [Nat.succ_mul] at this
    omega
  simp [cellsL, this, h1 j hj]

theorem Elems.append {t : Ty} {xs ys : List t.den} {us vs : List Value} (h : Elems K w t xs us) (h' : Elems K w t ys vs) : Elems K w t (xs ++ ys) (us ++ vs) := by
  refine ⟨by rw [List.length_append, h.1, h'.1, List.length_append, Nat.add_mul], fun i x hx => ?_⟩
  rw [List.getElem?_append] at hx
  split at hx
  · rename_i hi
    obtain ⟨g, h1, h2⟩ := h.2 i x hx
    refine ⟨g, fun j hj => ?_, h2⟩
    have := Nat.mul_le_mul_right t.size (Nat.succ_le_of_lt hi)
    rw [Nat.succ_mul] at this
    rw [List.getElem?_append_left (by rw [h.1]; omega)]
    exact h1 j hj
  · rename_i hi
    obtain ⟨g, h1, h2⟩ := h'.2 _ x hx
    refine ⟨g, fun j hj => ?_, h2⟩
    have hm : i * t.size = xs.length * t.size + (i - xs.length) * t.size := by rw [← Nat.add_mul]; congr 1; omega
    rw [List.getElem?_append_right (by rw [h.1]; omega), h.1, show i * t.size + j - xs.length * t.size = (i - xs.length) * t.size + j by omega]
    exact h1 j hj

theorem Elems.rows {L : Loc} {t : Ty} {xs : List t.den} {vs : List Value} {cur : Array Value} {e : TypeId} (h : Elems K w t xs vs) (hh : w.heap[L.blk]? = some (.cells cur e (0, 0)))
    (hn : L.nil = false) (hsz : L.sz = t.size) (hl : L.len = xs.length) (hb : cur.size = L.bsz) (hc : ∀ j v, vs[j]? = some v → cur[L.off + j]? = some v) : RowsR K w L t xs := by
  refine ⟨hsz, hl, fun h => by simp [hn] at h, fun _ => ⟨cur, e, hh, hb, fun i x hx => ?_⟩⟩
  obtain ⟨g, h1, h2⟩ := h.2 i x hx
  exact ⟨g, fun j hj => hc _ _ (h1 j hj), h2⟩

theorem Elems.mono {K' : Nat → Prop} {t : Ty} {xs : List t.den} {vs : List Value} (hs : ∀ b, K b → K' b) (hk : ∀ b, K b → w'.heap[b]? = w.heap[b]?) (h : Elems K w t xs vs) : Elems K' w' t xs vs :=
  ⟨h.1, fun i x hx => let ⟨g, h1, h2⟩ := h.2 i x hx; ⟨g, h1, TyR.mono hs hk _ _ _ h2⟩⟩

/-- A row's elements, to be read. -/
theorem RowsR.read {L : Loc} {t : Ty} {l : List t.den} (h : RowsR K w L t l) (i : Nat) : RowRead K w L.blk (L.off + i * L.sz) t (l.drop i) := by
  intro j x hx
  rw [List.getElem?_drop] at hx
  have hn : L.nil = false := by
    cases hn : L.nil with
    | false => rfl
    | true => rw [h.2.2.1 hn] at hx; simp at hx
  obtain ⟨vs, e, e1, e2, e3⟩ := h.2.2.2 hn
  obtain ⟨g, k1, k2⟩ := e3 _ x hx
  refine ⟨g, fun q hq => ?_, k2⟩
  have := k1 q hq
  rw [Nat.add_mul] at this
  rw [h.1, show L.off + i * t.size + (j * t.size + q) = L.off + (i * t.size + j * t.size + q) by omega]
  simp [World.cell?, e1, this]

/-- What is appended. -/
theorem elemsOf_sound {y : Ty} {v : AV} {u : Value} {xs : List y.den} {rd : List Nat} (hi : Inv K F ρ m w) (hv : VR K ρ w v u) (h : elemsOf m y v = some (xs, rd)) :
    ∃ news, Elems K w y xs news ∧ (∀ x ∈ news, x.oneCell' = true) ∧ (∀ w1, (Builtin.lenOf u).run P w1 = .ok xs.length w1) ∧
      ∀ w1, w1.heap = w.heap → (Builtin.firstCells y.size xs.length u).run P w1 = .ok news.toArray w1 := by
  have hnil : ∀ ad c, u = .slice ad 0 c → xs = [] → ∃ news, Elems K w y xs news ∧ (∀ x ∈ news, x.oneCell' = true) ∧ (∀ w1, (Builtin.lenOf u).run P w1 = .ok xs.length w1) ∧
      ∀ w1, w1.heap = w.heap → (Builtin.firstCells y.size xs.length u).run P w1 = .ok news.toArray w1 := fun ad c hu hx => by
    subst hu
    subst hx
    refine ⟨[], ⟨by simp, fun i x hx => by simp at hx⟩, by simp, fun w1 => by simp [Builtin.lenOf], fun w1 _ => ?_⟩
    cases ad <;> simp [Builtin.firstCells, loadCells, loadCellsFrom]
  have hread : ∀ b o c, RowRead K w b o y xs → u = .slice (some ⟨b, o, none⟩) xs.length c → ∃ news, Elems K w y xs news ∧ (∀ x ∈ news, x.oneCell' = true) ∧ (∀ w1, (Builtin.lenOf u).run P w1 = .ok xs.length w1) ∧
      ∀ w1, w1.heap = w.heap → (Builtin.firstCells y.size xs.length u).run P w1 = .ok news.toArray w1 := fun b o c hr hu => by
    subst hu
    refine ⟨_, hr.elems, hr.one, fun w1 => by simp [Builtin.lenOf], fun w1 hw1 => ?_⟩
    refine run_firstCells_some w1 y.size xs.length _ _ _ _ (by simp [cellsL]) fun j v hj => ?_
    rw [addr_add]
    have := hr.cells j v hj
    simpa [World.cell?, hw1] using this
  unfold elemsOf at h
  split at h
  · cases hv; simp at h; exact hnil _ _ rfl h.1
  · cases hv; simp at h; exact hnil _ _ rfl h.1
  · rename_i e l
    split at h
    · rename_i heq
      subst heq
      simp only [Option.some.injEq, Prod.mk.injEq] at h
      obtain ⟨rfl, rfl⟩ := h
      cases hv with
      | ro _ _ _ hT =>
        obtain ⟨ad, c, e1, e2, e3⟩ := hT
        simp only at e1
        by_cases hl0 : l = []
        · exact hnil ad c (by rw [e1, hl0]; rfl) hl0
        · have hpos : 0 < l.length := List.length_pos_iff.2 hl0
          obtain ⟨blk, off, g, k1, k2, _⟩ := e3 0 _ (List.getElem?_eq_getElem hpos)
          subst k1
          refine hread blk off c (fun i x hx => ?_) e1
          obtain ⟨blk', off', g', q1, q2, q3, q4⟩ := e3 i x hx
          simp at q1
          obtain ⟨rfl, rfl⟩ := q1
          exact ⟨g', q3, q4⟩
    · simp at h
  · rename_i b i
    split at h
    · rename_i e l hrow
      split at h
      · rename_i heq
        subst heq
        simp only [Option.some.injEq, Prod.mk.injEq] at h
        obtain ⟨hx, _⟩ := h
        have hx' : xs = l.drop i := by rw [← hx]; split <;> simp_all
        obtain ⟨L, hL, hR⟩ := hi.row hrow
        cases hv with
        | tail _ _ L' _ hL' hT =>
          rw [hL] at hL'
          obtain rfl := Option.some.inj hL'
          obtain ⟨t1, ad, c, t2, t3, t4⟩ := hT
          have hlen : xs.length = L.len - i := by rw [hx', List.length_drop, show L.len = l.length from hR.2.1]
          by_cases hc : 0 < c
          · obtain ⟨u1, u2, u3⟩ := t4 hc
            refine hread L.blk (L.off + i * L.sz) c (by rw [hx']; exact hR.read i) (by rw [t2, u2, hlen])
          · have : L.len - i = 0 := by omega
            exact hnil ad c (by rw [t2, this]) (List.eq_nil_of_length_eq_zero (by omega))
      · simp at h
    · simp at h
  · rename_i s
    split at h
    · simp only [Option.some.injEq, Prod.mk.injEq] at h
      obtain ⟨hx, _⟩ := h
      subst hx
      cases hv
      refine ⟨s.data.toList.map fun c => .int .u8 (c.toNat : Int), ⟨by simp [Ty.size], fun i x hx => ?_⟩, ?_, fun w1 => ?_, fun w1 _ => ?_⟩
      · simp only [List.getElem?_map, Option.map_eq_some_iff] at hx
        obtain ⟨c, hc, rfl⟩ := hx
        refine ⟨fun _ => .int .u8 (c.toNat : Int), fun j hj => ?_, by simp [TyR]⟩
        simp only [Ty.size] at hj ⊢
        have : j = 0 := by omega
        subst this
        simp only [Nat.mul_one, Nat.add_zero, List.getElem?_map, hc, Option.map_some]
      · intro x hx; simp only [List.mem_map] at hx; obtain ⟨c, _, rfl⟩ := hx; rfl
      · simp [Builtin.lenOf]
      · have hsz : (s.data.toList.map fun c => ((c.toNat : Int))).length = s.size := by simp
        have hex : s.extract 0 s.size = s := by
          apply ByteArray.ext
          simp
        rw [hsz]
        simp only [Builtin.firstCells, Sem.run_pure, hex]
        congr 1
        apply Array.ext'
        simp
    · simp at h
  · simp at h

theorem append_core {ts : Array TypeId} {ty t0 e : TypeId} {d : TypeDesc} {inf : TypeInfo} {zv : Value} {y : Ty}
    (h0 : ts[0]? = some t0) (hu : P.underlying t0 = some (.slice e)) (h1 : (ts[1]?).bind P.underlying = some d) (hd : sliceOrStr d = true)
    (hinf : P.info? e = some inf) (hz : inf.zero = some zv) (hzs : zv.cells.size = inf.size) (hys : y.size = inf.size) (hby : inf.bytes ≤ 65536)
    {m1 : List Slot} {s : Nat} (hi : Inv K F ρ m1 w) (hfree : m1[s]? = some .free)
    {ad : Option Addr} {sLen sCap : Nat} {ls : List y.den} {olds : List Value} (hls : ls.length = sLen) (hlc : sLen ≤ sCap) (hE : Elems K w y ls olds)
    (hold : ∀ w1, w1.heap = w.heap → (Builtin.firstCells y.size sLen (.slice ad sLen sCap)).run P w1 = .ok olds.toArray w1)
    (hown : 0 < sCap → ∃ blk off cur e', ad = some ⟨blk, off, none⟩ ∧ w.heap[blk]? = some (.cells cur e' (0, 0)) ∧ off + sCap * y.size ≤ cur.size ∧ ¬ K blk ∧ ¬ F blk ∧
      (∀ b' o' L', m1[b']? = some (.obj o') → o'.own = true → ρ b' = some L' → L'.nil = false → L'.blk ≠ blk) ∧ ∀ j v, olds[j]? = some v → cur[off + j]? = some v)
    {xs : List y.den} {u : Value} {news : List Value} (hN : Elems K w y xs news) (h1c : ∀ x ∈ news, x.oneCell' = true) (hlen : ∀ w1, (Builtin.lenOf u).run P w1 = .ok xs.length w1)
    (hnew : ∀ w1, w1.heap = w.heap → (Builtin.firstCells y.size xs.length u).run P w1 = .ok news.toArray w1) (hmost : sLen + xs.length ≤ most) :
    ∃ v' w' L, (Builtin.append_ ts ty #[.slice ad sLen sCap, u]).run P w = .ok v' w' ∧ Step K F ρ w K (upd ρ s L) w' ∧
      Inv K F (upd ρ s L) (m1.set s (.obj (.rows y (ls ++ xs)))) w' ∧ VR K (upd ρ s L) w' (.tail s 0) v' := by
  have hslt : s < m1.length := (List.getElem?_eq_some_iff.1 hfree).1
  have hρ : ρ s = none := by
    cases hρ : ρ s with
    | none => rfl
    | some L' => exact absurd hfree (hi.fr s L' hρ).2
  have hsz : sizeP P e = some y.size := by simp [sizeP, hinf, hys]
  have hpos := Ty.size_pos y
  unfold most at hmost
  obtain ⟨t1, ht1, hd1⟩ := Option.bind_eq_some_iff.1 h1
  have hd' : (∃ q, d = .slice q) ∨ d = .string := by cases d <;> simp [sliceOrStr] at hd ⊢
  have hEl := hE.1
  have hNl := hN.1
  by_cases hroom : sLen + xs.length ≤ sCap
  · by_cases hc0 : 0 < sCap
    · obtain ⟨blk, off, cur, e', rfl, hheap, hfit, hnK, hnF, huniq, hcur⟩ := hown hc0
      have hfit2 : off + sLen * y.size + 0 + news.length ≤ cur.size := by
        have := Nat.mul_le_mul_right y.size hroom
        rw [Nat.add_mul] at this
        omega
      have hst := run_storeCells_at P blk (off + sLen * y.size) e' news 0 cur w hheap hfit2 h1c
      obtain ⟨c2, hc2⟩ : ∃ c2 : Array Value, c2 = (cur.toList.take (off + sLen * y.size + 0) ++ news ++ cur.toList.drop (off + sLen * y.size + 0 + news.length)).toArray := ⟨_, rfl⟩
      rw [← hc2] at hst
      have hget : ∀ x, c2[x]? = if off + sLen * y.size ≤ x ∧ x < off + sLen * y.size + news.length then news[x - (off + sLen * y.size)]? else cur[x]? := fun x => by
        have hg := splice_get cur.toList news (off + sLen * y.size) (by simpa using hfit2) x
        rw [hc2, Nat.add_zero, List.getElem?_toArray, hg]
        simp only [Array.getElem?_toList]
      have hkk : ∀ c, K c → (w.setRow blk c2).heap[c]? = w.heap[c]? := fun c hc => setRow_other _ _ _ _ fun e => hnK (e ▸ hc)
      have hc2s : c2.size = cur.size := by
        rw [hc2]
        simp only [List.size_toArray, List.length_append, List.length_take, List.length_drop, Array.length_toList] at hfit2 ⊢
        omega
      have hsame : ∀ b, b < w.heap.size → (false = true ∨ b ≠ blk) → (w.setRow blk c2).heap[b]? = w.heap[b]? := fun b _ hb => setRow_other _ _ _ _ (hb.resolve_left (by simp))
      refine ⟨.slice (some ⟨blk, off, none⟩) (sLen + xs.length) sCap, w.setRow blk c2, ⟨false, blk, off, sLen + xs.length, y.size, cur.size⟩, ?_, ?_, ?_, ?_⟩
      · simp only [Builtin.append_, h0, Sem.run_bind, run_underlying hu, Result.andThen_ok, run_sizeOf' hsz, List.getElem?_toArray, List.getElem?_cons_zero, List.getElem?_cons_succ]
        rw [ht1]
        simp only [Sem.run_bind, run_underlying hd1, Result.andThen_ok]
        rcases hd' with ⟨q, rfl⟩ | rfl <;> simp [hlen, hroom, hnew w rfl, addr_add, hst]
      · exact Step.put (L := ⟨false, blk, off, sLen + xs.length, y.size, cur.size⟩) hi (.inl hρ) (by simp) hsame (fun _ => ⟨hnK, hnF⟩) rfl rfl rfl
      · refine Inv.put (L := ⟨false, blk, off, sLen + xs.length, y.size, cur.size⟩) hi hslt (.inl hρ) rfl (by simp) hsame
          (fun _ => ⟨hnK, hnF, fun b' o' L' _ => huniq b' o' L'⟩) ?_
        refine Elems.rows ((hE.append hN).mono (fun _ x => x) hkk) (setRow_heap w blk _ c2 e' _ hheap) rfl rfl (by simp [hls]) hc2s fun j v hj => ?_
        rw [hget]
        rw [List.getElem?_append] at hj
        split at hj
        · rename_i hjo
          rw [if_neg (by rw [hEl, hls] at hjo; show ¬ (_ ≤ off + j ∧ _); omega)]
          exact hcur j v hj
        · rename_i hjo
          have hjl := (List.getElem?_eq_some_iff.1 hj).1
          rw [hEl, hls] at hjo hjl
          rw [if_pos (by show _ ≤ off + j ∧ off + j < _; omega), hEl, hls] at *
          rw [show off + j - (off + sLen * y.size) = j - sLen * y.size by omega]
          exact hj
      · refine .tail s 0 _ _ (by simp [upd]; rfl) ⟨Nat.zero_le _, some ⟨blk, off, none⟩, sCap, rfl, hroom, fun _ => ⟨rfl, by simp, ?_⟩⟩
        simpa using hfit
    · have hs0 : sCap = 0 := by omega
      subst hs0
      have hl0 : sLen = 0 := by omega
      subst hl0
      have hx0 : xs.length = 0 := by omega
      have hxs : xs = [] := List.eq_nil_of_length_eq_zero hx0
      have hls0 : ls = [] := List.eq_nil_of_length_eq_zero hls
      subst hxs
      subst hls0
      have hn0 : news = [] := List.eq_nil_of_length_eq_zero (by simpa using hNl)
      subst hn0
      have hs : ∀ b, b < w.heap.size → (true = true ∨ b ≠ 0) → w.heap[b]? = w.heap[b]? := fun _ _ _ => rfl
      refine ⟨.slice ad 0 0, w, ⟨true, 0, 0, 0, y.size, 0⟩, ?_, ?_, ?_, ?_⟩
      · simp only [Builtin.append_, h0, Sem.run_bind, run_underlying hu, Result.andThen_ok, run_sizeOf' hsz, List.getElem?_toArray, List.getElem?_cons_zero, List.getElem?_cons_succ]
        rw [ht1]
        simp only [Sem.run_bind, run_underlying hd1, Result.andThen_ok]
        have := hnew w rfl
        simp only [List.length_nil] at this
        rcases hd' with ⟨q, rfl⟩ | rfl <;> cases ad <;> simp [hlen, this, storeCells]
      · exact Step.put (L := ⟨true, 0, 0, 0, y.size, 0⟩) hi (.inl hρ) (Nat.le_refl _) hs (fun h => by simp at h) rfl rfl rfl
      · exact Inv.put (L := ⟨true, 0, 0, 0, y.size, 0⟩) hi hslt (.inl hρ) rfl (Nat.le_refl _) hs (fun h => by simp at h) ⟨rfl, rfl, fun _ => rfl, fun h => by simp at h⟩
      · exact .tail s 0 _ _ (by simp [upd]; rfl) ⟨Nat.zero_le _, ad, 0, rfl, Nat.le_refl _, fun h => by simp at h⟩
  · have hgrow : sCap < sLen + xs.length := by omega
    obtain ⟨nc, hnc⟩ : ∃ nc, nc = grownCap w (sLen + xs.length) sCap e := ⟨_, rfl⟩
    have hge : sLen + xs.length ≤ nc := by rw [hnc]; exact grownCap_ge w _ _ e
    obtain ⟨ar, har⟩ : ∃ ar, ar = olds.toArray ++ news.toArray ++ Builtin.zeroCells zv.cells (nc - (sLen + xs.length)) := ⟨_, rfl⟩
    have hfits : Builtin.nextslicecap (sLen + xs.length) sCap * inf.bytes ≤ 281474976710656 := growslice_fits hgrow (by
      have : (sLen + xs.length) * inf.bytes ≤ 1073741824 * 65536 := Nat.mul_le_mul hmost hby
      omega)
    have hars : ar.size = nc * y.size := by
      rw [har]
      simp only [Array.size_append, List.size_toArray, size_zeroCells, hzs, ← hys, hEl, hls, hNl, ← Nat.add_mul]
      congr 1
      omega
    have hsame : ∀ b, b < w.heap.size → (false = true ∨ b ≠ w.heap.size) → (w.drew.alloc (.cells ar e)).heap[b]? = w.heap[b]? := fun b hb _ => alloc_old w.drew _ hb
    have hfreeK : (false = false) → ¬ K w.heap.size ∧ ¬ F w.heap.size := fun _ => ⟨fun h => absurd (hi.kw _ h) (by omega), fun h => absurd (hi.fw _ h) (by omega)⟩
    refine ⟨.slice (some ⟨w.heap.size, 0, none⟩) (sLen + xs.length) nc, w.drew.alloc (.cells ar e), ⟨false, w.heap.size, 0, sLen + xs.length, y.size, nc * y.size⟩, ?_, ?_, ?_, ?_⟩
    · have hti := run_typeInfo' (P := P) hinf
      have hzz := run_zeroValue' (P := P) (t := e) (z := zv) (by simp [hinf, hz])
      simp only [Builtin.append_, h0, Sem.run_bind, run_underlying hu, Result.andThen_ok, run_sizeOf' hsz, List.getElem?_toArray, List.getElem?_cons_zero, List.getElem?_cons_succ]
      rw [ht1]
      simp only [Sem.run_bind, run_underlying hd1, Result.andThen_ok]
      have h63 : ¬ (9223372036854775807 < ((sLen : Int) + (xs.length : Int))) := by omega
      have h48 : ¬ (281474976710656 < Builtin.nextslicecap (sLen + xs.length) sCap * inf.bytes) := by omega
      have ho := hold w.drew rfl
      have hn := hnew w.drew rfl
      rw [har, hnc]
      rcases hd' with ⟨q, rfl⟩ | rfl <;> simp [hlen, show ¬ (sLen + xs.length ≤ sCap) by omega, h63, hti, h48, hzz, Question.forced, ho, hn, newRow, grownCap]
      all_goals rw [← List.append_toArray, Array.append_assoc]
    · exact Step.put (w' := w.drew.alloc (.cells ar e)) (L := ⟨false, w.heap.size, 0, sLen + xs.length, y.size, nc * y.size⟩) hi (.inl hρ) (by simp) hsame hfreeK rfl rfl rfl
    · refine Inv.put (w' := w.drew.alloc (.cells ar e)) (L := ⟨false, w.heap.size, 0, sLen + xs.length, y.size, nc * y.size⟩) hi hslt (.inl hρ) rfl (by simp) hsame
        (fun hh => ⟨(hfreeK hh).1, (hfreeK hh).2, fun b' o' L' _ hm' ho' hL' hn' he' => by
          obtain ⟨L2, q1, q2, _⟩ := hi.ob b' o' hm'
          rw [hL'] at q1
          obtain rfl := Option.some.inj q1
          have := q2.lt hn'
          simp only at he'
          omega⟩) ?_
      refine Elems.rows (w := w.drew.alloc (.cells ar e)) ((hE.append hN).mono (fun _ x => x) (fun b hb => by have := alloc_old w.drew (.cells ar e) (b := b) (hi.kw b hb); exact this)) (heap_alloc' w.drew _) rfl rfl (by simp [hls]) hars fun j v hj => ?_
      rw [har, Nat.zero_add, ← Array.getElem?_toList]
      simp only [Array.toList_append]
      rw [List.getElem?_append_left (List.getElem?_eq_some_iff.1 hj).1]
      exact hj
    · refine .tail s 0 _ _ (by simp [upd]; rfl) ⟨Nat.zero_le _, some ⟨w.heap.size, 0, none⟩, nc, rfl, hge, fun _ => ⟨rfl, by simp, by simp⟩⟩

theorem appendA_sound {s : Nat} {ts : Array TypeId} {ty : TypeId} {x0 x1 : Operand} (hi : Inv K F ρ m w) (he : EnvR K ρ w env a.tmps) (h : appendA P s m env ts x0 x1 = some r) (hok : r.ok = true) :
    Done P K F ρ m w r ((do pure (.value (← Builtin.append_ ts ty #[a.eval x0, a.eval x1])) : Sem Next).run P w) := by
  unfold appendA at h
  split at h
  · simp at h
  · rename_i e hE
    obtain ⟨t0, h0, hE⟩ := Option.bind_eq_some_iff.1 hE
    have hu := elemP_some hE
    split at h
    · rename_i y inf d z hy hinf hd hz
      split at h
      · rename_i hc
        obtain ⟨hys, hby, hzl, hdk⟩ := hc
        obtain ⟨zv, hz1, hz2⟩ := zeroA_some hz
        obtain ⟨i', hz3, hz4⟩ := Option.bind_eq_some_iff.1 hz1
        rw [hinf] at hz3
        obtain rfl := Option.some.inj hz3
        have hzv := VR.cells (K := K) (ρ := ρ) (w := w) (fixT_vr P e (cstC_vr zv)) hz2
        have hzs : zv.cells.size = inf.size := by have := hzv.length; simp at this; omega
        split at h
        · simp at h
        · rename_i xs rd hxs
          obtain ⟨news, hN, h1c, hlen, hnew⟩ := elemsOf_sound (P := P) hi (ev_vr he x1) hxs
          have hx := ev_vr he x0
          have nilcase : ∀ ad, a.eval x0 = .slice ad 0 0 → newA s m (.tail s 0) (.rows y xs) (decide (xs.length ≤ most)) [] rd = some r →
              Done P K F ρ m w r ((do pure (.value (← Builtin.append_ ts ty #[a.eval x0, a.eval x1])) : Sem Next).run P w) := fun ad hax h => by
            obtain ⟨hfree, hr⟩ := newA_free h
            rw [hr] at hok
            simp only [decide_eq_true_eq] at hok
            have hE0 : Elems K w y ([] : List y.den) [] := ⟨by simp, fun i x hx => by simp at hx⟩
            obtain ⟨v', w', L, k1, k2, k3, k4⟩ := append_core (P := P) (ty := ty) (ad := ad) (sLen := 0) (sCap := 0) h0 hu hd hdk hinf hz4 hzs hys hby hi hfree (ls := []) (olds := []) rfl (Nat.le_refl _) hE0
              (fun w1 _ => by cases ad <;> simp [Builtin.firstCells, loadCells, loadCellsFrom]) (fun h => by omega) hN h1c hlen hnew (by simpa using hok)
            refine ⟨v', w', K, _, .inl ?_, k2, by rw [hr]; simpa [writeM] using k3, by rw [hr]; exact k4⟩
            rw [hax]
            simp [k1]
          split at h
          · rename_i hb
            rw [hb] at hx
            cases hax : a.eval x0 <;> rw [hax] at hx <;> cases hx
            rw [← hax]
            exact nilcase _ hax h
          · rename_i hb
            rw [hb] at hx
            cases hax : a.eval x0 <;> rw [hax] at hx <;> cases hx
            rw [← hax]
            exact nilcase _ hax h
          · rename_i b i hb
            rw [hb] at hx
            split at h
            · rename_i z' l hm
              split at h
              · rename_i hzy
                subst hzy
                have hm' := getObj?_some hm
                obtain ⟨L, hL, hR, hfr⟩ := hi.ob b _ hm'
                have hR' : RowsR K w L z' l := hR
                cases hx with
                | tail _ _ L' v hL' hT =>
                  rw [hL] at hL'
                  obtain rfl := Option.some.inj hL'
                  obtain ⟨t1, ad, c, t2, t3, t4⟩ := hT
                  have hLl : L.len = l.length := hR'.2.1
                  have main : ∀ (ok : Bool), newA s m (.tail s 0) (.rows z' (l.drop i ++ xs)) ok [(b, .dead)] (b :: rd) = some r → l.length - i + xs.length ≤ most →
                      Done P K F ρ m w r ((do pure (.value (← Builtin.append_ ts ty #[a.eval x0, a.eval x1])) : Sem Next).run P w) := fun ok h hmost => by
                    obtain ⟨hfree, hr⟩ := newA_free h
                    have hsb : s ≠ b := fun e => by subst e; rw [hm'] at hfree; simp at hfree
                    have i1 := hi.kill b
                    have hfree1 : (m.set b .dead)[s]? = some .free := by rw [List.getElem?_set_ne (Ne.symm hsb)]; exact hfree
                    have hread := hR'.read i
                    have hE1 := hread.elems
                    obtain ⟨v', w', L2, k1, k2, k3, k4⟩ := append_core (P := P) (ty := ty) (ad := ad) (sLen := L.len - i) (sCap := c) h0 hu hd hdk hinf hz4 hzs hys hby i1 hfree1 (ls := l.drop i)
                      (by rw [List.length_drop, hLl]) t3 hE1
                      (fun w1 hw1 => by
                        by_cases hc : 0 < c
                        · obtain ⟨u1, u2, u3⟩ := t4 hc
                          rw [u2]
                          refine run_firstCells_some w1 _ _ _ _ _ _ (by simp [cellsL, hLl]) fun j v hj => ?_
                          rw [addr_add]
                          have := hread.cells j v hj
                          simpa [World.cell?, hw1] using this
                        · have h00 : L.len - i = 0 := by omega
                          have h01 : (l.drop i).length = 0 := by rw [List.length_drop]; omega
                          rw [h00, h01]
                          cases ad <;> simp [Builtin.firstCells, loadCells, loadCellsFrom, cellsL])
                      (fun hc => by
                        obtain ⟨u1, u2, u3⟩ := t4 hc
                        obtain ⟨cur, e', v1, v2, v3⟩ := hR'.2.2.2 u1
                        obtain ⟨f1, f2⟩ := hfr rfl u1
                        refine ⟨L.blk, L.off + i * L.sz, cur, e', u2, v1, by rw [v2]; rw [Nat.add_mul, hR'.1] at u3; rw [hR'.1]; omega, f1, f2, fun b' o' L' hb' ho' hL' hn' he' => ?_, fun j v hj => ?_⟩
                        · by_cases hbb : b' = b
                          · subst hbb
                            simp [(List.getElem?_eq_some_iff.1 hm').1] at hb'
                          · rw [List.getElem?_set_ne (Ne.symm hbb)] at hb'
                            exact hbb (hi.inj b' b o' _ L' L hb' hm' ho' rfl hL' hL hn' u1 he')
                        · have := hread.cells j v hj
                          simpa [World.cell?, v1] using this)
                      hN h1c hlen hnew (by rw [hLl]; exact hmost)
                    refine ⟨v', w', K, _, .inl ?_, k2, by rw [hr]; simpa [writeM] using k3, by rw [hr]; exact k4⟩
                    rw [t2]
                    simp [k1]
                  split at h
                  · rename_i hi0
                    subst hi0
                    have hh := (newA_free h).2
                    rw [hh] at hok
                    simp only [decide_eq_true_eq] at hok
                    exact main _ (by simpa using h) (by simpa using hok)
                  · have hh := (newA_free h).2
                    rw [hh] at hok
                    simp only [Bool.and_eq_true, decide_eq_true_eq] at hok
                    exact main _ h hok.2
              · simp at h
            · simp at h
          · simp at h
      · simp at h
    · simp at h
end
end Go.Ab

/- The framework, part 13: all operations together; a call's target. -/
namespace Go.Ab
set_option linter.unusedVariables false

section
variable {P : Program} {K F : Nat → Prop} {ρ : Locs} {m : List Slot} {w w' : World} {env : List AV} {a : Act} {r : Res}

theorem args_two {as : Array Operand} {x y : Operand} (h : as.toList = [x, y]) : as = #[x, y] := by
  apply Array.ext'; simpa using h
theorem args_one {α : Type} {as : Array α} {x : α} (h : as.toList = [x]) : as = #[x] := by
  apply Array.ext'; simpa using h

theorem builtinA_sound {s : Nat} {o : Oper} {c : Call} (hi : Inv K F ρ m w) (he : EnvR K ρ w env a.tmps) (ho : o.op = .call c) (h : builtinA P s m env o c = some r) (hok : r.ok = true) :
    Done P K F ρ m w r ((execOp a.eval o).run P w) := by
  have sc : scalarOp P env o = some r → Done P K F ρ m w r ((execOp a.eval o).run P w) := fun h => scalarOp_sound hi he (fun cs b => by rw [ho]; simp) h
  obtain ⟨callee, args, ts⟩ := c
  unfold builtinA at h
  simp only at h
  split at h
  · rename_i b hb
    split at h
    · unfold appendOp at h
      simp only at h
      split at h
      · rename_i x0 x1 hargs
        have hargs := args_two hargs
        subst hargs
        have := appendA_sound (P := P) (ty := o.type) hi he h hok
        simpa [execOp, ho, resolve, invoke, builtin] using this
      · simp at h
    · unfold lenOp at h
      simp only at h
      split at h
      · rename_i x t hargs hts
        have hargs := args_one hargs
        have hts := args_one hts
        subst hargs
        subst hts
        split at h
        · exact sc h
        · have := lenOpA_sound (P := P) (ty := o.type) hi he h
          simpa [execOp, ho, resolve, invoke, builtin] using this
      · simp at h
    all_goals first | exact sc h | simp at h
  · simp at h

theorem eqFs_run {eqc : TypeId → List AV → List AV → Option Bool} {d : Nat} {xs ys : List AV} {us vs : List Value} (hx : VRL K ρ w xs us) (hy : VRL K ρ w ys vs)
    (hq : ∀ t a b r (ua ub : List Value), eqc t a b = some r → VRL K ρ w a ua → VRL K ρ w b ub →
      (∀ u v, isAggP P t = some false → ua = [u] → ub = [v] → (Op.equalIn d t u v).run P w = .ok r w) ∧ (isAggP P t = some true → (Op.equalIn d t (.agg ua.toArray) (.agg ub.toArray)).run P w = .ok r w)) :
    ∀ (fs : List Field) (b : Bool), eqFs P eqc xs ys fs = some b → (Op.eqFields d us.toArray vs.toArray fs).run P w = .ok b w
  | [], b, h => by simp [eqFs] at h; subst h; rfl
  | f :: fs, b, h => by
    rw [eqFs] at h
    split at h
    · simp at h
    · rename_i hname
      split at h
      · rename_i g n hg hn
        split at h
        · rename_i hgn
          split at h
          · rename_i a b' ha hb
            split at h
            · rename_i r q hr hqq
              simp only [Option.some.injEq] at h
              subst h
              have ih := eqFs_run hx hy hq fs q hqq
              obtain ⟨a1, a2⟩ := cellsAt_vr hx ha
              obtain ⟨b1, b2⟩ := cellsAt_vr hy hb
              obtain ⟨q1, q2⟩ := hq _ _ _ _ _ _ hr a1 b1
              have step : ∀ u v, (part f.type us.toArray f.offset).run P w = .ok u w → (part f.type vs.toArray f.offset).run P w = .ok v w → (Op.equalIn d f.type u v).run P w = .ok r w →
                  (Op.eqFields d us.toArray vs.toArray (f :: fs)).run P w = .ok (r && q) w := fun u v h1 h2 h3 => by
                simp only [Op.eqFields, ne_eq, hname, not_false_eq_true, if_true, Sem.run_bind, h1, h2, h3, Result.andThen_ok]
                cases r
                · simp
                · simpa using ih
              cases g with
              | true =>
                refine step _ _ ?_ ?_ (q2 hg)
                · simp [part, run_isAgg' hg, run_sizeOf' hn, List.extract_eq_take_drop]
                · simp [part, run_isAgg' hg, run_sizeOf' hn, List.extract_eq_take_drop]
              | false =>
                simp only [Bool.false_or, beq_iff_eq] at hgn
                subst hgn
                rw [List.length_eq_one_iff] at a2 b2
                obtain ⟨u, hu1⟩ := a2
                obtain ⟨v, hv1⟩ := b2
                refine step u v ?_ ?_ (q1 u v hg hu1 hv1)
                · have hget : us[f.offset]? = some u := by
                    have := congrArg (fun l : List Value => l[0]?) hu1
                    simpa [List.getElem?_take, List.getElem?_drop] using this
                  simp [part, run_isAgg' hg, hget]
                · have hget : vs[f.offset]? = some v := by
                    have := congrArg (fun l : List Value => l[0]?) hv1
                    simpa [List.getElem?_take, List.getElem?_drop] using this
                  simp [part, run_isAgg' hg, hget]
            · simp at h
          · simp at h
        · simp at h
      · simp at h

theorem eqIs_run {eqc : TypeId → List AV → List AV → Option Bool} {d n : Nat} {e : TypeId} {g : Bool} {xs ys : List AV} {us vs : List Value} (hx : VRL K ρ w xs us) (hy : VRL K ρ w ys vs)
    (hg : isAggP P e = some g) (hn : sizeP P e = some n) (hgn : (g || n == 1) = true)
    (hq : ∀ a b r (ua ub : List Value), eqc e a b = some r → VRL K ρ w a ua → VRL K ρ w b ub →
      (∀ u v, isAggP P e = some false → ua = [u] → ub = [v] → (Op.equalIn d e u v).run P w = .ok r w) ∧ (isAggP P e = some true → (Op.equalIn d e (.agg ua.toArray) (.agg ub.toArray)).run P w = .ok r w)) :
    ∀ (is : List Nat) (b : Bool), eqIs eqc e n xs ys is = some b → (Op.eqItems d e n us.toArray vs.toArray is).run P w = .ok b w
  | [], b, h => by simp [eqIs] at h; subst h; rfl
  | i :: is, b, h => by
    rw [eqIs] at h
    split at h
    · rename_i a b' ha hb
      split at h
      · rename_i r q hr hqq
        simp only [Option.some.injEq] at h
        subst h
        have ih := eqIs_run hx hy hg hn hgn hq is q hqq
        obtain ⟨a1, a2⟩ := cellsAt_vr hx ha
        obtain ⟨b1, b2⟩ := cellsAt_vr hy hb
        obtain ⟨q1, q2⟩ := hq _ _ _ _ _ hr a1 b1
        have step : ∀ u v, (part e us.toArray (i * n)).run P w = .ok u w → (part e vs.toArray (i * n)).run P w = .ok v w → (Op.equalIn d e u v).run P w = .ok r w →
            (Op.eqItems d e n us.toArray vs.toArray (i :: is)).run P w = .ok (r && q) w := fun u v h1 h2 h3 => by
          simp only [Op.eqItems, Sem.run_bind, h1, h2, h3, Result.andThen_ok]
          cases r
          · simp
          · simpa using ih
        cases g with
        | true =>
          refine step _ _ ?_ ?_ (q2 hg)
          · simp [part, run_isAgg' hg, run_sizeOf' hn, List.extract_eq_take_drop]
          · simp [part, run_isAgg' hg, run_sizeOf' hn, List.extract_eq_take_drop]
        | false =>
          simp only [Bool.false_or, beq_iff_eq] at hgn
          subst hgn
          rw [List.length_eq_one_iff] at a2 b2
          obtain ⟨u, hu1⟩ := a2
          obtain ⟨v, hv1⟩ := b2
          refine step u v ?_ ?_ (q1 u v hg hu1 hv1)
          · have hget : us[i * 1]? = some u := by
              have := congrArg (fun l : List Value => l[0]?) hu1
              simpa [List.getElem?_take, List.getElem?_drop] using this
            rw [Nat.mul_one] at hget ⊢
            simp [part, run_isAgg' hg, hget]
          · have hget : vs[i * 1]? = some v := by
              have := congrArg (fun l : List Value => l[0]?) hv1
              simpa [List.getElem?_take, List.getElem?_drop] using this
            rw [Nat.mul_one] at hget ⊢
            simp [part, run_isAgg' hg, hget]
      · simp at h
    · simp at h

theorem isAgg_of {t : TypeId} {D : TypeDesc} (hu : P.underlying t = some D) (h1 : ∀ fs, D ≠ .struct fs) (h2 : ∀ n e, D ≠ .array n e) (h3 : isAggP P t = some true) : False := by
  simp only [isAggP, hu, Option.map_some, Option.some.injEq] at h3
  cases D <;> simp at h3 h1 h2

theorem eqCells_run (k : Nat) : ∀ (d : Nat) (t : TypeId) (xs ys : List AV) (b : Bool) (us vs : List Value), eqCells P d t xs ys = some b → VRL K ρ w xs us → VRL K ρ w ys vs →
    (∀ u v, isAggP P t = some false → us = [u] → vs = [v] → (Op.equalIn (d + k) t u v).run P w = .ok b w) ∧ (isAggP P t = some true → (Op.equalIn (d + k) t (.agg us.toArray) (.agg vs.toArray)).run P w = .ok b w)
  | 0, t, xs, ys, b, us, vs, h, hx, hy => by simp [eqCells] at h
  | d + 1, t, xs, ys, b, us, vs, h, hx, hy => by
    rw [show d + 1 + k = (d + k) + 1 by omega]
    unfold eqCells at h
    split at h
    · rename_i kk hu
      refine ⟨fun u v _ e1 e2 => ?_, fun h3 => (isAgg_of hu (by simp) (by simp) h3).elim⟩
      subst e1; subst e2
      split at h
      · cases hx with | cons _ _ _ _ hx _ => cases hy with | cons _ _ _ _ hy _ =>
          cases hx; cases hy
          split at h
          · rename_i hkk
            simp only [Option.some.injEq] at h
            subst h
            subst hkk
            exact run_equalIn_int w _ _ _ _ _ _ hu
          · simp at h
      · simp at h
    · rename_i hu
      refine ⟨fun u v _ e1 e2 => ?_, fun h3 => (isAgg_of hu (by simp) (by simp) h3).elim⟩
      subst e1; subst e2
      split at h
      · cases hx with | cons _ _ _ _ hx _ => cases hy with | cons _ _ _ _ hy _ =>
          cases hx; cases hy
          simp only [Option.some.injEq] at h
          subst h
          exact run_equalIn_bool' w _ _ _ _ hu
      · simp at h
    · rename_i hu
      refine ⟨fun u v _ e1 e2 => ?_, fun h3 => (isAgg_of hu (by simp) (by simp) h3).elim⟩
      subst e1; subst e2
      split at h
      · cases hx with | cons _ _ _ _ hx _ => cases hy with | cons _ _ _ _ hy _ =>
          cases hx; cases hy
          simp only [Option.some.injEq] at h
          subst h
          rw [run_equalIn_string w _ _ _ _ hu, beq_toListBytes]
      · simp at h
    · rename_i fs hu
      split at h
      · simp at h
      · rename_i hst
        refine ⟨fun u v h3 _ _ => by simp [isAggP, hu] at h3, fun _ => ?_⟩
        have hfs : P.fieldsOf t = fs := by simp [Program.fieldsOf, hu]
        rw [run_equalIn_struct w _ t _ _ (by rw [hfs]; exact hu) (by simpa using hst), hfs]
        exact eqFs_run hx hy (fun t a b r ua ub h1 h2 h3 => eqCells_run k d t a b r ua ub h1 h2 h3) _ _ h
    · rename_i n e hu
      split at h
      · rename_i g sz hg hn
        split at h
        · rename_i hgn
          refine ⟨fun u v h3 _ _ => by simp [isAggP, hu] at h3, fun _ => ?_⟩
          simp only [sizeP, Option.map_eq_some_iff] at hn
          obtain ⟨inf, hi, rfl⟩ := hn
          have hc : P.cellsOf e = inf.size := by simp [Program.cellsOf, hi]
          rw [run_equalIn_array w _ _ _ hu hi, hc]
          exact eqIs_run hx hy hg (by simp [sizeP, hi]) hgn (fun a b r ua ub h1 h2 h3 => eqCells_run k d e a b r ua ub h1 h2 h3) _ _ h
        · simp at h
      · simp at h
    · simp at h

theorem isPtr_vr {x : AV} {v : Value} (h : isPtr x = true) (hv : VR K ρ w x v) : ∃ a, v = .pointer (some a) := by
  cases x <;> simp [isPtr] at h <;> cases hv <;> exact ⟨_, rfl⟩
theorem isNilp_vr {x : AV} {v : Value} (h : isNilp x = true) (hv : VR K ρ w x v) : v = .pointer none := by
  cases x <;> simp [isNilp] at h <;> cases hv <;> rfl
theorem isPtrT_some {t : TypeId} (h : isPtrT P t = true) : ∃ e, P.underlying t = some (.pointer e) := by
  unfold isPtrT at h
  split at h
  · exact ⟨_, by assumption⟩
  · simp at h

theorem run_eqGuard_ptr (op : BinOp) (t : TypeId) (x y : Operand) (p q : Option Addr) : (eqGuard op t x y (.pointer p) (.pointer q)).run P w = .ok () w := by
  cases op <;> simp [eqGuard]

theorem run_eqGuard_flt (op : BinOp) (t : TypeId) (x y : Operand) (k k' : FloatKind) (p q : Nat) : (eqGuard op t x y (.float k p) (.float k' q)).run P w = .ok () w := by
  cases op <;> simp [eqGuard]
theorem run_eqGuard_cpx (op : BinOp) (t : TypeId) (x y : Operand) (k k' : FloatKind) (p q p' q' : Nat) : (eqGuard op t x y (.complex k p q) (.complex k' p' q')).run P w = .ok () w := by
  cases op <;> simp [eqGuard]

theorem fltA_sound {o : Oper} {op : BinOp} {t : TypeId} {x y : Operand} {yt : TypeId} (hi : Inv K F ρ m w) (he : EnvR K ρ w env a.tmps) (h : fltA op (ev env x) (ev env y) = some r) (hok : r.ok = true) (ho : o.op = .binOp op t x y yt) :
    Done P K F ρ m w r ((execOp a.eval o).run P w) := by
  have hx := ev_vr he x
  have hy := ev_vr he y
  unfold fltA at h
  split at h
  · rename_i k p k' q hu hv
    rw [hu] at hx
    rw [hv] at hy
    cases hax : a.eval x <;> rw [hax] at hx <;> cases hx
    cases hay : a.eval y <;> rw [hay] at hy <;> cases hy
    split at h
    · rename_i hkk
      subst hkk
      have hg : (eqGuard op t x y (.int k p) (.int k q)).run P w = .ok () w := by cases op <;> simp [eqGuard]
      unfold divA at h
      split at h
      · simp only [Option.some.injEq] at h
        subst h
        have hq : q ≠ 0 := by simpa using hok
        refine Done.plain hi (u := .int k (k.wrap (p.tdiv q))) (.int _ _) ?_
        simp [execOp, ho, hax, hay, hg, binOp, Op.intDiv, hq]
      · simp only [Option.some.injEq] at h
        subst h
        have hq : q ≠ 0 := by simpa using hok
        refine Done.plain hi (u := .int k (p.tmod q)) (.int _ _) ?_
        simp [execOp, ho, hax, hay, hg, binOp, Op.intDiv, hq]
      · simp at h
    · simp at h
  · rename_i u v hu hv
    rw [hu] at hx
    rw [hv] at hy
    cases hax : a.eval x <;> rw [hax] at hx <;> cases hx
    cases hay : a.eval y <;> rw [hay] at hy <;> cases hy
    split at h
    · rename_i hop
      simp only [Option.some.injEq] at h
      subst h
      obtain ⟨z, hz⟩ := Option.isSome_iff_exists.1 hok
      have := run_float_arith (P := P) w op t .f64 _ _ z hz
      refine Done.plain hi (u := .float .f64 z) (by rw [hz]; exact .flt _ _) ?_
      simp only [execOp, ho, hax, hay, Sem.run_bind, run_eqGuard_flt, Result.andThen_ok, this, Sem.run_pure]
    · simp at h
  · rename_i u v u' v' hu hv
    rw [hu] at hx
    rw [hv] at hy
    cases hax : a.eval x <;> rw [hax] at hx <;> cases hx
    cases hay : a.eval y <;> rw [hay] at hy <;> cases hy
    split at h
    · rename_i hop
      simp only [Option.some.injEq] at h
      subst h
      obtain ⟨⟨z1, z2⟩, hz⟩ := Option.isSome_iff_exists.1 hok
      have hop' : op = .add ∨ op = .sub := by cases op <;> simp [isSum] at hop ⊢
      have := run_complex_sum (P := P) w op hop' t .f64 _ _ _ _ z1 z2 hz
      refine Done.plain hi (u := .complex .f64 z1 z2) (by rw [hz]; exact .cpx _ _ _) ?_
      simp only [execOp, ho, hax, hay, Sem.run_bind, run_eqGuard_cpx, Result.andThen_ok, this, Sem.run_pure]
    · split at h
      · rename_i hop
        simp only [Option.some.injEq] at h
        subst h
        obtain ⟨⟨z1, z2⟩, hz⟩ := Option.isSome_iff_exists.1 hok
        have hop' : op = .mul := by cases op <;> simp [isMul] at hop ⊢
        subst hop'
        have := run_complex_mul (P := P) w t _ _ _ _ z1 z2 hz
        refine Done.plain hi (u := .complex .f64 z1 z2) (by rw [hz]; exact .cpx _ _ _) ?_
        simp only [execOp, ho, hax, hay, Sem.run_bind, run_eqGuard_cpx, Result.andThen_ok, this, Sem.run_pure]
      · simp at h
  · simp at h

theorem cvtA_sound {o : Oper} {src dst : TypeId} {x : Operand} (hi : Inv K F ρ m w) (he : EnvR K ρ w env a.tmps) (h : cvtA P env o src dst x = some r) (hok : r.ok = true) (ho : o.op = .convert src dst x) :
    Done P K F ρ m w r ((execOp a.eval o).run P w) := by
  have hx := ev_vr he x
  unfold cvtA at h
  split at h
  · rename_i b hb
    rw [hb] at hx
    cases hax : a.eval x <;> rw [hax] at hx <;> cases hx
    split at h
    · rename_i k hk
      split at h
      · rename_i hs
        simp only [Option.some.injEq] at h
        subst h
        obtain ⟨z, hz⟩ := Option.isSome_iff_exists.1 hok
        have hu : P.underlying dst = some (.int k) := by
          unfold intKindP at hk
          split at hk
          · rename_i k' hk'; simp at hk; subst hk; exact hk'
          · simp at hk
        have := run_convert_float_int (P := P) w src dst .f64 k _ z hs hu hz
        refine Done.plain hi (u := .int k z) (by rw [hz]; exact .int _ _) ?_
        simp only [execOp, ho, hax, Sem.run_bind, this, Result.andThen_ok, Sem.run_pure]
      · simp at h
    · exact scalarOp_sound hi he (fun cs b => by rw [ho]; simp) h
  · exact scalarOp_sound hi he (fun cs b => by rw [ho]; simp) h

theorem eqA_sound {o : Oper} {op : BinOp} {t : TypeId} {x y : Operand} {yt : TypeId} (hi : Inv K F ρ m w) (he : EnvR K ρ w env a.tmps) (h : eqA P env o op t x y = some r) (hok : r.ok = true) (ho : o.op = .binOp op t x y yt) :
    Done P K F ρ m w r ((execOp a.eval o).run P w) := by
  unfold eqA at h
  have hx := ev_vr he x
  have hy := ev_vr he y
  split at h
  · rename_i xs ys hxs hys
    rw [hxs] at hx
    rw [hys] at hy
    cases hax : a.eval x <;> rw [hax] at hx <;> cases hx
    cases hay : a.eval y <;> rw [hay] at hy <;> cases hy
    rename_i us hus vs hvs
    split at h
    · simp at h
    · rename_i hg
      have hg : P.eqGuardType P.depth t = false := by simpa using hg
      split at h
      · simp at h
      rename_i ht
      have ht : isAggP P t = some true := by simpa using ht
      split at h
      · rename_i b hb
        have he := (eqCells_run (10000 - eqD) _ _ _ _ _ _ _ hb hus hvs).2 ht
        have he : (Op.equalIn 10000 t (.agg us.toArray) (.agg vs.toArray)).run P w = .ok b w := he
        split at h
        · refine Done.of_pure h hi (.bool _) ?_
          simp only [execOp, ho, hax, hay, Sem.run_bind, run_eqGuard_agg w _ t x y _ _ hg, Result.andThen_ok, run_eql_struct, he, Sem.run_pure]
        · refine Done.of_pure h hi (.bool _) ?_
          simp only [execOp, ho, hax, hay, Sem.run_bind, run_eqGuard_agg w _ t x y _ _ hg, Result.andThen_ok, run_neq_struct, he, Sem.run_pure]
        · simp at h
      · simp at h
  · split at h
    · rename_i hf
      simp only [Option.some.injEq] at h
      subst h
      exact fltA_sound hi he hf hok ho
    split at h
    · rename_i hp
      simp only [Bool.and_eq_true, Bool.or_eq_true] at hp
      obtain ⟨hp, ht⟩ := hp
      obtain ⟨el, hu⟩ := isPtrT_some ht
      have both : (∃ ad, a.eval x = .pointer (some ad) ∧ a.eval y = .pointer none) ∨ (∃ ad, a.eval x = .pointer none ∧ a.eval y = .pointer (some ad)) := by
        rcases hp with ⟨h1, h2⟩ | ⟨h1, h2⟩
        · obtain ⟨ad, e1⟩ := isPtr_vr h1 hx
          exact .inl ⟨ad, e1, isNilp_vr h2 hy⟩
        · obtain ⟨ad, e1⟩ := isPtr_vr h2 hy
          exact .inr ⟨ad, isNilp_vr h1 hx, e1⟩
      have heq' : ∀ d, (Op.equalIn (d + 1) t (a.eval x) (a.eval y)).run P w = .ok false w := fun d => by
        rcases both with ⟨ad, e1, e2⟩ | ⟨ad, e1, e2⟩ <;> rw [e1, e2] <;> simp [Op.equalIn, run_underlying hu]
      have heq : (Op.equalIn 10000 t (a.eval x) (a.eval y)).run P w = .ok false w := heq' 9999
      have hgd : ∀ op, (eqGuard op t x y (a.eval x) (a.eval y)).run P w = .ok () w := fun op => by
        rcases both with ⟨ad, e1, e2⟩ | ⟨ad, e1, e2⟩ <;> rw [e1, e2] <;> exact run_eqGuard_ptr _ _ _ _ _ _
      split at h
      · refine Done.of_pure h hi (.bool _) ?_
        have : (binOp .eql t (a.eval x) (a.eval y)).run P w = .ok (.bool false) w := by
          rcases both with ⟨ad, e1, e2⟩ | ⟨ad, e1, e2⟩ <;> rw [e1, e2] at heq ⊢ <;> simp [binOp, Op.equal, Op.maxDepth, heq]
        simp only [execOp, ho, Sem.run_bind, hgd, Result.andThen_ok, this, Sem.run_pure]
      · refine Done.of_pure h hi (.bool _) ?_
        have : (binOp .neq t (a.eval x) (a.eval y)).run P w = .ok (.bool true) w := by
          rcases both with ⟨ad, e1, e2⟩ | ⟨ad, e1, e2⟩ <;> rw [e1, e2] at heq ⊢ <;> simp [binOp, Op.equal, Op.maxDepth, heq]
        simp only [execOp, ho, Sem.run_bind, hgd, Result.andThen_ok, this, Sem.run_pure]
      · simp at h
    · exact scalarOp_sound hi he (fun cs b => by rw [ho]; simp) h

theorem indexA_sound {o : Oper} {t : TypeId} {x i : Operand} (hi : Inv K F ρ m w) (he : EnvR K ρ w env a.tmps) (h : indexA P env o t x i = some r) (hok : r.ok = true) (ho : o.op = .index t x i) :
    Done P K F ρ m w r ((execOp a.eval o).run P w) := by
  unfold indexA at h
  have hx := ev_vr he x
  have hy := ev_vr he i
  split at h
  · rename_i cs hb
    rw [hb] at hx
    cases hax : a.eval x <;> rw [hax] at hx <;> cases hx
    rename_i vs hvs
    split at h
    · rename_i ik n hn
      rw [hn] at hy
      cases hay : a.eval i <;> rw [hay] at hy <;> cases hy
      split at h
      · rename_i k e hk
        have hu : P.underlying t = some (.array k e) := by
          unfold arrP at hk
          split at hk
          · rename_i k' e' hk'; simp only [Option.some.injEq, Prod.mk.injEq] at hk; obtain ⟨rfl, rfl⟩ := hk; exact hk'
          · simp at hk
        split at h
        · rename_i g sz hg hs
          split at h
          · rename_i hgn
            simp only [Option.map_eq_some_iff, Option.bind_eq_some_iff] at h
            obtain ⟨v, ⟨ds, h1, h2⟩, rfl⟩ := h
            simp only [Bool.and_eq_true, decide_eq_true_eq] at hok
            obtain ⟨k1, k2⟩ := cellsAt_vr hvs h1
            cases g with
            | true =>
              simp only [valOf, if_true, Option.some.injEq] at h2
              subst h2
              refine Done.plain hi (.agg _ _ k1) ?_
              simp [execOp, ho, hax, hay, Instr.index, asIntOf, run_underlying hu, hok.1, hok.2, part, run_isAgg' hg, run_sizeOf' hs, List.extract_eq_take_drop]
            | false =>
              simp only [Bool.false_or, beq_iff_eq] at hgn
              subst hgn
              rw [List.length_eq_one_iff] at k2
              obtain ⟨u, hu1⟩ := k2
              rw [hu1] at k1
              cases k1 with
              | cons q _ qs _ hq tq =>
                cases tq
                simp only [valOf, Bool.false_eq_true, if_false, Option.some.injEq] at h2
                subst h2
                have hget : vs[n.toNat]? = some u := by
                  have := congrArg (fun l : List Value => l[0]?) hu1
                  simpa [List.getElem?_take, List.getElem?_drop] using this
                refine Done.plain hi hq ?_
                simp [execOp, ho, hax, hay, Instr.index, asIntOf, run_underlying hu, hok.1, hok.2, part, run_isAgg' hg, run_sizeOf' hs, hget]
          · simp at h
        · simp at h
      · simp at h
    · simp at h
  · exact scalarOp_sound hi he (fun cs b => by rw [ho]; simp) h

theorem aop_sound {s : Nat} {o : Oper} (hi : Inv K F ρ m w) (he : EnvR K ρ w env a.tmps) (h : aop P s m env o = some r) (hok : r.ok = true) :
    Done P K F ρ m w r ((execOp a.eval o).run P w) := by
  have sc : (∀ cs b, o.op ≠ .select cs b) → scalarOp P env o = some r → Done P K F ρ m w r ((execOp a.eval o).run P w) := fun hs h => scalarOp_sound hi he hs h
  unfold aop at h
  split at h
  · rename_i x ho; simp only [execOp, ho]; exact moveA_sound hi he h
  · rename_i x ho; simp only [execOp, ho]; exact moveA_sound hi he h
  · rename_i c x y ho; simp only [execOp, ho]; exact pickA_sound hi he h
  · rename_i t ho; simp only [execOp, ho]; exact allocA_sound hi h
  · rename_i t x ho; simp only [execOp, ho]; exact boxA_sound hi he h
  · rename_i t ps ho; simp only [execOp, ho]; exact buildA_sound hi he h
  · rename_i t n ps ho; simp only [execOp, ho]; exact buildSliceA_sound hi he h
  · rename_i t x ho; simp only [execOp, ho]; exact loadA_sound hi he h
  · rename_i t x v ho; simp only [execOp, ho]; exact storeA_sound hi he h
  · rename_i x ho; exact nilCheckA_sound hi he h ho
  · rename_i f as cs ho; simp only [execOp, ho]; exact makeFuncA_sound hi he h
  · rename_i t l c ho; simp only [execOp, ho]; exact makeSliceA_sound hi he h hok
  · rename_i t x lo hi' mx ho
    split at h
    · exact sc (fun cs b => by rw [ho]; simp) h
    · simp only [execOp, ho]; exact sliceA_sound hi he h hok
  · rename_i t x f ho; simp only [execOp, ho]; exact fieldAddrA_sound hi he h
  · rename_i t x f ho; simp only [execOp, ho]; exact fieldA_sound hi he h
  · rename_i t x i ho; simp only [execOp, ho]; exact indexAddrA_sound hi he h hok
  · rename_i x i ho; simp only [execOp, ho]; exact extractA_sound hi he h
  · rename_i c ho; exact builtinA_sound hi he ho h hok
  · rename_i op t x y yt ho; exact eqA_sound hi he h hok ho
  all_goals first
    | (rename_i t x i ho; exact indexA_sound hi he h hok ho)
    | (rename_i src dst x ho; exact cvtA_sound hi he h hok ho)
    | (rename_i ho; exact sc (fun cs b => by rw [ho]; simp) h)
    | (rename_i _ ho; exact sc (fun cs b => by rw [ho]; simp) h)
    | (rename_i _ _ ho; exact sc (fun cs b => by rw [ho]; simp) h)
    | (rename_i _ _ _ ho; exact sc (fun cs b => by rw [ho]; simp) h)
    | (rename_i _ _ _ _ ho; exact sc (fun cs b => by rw [ho]; simp) h)
    | (rename_i _ _ _ _ _ ho; exact sc (fun cs b => by rw [ho]; simp) h)
    | simp at h
end
end Go.Ab
