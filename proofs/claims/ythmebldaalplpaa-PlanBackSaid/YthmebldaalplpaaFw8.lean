/- The framework, part 8: each operation does what the interpreter says (aggregates, loads, stores, addresses). -/
import Derived.Test.YthmebldaalplpaaFw7
namespace Go.Ab
set_option linter.unusedVariables false

section
variable {P : Program} {K F : Nat → Prop} {ρ : Locs} {m : List Slot} {w : World} {env : List AV} {a : Act} {r : Res}

theorem allSome_cons {α : Type} {x : Option α} {xs : List (Option α)} {ys : List α} (h : allSome (x :: xs) = some ys) : ∃ y zs, x = some y ∧ allSome xs = some zs ∧ ys = y :: zs := by
  cases x with
  | none => simp [allSome] at h
  | some y =>
    simp only [allSome, Option.map_eq_some_iff] at h
    obtain ⟨zs, h1, h2⟩ := h
    exact ⟨y, zs, rfl, h1, h2.symm⟩

theorem run_places' (w : World) : ∀ (fs : List Field) (places : List (Nat × Nat)), allSome (fs.map fun f => (sizeP P f.type).map fun n => (f.offset, n)) = some places →
    (fs.mapM fun f => Prod.mk f.offset <$> sizeOf f.type).run P w = .ok places w
  | [], places, h => by simp [allSome] at h; subst h; rfl
  | f :: fs, places, h => by
    obtain ⟨y, zs, h1, h2, rfl⟩ := allSome_cons h
    simp only [Option.map_eq_some_iff] at h1
    obtain ⟨n, h3, rfl⟩ := h1
    simp [List.mapM_cons, run_sizeOf' h3, run_places' w fs zs h2]

theorem evParts_eq (env : List AV) (ps : Array (Nat × Operand)) : evParts env ps = ps.toList.map fun p => (p.1, ev env p.2) := rfl

theorem parts_list (ρ : Operand → Value) (ps : Array (Nat × Operand)) : (ps.map fun (i, x) => (i, ρ x)).toList = ps.toList.map fun p => (p.1, ρ p.2) := by simp

theorem buildA_sound {t : TypeId} {ps : Array (Nat × Operand)} (hi : Inv K F ρ m w) (he : EnvR K ρ w env a.tmps) (h : buildA P env t ps = some r) :
    Done P K F ρ m w r ((do pure (.value (← Instr.build t (ps.map fun (i, x) => (i, a.eval x)))) : Sem Next).run P w) := by
  unfold buildA at h
  split at h
  · simp at h
  · rename_i z hz
    obtain ⟨zv, h1, h2⟩ := zeroA_some hz
    have hv := VR.cells (K := K) (ρ := ρ) (w := w) (fixT_vr P t (cstC_vr zv)) h2
    split at h
    · rename_i fs hfs
      unfold fieldsP at hfs
      split at hfs
      · rename_i fs' hu
        simp only [Option.some.injEq] at hfs
        subst hfs
        split at h
        · rename_i pl hpl
          simp only [Option.bind_eq_some_iff] at h
          obtain ⟨cs, hcs, hr⟩ := h
          obtain ⟨vs, e1, e2⟩ := fillA_sound (fun x => ev_vr he x) ps.toList hv hcs
          refine Done.of_pure hr hi (fixT_vr P t (.agg _ _ e2)) ?_
          simp [Instr.build, run_zeroValue' h1, run_underlying hu, Array.mapM_eq_mapM_toList, run_places' w _ _ hpl]
          simp only [Array.toArray_toList] at e1
          rw [e1]
          simp
        · simp at h
      · simp at hfs
    · split at h
      · rename_i n e harr
        unfold arrP at harr
        split at harr
        · rename_i n' e' hu
          simp only [Option.some.injEq, Prod.mk.injEq] at harr
          obtain ⟨rfl, rfl⟩ := harr
          simp only [Option.bind_eq_some_iff] at h
          obtain ⟨sz, hsz, cs, hcs, hr⟩ := h
          obtain ⟨vs, e1, e2⟩ := fillA_sound (fun x => ev_vr he x) ps.toList hv hcs
          refine Done.of_pure hr hi (fixT_vr P t (.agg _ _ e2)) ?_
          simp [Instr.build, run_zeroValue' h1, run_underlying hu, run_sizeOf' hsz]
          simp only [Array.toArray_toList] at e1
          rw [e1]
          simp
        · simp at harr
      · simp at h

/-! ### loads -/
theorem addr_add (b o n : Nat) : Addr.add ⟨b, o, none⟩ n = ⟨b, o + n, none⟩ := by
  unfold Addr.add
  split
  · subst_vars; rfl
  · rfl

theorem run_loadVar' {t : TypeId} {g : Bool} {n : Nat} (hg : isAggP P t = some g) (hn : sizeP P t = some n) (hgn : (g || n == 1) = true) {b o : Nat} {vs : List Value}
    (hl : vs.length = n) (hc : ∀ j v, vs[j]? = some v → w.cell? ⟨b, o + j, none⟩ = some v) {as : List AV} {x : AV} (hv : VRL K ρ w as vs) (hx : valOf g as = some x) :
    ∃ v, (loadVar t ⟨b, o, none⟩).run P w = .ok v w ∧ VR K ρ w x v := by
  cases g with
  | true =>
    simp only [valOf, if_true, Option.some.injEq] at hx
    subst hx
    refine ⟨.agg vs.toArray, ?_, .agg _ _ hv⟩
    have := run_loadCells_list (P := P) w ⟨b, o, none⟩ vs (fun j v hj => by rw [addr_add]; exact hc j v hj)
    rw [hl] at this
    simp [loadVar, run_isAgg' hg, run_sizeOf' hn, this]
  | false =>
    simp only [Bool.false_or, beq_iff_eq] at hgn
    subst hgn
    match vs, hl, hc, hv with
    | [v], _, hc, hv =>
      cases hv with
      | cons a _ as _ h t =>
        cases t
        simp only [valOf, Bool.false_eq_true, if_false, Option.some.injEq] at hx
        subst hx
        refine ⟨v, ?_, h⟩
        have := hc 0 v rfl
        simp [loadVar, run_isAgg' hg, show w.cell? ⟨b, o, none⟩ = some v from by simpa using this]

theorem cellsAt_vr {cs ds : List AV} {vs : List Value} {j n : Nat} (h : VRL K ρ w cs vs) (hc : cellsAt cs j n = some ds) :
    VRL K ρ w ds ((vs.drop j).take n) ∧ ((vs.drop j).take n).length = n := by
  unfold cellsAt at hc
  simp only at hc
  split at hc
  · rename_i hl
    simp only [Option.some.injEq] at hc
    subst hc
    have := (h.drop j).take n
    exact ⟨this, by rw [← this.length]; exact hl⟩
  · simp at hc

theorem loadA_sound' {t : TypeId} {x : Operand} (hi : Inv K F ρ m w) (he : EnvR K ρ w env a.tmps) (h : loadA P m env t x = some r) :
    ∃ v, (Instr.loadAt t (a.eval x)).run P w = .ok v w ∧ VR K ρ w r.val v ∧ r.wr = [] := by
  unfold loadA at h
  split at h
  · rename_i g n hg hn
    split at h
    · rename_i hgn
      have hx := ev_vr he x
      split at h
      · rename_i b j hb
        rw [hb] at hx
        split at h
        · rename_i cs hm
          simp only [Option.map_eq_some_iff, Option.bind_eq_some_iff] at h
          obtain ⟨v, ⟨ds, h1, h2⟩, rfl⟩ := h
          obtain ⟨L, hL, ⟨hnil, hoff, vs, e, hheap, hvs⟩, _⟩ := hi.ob b _ (getObj?_some hm)
          cases hax : a.eval x <;> rw [hax] at hx <;> cases hx
          rename_i L' hL'
          rw [hL] at hL'
          obtain rfl := Option.some.inj hL'
          obtain ⟨k1, k2⟩ := cellsAt_vr hvs h1
          obtain ⟨u, e1, e2⟩ := run_loadVar' (b := L.blk) (o := L.off + j) hg hn hgn k2 (fun i v hv => by
            rw [List.getElem?_take] at hv
            split at hv
            · rw [List.getElem?_drop] at hv
              simp [World.cell?, hheap, hoff, hv]
            · simp at hv) k1 h2
          exact ⟨u, by simpa [Instr.loadAt, Instr.sureAddr] using e1, e2, rfl⟩
        · simp at h
      · rename_i b i j hb
        rw [hb] at hx
        split at h
        · rename_i y l hrow
          simp only [Option.map_eq_some_iff, Option.bind_eq_some_iff] at h
          obtain ⟨v, ⟨ds, h1, h2⟩, rfl⟩ := h
          obtain ⟨L, hL, hR⟩ := hi.row hrow
          cases hax : a.eval x <;> rw [hax] at hx <;> cases hx
          rename_i L' hL' hlt
          rw [hL] at hL'
          obtain rfl := Option.some.inj hL'
          obtain ⟨q1, q2, q3, q4⟩ := hR
          simp only at q1 q2 q3 q4
          have hil : i < l.length := by omega
          have hn0 : L.nil = false := by
            cases hn0 : L.nil with
            | false => rfl
            | true => rw [q3 hn0] at hil; simp at hil
          obtain ⟨vs, e, p1, p2, p3⟩ := q4 hn0
          obtain ⟨g', p4, p5⟩ := p3 i l[i] (List.getElem?_eq_getElem hil)
          have hd : l.getD i y.dflt = l[i] := by simp [List.getD, List.getElem?_eq_getElem hil]
          rw [hd] at h1
          obtain ⟨k1, k2⟩ := cellsAt_vr (TyR.enc (ρ := ρ) p5) h1
          obtain ⟨u, e1, e2⟩ := run_loadVar' (b := L.blk) (o := L.off + (i * L.sz + j)) hg hn hgn k2 (fun q v hv => by
            rw [List.getElem?_take] at hv
            split at hv
            · rw [List.getElem?_drop, List.getElem?_map] at hv
              simp only [Option.map_eq_some_iff] at hv
              obtain ⟨z, hz, rfl⟩ := hv
              obtain ⟨hz1, hz2⟩ := List.getElem?_eq_some_iff.1 hz
              simp at hz1 hz2
              subst hz2
              have := p4 (j + q) (by omega)
              rw [q1, show L.off + (i * y.size + j) + q = L.off + (i * y.size + (j + q)) by omega]
              simp [World.cell?, p1, this]
            · simp at hv) k1 h2
          exact ⟨u, by simpa [Instr.loadAt, Instr.sureAddr] using e1, e2, rfl⟩
        · simp at h
      · rename_i y d j hb
        rw [hb] at hx
        simp only [Option.map_eq_some_iff, Option.bind_eq_some_iff] at h
        obtain ⟨v, ⟨ds, h1, h2⟩, rfl⟩ := h
        cases hax : a.eval x <;> rw [hax] at hx <;> cases hx
        rename_i blk off g' hk hc hT
        obtain ⟨k1, k2⟩ := cellsAt_vr (TyR.enc (ρ := ρ) hT) h1
        obtain ⟨u, e1, e2⟩ := run_loadVar' (b := blk) (o := off + j) hg hn hgn k2 (fun q v hv => by
          rw [List.getElem?_take] at hv
          split at hv
          · rw [List.getElem?_drop, List.getElem?_map] at hv
            simp only [Option.map_eq_some_iff] at hv
            obtain ⟨z, hz, rfl⟩ := hv
            obtain ⟨hz1, hz2⟩ := List.getElem?_eq_some_iff.1 hz
            simp at hz1 hz2
            subst hz2
            rw [Nat.add_assoc]
            exact hc _ (by omega)
          · simp at hv) k1 h2
        exact ⟨u, by simpa [Instr.loadAt, Instr.sureAddr] using e1, e2, rfl⟩
      · simp at h
    · simp at h
  · simp at h

theorem loadA_sound {t : TypeId} {x : Operand} (hi : Inv K F ρ m w) (he : EnvR K ρ w env a.tmps) (h : loadA P m env t x = some r) :
    Done P K F ρ m w r ((do pure (.value (← Instr.loadAt t (a.eval x))) : Sem Next).run P w) := by
  obtain ⟨v, h1, h2, h3⟩ := loadA_sound' hi he h
  refine ⟨v, w, K, ρ, .inl (by simp [h1]), Step.refl _ _ _ _, by rw [h3]; exact hi, h2⟩

end
end Go.Ab
