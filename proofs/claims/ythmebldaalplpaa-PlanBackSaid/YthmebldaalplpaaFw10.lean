/- The framework, part 10: rows that are made, cut and appended to. -/
import Derived.Test.YthmebldaalplpaaFw9
namespace Go.Ab
set_option linter.unusedVariables false

section
variable {P : Program} {K F : Nat → Prop} {ρ : Locs} {m : List Slot} {w w' : World} {env : List AV} {a : Act} {r : Res}

theorem flat_get {α : Type} (l : List α) (hl : 0 < l.length) : ∀ k i, i < k * l.length → (List.replicate k l).flatten[i]? = l[i % l.length]?
  | 0, i, h => by simp at h
  | k + 1, i, h => by
    rw [List.replicate_succ, List.flatten_cons, List.getElem?_append]
    by_cases hi : i < l.length
    · rw [if_pos hi, Nat.mod_eq_of_lt hi]
    · rw [if_neg hi, flat_get l hl k (i - l.length) (by rw [Nat.succ_mul] at h; omega), ← Nat.mod_eq_sub_mod (by omega)]

theorem zeros_list (z : Array Value) (hz : 0 < z.size) (k : Nat) : ((Array.range (k * z.size)).map (fun i => z[i % z.size]!)) = (List.replicate k z.toList).flatten.toArray := by
  apply Array.ext'
  simp only [Array.toList_map, Array.toList_range]
  apply List.ext_getElem?
  intro i
  by_cases hi : i < k * z.size
  · rw [flat_get z.toList (by simpa using hz) k i (by simpa using hi)]
    have hm : i % z.size < z.size := Nat.mod_lt _ hz
    simp [hi, hm, getElem!_pos]
  · have h1 : ((List.replicate k z.toList).flatten).length = k * z.size := by simp
    rw [List.getElem?_eq_none (by simp; omega), List.getElem?_eq_none (by omega)]

theorem decN_get {t : Ty} : ∀ {n : Nat} {cs : List AV} {l : List t.den}, decN t n cs = some l → l.length = n ∧ ∀ i x, l[i]? = some x → t.dec ((cs.drop (i * t.size)).take t.size) = some x
  | 0, cs, l, h => by simp [decN] at h; subst h; exact ⟨rfl, fun i x hx => by simp at hx⟩
  | n + 1, cs, l, h => by
    simp only [decN] at h
    split at h
    · rename_i x xs h1 h2
      simp only [Option.some.injEq] at h
      subst h
      obtain ⟨k1, k2⟩ := decN_get h2
      refine ⟨by simp [k1], fun i y hy => ?_⟩
      cases i with
      | zero => simp at hy; subst hy; simpa using h1
      | succ i =>
        have := k2 i y (by simpa using hy)
        rw [List.drop_drop] at this
        rw [show (i + 1) * t.size = t.size + i * t.size by rw [Nat.succ_mul]; omega]
        exact this
    · simp at h

/-- A new row out of cells. -/
theorem rowsR_new {L : Loc} {t : Ty} {n : Nat} {cs : List AV} {l : List t.den} {vs rest : List Value} {e : TypeId} (hd : decN t n cs = some l) (hv : VRL K ρ w cs vs)
    (hh : w.heap[L.blk]? = some (.cells (vs ++ rest).toArray e (0, 0))) (hn : L.nil = false) (ho : L.off = 0) (hsz : L.sz = t.size) (hl : L.len = n) (hb : L.bsz = (vs ++ rest).length) : RowsR K w L t l := by
  obtain ⟨k1, k2⟩ := decN_get hd
  refine ⟨hsz, by rw [hl, k1], fun h => by simp [hn] at h, fun _ => ⟨_, e, hh, by simp [hb], fun i x hx => ?_⟩⟩
  have hdec := k2 i x hx
  have hlen := dec_length hdec
  simp only [List.length_take, List.length_drop] at hlen
  have hlv := hv.length
  have hpos := Ty.size_pos t
  refine ⟨_, fun j hj => ?_, TyR.dec hdec ((hv.drop _).take _)⟩
  rw [ho, List.getElem?_toArray, Nat.zero_add, List.getElem?_append_left (by omega)]
  rw [List.getElem?_eq_getElem (by omega)]
  simp [List.getD, hj, List.getElem?_eq_getElem (show i * t.size + j < vs.length by omega)]

theorem newA_free {s : Nat} {v : AV} {o : AObj} {ok : Bool} {wr : List (Nat × Slot)} {rd : List Nat} (h : newA s m v o ok wr rd = some r) : m[s]? = some .free ∧ r = ⟨ok, v, wr ++ [(s, .obj o)], s :: rd⟩ := by
  unfold newA at h
  split at h
  · rename_i hf; simp at h; exact ⟨hf, h.symm⟩
  · simp at h

theorem Fz.free {m m' : List Slot} (h : Fz m m') {s : Nat} (hs : m[s]? = some .free) : m'[s]? = some .free := by
  rcases h s with e | ⟨t, l, e1, e2⟩
  · rw [e, hs]
  · rw [hs] at e1; simp at e1

theorem buildSliceA_sound {s : Nat} {t : TypeId} {len : Nat} {ps : Array (Nat × Operand)} (hi : Inv K F ρ m w) (he : EnvR K ρ w env a.tmps) (h : buildSliceA P s m env t len ps = some r) :
    Done P K F ρ m w r ((do pure (.value (← Instr.buildSlice t len (ps.map fun (i, x) => (i, a.eval x)))) : Sem Next).run P w) := by
  unfold buildSliceA at h
  split at h
  · simp at h
  · rename_i e hE
    have hu := elemP_some hE
    split at h
    · rename_i z n hz hn
      obtain ⟨zv, h1, h2⟩ := zeroA_some hz
      have hv := VR.cells (K := K) (ρ := ρ) (w := w) (fixT_vr P e (cstC_vr zv)) h2
      split at h
      · rename_i hcond
        obtain ⟨hzl, hn0, hlim⟩ := hcond
        have hzs : zv.cells.size = n := by have := hv.length; simp at this; omega
        split at h
        · simp at h
        · rename_i cs hcs
          have hv0 : VRL K ρ w (List.replicate len z).flatten (List.replicate len zv.cells.toList).flatten := by
            clear hcs hlim h
            induction len with
            | zero => exact .nil
            | succ k ih => rw [List.replicate_succ, List.replicate_succ, List.flatten_cons, List.flatten_cons]; exact hv.append ih
          obtain ⟨vs, e1, e2⟩ := fillA_sound (fun x => ev_vr he x) ps.toList hv0 hcs
          have hrun : (Instr.buildSlice t len (ps.map fun (i, x) => (i, a.eval x))).run P w = .ok (.slice (some ⟨w.heap.size, 0, none⟩) len len) (w.alloc (.cells vs e)) := by
            have hcells : len * n ≠ 0 → ((Array.range (len * n)).map (fun i => zv.cells[i % zv.cells.size]!)) = (List.replicate len zv.cells.toList).flatten.toArray := fun _ => by
              rw [← hzs]
              exact zeros_list zv.cells (by omega) len
            simp only [Instr.buildSlice, run_underlying hu, Sem.run_bind, Result.andThen_ok, run_sizeOf' hn, Sem.run_ite]
            rw [if_neg (by omega)]
            by_cases h0 : len * n = 0
            · have hl0 : len = 0 := by rcases Nat.mul_eq_zero.1 h0 with h0 | h0 <;> omega
              subst hl0
              simp only [List.replicate_zero, List.flatten_nil] at e1
              simp only [Nat.zero_mul, if_true, Sem.run_pure, Result.andThen_ok, parts_list]
              rw [show (Array.map (fun x => (#[] : Array Value)[x % (#[] : Array Value).size]!) (Array.range 0)) = ([] : List Value).toArray from by simp, e1]
              simp [newRow]
            · rw [if_neg h0]
              simp only [run_zeroValue' h1, Result.andThen_ok, Sem.run_pure, parts_list]
              rw [hcells h0, e1]
              simp [newRow]
          split at h
          · rename_i y hy
            split at h
            · rename_i hys
              split at h
              · rename_i fs wr hf
                simp only [Option.bind_eq_some_iff] at h
                obtain ⟨l, hl, hnew⟩ := h
                obtain ⟨hfree, hr⟩ := newA_free hnew
                obtain ⟨K1, s1, i1, f1, v1⟩ := frzL_sound hf (Fz.refl m) hi e2
                have hfree1 := f1.free hfree
                have hres : (do pure (.value (← Instr.buildSlice t len (ps.map fun (i, x) => (i, a.eval x)))) : Sem Next).run P w = .ok (.value (.slice (some ⟨w.heap.size, 0, none⟩) len len)) (w.alloc (.cells vs e)) := by
                  simp [hrun]
                refine new_sound hnew s1 i1 hfree1 rfl (L := ⟨false, w.heap.size, 0, len, y.size, vs.size⟩) rfl rfl ?_ ?_ ⟨rfl, rfl, rfl, rfl⟩ hres
                · have hk := keep_alloc i1 (.cells vs e)
                  exact rowsR_new (rest := []) hl (VRL.mono (fun _ x => x) hk (fun _ _ x => x) v1) (by simpa using heap_alloc' w _) rfl rfl rfl rfl (by simp)
                · refine .tail s 0 ⟨false, w.heap.size, 0, len, y.size, vs.size⟩ _ (by simp [upd]) ⟨Nat.zero_le _, some ⟨w.heap.size, 0, none⟩, len, rfl, Nat.le_refl _, fun _ => ⟨rfl, by simp, ?_⟩⟩
                  have := e2.length
                  simp only [Array.length_toList] at this
                  have h3 : cs.length = fs.length := by rw [e2.length, v1.length]
                  obtain ⟨k1, k2⟩ := decN_get hl
                  rcases Nat.eq_zero_or_pos len with h0 | h0
                  · subst h0; simp
                  · have h4 := k2 (len - 1) l[len - 1] (List.getElem?_eq_getElem (by omega))
                    have h5 := dec_length h4
                    simp only [List.length_take, List.length_drop] at h5
                    have h6 : len * y.size = (len - 1) * y.size + y.size := by
                      rw [← Nat.succ_mul]; congr 1; omega
                    have := Ty.size_pos y
                    simp only [Nat.zero_add]
                    omega
              · simp at h
            · simp at h
          · obtain ⟨hfree, hr⟩ := newA_free h
            have hres : (do pure (.value (← Instr.buildSlice t len (ps.map fun (i, x) => (i, a.eval x)))) : Sem Next).run P w = .ok (.value (.slice (some ⟨w.heap.size, 0, none⟩) len len)) (w.alloc (.cells vs e)) := by
              simp [hrun]
            refine new_sound h (Step.refl _ _ _ _) hi hfree rfl (L := ⟨false, w.heap.size, 0, 0, 0, 0⟩) rfl rfl ?_ ?_ ⟨rfl, rfl, rfl, rfl⟩ hres
            · exact ⟨rfl, rfl, vs.toList, e, by simpa using heap_alloc' w _, VRL.mono (fun _ x => x) (keep_alloc hi _) (upd_mono hi hfree _) e2⟩
            · exact .bsl s len len ⟨false, w.heap.size, 0, 0, 0, 0⟩ (by simp [upd]) (Nat.le_refl _)
      · simp at h
    · simp at h

theorem replicate_tyR {t : Ty} {cs : List AV} {vs : List Value} {d : t.den} (hd : t.dec cs = some d) (hv : VRL K ρ w cs vs) (n : Nat) :
    decN t n (List.replicate n cs).flatten = some (List.replicate n d) := by
  induction n with
  | zero => rfl
  | succ n ih =>
    have hl := dec_length hd
    simp only [List.replicate_succ, List.flatten_cons, decN]
    rw [List.take_left' hl, List.drop_left' hl, hd, ih]

theorem makeSliceA_sound {s : Nat} {t : TypeId} {l c : Operand} (hi : Inv K F ρ m w) (he : EnvR K ρ w env a.tmps) (h : makeSliceA P s m env t l c = some r) (hok : r.ok = true) :
    Done P K F ρ m w r ((do pure (.value (← Instr.makeSlice t (a.eval l) (a.eval c))) : Sem Next).run P w) := by
  unfold makeSliceA at h
  split at h
  · simp at h
  · rename_i e hE
    have hu := elemP_some hE
    split at h
    · rename_i y z i n k hy hz hinf hl hc
      obtain ⟨zv, h1, h2⟩ := zeroA_some hz
      have hv := VR.cells (K := K) (ρ := ρ) (w := w) (fixT_vr P e (cstC_vr zv)) h2
      split at h
      · rename_i d hd
        split at h
        · rename_i hcond
          obtain ⟨hys, hzl, hby⟩ := hcond
          obtain ⟨hfree, hr⟩ := newA_free h
          rw [hr] at hok
          simp only [Bool.and_eq_true, decide_eq_true_eq] at hok
          obtain ⟨h0, hnk, hk⟩ := hok
          have hlv := ev_vr he l
          have hcv := ev_vr he c
          rw [hl] at hlv
          rw [hc] at hcv
          cases hal : a.eval l <;> rw [hal] at hlv <;> cases hlv
          cases hac : a.eval c <;> rw [hac] at hcv <;> cases hcv
          have hzs : zv.cells.size = i.size := by have := hv.length; simp at this; omega
          have hpos := Ty.size_pos y
          have hwn : IntKind.i64.wrap n = n := by simp only [IntKind.wrap, IntKind.bits, IntKind.signed]; simp; omega
          have hwk : IntKind.i64.wrap k = k := by simp only [IntKind.wrap, IntKind.bits, IntKind.signed]; simp; omega
          have hbk : (i.bytes : Int) * k ≤ 2 ^ 48 := by
            have h3 : (i.bytes : Int) * k ≤ 65536 * 1073741824 := by
              have a1 : (i.bytes : Int) ≤ 65536 := by omega
              have a2 : (i.bytes : Int) * k ≤ 65536 * k := Int.mul_le_mul_of_nonneg_right a1 (by omega)
              omega
            omega
          have hrun : (do pure (.value (← Instr.makeSlice t (.int .i64 n) (.int .i64 k))) : Sem Next).run P w =
              .ok (.value (.slice (some ⟨w.heap.size, 0, none⟩) n.toNat k.toNat)) (w.alloc (.cells (List.replicate k.toNat zv.cells.toList).flatten.toArray e)) := by
            have hz0 : (if k.toNat * i.size = 0 then (pure #[] : Sem (Array Value)) else do pure (← zeroValue e).cells).run P w = .ok (if k.toNat * i.size = 0 then #[] else zv.cells) w := by
              split <;> simp [run_zeroValue' h1]
            have hsz : sizeP P e = some i.size := by simp [sizeP, hinf]
            simp only [Instr.makeSlice, run_underlying hu, Sem.run_bind, Result.andThen_ok, asInt, asIntOf, Sem.run_pure, run_typeInfo' hinf, hwn, hwk, Sem.run_ite]
            rw [if_neg (by simp; omega)]
            simp only [run_askRoom, Result.andThen_ok, run_sizeOf' hsz]
            by_cases hk0 : k.toNat * i.size = 0
            · have : k.toNat = 0 := by rcases Nat.mul_eq_zero.1 hk0 with h9 | h9 <;> omega
              rw [if_pos hk0]
              simp [this, newRow, Array.range_zero']
            · rw [if_neg hk0]
              simp only [run_zeroValue' h1, Result.andThen_ok]
              rw [← hzs, zeros_list zv.cells (by omega)]
              simp [newRow]
          have hdec := replicate_tyR hd hv k.toNat
          have hfl : VRL K ρ w (List.replicate k.toNat z).flatten (List.replicate k.toNat zv.cells.toList).flatten := by
            generalize k.toNat = q
            induction q with
            | zero => exact .nil
            | succ k ih => rw [List.replicate_succ, List.replicate_succ, List.flatten_cons, List.flatten_cons]; exact hv.append ih
          have hlen : ((List.replicate k.toNat zv.cells.toList).flatten).length = k.toNat * y.size := by simp [hzs, hys]
          refine new_sound h (Step.refl _ _ _ _) hi hfree rfl (L := ⟨false, w.heap.size, 0, n.toNat, y.size, k.toNat * y.size⟩) rfl rfl ?_ ?_ ⟨rfl, rfl, rfl, rfl⟩ hrun
          · have hkk := keep_alloc hi (.cells (List.replicate k.toNat zv.cells.toList).flatten.toArray e)
            have big := rowsR_new (rest := []) (L := ⟨false, w.heap.size, 0, k.toNat, y.size, k.toNat * y.size⟩) hdec (VRL.mono (fun _ x => x) hkk (fun _ _ x => x) hfl) (by simpa using heap_alloc' w _) rfl rfl rfl rfl (by simp [hlen])
            obtain ⟨b1, b2, b3, b4⟩ := big
            refine ⟨rfl, by simp, fun hh => by simp at hh, fun _ => ?_⟩
            obtain ⟨vs, e', c1, c2, c3⟩ := b4 rfl
            refine ⟨vs, e', c1, c2, fun q x hx => c3 q x ?_⟩
            rw [List.getElem?_replicate] at hx ⊢
            split at hx
            · rw [if_pos (by omega)]; exact hx
            · simp at hx
          · refine .tail s 0 ⟨false, w.heap.size, 0, n.toNat, y.size, k.toNat * y.size⟩ _ (by simp [upd]) ⟨Nat.zero_le _, some ⟨w.heap.size, 0, none⟩, k.toNat, rfl, by show n.toNat - 0 ≤ _; omega, fun _ => ⟨rfl, by simp, by simp⟩⟩
        · simp at h
      · simp at h
    · simp at h
end
end Go.Ab
