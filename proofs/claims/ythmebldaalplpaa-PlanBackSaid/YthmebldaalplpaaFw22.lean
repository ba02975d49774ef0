/- The framework, part 22: what a row's reading of its arguments says of them; a function's contract as a row asks for it. -/
import Derived.Test.YthmebldaalplpaaFw21
import Derived.OpenShut
import Derived.Below
import Derived.WideShapes
import Derived.DataReads
namespace Go.Ab
set_option linter.unusedVariables false
open Go.RowKit Go.WideShapes

/-- Each number in its kind's bounds, each length as Go lets it be. -/
def WfD : (t : Ty) → t.den → Prop
  | .int k, n => (Lit.int k n).wf = true
  | .bool, _ => True
  | .str, s => s.size ≤ maxLen
  | .list e, l => List.length l ≤ maxLen ∧ ∀ (i : Nat) (x : e.den), l[i]? = some x → WfD e x
  | .pair a b, x => WfD a x.1 ∧ WfD b x.2

/-- Are a struct's fields laid one behind another, each of its type's size? -/
def offsOK (P : Program) : Nat → List Field → List Ty → Bool
  | _, [], [] => true
  | o, f :: fs, t :: ts => f.offset == o && P.cellsOf f.type == t.size && offsOK P (o + t.size) fs ts
  | _, _, _ => false

def tyOK (P : Program) : Nat → TypeId → Bool
  | 0, _ => false
  | d + 1, t =>
    match P.underlying t with
    | some .bool | some (.int _) | some .string => true
    | some (.slice e) => tyOK P d e && (match tyOf P d e with | some y => P.cellsOf e == y.size | none => false)
    | some (.struct fs) => fs.toList.all (fun f => tyOK P d f.type) && (match allSome (fs.toList.map fun f => tyOf P d f.type) with | some ts => offsOK P 0 fs.toList ts | none => false)
    | some (.array _ e) => tyOK P d e && (match tyOf P d e with | some y => P.cellsOf e == y.size | none => false)
    | _ => false

section
variable {H : Type} {enc : TypeId × Value → H} {P : Program} {w : World} {base : Nat} {sp : Nat → Bool} {held : Bool}

def Here (w : World) (b : Nat) : Prop := b < w.heap.size

theorem here_of_cell {a : Addr} {v : Value} (h : w.cell? a = some v) : Here w a.block := by
  unfold World.cell? at h
  split at h
  · rename_i hb
    exact (Array.getElem?_eq_some_iff.1 hb).1
  · simp at h

/-- Types, each with a value at its place, as one value. -/
theorem fold_tyR {K : Nat → Prop} (g : Nat → Value) : ∀ (ts : List Ty) (y : Ty) (o : Nat), foldTys ts = some y →
    (∀ (i : Nat) (t : Ty), ts[i]? = some t → ∃ x : t.den, TyR K w t x (fun j => g (o + ((ts.take i).map Ty.size).sum + j)) ∧ WfD t x) →
    ∃ x : y.den, TyR K w y x (fun j => g (o + j)) ∧ WfD y x
  | [], _, _, h, _ => by simp [foldTys] at h
  | [t], y, o, h, hh => by
    simp only [foldTys, Option.some.injEq] at h
    subst h
    simpa using hh 0 t (by simp)
  | t :: u :: ts, y, o, h, hh => by
    rw [foldTys] at h
    · simp only [Option.map_eq_some_iff] at h
      obtain ⟨z, hz, rfl⟩ := h
      obtain ⟨x0, h0, w0⟩ := hh 0 t (by simp)
      obtain ⟨x1, h1, w1⟩ := fold_tyR g (u :: ts) z (o + t.size) hz (fun i s hs => by
        have := hh (i + 1) s (by simpa using hs)
        simpa [Nat.add_assoc] using this)
      exact ⟨(x0, x1), ⟨by simpa using h0, by simpa [Nat.add_assoc] using h1⟩, w0, w1⟩
    · simp

theorem allSome_get {α : Type} : ∀ {l : List (Option α)} {r : List α}, allSome l = some r → l = r.map some
  | [], r, h => by simp [allSome] at h; subst h; rfl
  | none :: _, r, h => by simp [allSome] at h
  | some x :: xs, r, h => by
    simp only [allSome, Option.map_eq_some_iff] at h
    obtain ⟨a, ha, rfl⟩ := h
    rw [allSome_get ha]; rfl

theorem offsOK_get {P : Program} : ∀ (fs : List Field) (ts : List Ty) (o : Nat), offsOK P o fs ts = true → ∀ (i : Nat) (f : Field) (t : Ty), fs[i]? = some f → ts[i]? = some t →
    f.offset = o + ((ts.take i).map Ty.size).sum ∧ P.cellsOf f.type = t.size
  | [], _, _, _, i, f, t, hf, _ => by simp at hf
  | f0 :: fs, [], _, h, _, _, _, _, _ => by simp [offsOK] at h
  | f0 :: fs, t0 :: ts, o, h, i, f, t, hf, ht => by
    simp only [offsOK, Bool.and_eq_true, beq_iff_eq] at h
    cases i with
    | zero => simp at hf ht; subst hf; subst ht; simpa using h.1
    | succ i =>
      have := offsOK_get fs ts _ h.2 i f t (by simpa using hf) (by simpa using ht)
      simpa [Nat.add_assoc] using this

theorem getD_sub (cs : List Value) (o n j : Nat) (hj : j < n) : ((cs.drop o).take n).getD j undef = cs.getD (o + j) undef := by
  simp [List.getD, List.getElem?_drop, hj]

theorem listData {e : Ty} {elems : List (DataW H × List MemPlace)} {len : Nat} {R : Nat → e.den → Prop} (hlen : len = elems.length) (h : ∀ i, i < len → ∃ x : e.den, R i x) :
    ∃ l : List e.den, l.length = len ∧ ∀ i x, l[i]? = some x → R i x := by
  clear hlen
  induction len with
  | zero => exact ⟨[], rfl, fun i x hx => by simp at hx⟩
  | succ n ih =>
    obtain ⟨l, hl, hr⟩ := ih fun i hi => h i (by omega)
    obtain ⟨x, hx⟩ := h n (by omega)
    refine ⟨l ++ [x], by simp [hl], fun i y hy => ?_⟩
    rw [List.getElem?_append] at hy
    split at hy
    · exact hr i y hy
    · rename_i hi
      have : i = n := by
        have := (List.getElem?_eq_some_iff.1 hy).1
        simp at this
        omega
      subst this
      simp [hl] at hy
      subst hy
      exact hx

/-- What a reading of plain data has met. -/
theorem tyR_of_trod : ∀ (d fuel : Nat) (t : TypeId) (y : Ty) (cs : List Value) (x : DataW H × List MemPlace), tyOf P d t = some y → tyOK P d t = true →
    DataW.trod enc P w base sp held fuel t cs = some x → ∃ v : y.den, TyR (Here w) w y v (fun j => cs.getD j undef) ∧ WfD y v
  | 0, _, _, _, _, _, ht, _, _ => by simp [tyOf] at ht
  | d + 1, fuel, t, y, cs, x, ht, hok, h => by
    unfold tyOf at ht
    unfold tyOK at hok
    split at ht
    · rename_i hu
      obtain ⟨b, rfl, _⟩ := DataW.trod_bool hu h
      simp at ht; subst ht
      exact ⟨b, by simp [TyR], trivial⟩
    · rename_i k hu
      obtain ⟨n, rfl, _, hw⟩ := DataW.trod_int hu h
      simp at ht; subst ht
      exact ⟨n, by simp [TyR], hw⟩
    · rename_i hu
      obtain ⟨s, rfl, _, hs⟩ := DataW.trod_string hu h
      simp at ht; subst ht
      exact ⟨s, by simp [TyR], hs⟩
    · rename_i e hu
      rw [hu] at hok
      simp only [Bool.and_eq_true] at hok
      obtain ⟨z, hz, rfl⟩ := Option.map_eq_some_iff.1 ht
      have hsz : P.cellsOf e = z.size := by
        have := hok.2
        rw [hz] at this
        simpa using this
      rcases DataW.trod_slice hu h with ⟨rfl, _⟩ | ⟨a, len, cap, elems, rest, n, _, rfl, _, hb, hl, hm, hlen, hel, _, _⟩
      · exact ⟨([] : List z.den), TyR.nil z none _ (by simp), by simp, fun i x hx => by simp at hx⟩
      · have each : ∀ i, i < len → ∃ v : z.den, (∃ blk off g, (some a : Option Addr) = some ⟨blk, off, none⟩ ∧ Here w blk ∧ (∀ j, j < z.size → w.cell? ⟨blk, off + (i * z.size + j), none⟩ = some (g j)) ∧ TyR (Here w) w z v g) ∧ WfD z v := by
          intro i hi
          have h1 := hel i hi
          rw [List.getElem?_eq_getElem (by omega), Option.bind_eq_some_iff] at h1
          obtain ⟨cs', hcs, hy⟩ := h1
          obtain ⟨v, hv, hwf⟩ := tyR_of_trod d n e z cs' _ hz hok.1 hy
          obtain ⟨_, hcl, hcell⟩ := World.cells?_some hcs
          have hpos := z.size_pos
          have hat : ∀ j, j < z.size → w.cell? ((a.add (i * P.cellsOf e)).add j) = some (cs'.getD j undef) := fun j hj => by
            rw [hcell j (by omega), List.getD, List.getElem?_eq_getElem (by omega)]; rfl
          have hspot : a.spot = none := by
            have h0 := World.cell?_spot (hat 0 hpos)
            by_cases hi0 : i * P.cellsOf e = 0
            · simpa [Addr.add, hi0] using h0
            · have : 0 < i := by
                rcases Nat.eq_zero_or_pos i with h | h
                · subst h; simp at hi0
                · exact h
              have h00 := hel 0 (by omega)
              rw [List.getElem?_eq_getElem (by omega), Option.bind_eq_some_iff] at h00
              obtain ⟨cs0, hcs0, _⟩ := h00
              obtain ⟨_, hcl0, hcell0⟩ := World.cells?_some hcs0
              have := hcell0 0 (by omega)
              rw [List.getElem?_eq_getElem (by omega)] at this
              simpa [Addr.add] using World.cell?_spot this
          have ha : a = ⟨a.block, a.off, none⟩ := by cases a; simp_all
          refine ⟨v, ⟨a.block, a.off, fun j => cs'.getD j undef, by rw [← ha], ?_, fun j hj => ?_, hv⟩, hwf⟩
          · have := here_of_cell (hat 0 hpos)
            have e1 : ((a.add (i * P.cellsOf e)).add 0).block = a.block := by
              rw [show ((a.add (i * P.cellsOf e)).add 0) = a.add (i * P.cellsOf e) by simp [Addr.add]]
              unfold Addr.add; split <;> rfl
            rw [e1] at this
            exact this
          · rw [← hat j hj]
            refine congrArg _ ?_
            have hadd : ∀ (b o m : Nat), (⟨b, o, none⟩ : Addr).add m = ⟨b, o + m, none⟩ := fun b o m => by
              unfold Addr.add; split
              · rename_i h0; rw [h0]; rfl
              · rfl
            rw [show a.add (i * P.cellsOf e) = (⟨a.block, a.off, none⟩ : Addr).add (i * P.cellsOf e) by rw [← ha], hadd, hadd, hsz, Nat.add_assoc]
        obtain ⟨l, hl1, hl2⟩ := listData (e := z) (elems := elems) (len := len) hlen.symm each
        refine ⟨l, ⟨some a, cap, by simp [hl1], by omega, fun i v hv => (hl2 i v hv).1⟩, by omega, fun i v hv => (hl2 i v hv).2⟩
    · rename_i fs hu
      rw [hu] at hok
      simp only [Bool.and_eq_true] at hok
      obtain ⟨xs, n, _, _, hlen, hfl, hall⟩ := DataW.trod_struct hu h
      simp only [Option.bind_eq_some_iff] at ht
      obtain ⟨ts, hts, hf⟩ := ht
      rw [hts] at hok
      have hmap := allSome_get hts
      have := fold_tyR (K := Here w) (fun j => cs.getD j undef) ts y 0 hf (fun i t' ht' => by
        have hi : (fs.toList.map fun f => tyOf P d f.type)[i]? = some (some t') := by rw [hmap]; simp [ht']
        simp only [List.getElem?_map, Option.map_eq_some_iff] at hi
        obtain ⟨f, hfi, hty⟩ := hi
        have ho := offsOK_get _ _ _ hok.2 i f t' hfi ht'
        have hfi' : fs[i]? = some f := by simpa using hfi
        have hx := hall i f hfi'
        have hilt : i < xs.length := by
          rw [hfl]; exact (Array.getElem?_eq_some_iff.1 hfi').1
        rw [List.getElem?_eq_getElem hilt] at hx
        obtain ⟨v, hv, hwf⟩ := tyR_of_trod d n f.type t' _ _ hty (List.all_eq_true.1 hok.1 f (List.mem_of_getElem? hfi)) hx
        refine ⟨v, TyR.congr (fun j hj => ?_) hv, hwf⟩
        rw [getD_sub _ _ _ _ (by omega), ho.1])
      simpa using this
    · rename_i n e hu
      rw [hu] at hok
      simp only [Bool.and_eq_true] at hok
      obtain ⟨xs, m, _, _, hlen, hfl, hall⟩ := DataW.trod_array hu h
      simp only [Option.bind_eq_some_iff] at ht
      obtain ⟨z, hz, hf⟩ := ht
      have hsz : P.cellsOf e = z.size := by
        have := hok.2
        rw [hz] at this
        simpa using this
      have := fold_tyR (K := Here w) (fun j => cs.getD j undef) (List.replicate n z) y 0 hf (fun i t' ht' => by
        have hi : i < n := by
          have := (List.getElem?_eq_some_iff.1 ht').1
          simpa using this
        have : t' = z := by simpa [List.getElem?_replicate, hi] using ht'.symm
        subst this
        have hx := hall i hi
        rw [List.getElem?_eq_getElem (by omega)] at hx
        obtain ⟨v, hv, hwf⟩ := tyR_of_trod d m e t' _ _ hz hok.1 hx
        refine ⟨v, TyR.congr (fun j hj => ?_) hv, hwf⟩
        rw [getD_sub _ _ _ _ (by omega)]
        simp [hsz, Nat.min_eq_left (Nat.le_of_lt hi)])
      simpa using this
    · simp at ht

/-- An argument as an abstract value. -/
def argAV (y : Ty) (agg : Bool) (x : y.den) : AV := if agg then .agg (y.enc x) else (y.enc x).headD .junk

def isAgg1 (P : Program) (t : TypeId) : Bool := match P.underlying t with | some (.struct _) | some (.array _ _) => true | _ => false

theorem arg_open {ρ : Locs} {r : Reach} {b0 : Nat} {t : TypeId} {y : Ty} {agg : Bool} {v : Value} {d : DataW H} {ps : List MemPlace} (ht : tyOf P tyD t = some y) (hok : tyOK P tyD t = true) (hagg : isAgg1 P t = agg)
    (hc : agg = true → P.cellsOf t = y.size)
    (hval : Value.okWide P w r b0 t v) (hd : DataW.Trod enc P w base sp held t v d ps) : ∃ x : y.den, VR (Here w) ρ w (argAV y agg x) v ∧ WfD y x := by
  obtain ⟨fuel, hf⟩ := hd
  obtain ⟨x, hx, hw⟩ := tyR_of_trod _ _ _ _ _ _ ht hok hf
  refine ⟨x, ?_, hw⟩
  subst hagg
  have two : (isAgg1 P t = true ∧ ∃ cs, v = .agg cs ∧ cs.size = P.cellsOf t) ∨ (isAgg1 P t = false ∧ y.size = 1 ∧ v.cells.toList = [v]) := by
    have e : tyOf P tyD t = some y := ht
    unfold tyD at e
    unfold tyOf at e
    unfold isAgg1
    split at e
    · rename_i hu
      obtain ⟨b, rfl⟩ := okWide_bool hu hval
      rw [hu]
      simp at e; subst e
      exact .inr ⟨rfl, rfl, rfl⟩
    · rename_i k hu
      obtain ⟨b, rfl⟩ := okWide_int hu hval
      rw [hu]
      simp at e; subst e
      exact .inr ⟨rfl, rfl, rfl⟩
    · rename_i hu
      obtain ⟨b, rfl⟩ := okWide_string hu hval
      rw [hu]
      simp at e; subst e
      exact .inr ⟨rfl, rfl, rfl⟩
    · rename_i k hu
      obtain ⟨a, l, c, rfl⟩ := okWide_slice hu hval
      rw [hu]
      obtain ⟨z, _, rfl⟩ := Option.map_eq_some_iff.1 e
      exact .inr ⟨rfl, rfl, rfl⟩
    · rename_i fs hu
      obtain ⟨cs, rfl, hs⟩ := okWide_struct hu hval
      rw [hu]
      exact .inl ⟨rfl, cs, rfl, hs⟩
    · rename_i n e' hu
      simp only [Value.okWide, hu] at hval
      obtain ⟨cs, rfl, hs, _⟩ := hval
      rw [hu]
      exact .inl ⟨rfl, cs, rfl, hs⟩
    · simp at e
  have hl := hx.enc (ρ := ρ)
  rcases two with ⟨ha, cs, rfl, hs⟩ | ⟨ha, h1, hcs⟩
  · rw [ha]
    have hsz := hc ha
    have hcells : (Value.agg cs).cells.toList = cs.toList := rfl
    rw [hcells] at hl
    have e : (List.range y.size).map (fun j => cs.toList.getD j undef) = cs.toList := by
      apply List.ext_getElem?
      intro i
      by_cases hi : i < y.size
      · have hi' : i < cs.toList.length := by simp; omega
        rw [List.getElem?_eq_getElem hi', List.getElem?_map, List.getElem?_range hi]
        simp only [Option.map_some, List.getD, List.getElem?_eq_getElem hi', Option.getD_some]
      · rw [List.getElem?_eq_none (by simp; omega), List.getElem?_eq_none (by simp; omega)]
    rw [e] at hl
    exact .agg _ _ hl
  · rw [ha]
    rw [hcs, h1] at hl
    simp only [List.range_succ, List.range_zero, List.nil_append, List.map_cons, List.map_nil, List.getD_cons_zero] at hl
    unfold argAV
    cases hE : y.enc x with
    | nil => rw [hE] at hl; cases hl
    | cons c cs =>
      rw [hE] at hl
      cases hl with
      | cons _ _ _ _ h0 _ => exact h0

/-- **What a row's walk asks, out of a contract.** -/
theorem calls_of_sound {f : FuncId} {args : List AV} {b : Bool} (h : Sound P f args [] (.bool b, [])) {w : World} {vals : List Value} (hv : VRL (Here w) (fun _ => none) w args vals) :
    Calls P f vals.toArray w fun e w' => e = .returned (.bool b) ∧ Below w.heap.size w w' := by
  have hi : Inv (Here w) (fun _ => False) (fun _ => none) [] w := ⟨fun _ h => h, fun _ h => h.elim, fun _ _ h => h, fun b o hb => by simp at hb, fun b b' o o' L L' hb => by simp at hb, fun b L hb => by simp at hb⟩
  refine (h _ _ _ _ _ hi hv).mono ?_
  rintro e w' ⟨v, K', ρ', rfl, st, _, hr⟩
  cases hr
  exact ⟨rfl, st.os, st.tape, st.output, st.size, fun k hk => st.keepK k hk⟩
end
end Go.Ab
