/- The framework, part 22: what a row's reading of its arguments says of them; a function's contract as a row asks for it. -/
import Derived.Test.YtmclfehlflekhaaFD
import Derived.OpenShut
import Derived.Below
import Derived.WideShapes
import Derived.DataReads
import Derived.Sort.OwnSortedInts
import Derived.Lib.SlicesCompact
import Derived.Lib.RowBridge
import Derived.KernelRfl
namespace Go.Ab
set_option linter.unusedVariables false
open Go.RowKit Go.WideShapes

/-- Each number in its kind's bounds, each length as Go lets it be. -/
def WfD : (t : Ty) → t.den → Prop
  | .int k, n => (Lit.int k n).wf = true
  | .bool, _ => True
  | .str, s => s.size ≤ maxLen
  | .list e, l => List.length l ≤ maxLen ∧ ∀ (i : Nat) (x : e.den), l[i]? = some x → WfD e x
  | .pair a b, x => WfD a x.1 ∧ WfD b x.2

/-- Are a struct's fields laid one behind another, each of its type's size? -/
def offsOK (P : Program) : Nat → List Field → List Ty → Bool
  | _, [], [] => true
  | o, f :: fs, t :: ts => f.offset == o && P.cellsOf f.type == t.size && offsOK P (o + t.size) fs ts
  | _, _, _ => false

def tyOK (P : Program) : Nat → TypeId → Bool
  | 0, _ => false
  | d + 1, t =>
    match P.underlying t with
    | some .bool | some (.int _) | some .string => true
    | some (.slice e) => tyOK P d e && (match tyOf P d e with | some y => P.cellsOf e == y.size | none => false)
    | some (.struct fs) => fs.toList.all (fun f => tyOK P d f.type) && (match allSome (fs.toList.map fun f => tyOf P d f.type) with | some ts => offsOK P 0 fs.toList ts | none => false)
    | some (.array _ e) => tyOK P d e && (match tyOf P d e with | some y => P.cellsOf e == y.size | none => false)
    | _ => false

section
variable {H : Type} {enc : TypeId × Value → H} {P : Program} {w : World} {base : Nat} {sp : Nat → Bool} {held : Bool}

def Here (w : World) (b : Nat) : Prop := b < w.heap.size

theorem here_of_cell {a : Addr} {v : Value} (h : w.cell? a = some v) : Here w a.block := by
  unfold World.cell? at h
  split at h
  · rename_i hb
    exact (Array.getElem?_eq_some_iff.1 hb).1
  · simp at h

/-- Types, each with a value at its place, as one value. -/
theorem fold_tyR {K : Nat → Prop} (g : Nat → Value) : ∀ (ts : List Ty) (y : Ty) (o : Nat), foldTys ts = some y →
    (∀ (i : Nat) (t : Ty), ts[i]? = some t → ∃ x : t.den, TyR K w t x (fun j => g (o + ((ts.take i).map Ty.size).sum + j)) ∧ WfD t x) →
    ∃ x : y.den, TyR K w y x (fun j => g (o + j)) ∧ WfD y x
  | [], _, _, h, _ => by simp [foldTys] at h
  | [t], y, o, h, hh => by
    simp only [foldTys, Option.some.injEq] at h
    subst h
    simpa using hh 0 t (by simp)
  | t :: u :: ts, y, o, h, hh => by
    rw [foldTys] at h
    · simp only [Option.map_eq_some_iff] at h
      obtain ⟨z, hz, rfl⟩ := h
      obtain ⟨x0, h0, w0⟩ := hh 0 t (by simp)
      obtain ⟨x1, h1, w1⟩ := fold_tyR g (u :: ts) z (o + t.size) hz (fun i s hs => by
        have := hh (i + 1) s (by simpa using hs)
        simpa [Nat.add_assoc] using this)
      exact ⟨(x0, x1), ⟨by simpa using h0, by simpa [Nat.add_assoc] using h1⟩, w0, w1⟩
    · simp

theorem allSome_get {α : Type} : ∀ {l : List (Option α)} {r : List α}, allSome l = some r → l = r.map some
  | [], r, h => by simp [allSome] at h; subst h; rfl
  | none :: _, r, h => by simp [allSome] at h
  | some x :: xs, r, h => by
    simp only [allSome, Option.map_eq_some_iff] at h
    obtain ⟨a, ha, rfl⟩ := h
    rw [allSome_get ha]; rfl

theorem offsOK_get {P : Program} : ∀ (fs : List Field) (ts : List Ty) (o : Nat), offsOK P o fs ts = true → ∀ (i : Nat) (f : Field) (t : Ty), fs[i]? = some f → ts[i]? = some t →
    f.offset = o + ((ts.take i).map Ty.size).sum ∧ P.cellsOf f.type = t.size
  | [], _, _, _, i, f, t, hf, _ => by simp at hf
  | f0 :: fs, [], _, h, _, _, _, _, _ => by simp [offsOK] at h
  | f0 :: fs, t0 :: ts, o, h, i, f, t, hf, ht => by
    simp only [offsOK, Bool.and_eq_true, beq_iff_eq] at h
    cases i with
    | zero => simp at hf ht; subst hf; subst ht; simpa using h.1
    | succ i =>
      have := offsOK_get fs ts _ h.2 i f t (by simpa using hf) (by simpa using ht)
      simpa [Nat.add_assoc] using this

theorem getD_sub (cs : List Value) (o n j : Nat) (hj : j < n) : ((cs.drop o).take n).getD j undef = cs.getD (o + j) undef := by
  simp [List.getD, List.getElem?_drop, hj]

theorem listData {e : Ty} {elems : List (DataW H × List MemPlace)} {len : Nat} {R : Nat → e.den → Prop} (hlen : len = elems.length) (h : ∀ i, i < len → ∃ x : e.den, R i x) :
    ∃ l : List e.den, l.length = len ∧ ∀ i x, l[i]? = some x → R i x := by
  clear hlen
  induction len with
  | zero => exact ⟨[], rfl, fun i x hx => by simp at hx⟩
  | succ n ih =>
    obtain ⟨l, hl, hr⟩ := ih fun i hi => h i (by omega)
    obtain ⟨x, hx⟩ := h n (by omega)
    refine ⟨l ++ [x], by simp [hl], fun i y hy => ?_⟩
    rw [List.getElem?_append] at hy
    split at hy
    · exact hr i y hy
    · rename_i hi
      have : i = n := by
        have := (List.getElem?_eq_some_iff.1 hy).1
        simp at this
        omega
      subst this
      simp [hl] at hy
      subst hy
      exact hx

/-- What a reading of plain data has met. -/
theorem tyR_of_trod : ∀ (d fuel : Nat) (t : TypeId) (y : Ty) (cs : List Value) (x : DataW H × List MemPlace), tyOf P d t = some y → tyOK P d t = true →
    DataW.trod enc P w base sp held fuel t cs = some x → ∃ v : y.den, TyR (Here w) w y v (fun j => cs.getD j undef) ∧ WfD y v
  | 0, _, _, _, _, _, ht, _, _ => by simp [tyOf] at ht
  | d + 1, fuel, t, y, cs, x, ht, hok, h => by
    unfold tyOf at ht
    unfold tyOK at hok
    split at ht
    · rename_i hu
      obtain ⟨b, rfl, _⟩ := DataW.trod_bool hu h
      simp at ht; subst ht
      exact ⟨b, by simp [TyR], trivial⟩
    · rename_i k hu
      obtain ⟨n, rfl, _, hw⟩ := DataW.trod_int hu h
      simp at ht; subst ht
      exact ⟨n, by simp [TyR], hw⟩
    · rename_i hu
      obtain ⟨s, rfl, _, hs⟩ := DataW.trod_string hu h
      simp at ht; subst ht
      exact ⟨s, by simp [TyR], hs⟩
    · rename_i e hu
      rw [hu] at hok
      simp only [Bool.and_eq_true] at hok
      obtain ⟨z, hz, rfl⟩ := Option.map_eq_some_iff.1 ht
      have hsz : P.cellsOf e = z.size := by
        have := hok.2
        rw [hz] at this
        simpa using this
      rcases DataW.trod_slice hu h with ⟨rfl, _⟩ | ⟨a, len, cap, elems, rest, n, _, rfl, _, hb, hl, hm, hlen, hel, _, _⟩
      · exact ⟨([] : List z.den), TyR.nil z none _ (by simp), by simp, fun i x hx => by simp at hx⟩
      · have each : ∀ i, i < len → ∃ v : z.den, (∃ blk off g, (some a : Option Addr) = some ⟨blk, off, none⟩ ∧ Here w blk ∧ (∀ j, j < z.size → w.cell? ⟨blk, off + (i * z.size + j), none⟩ = some (g j)) ∧ TyR (Here w) w z v g) ∧ WfD z v := by
          intro i hi
          have h1 := hel i hi
          rw [List.getElem?_eq_getElem (by omega), Option.bind_eq_some_iff] at h1
          obtain ⟨cs', hcs, hy⟩ := h1
          obtain ⟨v, hv, hwf⟩ := tyR_of_trod d n e z cs' _ hz hok.1 hy
          obtain ⟨_, hcl, hcell⟩ := World.cells?_some hcs
          have hpos := z.size_pos
          have hat : ∀ j, j < z.size → w.cell? ((a.add (i * P.cellsOf e)).add j) = some (cs'.getD j undef) := fun j hj => by
            rw [hcell j (by omega), List.getD, List.getElem?_eq_getElem (by omega)]; rfl
          have hspot : a.spot = none := by
            have h0 := World.cell?_spot (hat 0 hpos)
            by_cases hi0 : i * P.cellsOf e = 0
            · simpa [Addr.add, hi0] using h0
            · have : 0 < i := by
                rcases Nat.eq_zero_or_pos i with h | h
                · subst h; simp at hi0
                · exact h
              have h00 := hel 0 (by omega)
              rw [List.getElem?_eq_getElem (by omega), Option.bind_eq_some_iff] at h00
              obtain ⟨cs0, hcs0, _⟩ := h00
              obtain ⟨_, hcl0, hcell0⟩ := World.cells?_some hcs0
              have := hcell0 0 (by omega)
              rw [List.getElem?_eq_getElem (by omega)] at this
              simpa [Addr.add] using World.cell?_spot this
          have ha : a = ⟨a.block, a.off, none⟩ := by cases a; simp_all
          refine ⟨v, ⟨a.block, a.off, fun j => cs'.getD j undef, by rw [← ha], ?_, fun j hj => ?_, hv⟩, hwf⟩
          · have := here_of_cell (hat 0 hpos)
            have e1 : ((a.add (i * P.cellsOf e)).add 0).block = a.block := by
              rw [show ((a.add (i * P.cellsOf e)).add 0) = a.add (i * P.cellsOf e) by simp [Addr.add]]
              unfold Addr.add; split <;> rfl
            rw [e1] at this
            exact this
          · rw [← hat j hj]
            refine congrArg _ ?_
            have hadd : ∀ (b o m : Nat), (⟨b, o, none⟩ : Addr).add m = ⟨b, o + m, none⟩ := fun b o m => by
              unfold Addr.add; split
              · rename_i h0; rw [h0]; rfl
              · rfl
            rw [show a.add (i * P.cellsOf e) = (⟨a.block, a.off, none⟩ : Addr).add (i * P.cellsOf e) by rw [← ha], hadd, hadd, hsz, Nat.add_assoc]
        obtain ⟨l, hl1, hl2⟩ := listData (e := z) (elems := elems) (len := len) hlen.symm each
        refine ⟨l, ⟨some a, cap, by simp [hl1], by omega, fun i v hv => (hl2 i v hv).1⟩, by omega, fun i v hv => (hl2 i v hv).2⟩
    · rename_i fs hu
      rw [hu] at hok
      simp only [Bool.and_eq_true] at hok
      obtain ⟨xs, n, _, _, hlen, hfl, hall⟩ := DataW.trod_struct hu h
      simp only [Option.bind_eq_some_iff] at ht
      obtain ⟨ts, hts, hf⟩ := ht
      rw [hts] at hok
      have hmap := allSome_get hts
      have := fold_tyR (K := Here w) (fun j => cs.getD j undef) ts y 0 hf (fun i t' ht' => by
        have hi : (fs.toList.map fun f => tyOf P d f.type)[i]? = some (some t') := by rw [hmap]; simp [ht']
        simp only [List.getElem?_map, Option.map_eq_some_iff] at hi
        obtain ⟨f, hfi, hty⟩ := hi
        have ho := offsOK_get _ _ _ hok.2 i f t' hfi ht'
        have hfi' : fs[i]? = some f := by simpa using hfi
        have hx := hall i f hfi'
        have hilt : i < xs.length := by
          rw [hfl]; exact (Array.getElem?_eq_some_iff.1 hfi').1
        rw [List.getElem?_eq_getElem hilt] at hx
        obtain ⟨v, hv, hwf⟩ := tyR_of_trod d n f.type t' _ _ hty (List.all_eq_true.1 hok.1 f (List.mem_of_getElem? hfi)) hx
        refine ⟨v, TyR.congr (fun j hj => ?_) hv, hwf⟩
        rw [getD_sub _ _ _ _ (by omega), ho.1])
      simpa using this
    · rename_i n e hu
      rw [hu] at hok
      simp only [Bool.and_eq_true] at hok
      obtain ⟨xs, m, _, _, hlen, hfl, hall⟩ := DataW.trod_array hu h
      simp only [Option.bind_eq_some_iff] at ht
      obtain ⟨z, hz, hf⟩ := ht
      have hsz : P.cellsOf e = z.size := by
        have := hok.2
        rw [hz] at this
        simpa using this
      have := fold_tyR (K := Here w) (fun j => cs.getD j undef) (List.replicate n z) y 0 hf (fun i t' ht' => by
        have hi : i < n := by
          have := (List.getElem?_eq_some_iff.1 ht').1
          simpa using this
        have : t' = z := by simpa [List.getElem?_replicate, hi] using ht'.symm
        subst this
        have hx := hall i hi
        rw [List.getElem?_eq_getElem (by omega)] at hx
        obtain ⟨v, hv, hwf⟩ := tyR_of_trod d m e t' _ _ hz hok.1 hx
        refine ⟨v, TyR.congr (fun j hj => ?_) hv, hwf⟩
        rw [getD_sub _ _ _ _ (by omega)]
        simp [hsz, Nat.min_eq_left (Nat.le_of_lt hi)])
      simpa using this
    · simp at ht

/-- An argument as an abstract value. -/
def argAV (y : Ty) (agg : Bool) (x : y.den) : AV := if agg then .agg (y.enc x) else (y.enc x).headD .junk

def isAgg1 (P : Program) (t : TypeId) : Bool := match P.underlying t with | some (.struct _) | some (.array _ _) => true | _ => false

theorem arg_open {ρ : Locs} {r : Reach} {b0 : Nat} {t : TypeId} {y : Ty} {agg : Bool} {v : Value} {d : DataW H} {ps : List MemPlace} (ht : tyOf P tyD t = some y) (hok : tyOK P tyD t = true) (hagg : isAgg1 P t = agg)
    (hc : agg = true → P.cellsOf t = y.size)
    (hval : Value.okWide P w r b0 t v) (hd : DataW.Trod enc P w base sp held t v d ps) : ∃ x : y.den, VR (Here w) ρ w (argAV y agg x) v ∧ WfD y x := by
  obtain ⟨fuel, hf⟩ := hd
  obtain ⟨x, hx, hw⟩ := tyR_of_trod _ _ _ _ _ _ ht hok hf
  refine ⟨x, ?_, hw⟩
  subst hagg
  have two : (isAgg1 P t = true ∧ ∃ cs, v = .agg cs ∧ cs.size = P.cellsOf t) ∨ (isAgg1 P t = false ∧ y.size = 1 ∧ v.cells.toList = [v]) := by
    have e : tyOf P tyD t = some y := ht
    unfold tyD at e
    unfold tyOf at e
    unfold isAgg1
    split at e
    · rename_i hu
      obtain ⟨b, rfl⟩ := okWide_bool hu hval
      rw [hu]
      simp at e; subst e
      exact .inr ⟨rfl, rfl, rfl⟩
    · rename_i k hu
      obtain ⟨b, rfl⟩ := okWide_int hu hval
      rw [hu]
      simp at e; subst e
      exact .inr ⟨rfl, rfl, rfl⟩
    · rename_i hu
      obtain ⟨b, rfl⟩ := okWide_string hu hval
      rw [hu]
      simp at e; subst e
      exact .inr ⟨rfl, rfl, rfl⟩
    · rename_i k hu
      obtain ⟨a, l, c, rfl⟩ := okWide_slice hu hval
      rw [hu]
      obtain ⟨z, _, rfl⟩ := Option.map_eq_some_iff.1 e
      exact .inr ⟨rfl, rfl, rfl⟩
    · rename_i fs hu
      obtain ⟨cs, rfl, hs⟩ := okWide_struct hu hval
      rw [hu]
      exact .inl ⟨rfl, cs, rfl, hs⟩
    · rename_i n e' hu
      simp only [Value.okWide, hu] at hval
      obtain ⟨cs, rfl, hs, _⟩ := hval
      rw [hu]
      exact .inl ⟨rfl, cs, rfl, hs⟩
    · simp at e
  have hl := hx.enc (ρ := ρ)
  rcases two with ⟨ha, cs, rfl, hs⟩ | ⟨ha, h1, hcs⟩
  · rw [ha]
    have hsz := hc ha
    have hcells : (Value.agg cs).cells.toList = cs.toList := rfl
    rw [hcells] at hl
    have e : (List.range y.size).map (fun j => cs.toList.getD j undef) = cs.toList := by
      apply List.ext_getElem?
      intro i
      by_cases hi : i < y.size
      · have hi' : i < cs.toList.length := by simp; omega
        rw [List.getElem?_eq_getElem hi', List.getElem?_map, List.getElem?_range hi]
        simp only [Option.map_some, List.getD, List.getElem?_eq_getElem hi', Option.getD_some]
      · rw [List.getElem?_eq_none (by simp; omega), List.getElem?_eq_none (by simp; omega)]
    rw [e] at hl
    exact .agg _ _ hl
  · rw [ha]
    rw [hcs, h1] at hl
    simp only [List.range_succ, List.range_zero, List.nil_append, List.map_cons, List.map_nil, List.getD_cons_zero] at hl
    unfold argAV
    cases hE : y.enc x with
    | nil => rw [hE] at hl; cases hl
    | cons c cs =>
      rw [hE] at hl
      cases hl with
      | cons _ _ _ _ h0 _ => exact h0

/-- **What a row's walk asks, out of a contract.** -/
theorem calls_of_sound {f : FuncId} {args : List AV} {b : Bool} (h : Sound P f args [] (.bool b, [])) {w : World} {vals : List Value} (hv : VRL (Here w) (fun _ => none) w args vals) :
    Calls P f vals.toArray w fun e w' => e = .returned (.bool b) ∧ Below w.heap.size w w' := by
  have hi : Inv (Here w) (fun _ => False) (fun _ => none) [] w := ⟨fun _ h => h, fun _ h => h.elim, fun _ _ h => h, fun b o hb => by simp at hb, fun b b' o o' L L' hb => by simp at hb, fun b L hb => by simp at hb⟩
  refine (h _ _ _ _ _ hi hv).mono ?_
  rintro e w' ⟨v, K', ρ', rfl, st, _, hr⟩
  cases hr
  exact ⟨rfl, st.os, st.tape, st.output, st.size, fun k hk => st.keepK k hk⟩
end
end Go.Ab

/- The framework, part 23: the library's contracts (slices.Sort, Clone, Compact at []int) as the framework's; a result that is frozen. -/
namespace Go.Ab
set_option linter.unusedVariables false
open Go.RowKit Go.Sort Go.Proofs

abbrev tI : Ty := .int .i64

section
variable {P : Program} {K F : Nat → Prop} {ρ : Locs} {w w' : World}

/-- A result of the call's own may be taken as read-only data. -/
theorem Sound.ro {f : FuncId} {args : List AV} {t : Ty} {l : List t.den} (h : Sound P f args [] (.tail 0 0, [.obj (.rows t l)])) : Sound P f args [] (.ro t l, []) := by
  intro K F ρ w vals hi hv
  refine (h K F ρ w vals hi hv).mono ?_
  rintro e w' ⟨v, K', ρ', rfl, st, iv, vr⟩
  have hz : frzV [.obj (.rows t l)] (.tail 0 0) = some (.ro t l, [(0, .obj (.frows t l))]) := rfl
  obtain ⟨K2, s2, i2, v3⟩ := frzV_sound hz iv vr
  have s3 := st.trans s2
  refine ⟨v, K2, fun _ => none, rfl, ⟨s3.sub, s3.keepK, s3.keepF, fun b L hb => ?_, s3.size, s3.os, s3.tape, s3.output⟩, ?_, VR.noids v3 rfl⟩
  · have := (hi.fr b L hb).1
    simp at this
  · exact i2.none.weakF

theorem ρ_empty (hi : Inv K F ρ [] w) (b : Nat) : ρ b = none := by
  cases h : ρ b with
  | none => rfl
  | some L => have := (hi.fr b L h).1; simp at this

/-- The handed row's one block is written, new blocks may come. -/
theorem row_upd {t : Ty} {l l' : List t.den} {L : Loc} (hi : Inv K F ρ [.obj (.rows t l)] w) (h0 : ρ 0 = some L) (hn : L.nil = false) (hg : w.grownBy w' (some L.blk)) (hr : RowsR K w' L t l') :
    Step K F ρ w K ρ w' ∧ Inv K F ρ [.obj (.rows t l')] w' := by
  obtain ⟨L0, e0, _, own⟩ := hi.ob 0 _ rfl
  rw [h0] at e0
  obtain rfl := Option.some.inj e0
  have hown := own rfl hn
  refine ⟨⟨fun _ h => h, fun b hb => ?_, fun b hb => ?_, fun _ _ h => h, hg.size, hg.os, hg.tape, hg.output⟩, ?_⟩
  · exact hg.block b (hi.kw b hb) (fun e => hown.1 (by cases e; exact hb))
  · exact hg.block b (hi.fw b hb) (fun e => hown.2 (by cases e; exact hb))
  · refine ⟨fun b hb => Nat.lt_of_lt_of_le (hi.kw b hb) hg.size, fun b hb => Nat.lt_of_lt_of_le (hi.fw b hb) hg.size, hi.dis, fun b o hb => ?_, fun b b' o o' M M' hb hb' _ _ _ _ _ _ _ => ?_, fun b M hb => ?_⟩
    · match b, hb with
      | 0, hb =>
        simp at hb; subst hb
        exact ⟨L, h0, hr, fun _ _ => hown⟩
      | b + 1, hb => simp at hb
    · have h1 := (List.getElem?_eq_some_iff.1 hb).1
      have h2 := (List.getElem?_eq_some_iff.1 hb').1
      simp at h1 h2; omega
    · have := hi.fr b M hb
      refine ⟨by simpa using this.1, ?_⟩
      have hb0 : b = 0 := by simpa using this.1
      subst hb0; simp

theorem row_upd1 {t : Ty} {l l' : List t.den} {L : Loc} {n : Nat} (hi : Inv K F ρ [.obj (.rows t l)] w) (h0 : ρ 0 = some L) (hg : L.nil = false → w.grownBy w' (some L.blk)) (hg' : L.nil = true → w' = w)
    (hr : RowsR K w' { L with len := n } t l') :
    ∃ ρ', ρ' 1 = some { L with len := n } ∧ Step K F ρ w K ρ' w' ∧ Inv K F ρ' [.dead, .obj (.rows t l')] w' := by
  obtain ⟨L0, e0, _, own⟩ := hi.ob 0 _ rfl
  rw [h0] at e0
  obtain rfl := Option.some.inj e0
  have gr : w.grownBy w' (if L.nil then none else some L.blk) := by
    cases hn : L.nil with
    | false => simpa using hg hn
    | true => rw [hg' hn]; exact ⟨rfl, rfl, rfl, Nat.le_refl _, fun _ _ _ => rfl⟩
  refine ⟨fun b => if b = 1 then some { L with len := n } else ρ b, by simp, ⟨fun _ h => h, fun b hb => ?_, fun b hb => ?_, fun b M hb => ?_, gr.size, gr.os, gr.tape, gr.output⟩, ?_⟩
  · refine gr.block b (hi.kw b hb) ?_
    split
    · simp
    · rename_i hn
      intro e; cases e
      exact (own rfl (by simpa using hn)).1 hb
  · refine gr.block b (hi.fw b hb) ?_
    split
    · simp
    · rename_i hn
      intro e; cases e
      exact (own rfl (by simpa using hn)).2 hb
  · have := (hi.fr b M hb).1
    have hb0 : b = 0 := by simpa using this
    subst hb0; simpa using hb
  · refine ⟨fun b hb => Nat.lt_of_lt_of_le (hi.kw b hb) gr.size, fun b hb => Nat.lt_of_lt_of_le (hi.fw b hb) gr.size, hi.dis, fun b o hb => ?_, fun b b' o o' M M' hb hb' _ _ _ _ _ _ _ => ?_, fun b M hb => ?_⟩
    · match b, hb with
      | 0, hb => simp at hb
      | 1, hb =>
        simp at hb; subst hb
        exact ⟨{ L with len := n }, by simp, hr, fun _ hn => own rfl hn⟩
      | b + 2, hb => simp at hb
    · have h1 := (List.getElem?_eq_some_iff.1 hb).1
      have h2 := (List.getElem?_eq_some_iff.1 hb').1
      have k1 : b ≠ 0 := fun e => by subst e; simp at hb
      have k2 : b' ≠ 0 := fun e => by subst e; simp at hb'
      simp at h1 h2; omega
    · by_cases h1 : b = 1
      · subst h1; simp
      · have := (hi.fr b M (by simpa [h1] using hb)).1
        have hb0 : b = 0 := by simpa using this
        subst hb0; simp

/-- A row of the call's own, handed out. -/
theorem own_slot {l : List Int} {e : TypeId} {v : Value} (hi : Inv K F ρ [] w) (hb : Below w.heap.size w w') (ho : w'.ownsRow w.heap.size e 1 v l.length (l.map (Value.int .i64))) :
    ∃ ρ', Step K F ρ w K ρ' w' ∧ Inv K F ρ' [.obj (.rows tI l)] w' ∧ VR K ρ' w' (.tail 0 0) v := by
  have mk : ∀ L : Loc, RowsR K w' L tI l → (L.nil = false → w.heap.size ≤ L.blk) → TailR L 0 v → ∃ ρ', Step K F ρ w K ρ' w' ∧ Inv K F ρ' [.obj (.rows tI l)] w' ∧ VR K ρ' w' (.tail 0 0) v := fun L hr hbl ht => by
    refine ⟨fun b => if b = 0 then some L else none, ⟨fun _ h => h, fun b hk => hb.block b (hi.kw b hk), fun b hk => hb.block b (hi.fw b hk), fun b M hM => ?_, hb.size, hb.os, hb.tape, hb.output⟩,
      ⟨fun b hk => Nat.lt_of_lt_of_le (hi.kw b hk) hb.size, fun b hk => Nat.lt_of_lt_of_le (hi.fw b hk) hb.size, hi.dis, fun b o hbo => ?_, fun b b' o o' M M' hbo hbo' _ _ _ _ _ _ _ => ?_, fun b M hM => ?_⟩, .tail 0 0 L v (by simp) ht⟩
    · rw [ρ_empty hi] at hM; cases hM
    · match b, hbo with
      | 0, hbo =>
        simp at hbo; subst hbo
        exact ⟨L, by simp, hr, fun _ hn => ⟨fun hk => Nat.lt_irrefl _ (Nat.lt_of_lt_of_le (hi.kw _ hk) (hbl hn)), fun hk => Nat.lt_irrefl _ (Nat.lt_of_lt_of_le (hi.fw _ hk) (hbl hn))⟩⟩
      | b + 1, hbo => simp at hbo
    · have h1 := (List.getElem?_eq_some_iff.1 hbo).1
      have h2 := (List.getElem?_eq_some_iff.1 hbo').1
      simp at h1 h2; omega
    · by_cases h0 : b = 0
      · subst h0; simp
      · simp [h0] at hM
  obtain ⟨hl, hc⟩ := ho
  rcases hc with ⟨rfl, hn⟩ | ⟨g, cap, cur, rfl, hg, hh, hle, _, hsz, htk⟩
  · have hl0 : l = [] := List.length_eq_zero_iff.1 hn
    subst hl0
    exact mk ⟨true, 0, 0, 0, 1, 0⟩ ⟨rfl, rfl, fun _ => rfl, fun h => by simp at h⟩ (fun h => by simp at h) ⟨by simp, none, 0, by simp, by simp, fun h => by simp at h⟩
  · refine mk ⟨false, g, 0, l.length, 1, cap⟩ ⟨rfl, rfl, fun h => by simp at h, fun _ => ⟨cur, e, hh, by simpa using hsz, fun i x hx => ?_⟩⟩ (fun _ => hg) ⟨by simp, some ⟨g, 0, none⟩, cap, by simp, by simpa using hle, fun _ => ⟨rfl, by simp, by simp⟩⟩
    refine ⟨fun _ => .int .i64 x, fun j hj => ?_, by simp [TyR]⟩
    have hj0 : j = 0 := by simp [Ty.size] at hj; exact hj
    subst hj0
    have hi' : i < l.length := (List.getElem?_eq_some_iff.1 hx).1
    have h1 : (cur.toList.take (l.length * 1))[i]? = (l.map (Value.int .i64))[i]? := by rw [htk]
    rw [List.getElem?_take_of_lt (by omega), List.getElem?_map, hx] at h1
    simpa [Ty.size] using h1

/-- What a read-only list of ints is in memory. -/
theorem ro_ints {l : List Int} {v : Value} (h : VR K ρ w (.ro tI l) v) : (l = [] ∧ ∃ a c, v = .slice a 0 c) ∨
    ∃ blk off c, v = .slice (some ⟨blk, off, none⟩) l.length c ∧ ∀ j, j < l.length → w.cell? ⟨blk, off + j, none⟩ = some (.int .i64 (l.getD j 0)) := by
  cases h with
  | ro _ _ _ h =>
    obtain ⟨a, c, h1, h2, h3⟩ := h
    have h1 : v = _ := h1
    cases hl : l with
    | nil => exact .inl ⟨rfl, a, c, by rw [h1, hl]; rfl⟩
    | cons x xs =>
      rw [hl] at h1 h3
      obtain ⟨blk, off, g, e1, _, _, _⟩ := h3 0 x rfl
      refine .inr ⟨blk, off, c, by rw [h1, e1], fun j hj => ?_⟩
      have hj' : (x :: xs)[j]? = some ((x :: xs)[j]'hj) := List.getElem?_eq_getElem hj
      obtain ⟨blk', off', g', e1', _, e3', e4'⟩ := h3 j _ hj'
      rw [e1] at e1'
      cases e1'
      have := e3' 0 (by simp [Ty.size])
      simp only [TyR] at e4'
      rw [e4'] at this
      simpa [Ty.size, List.getD, hj'] using this

theorem clone_sound {f : FuncId} {e : TypeId}
    (h1 : ∀ (b off n c : Nat) (zs : List Int) (w : World), n ≤ zs.length → n * 8 ≤ 140737488355328 → (∀ j, j < zs.length → w.cell? ⟨b, off + j, none⟩ = some (.int .i64 (zs.getD j 0))) →
      Calls P f #[.slice (some ⟨b, off, none⟩) n c] w fun e' w' => ∃ v', e' = .returned v' ∧ w'.ownsRow w.heap.size e 1 v' n ((zs.take n).map (Value.int .i64)) ∧ v' ≠ .slice none 0 0 ∧ Below w.heap.size w w')
    (h2 : ∀ (n c : Nat) (w : World), Calls P f #[.slice none n c] w fun e' w' => e' = .returned (.slice none 0 0) ∧ w' = w)
    (h3 : ∀ (a : Addr) (c : Nat) (w : World), Calls P f #[.slice (some a) 0 c] w fun e' w' => ∃ v', e' = .returned v' ∧ w'.ownsRow w.heap.size e 1 v' 0 [] ∧ v' ≠ .slice none 0 0 ∧ Below w.heap.size w w')
    (l : List Int) (hl : l.length * 8 ≤ 140737488355328) : Sound P f [.ro tI l] [] (.tail 0 0, [.obj (.rows tI l)]) := by
  intro K F ρ w vals hi hv
  cases hv with
  | cons _ v _ _ hv ht =>
    cases ht
    rcases ro_ints hv with ⟨rfl, a, c, rfl⟩ | ⟨blk, off, c, rfl, hcell⟩
    · cases a with
      | none =>
        refine (h2 0 c w).mono ?_
        rintro e' w' ⟨rfl, rfl⟩
        obtain ⟨ρ', st, iv, vr⟩ := own_slot (l := []) (e := e) (v := .slice none 0 0) hi (Below.refl _ _) ⟨rfl, .inl ⟨rfl, rfl⟩⟩
        exact ⟨_, K, ρ', rfl, st, iv, vr⟩
      | some a =>
        refine (h3 a c w).mono ?_
        rintro e' w' ⟨v', rfl, ho, _, hb⟩
        obtain ⟨ρ', st, iv, vr⟩ := own_slot (l := []) hi hb ho
        exact ⟨_, K, ρ', rfl, st, iv, vr⟩
    · refine (h1 blk off l.length c l w (Nat.le_refl _) hl hcell).mono ?_
      rintro e' w' ⟨v', rfl, ho, _, hb⟩
      rw [List.take_length] at ho
      obtain ⟨ρ', st, iv, vr⟩ := own_slot (l := l) hi hb ho
      exact ⟨_, K, ρ', rfl, st, iv, vr⟩

/-- A handed slice of a whole row. -/
theorem tail_whole {t : Ty} {l : List t.den} {v : Value} (hi : Inv K F ρ [.obj (.rows t l)] w) (h : VR K ρ w (.tail 0 0) v) :
    ∃ L a c, ρ 0 = some L ∧ RowsR K w L t l ∧ v = .slice a l.length c ∧ l.length ≤ c ∧ (0 < c → L.nil = false ∧ a = some ⟨L.blk, L.off, none⟩ ∧ L.off + c * t.size ≤ L.bsz) := by
  cases h with
  | tail _ _ L _ h0 ht =>
    obtain ⟨L0, e0, hr, _⟩ := hi.ob 0 _ rfl
    rw [h0] at e0
    obtain rfl := Option.some.inj e0
    obtain ⟨_, a, c, rfl, hc, hh⟩ := ht
    have hr' : RowsR K w L t l := hr
    refine ⟨L, a, c, h0, hr', by rw [Nat.sub_zero, hr'.2.1], by have := hr'.2.1; omega, fun hp => ?_⟩
    obtain ⟨k1, k2, k3⟩ := hh hp
    exact ⟨k1, by simpa using k2, by rw [← hr'.1]; simpa using k3⟩

theorem holds_rows {l : List Int} {L : Loc} {vs : Array Value} {e : TypeId} (hh : w.heap[L.blk]? = some (.cells vs e (0, 0)))
    (hel : ∀ i x, l[i]? = some x → ∃ g, (∀ j, j < tI.size → vs[L.off + (i * tI.size + j)]? = some (g j)) ∧ TyR K w tI x g) : Holds (Value.int .i64) w L.blk L.off l.toArray := by
  intro j hj
  have hj' : j < l.length := by simpa using hj
  obtain ⟨g, h1, h2⟩ := hel j _ (List.getElem?_eq_getElem hj')
  have h3 := h1 0 (by simp [Ty.size])
  have h4 : g 0 = .int .i64 l[j] := h2
  rw [h4] at h3
  refine ⟨?_, by simp [World.frozen?, hh]⟩
  simp only [World.cell?, hh]
  simpa [Ty.size, hj'] using h3

theorem heap_put {os : Array Obj} {blk off n : Nat} {vs : Array Value} {e : TypeId} {fr : Nat × Nat} (d : Array Int) (hb : w.heap[blk]? = some (.cells vs e fr)) :
    (grow (putRow (Value.int .i64) (Sort.ahead w n) blk off d) os).heap[blk]? = some (.cells (putCells (Value.int .i64) off d vs) e fr) := by
  have hg : blk < w.heap.size := (Array.getElem?_eq_some_iff.1 hb).1
  rw [heap_grow_old _ _ (by simpa using hg)]
  simp [putRow, mapBlock, Sort.ahead, Array.getElem?_modify, hb, onCells]

theorem grown_put {os : Array Obj} {blk off n : Nat} (d : Array Int) : w.grownBy (grow (putRow (Value.int .i64) (Sort.ahead w n) blk off d) os) (some blk) := by
  refine ⟨rfl, rfl, rfl, by simp, fun k hk hne => ?_⟩
  rw [heap_grow_old _ _ (by simpa using hk)]
  have : blk ≠ k := fun e => hne (by rw [e])
  simp [putRow, mapBlock, Sort.ahead, Array.getElem?_modify, this]

/-- A row after new ints were put at its front. -/
theorem rows_put {os : Array Obj} {n : Nat} {l' zs : List Int} {L : Loc} {vs : Array Value} {e : TypeId} (hsz : L.sz = 1) (hn : L.nil = false) (hh : w.heap[L.blk]? = some (.cells vs e (0, 0))) (hb : vs.size = L.bsz)
    (hfit : L.off + (l' ++ zs).length ≤ L.bsz) :
    RowsR K (grow (putRow (Value.int .i64) (Sort.ahead w n) L.blk L.off (l' ++ zs).toArray) os) { L with len := l'.length } tI l' := by
  refine ⟨hsz, rfl, fun h => by simp [hn] at h, fun _ => ⟨_, e, heap_put _ hh, by simp [putCells, hb], fun i x hx => ⟨fun _ => .int .i64 x, fun j hj => ?_, by simp [TyR]⟩⟩⟩
  have hj0 : j = 0 := by simp [Ty.size] at hj; exact hj
  subst hj0
  have hi' : i < l'.length := (List.getElem?_eq_some_iff.1 hx).1
  have hlt : L.off + i < vs.size := by rw [hb]; simp at hfit; omega
  have hx' : (l' ++ zs)[i]? = some x := by rw [List.getElem?_append_left hi']; exact hx
  simp only [Ty.size, Nat.mul_one, Nat.add_zero, putCells, Array.getElem?_mapIdx, Array.getElem?_eq_getElem hlt, Option.map_some]
  rw [if_pos ⟨by omega, by simp; omega⟩, show L.off + i - L.off = i by omega]
  congr 2
  have hlen : i < (l' ++ zs).length := (List.getElem?_eq_some_iff.1 hx').1
  rw [getElem!_pos _ i (by simpa using hlen)]
  rw [List.getElem?_eq_getElem hlen] at hx'
  simpa using hx'

theorem sort_sound {f : FuncId}
    (h1 : ∀ (blk off cap : Nat) (zs : List Int) (w : World), Holds (Value.int .i64) w blk off zs.toArray → blk < w.heap.size → zs.length < 4611686018427387904 →
      Calls P f #[.slice (some ⟨blk, off, none⟩) zs.length cap] w fun e w' => e = .returned (.tuple #[]) ∧ ∃ n os, w' = grow (putRow (Value.int .i64) (Sort.ahead w n) blk off (zs.mergeSort fun x y => decide (x ≤ y)).toArray) os)
    (h2 : ∀ (p : Option Addr) (cap : Nat) (w : World), Calls P f #[.slice p 0 cap] w fun e w' => e = .returned (.tuple #[]) ∧ w' = w)
    (l : List Int) (hl : l.length < 4611686018427387904) : Sound P f [.tail 0 0] [.obj (.rows tI l)] (.tup [], [.obj (.rows tI (l.mergeSort fun x y => decide (x ≤ y)))]) := by
  intro K F ρ w vals hi hv
  cases hv with
  | cons _ v _ _ hv ht =>
    cases ht
    obtain ⟨L, a, c, h0, hr, rfl, hc, hp⟩ := tail_whole hi hv
    by_cases hl0 : l = []
    · subst hl0
      refine (h2 a c w).mono ?_
      rintro e w' ⟨rfl, rfl⟩
      refine ⟨_, K, ρ, rfl, Step.refl _ _ _ _, ?_, .tup [] [] .nil⟩
      simpa using hi
    · have hpos : 0 < l.length := List.length_pos_iff.2 hl0
      obtain ⟨hn, rfl, hfit⟩ := hp (by omega)
      obtain ⟨hsz, hlen, _, hrow⟩ := hr
      obtain ⟨vs, e, hh, hb, hel⟩ := hrow hn
      refine (h1 L.blk L.off c l w (holds_rows hh hel) (Array.getElem?_eq_some_iff.1 hh).1 hl).mono ?_
      rintro e' w' ⟨rfl, n, os, rfl⟩
      have hrp := rows_put (K := K) (os := os) (n := n) (l' := l.mergeSort fun x y => decide (x ≤ y)) (zs := []) hsz hn hh hb (by simp [Ty.size] at hfit ⊢; omega)
      rw [List.append_nil] at hrp
      have hL : ({ L with len := (l.mergeSort fun x y => decide (x ≤ y)).length } : Loc) = L := by
        cases L; simp at hlen ⊢; exact hlen.symm
      rw [hL] at hrp
      obtain ⟨st, iv⟩ := row_upd hi h0 hn (grown_put _) hrp
      exact ⟨_, K, ρ, rfl, st, iv, .tup [] [] .nil⟩

theorem compact_sound {f : FuncId}
    (h1 : ∀ (blk off cap : Nat) (zs : List Int) (w : World), Holds (Value.int .i64) w blk off zs.toArray → zs.length ≤ 9223372036854775807 → zs.length ≤ cap →
      Calls P f #[.slice (some ⟨blk, off, none⟩) zs.length cap] w fun e w' => e = .returned (.slice (some ⟨blk, off, none⟩) (Lib.compact zs).length cap) ∧
        ∃ q, w' = putRow (Value.int .i64) (Sort.ahead w q) blk off (Lib.compact zs ++ List.replicate (zs.length - (Lib.compact zs).length) 0).toArray)
    (h2 : ∀ (p : Option Addr) (cap : Nat) (w : World), Calls P f #[.slice p 0 cap] w fun e w' => e = .returned (.slice p 0 cap) ∧ w' = w)
    (l : List Int) (hl : l.length ≤ 9223372036854775807) : Sound P f [.tail 0 0] [.obj (.rows tI l)] (.tail 1 0, [.dead, .obj (.rows tI (Lib.compact l))]) := by
  intro K F ρ w vals hi hv
  cases hv with
  | cons _ v _ _ hv ht =>
    cases ht
    obtain ⟨L, a, c, h0, hr, rfl, hc, hp⟩ := tail_whole hi hv
    by_cases hl0 : l = []
    · subst hl0
      refine (h2 a c w).mono ?_
      rintro e w' ⟨rfl, rfl⟩
      have hL : ({ L with len := 0 } : Loc) = L := by
        have := hr.2.1
        cases L; simp at this ⊢; exact this.symm
      obtain ⟨ρ', k1, st, iv⟩ := row_upd1 (n := 0) (w' := w') hi h0 (fun _ => ⟨rfl, rfl, rfl, Nat.le_refl _, fun _ _ _ => rfl⟩) (fun _ => rfl) (by rw [hL]; exact hr)
      refine ⟨_, K, ρ', rfl, st, iv, .tail 1 0 _ _ k1 ⟨by simp, a, c, by simp, by simp, fun h => ?_⟩⟩
      obtain ⟨q1, q2, q3⟩ := hp h
      exact ⟨q1, by simpa using q2, by have := hr.1; simp [Ty.size] at q3 this ⊢; rw [this]; omega⟩
    · have hpos : 0 < l.length := List.length_pos_iff.2 hl0
      obtain ⟨hn, rfl, hfit⟩ := hp (by omega)
      obtain ⟨hsz, hlen, _, hrow⟩ := hr
      obtain ⟨vs, e, hh, hb, hel⟩ := hrow hn
      refine (h1 L.blk L.off c l w (holds_rows hh hel) hl hc).mono ?_
      rintro e' w' ⟨rfl, q, rfl⟩
      have hle := Lib.compact_length_le l
      have hrp := rows_put (K := K) (os := #[]) (n := q) (l' := Lib.compact l) (zs := List.replicate (l.length - (Lib.compact l).length) 0) hsz hn hh hb (by simp [Ty.size] at hfit ⊢; omega)
      have hgp := grown_put (w := w) (os := #[]) (blk := L.blk) (off := L.off) (n := q) (Lib.compact l ++ List.replicate (l.length - (Lib.compact l).length) 0).toArray
      rw [grow_empty] at hrp hgp
      obtain ⟨ρ', k1, st, iv⟩ := row_upd1 hi h0 (fun _ => hgp) (fun h => by simp [hn] at h) hrp
      refine ⟨_, K, ρ', rfl, st, iv, .tail 1 0 _ _ k1 ⟨by simp, some ⟨L.blk, L.off, none⟩, c, by simp, by simp; omega, fun h => ⟨hn, by simp, ?_⟩⟩⟩
      have hsz' : L.sz = 1 := hsz
      simp [Ty.size] at hfit ⊢
      rw [hsz']
      omega
end
end Go.Ab

/- The framework, part 24: a function's inner places (a loop's head, a label), for equations that the kernel checks by computing. -/
namespace Go.Ab
set_option linter.unusedVariables false

/-- The code at a place, and what is to be done behind it. p: the road to it; ms: how many rounds are left to the loops and scopes about it. -/
def ctxK (P : Program) (hn : Hints) (again : Code → LC → St → Cont → Ans) (call : Callf) (n : Nat) : Code → LC → List Nat → List Nat → Cont → Option (Code × LC × Cont)
  | c, l, [], _, k => some (c, l, k)
  | .seq a b, c, 0 :: p, ms, k => ctxK P hn again call n a { c with nrm := liveC b c } p ms fun e σ' => match e with
    | .normal => runC P hn again call n b c σ' k
    | e => k e σ'
  | .seq _ b, c, _ :: p, ms, k => ctxK P hn again call n b c p ms k
  | .cond _ t e, c, i :: p, ms, k => match i with
    | 0 => ctxK P hn again call n t c p ms k
    | _ => ctxK P hn again call n e c p ms k
  | .block i b, c, _ :: p, ms, k => ctxK P hn again call n b { c with ex := (i, c.nrm) :: c.ex } p ms fun e σ' => match e with
    | .exit j => if j = i then k .normal σ' else k e σ'
    | e => k e σ'
  | .loop b, c, _ :: p, m :: ms, k =>
    let keep := liveC (.loop b) c
    ctxK P hn again call n b { c with nrm := keep } p ms fun e σ' => match e with
    | .normal => iterK (runC P hn again call n b { c with nrm := keep }) c.pin keep m (norm c.pin keep σ') k
    | e => k e σ'
  | .scope b, c, _ :: p, m :: ms, k =>
    let c' := { c with gt := labL b c ++ c.gt }
    ctxK P hn again call n b c' p ms (jumpK (fun d => again d c') b c.pin c'.gt m k)
  | _, _, _, _, _ => none

def placeF (P : Program) (hn : Hints) (call : Callf) (n : Nat) (f : FuncId) (m0 : Nat) (p ms : List Nat) : Option (Code × LC × Cont) :=
  match fnOf P f with
  | none => none
  | some fn =>
    match fn.body with
    | none => none
    | some b => ctxK P hn (run P hn call n 2) call n b ⟨m0, resBits fn, [], [], resBits fn⟩ p ms (finK P fn m0 retK)

/-- At the head of the loop at p, m rounds left. m0: how many slots were handed in. -/
def loopF (P : Program) (hn : Hints) (call : Callf) (n : Nat) (f : FuncId) (m0 : Nat) (p ms : List Nat) (m : Nat) (σ : St) : Ans :=
  match placeF P hn call n f m0 p ms with
  | some (.loop b, c, k) => iterK (runC P hn (run P hn call n 2) call n b { c with nrm := liveC (.loop b) c }) c.pin (liveC (.loop b) c) m σ k
  | _ => none

/-- At the label l of the scope at p, m jumps left. -/
def labelF (P : Program) (hn : Hints) (call : Callf) (n : Nat) (f : FuncId) (m0 : Nat) (p ms : List Nat) (l : Nat) (m : Nat) (σ : St) : Ans :=
  match placeF P hn call n f m0 p ms with
  | some (.scope b, c, k) => enterK (fun d => run P hn call n 2 d { c with gt := labL b c ++ c.gt }) b c.pin (labL b c ++ c.gt) m l σ k
  | _ => none

/-- The roads to a code's loops and scopes (to look them up; no proof leans on it). -/
def roads : Code → List (List Nat)
  | .seq a b => (roads a).map (0 :: ·) ++ (roads b).map (1 :: ·)
  | .cond _ a b => (roads a).map (0 :: ·) ++ (roads b).map (1 :: ·)
  | .block _ b => (roads b).map (0 :: ·)
  | .loop b => [7] :: (roads b).map (0 :: ·)
  | .scope b => [8] :: (roads b).map (0 :: ·)
  | _ => []
end Go.Ab

/- The framework, part 25: tables of callees, and small laws for rounds of loops. -/
namespace Go.Ab
set_option linter.unusedVariables false

abbrev J := AV.junk
abbrev js (n : Nat) : List AV := List.replicate n .junk

abbrev G : Type := List AV → List Slot → Option (Bool × AV × List Slot)

/-- A table with one callee more. -/
def addT (f : FuncId) (g : G) (t : Callf) : Callf := ⟨fun f' a m => cond (Nat.beq f' f) (g a m) (t.tab f' a m), t.inl⟩

/-- A table with a callee that is interpreted in its turn, to a plain answer. -/
def inlT (P : Program) (hn : Hints) (f : FuncId) (n : Nat) (t : Callf) : Callf := ⟨fun f' a m => cond (Nat.beq f' f) ((runF P hn t n f a m).map fun r => (true, r)) (t.tab f' a m), t.inl⟩

/-- What is not in the table is interpreted in its turn, d deep. -/
def deepT (P : Program) (hn : Hints) (n : Nat) (t : Callf) : Nat → Callf
  | 0 => t
  | d + 1 => ⟨t.tab, fun f a m kk => runK P hn (deepT P hn n t d) n f a m kk⟩

section
variable {P : Program} {hn : Hints}

theorem noCall_ok : CallOK P noCall := ⟨fun f args m r h => by simp [noCall] at h, fun f args m kk ans h => by simp [noCall] at h⟩

theorem addT_ok {f : FuncId} {g : G} {t : Callf} (ht : CallOK P t) (hg : ∀ a m r, g a m = some r → r.1 = true → Sound P f a m r.2) : CallOK P (addT f g t) := by
  refine ⟨fun f' a m r h hk => ?_, ht.inl⟩
  unfold addT at h
  simp only at h
  cases hb : Nat.beq f' f with
  | false => rw [hb] at h; exact ht.tab f' a m r h hk
  | true =>
    rw [hb] at h
    have : f' = f := Nat.eq_of_beq_eq_true hb
    subst this
    exact hg a m r h hk

theorem inlT_ok {f : FuncId} {n : Nat} {t : Callf} (ht : CallOK P t) : CallOK P (inlT P hn f n t) := by
  refine ⟨fun f' a m r h hk => ?_, ht.inl⟩
  unfold inlT at h
  simp only at h
  cases hb : Nat.beq f' f with
  | false => rw [hb] at h; exact ht.tab f' a m r h hk
  | true =>
    rw [hb] at h
    have : f' = f := Nat.eq_of_beq_eq_true hb
    subst this
    simp only [cond_true, Option.map_eq_some_iff] at h
    obtain ⟨s, h1, rfl⟩ := h
    exact sound_of_run ht h1

theorem deepT_ok {n : Nat} {t : Callf} (ht : CallOK P t) : ∀ d, CallOK P (deepT P hn n t d)
  | 0 => ht
  | d + 1 => ⟨ht.tab, fun f args m kk ans h => soundK_of_run (deepT_ok ht d) h⟩

/-- An entry that holds where its test holds. -/
theorem ok_of {f : FuncId} {a : List AV} {m : List Slot} {b : Bool} {v : AV} {mm : List Slot} {r : Bool × AV × List Slot} (h : some (b, v, mm) = some r) (hk : r.1 = true) (hs : b = true → Sound P f a m (v, mm)) : Sound P f a m r.2 := by
  simp only [Option.some.injEq] at h; subst h; exact hs hk
end

theorem wrap64 {z : Int} (h : -9223372036854775808 ≤ z) (h' : z ≤ 9223372036854775807) : IntKind.i64.wrap z = z := by
  simp only [IntKind.wrap, IntKind.signed, IntKind.bits]
  simp
  omega

theorem wrapN {n : Nat} (h : n < 4611686018427387904) : IntKind.i64.wrap ((n : Int) + 1) = ((n + 1 : Nat) : Int) := by
  rw [wrap64 (by omega) (by omega)]; simp

theorem wrapP {n : Nat} (h : n < 4611686018427387904) : IntKind.i64.wrap (((n + 1 : Nat) : Int) - 1) = (n : Int) := by
  rw [wrap64 (by omega) (by omega)]; omega

theorem dec_lt {i n : Nat} : decide ((i : Int) < (n : Int)) = decide (i < n) := by simp
theorem dec_ge {i n : Nat} : decide ((i : Int) ≥ (n : Int)) = decide (n ≤ i) := by simp
theorem dec_nn {i : Nat} : decide ((0 : Int) ≤ (i : Int)) = true := by simp
theorem getD_lt {α : Type} {l : List α} {i : Nat} {d : α} (h : i < l.length) : l.getD i d = l[i] := by simp [List.getD, h]
theorem cond_dec {p : Prop} [Decidable p] {α : Type} {a b : α} (h : p) : cond (decide p) a b = a := by simp [h]
theorem cond_dec' {p : Prop} [Decidable p] {α : Type} {a b : α} (h : ¬ p) : cond (decide p) a b = b := by simp [h]
theorem cond_tt {α : Type} {a b c : Bool} {x y : α} (h : a = true) (h' : b = true) : cond (a && b) x y = x := by simp [h, h']
end Go.Ab
