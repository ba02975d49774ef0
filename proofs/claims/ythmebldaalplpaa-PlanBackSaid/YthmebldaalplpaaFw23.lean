/- The framework, part 23: the library's contracts (slices.Sort, Clone, Compact at []int) as the framework's; a result that is frozen. -/
import Derived.Test.YthmebldaalplpaaFw22
import Derived.Sort.OwnSortedInts
import Derived.Lib.SlicesCompact
import Derived.Lib.RowBridge
namespace Go.Ab
set_option linter.unusedVariables false
open Go.RowKit Go.Sort Go.Proofs

abbrev tI : Ty := .int .i64

section
variable {P : Program} {K F : Nat → Prop} {ρ : Locs} {w w' : World}

/-- A result of the call's own may be taken as read-only data. -/
theorem Sound.ro {f : FuncId} {args : List AV} {t : Ty} {l : List t.den} (h : Sound P f args [] (.tail 0 0, [.obj (.rows t l)])) : Sound P f args [] (.ro t l, []) := by
  intro K F ρ w vals hi hv
  refine (h K F ρ w vals hi hv).mono ?_
  rintro e w' ⟨v, K', ρ', rfl, st, iv, vr⟩
  have hz : frzV [.obj (.rows t l)] (.tail 0 0) = some (.ro t l, [(0, .obj (.frows t l))]) := rfl
  obtain ⟨K2, s2, i2, v3⟩ := frzV_sound hz iv vr
  have s3 := st.trans s2
  refine ⟨v, K2, fun _ => none, rfl, ⟨s3.sub, s3.keepK, s3.keepF, fun b L hb => ?_, s3.size, s3.os, s3.tape, s3.output⟩, ?_, VR.noids v3 rfl⟩
  · have := (hi.fr b L hb).1
    simp at this
  · exact i2.none.weakF

theorem ρ_empty (hi : Inv K F ρ [] w) (b : Nat) : ρ b = none := by
  cases h : ρ b with
  | none => rfl
  | some L => have := (hi.fr b L h).1; simp at this

/-- The handed row's one block is written, new blocks may come. -/
theorem row_upd {t : Ty} {l l' : List t.den} {L : Loc} (hi : Inv K F ρ [.obj (.rows t l)] w) (h0 : ρ 0 = some L) (hn : L.nil = false) (hg : w.grownBy w' (some L.blk)) (hr : RowsR K w' L t l') :
    Step K F ρ w K ρ w' ∧ Inv K F ρ [.obj (.rows t l')] w' := by
  obtain ⟨L0, e0, _, own⟩ := hi.ob 0 _ rfl
  rw [h0] at e0
  obtain rfl := Option.some.inj e0
  have hown := own rfl hn
  refine ⟨⟨fun _ h => h, fun b hb => ?_, fun b hb => ?_, fun _ _ h => h, hg.size, hg.os, hg.tape, hg.output⟩, ?_⟩
  · exact hg.block b (hi.kw b hb) (fun e => hown.1 (by cases e; exact hb))
  · exact hg.block b (hi.fw b hb) (fun e => hown.2 (by cases e; exact hb))
  · refine ⟨fun b hb => Nat.lt_of_lt_of_le (hi.kw b hb) hg.size, fun b hb => Nat.lt_of_lt_of_le (hi.fw b hb) hg.size, hi.dis, fun b o hb => ?_, fun b b' o o' M M' hb hb' _ _ _ _ _ _ _ => ?_, fun b M hb => ?_⟩
    · match b, hb with
      | 0, hb =>
        simp at hb; subst hb
        exact ⟨L, h0, hr, fun _ _ => hown⟩
      | b + 1, hb => simp at hb
    · have h1 := (List.getElem?_eq_some_iff.1 hb).1
      have h2 := (List.getElem?_eq_some_iff.1 hb').1
      simp at h1 h2; omega
    · have := hi.fr b M hb
      refine ⟨by simpa using this.1, ?_⟩
      have hb0 : b = 0 := by simpa using this.1
      subst hb0; simp

theorem row_upd1 {t : Ty} {l l' : List t.den} {L : Loc} {n : Nat} (hi : Inv K F ρ [.obj (.rows t l)] w) (h0 : ρ 0 = some L) (hg : L.nil = false → w.grownBy w' (some L.blk)) (hg' : L.nil = true → w' = w)
    (hr : RowsR K w' { L with len := n } t l') :
    ∃ ρ', ρ' 1 = some { L with len := n } ∧ Step K F ρ w K ρ' w' ∧ Inv K F ρ' [.dead, .obj (.rows t l')] w' := by
  obtain ⟨L0, e0, _, own⟩ := hi.ob 0 _ rfl
  rw [h0] at e0
  obtain rfl := Option.some.inj e0
  have gr : w.grownBy w' (if L.nil then none else some L.blk) := by
    cases hn : L.nil with
    | false => simpa using hg hn
    | true => rw [hg' hn]; exact ⟨rfl, rfl, rfl, Nat.le_refl _, fun _ _ _ => rfl⟩
  refine ⟨fun b => if b = 1 then some { L with len := n } else ρ b, by simp, ⟨fun _ h => h, fun b hb => ?_, fun b hb => ?_, fun b M hb => ?_, gr.size, gr.os, gr.tape, gr.output⟩, ?_⟩
  · refine gr.block b (hi.kw b hb) ?_
    split
    · simp
    · rename_i hn
      intro e; cases e
      exact (own rfl (by simpa using hn)).1 hb
  · refine gr.block b (hi.fw b hb) ?_
    split
    · simp
    · rename_i hn
      intro e; cases e
      exact (own rfl (by simpa using hn)).2 hb
  · have := (hi.fr b M hb).1
    have hb0 : b = 0 := by simpa using this
    subst hb0; simpa using hb
  · refine ⟨fun b hb => Nat.lt_of_lt_of_le (hi.kw b hb) gr.size, fun b hb => Nat.lt_of_lt_of_le (hi.fw b hb) gr.size, hi.dis, fun b o hb => ?_, fun b b' o o' M M' hb hb' _ _ _ _ _ _ _ => ?_, fun b M hb => ?_⟩
    · match b, hb with
      | 0, hb => simp at hb
      | 1, hb =>
        simp at hb; subst hb
        exact ⟨{ L with len := n }, by simp, hr, fun _ hn => own rfl hn⟩
      | b + 2, hb => simp at hb
    · have h1 := (List.getElem?_eq_some_iff.1 hb).1
      have h2 := (List.getElem?_eq_some_iff.1 hb').1
      have k1 : b ≠ 0 := fun e => by subst e; simp at hb
      have k2 : b' ≠ 0 := fun e => by subst e; simp at hb'
      simp at h1 h2; omega
    · by_cases h1 : b = 1
      · subst h1; simp
      · have := (hi.fr b M (by simpa [h1] using hb)).1
        have hb0 : b = 0 := by simpa using this
        subst hb0; simp

/-- A row of the call's own, handed out. -/
theorem own_slot {l : List Int} {e : TypeId} {v : Value} (hi : Inv K F ρ [] w) (hb : Below w.heap.size w w') (ho : w'.ownsRow w.heap.size e 1 v l.length (l.map (Value.int .i64))) :
    ∃ ρ', Step K F ρ w K ρ' w' ∧ Inv K F ρ' [.obj (.rows tI l)] w' ∧ VR K ρ' w' (.tail 0 0) v := by
  have mk : ∀ L : Loc, RowsR K w' L tI l → (L.nil = false → w.heap.size ≤ L.blk) → TailR L 0 v → ∃ ρ', Step K F ρ w K ρ' w' ∧ Inv K F ρ' [.obj (.rows tI l)] w' ∧ VR K ρ' w' (.tail 0 0) v := fun L hr hbl ht => by
    refine ⟨fun b => if b = 0 then some L else none, ⟨fun _ h => h, fun b hk => hb.block b (hi.kw b hk), fun b hk => hb.block b (hi.fw b hk), fun b M hM => ?_, hb.size, hb.os, hb.tape, hb.output⟩,
      ⟨fun b hk => Nat.lt_of_lt_of_le (hi.kw b hk) hb.size, fun b hk => Nat.lt_of_lt_of_le (hi.fw b hk) hb.size, hi.dis, fun b o hbo => ?_, fun b b' o o' M M' hbo hbo' _ _ _ _ _ _ _ => ?_, fun b M hM => ?_⟩, .tail 0 0 L v (by simp) ht⟩
    · rw [ρ_empty hi] at hM; cases hM
    · match b, hbo with
      | 0, hbo =>
        simp at hbo; subst hbo
        exact ⟨L, by simp, hr, fun _ hn => ⟨fun hk => Nat.lt_irrefl _ (Nat.lt_of_lt_of_le (hi.kw _ hk) (hbl hn)), fun hk => Nat.lt_irrefl _ (Nat.lt_of_lt_of_le (hi.fw _ hk) (hbl hn))⟩⟩
      | b + 1, hbo => simp at hbo
    · have h1 := (List.getElem?_eq_some_iff.1 hbo).1
      have h2 := (List.getElem?_eq_some_iff.1 hbo').1
      simp at h1 h2; omega
    · by_cases h0 : b = 0
      · subst h0; simp
      · simp [h0] at hM
  obtain ⟨hl, hc⟩ := ho
  rcases hc with ⟨rfl, hn⟩ | ⟨g, cap, cur, rfl, hg, hh, hle, _, hsz, htk⟩
  · have hl0 : l = [] := List.length_eq_zero_iff.1 hn
    subst hl0
    exact mk ⟨true, 0, 0, 0, 1, 0⟩ ⟨rfl, rfl, fun _ => rfl, fun h => by simp at h⟩ (fun h => by simp at h) ⟨by simp, none, 0, by simp, by simp, fun h => by simp at h⟩
  · refine mk ⟨false, g, 0, l.length, 1, cap⟩ ⟨rfl, rfl, fun h => by simp at h, fun _ => ⟨cur, e, hh, by simpa using hsz, fun i x hx => ?_⟩⟩ (fun _ => hg) ⟨by simp, some ⟨g, 0, none⟩, cap, by simp, by simpa using hle, fun _ => ⟨rfl, by simp, by simp⟩⟩
    refine ⟨fun _ => .int .i64 x, fun j hj => ?_, by simp [TyR]⟩
    have hj0 : j = 0 := by simp [Ty.size] at hj; exact hj
    subst hj0
    have hi' : i < l.length := (List.getElem?_eq_some_iff.1 hx).1
    have h1 : (cur.toList.take (l.length * 1))[i]? = (l.map (Value.int .i64))[i]? := by rw [htk]
    rw [List.getElem?_take_of_lt (by omega), List.getElem?_map, hx] at h1
    simpa [Ty.size] using h1

/-- What a read-only list of ints is in memory. -/
theorem ro_ints {l : List Int} {v : Value} (h : VR K ρ w (.ro tI l) v) : (l = [] ∧ ∃ a c, v = .slice a 0 c) ∨
    ∃ blk off c, v = .slice (some ⟨blk, off, none⟩) l.length c ∧ ∀ j, j < l.length → w.cell? ⟨blk, off + j, none⟩ = some (.int .i64 (l.getD j 0)) := by
  cases h with
  | ro _ _ _ h =>
    obtain ⟨a, c, h1, h2, h3⟩ := h
    have h1 : v = _ := h1
    cases hl : l with
    | nil => exact .inl ⟨rfl, a, c, by rw [h1, hl]; rfl⟩
    | cons x xs =>
      rw [hl] at h1 h3
      obtain ⟨blk, off, g, e1, _, _, _⟩ := h3 0 x rfl
      refine .inr ⟨blk, off, c, by rw [h1, e1], fun j hj => ?_⟩
      have hj' : (x :: xs)[j]? = some ((x :: xs)[j]'hj) := List.getElem?_eq_getElem hj
      obtain ⟨blk', off', g', e1', _, e3', e4'⟩ := h3 j _ hj'
      rw [e1] at e1'
      cases e1'
      have := e3' 0 (by simp [Ty.size])
      simp only [TyR] at e4'
      rw [e4'] at this
      simpa [Ty.size, List.getD, hj'] using this

theorem clone_sound {f : FuncId} {e : TypeId}
    (h1 : ∀ (b off n c : Nat) (zs : List Int) (w : World), n ≤ zs.length → n * 8 ≤ 140737488355328 → (∀ j, j < zs.length → w.cell? ⟨b, off + j, none⟩ = some (.int .i64 (zs.getD j 0))) →
      Calls P f #[.slice (some ⟨b, off, none⟩) n c] w fun e' w' => ∃ v', e' = .returned v' ∧ w'.ownsRow w.heap.size e 1 v' n ((zs.take n).map (Value.int .i64)) ∧ v' ≠ .slice none 0 0 ∧ Below w.heap.size w w')
    (h2 : ∀ (n c : Nat) (w : World), Calls P f #[.slice none n c] w fun e' w' => e' = .returned (.slice none 0 0) ∧ w' = w)
    (h3 : ∀ (a : Addr) (c : Nat) (w : World), Calls P f #[.slice (some a) 0 c] w fun e' w' => ∃ v', e' = .returned v' ∧ w'.ownsRow w.heap.size e 1 v' 0 [] ∧ v' ≠ .slice none 0 0 ∧ Below w.heap.size w w')
    (l : List Int) (hl : l.length * 8 ≤ 140737488355328) : Sound P f [.ro tI l] [] (.tail 0 0, [.obj (.rows tI l)]) := by
  intro K F ρ w vals hi hv
  cases hv with
  | cons _ v _ _ hv ht =>
    cases ht
    rcases ro_ints hv with ⟨rfl, a, c, rfl⟩ | ⟨blk, off, c, rfl, hcell⟩
    · cases a with
      | none =>
        refine (h2 0 c w).mono ?_
        rintro e' w' ⟨rfl, rfl⟩
        obtain ⟨ρ', st, iv, vr⟩ := own_slot (l := []) (e := e) (v := .slice none 0 0) hi (Below.refl _ _) ⟨rfl, .inl ⟨rfl, rfl⟩⟩
        exact ⟨_, K, ρ', rfl, st, iv, vr⟩
      | some a =>
        refine (h3 a c w).mono ?_
        rintro e' w' ⟨v', rfl, ho, _, hb⟩
        obtain ⟨ρ', st, iv, vr⟩ := own_slot (l := []) hi hb ho
        exact ⟨_, K, ρ', rfl, st, iv, vr⟩
    · refine (h1 blk off l.length c l w (Nat.le_refl _) hl hcell).mono ?_
      rintro e' w' ⟨v', rfl, ho, _, hb⟩
      rw [List.take_length] at ho
      obtain ⟨ρ', st, iv, vr⟩ := own_slot (l := l) hi hb ho
      exact ⟨_, K, ρ', rfl, st, iv, vr⟩

/-- A handed slice of a whole row. -/
theorem tail_whole {t : Ty} {l : List t.den} {v : Value} (hi : Inv K F ρ [.obj (.rows t l)] w) (h : VR K ρ w (.tail 0 0) v) :
    ∃ L a c, ρ 0 = some L ∧ RowsR K w L t l ∧ v = .slice a l.length c ∧ l.length ≤ c ∧ (0 < c → L.nil = false ∧ a = some ⟨L.blk, L.off, none⟩ ∧ L.off + c * t.size ≤ L.bsz) := by
  cases h with
  | tail _ _ L _ h0 ht =>
    obtain ⟨L0, e0, hr, _⟩ := hi.ob 0 _ rfl
    rw [h0] at e0
    obtain rfl := Option.some.inj e0
    obtain ⟨_, a, c, rfl, hc, hh⟩ := ht
    have hr' : RowsR K w L t l := hr
    refine ⟨L, a, c, h0, hr', by rw [Nat.sub_zero, hr'.2.1], by have := hr'.2.1; omega, fun hp => ?_⟩
    obtain ⟨k1, k2, k3⟩ := hh hp
    exact ⟨k1, by simpa using k2, by rw [← hr'.1]; simpa using k3⟩

theorem holds_rows {l : List Int} {L : Loc} {vs : Array Value} {e : TypeId} (hh : w.heap[L.blk]? = some (.cells vs e (0, 0)))
    (hel : ∀ i x, l[i]? = some x → ∃ g, (∀ j, j < tI.size → vs[L.off + (i * tI.size + j)]? = some (g j)) ∧ TyR K w tI x g) : Holds (Value.int .i64) w L.blk L.off l.toArray := by
  intro j hj
  have hj' : j < l.length := by simpa using hj
  obtain ⟨g, h1, h2⟩ := hel j _ (List.getElem?_eq_getElem hj')
  have h3 := h1 0 (by simp [Ty.size])
  have h4 : g 0 = .int .i64 l[j] := h2
  rw [h4] at h3
  refine ⟨?_, by simp [World.frozen?, hh]⟩
  simp only [World.cell?, hh]
  simpa [Ty.size, hj'] using h3

theorem heap_put {os : Array Obj} {blk off n : Nat} {vs : Array Value} {e : TypeId} {fr : Nat × Nat} (d : Array Int) (hb : w.heap[blk]? = some (.cells vs e fr)) :
    (grow (putRow (Value.int .i64) (Sort.ahead w n) blk off d) os).heap[blk]? = some (.cells (putCells (Value.int .i64) off d vs) e fr) := by
  have hg : blk < w.heap.size := (Array.getElem?_eq_some_iff.1 hb).1
  rw [heap_grow_old _ _ (by simpa using hg)]
  simp [putRow, mapBlock, Sort.ahead, Array.getElem?_modify, hb, onCells]

theorem grown_put {os : Array Obj} {blk off n : Nat} (d : Array Int) : w.grownBy (grow (putRow (Value.int .i64) (Sort.ahead w n) blk off d) os) (some blk) := by
  refine ⟨rfl, rfl, rfl, by simp, fun k hk hne => ?_⟩
  rw [heap_grow_old _ _ (by simpa using hk)]
  have : blk ≠ k := fun e => hne (by rw [e])
  simp [putRow, mapBlock, Sort.ahead, Array.getElem?_modify, this]

/-- A row after new ints were put at its front. -/
theorem rows_put {os : Array Obj} {n : Nat} {l' zs : List Int} {L : Loc} {vs : Array Value} {e : TypeId} (hsz : L.sz = 1) (hn : L.nil = false) (hh : w.heap[L.blk]? = some (.cells vs e (0, 0))) (hb : vs.size = L.bsz)
    (hfit : L.off + (l' ++ zs).length ≤ L.bsz) :
    RowsR K (grow (putRow (Value.int .i64) (Sort.ahead w n) L.blk L.off (l' ++ zs).toArray) os) { L with len := l'.length } tI l' := by
  refine ⟨hsz, rfl, fun h => by simp [hn] at h, fun _ => ⟨_, e, heap_put _ hh, by simp [putCells, hb], fun i x hx => ⟨fun _ => .int .i64 x, fun j hj => ?_, by simp [TyR]⟩⟩⟩
  have hj0 : j = 0 := by simp [Ty.size] at hj; exact hj
  subst hj0
  have hi' : i < l'.length := (List.getElem?_eq_some_iff.1 hx).1
  have hlt : L.off + i < vs.size := by rw [hb]; simp at hfit; omega
  have hx' : (l' ++ zs)[i]? = some x := by rw [List.getElem?_append_left hi']; exact hx
  simp only [Ty.size, Nat.mul_one, Nat.add_zero, putCells, Array.getElem?_mapIdx, Array.getElem?_eq_getElem hlt, Option.map_some]
  rw [if_pos ⟨by omega, by simp; omega⟩, show L.off + i - L.off = i by omega]
  congr 2
  have hlen : i < (l' ++ zs).length := (List.getElem?_eq_some_iff.1 hx').1
  rw [getElem!_pos _ i (by simpa using hlen)]
  rw [List.getElem?_eq_getElem hlen] at hx'
  simpa using hx'

theorem sort_sound {f : FuncId}
    (h1 : ∀ (blk off cap : Nat) (zs : List Int) (w : World), Holds (Value.int .i64) w blk off zs.toArray → blk < w.heap.size → zs.length < 4611686018427387904 →
      Calls P f #[.slice (some ⟨blk, off, none⟩) zs.length cap] w fun e w' => e = .returned (.tuple #[]) ∧ ∃ n os, w' = grow (putRow (Value.int .i64) (Sort.ahead w n) blk off (zs.mergeSort fun x y => decide (x ≤ y)).toArray) os)
    (h2 : ∀ (p : Option Addr) (cap : Nat) (w : World), Calls P f #[.slice p 0 cap] w fun e w' => e = .returned (.tuple #[]) ∧ w' = w)
    (l : List Int) (hl : l.length < 4611686018427387904) : Sound P f [.tail 0 0] [.obj (.rows tI l)] (.tup [], [.obj (.rows tI (l.mergeSort fun x y => decide (x ≤ y)))]) := by
  intro K F ρ w vals hi hv
  cases hv with
  | cons _ v _ _ hv ht =>
    cases ht
    obtain ⟨L, a, c, h0, hr, rfl, hc, hp⟩ := tail_whole hi hv
    by_cases hl0 : l = []
    · subst hl0
      refine (h2 a c w).mono ?_
      rintro e w' ⟨rfl, rfl⟩
      refine ⟨_, K, ρ, rfl, Step.refl _ _ _ _, ?_, .tup [] [] .nil⟩
      simpa using hi
    · have hpos : 0 < l.length := List.length_pos_iff.2 hl0
      obtain ⟨hn, rfl, hfit⟩ := hp (by omega)
      obtain ⟨hsz, hlen, _, hrow⟩ := hr
      obtain ⟨vs, e, hh, hb, hel⟩ := hrow hn
      refine (h1 L.blk L.off c l w (holds_rows hh hel) (Array.getElem?_eq_some_iff.1 hh).1 hl).mono ?_
      rintro e' w' ⟨rfl, n, os, rfl⟩
      have hrp := rows_put (K := K) (os := os) (n := n) (l' := l.mergeSort fun x y => decide (x ≤ y)) (zs := []) hsz hn hh hb (by simp [Ty.size] at hfit ⊢; omega)
      rw [List.append_nil] at hrp
      have hL : ({ L with len := (l.mergeSort fun x y => decide (x ≤ y)).length } : Loc) = L := by
        cases L; simp at hlen ⊢; exact hlen.symm
      rw [hL] at hrp
      obtain ⟨st, iv⟩ := row_upd hi h0 hn (grown_put _) hrp
      exact ⟨_, K, ρ, rfl, st, iv, .tup [] [] .nil⟩

theorem compact_sound {f : FuncId}
    (h1 : ∀ (blk off cap : Nat) (zs : List Int) (w : World), Holds (Value.int .i64) w blk off zs.toArray → zs.length ≤ 9223372036854775807 → zs.length ≤ cap →
      Calls P f #[.slice (some ⟨blk, off, none⟩) zs.length cap] w fun e w' => e = .returned (.slice (some ⟨blk, off, none⟩) (Lib.compact zs).length cap) ∧
        ∃ q, w' = putRow (Value.int .i64) (Sort.ahead w q) blk off (Lib.compact zs ++ List.replicate (zs.length - (Lib.compact zs).length) 0).toArray)
    (h2 : ∀ (p : Option Addr) (cap : Nat) (w : World), Calls P f #[.slice p 0 cap] w fun e w' => e = .returned (.slice p 0 cap) ∧ w' = w)
    (l : List Int) (hl : l.length ≤ 9223372036854775807) : Sound P f [.tail 0 0] [.obj (.rows tI l)] (.tail 1 0, [.dead, .obj (.rows tI (Lib.compact l))]) := by
  intro K F ρ w vals hi hv
  cases hv with
  | cons _ v _ _ hv ht =>
    cases ht
    obtain ⟨L, a, c, h0, hr, rfl, hc, hp⟩ := tail_whole hi hv
    by_cases hl0 : l = []
    · subst hl0
      refine (h2 a c w).mono ?_
      rintro e w' ⟨rfl, rfl⟩
      have hL : ({ L with len := 0 } : Loc) = L := by
        have := hr.2.1
        cases L; simp at this ⊢; exact this.symm
      obtain ⟨ρ', k1, st, iv⟩ := row_upd1 (n := 0) (w' := w') hi h0 (fun _ => ⟨rfl, rfl, rfl, Nat.le_refl _, fun _ _ _ => rfl⟩) (fun _ => rfl) (by rw [hL]; exact hr)
      refine ⟨_, K, ρ', rfl, st, iv, .tail 1 0 _ _ k1 ⟨by simp, a, c, by simp, by simp, fun h => ?_⟩⟩
      obtain ⟨q1, q2, q3⟩ := hp h
      exact ⟨q1, by simpa using q2, by have := hr.1; simp [Ty.size] at q3 this ⊢; rw [this]; omega⟩
    · have hpos : 0 < l.length := List.length_pos_iff.2 hl0
      obtain ⟨hn, rfl, hfit⟩ := hp (by omega)
      obtain ⟨hsz, hlen, _, hrow⟩ := hr
      obtain ⟨vs, e, hh, hb, hel⟩ := hrow hn
      refine (h1 L.blk L.off c l w (holds_rows hh hel) hl hc).mono ?_
      rintro e' w' ⟨rfl, q, rfl⟩
      have hle := Lib.compact_length_le l
      have hrp := rows_put (K := K) (os := #[]) (n := q) (l' := Lib.compact l) (zs := List.replicate (l.length - (Lib.compact l).length) 0) hsz hn hh hb (by simp [Ty.size] at hfit ⊢; omega)
      have hgp := grown_put (w := w) (os := #[]) (blk := L.blk) (off := L.off) (n := q) (Lib.compact l ++ List.replicate (l.length - (Lib.compact l).length) 0).toArray
      rw [grow_empty] at hrp hgp
      obtain ⟨ρ', k1, st, iv⟩ := row_upd1 hi h0 (fun _ => hgp) (fun h => by simp [hn] at h) hrp
      refine ⟨_, K, ρ', rfl, st, iv, .tail 1 0 _ _ k1 ⟨by simp, some ⟨L.blk, L.off, none⟩, c, by simp, by simp; omega, fun h => ⟨hn, by simp, ?_⟩⟩⟩
      have hsz' : L.sz = 1 := hsz
      simp [Ty.size] at hfit ⊢
      rw [hsz']
      omega
end
end Go.Ab
