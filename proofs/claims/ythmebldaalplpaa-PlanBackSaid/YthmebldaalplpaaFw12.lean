/- The framework, part 12: append. -/
import Derived.Test.YthmebldaalplpaaFw11
namespace Go.Ab
set_option linter.unusedVariables false

section
variable {P : Program} {K F : Nat → Prop} {ρ : Locs} {m : List Slot} {w w' : World} {env : List AV} {a : Act} {r : Res}

/-- The cells from ⟨b, o⟩ on hold these elements. -/
def RowRead (K : Nat → Prop) (w : World) (b o : Nat) (t : Ty) (xs : List t.den) : Prop :=
  ∀ i x, xs[i]? = some x → ∃ g, (∀ j, j < t.size → w.cell? ⟨b, o + (i * t.size + j), none⟩ = some (g j)) ∧ TyR K w t x g

def cellsL (w : World) (b o n : Nat) : List Value := (List.range n).map fun q => (w.cell? ⟨b, o + q, none⟩).getD undef

theorem TyR.one {t : Ty} {x : t.den} {g : Nat → Value} (h : TyR K w t x g) : ∀ j, j < t.size → (g j).oneCell' = true := by
  induction t generalizing g with
  | int k => intro j hj; simp [Ty.size] at hj; subst hj; simp only [TyR] at h; rw [h]; rfl
  | bool => intro j hj; simp [Ty.size] at hj; subst hj; simp only [TyR] at h; rw [h]; rfl
  | str => intro j hj; simp [Ty.size] at hj; subst hj; simp only [TyR] at h; rw [h]; rfl
  | list e ih => intro j hj; simp [Ty.size] at hj; subst hj; obtain ⟨a, c, h1, _⟩ := h; rw [h1]; rfl
  | pair a b iha ihb =>
    intro j hj
    simp only [Ty.size] at hj
    by_cases hja : j < a.size
    · exact iha h.1 j hja
    · have := ihb h.2 (j - a.size) (by omega)
      rwa [show a.size + (j - a.size) = j by omega] at this

theorem RowRead.split {b o : Nat} {t : Ty} {xs : List t.den} (h : RowRead K w b o t xs) {q : Nat} (hq : q < xs.length * t.size) :
    ∃ v, w.cell? ⟨b, o + q, none⟩ = some v ∧ v.oneCell' = true := by
  have hpos := Ty.size_pos t
  have hi : q / t.size < xs.length := by rw [Nat.div_lt_iff_lt_mul hpos]; exact hq
  obtain ⟨g, h1, h2⟩ := h (q / t.size) _ (List.getElem?_eq_getElem hi)
  have hm := Nat.mod_lt q hpos
  have := h1 (q % t.size) hm
  rw [show q / t.size * t.size + q % t.size = q by rw [Nat.mul_comm]; exact Nat.div_add_mod q t.size] at this
  exact ⟨_, this, TyR.one h2 _ hm⟩

theorem RowRead.cells {b o : Nat} {t : Ty} {xs : List t.den} (h : RowRead K w b o t xs) : ∀ j v, (cellsL w b o (xs.length * t.size))[j]? = some v → w.cell? ⟨b, o + j, none⟩ = some v := by
  intro j v hv
  simp only [cellsL, List.getElem?_map, Option.map_eq_some_iff] at hv
  obtain ⟨q, hq, rfl⟩ := hv
  obtain ⟨h1, h2⟩ := List.getElem?_eq_some_iff.1 hq
  simp at h1 h2
  subst h2
  obtain ⟨v, hv, _⟩ := h.split h1
  simp [hv]

theorem RowRead.one {b o : Nat} {t : Ty} {xs : List t.den} (h : RowRead K w b o t xs) : ∀ v ∈ cellsL w b o (xs.length * t.size), v.oneCell' = true := by
  intro v hv
  simp only [cellsL, List.mem_map, List.mem_range] at hv
  obtain ⟨q, hq, rfl⟩ := hv
  obtain ⟨v, hv, h1⟩ := h.split hq
  simp [hv, h1]

/-- Elements in a list of cells. -/
def Elems (K : Nat → Prop) (w : World) (t : Ty) (xs : List t.den) (vs : List Value) : Prop :=
  vs.length = xs.length * t.size ∧ ∀ i x, xs[i]? = some x → ∃ g, (∀ j, j < t.size → vs[i * t.size + j]? = some (g j)) ∧ TyR K w t x g

theorem RowRead.elems {b o : Nat} {t : Ty} {xs : List t.den} (h : RowRead K w b o t xs) : Elems K w t xs (cellsL w b o (xs.length * t.size)) := by
  refine ⟨by simp [cellsL], fun i x hx => ?_⟩
  obtain ⟨g, h1, h2⟩ := h i x hx
  refine ⟨g, fun j hj => ?_, h2⟩
  have hi : i < xs.length := (List.getElem?_eq_some_iff.1 hx).1
  have : i * t.size + j < xs.length * t.size := by
    have := Nat.mul_le_mul_right t.size (Nat.succ_le_of_lt hi)
    rw [Nat.succ_mul] at this
    omega
  simp [cellsL, this, h1 j hj]

theorem Elems.append {t : Ty} {xs ys : List t.den} {us vs : List Value} (h : Elems K w t xs us) (h' : Elems K w t ys vs) : Elems K w t (xs ++ ys) (us ++ vs) := by
  refine ⟨by rw [List.length_append, h.1, h'.1, List.length_append, Nat.add_mul], fun i x hx => ?_⟩
  rw [List.getElem?_append] at hx
  split at hx
  · rename_i hi
    obtain ⟨g, h1, h2⟩ := h.2 i x hx
    refine ⟨g, fun j hj => ?_, h2⟩
    have := Nat.mul_le_mul_right t.size (Nat.succ_le_of_lt hi)
    rw [Nat.succ_mul] at this
    rw [List.getElem?_append_left (by rw [h.1]; omega)]
    exact h1 j hj
  · rename_i hi
    obtain ⟨g, h1, h2⟩ := h'.2 _ x hx
    refine ⟨g, fun j hj => ?_, h2⟩
    have hm : i * t.size = xs.length * t.size + (i - xs.length) * t.size := by rw [← Nat.add_mul]; congr 1; omega
    rw [List.getElem?_append_right (by rw [h.1]; omega), h.1, show i * t.size + j - xs.length * t.size = (i - xs.length) * t.size + j by omega]
    exact h1 j hj

theorem Elems.rows {L : Loc} {t : Ty} {xs : List t.den} {vs : List Value} {cur : Array Value} {e : TypeId} (h : Elems K w t xs vs) (hh : w.heap[L.blk]? = some (.cells cur e (0, 0)))
    (hn : L.nil = false) (hsz : L.sz = t.size) (hl : L.len = xs.length) (hb : cur.size = L.bsz) (hc : ∀ j v, vs[j]? = some v → cur[L.off + j]? = some v) : RowsR K w L t xs := by
  refine ⟨hsz, hl, fun h => by simp [hn] at h, fun _ => ⟨cur, e, hh, hb, fun i x hx => ?_⟩⟩
  obtain ⟨g, h1, h2⟩ := h.2 i x hx
  exact ⟨g, fun j hj => hc _ _ (h1 j hj), h2⟩

theorem Elems.mono {K' : Nat → Prop} {t : Ty} {xs : List t.den} {vs : List Value} (hs : ∀ b, K b → K' b) (hk : ∀ b, K b → w'.heap[b]? = w.heap[b]?) (h : Elems K w t xs vs) : Elems K' w' t xs vs :=
  ⟨h.1, fun i x hx => let ⟨g, h1, h2⟩ := h.2 i x hx; ⟨g, h1, TyR.mono hs hk _ _ _ h2⟩⟩

/-- A row's elements, to be read. -/
theorem RowsR.read {L : Loc} {t : Ty} {l : List t.den} (h : RowsR K w L t l) (i : Nat) : RowRead K w L.blk (L.off + i * L.sz) t (l.drop i) := by
  intro j x hx
  rw [List.getElem?_drop] at hx
  have hn : L.nil = false := by
    cases hn : L.nil with
    | false => rfl
    | true => rw [h.2.2.1 hn] at hx; simp at hx
  obtain ⟨vs, e, e1, e2, e3⟩ := h.2.2.2 hn
  obtain ⟨g, k1, k2⟩ := e3 _ x hx
  refine ⟨g, fun q hq => ?_, k2⟩
  have := k1 q hq
  rw [Nat.add_mul] at this
  rw [h.1, show L.off + i * t.size + (j * t.size + q) = L.off + (i * t.size + j * t.size + q) by omega]
  simp [World.cell?, e1, this]

/-- What is appended. -/
theorem elemsOf_sound {y : Ty} {v : AV} {u : Value} {xs : List y.den} {rd : List Nat} (hi : Inv K F ρ m w) (hv : VR K ρ w v u) (h : elemsOf m y v = some (xs, rd)) :
    ∃ news, Elems K w y xs news ∧ (∀ x ∈ news, x.oneCell' = true) ∧ (∀ w1, (Builtin.lenOf u).run P w1 = .ok xs.length w1) ∧
      ∀ w1, w1.heap = w.heap → (Builtin.firstCells y.size xs.length u).run P w1 = .ok news.toArray w1 := by
  have hnil : ∀ ad c, u = .slice ad 0 c → xs = [] → ∃ news, Elems K w y xs news ∧ (∀ x ∈ news, x.oneCell' = true) ∧ (∀ w1, (Builtin.lenOf u).run P w1 = .ok xs.length w1) ∧
      ∀ w1, w1.heap = w.heap → (Builtin.firstCells y.size xs.length u).run P w1 = .ok news.toArray w1 := fun ad c hu hx => by
    subst hu
    subst hx
    refine ⟨[], ⟨by simp, fun i x hx => by simp at hx⟩, by simp, fun w1 => by simp [Builtin.lenOf], fun w1 _ => ?_⟩
    cases ad <;> simp [Builtin.firstCells, loadCells, loadCellsFrom]
  have hread : ∀ b o c, RowRead K w b o y xs → u = .slice (some ⟨b, o, none⟩) xs.length c → ∃ news, Elems K w y xs news ∧ (∀ x ∈ news, x.oneCell' = true) ∧ (∀ w1, (Builtin.lenOf u).run P w1 = .ok xs.length w1) ∧
      ∀ w1, w1.heap = w.heap → (Builtin.firstCells y.size xs.length u).run P w1 = .ok news.toArray w1 := fun b o c hr hu => by
    subst hu
    refine ⟨_, hr.elems, hr.one, fun w1 => by simp [Builtin.lenOf], fun w1 hw1 => ?_⟩
    refine run_firstCells_some w1 y.size xs.length _ _ _ _ (by simp [cellsL]) fun j v hj => ?_
    rw [addr_add]
    have := hr.cells j v hj
    simpa [World.cell?, hw1] using this
  unfold elemsOf at h
  split at h
  · cases hv; simp at h; exact hnil _ _ rfl h.1
  · cases hv; simp at h; exact hnil _ _ rfl h.1
  · rename_i e l
    split at h
    · rename_i heq
      subst heq
      simp only [Option.some.injEq, Prod.mk.injEq] at h
      obtain ⟨rfl, rfl⟩ := h
      cases hv with
      | ro _ _ _ hT =>
        obtain ⟨ad, c, e1, e2, e3⟩ := hT
        simp only at e1
        by_cases hl0 : l = []
        · exact hnil ad c (by rw [e1, hl0]; rfl) hl0
        · have hpos : 0 < l.length := List.length_pos_iff.2 hl0
          obtain ⟨blk, off, g, k1, k2, _⟩ := e3 0 _ (List.getElem?_eq_getElem hpos)
          subst k1
          refine hread blk off c (fun i x hx => ?_) e1
          obtain ⟨blk', off', g', q1, q2, q3, q4⟩ := e3 i x hx
          simp at q1
          obtain ⟨rfl, rfl⟩ := q1
          exact ⟨g', q3, q4⟩
    · simp at h
  · rename_i b i
    split at h
    · rename_i e l hrow
      split at h
      · rename_i heq
        subst heq
        simp only [Option.some.injEq, Prod.mk.injEq] at h
        obtain ⟨hx, _⟩ := h
        have hx' : xs = l.drop i := by rw [← hx]; split <;> simp_all
        obtain ⟨L, hL, hR⟩ := hi.row hrow
        cases hv with
        | tail _ _ L' _ hL' hT =>
          rw [hL] at hL'
          obtain rfl := Option.some.inj hL'
          obtain ⟨t1, ad, c, t2, t3, t4⟩ := hT
          have hlen : xs.length = L.len - i := by rw [hx', List.length_drop, show L.len = l.length from hR.2.1]
          by_cases hc : 0 < c
          · obtain ⟨u1, u2, u3⟩ := t4 hc
            refine hread L.blk (L.off + i * L.sz) c (by rw [hx']; exact hR.read i) (by rw [t2, u2, hlen])
          · have : L.len - i = 0 := by omega
            exact hnil ad c (by rw [t2, this]) (List.eq_nil_of_length_eq_zero (by omega))
      · simp at h
    · simp at h
  · rename_i s
    split at h
    · simp only [Option.some.injEq, Prod.mk.injEq] at h
      obtain ⟨hx, _⟩ := h
      subst hx
      cases hv
      refine ⟨s.data.toList.map fun c => .int .u8 (c.toNat : Int), ⟨by simp [Ty.size], fun i x hx => ?_⟩, ?_, fun w1 => ?_, fun w1 _ => ?_⟩
      · simp only [List.getElem?_map, Option.map_eq_some_iff] at hx
        obtain ⟨c, hc, rfl⟩ := hx
        refine ⟨fun _ => .int .u8 (c.toNat : Int), fun j hj => ?_, by simp [TyR]⟩
        simp only [Ty.size] at hj ⊢
        have : j = 0 := by omega
        subst this
        simp only [Nat.mul_one, Nat.add_zero, List.getElem?_map, hc, Option.map_some]
      · intro x hx; simp only [List.mem_map] at hx; obtain ⟨c, _, rfl⟩ := hx; rfl
      · simp [Builtin.lenOf]
      · have hsz : (s.data.toList.map fun c => ((c.toNat : Int))).length = s.size := by simp
        have hex : s.extract 0 s.size = s := by
          apply ByteArray.ext
          simp
        rw [hsz]
        simp only [Builtin.firstCells, Sem.run_pure, hex]
        congr 1
        apply Array.ext'
        simp
    · simp at h
  · simp at h

theorem append_core {ts : Array TypeId} {ty t0 e : TypeId} {d : TypeDesc} {inf : TypeInfo} {zv : Value} {y : Ty}
    (h0 : ts[0]? = some t0) (hu : P.underlying t0 = some (.slice e)) (h1 : (ts[1]?).bind P.underlying = some d) (hd : sliceOrStr d = true)
    (hinf : P.info? e = some inf) (hz : inf.zero = some zv) (hzs : zv.cells.size = inf.size) (hys : y.size = inf.size) (hby : inf.bytes ≤ 65536)
    {m1 : List Slot} {s : Nat} (hi : Inv K F ρ m1 w) (hfree : m1[s]? = some .free)
    {ad : Option Addr} {sLen sCap : Nat} {ls : List y.den} {olds : List Value} (hls : ls.length = sLen) (hlc : sLen ≤ sCap) (hE : Elems K w y ls olds)
    (hold : ∀ w1, w1.heap = w.heap → (Builtin.firstCells y.size sLen (.slice ad sLen sCap)).run P w1 = .ok olds.toArray w1)
    (hown : 0 < sCap → ∃ blk off cur e', ad = some ⟨blk, off, none⟩ ∧ w.heap[blk]? = some (.cells cur e' (0, 0)) ∧ off + sCap * y.size ≤ cur.size ∧ ¬ K blk ∧ ¬ F blk ∧
      (∀ b' o' L', m1[b']? = some (.obj o') → o'.own = true → ρ b' = some L' → L'.nil = false → L'.blk ≠ blk) ∧ ∀ j v, olds[j]? = some v → cur[off + j]? = some v)
    {xs : List y.den} {u : Value} {news : List Value} (hN : Elems K w y xs news) (h1c : ∀ x ∈ news, x.oneCell' = true) (hlen : ∀ w1, (Builtin.lenOf u).run P w1 = .ok xs.length w1)
    (hnew : ∀ w1, w1.heap = w.heap → (Builtin.firstCells y.size xs.length u).run P w1 = .ok news.toArray w1) (hmost : sLen + xs.length ≤ most) :
    ∃ v' w' L, (Builtin.append_ ts ty #[.slice ad sLen sCap, u]).run P w = .ok v' w' ∧ Step K F ρ w K (upd ρ s L) w' ∧
      Inv K F (upd ρ s L) (m1.set s (.obj (.rows y (ls ++ xs)))) w' ∧ VR K (upd ρ s L) w' (.tail s 0) v' := by
  have hslt : s < m1.length := (List.getElem?_eq_some_iff.1 hfree).1
  have hρ : ρ s = none := by
    cases hρ : ρ s with
    | none => rfl
    | some L' => exact absurd hfree (hi.fr s L' hρ).2
  have hsz : sizeP P e = some y.size := by simp [sizeP, hinf, hys]
  have hpos := Ty.size_pos y
  unfold most at hmost
  obtain ⟨t1, ht1, hd1⟩ := Option.bind_eq_some_iff.1 h1
  have hd' : (∃ q, d = .slice q) ∨ d = .string := by cases d <;> simp [sliceOrStr] at hd ⊢
  have hEl := hE.1
  have hNl := hN.1
  by_cases hroom : sLen + xs.length ≤ sCap
  · by_cases hc0 : 0 < sCap
    · obtain ⟨blk, off, cur, e', rfl, hheap, hfit, hnK, hnF, huniq, hcur⟩ := hown hc0
      have hfit2 : off + sLen * y.size + 0 + news.length ≤ cur.size := by
        have := Nat.mul_le_mul_right y.size hroom
        rw [Nat.add_mul] at this
        omega
      have hst := run_storeCells_at P blk (off + sLen * y.size) e' news 0 cur w hheap hfit2 h1c
      obtain ⟨c2, hc2⟩ : ∃ c2 : Array Value, c2 = (cur.toList.take (off + sLen * y.size + 0) ++ news ++ cur.toList.drop (off + sLen * y.size + 0 + news.length)).toArray := ⟨_, rfl⟩
      rw [← hc2] at hst
      have hget : ∀ x, c2[x]? = if off + sLen * y.size ≤ x ∧ x < off + sLen * y.size + news.length then news[x - (off + sLen * y.size)]? else cur[x]? := fun x => by
        have hg := splice_get cur.toList news (off + sLen * y.size) (by simpa using hfit2) x
        rw [hc2, Nat.add_zero, List.getElem?_toArray, hg]
        simp only [Array.getElem?_toList]
      have hkk : ∀ c, K c → (w.setRow blk c2).heap[c]? = w.heap[c]? := fun c hc => setRow_other _ _ _ _ fun e => hnK (e ▸ hc)
      have hc2s : c2.size = cur.size := by
        rw [hc2]
        simp only [List.size_toArray, List.length_append, List.length_take, List.length_drop, Array.length_toList] at hfit2 ⊢
        omega
      have hsame : ∀ b, b < w.heap.size → (false = true ∨ b ≠ blk) → (w.setRow blk c2).heap[b]? = w.heap[b]? := fun b _ hb => setRow_other _ _ _ _ (hb.resolve_left (by simp))
      refine ⟨.slice (some ⟨blk, off, none⟩) (sLen + xs.length) sCap, w.setRow blk c2, ⟨false, blk, off, sLen + xs.length, y.size, cur.size⟩, ?_, ?_, ?_, ?_⟩
      · simp only [Builtin.append_, h0, Sem.run_bind, run_underlying hu, Result.andThen_ok, run_sizeOf' hsz, List.getElem?_toArray, List.getElem?_cons_zero, List.getElem?_cons_succ]
        rw [ht1]
        simp only [Sem.run_bind, run_underlying hd1, Result.andThen_ok]
        rcases hd' with ⟨q, rfl⟩ | rfl <;> simp [hlen, hroom, hnew w rfl, addr_add, hst]
      · exact Step.put (L := ⟨false, blk, off, sLen + xs.length, y.size, cur.size⟩) hi (.inl hρ) (by simp) hsame (fun _ => ⟨hnK, hnF⟩) rfl rfl rfl
      · refine Inv.put (L := ⟨false, blk, off, sLen + xs.length, y.size, cur.size⟩) hi hslt (.inl hρ) rfl (by simp) hsame
          (fun _ => ⟨hnK, hnF, fun b' o' L' _ => huniq b' o' L'⟩) ?_
        refine Elems.rows ((hE.append hN).mono (fun _ x => x) hkk) (setRow_heap w blk _ c2 e' _ hheap) rfl rfl (by simp [hls]) hc2s fun j v hj => ?_
        rw [hget]
        rw [List.getElem?_append] at hj
        split at hj
        · rename_i hjo
          rw [if_neg (by rw [hEl, hls] at hjo; show ¬ (_ ≤ off + j ∧ _); omega)]
          exact hcur j v hj
        · rename_i hjo
          have hjl := (List.getElem?_eq_some_iff.1 hj).1
          rw [hEl, hls] at hjo hjl
          rw [if_pos (by show _ ≤ off + j ∧ off + j < _; omega), hEl, hls] at *
          rw [show off + j - (off + sLen * y.size) = j - sLen * y.size by omega]
          exact hj
      · refine .tail s 0 _ _ (by simp [upd]; rfl) ⟨Nat.zero_le _, some ⟨blk, off, none⟩, sCap, rfl, hroom, fun _ => ⟨rfl, by simp, ?_⟩⟩
        simpa using hfit
    · have hs0 : sCap = 0 := by omega
      subst hs0
      have hl0 : sLen = 0 := by omega
      subst hl0
      have hx0 : xs.length = 0 := by omega
      have hxs : xs = [] := List.eq_nil_of_length_eq_zero hx0
      have hls0 : ls = [] := List.eq_nil_of_length_eq_zero hls
      subst hxs
      subst hls0
      have hn0 : news = [] := List.eq_nil_of_length_eq_zero (by simpa using hNl)
      subst hn0
      have hs : ∀ b, b < w.heap.size → (true = true ∨ b ≠ 0) → w.heap[b]? = w.heap[b]? := fun _ _ _ => rfl
      refine ⟨.slice ad 0 0, w, ⟨true, 0, 0, 0, y.size, 0⟩, ?_, ?_, ?_, ?_⟩
      · simp only [Builtin.append_, h0, Sem.run_bind, run_underlying hu, Result.andThen_ok, run_sizeOf' hsz, List.getElem?_toArray, List.getElem?_cons_zero, List.getElem?_cons_succ]
        rw [ht1]
        simp only [Sem.run_bind, run_underlying hd1, Result.andThen_ok]
        have := hnew w rfl
        simp only [List.length_nil] at this
        rcases hd' with ⟨q, rfl⟩ | rfl <;> cases ad <;> simp [hlen, this, storeCells]
      · exact Step.put (L := ⟨true, 0, 0, 0, y.size, 0⟩) hi (.inl hρ) (Nat.le_refl _) hs (fun h => by simp at h) rfl rfl rfl
      · exact Inv.put (L := ⟨true, 0, 0, 0, y.size, 0⟩) hi hslt (.inl hρ) rfl (Nat.le_refl _) hs (fun h => by simp at h) ⟨rfl, rfl, fun _ => rfl, fun h => by simp at h⟩
      · exact .tail s 0 _ _ (by simp [upd]; rfl) ⟨Nat.zero_le _, ad, 0, rfl, Nat.le_refl _, fun h => by simp at h⟩
  · have hgrow : sCap < sLen + xs.length := by omega
    obtain ⟨nc, hnc⟩ : ∃ nc, nc = grownCap w (sLen + xs.length) sCap e := ⟨_, rfl⟩
    have hge : sLen + xs.length ≤ nc := by rw [hnc]; exact grownCap_ge w _ _ e
    obtain ⟨ar, har⟩ : ∃ ar, ar = olds.toArray ++ news.toArray ++ Builtin.zeroCells zv.cells (nc - (sLen + xs.length)) := ⟨_, rfl⟩
    have hfits : Builtin.nextslicecap (sLen + xs.length) sCap * inf.bytes ≤ 281474976710656 := growslice_fits hgrow (by
      have : (sLen + xs.length) * inf.bytes ≤ 1073741824 * 65536 := Nat.mul_le_mul hmost hby
      omega)
    have hars : ar.size = nc * y.size := by
      rw [har]
      simp only [Array.size_append, List.size_toArray, size_zeroCells, hzs, ← hys, hEl, hls, hNl, ← Nat.add_mul]
      congr 1
      omega
    have hsame : ∀ b, b < w.heap.size → (false = true ∨ b ≠ w.heap.size) → (w.drew.alloc (.cells ar e)).heap[b]? = w.heap[b]? := fun b hb _ => alloc_old w.drew _ hb
    have hfreeK : (false = false) → ¬ K w.heap.size ∧ ¬ F w.heap.size := fun _ => ⟨fun h => absurd (hi.kw _ h) (by omega), fun h => absurd (hi.fw _ h) (by omega)⟩
    refine ⟨.slice (some ⟨w.heap.size, 0, none⟩) (sLen + xs.length) nc, w.drew.alloc (.cells ar e), ⟨false, w.heap.size, 0, sLen + xs.length, y.size, nc * y.size⟩, ?_, ?_, ?_, ?_⟩
    · have hti := run_typeInfo' (P := P) hinf
      have hzz := run_zeroValue' (P := P) (t := e) (z := zv) (by simp [hinf, hz])
      simp only [Builtin.append_, h0, Sem.run_bind, run_underlying hu, Result.andThen_ok, run_sizeOf' hsz, List.getElem?_toArray, List.getElem?_cons_zero, List.getElem?_cons_succ]
      rw [ht1]
      simp only [Sem.run_bind, run_underlying hd1, Result.andThen_ok]
      have h63 : ¬ (9223372036854775807 < ((sLen : Int) + (xs.length : Int))) := by omega
      have h48 : ¬ (281474976710656 < Builtin.nextslicecap (sLen + xs.length) sCap * inf.bytes) := by omega
      have ho := hold w.drew rfl
      have hn := hnew w.drew rfl
      rw [har, hnc]
      rcases hd' with ⟨q, rfl⟩ | rfl <;> simp [hlen, show ¬ (sLen + xs.length ≤ sCap) by omega, h63, hti, h48, hzz, Question.forced, ho, hn, newRow, grownCap]
      all_goals rw [← List.append_toArray, Array.append_assoc]
    · exact Step.put (w' := w.drew.alloc (.cells ar e)) (L := ⟨false, w.heap.size, 0, sLen + xs.length, y.size, nc * y.size⟩) hi (.inl hρ) (by simp) hsame hfreeK rfl rfl rfl
    · refine Inv.put (w' := w.drew.alloc (.cells ar e)) (L := ⟨false, w.heap.size, 0, sLen + xs.length, y.size, nc * y.size⟩) hi hslt (.inl hρ) rfl (by simp) hsame
        (fun hh => ⟨(hfreeK hh).1, (hfreeK hh).2, fun b' o' L' _ hm' ho' hL' hn' he' => by
          obtain ⟨L2, q1, q2, _⟩ := hi.ob b' o' hm'
          rw [hL'] at q1
          obtain rfl := Option.some.inj q1
          have := q2.lt hn'
          simp only at he'
          omega⟩) ?_
      refine Elems.rows (w := w.drew.alloc (.cells ar e)) ((hE.append hN).mono (fun _ x => x) (fun b hb => by have := alloc_old w.drew (.cells ar e) (b := b) (hi.kw b hb); exact this)) (heap_alloc' w.drew _) rfl rfl (by simp [hls]) hars fun j v hj => ?_
      rw [har, Nat.zero_add, ← Array.getElem?_toList]
      simp only [Array.toList_append]
      rw [List.getElem?_append_left (List.getElem?_eq_some_iff.1 hj).1]
      exact hj
    · refine .tail s 0 _ _ (by simp [upd]; rfl) ⟨Nat.zero_le _, some ⟨w.heap.size, 0, none⟩, nc, rfl, hge, fun _ => ⟨rfl, by simp, by simp⟩⟩

theorem appendA_sound {s : Nat} {ts : Array TypeId} {ty : TypeId} {x0 x1 : Operand} (hi : Inv K F ρ m w) (he : EnvR K ρ w env a.tmps) (h : appendA P s m env ts x0 x1 = some r) (hok : r.ok = true) :
    Done P K F ρ m w r ((do pure (.value (← Builtin.append_ ts ty #[a.eval x0, a.eval x1])) : Sem Next).run P w) := by
  unfold appendA at h
  split at h
  · simp at h
  · rename_i e hE
    obtain ⟨t0, h0, hE⟩ := Option.bind_eq_some_iff.1 hE
    have hu := elemP_some hE
    split at h
    · rename_i y inf d z hy hinf hd hz
      split at h
      · rename_i hc
        obtain ⟨hys, hby, hzl, hdk⟩ := hc
        obtain ⟨zv, hz1, hz2⟩ := zeroA_some hz
        obtain ⟨i', hz3, hz4⟩ := Option.bind_eq_some_iff.1 hz1
        rw [hinf] at hz3
        obtain rfl := Option.some.inj hz3
        have hzv := VR.cells (K := K) (ρ := ρ) (w := w) (fixT_vr P e (cstC_vr zv)) hz2
        have hzs : zv.cells.size = inf.size := by have := hzv.length; simp at this; omega
        split at h
        · simp at h
        · rename_i xs rd hxs
          obtain ⟨news, hN, h1c, hlen, hnew⟩ := elemsOf_sound (P := P) hi (ev_vr he x1) hxs
          have hx := ev_vr he x0
          have nilcase : ∀ ad, a.eval x0 = .slice ad 0 0 → newA s m (.tail s 0) (.rows y xs) (decide (xs.length ≤ most)) [] rd = some r →
              Done P K F ρ m w r ((do pure (.value (← Builtin.append_ ts ty #[a.eval x0, a.eval x1])) : Sem Next).run P w) := fun ad hax h => by
            obtain ⟨hfree, hr⟩ := newA_free h
            rw [hr] at hok
            simp only [decide_eq_true_eq] at hok
            have hE0 : Elems K w y ([] : List y.den) [] := ⟨by simp, fun i x hx => by simp at hx⟩
            obtain ⟨v', w', L, k1, k2, k3, k4⟩ := append_core (P := P) (ty := ty) (ad := ad) (sLen := 0) (sCap := 0) h0 hu hd hdk hinf hz4 hzs hys hby hi hfree (ls := []) (olds := []) rfl (Nat.le_refl _) hE0
              (fun w1 _ => by cases ad <;> simp [Builtin.firstCells, loadCells, loadCellsFrom]) (fun h => by omega) hN h1c hlen hnew (by simpa using hok)
            refine ⟨v', w', K, _, .inl ?_, k2, by rw [hr]; simpa [writeM] using k3, by rw [hr]; exact k4⟩
            rw [hax]
            simp [k1]
          split at h
          · rename_i hb
            rw [hb] at hx
            cases hax : a.eval x0 <;> rw [hax] at hx <;> cases hx
            rw [← hax]
            exact nilcase _ hax h
          · rename_i hb
            rw [hb] at hx
            cases hax : a.eval x0 <;> rw [hax] at hx <;> cases hx
            rw [← hax]
            exact nilcase _ hax h
          · rename_i b i hb
            rw [hb] at hx
            split at h
            · rename_i z' l hm
              split at h
              · rename_i hzy
                subst hzy
                have hm' := getObj?_some hm
                obtain ⟨L, hL, hR, hfr⟩ := hi.ob b _ hm'
                have hR' : RowsR K w L z' l := hR
                cases hx with
                | tail _ _ L' v hL' hT =>
                  rw [hL] at hL'
                  obtain rfl := Option.some.inj hL'
                  obtain ⟨t1, ad, c, t2, t3, t4⟩ := hT
                  have hLl : L.len = l.length := hR'.2.1
                  have main : ∀ (ok : Bool), newA s m (.tail s 0) (.rows z' (l.drop i ++ xs)) ok [(b, .dead)] (b :: rd) = some r → l.length - i + xs.length ≤ most →
                      Done P K F ρ m w r ((do pure (.value (← Builtin.append_ ts ty #[a.eval x0, a.eval x1])) : Sem Next).run P w) := fun ok h hmost => by
                    obtain ⟨hfree, hr⟩ := newA_free h
                    have hsb : s ≠ b := fun e => by subst e; rw [hm'] at hfree; simp at hfree
                    have i1 := hi.kill b
                    have hfree1 : (m.set b .dead)[s]? = some .free := by rw [List.getElem?_set_ne (Ne.symm hsb)]; exact hfree
                    have hread := hR'.read i
                    have hE1 := hread.elems
                    obtain ⟨v', w', L2, k1, k2, k3, k4⟩ := append_core (P := P) (ty := ty) (ad := ad) (sLen := L.len - i) (sCap := c) h0 hu hd hdk hinf hz4 hzs hys hby i1 hfree1 (ls := l.drop i)
                      (by rw [List.length_drop, hLl]) t3 hE1
                      (fun w1 hw1 => by
                        by_cases hc : 0 < c
                        · obtain ⟨u1, u2, u3⟩ := t4 hc
                          rw [u2]
                          refine run_firstCells_some w1 _ _ _ _ _ _ (by simp [cellsL, hLl]) fun j v hj => ?_
                          rw [addr_add]
                          have := hread.cells j v hj
                          simpa [World.cell?, hw1] using this
                        · have h00 : L.len - i = 0 := by omega
                          have h01 : (l.drop i).length = 0 := by rw [List.length_drop]; omega
                          rw [h00, h01]
                          cases ad <;> simp [Builtin.firstCells, loadCells, loadCellsFrom, cellsL])
                      (fun hc => by
                        obtain ⟨u1, u2, u3⟩ := t4 hc
                        obtain ⟨cur, e', v1, v2, v3⟩ := hR'.2.2.2 u1
                        obtain ⟨f1, f2⟩ := hfr rfl u1
                        refine ⟨L.blk, L.off + i * L.sz, cur, e', u2, v1, by rw [v2]; rw [Nat.add_mul, hR'.1] at u3; rw [hR'.1]; omega, f1, f2, fun b' o' L' hb' ho' hL' hn' he' => ?_, fun j v hj => ?_⟩
                        · by_cases hbb : b' = b
                          · subst hbb
                            simp [(List.getElem?_eq_some_iff.1 hm').1] at hb'
                          · rw [List.getElem?_set_ne (Ne.symm hbb)] at hb'
                            exact hbb (hi.inj b' b o' _ L' L hb' hm' ho' rfl hL' hL hn' u1 he')
                        · have := hread.cells j v hj
                          simpa [World.cell?, v1] using this)
                      hN h1c hlen hnew (by rw [hLl]; exact hmost)
                    refine ⟨v', w', K, _, .inl ?_, k2, by rw [hr]; simpa [writeM] using k3, by rw [hr]; exact k4⟩
                    rw [t2]
                    simp [k1]
                  split at h
                  · rename_i hi0
                    subst hi0
                    have hh := (newA_free h).2
                    rw [hh] at hok
                    simp only [decide_eq_true_eq] at hok
                    exact main _ (by simpa using h) (by simpa using hok)
                  · have hh := (newA_free h).2
                    rw [hh] at hok
                    simp only [Bool.and_eq_true, decide_eq_true_eq] at hok
                    exact main _ h hok.2
              · simp at h
            · simp at h
          · simp at h
      · simp at h
    · simp at h
end
end Go.Ab
