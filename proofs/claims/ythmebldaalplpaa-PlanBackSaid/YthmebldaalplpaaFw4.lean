/- The framework, part 4: what abstract values and an abstract memory say of Go's values and memory; first laws. -/
import Derived.Test.YthmebldaalplpaaFw3
import Derived.Laws.Cells
import Derived.Laws.AppendOwn
namespace Go.Ab
set_option linter.unusedVariables false

structure Loc where
  nil : Bool
  blk : Nat
  off : Nat
  len : Nat
  sz : Nat
  bsz : Nat

abbrev Locs := Nat → Option Loc

/-- The cells g are plain data x of type t; what they lead to lies in blocks of K. -/
def TyR (K : Nat → Prop) (w : World) : (t : Ty) → t.den → (Nat → Value) → Prop
  | .int k, x, f => f 0 = .int k x
  | .bool, b, f => f 0 = .bool b
  | .str, s, f => f 0 = .string s
  | .list e, l, f => ∃ a c, f 0 = .slice a (List.length l) c ∧ List.length l ≤ c ∧
      ∀ i x, l[i]? = some x → ∃ blk off g, a = some ⟨blk, off, none⟩ ∧ K blk ∧
        (∀ j, j < e.size → w.cell? ⟨blk, off + (i * e.size + j), none⟩ = some (g j)) ∧ TyR K w e x g
  | .pair a b, x, f => TyR K w a x.1 f ∧ TyR K w b x.2 (fun j => f (a.size + j))

def TailR (L : Loc) (i : Nat) (v : Value) : Prop :=
  i ≤ L.len ∧ ∃ a c, v = .slice a (L.len - i) c ∧ L.len - i ≤ c ∧
    (0 < c → L.nil = false ∧ a = some ⟨L.blk, L.off + i * L.sz, none⟩ ∧ L.off + (i + c) * L.sz ≤ L.bsz)

mutual
inductive VR (K : Nat → Prop) (ρ : Locs) (w : World) : AV → Value → Prop where
  | junk (v : Value) : VR K ρ w .junk v
  | bool (b : Bool) : VR K ρ w (.bool b) (.bool b)
  | int (k : IntKind) (n : Int) : VR K ρ w (.int k n) (.int k n)
  | flt (k : FloatKind) (b : Nat) : VR K ρ w (.flt k b) (.float k b)
  | cpx (k : FloatKind) (a b : Nat) : VR K ρ w (.cpx k a b) (.complex k a b)
  | str (s : ByteArray) : VR K ρ w (.str s) (.string s)
  | nilp : VR K ρ w .nilp (.pointer none)
  | nilm : VR K ρ w .nilm (.map none)
  | nilf : VR K ρ w .nilf .nilFunc
  | nili : VR K ρ w .nili .nilIface
  | nil0 (a : Option Addr) : VR K ρ w .nil0 (.slice a 0 0)
  | nils (e : Ty) (a : Option Addr) : VR K ρ w (.nils e) (.slice a 0 0)
  | ro (e : Ty) (l : List e.den) (v : Value) (h : TyR K w (.list e) l (fun _ => v)) : VR K ρ w (.ro e l) v
  | rop (t : Ty) (x : t.den) (j : Nat) (blk off : Nat) (g : Nat → Value) (hk : K blk)
      (hc : ∀ j, j < t.size → w.cell? ⟨blk, off + j, none⟩ = some (g j)) (h : TyR K w t x g) : VR K ρ w (.rop t x j) (.pointer (some ⟨blk, off + j, none⟩))
  | ptr (b j : Nat) (L : Loc) (h : ρ b = some L) : VR K ρ w (.ptr b j) (.pointer (some ⟨L.blk, L.off + j, none⟩))
  | eptr (b i j : Nat) (L : Loc) (h : ρ b = some L) (hlt : i < L.len) : VR K ρ w (.eptr b i j) (.pointer (some ⟨L.blk, L.off + (i * L.sz + j), none⟩))
  | tail (b i : Nat) (L : Loc) (v : Value) (h : ρ b = some L) (ht : TailR L i v) : VR K ρ w (.tail b i) v
  | bsl (b n c : Nat) (L : Loc) (h : ρ b = some L) (hc : n ≤ c) : VR K ρ w (.bsl b n) (.slice (some ⟨L.blk, L.off, none⟩) n c)
  | fn (f : Fn) (a c : List AV) (as cs : List Value) (ha : VRL K ρ w a as) (hc : VRL K ρ w c cs) : VR K ρ w (.fn f a c) (.func f as.toArray cs.toArray)
  | ifc (t : TypeId) (a : AV) (v : Value) (h : VR K ρ w a v) : VR K ρ w (.ifc t a) (.iface t v)
  | agg (cs : List AV) (vs : List Value) (h : VRL K ρ w cs vs) : VR K ρ w (.agg cs) (.agg vs.toArray)
  | tup (cs : List AV) (vs : List Value) (h : VRL K ρ w cs vs) : VR K ρ w (.tup cs) (.tuple vs.toArray)
inductive VRL (K : Nat → Prop) (ρ : Locs) (w : World) : List AV → List Value → Prop where
  | nil : VRL K ρ w [] []
  | cons (a : AV) (v : Value) (as : List AV) (vs : List Value) (h : VR K ρ w a v) (t : VRL K ρ w as vs) : VRL K ρ w (a :: as) (v :: vs)
end

def AObj.own : AObj → Bool
  | .frows _ _ => false
  | _ => true

def RowsR (K : Nat → Prop) (w : World) (L : Loc) (t : Ty) (l : List t.den) : Prop :=
  L.sz = t.size ∧ L.len = List.length l ∧ (L.nil = true → l = []) ∧
    (L.nil = false → ∃ vs e, w.heap[L.blk]? = some (.cells vs e (0, 0)) ∧ vs.size = L.bsz ∧
      ∀ i x, l[i]? = some x → ∃ g, (∀ j, j < t.size → vs[L.off + (i * t.size + j)]? = some (g j)) ∧ TyR K w t x g)

def OR (K : Nat → Prop) (ρ : Locs) (w : World) (L : Loc) : AObj → Prop
  | .box cs => L.nil = false ∧ L.off = 0 ∧ ∃ vs e, w.heap[L.blk]? = some (.cells vs.toArray e (0, 0)) ∧ VRL K ρ w cs vs
  | .rows t l => RowsR K w L t l
  | .frows t l => RowsR K w L t l ∧ (L.nil = false → K L.blk)

structure Inv (K F : Nat → Prop) (ρ : Locs) (m : List Slot) (w : World) : Prop where
  kw : ∀ b, K b → b < w.heap.size
  fw : ∀ b, F b → b < w.heap.size
  dis : ∀ b, K b → ¬ F b
  ob : ∀ b o, m[b]? = some (.obj o) → ∃ L, ρ b = some L ∧ OR K ρ w L o ∧ (o.own = true → L.nil = false → ¬ K L.blk ∧ ¬ F L.blk)
  inj : ∀ b b' o o' L L', m[b]? = some (.obj o) → m[b']? = some (.obj o') → o.own = true → o'.own = true → ρ b = some L → ρ b' = some L' →
    L.nil = false → L'.nil = false → L.blk = L'.blk → b = b'
  fr : ∀ b L, ρ b = some L → b < m.length ∧ m[b]? ≠ some .free

structure Step (K F : Nat → Prop) (ρ : Locs) (w : World) (K' : Nat → Prop) (ρ' : Locs) (w' : World) : Prop where
  sub : ∀ b, K b → K' b
  keepK : ∀ b, K b → w'.heap[b]? = w.heap[b]?
  keepF : ∀ b, F b → w'.heap[b]? = w.heap[b]?
  loc : ∀ b L, ρ b = some L → ρ' b = some L
  size : w.heap.size ≤ w'.heap.size
  os : w'.os = w.os
  tape : w'.tape = w.tape
  output : w'.output = w.output

theorem Step.refl (K F : Nat → Prop) (ρ : Locs) (w : World) : Step K F ρ w K ρ w :=
  ⟨fun _ h => h, fun _ _ => rfl, fun _ _ => rfl, fun _ _ h => h, Nat.le_refl _, rfl, rfl, rfl⟩

theorem Step.trans {K F : Nat → Prop} {ρ : Locs} {w : World} {K1 : Nat → Prop} {ρ1 : Locs} {w1 : World} {K2 : Nat → Prop} {ρ2 : Locs} {w2 : World}
    (a : Step K F ρ w K1 ρ1 w1) (b : Step K1 F ρ1 w1 K2 ρ2 w2) : Step K F ρ w K2 ρ2 w2 :=
  ⟨fun x h => b.sub x (a.sub x h), fun x h => (b.keepK x (a.sub x h)).trans (a.keepK x h), fun x h => (b.keepF x h).trans (a.keepF x h),
    fun x L h => b.loc x L (a.loc x L h), Nat.le_trans a.size b.size, b.os.trans a.os, b.tape.trans a.tape, b.output.trans a.output⟩

theorem Ty.size_pos (t : Ty) : 0 < t.size := by
  induction t with
  | pair a b ha hb => simp only [Ty.size]; omega
  | _ => simp [Ty.size]

theorem cell?_same {w w' : World} {b o : Nat} (h : w'.heap[b]? = w.heap[b]?) : w'.cell? ⟨b, o, none⟩ = w.cell? ⟨b, o, none⟩ := by
  simp [World.cell?, h]

theorem TyR.mono {K K' : Nat → Prop} {w w' : World} (hs : ∀ b, K b → K' b) (hk : ∀ b, K b → w'.heap[b]? = w.heap[b]?) :
    ∀ (t : Ty) (x : t.den) (f : Nat → Value), TyR K w t x f → TyR K' w' t x f := by
  intro t
  induction t with
  | int k => intro x f h; exact h
  | bool => intro x f h; exact h
  | str => intro x f h; exact h
  | list e ih =>
    intro l f h
    obtain ⟨a, c, h1, h2, h3⟩ := h
    refine ⟨a, c, h1, h2, fun i x hi => ?_⟩
    obtain ⟨blk, off, g, e1, e2, e3, e4⟩ := h3 i x hi
    exact ⟨blk, off, g, e1, hs _ e2, fun j hj => (cell?_same (hk _ e2)).trans (e3 j hj), ih _ _ e4⟩
  | pair a b iha ihb =>
    intro x f h
    exact ⟨iha _ _ h.1, ihb _ _ h.2⟩

mutual
theorem VR.mono {K K' : Nat → Prop} {ρ ρ' : Locs} {w w' : World} (hs : ∀ b, K b → K' b) (hk : ∀ b, K b → w'.heap[b]? = w.heap[b]?)
    (hl : ∀ b L, ρ b = some L → ρ' b = some L) {a : AV} {v : Value} (h : VR K ρ w a v) : VR K' ρ' w' a v := by
  cases h with
  | junk => exact .junk _
  | bool => exact .bool _
  | int => exact .int _ _
  | flt => exact .flt _ _
  | cpx => exact .cpx _ _ _
  | str => exact .str _
  | nilp => exact .nilp
  | nilm => exact .nilm
  | nilf => exact .nilf
  | nili => exact .nili
  | nil0 a => exact .nil0 _
  | nils e a => exact .nils _ _
  | ro e l v h => exact .ro _ _ _ (TyR.mono hs hk _ _ _ h)
  | rop t x j blk off g hk' hc h => exact .rop _ _ _ _ _ g (hs _ hk') (fun j hj => (cell?_same (hk _ hk')).trans (hc j hj)) (TyR.mono hs hk _ _ _ h)
  | ptr b j L h => exact .ptr _ _ _ (hl _ _ h)
  | eptr b i j L h hlt => exact .eptr _ _ _ _ (hl _ _ h) hlt
  | tail b i L v h ht => exact .tail _ _ L _ (hl _ _ h) ht
  | bsl b n c L h hc => exact .bsl _ _ _ _ (hl _ _ h) hc
  | fn f a c as cs ha hc => exact .fn _ _ _ _ _ (VRL.mono hs hk hl ha) (VRL.mono hs hk hl hc)
  | ifc t a v h => exact .ifc _ _ _ (VR.mono hs hk hl h)
  | agg cs vs h => exact .agg _ _ (VRL.mono hs hk hl h)
  | tup cs vs h => exact .tup _ _ (VRL.mono hs hk hl h)
theorem VRL.mono {K K' : Nat → Prop} {ρ ρ' : Locs} {w w' : World} (hs : ∀ b, K b → K' b) (hk : ∀ b, K b → w'.heap[b]? = w.heap[b]?)
    (hl : ∀ b L, ρ b = some L → ρ' b = some L) {a : List AV} {v : List Value} (h : VRL K ρ w a v) : VRL K' ρ' w' a v := by
  cases h with
  | nil => exact .nil
  | cons a v as vs h t => exact .cons _ _ _ _ (VR.mono hs hk hl h) (VRL.mono hs hk hl t)
end

theorem Step.vr {K F : Nat → Prop} {ρ : Locs} {w : World} {K1 : Nat → Prop} {ρ1 : Locs} {w1 : World} (s : Step K F ρ w K1 ρ1 w1) {a : AV} {v : Value}
    (h : VR K ρ w a v) : VR K1 ρ1 w1 a v := VR.mono s.sub s.keepK s.loc h
theorem Step.vrl {K F : Nat → Prop} {ρ : Locs} {w : World} {K1 : Nat → Prop} {ρ1 : Locs} {w1 : World} (s : Step K F ρ w K1 ρ1 w1) {a : List AV} {v : List Value}
    (h : VRL K ρ w a v) : VRL K1 ρ1 w1 a v := VRL.mono s.sub s.keepK s.loc h

/-! ### lists of values -/
section
variable {K : Nat → Prop} {ρ : Locs} {w : World}

theorem VRL.length {a : List AV} {v : List Value} (h : VRL K ρ w a v) : a.length = v.length := by
  induction a generalizing v with
  | nil => cases h; rfl
  | cons x xs ih => cases h with | cons _ _ _ _ h t => simp [ih t]

theorem VRL.get {a : List AV} {v : List Value} (h : VRL K ρ w a v) (i : Nat) (hi : i < v.length) : VR K ρ w (a.getD i .junk) (v.getD i undef) := by
  induction a generalizing v i with
  | nil => cases h; simp at hi
  | cons x xs ih =>
    cases h with
    | cons _ u _ us h t =>
      cases i with
      | zero => simpa using h
      | succ i => simpa using ih t i (by simpa using hi)

theorem VRL.append {a b : List AV} {v u : List Value} (h : VRL K ρ w a v) (h' : VRL K ρ w b u) : VRL K ρ w (a ++ b) (v ++ u) := by
  induction a generalizing v with
  | nil => cases h; exact h'
  | cons x xs ih => cases h with | cons _ _ _ _ h t => exact .cons _ _ _ _ h (ih t)

theorem VRL.take {a : List AV} {v : List Value} (h : VRL K ρ w a v) (n : Nat) : VRL K ρ w (a.take n) (v.take n) := by
  induction a generalizing v n with
  | nil => cases h; simp; exact .nil
  | cons x xs ih =>
    cases h with
    | cons _ _ _ _ h t =>
      cases n with
      | zero => exact .nil
      | succ n => exact .cons _ _ _ _ h (ih t n)

theorem VRL.drop {a : List AV} {v : List Value} (h : VRL K ρ w a v) (n : Nat) : VRL K ρ w (a.drop n) (v.drop n) := by
  induction a generalizing v n with
  | nil => cases h; simp; exact .nil
  | cons x xs ih =>
    cases h with
    | cons _ _ _ _ h t =>
      cases n with
      | zero => exact .cons _ _ _ _ h t
      | succ n => exact ih t n

theorem VRL.replicate {a : AV} {v : Value} (h : VR K ρ w a v) (n : Nat) : VRL K ρ w (List.replicate n a) (List.replicate n v) := by
  induction n with
  | zero => exact .nil
  | succ n ih => exact .cons _ _ _ _ h ih

theorem VRL.set {a : List AV} {v : List Value} (h : VRL K ρ w a v) (i : Nat) {x : AV} {u : Value} (hx : VR K ρ w x u) : VRL K ρ w (a.set i x) (v.set i u) := by
  induction a generalizing v i with
  | nil => cases h; exact .nil
  | cons y ys ih =>
    cases h with
    | cons _ _ _ _ h t =>
      cases i with
      | zero => exact .cons _ _ _ _ hx t
      | succ i => exact .cons _ _ _ _ h (ih t i)

theorem VRL.map {α : Type} {f : α → AV} {g : α → Value} (l : List α) (h : ∀ x ∈ l, VR K ρ w (f x) (g x)) : VRL K ρ w (l.map f) (l.map g) := by
  induction l with
  | nil => exact .nil
  | cons x xs ih => exact .cons _ _ _ _ (h x (by simp)) (ih fun y hy => h y (by simp [hy]))

/-! ### plain data as cells -/
theorem enc_length (t : Ty) (x : t.den) : (t.enc x).length = t.size := by
  induction t with
  | pair a b iha ihb => simp [Ty.enc, Ty.size, iha, ihb]
  | _ => simp [Ty.enc, Ty.size]

theorem TyR.enc {t : Ty} {x : t.den} {g : Nat → Value} (h : TyR K w t x g) : VRL K ρ w (t.enc x) ((List.range t.size).map g) := by
  induction t generalizing g with
  | int k => simp only [TyR] at h; simp [Ty.enc, Ty.size, List.range_succ, h]; exact .cons _ _ _ _ (.int _ _) .nil
  | bool => simp only [TyR] at h; simp [Ty.enc, Ty.size, List.range_succ, h]; exact .cons _ _ _ _ (.bool _) .nil
  | str => simp only [TyR] at h; simp [Ty.enc, Ty.size, List.range_succ, h]; exact .cons _ _ _ _ (.str _) .nil
  | list e ih =>
    simp only [Ty.enc, Ty.size, List.range_succ, List.range_zero, List.nil_append, List.map_cons, List.map_nil]
    refine .cons _ _ _ _ (.ro _ _ _ ?_) .nil
    simpa [TyR] using h
  | pair a b iha ihb =>
    simp only [Ty.enc, Ty.size]
    rw [List.range_add, List.map_append, List.map_map]
    exact (iha h.1).append (ihb h.2)

theorem TyR.congr {t : Ty} {x : t.den} {f g : Nat → Value} (hfg : ∀ j, j < t.size → f j = g j) (h : TyR K w t x f) : TyR K w t x g := by
  induction t generalizing f g with
  | int k => simp only [TyR] at h ⊢; rw [← hfg 0 (by simp [Ty.size])]; exact h
  | bool => simp only [TyR] at h ⊢; rw [← hfg 0 (by simp [Ty.size])]; exact h
  | str => simp only [TyR] at h ⊢; rw [← hfg 0 (by simp [Ty.size])]; exact h
  | list e ih => simp only [TyR] at h ⊢; rw [← hfg 0 (by simp [Ty.size])]; exact h
  | pair a b iha ihb =>
    simp only [Ty.size] at hfg
    exact ⟨iha (fun j hj => hfg j (by omega)) h.1, ihb (fun j hj => hfg _ (by omega)) h.2⟩

theorem decInt_some {k : IntKind} {cs : List AV} {x : Int} (h : decInt k cs = some x) : cs = [.int k x] := by
  unfold decInt at h
  split at h
  · rename_i k' y
    split at h
    · rename_i e; subst e; simp at h; rw [h]
    · simp at h
  · simp at h
theorem decBool_some {cs : List AV} {x : Bool} (h : decBool cs = some x) : cs = [.bool x] := by
  unfold decBool at h
  split at h
  · simp at h; rw [h]
  · simp at h
theorem decStr_some {cs : List AV} {x : ByteArray} (h : decStr cs = some x) : cs = [.str x] := by
  unfold decStr at h
  split at h
  · simp at h; rw [h]
  · simp at h
theorem decList_some {e : Ty} {cs : List AV} {x : List e.den} (h : decList e cs = some x) : cs = [.ro e x] ∨ ((∃ y, cs = [.nils y]) ∨ cs = [.nil0]) ∧ x = [] := by
  unfold decList at h
  split at h
  · rename_i e' l
    split at h
    · rename_i he; subst he; simp at h; rw [h]; exact .inl rfl
    · simp at h
  · simp at h; exact .inr ⟨.inl ⟨_, rfl⟩, h⟩
  · simp at h; exact .inr ⟨.inr rfl, h⟩
  · simp at h

theorem dec_length : ∀ {t : Ty} {cs : List AV} {x : t.den}, t.dec cs = some x → cs.length = t.size := by
  intro t
  induction t with
  | int k => intro cs x h; rw [decInt_some h]; rfl
  | bool => intro cs x h; rw [decBool_some h]; rfl
  | str => intro cs x h; rw [decStr_some h]; rfl
  | list e => intro cs x h; rcases decList_some h with h | ⟨⟨y, h⟩ | h, _⟩ <;> rw [h] <;> rfl
  | pair a b iha ihb =>
    intro cs x h
    simp only [Ty.dec] at h
    split at h
    · rename_i y z hy hz
      have h1 := iha hy
      have h2 := ihb hz
      simp only [List.length_take, List.length_drop] at h1 h2
      have := Ty.size_pos b
      simp only [Ty.size]
      omega
    · simp at h

theorem TyR.nil (e : Ty) (a : Option Addr) (f : Nat → Value) (h : f 0 = .slice a 0 0) : TyR K w (.list e) ([] : List e.den) f :=
  ⟨a, 0, by simpa using h, by simp, fun i x hi => by simp at hi⟩

theorem TyR.dec {t : Ty} {cs : List AV} {vs : List Value} {x : t.den} (h : t.dec cs = some x) (hv : VRL K ρ w cs vs) : TyR K w t x (fun j => vs.getD j undef) := by
  induction t generalizing cs vs with
  | int k =>
    rw [decInt_some h] at hv
    cases hv with | cons _ _ _ _ h0 t0 => cases h0; simp [TyR]
  | bool =>
    rw [decBool_some h] at hv
    cases hv with | cons _ _ _ _ h0 t0 => cases h0; simp [TyR]
  | str =>
    rw [decStr_some h] at hv
    cases hv with | cons _ _ _ _ h0 t0 => cases h0; simp [TyR]
  | list e ih =>
    rcases decList_some h with h | ⟨⟨y, h⟩ | h, hx⟩ <;> rw [h] at hv
    · cases hv with | cons _ _ _ _ h0 t0 => cases h0 with | ro _ _ _ h1 => simpa [TyR] using h1
    · cases hv with | cons _ _ _ _ h0 t0 => cases h0 with | nils _ a => rw [hx]; exact TyR.nil e a _ (by simp)
    · cases hv with | cons _ _ _ _ h0 t0 => cases h0 with | nil0 a => rw [hx]; exact TyR.nil e a _ (by simp)
  | pair a b iha ihb =>
    simp only [Ty.dec] at h
    split at h
    · rename_i y z hy hz
      simp at h
      subst h
      have h1 := iha hy (hv.take _)
      have h2 := ihb hz (hv.drop _)
      refine ⟨h1.congr fun j hj => ?_, h2.congr fun j hj => ?_⟩
      · simp [List.getD, hj]
      · simp [List.getD, List.getElem?_drop]
    · simp at h
end

end Go.Ab
