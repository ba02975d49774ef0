/- TaskWants: of rules that may be, with at most 40 aisles, a task that may be wants numbers of these aisles alone, rising, no more of them than aisles, and among them the aisles where it begins and where it ends; who has more skills, worker or unit, fits what it fitted; of rules and tasks that may not be nothing is asked. Conditions: what it reads is of bulk at most 1048576. -/
import Derived.Test.YtmclfehlflekhaaRows
import Derived.WalkKit
import Derived.ProofKit
import Derived.OpenShut
import Derived.ShutString
import Derived.ChangeOld
import Derived.Below
import Derived.JoinedCond
import Derived.Test.YtmclfehlflekhaaTaY
namespace Go.Proofs.Ytmclfehlflekhaa.taskWants
open Go.ChangeShapes Go.WideShapes Go.ChangeAt Go.RowKit Go.Ab
set_option linter.unusedVariables false

theorem own : ownKnob Try.prog.godebug = none := by kernel_rfl
theorem laidOut : laidOutB Try.prog = true := by kernel_rfl

theorem bulk_pos {H : Type} (d : DataW H) : 1 ≤ Rows.uptoBulk d := by
  cases d with
  | lit l => cases l <;> simp [Rows.uptoBulk]
  | nil => simp [Rows.uptoBulk]
  | ptr d => simp [Rows.uptoBulk]
  | slice elems spare => simp [Rows.uptoBulk]
  | agg parts => simp [Rows.uptoBulk]
  | iface t d => simp [Rows.uptoBulk]
  | map entries => simp [Rows.uptoBulk]
  | held h => simp [Rows.uptoBulk]
theorem bulk_part {H : Type} {d : DataW H} {l : List (DataW H)} (h : d ∈ l) : Rows.uptoBulk d ≤ Rows.uptoBulkAll l := by
  induction l with
  | nil => cases h
  | cons x r ih =>
    simp only [Rows.uptoBulkAll]
    cases List.mem_cons.1 h with
    | inl e => subst e; omega
    | inr e => have := ih e; omega
theorem bulk_len {H : Type} (l : List (DataW H)) : l.length ≤ Rows.uptoBulkAll l := by
  induction l with
  | nil => simp [Rows.uptoBulkAll]
  | cons x r ih => have := bulk_pos x; simp only [Rows.uptoBulkAll, List.length_cons]; omega
theorem agS_cells {W : World} {ρ : Locs} {x : Sp} {v : Value} (c : VR (Here W) ρ W (agS x) v) :
    ∃ (v8 : Value) (l : List Value), v = .agg l.toArray ∧ (l.drop 8) = [v8] ∧ ∃ a k, v8 = .slice a x.2.2.2.2.2.2.length k := by
  unfold agS at c
  cases c with
  | agg cs vs h =>
    cases h with
    | cons _ _ _ _ _ h => cases h with
    | cons _ _ _ _ _ h => cases h with
    | cons _ _ _ _ _ h => cases h with
    | cons _ _ _ _ _ h => cases h with
    | cons _ _ _ _ _ h => cases h with
    | cons _ _ _ _ _ h => cases h with
    | cons _ _ _ _ _ h => cases h with
    | cons _ _ _ _ _ h => cases h with
    | cons _ _ _ _ h8 h => cases h with
    | nil =>
      refine ⟨_, _, rfl, rfl, ?_⟩
      cases h8 with
      | ro _ _ _ hr => obtain ⟨a, k, e, _⟩ := hr; exact ⟨a, k, e⟩
/-- The bulk of a spec is no less than what it comes after is long. -/
theorem after_le {H : Type} {enc : TypeId × Value → H} {W : World} {ρ : Locs} {base : Nat} {spare : Nat → Bool} {held : Bool} {x : Sp} {v : Value} {d : DataW H} {ps : List MemPlace} (c : VR (Here W) ρ W (agS x) v)
    (h : DataW.Trod enc Try.prog W base spare held 27 v d ps) : x.2.2.2.2.2.2.length ≤ Rows.uptoBulk d := by
  obtain ⟨fuel, h⟩ := h
  obtain ⟨v8, l, rfl, h8, a, k, rfl⟩ := agS_cells c
  obtain ⟨xs, n, _, hx, hlc, hlen, hall⟩ := DataW.trod_struct Try.underlying27 h
  have h6 : DataW.trod enc Try.prog W base spare held n 25 (List.take (Try.prog.cellsOf 25) (List.drop 8 l)) = xs[6]? := hall 6 _ rfl
  have hl7 : xs.length = 7 := hlen
  have hc : Try.prog.cellsOf 25 = 1 := by kernel_rfl
  rw [hc, h8] at h6
  rw [List.getElem?_eq_getElem (by omega)] at h6
  have hd : d = .agg (xs.map (·.1)) := congrArg Prod.fst hx
  have hm : (xs[6]'(by omega)).1 ∈ xs.map (·.1) := List.mem_map.2 ⟨_, List.getElem_mem _, rfl⟩
  have hb := bulk_part hm
  rw [hd]
  simp only [Rows.uptoBulk]
  rcases DataW.trod_slice Try.underlying25 h6 with ⟨e, _⟩ | ⟨a', len, cap, elems, rest, n', _, e, e2, _, _, _, hlen', _⟩
  · simp only [List.take, List.cons.injEq, Value.slice.injEq] at e
    omega
  · simp only [List.take, List.cons.injEq, Value.slice.injEq] at e
    rw [e2] at hb
    simp only [Rows.uptoBulk] at hb
    have := bulk_len (elems.map (·.1))
    rw [List.length_map] at this
    omega

set_option maxRecDepth 100000 in
theorem lifted (os : Os) (started : os.Started) (H : Type) (enc : TypeId × Value → H) (F : Stop.Interp) :
    ReturnsInHanded {} Try.checked os 4 .any ((Rows.OpenSpec.upto Rows.taskWantsSpec).pre6 enc Try.prog Try.f4 Rows.taskWantsUptoRow.domain false) (((Rows.OpenSpec.upto Rows.taskWantsSpec).at F).post enc Try.prog Try.f4 false true false false) := by
  refine returnsInHanded_of_cond (C := Try.checked) (s := Rows.OpenSpec.upto Rows.taskWantsSpec) (k := Rows.uptoSmall) rfl own started (by kernel_rfl) Try.func4
    (OpenSpec.witness (enc := enc) (C := Try.checked) (s := Rows.OpenSpec.upto Rows.taskWantsSpec) (k := Rows.uptoSmall) rfl false ⟨#[], #[.agg #[.int .i64 0, .int .i64 0, .int .i64 0, .int .i64 0, .int .i64 0, .int .i64 0, .int .i64 0, .slice none 0 0], .agg #[.int .i64 0, .int .i64 0, .int .u64 0, .int .u64 0, .int .i64 0, .int .i64 0, .int .i64 0, .int .i64 0, .slice none 0 0], .int .u64 0, .int .u64 0, .int .u64 0], []⟩ 8 (by kernel_rfl) (by kernel_rfl) (by kernel_rfl)
      (x := ([.agg [.lit (.int .i64 0), .lit (.int .i64 0), .lit (.int .i64 0), .lit (.int .i64 0), .lit (.int .i64 0), .lit (.int .i64 0), .lit (.int .i64 0), .nil], .agg [.lit (.int .i64 0), .lit (.int .i64 0), .lit (.int .u64 0), .lit (.int .u64 0), .agg [.lit (.int .i64 0), .lit (.int .i64 0)], .agg [.lit (.int .i64 0), .lit (.int .i64 0)], .nil], .lit (.int .u64 0), .lit (.int .u64 0), .lit (.int .u64 0)], [], [])) (by kernel_rfl) rfl (by kernel_rfl)) ?_
  intro W base args ds gs before hval0 hW _ hk _
  have hval : ∀ (j : Nat) t v, Try.f4.params[j]? = some t → args[j]? = some v → Value.okWide Try.prog W .any base t v := hval0
  have hW' := hW
  obtain ⟨p, q, hA0, hV, rfl, hfz, hnd⟩ := hW
  have hA : DataW.TrodAll enc Try.prog W 0 (fun _ => true) true Try.f4.params.toList args.toList ds p := hA0
  rw [Try.params4] at hA hval
  obtain ⟨v0, vs0, d0, ds0, p0, q0, hargs, rfl, rfl, h0, r0⟩ := trodAll_cons hA
  obtain ⟨v1, vs1, d1, ds1, p1, q1, rfl, rfl, rfl, h1, r1⟩ := trodAll_cons r0
  obtain ⟨v2, vs2, d2, ds2, p2, q2, rfl, rfl, rfl, h2, r2⟩ := trodAll_cons r1
  obtain ⟨v3, vs3, d3, ds3, p3, q3, rfl, rfl, rfl, h3, r3⟩ := trodAll_cons r2
  obtain ⟨v4, vs4, d4, ds4, p4, q4, rfl, rfl, rfl, h4, r4⟩ := trodAll_cons r3
  obtain ⟨rfl, rfl, rfl⟩ := trodAll_nil r4
  obtain rfl : args = #[v0, v1, v2, v3, v4] := by cases args; simp_all
  obtain ⟨rfl, rfl⟩ := trodVars_none hV
  have lt0 : ∀ x ∈ p0, x.block < W.heap.size := by obtain ⟨m, hm⟩ := h0; exact DataW.trod_lt m _ _ _ hm
  obtain ⟨x0, c0, w0⟩ := arg_open (ρ := fun _ => none) (y := tRl) (agg := true) (by kernel_rfl) (by kernel_rfl) (by kernel_rfl) (fun _ => by kernel_rfl) (hval 0 30 v0 rfl rfl) h0
  have lt1 : ∀ x ∈ p1, x.block < W.heap.size := by obtain ⟨m, hm⟩ := h1; exact DataW.trod_lt m _ _ _ hm
  obtain ⟨x1, c1, w1⟩ := arg_open (ρ := fun _ => none) (y := tSp) (agg := true) (by kernel_rfl) (by kernel_rfl) (by kernel_rfl) (fun _ => by kernel_rfl) (hval 1 27 v1 rfl rfl) h1
  have lt2 : ∀ x ∈ p2, x.block < W.heap.size := by obtain ⟨m, hm⟩ := h2; exact DataW.trod_lt m _ _ _ hm
  obtain ⟨x2, c2, w2⟩ := arg_open (ρ := fun _ => none) (y := tU) (agg := false) (by kernel_rfl) (by kernel_rfl) (by kernel_rfl) (fun h => by cases h) (hval 2 22 v2 rfl rfl) h2
  have lt3 : ∀ x ∈ p3, x.block < W.heap.size := by obtain ⟨m, hm⟩ := h3; exact DataW.trod_lt m _ _ _ hm
  obtain ⟨x3, c3, w3⟩ := arg_open (ρ := fun _ => none) (y := tU) (agg := false) (by kernel_rfl) (by kernel_rfl) (by kernel_rfl) (fun h => by cases h) (hval 3 22 v3 rfl rfl) h3
  have lt4 : ∀ x ∈ p4, x.block < W.heap.size := by obtain ⟨m, hm⟩ := h4; exact DataW.trod_lt m _ _ _ hm
  obtain ⟨x4, c4, w4⟩ := arg_open (ρ := fun _ => none) (y := tU) (agg := false) (by kernel_rfl) (by kernel_rfl) (by kernel_rfl) (fun h => by cases h) (hval 4 22 v4 rfl rfl) h4
  have hl : x1.2.2.2.2.2.2.length < 2000000 := by
    have h := of_decide_eq_true hk
    have h' := after_le c1 h1
    simp only [List.append_nil, Rows.uptoBulkAll] at h
    omega
  clear hA0 hval0
  refine (calls_of_sound (Ta.lawWants' x0 x1 x2 x3 x4 w1 w2 w3 w4 hl) (.cons _ _ _ _ c0 (.cons _ _ _ _ c1 (.cons _ _ _ _ c2 (.cons _ _ _ _ c3 (.cons _ _ _ _ c4 .nil)))))).mono fun e W' ⟨he, bel⟩ => ?_
  subst he
  exact ⟨_, rfl, _, _, _, [], _, [], hW', trodAll_mk1 (shut_bool Try.underlying4 _), (trodAll_cons_mk (Below.trod laidOut (by kernel_rfl) (of_decide_eq_true (by kernel_rfl)) h0 bel lt0) (trodAll_cons_mk (Below.trod laidOut (by kernel_rfl) (of_decide_eq_true (by kernel_rfl)) h1 bel lt1) (trodAll_cons_mk (Below.trod laidOut (by kernel_rfl) (of_decide_eq_true (by kernel_rfl)) h2 bel lt2) (trodAll_cons_mk (Below.trod laidOut (by kernel_rfl) (of_decide_eq_true (by kernel_rfl)) h3 bel lt3) (trodAll_cons_mk (Below.trod laidOut (by kernel_rfl) (of_decide_eq_true (by kernel_rfl)) h4 bel lt4) trodAll_mk0))))), rfl, bel.frame _, fun h => by cases h⟩

theorem over : Rows.taskWantsUptoRow.holds Try.pinned (Rows.OpenSpec.upto Rows.taskWantsSpec) :=
  OpenClaim.holds_of_cond 4 Try.f4 rfl rfl rfl rfl rfl rfl rfl ⟨rfl, rfl, rfl, rfl, rfl⟩ rfl rfl rfl rfl rfl (by kernel_rfl) Try.func4 (by kernel_rfl)
    (of_decide_eq_true (by kernel_rfl)) (by unfold Func.isWrapper; first | (rw [if_pos (by decide +kernel)]; kernel_rfl) | (rw [if_neg (by decide +kernel)]; exact ⟨rfl, rfl⟩))
    (fun os started H enc _ F => lifted os started H enc F)

theorem proved : Rows.TaskWantsUptoSaid := over
#print axioms proved
end Go.Proofs.Ytmclfehlflekhaa.taskWants
