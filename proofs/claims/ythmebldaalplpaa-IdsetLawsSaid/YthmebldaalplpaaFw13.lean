/- The framework, part 13: all operations together; a call's target. -/
import Derived.Test.YthmebldaalplpaaFw12
namespace Go.Ab
set_option linter.unusedVariables false

section
variable {P : Program} {K F : Nat → Prop} {ρ : Locs} {m : List Slot} {w w' : World} {env : List AV} {a : Act} {r : Res}

theorem args_two {as : Array Operand} {x y : Operand} (h : as.toList = [x, y]) : as = #[x, y] := by
  apply Array.ext'; simpa using h
theorem args_one {α : Type} {as : Array α} {x : α} (h : as.toList = [x]) : as = #[x] := by
  apply Array.ext'; simpa using h

theorem builtinA_sound {s : Nat} {o : Oper} {c : Call} (hi : Inv K F ρ m w) (he : EnvR K ρ w env a.tmps) (ho : o.op = .call c) (h : builtinA P s m env o c = some r) (hok : r.ok = true) :
    Done P K F ρ m w r ((execOp a.eval o).run P w) := by
  have sc : scalarOp P env o = some r → Done P K F ρ m w r ((execOp a.eval o).run P w) := fun h => scalarOp_sound hi he (fun cs b => by rw [ho]; simp) h
  obtain ⟨callee, args, ts⟩ := c
  unfold builtinA at h
  simp only at h
  split at h
  · rename_i b hb
    split at h
    · unfold appendOp at h
      simp only at h
      split at h
      · rename_i x0 x1 hargs
        have hargs := args_two hargs
        subst hargs
        have := appendA_sound (P := P) (ty := o.type) hi he h hok
        simpa [execOp, ho, resolve, invoke, builtin] using this
      · simp at h
    · unfold lenOp at h
      simp only at h
      split at h
      · rename_i x t hargs hts
        have hargs := args_one hargs
        have hts := args_one hts
        subst hargs
        subst hts
        split at h
        · exact sc h
        · have := lenOpA_sound (P := P) (ty := o.type) hi he h
          simpa [execOp, ho, resolve, invoke, builtin] using this
      · simp at h
    all_goals first | exact sc h | simp at h
  · simp at h

theorem aop_sound {s : Nat} {o : Oper} (hi : Inv K F ρ m w) (he : EnvR K ρ w env a.tmps) (h : aop P s m env o = some r) (hok : r.ok = true) :
    Done P K F ρ m w r ((execOp a.eval o).run P w) := by
  have sc : (∀ cs b, o.op ≠ .select cs b) → scalarOp P env o = some r → Done P K F ρ m w r ((execOp a.eval o).run P w) := fun hs h => scalarOp_sound hi he hs h
  unfold aop at h
  split at h
  · rename_i x ho; simp only [execOp, ho]; exact moveA_sound hi he h
  · rename_i x ho; simp only [execOp, ho]; exact moveA_sound hi he h
  · rename_i c x y ho; simp only [execOp, ho]; exact pickA_sound hi he h
  · rename_i t ho; simp only [execOp, ho]; exact allocA_sound hi h
  · rename_i t x ho; simp only [execOp, ho]; exact boxA_sound hi he h
  · rename_i t ps ho; simp only [execOp, ho]; exact buildA_sound hi he h
  · rename_i t n ps ho; simp only [execOp, ho]; exact buildSliceA_sound hi he h
  · rename_i t x ho; simp only [execOp, ho]; exact loadA_sound hi he h
  · rename_i t x v ho; simp only [execOp, ho]; exact storeA_sound hi he h
  · rename_i x ho; exact nilCheckA_sound hi he h ho
  · rename_i f as cs ho; simp only [execOp, ho]; exact makeFuncA_sound hi he h
  · rename_i t l c ho; simp only [execOp, ho]; exact makeSliceA_sound hi he h hok
  · rename_i t x lo hi' mx ho
    split at h
    · exact sc (fun cs b => by rw [ho]; simp) h
    · simp only [execOp, ho]; exact sliceA_sound hi he h hok
  · rename_i t x f ho; simp only [execOp, ho]; exact fieldAddrA_sound hi he h
  · rename_i t x f ho; simp only [execOp, ho]; exact fieldA_sound hi he h
  · rename_i t x i ho; simp only [execOp, ho]; exact indexAddrA_sound hi he h hok
  · rename_i x i ho; simp only [execOp, ho]; exact extractA_sound hi he h
  · rename_i c ho; exact builtinA_sound hi he ho h hok
  all_goals first
    | (rename_i ho; exact sc (fun cs b => by rw [ho]; simp) h)
    | (rename_i _ ho; exact sc (fun cs b => by rw [ho]; simp) h)
    | (rename_i _ _ ho; exact sc (fun cs b => by rw [ho]; simp) h)
    | (rename_i _ _ _ ho; exact sc (fun cs b => by rw [ho]; simp) h)
    | (rename_i _ _ _ _ ho; exact sc (fun cs b => by rw [ho]; simp) h)
    | (rename_i _ _ _ _ _ ho; exact sc (fun cs b => by rw [ho]; simp) h)
    | simp at h
end
end Go.Ab
