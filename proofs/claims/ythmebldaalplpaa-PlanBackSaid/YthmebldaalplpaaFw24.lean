/- The framework, part 24: a function's inner places (a loop's head, a label), for equations that the kernel checks by computing. -/
import Derived.Test.YthmebldaalplpaaFw23
namespace Go.Ab
set_option linter.unusedVariables false

/-- The code at a place, and what is to be done behind it. p: the road to it; ms: how many rounds are left to the loops and scopes about it. -/
def ctxK (P : Program) (hn : Hints) (again : Code → LC → St → Cont → Ans) (call : Callf) (n : Nat) : Code → LC → List Nat → List Nat → Cont → Option (Code × LC × Cont)
  | c, l, [], _, k => some (c, l, k)
  | .seq a b, c, 0 :: p, ms, k => ctxK P hn again call n a { c with nrm := liveC b c } p ms fun e σ' => match e with
    | .normal => runC P hn again call n b c σ' k
    | e => k e σ'
  | .seq _ b, c, _ :: p, ms, k => ctxK P hn again call n b c p ms k
  | .cond _ t e, c, i :: p, ms, k => match i with
    | 0 => ctxK P hn again call n t c p ms k
    | _ => ctxK P hn again call n e c p ms k
  | .block i b, c, _ :: p, ms, k => ctxK P hn again call n b { c with ex := (i, c.nrm) :: c.ex } p ms fun e σ' => match e with
    | .exit j => if j = i then k .normal σ' else k e σ'
    | e => k e σ'
  | .loop b, c, _ :: p, m :: ms, k =>
    let keep := liveC (.loop b) c
    ctxK P hn again call n b { c with nrm := keep } p ms fun e σ' => match e with
    | .normal => iterK (runC P hn again call n b { c with nrm := keep }) c.pin keep m (norm c.pin keep σ') k
    | e => k e σ'
  | .scope b, c, _ :: p, m :: ms, k =>
    let c' := { c with gt := labL b c ++ c.gt }
    ctxK P hn again call n b c' p ms (jumpK (fun d => again d c') b c.pin c'.gt m k)
  | _, _, _, _, _ => none

def placeF (P : Program) (hn : Hints) (call : Callf) (n : Nat) (f : FuncId) (m0 : Nat) (p ms : List Nat) : Option (Code × LC × Cont) :=
  match fnOf P f with
  | none => none
  | some fn =>
    match fn.body with
    | none => none
    | some b => ctxK P hn (run P hn call n 2) call n b ⟨m0, resBits fn, [], [], resBits fn⟩ p ms (finK P fn m0 retK)

/-- At the head of the loop at p, m rounds left. m0: how many slots were handed in. -/
def loopF (P : Program) (hn : Hints) (call : Callf) (n : Nat) (f : FuncId) (m0 : Nat) (p ms : List Nat) (m : Nat) (σ : St) : Ans :=
  match placeF P hn call n f m0 p ms with
  | some (.loop b, c, k) => iterK (runC P hn (run P hn call n 2) call n b { c with nrm := liveC (.loop b) c }) c.pin (liveC (.loop b) c) m σ k
  | _ => none

/-- At the label l of the scope at p, m jumps left. -/
def labelF (P : Program) (hn : Hints) (call : Callf) (n : Nat) (f : FuncId) (m0 : Nat) (p ms : List Nat) (l : Nat) (m : Nat) (σ : St) : Ans :=
  match placeF P hn call n f m0 p ms with
  | some (.scope b, c, k) => enterK (fun d => run P hn call n 2 d { c with gt := labL b c ++ c.gt }) b c.pin (labL b c ++ c.gt) m l σ k
  | _ => none

/-- The roads to a code's loops and scopes (to look them up; no proof leans on it). -/
def roads : Code → List (List Nat)
  | .seq a b => (roads a).map (0 :: ·) ++ (roads b).map (1 :: ·)
  | .cond _ a b => (roads a).map (0 :: ·) ++ (roads b).map (1 :: ·)
  | .block _ b => (roads b).map (0 :: ·)
  | .loop b => [7] :: (roads b).map (0 :: ·)
  | .scope b => [8] :: (roads b).map (0 :: ·)
  | _ => []
end Go.Ab
