/- The framework, part 3: the interpreter of code. -/
import Derived.Test.YthmebldaalplpaaFw2
import Derived.Still
namespace Go.Ab
set_option linter.unusedVariables false

/-! ### which temporaries are still wanted (a heuristic: nothing hangs on it) -/
structure LC where
  pin : Nat
  nrm : Nat
  ex : List (Nat × Nat)
  gt : List (Nat × Nat)
  rt : Nat

def bit (t : Nat) : Nat := 1 <<< t
def minus (a b : Nat) : Nat := a ^^^ (a &&& b)
def look (l : List (Nat × Nat)) (i : Nat) : Nat := ((l.find? fun p => p.1 == i).map (·.2)).getD 0
def opdBit : Operand → Nat
  | .tmp t => bit t
  | _ => 0
def opsBits (l : List Operand) : Nat := l.foldl (fun n x => n ||| opdBit x) 0

def liveOp (ops : Array Oper) (o : Oper) (n : Nat) : Nat :=
  (minus n (match o.dst with | some d => bit d | none => 0)) ||| opsBits o.op.operands.toList |||
    (match o.guard with | some (g, _) => (match (ops[g]?).bind (·.dst) with | some d => bit d | none => 0) | none => 0)

mutual
def liveC : Code → LC → Nat
  | .skip, c => c.nrm
  | .region _ ops _, c => ops.toList.foldr (liveOp ops) c.nrm
  | .seq a b, c => liveC a { c with nrm := liveC b c }
  | .cond x t e, c => liveC t c ||| liveC e c ||| opdBit x
  | .block i b, c => liveC b { c with ex := (i, c.nrm) :: c.ex }
  | .loop b, c => liveC b { c with nrm := 0 }
  | .exit i, c => look c.ex i
  | .goto l, c => look c.gt l
  | .label _, c => c.nrm
  | .scope b, c => liveC b { c with gt := labL b c ++ c.gt }
  | .ret, c => c.rt
  | _, _ => 0
/-- What is wanted at the labels. -/
def labL : Code → LC → List (Nat × Nat)
  | .seq a b, c => labL a { c with nrm := liveC b c } ++ labL b c
  | .label l, c => [(l, c.nrm)]
  | _, _ => []
end

/-! ### states in normal form -/
def slotIds : Slot → List Nat
  | .obj (.box cs) => idsL cs
  | _ => []

def isObj (m : List Slot) (b : Nat) : Bool := match m[b]? with | some (.obj _) => true | _ => false

def reach (m : List Slot) : Nat → List Nat → List Nat → List Nat
  | 0, _, seen => seen.reverse
  | _ + 1, [], seen => seen.reverse
  | n + 1, b :: r, seen => if seen.contains b || !isObj m b then reach m n r seen else reach m n (r ++ slotIds (m.getD b .free)) (b :: seen)

def reachN : Nat := 2000

def renS (f : Nat → Option Nat) : Slot → Slot
  | .obj (.box cs) => .obj (.box (renL f cs))
  | s => s

/-- The slots of a list alone, renamed by their places in it. -/
def subM (m : List Slot) (L : List Nat) : List Slot := L.map fun b => renS (fun c => L.idxOf? c) (m.getD b .free)

def nodupB : List Nat → Bool
  | [] => true
  | b :: r => !r.contains b && nodupB r

/-- The slots that stay: the first 'pin' ones in their places; behind them what is led to. -/
def keepL (pin : Nat) (m : List Slot) (ids : List Nat) : List Nat :=
  List.range pin ++ (reach m reachN (List.range pin ++ ids) []).filter fun b => decide (pin ≤ b)

def renum (pin : Nat) (σ : St) : St :=
  let L := keepL pin σ.mem (idsL σ.env)
  if nodupB L then ⟨renL (fun c => L.idxOf? c) σ.env, subM σ.mem L⟩ else σ

/-- Nil slices as rows of the call's own, without elements. -/
def unnil : List Slot → List AV → List AV × List Slot
  | m, [] => ([], m)
  | m, .nils e :: vs => let r := unnil (m ++ [.obj (.rows e [])]) vs; (.tail m.length 0 :: r.1, r.2)
  | m, v :: vs => let r := unnil m vs; (v :: r.1, r.2)

def unnilM : List Nat → List Slot → List Slot
  | [], m => m
  | b :: r, m =>
    match m[b]? with
    | some (.obj (.box cs)) => let x := unnil m cs; unnilM r (x.2.set b (.obj (.box x.1)))
    | _ => unnilM r m

def mask (keep : Nat) : Nat → List AV → List AV
  | _, [] => []
  | i, v :: vs => (if keep.testBit i then v else .junk) :: mask keep (i + 1) vs

def norm (pin keep : Nat) (σ : St) : St :=
  let σ1 := renum pin ⟨mask keep 0 σ.env, σ.mem⟩
  let x := unnil σ1.mem σ1.env
  renum pin ⟨x.1, unnilM (List.range σ1.mem.length) x.2⟩

/-- As norm, nil slices left. -/
def norm0 (pin keep : Nat) (σ : St) : St := renum pin ⟨mask keep 0 σ.env, σ.mem⟩

/-! ### ends -/
inductive AExit where
  | normal
  | exit (id : Nat)
  | goto (l : Nat)
  | ret

abbrev Ans := Option (AV × List Slot)
abbrev Cont := AExit → St → Ans
/-- What is known of callees. tab: an answer: a test that must hold, the value, the memory. inl: a callee that is interpreted in its turn, and what is to be done with its answer. -/
structure Callf where
  tab : FuncId → List AV → List Slot → Option (Bool × AV × List Slot)
  inl : FuncId → List AV → List Slot → (AV → List Slot → Ans) → Ans

/-! ### calls -/
def fnOf (P : Program) (f : FuncId) : Option Func :=
  match P.funcs[f]? with
  | some fn => if (fn.name == "runtime.NumGoroutine") = false ∧ fn.body.isSome = true then some fn else none
  | none => none

/-- Is a type one whose values bear no address? -/
def plainT (P : Program) : Nat → TypeId → Bool
  | 0, _ => false
  | d + 1, t =>
    match P.underlying t with
    | some .bool | some (.int _) | some .string | some (.float _) | some (.complex _) => true
    | some (.struct fs) => fs.toList.all fun f => plainT P d f.type
    | some (.array _ e) => plainT P d e
    | _ => false

mutual
def AV.plain : AV → Bool
  | .bool _ | .int _ _ | .flt _ _ | .cpx _ _ _ | .str _ | .nilp | .nilm | .nilf | .nili | .nil0 => true
  | .agg cs => plainL cs
  | .tup vs => plainL vs
  | _ => false
def plainL : List AV → Bool
  | [] => true
  | v :: vs => v.plain && plainL vs
end

def fixArgs (P : Program) : List TypeId → List AV → List AV
  | t :: ts, v :: vs => fixT P t v :: fixArgs P ts vs
  | _, vs => vs

/-- Which functions are handed their rows to keep (a hint: nothing hangs on it). -/
structure Hints where
  own : FuncId → Bool

/-- All arguments as read-only data. -/
def frzVL (m : List Slot) : List AV → Option (List AV × List (Nat × Slot))
  | [] => some ([], [])
  | v :: vs =>
    match frzV m v, frzVL m vs with
    | some (x, a), some (xs, b) => some (x :: xs, a ++ b)
    | _, _ => none

/-- Rows as read-only data; pointers as they are. -/
def frzO (m : List Slot) (v : AV) : AV × List (Nat × Slot) := match frzV m v with | some r => r | none => (v, [])

def frzP (m : List Slot) : List AV → List AV × List (Nat × Slot)
  | [] => ([], [])
  | v :: vs => ((frzO m v).1 :: (frzP m vs).1, (frzO m v).2 ++ (frzP m vs).2)

def backF (L : List Nat) (n : Nat) (i : Nat) : Option Nat := if i < L.length then L[i]? else some (n + (i - L.length))

def mergeS (m : List Slot) (L : List Nat) (m' : List Slot) (b : Nat) : Slot :=
  match L.idxOf? b with
  | some i => renS (backF L m.length) (m'.getD i .free)
  | none => m.getD b .free

def mergeM (m : List Slot) (L : List Nat) (m' : List Slot) : List Slot :=
  ((List.range m.length).map (mergeS m L m')) ++ (m'.drop L.length).map (renS (backF L m.length))

/-- A call to which nothing that may be written is handed: read-only data, and plain values. -/
def callP (P : Program) (hn : Hints) (call : Callf) (m : List Slot) (f : FuncId) (args : List AV) : Option Res :=
  match fnOf P f with
  | none => none
  | some fn =>
    if hn.own f then none else
    match frzVL m (fixArgs P fn.params.toList args) with
    | none => none
    | some (ro, w) =>
      if noidsL ro then
        match call.tab f ro [] with
        | none => none
        | some r =>
          if fn.resultTypes.toList.all (plainT P tyD) then
            if r.2.1.plain then some ⟨r.1, r.2.1, [], w.map (·.1)⟩ else none
          else
            match frzV r.2.2 r.2.1 with
            | none => none
            | some v => if v.1.noids then some ⟨r.1, v.1, w, w.map (·.1)⟩ else none
      else none

/-- Any other call: the slots that its arguments lead to are handed over, and come back. -/
def callI (P : Program) (hn : Hints) (call : Callf) (m : List Slot) (f : FuncId) (args : List AV) : Option (Bool × AV × List Slot) :=
  match fnOf P f with
  | none => none
  | some fn =>
    let as := fixArgs P fn.params.toList args
    let p := if hn.own f then (as, []) else frzP m as
    let m1 := writeM m p.2
    let L := reach m1 reachN (idsL p.1) []
    if nodupB L && L.all (isObj m1) then
      match call.tab f (renL (fun c => L.idxOf? c) p.1) (subM m1 L) with
      | none => none
      | some r => if L.length ≤ r.2.2.length then some (r.1, r.2.1.ren (backF L m1.length), mergeM m1 L r.2.2) else none
    else none

/-- As callI, of a callee that is interpreted. -/
def callK (P : Program) (hn : Hints) (call : Callf) (m : List Slot) (f : FuncId) (args : List AV) (kk : AV → List Slot → Ans) : Ans :=
  match fnOf P f with
  | none => none
  | some fn =>
    let as := fixArgs P fn.params.toList args
    let p := if hn.own f then (as, []) else frzP m as
    let m1 := writeM m p.2
    let L := reach m1 reachN (idsL p.1) []
    if nodupB L && L.all (isObj m1) then
      call.inl f (renL (fun c => L.idxOf? c) p.1) (subM m1 L) fun v m' => if L.length ≤ m'.length then kk (v.ren (backF L m1.length)) (mergeM m1 L m') else none
    else none

/-! ### regions -/
/-- What an operation has touched: the slots that it wrote, and those that it read. -/
structure Tch where
  wr : List Nat
  rd : List Nat

def put (env : List AV) (dst : Option Tmp) (v : AV) : List AV := match dst with | some d => env.set d v | none => env

def undefA : AV := .tup []

def calleeOf (env : List AV) : Op → Option (FuncId × List AV)
  | .call { callee := .value x, args := as, .. } =>
    match ev env x with
    | .fn (.func f) first captured => some (f, first ++ as.toList.map (ev env) ++ captured)
    | _ => none
  | _ => none

def isCall : Op → Bool
  | .call { callee := .value _, .. } => true
  | _ => false

/-- Operations that may stand in a region that draws its order. -/
def opR (P : Program) (hn : Hints) (call : Callf) (s : Nat) (o : Oper) (σ : St) : Option Res :=
  if isCall o.op then
    match calleeOf σ.env o.op with
    | none => none
    | some (f, as) => callP P hn call σ.mem f as
  else aop P s σ.mem σ.env o

def oper (P : Program) (hn : Hints) (call : Callf) (dr : Bool) (s : Nat) (o : Oper) (σ : St) (k : St → Tch → Ans) : Ans :=
  match opR P hn call s o σ with
  | some r => cond r.ok (k ⟨put σ.env o.dst r.val, writeM σ.mem r.wr⟩ ⟨r.wr.map (·.1), r.rd⟩) none
  | none =>
    if dr then none else
    match calleeOf σ.env o.op with
    | none => none
    | some (f, as) =>
      match callI P hn call σ.mem f as with
      | none => callK P hn call σ.mem f as fun v m => k ⟨put σ.env o.dst v, m⟩ ⟨[], []⟩
      | some r => cond r.1 (k ⟨put σ.env o.dst r.2.1, r.2.2⟩ ⟨[], []⟩) none

def runOps (P : Program) (hn : Hints) (call : Callf) (dr : Bool) (ops : Array Oper) (base : Nat) : List Oper → Nat → St → List Tch → (St → List Tch → Ans) → Ans
  | [], _, σ, T, k => k σ T
  | o :: r, i, σ, T, k =>
    let skip (σ : St) := runOps P hn call dr ops base r (i + 1) ⟨put σ.env o.dst undefA, σ.mem⟩ (T ++ [⟨[], []⟩]) k
    let go (σ : St) := oper P hn call dr (base + i) o σ fun σ t => runOps P hn call dr ops base r (i + 1) σ (T ++ [t]) k
    match o.guard with
    | none => go σ
    | some (g, want) =>
      match (ops[g]?).bind (·.dst) with
      | none => skip σ
      | some d =>
        match σ.env.getD d .junk with
        | .bool b => cond b (if want then go ⟨σ.env.set d (.bool true), σ.mem⟩ else skip ⟨σ.env.set d (.bool true), σ.mem⟩) (if want then skip ⟨σ.env.set d (.bool false), σ.mem⟩ else go ⟨σ.env.set d (.bool false), σ.mem⟩)
        | .tup [] => skip σ
        | _ => none

def meets (a b : List Nat) : Bool := a.any b.contains
def clash (x y : Tch) : Bool := meets x.wr y.wr || meets x.wr y.rd || meets x.rd y.wr

def drawOk (ops : Array Oper) : List Tch → Nat → Bool
  | [], _ => true
  | x :: r, i => (r.zipIdx.all fun y => !clash x y.1 || match ops[i + 1 + y.2]? with | some oj => oj.after.any (fun e => Region.binds .any e && e.on == i) | none => false) && drawOk ops r (i + 1)

/-- What an operation looks at, and where it writes, as bits. -/
def lookM (ops : Array Oper) (o : Oper) : Nat := (o.looksAt ops).foldl (fun n d => n ||| bit d) 0
def dstM (o : Oper) : Nat := match o.dst with | some d => bit d | none => 0

def apartM (x y : Nat × Nat × Array Edge) : Bool := Nat.beq (x.1 &&& (y.2.1 ||| y.1)) 0 && Nat.beq (y.1 &&& x.2.1) 0

/-- May the text's order stand for all? -/
def fastL : List (Nat × Nat × Array Edge) → Nat → Bool
  | [], _ => true
  | x :: r, k => x.2.2.all (fun e => !Region.binds .any e || decide (e.on < k)) && r.all (fun y => apartM x y || y.2.2.any (fun e => Region.binds .any e && e.on == k)) && fastL r (k + 1)

def fastB (ops : Array Oper) : Bool := fastL (ops.toList.map fun o => (dstM o, lookM ops o, o.after)) 0

def allocs (ops : Array Oper) : Nat := ops.size

def regionA (P : Program) (hn : Hints) (call : Callf) (ops : Array Oper) (dr : Bool) (σ : St) (k : St → Ans) : Ans :=
  let σ0 : St := ⟨σ.env, σ.mem ++ List.replicate ops.size .free⟩
  if dr then
    if P.follows .mixedOrders && fastB ops then runOps P hn call true ops σ.mem.length ops.toList 0 σ0 [] fun σ T => if drawOk ops T 0 then k σ else none
    else none
  else runOps P hn call false ops σ.mem.length ops.toList 0 σ0 [] fun σ _ => k σ

/-! ### code -/
def setB (env : List AV) (x : Operand) (b : Bool) : List AV := match x with | .tmp t => env.set t (.bool b) | _ => env

def iterK (body : St → Cont → Ans) (pin keep : Nat) : Nat → St → Cont → Ans
  | 0, _, _ => none
  | n + 1, σ, k => body σ fun e σ' => match e with
    | .normal => iterK body pin keep n (norm pin keep σ') k
    | e => k e σ'

/-- At a label, n jumps left. -/
def enterK (again : Code → St → Cont → Ans) (body : Code) (pin : Nat) (gt : List (Nat × Nat)) : Nat → Nat → St → Cont → Ans
  | 0, _, _, _ => none
  | n + 1, l, σ, k => match findLabel body l with
    | none => none
    | some rest => again rest σ fun e σ' => match e with
      | .goto l' => match findLabel body l' with
        | some _ => enterK again body pin gt n l' (norm pin (look gt l') σ') k
        | none => k e σ'
      | e => k e σ'

def jumpK (again : Code → St → Cont → Ans) (body : Code) (pin : Nat) (gt : List (Nat × Nat)) (n : Nat) (k : Cont) : Cont := fun e σ' => match e with
  | .goto l' => match findLabel body l' with
    | some _ => enterK again body pin gt n l' (norm pin (look gt l') σ') k
    | none => k e σ'
  | e => k e σ'

/-- The test at which a code begins. -/
def headCond : Code → Option Tmp
  | .cond (.tmp t) _ _ => some t
  | .seq a _ => headCond a
  | .block _ b => headCond b
  | _ => none

/-- A variable that is moved, and then tested. -/
def forkOf : Code → Code → Option Tmp
  | .region _ ops _, b => (headCond b).bind fun t => ops.toList.findSome? fun o => match o.op, o.guard, o.dst with
    | .move (.tmp v), none, some d => if d = t then some v else none
    | _, _, _ => none
  | _, _ => none

/-- Part the ways at a variable that is a truth value. -/
def forkK (v : Option Tmp) (σ : St) (k : St → Ans) : Ans :=
  match v with
  | none => k σ
  | some v =>
    match σ.env.getD v .junk with
    | .bool b => cond b (k ⟨σ.env.set v (.bool true), σ.mem⟩) (k ⟨σ.env.set v (.bool false), σ.mem⟩)
    | _ => k σ

def runC (P : Program) (hn : Hints) (again : Code → LC → St → Cont → Ans) (call : Callf) (n : Nat) : Code → LC → St → Cont → Ans
  | .skip, _, σ, k => k .normal σ
  | .region _ ops dr, _, σ, k => regionA P hn call ops dr σ (k .normal)
  | .seq a b, c, σ, k => forkK (forkOf a b) σ fun σ => runC P hn again call n a { c with nrm := liveC b c } σ fun e σ' => match e with
    | .normal => runC P hn again call n b c σ' k
    | e => k e σ'
  | .cond x t e, c, σ, k =>
    match ev σ.env x with
    | .bool b => cond b (runC P hn again call n t c ⟨setB σ.env x true, σ.mem⟩ k) (runC P hn again call n e c ⟨setB σ.env x false, σ.mem⟩ k)
    | _ => none
  | .block i b, c, σ, k => runC P hn again call n b { c with ex := (i, c.nrm) :: c.ex } σ fun e σ' => match e with
    | .exit j => if j = i then k .normal σ' else k e σ'
    | e => k e σ'
  | .loop b, c, σ, k =>
    let keep := liveC (.loop b) c
    iterK (runC P hn again call n b { c with nrm := keep }) c.pin keep n (norm c.pin keep σ) k
  | .exit i, c, σ, k => k (.exit i) (norm0 c.pin (look c.ex i) σ)
  | .goto l, _, σ, k => k (.goto l) σ
  | .label _, _, σ, k => k .normal σ
  | .scope b, c, σ, k =>
    let c' := { c with gt := labL b c ++ c.gt }
    runC P hn again call n b c' σ (jumpK (fun d => again d c') b c.pin c'.gt n k)
  | .ret, c, σ, k => k .ret ⟨mask c.rt 0 σ.env, σ.mem⟩
  | _, _, _, _ => none

def resBits (fn : Func) : Nat := fn.results.toList.foldl (fun n r => n ||| bit (match r with | .tmp t => t | .cell a _ => a)) 0

def resOne (P : Program) (σ : St) : ResultVar → Option AV
  | .tmp t => some (σ.env.getD t .junk)
  | .cell a t => (loadA P σ.mem σ.env t (.tmp a)).map (·.val)

def resultA (P : Program) (fn : Func) (σ : St) : Option AV :=
  (allSome (fn.results.toList.map (resOne P σ))).map fun vs => match vs with | [v] => v | vs => .tup vs

/-- At a function's end: its results; of memory what the caller had handed in, and what the result leads to. -/
def finK (P : Program) (fn : Func) (n0 : Nat) (kk : AV → List Slot → Ans) : Cont
  | .normal, σ | .ret, σ =>
    match resultA P fn σ with
    | none => none
    | some v =>
      let L := keepL n0 σ.mem v.ids
      if nodupB L then kk (v.ren (fun c => L.idxOf? c)) (subM σ.mem L) else none
  | _, _ => none

/-- d: how deep scopes with labels lie in each other; n: how many rounds a loop may go. -/
def run (P : Program) (hn : Hints) (call : Callf) (n : Nat) : Nat → Code → LC → St → Cont → Ans
  | 0 => fun _ _ _ _ => none
  | d + 1 => fun c l σ k => runC P hn (run P hn call n d) call n c l σ k

def depthN : Nat := 3

/-- A function's body, its callees told by 'call'; kk: what is to be done with its answer. -/
def runK (P : Program) (hn : Hints) (call : Callf) (n : Nat) (f : FuncId) (args : List AV) (m : List Slot) (kk : AV → List Slot → Ans) : Ans :=
  match fnOf P f with
  | none => none
  | some fn =>
    match fn.body with
    | none => none
    | some b => run P hn call n depthN b ⟨m.length, resBits fn, [], [], resBits fn⟩ ⟨args ++ List.replicate (fn.ntmps - args.length) undefA, m⟩ (finK P fn m.length kk)

def retK (v : AV) (m : List Slot) : Ans := some (v, m)

/-- A function's answer. -/
def runF (P : Program) (hn : Hints) (call : Callf) (n : Nat) (f : FuncId) (args : List AV) (m : List Slot) : Ans := runK P hn call n f args m retK

/-- No callee is known. -/
def noCall : Callf := ⟨fun _ _ _ => none, fun _ _ _ _ => none⟩

end Go.Ab
