/- The framework, part 2: the interpreter's operations and its code. -/
import Derived.Test.YthmebldaalplpaaFw1
import Derived.Laws.ComplexArith
namespace Go.Ab
set_option linter.unusedVariables false

/-! ### operations on values without addresses: the model's own programs, run without a world -/
def semEv {α : Type} (P : Program) : Sem α → Option α
  | .pure a => some a
  | .program k => semEv P (k P)
  | .mark _ k => semEv P k
  | _ => none

def toV : AV → Option Value
  | .bool b => some (.bool b)
  | .int k n => some (.int k n)
  | .flt k b => some (.float k b)
  | .cpx k a b => some (.complex k a b)
  | .str s => some (.string s)
  | .nilp => some (.pointer none)
  | .nilm => some (.map none)
  | .nilf => some .nilFunc
  | .nili => some .nilIface
  | _ => none

def toVL : List AV → Option (List Value)
  | [] => some []
  | v :: vs =>
    match toV v, toVL vs with
    | some x, some xs => some (x :: xs)
    | _, _ => none

def toVC : AV → Option Value
  | .agg cs => (toVL cs).map fun l => .agg l.toArray
  | .tup cs => (toVL cs).map fun l => .tuple l.toArray
  | v => toV v

/-- Back: what a scalar operation may give. -/
def ofV : Value → Option AV
  | .bool b => some (.bool b)
  | .int k n => some (.int k n)
  | .float k b => some (.flt k b)
  | .complex k a b => some (.cpx k a b)
  | .string s => some (.str s)
  | _ => none

def scalarOp (P : Program) (env : List AV) (o : Oper) : Option Res :=
  if o.op.operands.all fun x => (toVC (ev env x)).isSome then
    match semEv P (execOp (fun x => (toVC (ev env x)).getD undef) o) with
    | some (.value v) => (ofV v).map fun a => ⟨true, a, [], []⟩
    | _ => none
  else none

/-! ### == of structs -/
def eqFs (P : Program) (eqc : TypeId → List AV → List AV → Option Bool) (xs ys : List AV) : List Field → Option Bool
  | [] => some true
  | f :: fs =>
    if f.name = "_" then none else
    match isAggP P f.type, sizeP P f.type with
    | some g, some n =>
      if g || n == 1 then
        match cellsAt xs f.offset n, cellsAt ys f.offset n with
        | some a, some b =>
          match eqc f.type a b, eqFs P eqc xs ys fs with
          | some r, some q => some (r && q)
          | _, _ => none
        | _, _ => none
      else none
    | _, _ => none

def eqIs (eqc : TypeId → List AV → List AV → Option Bool) (e : TypeId) (n : Nat) (xs ys : List AV) : List Nat → Option Bool
  | [] => some true
  | i :: is =>
    match cellsAt xs (i * n) n, cellsAt ys (i * n) n with
    | some a, some b =>
      match eqc e a b, eqIs eqc e n xs ys is with
      | some r, some q => some (r && q)
      | _, _ => none
    | _, _ => none

def eqCells (P : Program) : Nat → TypeId → List AV → List AV → Option Bool
  | 0, _, _, _ => none
  | d + 1, t, xs, ys =>
    match P.underlying t with
    | some (.int _) => match xs, ys with | [.int k a], [.int k' b] => if k = k' then some (a == b) else none | _, _ => none
    | some .bool => match xs, ys with | [.bool a], [.bool b] => some (a == b) | _, _ => none
    | some .string => match xs, ys with | [.str a], [.str b] => some (a == b) | _, _ => none
    | some (.struct fs) => if P.stoodInHeld t then none else eqFs P (eqCells P d) xs ys fs.toList
    | some (.array k e) =>
      match isAggP P e, sizeP P e with
      | some g, some n => if g || n == 1 then eqIs (eqCells P d) e n xs ys (List.range k) else none
      | _, _ => none
    | _ => none

def eqD : Nat := 12

def isPtr : AV → Bool
  | .ptr _ _ | .eptr _ _ _ | .rop _ _ _ => true
  | _ => false

def isNilp : AV → Bool
  | .nilp => true
  | _ => false

def isPtrT (P : Program) (t : TypeId) : Bool :=
  match P.underlying t with
  | some (.pointer _) => true
  | _ => false

/-! ### floats: the bits as they come out; that there are any is a test -/
def isSum : BinOp → Bool
  | .add | .sub => true
  | _ => false

def isMul : BinOp → Bool
  | .mul => true
  | _ => false

/-- Division of whole numbers: that the divisor is not 0 is a test. -/
def divA (op : BinOp) (k : IntKind) (a b : Int) : Option Res :=
  match op with
  | .quo => some ⟨!(b == 0), .int k (k.wrap (a.tdiv b)), [], []⟩
  | .rem => some ⟨!(b == 0), .int k (a.tmod b), [], []⟩
  | _ => none

def fltA (op : BinOp) : AV → AV → Option Res
  | .int k a, .int k' b => if k = k' then divA op k a b else none
  | .flt .f64 a, .flt .f64 b =>
    if isSum op || isMul op then some ⟨(floatBits op .f64 a b).isSome, .flt .f64 ((floatBits op .f64 a b).getD 0), [], []⟩ else none
  | .cpx .f64 a b, .cpx .f64 c d =>
    if isSum op then some ⟨(cSumBits op .f64 a b c d).isSome, .cpx .f64 ((cSumBits op .f64 a b c d).getD (0, 0)).1 ((cSumBits op .f64 a b c d).getD (0, 0)).2, [], []⟩
    else if isMul op then some ⟨(cMulBits a b c d).isSome, .cpx .f64 ((cMulBits a b c d).getD (0, 0)).1 ((cMulBits a b c d).getD (0, 0)).2, [], []⟩
    else none
  | _, _ => none

def intKindP (P : Program) (t : TypeId) : Option IntKind :=
  match P.underlying t with
  | some (.int k) => some k
  | _ => none

/-- A float cut to a whole number; all other conversions as the model does them. -/
def cvtA (P : Program) (env : List AV) (o : Oper) (src dst : TypeId) (x : Operand) : Option Res :=
  match ev env x with
  | .flt .f64 b =>
    match intKindP P dst with
    | some k => if (P.underlying src).isSome then some ⟨(floatToIntVal .f64 b k).isSome, .int k ((floatToIntVal .f64 b k).getD 0), [], []⟩ else none
    | none => scalarOp P env o
  | _ => scalarOp P env o

def eqA (P : Program) (env : List AV) (o : Oper) (op : BinOp) (t : TypeId) (x y : Operand) : Option Res :=
  match ev env x, ev env y with
  | .agg xs, .agg ys =>
    if P.eqGuardType P.depth t then none else
    if isAggP P t ≠ some true then none else
    match eqCells P eqD t xs ys with
    | some b => match op with
      | .eql => Res.pure (.bool b)
      | .neq => Res.pure (.bool (!b))
      | _ => none
    | none => none
  | a, b =>
    match fltA op a b with
    | some r => some r
    | none =>
    if (isPtr a && isNilp b || isNilp a && isPtr b) && isPtrT P t then
      match op with
      | .eql => Res.pure (.bool false)
      | .neq => Res.pure (.bool true)
      | _ => none
    else scalarOp P env o

/-! ### the others -/
def fieldsP (P : Program) (t : TypeId) : Option (Array Field) :=
  match P.underlying t with
  | some (.struct fs) => some fs
  | _ => none

def elemP (P : Program) (t : TypeId) : Option TypeId :=
  match P.underlying t with
  | some (.slice e) => some e
  | _ => none

def arrP (P : Program) (t : TypeId) : Option (Nat × TypeId) :=
  match P.underlying t with
  | some (.array n e) => some (n, e)
  | _ => none

/-- Cells laid over others from place 'off' on. -/
def laid (cells : List AV) (off : Nat) (cs : List AV) : List AV := cells.take off ++ cs ++ cells.drop (off + cs.length)

/-- The parts of a literal, laid over the zero value. -/
def fillA (place : Nat → Option (Nat × Nat)) : List AV → List (Nat × AV) → Option (List AV)
  | cells, [] => some cells
  | cells, (i, v) :: rest =>
    match place i with
    | none => none
    | some (off, size) =>
      match v.cells with
      | some cs => if cs.length = size ∧ off + size ≤ cells.length then fillA place (laid cells off cs) rest else none
      | none => none

def evParts (env : List AV) (ps : Array (Nat × Operand)) : List (Nat × AV) := ps.toList.map fun p => (p.1, ev env p.2)

def moveA (P : Program) (env : List AV) (t : TypeId) (x : Operand) : Option Res := Res.pure (fixT P t (ev env x))

def pickA (env : List AV) (c a b : Operand) : Option Res :=
  match ev env c with
  | .bool c =>
    match ev env a, ev env b with
    | .bool x, .bool y => Res.pure (.bool (cond c x y))
    | x, y => Res.pure (cond c x y)
  | _ => none

/-- A new object in slot s, which must be free. -/
def newA (s : Nat) (m : List Slot) (v : AV) (o : AObj) (ok : Bool) (wr : List (Nat × Slot)) (rd : List Nat) : Option Res :=
  match m[s]? with
  | some .free => some ⟨ok, v, wr ++ [(s, .obj o)], s :: rd⟩
  | _ => none

def allocA (P : Program) (s : Nat) (m : List Slot) (t : TypeId) : Option Res :=
  match (zeroA P t).bind AV.cells with
  | some z => newA s m (.ptr s 0) (.box z) true [] []
  | none => none

def boxA (P : Program) (s : Nat) (m : List Slot) (env : List AV) (t : TypeId) (x : Operand) : Option Res :=
  match (fixT P t (ev env x)).cells with
  | some cs => newA s m (.ptr s 0) (.box cs) true [] []
  | none => none

def buildA (P : Program) (env : List AV) (t : TypeId) (ps : Array (Nat × Operand)) : Option Res :=
  match (zeroA P t).bind AV.cells with
  | none => none
  | some z =>
    match fieldsP P t with
    | some fs =>
      match allSome (fs.toList.map fun f => (sizeP P f.type).map fun n => (f.offset, n)) with
      | some pl => (fillA (fun i => pl[i]?) z (evParts env ps)).bind fun cs => Res.pure (fixT P t (.agg cs))
      | none => none
    | none =>
      match arrP P t with
      | some (_, e) => (sizeP P e).bind fun n => (fillA (fun i => some (i * n, n)) z (evParts env ps)).bind fun cs => Res.pure (fixT P t (.agg cs))
      | none => none

/-- Cells cut into elements of a type. -/
def decN (t : Ty) : Nat → List AV → Option (List t.den)
  | 0, _ => some []
  | n + 1, cs =>
    match t.dec (cs.take t.size), decN t n (cs.drop t.size) with
    | some x, some xs => some (x :: xs)
    | _, _ => none

def buildSliceA (P : Program) (s : Nat) (m : List Slot) (env : List AV) (t : TypeId) (len : Nat) (ps : Array (Nat × Operand)) : Option Res :=
  match elemP P t with
  | none => none
  | some e =>
    match (zeroA P e).bind AV.cells, sizeP P e with
    | some z, some n =>
      if z.length = n ∧ n ≠ 0 ∧ len * n ≤ 65536 then
        match fillA (fun i => some (i * n, n)) (List.replicate len z).flatten (evParts env ps) with
        | none => none
        | some cs =>
          match tyOf P tyD e with
          | some y =>
            if y.size = n then
              match frzL m cs with
              | some (fs, w) => (decN y len fs).bind fun l => newA s m (.tail s 0) (.rows y l) true w (w.map (·.1))
              | none => none
            else none
          | none => newA s m (.bsl s len) (.box cs) true [] []
      else none
    | _, _ => none

def loadA (P : Program) (m : List Slot) (env : List AV) (t : TypeId) (x : Operand) : Option Res :=
  match isAggP P t, sizeP P t with
  | some g, some n =>
    if g || n == 1 then
      match ev env x with
      | .ptr b j =>
        match getObj? m b with
        | some (.box cs) => ((cellsAt cs j n).bind (valOf g)).map fun v => ⟨true, v, [], [b]⟩
        | _ => none
      | .eptr b i j =>
        match rowOf m b with
        | some ⟨t, l⟩ => ((cellsAt (t.enc (l.getD i t.dflt)) j n).bind (valOf g)).map fun v => ⟨true, v, [], [b]⟩
        | _ => none
      | .rop t x j => ((cellsAt (t.enc x) j n).bind (valOf g)).map fun v => ⟨true, v, [], []⟩
      | _ => none
    else none
  | _, _ => none

def storeA (P : Program) (m : List Slot) (env : List AV) (t : TypeId) (x v : Operand) : Option Res :=
  match sizeP P t, (fixT P t (ev env v)).cells with
  | some n, some cs =>
    if cs.length = n ∧ cs.all AV.cell = true then
      match ev env x with
      | .ptr b j =>
        match getObj? m b with
        | some (.box ds) => if j + n ≤ ds.length then some ⟨true, .junk, [(b, .obj (.box (laid ds j cs)))], [b]⟩ else none
        | _ => none
      | .eptr b i j =>
        match getObj? m b with
        | some (.rows t l) =>
          match frzL m cs with
          | some (fs, w) =>
            if (w.map (·.1)).contains b then none
            else if j + n ≤ t.size then (t.dec (laid (t.enc (l.getD i t.dflt)) j fs)).map fun y => ⟨true, .junk, w ++ [(b, .obj (.rows t (l.set i y)))], b :: w.map (·.1)⟩
            else none
          | none => none
        | _ => none
      | _ => none
    else none
  | _, _ => none

def nilCheckA (env : List AV) (x : Operand) : Option Res :=
  match ev env x with
  | .ptr b j => Res.pure (.ptr b j)
  | .eptr b i j => Res.pure (.eptr b i j)
  | .rop t y j => Res.pure (.rop t y j)
  | .fn (.func f) a c => Res.pure (.fn (.func f) a c)
  | _ => none

def makeFuncA (env : List AV) (f : Fn) (first captured : Array Operand) : Option Res :=
  Res.pure (.fn f (first.toList.map (ev env)) (captured.toList.map (ev env)))

def intLit : AV → Option Int
  | .int _ n => some n
  | _ => none

def makeSliceA (P : Program) (s : Nat) (m : List Slot) (env : List AV) (t : TypeId) (l c : Operand) : Option Res :=
  match elemP P t with
  | none => none
  | some e =>
    match tyOf P tyD e, (zeroA P e).bind AV.cells, P.info? e, ev env l, ev env c with
    | some y, some z, some i, .int .i64 n, .int .i64 k =>
      match y.dec z with
      | some d =>
        if y.size = i.size ∧ z.length = i.size ∧ i.bytes ≤ 65536 then
          newA s m (.tail s 0) (.rows y (List.replicate n.toNat d)) (decide (0 ≤ n) && (decide (n ≤ k) && decide (k ≤ 1073741824))) [] []
        else none
      | none => none
    | _, _, _, _, _ => none

def boundA (env : List AV) (dft : Int) : Option Operand → Option Int
  | none => some dft
  | some x => intLit (ev env x)

/-- The size of a slice type's elements. -/
def elemSize (P : Program) (t : TypeId) : Option Nat := (elemP P t).bind (sizeP P)

def sliceA (P : Program) (m : List Slot) (env : List AV) (t : TypeId) (x : Operand) (lo hi mx : Option Operand) : Option Res :=
  match elemSize P t with
  | none => none
  | some n =>
    match ev env x with
    | .ro e l =>
      if n = e.size then
        match mx with
        | none =>
          match hi with
          | none => (boundA env 0 lo).map fun a => ⟨decide (0 ≤ a) && decide (a ≤ (l.length : Int)), .ro e (l.drop a.toNat), [], []⟩
          | some h =>
            match boundA env 0 lo, intLit (ev env h) with
            | some a, some h => some ⟨decide (0 ≤ a) && (decide (a ≤ h) && decide (h ≤ (l.length : Int))), .ro e ((l.take h.toNat).drop a.toNat), [], []⟩
            | _, _ => none
        | some k =>
          match hi with
          | none => none
          | some h => if boundA env 0 lo = some 0 ∧ intLit (ev env h) = some 0 ∧ intLit (ev env k) = some 0 then Res.pure (.nils e) else none
      else none
    | .nils e =>
      match hi, mx with
      | none, some _ => none
      | _, _ => if boundA env 0 lo = some 0 ∧ boundA env 0 hi = some 0 ∧ boundA env 0 mx = some 0 then Res.pure (.nils e) else none
    | .tail b i =>
      match rowOf m b, mx with
      | some ⟨y, l⟩, none =>
        if n = y.size then
          match hi with
          | none => (boundA env 0 lo).map fun a => ⟨decide (0 ≤ a) && decide (a ≤ ((l.length - i : Nat) : Int)), .tail b (i + a.toNat), [], [b]⟩
          | some h =>
            match boundA env 0 lo, intLit (ev env h) with
            | some a, some h => some ⟨decide (0 ≤ a) && (decide (a ≤ h) && decide (h ≤ ((l.length - i : Nat) : Int))), .ro y ((((l.drop i).take h.toNat)).drop a.toNat), [(b, .obj (.frows y l))], [b]⟩
            | _, _ => none
        else none
      | _, _ => none
    | _ => none

def fieldAddrA (P : Program) (env : List AV) (s : TypeId) (x : Operand) (f : Nat) : Option Res :=
  match fieldsP P s with
  | some fs =>
    match fs[f]? with
    | some f =>
      match sizeP P f.type with
      | some (n + 1) =>
        match ev env x with
        | .ptr b j => Res.pure (.ptr b (j + f.offset))
        | .eptr b i j => Res.pure (.eptr b i (j + f.offset))
        | .rop t y j => Res.pure (.rop t y (j + f.offset))
        | _ => none
      | _ => none
    | none => none
  | none => none

def fieldA (P : Program) (env : List AV) (t : TypeId) (x : Operand) (f : Nat) : Option Res :=
  match fieldsP P t with
  | some fs =>
    match fs[f]? with
    | some f =>
      match isAggP P f.type, sizeP P f.type, ev env x with
      | some g, some n, .agg cs => if g || n == 1 then ((cellsAt cs f.offset n).bind (valOf g)).bind Res.pure else none
      | _, _, _ => none
    | none => none
  | none => none

def indexAddrA (P : Program) (m : List Slot) (env : List AV) (t : TypeId) (x i : Operand) : Option Res :=
  match ev env i with
  | .int _ i =>
    match elemP P t with
    | some e =>
      match sizeP P e with
      | some n =>
        match ev env x with
        | .ro y l => if y.size = n then some ⟨decide (0 ≤ i) && decide (i < (l.length : Int)), .rop y (l.getD i.toNat y.dflt) 0, [], []⟩ else none
        | .tail b k =>
          match rowOf m b with
          | some ⟨y, l⟩ => if y.size = n then some ⟨decide (0 ≤ i) && decide (i < ((l.length - k : Nat) : Int)), .eptr b (k + i.toNat) 0, [], [b]⟩ else none
          | none => none
        | .bsl b k => some ⟨decide (0 ≤ i) && decide (i < (k : Int)), .ptr b (i.toNat * n), [], []⟩
        | _ => none
      | none => none
    | none =>
      match arrP P t with
      | some (k, e) =>
        match sizeP P e with
        | some n =>
          match ev env x with
          | .ptr b j => some ⟨decide (0 ≤ i) && decide (i < (k : Int)), .ptr b (j + i.toNat * n), [], []⟩
          | _ => none
        | none => none
      | none => none
  | _ => none

def extractA (env : List AV) (x : Operand) (i : Nat) : Option Res :=
  match ev env x with
  | .tup vs => (vs[i]?).bind Res.pure
  | _ => none

/-- The elements that are appended, of a known type. -/
def elemsOf (m : List Slot) (t : Ty) : AV → Option (List t.den × List Nat)
  | .nil0 => some ([], [])
  | .nils _ => some ([], [])
  | .ro e l => if h : e = t then some (h ▸ l, []) else none
  | .tail b i =>
    match rowOf m b with
    | some ⟨e, l⟩ => if h : e = t then some (h ▸ (if i = 0 then l else l.drop i), [b]) else none
    | none => none
  | .str s => match t with | .int .u8 => some (s.data.toList.map fun c => (c.toNat : Int), []) | _ => none
  | _ => none

def most : Nat := 1073741824

def sliceOrStr : TypeDesc → Bool
  | .slice _ => true
  | .string => true
  | _ => false

def appendA (P : Program) (s : Nat) (m : List Slot) (env : List AV) (ts : Array TypeId) (a x : Operand) : Option Res :=
  match (ts[0]?).bind (elemP P) with
  | none => none
  | some e =>
    match tyOf P tyD e, P.info? e, (ts[1]?).bind P.underlying, (zeroA P e).bind AV.cells with
    | some y, some inf, some d, some z =>
      if y.size = inf.size ∧ inf.bytes ≤ 65536 ∧ z.length = inf.size ∧ sliceOrStr d = true then
        match elemsOf m y (ev env x) with
        | none => none
        | some (xs, rd) =>
          match ev env a with
          | .nil0 => newA s m (.tail s 0) (.rows y xs) (decide (xs.length ≤ most)) [] rd
          | .nils _ => newA s m (.tail s 0) (.rows y xs) (decide (xs.length ≤ most)) [] rd
          | .tail b i =>
            match getObj? m b with
            | some (.rows z l) =>
              if h : z = y then
                if i = 0 then newA s m (.tail s 0) (.rows y ((h ▸ l) ++ xs)) (decide (l.length + xs.length ≤ most)) [(b, .dead)] (b :: rd)
                else newA s m (.tail s 0) (.rows y ((h ▸ l.drop i) ++ xs)) (decide (i ≤ l.length) && decide (l.length - i + xs.length ≤ most)) [(b, .dead)] (b :: rd)
              else none
            | _ => none
          | _ => none
      else none
    | _, _, _, _ => none

def lenOpA (P : Program) (m : List Slot) (env : List AV) (t : TypeId) (x : Operand) : Option Res :=
  match P.underlying t with
  | some (.slice _) =>
    match ev env x with
    | .str _ => none
    | v => (lenA m v).map fun r => ⟨true, .int .i64 r.1, [], r.2⟩
  | _ => none

def appendOp (P : Program) (s : Nat) (m : List Slot) (env : List AV) (c : Call) : Option Res :=
  match c.args.toList with
  | [a, x] => appendA P s m env c.argTypes a x
  | _ => none

def lenOp (P : Program) (m : List Slot) (env : List AV) (o : Oper) (c : Call) : Option Res :=
  match c.args.toList, c.argTypes.toList with
  | [x], [t] =>
    match ev env x with
    | .str _ => scalarOp P env o
    | _ => lenOpA P m env t x
  | _, _ => none

def builtinA (P : Program) (s : Nat) (m : List Slot) (env : List AV) (o : Oper) (c : Call) : Option Res :=
  match c.callee with
  | .builtin b =>
    match b with
    | .append => appendOp P s m env c
    | .len => lenOp P m env o c
    | .max | .min | .complex | .real | .imag => scalarOp P env o
    | _ => none
  | _ => none

/-- A place of an array that is a value. -/
def indexA (P : Program) (env : List AV) (o : Oper) (t : TypeId) (x i : Operand) : Option Res :=
  match ev env x with
  | .agg cs =>
    match ev env i with
    | .int _ n =>
      match arrP P t with
      | some (k, e) =>
        match isAggP P e, sizeP P e with
        | some g, some sz =>
          if g || sz == 1 then ((cellsAt cs (n.toNat * sz) sz).bind (valOf g)).map fun v => ⟨decide (0 ≤ n) && decide (n < (k : Int)), v, [], []⟩
          else none
        | _, _ => none
      | none => none
    | _ => none
  | _ => scalarOp P env o

def aop (P : Program) (s : Nat) (m : List Slot) (env : List AV) (o : Oper) : Option Res :=
  match o.op with
  | .move x => moveA P env o.type x
  | .assign x => moveA P env o.type x
  | .pick c a b => pickA env c a b
  | .alloc t => allocA P s m t
  | .box t x => boxA P s m env t x
  | .build t ps => buildA P env t ps
  | .buildSlice t n ps => buildSliceA P s m env t n ps
  | .load t x => loadA P m env t x
  | .store t x v => storeA P m env t x v
  | .nilCheck x => nilCheckA env x
  | .makeFunc f a c => makeFuncA env f a c
  | .makeSlice t l c => makeSliceA P s m env t l c
  | .slice t x lo hi mx => match ev env x with | .str _ => scalarOp P env o | _ => sliceA P m env t x lo hi mx
  | .fieldAddr t x f => fieldAddrA P env t x f
  | .field t x f => fieldA P env t x f
  | .indexAddr t x i => indexAddrA P m env t x i
  | .extract x i => extractA env x i
  | .call c => builtinA P s m env o c
  | .binOp op t x y _ => eqA P env o op t x y
  | .unOp _ _ _ => scalarOp P env o
  | .convert src dst x => cvtA P env o src dst x
  | .index t x i => indexA P env o t x i
  | _ => none

end Go.Ab
