/- The framework, part 1: abstract values, abstract memory and the interpreter's operations (no theorem about Go yet). -/
import Derived.Calls
import Derived.KernelRfl
import Derived.Laws.ComplexArith
import Derived.Still
import Derived.Laws.Cells
import Derived.Laws.AppendOwn
namespace Go.Ab
set_option linter.unusedVariables false

/-! ### types of plain data -/
inductive Ty where
  | int (k : IntKind)
  | bool
  | str
  | list (e : Ty)
  | pair (a b : Ty)
  deriving DecidableEq

abbrev Ty.den : Ty → Type
  | .int _ => Int
  | .bool => Bool
  | .str => ByteArray
  | .list e => List e.den
  | .pair a b => a.den × b.den

def Ty.dflt : (t : Ty) → t.den
  | .int _ => (0 : Int)
  | .bool => false
  | .str => (⟨#[]⟩ : ByteArray)
  | .list _ => []
  | .pair a b => (a.dflt, b.dflt)

def Ty.size : Ty → Nat
  | .pair a b => a.size + b.size
  | _ => 1

/-! ### abstract values -/
inductive AV where
  | junk
  | bool (b : Bool)
  | int (k : IntKind) (n : Int)
  | flt (k : FloatKind) (b : Nat)
  | cpx (k : FloatKind) (a b : Nat)
  | str (s : ByteArray)
  | nilp
  | nilm
  | nilf
  | nili
  | nil0
  | nils (e : Ty)
  | ro (e : Ty) (l : List e.den)
  | rop (t : Ty) (x : t.den) (j : Nat)
  | ptr (b j : Nat)
  | eptr (b i j : Nat)
  | tail (b i : Nat)
  | bsl (b n : Nat)
  | mp (b : Nat)
  | fn (f : Fn) (first captured : List AV)
  | ifc (t : TypeId) (v : AV)
  | agg (cs : List AV)
  | tup (vs : List AV)

instance : Inhabited AV := ⟨.junk⟩

/-- What a slot of the abstract memory holds. -/
inductive AObj where
  | box (cs : List AV)
  | rows (t : Ty) (l : List t.den)
  | frows (t : Ty) (l : List t.den)

inductive Slot where
  | free
  | dead
  | obj (o : AObj)

instance : Inhabited Slot := ⟨.free⟩

structure St where
  env : List AV
  mem : List Slot

/-- The cells of a value; of one that is not known: none. -/
def AV.cells : AV → Option (List AV)
  | .agg cs => some cs
  | .junk => none
  | v => some [v]

/-- Can a value be stored into one cell? -/
def AV.cell : AV → Bool
  | .agg _ | .tup _ | .junk => false
  | _ => true

def Ty.enc : (t : Ty) → t.den → List AV
  | .int k, x => [.int k x]
  | .bool, x => [.bool x]
  | .str, x => [.str x]
  | .list e, x => [.ro e x]
  | .pair a b, x => a.enc x.1 ++ b.enc x.2

def decInt (k : IntKind) : List AV → Option Int
  | [.int k' x] => if k' = k then some x else none
  | _ => none
def decBool : List AV → Option Bool
  | [.bool x] => some x
  | _ => none
def decStr : List AV → Option ByteArray
  | [.str x] => some x
  | _ => none
def decList (e : Ty) : List AV → Option (List e.den)
  | [.ro e' l] => if h : e' = e then some (h ▸ l) else none
  | [.nils _] => some []
  | [.nil0] => some []
  | _ => none

def Ty.dec : (t : Ty) → List AV → Option t.den
  | .int k, cs => decInt k cs
  | .bool, cs => decBool cs
  | .str, cs => decStr cs
  | .list e, cs => decList e cs
  | .pair a b, cs =>
    match a.dec (cs.take a.size), b.dec (cs.drop a.size) with
    | some x, some y => some (x, y)
    | _, _ => none

/-! ### the program's types -/
def sizeP (P : Program) (t : TypeId) : Option Nat := (P.info? t).map (·.size)
def isAggP (P : Program) (t : TypeId) : Option Bool := (P.underlying t).map fun | .struct _ => true | .array _ _ => true | _ => false

def foldTys : List Ty → Option Ty
  | [] => none
  | [t] => some t
  | t :: ts => (foldTys ts).map (.pair t)

def allSome {α : Type} : List (Option α) → Option (List α)
  | [] => some []
  | none :: _ => none
  | some x :: xs => (allSome xs).map (x :: ·)

def tyOf (P : Program) : Nat → TypeId → Option Ty
  | 0, _ => none
  | d + 1, t =>
    match P.underlying t with
    | some .bool => some .bool
    | some (.int k) => some (.int k)
    | some .string => some .str
    | some (.slice e) => (tyOf P d e).map .list
    | some (.struct fs) => (allSome (fs.toList.map fun f => tyOf P d f.type)).bind foldTys
    | some (.array n e) => (tyOf P d e).bind fun t => foldTys (List.replicate n t)
    | _ => none

def tyD : Nat := 12

/-- A constant of the program's text as an abstract value. -/
def cst : Value → AV
  | .bool b => .bool b
  | .int k n => .int k n
  | .float k b => .flt k b
  | .complex k a b => .cpx k a b
  | .string s => .str s
  | .pointer none => .nilp
  | .slice none 0 0 => .nil0
  | .map none => .nilm
  | .nilFunc => .nilf
  | .nilIface => .nili
  | _ => .junk

def cstC : Value → AV
  | .agg cs => .agg (cs.toList.map cst)
  | .tuple _ => .junk
  | v => cst v

def ev (env : List AV) : Operand → AV
  | .tmp t => env.getD t .junk
  | .const v => cstC v
  | .func f => .fn (.func f) [] []
  | .global _ => .junk

/-! ### what is known of a value's ids -/
mutual
def AV.noids : AV → Bool
  | .ptr _ _ | .eptr _ _ _ | .tail _ _ | .bsl _ _ | .mp _ => false
  | .fn _ a b => noidsL a && noidsL b
  | .ifc _ v => v.noids
  | .agg cs => noidsL cs
  | .tup vs => noidsL vs
  | _ => true
def noidsL : List AV → Bool
  | [] => true
  | v :: vs => v.noids && noidsL vs
end

mutual
def AV.ren (f : Nat → Option Nat) : AV → AV
  | .ptr b j => match f b with | some c => .ptr c j | none => .junk
  | .eptr b i j => match f b with | some c => .eptr c i j | none => .junk
  | .tail b i => match f b with | some c => .tail c i | none => .junk
  | .bsl b n => match f b with | some c => .bsl c n | none => .junk
  | .mp b => match f b with | some c => .mp c | none => .junk
  | .fn g a b => .fn g (renL f a) (renL f b)
  | .ifc t v => .ifc t (v.ren f)
  | .agg cs => .agg (renL f cs)
  | .tup vs => .tup (renL f vs)
  | v => v
def renL (f : Nat → Option Nat) : List AV → List AV
  | [] => []
  | v :: vs => v.ren f :: renL f vs
end

mutual
def AV.ids : AV → List Nat
  | .ptr b _ | .eptr b _ _ | .tail b _ | .bsl b _ | .mp b => [b]
  | .fn _ a b => idsL a ++ idsL b
  | .ifc _ v => v.ids
  | .agg cs => idsL cs
  | .tup vs => idsL vs
  | _ => []
def idsL : List AV → List Nat
  | [] => []
  | v :: vs => v.ids ++ idsL vs
end

/-! ### reading the abstract memory -/
def getObj? (m : List Slot) (b : Nat) : Option AObj :=
  match m[b]? with
  | some (.obj o) => some o
  | _ => none

/-- The cells from cell j on. -/
def cellsAt (cs : List AV) (j n : Nat) : Option (List AV) :=
  let r := (cs.drop j).take n
  if r.length = n then some r else none

def valOf (agg : Bool) (cs : List AV) : Option AV :=
  if agg then some (.agg cs) else match cs with | [v] => some v | _ => none

/-- What an operation makes: is it sure to go (a test), the value, the slots that it writes, the slots that it reads. -/
structure Res where
  ok : Bool
  val : AV
  wr : List (Nat × Slot)
  rd : List Nat

def Res.pure (v : AV) : Option Res := some ⟨true, v, [], []⟩

/-- A row as read-only data: its elements from i on. -/
def rowOf (m : List Slot) (b : Nat) : Option ((t : Ty) × List t.den) :=
  match getObj? m b with
  | some (.rows t l) => some ⟨t, l⟩
  | some (.frows t l) => some ⟨t, l⟩
  | _ => none

/-- How many elements has a slice? -/
def lenA (m : List Slot) : AV → Option (Int × List Nat)
  | .nil0 => some (0, [])
  | .nils _ => some (0, [])
  | .ro _ l => some ((l.length : Int), [])
  | .tail b i => (rowOf m b).map fun r => if i = 0 then ((r.2.length : Int), [b]) else (((r.2.length - i : Nat) : Int), [b])
  | .bsl _ n => some ((n : Int), [])
  | .str s => some ((s.size : Int), [])
  | _ => none

/-- Slices of owned rows turned to read-only data; the slots that are frozen by it. -/
def frz (m : List Slot) : AV → Option (AV × List (Nat × Slot))
  | .tail b i => (rowOf m b).map fun r => (.ro r.1 (if i = 0 then r.2 else r.2.drop i), [(b, .obj (.frows r.1 r.2))])
  | v => if v.noids then some (v, []) else none

def frzL (m : List Slot) : List AV → Option (List AV × List (Nat × Slot))
  | [] => some ([], [])
  | v :: vs =>
    match frz m v, frzL m vs with
    | some (x, a), some (xs, b) => some (x :: xs, a ++ b)
    | _, _ => none

def frzV (m : List Slot) : AV → Option (AV × List (Nat × Slot))
  | .agg cs => (frzL m cs).map fun r => (.agg r.1, r.2)
  | .tup vs => (frzL m vs).map fun r => (.tup r.1, r.2)
  | v => frz m v

def writeM (m : List Slot) : List (Nat × Slot) → List Slot
  | [] => m
  | (b, s) :: r => writeM (m.set b s) r

/-- A nil slice gets the type of its elements, where the program tells it. -/
def fixC (P : Program) (t : TypeId) : AV → AV
  | .nil0 =>
    match P.underlying t with
    | some (.slice e) => match tyOf P tyD e with | some y => .nils y | none => .nil0
    | _ => .nil0
  | v => v

/-- The types of a type's cells. -/
def leafs (P : Program) : Nat → TypeId → List TypeId
  | 0, _ => []
  | d + 1, t =>
    match P.underlying t with
    | some (.struct fs) => fs.toList.flatMap fun f => leafs P d f.type
    | some (.array n e) => (List.replicate n (leafs P d e)).flatten
    | _ => [t]

def fixL (P : Program) : List TypeId → List AV → List AV
  | t :: ts, v :: vs => fixC P t v :: fixL P ts vs
  | _, vs => vs

def fixT (P : Program) (t : TypeId) : AV → AV
  | .agg cs => .agg (fixL P (leafs P tyD t) cs)
  | v => fixC P t v

/-- The zero value. -/
def zeroA (P : Program) (t : TypeId) : Option AV := ((P.info? t).bind (·.zero)).map fun z => fixT P t (cstC z)

end Go.Ab

/- The framework, part 2: the interpreter's operations and its code. -/
namespace Go.Ab
set_option linter.unusedVariables false

/-! ### operations on values without addresses: the model's own programs, run without a world -/
def semEv {α : Type} (P : Program) : Sem α → Option α
  | .pure a => some a
  | .program k => semEv P (k P)
  | .mark _ k => semEv P k
  | _ => none

def toV : AV → Option Value
  | .bool b => some (.bool b)
  | .int k n => some (.int k n)
  | .flt k b => some (.float k b)
  | .cpx k a b => some (.complex k a b)
  | .str s => some (.string s)
  | .nilp => some (.pointer none)
  | .nilm => some (.map none)
  | .nilf => some .nilFunc
  | .nili => some .nilIface
  | _ => none

def toVL : List AV → Option (List Value)
  | [] => some []
  | v :: vs =>
    match toV v, toVL vs with
    | some x, some xs => some (x :: xs)
    | _, _ => none

def toVC : AV → Option Value
  | .agg cs => (toVL cs).map fun l => .agg l.toArray
  | .tup cs => (toVL cs).map fun l => .tuple l.toArray
  | v => toV v

/-- Back: what a scalar operation may give. -/
def ofV : Value → Option AV
  | .bool b => some (.bool b)
  | .int k n => some (.int k n)
  | .float k b => some (.flt k b)
  | .complex k a b => some (.cpx k a b)
  | .string s => some (.str s)
  | _ => none

def scalarOp (P : Program) (env : List AV) (o : Oper) : Option Res :=
  if o.op.operands.all fun x => (toVC (ev env x)).isSome then
    match semEv P (execOp (fun x => (toVC (ev env x)).getD undef) o) with
    | some (.value v) => (ofV v).map fun a => ⟨true, a, [], []⟩
    | _ => none
  else none

/-! ### == of structs -/
def eqFs (P : Program) (eqc : TypeId → List AV → List AV → Option Bool) (xs ys : List AV) : List Field → Option Bool
  | [] => some true
  | f :: fs =>
    if f.name = "_" then none else
    match isAggP P f.type, sizeP P f.type with
    | some g, some n =>
      if g || n == 1 then
        match cellsAt xs f.offset n, cellsAt ys f.offset n with
        | some a, some b =>
          match eqc f.type a b, eqFs P eqc xs ys fs with
          | some r, some q => some (r && q)
          | _, _ => none
        | _, _ => none
      else none
    | _, _ => none

def eqIs (eqc : TypeId → List AV → List AV → Option Bool) (e : TypeId) (n : Nat) (xs ys : List AV) : List Nat → Option Bool
  | [] => some true
  | i :: is =>
    match cellsAt xs (i * n) n, cellsAt ys (i * n) n with
    | some a, some b =>
      match eqc e a b, eqIs eqc e n xs ys is with
      | some r, some q => some (r && q)
      | _, _ => none
    | _, _ => none

def eqCells (P : Program) : Nat → TypeId → List AV → List AV → Option Bool
  | 0, _, _, _ => none
  | d + 1, t, xs, ys =>
    match P.underlying t with
    | some (.int _) => match xs, ys with | [.int k a], [.int k' b] => if k = k' then some (a == b) else none | _, _ => none
    | some .bool => match xs, ys with | [.bool a], [.bool b] => some (a == b) | _, _ => none
    | some .string => match xs, ys with | [.str a], [.str b] => some (a == b) | _, _ => none
    | some (.struct fs) => if P.stoodInHeld t then none else eqFs P (eqCells P d) xs ys fs.toList
    | some (.array k e) =>
      match isAggP P e, sizeP P e with
      | some g, some n => if g || n == 1 then eqIs (eqCells P d) e n xs ys (List.range k) else none
      | _, _ => none
    | _ => none

def eqD : Nat := 12

def isPtr : AV → Bool
  | .ptr _ _ | .eptr _ _ _ | .rop _ _ _ => true
  | _ => false

def isNilp : AV → Bool
  | .nilp => true
  | _ => false

def isPtrT (P : Program) (t : TypeId) : Bool :=
  match P.underlying t with
  | some (.pointer _) => true
  | _ => false

/-! ### floats: the bits as they come out; that there are any is a test -/
def isSum : BinOp → Bool
  | .add | .sub => true
  | _ => false

def isMul : BinOp → Bool
  | .mul => true
  | _ => false

/-- Division of whole numbers: that the divisor is not 0 is a test. -/
def divA (op : BinOp) (k : IntKind) (a b : Int) : Option Res :=
  match op with
  | .quo => some ⟨!(b == 0), .int k (k.wrap (a.tdiv b)), [], []⟩
  | .rem => some ⟨!(b == 0), .int k (a.tmod b), [], []⟩
  | _ => none

def fltA (op : BinOp) : AV → AV → Option Res
  | .int k a, .int k' b => if k = k' then divA op k a b else none
  | .flt .f64 a, .flt .f64 b =>
    if isSum op || isMul op then some ⟨(floatBits op .f64 a b).isSome, .flt .f64 ((floatBits op .f64 a b).getD 0), [], []⟩ else none
  | .cpx .f64 a b, .cpx .f64 c d =>
    if isSum op then some ⟨(cSumBits op .f64 a b c d).isSome, .cpx .f64 ((cSumBits op .f64 a b c d).getD (0, 0)).1 ((cSumBits op .f64 a b c d).getD (0, 0)).2, [], []⟩
    else if isMul op then some ⟨(cMulBits a b c d).isSome, .cpx .f64 ((cMulBits a b c d).getD (0, 0)).1 ((cMulBits a b c d).getD (0, 0)).2, [], []⟩
    else none
  | _, _ => none

def intKindP (P : Program) (t : TypeId) : Option IntKind :=
  match P.underlying t with
  | some (.int k) => some k
  | _ => none

/-- A float cut to a whole number; all other conversions as the model does them. -/
def cvtA (P : Program) (env : List AV) (o : Oper) (src dst : TypeId) (x : Operand) : Option Res :=
  match ev env x with
  | .flt .f64 b =>
    match intKindP P dst with
    | some k => if (P.underlying src).isSome then some ⟨(floatToIntVal .f64 b k).isSome, .int k ((floatToIntVal .f64 b k).getD 0), [], []⟩ else none
    | none => scalarOp P env o
  | _ => scalarOp P env o

def eqA (P : Program) (env : List AV) (o : Oper) (op : BinOp) (t : TypeId) (x y : Operand) : Option Res :=
  match ev env x, ev env y with
  | .agg xs, .agg ys =>
    if P.eqGuardType P.depth t then none else
    if isAggP P t ≠ some true then none else
    match eqCells P eqD t xs ys with
    | some b => match op with
      | .eql => Res.pure (.bool b)
      | .neq => Res.pure (.bool (!b))
      | _ => none
    | none => none
  | a, b =>
    match fltA op a b with
    | some r => some r
    | none =>
    if (isPtr a && isNilp b || isNilp a && isPtr b) && isPtrT P t then
      match op with
      | .eql => Res.pure (.bool false)
      | .neq => Res.pure (.bool true)
      | _ => none
    else scalarOp P env o

/-! ### the others -/
def fieldsP (P : Program) (t : TypeId) : Option (Array Field) :=
  match P.underlying t with
  | some (.struct fs) => some fs
  | _ => none

def elemP (P : Program) (t : TypeId) : Option TypeId :=
  match P.underlying t with
  | some (.slice e) => some e
  | _ => none

def arrP (P : Program) (t : TypeId) : Option (Nat × TypeId) :=
  match P.underlying t with
  | some (.array n e) => some (n, e)
  | _ => none

/-- Cells laid over others from place 'off' on. -/
def laid (cells : List AV) (off : Nat) (cs : List AV) : List AV := cells.take off ++ cs ++ cells.drop (off + cs.length)

/-- The parts of a literal, laid over the zero value. -/
def fillA (place : Nat → Option (Nat × Nat)) : List AV → List (Nat × AV) → Option (List AV)
  | cells, [] => some cells
  | cells, (i, v) :: rest =>
    match place i with
    | none => none
    | some (off, size) =>
      match v.cells with
      | some cs => if cs.length = size ∧ off + size ≤ cells.length then fillA place (laid cells off cs) rest else none
      | none => none

def evParts (env : List AV) (ps : Array (Nat × Operand)) : List (Nat × AV) := ps.toList.map fun p => (p.1, ev env p.2)

def moveA (P : Program) (env : List AV) (t : TypeId) (x : Operand) : Option Res := Res.pure (fixT P t (ev env x))

def pickA (env : List AV) (c a b : Operand) : Option Res :=
  match ev env c with
  | .bool c =>
    match ev env a, ev env b with
    | .bool x, .bool y => Res.pure (.bool (cond c x y))
    | x, y => Res.pure (cond c x y)
  | _ => none

/-- A new object in slot s, which must be free. -/
def newA (s : Nat) (m : List Slot) (v : AV) (o : AObj) (ok : Bool) (wr : List (Nat × Slot)) (rd : List Nat) : Option Res :=
  match m[s]? with
  | some .free => some ⟨ok, v, wr ++ [(s, .obj o)], s :: rd⟩
  | _ => none

def allocA (P : Program) (s : Nat) (m : List Slot) (t : TypeId) : Option Res :=
  match (zeroA P t).bind AV.cells with
  | some z => newA s m (.ptr s 0) (.box z) true [] []
  | none => none

def boxA (P : Program) (s : Nat) (m : List Slot) (env : List AV) (t : TypeId) (x : Operand) : Option Res :=
  match (fixT P t (ev env x)).cells with
  | some cs => newA s m (.ptr s 0) (.box cs) true [] []
  | none => none

def buildA (P : Program) (env : List AV) (t : TypeId) (ps : Array (Nat × Operand)) : Option Res :=
  match (zeroA P t).bind AV.cells with
  | none => none
  | some z =>
    match fieldsP P t with
    | some fs =>
      match allSome (fs.toList.map fun f => (sizeP P f.type).map fun n => (f.offset, n)) with
      | some pl => (fillA (fun i => pl[i]?) z (evParts env ps)).bind fun cs => Res.pure (fixT P t (.agg cs))
      | none => none
    | none =>
      match arrP P t with
      | some (_, e) => (sizeP P e).bind fun n => (fillA (fun i => some (i * n, n)) z (evParts env ps)).bind fun cs => Res.pure (fixT P t (.agg cs))
      | none => none

/-- Cells cut into elements of a type. -/
def decN (t : Ty) : Nat → List AV → Option (List t.den)
  | 0, _ => some []
  | n + 1, cs =>
    match t.dec (cs.take t.size), decN t n (cs.drop t.size) with
    | some x, some xs => some (x :: xs)
    | _, _ => none

def buildSliceA (P : Program) (s : Nat) (m : List Slot) (env : List AV) (t : TypeId) (len : Nat) (ps : Array (Nat × Operand)) : Option Res :=
  match elemP P t with
  | none => none
  | some e =>
    match (zeroA P e).bind AV.cells, sizeP P e with
    | some z, some n =>
      if z.length = n ∧ n ≠ 0 ∧ len * n ≤ 65536 then
        match fillA (fun i => some (i * n, n)) (List.replicate len z).flatten (evParts env ps) with
        | none => none
        | some cs =>
          match tyOf P tyD e with
          | some y =>
            if y.size = n then
              match frzL m cs with
              | some (fs, w) => (decN y len fs).bind fun l => newA s m (.tail s 0) (.rows y l) true w (w.map (·.1))
              | none => none
            else none
          | none => newA s m (.bsl s len) (.box cs) true [] []
      else none
    | _, _ => none

def loadA (P : Program) (m : List Slot) (env : List AV) (t : TypeId) (x : Operand) : Option Res :=
  match isAggP P t, sizeP P t with
  | some g, some n =>
    if g || n == 1 then
      match ev env x with
      | .ptr b j =>
        match getObj? m b with
        | some (.box cs) => ((cellsAt cs j n).bind (valOf g)).map fun v => ⟨true, v, [], [b]⟩
        | _ => none
      | .eptr b i j =>
        match rowOf m b with
        | some ⟨t, l⟩ => ((cellsAt (t.enc (l.getD i t.dflt)) j n).bind (valOf g)).map fun v => ⟨true, v, [], [b]⟩
        | _ => none
      | .rop t x j => ((cellsAt (t.enc x) j n).bind (valOf g)).map fun v => ⟨true, v, [], []⟩
      | _ => none
    else none
  | _, _ => none

def storeA (P : Program) (m : List Slot) (env : List AV) (t : TypeId) (x v : Operand) : Option Res :=
  match sizeP P t, (fixT P t (ev env v)).cells with
  | some n, some cs =>
    if cs.length = n ∧ cs.all AV.cell = true then
      match ev env x with
      | .ptr b j =>
        match getObj? m b with
        | some (.box ds) => if j + n ≤ ds.length then some ⟨true, .junk, [(b, .obj (.box (laid ds j cs)))], [b]⟩ else none
        | _ => none
      | .eptr b i j =>
        match getObj? m b with
        | some (.rows t l) =>
          match frzL m cs with
          | some (fs, w) =>
            if (w.map (·.1)).contains b then none
            else if j + n ≤ t.size then (t.dec (laid (t.enc (l.getD i t.dflt)) j fs)).map fun y => ⟨true, .junk, w ++ [(b, .obj (.rows t (l.set i y)))], b :: w.map (·.1)⟩
            else none
          | none => none
        | _ => none
      | _ => none
    else none
  | _, _ => none

def nilCheckA (env : List AV) (x : Operand) : Option Res :=
  match ev env x with
  | .ptr b j => Res.pure (.ptr b j)
  | .eptr b i j => Res.pure (.eptr b i j)
  | .rop t y j => Res.pure (.rop t y j)
  | .fn (.func f) a c => Res.pure (.fn (.func f) a c)
  | _ => none

def makeFuncA (env : List AV) (f : Fn) (first captured : Array Operand) : Option Res :=
  Res.pure (.fn f (first.toList.map (ev env)) (captured.toList.map (ev env)))

def intLit : AV → Option Int
  | .int _ n => some n
  | _ => none

def makeSliceA (P : Program) (s : Nat) (m : List Slot) (env : List AV) (t : TypeId) (l c : Operand) : Option Res :=
  match elemP P t with
  | none => none
  | some e =>
    match tyOf P tyD e, (zeroA P e).bind AV.cells, P.info? e, ev env l, ev env c with
    | some y, some z, some i, .int .i64 n, .int .i64 k =>
      match y.dec z with
      | some d =>
        if y.size = i.size ∧ z.length = i.size ∧ i.bytes ≤ 65536 then
          newA s m (.tail s 0) (.rows y (List.replicate n.toNat d)) (decide (0 ≤ n) && (decide (n ≤ k) && decide (k ≤ 1073741824))) [] []
        else none
      | none => none
    | _, _, _, _, _ => none

def boundA (env : List AV) (dft : Int) : Option Operand → Option Int
  | none => some dft
  | some x => intLit (ev env x)

/-- The size of a slice type's elements. -/
def elemSize (P : Program) (t : TypeId) : Option Nat := (elemP P t).bind (sizeP P)

def sliceA (P : Program) (m : List Slot) (env : List AV) (t : TypeId) (x : Operand) (lo hi mx : Option Operand) : Option Res :=
  match elemSize P t with
  | none => none
  | some n =>
    match ev env x with
    | .ro e l =>
      if n = e.size then
        match mx with
        | none =>
          match hi with
          | none => (boundA env 0 lo).map fun a => ⟨decide (0 ≤ a) && decide (a ≤ (l.length : Int)), .ro e (l.drop a.toNat), [], []⟩
          | some h =>
            match boundA env 0 lo, intLit (ev env h) with
            | some a, some h => some ⟨decide (0 ≤ a) && (decide (a ≤ h) && decide (h ≤ (l.length : Int))), .ro e ((l.take h.toNat).drop a.toNat), [], []⟩
            | _, _ => none
        | some k =>
          match hi with
          | none => none
          | some h => if boundA env 0 lo = some 0 ∧ intLit (ev env h) = some 0 ∧ intLit (ev env k) = some 0 then Res.pure (.nils e) else none
      else none
    | .nils e =>
      match hi, mx with
      | none, some _ => none
      | _, _ => if boundA env 0 lo = some 0 ∧ boundA env 0 hi = some 0 ∧ boundA env 0 mx = some 0 then Res.pure (.nils e) else none
    | .tail b i =>
      match rowOf m b, mx with
      | some ⟨y, l⟩, none =>
        if n = y.size then
          match hi with
          | none => (boundA env 0 lo).map fun a => ⟨decide (0 ≤ a) && decide (a ≤ ((l.length - i : Nat) : Int)), .tail b (i + a.toNat), [], [b]⟩
          | some h =>
            match boundA env 0 lo, intLit (ev env h) with
            | some a, some h => some ⟨decide (0 ≤ a) && (decide (a ≤ h) && decide (h ≤ ((l.length - i : Nat) : Int))), .ro y ((((l.drop i).take h.toNat)).drop a.toNat), [(b, .obj (.frows y l))], [b]⟩
            | _, _ => none
        else none
      | _, _ => none
    | _ => none

def fieldAddrA (P : Program) (env : List AV) (s : TypeId) (x : Operand) (f : Nat) : Option Res :=
  match fieldsP P s with
  | some fs =>
    match fs[f]? with
    | some f =>
      match sizeP P f.type with
      | some (n + 1) =>
        match ev env x with
        | .ptr b j => Res.pure (.ptr b (j + f.offset))
        | .eptr b i j => Res.pure (.eptr b i (j + f.offset))
        | .rop t y j => Res.pure (.rop t y (j + f.offset))
        | _ => none
      | _ => none
    | none => none
  | none => none

def fieldA (P : Program) (env : List AV) (t : TypeId) (x : Operand) (f : Nat) : Option Res :=
  match fieldsP P t with
  | some fs =>
    match fs[f]? with
    | some f =>
      match isAggP P f.type, sizeP P f.type, ev env x with
      | some g, some n, .agg cs => if g || n == 1 then ((cellsAt cs f.offset n).bind (valOf g)).bind Res.pure else none
      | _, _, _ => none
    | none => none
  | none => none

def indexAddrA (P : Program) (m : List Slot) (env : List AV) (t : TypeId) (x i : Operand) : Option Res :=
  match ev env i with
  | .int _ i =>
    match elemP P t with
    | some e =>
      match sizeP P e with
      | some n =>
        match ev env x with
        | .ro y l => if y.size = n then some ⟨decide (0 ≤ i) && decide (i < (l.length : Int)), .rop y (l.getD i.toNat y.dflt) 0, [], []⟩ else none
        | .tail b k =>
          match rowOf m b with
          | some ⟨y, l⟩ => if y.size = n then some ⟨decide (0 ≤ i) && decide (i < ((l.length - k : Nat) : Int)), .eptr b (k + i.toNat) 0, [], [b]⟩ else none
          | none => none
        | .bsl b k => some ⟨decide (0 ≤ i) && decide (i < (k : Int)), .ptr b (i.toNat * n), [], []⟩
        | _ => none
      | none => none
    | none =>
      match arrP P t with
      | some (k, e) =>
        match sizeP P e with
        | some n =>
          match ev env x with
          | .ptr b j => some ⟨decide (0 ≤ i) && decide (i < (k : Int)), .ptr b (j + i.toNat * n), [], []⟩
          | _ => none
        | none => none
      | none => none
  | _ => none

def extractA (env : List AV) (x : Operand) (i : Nat) : Option Res :=
  match ev env x with
  | .tup vs => (vs[i]?).bind Res.pure
  | _ => none

/-- The elements that are appended, of a known type. -/
def elemsOf (m : List Slot) (t : Ty) : AV → Option (List t.den × List Nat)
  | .nil0 => some ([], [])
  | .nils _ => some ([], [])
  | .ro e l => if h : e = t then some (h ▸ l, []) else none
  | .tail b i =>
    match rowOf m b with
    | some ⟨e, l⟩ => if h : e = t then some (h ▸ (if i = 0 then l else l.drop i), [b]) else none
    | none => none
  | .str s => match t with | .int .u8 => some (s.data.toList.map fun c => (c.toNat : Int), []) | _ => none
  | _ => none

def most : Nat := 1073741824

def sliceOrStr : TypeDesc → Bool
  | .slice _ => true
  | .string => true
  | _ => false

def appendA (P : Program) (s : Nat) (m : List Slot) (env : List AV) (ts : Array TypeId) (a x : Operand) : Option Res :=
  match (ts[0]?).bind (elemP P) with
  | none => none
  | some e =>
    match tyOf P tyD e, P.info? e, (ts[1]?).bind P.underlying, (zeroA P e).bind AV.cells with
    | some y, some inf, some d, some z =>
      if y.size = inf.size ∧ inf.bytes ≤ 65536 ∧ z.length = inf.size ∧ sliceOrStr d = true then
        match elemsOf m y (ev env x) with
        | none => none
        | some (xs, rd) =>
          match ev env a with
          | .nil0 => newA s m (.tail s 0) (.rows y xs) (decide (xs.length ≤ most)) [] rd
          | .nils _ => newA s m (.tail s 0) (.rows y xs) (decide (xs.length ≤ most)) [] rd
          | .tail b i =>
            match getObj? m b with
            | some (.rows z l) =>
              if h : z = y then
                if i = 0 then newA s m (.tail s 0) (.rows y ((h ▸ l) ++ xs)) (decide (l.length + xs.length ≤ most)) [(b, .dead)] (b :: rd)
                else newA s m (.tail s 0) (.rows y ((h ▸ l.drop i) ++ xs)) (decide (i ≤ l.length) && decide (l.length - i + xs.length ≤ most)) [(b, .dead)] (b :: rd)
              else none
            | _ => none
          | _ => none
      else none
    | _, _, _, _ => none

def lenOpA (P : Program) (m : List Slot) (env : List AV) (t : TypeId) (x : Operand) : Option Res :=
  match P.underlying t with
  | some (.slice _) =>
    match ev env x with
    | .str _ => none
    | v => (lenA m v).map fun r => ⟨true, .int .i64 r.1, [], r.2⟩
  | _ => none

def appendOp (P : Program) (s : Nat) (m : List Slot) (env : List AV) (c : Call) : Option Res :=
  match c.args.toList with
  | [a, x] => appendA P s m env c.argTypes a x
  | _ => none

def lenOp (P : Program) (m : List Slot) (env : List AV) (o : Oper) (c : Call) : Option Res :=
  match c.args.toList, c.argTypes.toList with
  | [x], [t] =>
    match ev env x with
    | .str _ => scalarOp P env o
    | _ => lenOpA P m env t x
  | _, _ => none

def builtinA (P : Program) (s : Nat) (m : List Slot) (env : List AV) (o : Oper) (c : Call) : Option Res :=
  match c.callee with
  | .builtin b =>
    match b with
    | .append => appendOp P s m env c
    | .len => lenOp P m env o c
    | .max | .min | .complex | .real | .imag => scalarOp P env o
    | _ => none
  | _ => none

/-- A place of an array that is a value. -/
def indexA (P : Program) (env : List AV) (o : Oper) (t : TypeId) (x i : Operand) : Option Res :=
  match ev env x with
  | .agg cs =>
    match ev env i with
    | .int _ n =>
      match arrP P t with
      | some (k, e) =>
        match isAggP P e, sizeP P e with
        | some g, some sz =>
          if g || sz == 1 then ((cellsAt cs (n.toNat * sz) sz).bind (valOf g)).map fun v => ⟨decide (0 ≤ n) && decide (n < (k : Int)), v, [], []⟩
          else none
        | _, _ => none
      | none => none
    | _ => none
  | _ => scalarOp P env o

def aop (P : Program) (s : Nat) (m : List Slot) (env : List AV) (o : Oper) : Option Res :=
  match o.op with
  | .move x => moveA P env o.type x
  | .assign x => moveA P env o.type x
  | .pick c a b => pickA env c a b
  | .alloc t => allocA P s m t
  | .box t x => boxA P s m env t x
  | .build t ps => buildA P env t ps
  | .buildSlice t n ps => buildSliceA P s m env t n ps
  | .load t x => loadA P m env t x
  | .store t x v => storeA P m env t x v
  | .nilCheck x => nilCheckA env x
  | .makeFunc f a c => makeFuncA env f a c
  | .makeSlice t l c => makeSliceA P s m env t l c
  | .slice t x lo hi mx => match ev env x with | .str _ => scalarOp P env o | _ => sliceA P m env t x lo hi mx
  | .fieldAddr t x f => fieldAddrA P env t x f
  | .field t x f => fieldA P env t x f
  | .indexAddr t x i => indexAddrA P m env t x i
  | .extract x i => extractA env x i
  | .call c => builtinA P s m env o c
  | .binOp op t x y _ => eqA P env o op t x y
  | .unOp _ _ _ => scalarOp P env o
  | .convert src dst x => cvtA P env o src dst x
  | .index t x i => indexA P env o t x i
  | _ => none

end Go.Ab

/- The framework, part 3: the interpreter of code. -/
namespace Go.Ab
set_option linter.unusedVariables false

/-! ### which temporaries are still wanted (a heuristic: nothing hangs on it) -/
structure LC where
  pin : Nat
  nrm : Nat
  ex : List (Nat × Nat)
  gt : List (Nat × Nat)
  rt : Nat

def bit (t : Nat) : Nat := 1 <<< t
def minus (a b : Nat) : Nat := a ^^^ (a &&& b)
def look (l : List (Nat × Nat)) (i : Nat) : Nat := ((l.find? fun p => p.1 == i).map (·.2)).getD 0
def opdBit : Operand → Nat
  | .tmp t => bit t
  | _ => 0
def opsBits (l : List Operand) : Nat := l.foldl (fun n x => n ||| opdBit x) 0

def liveOp (ops : Array Oper) (o : Oper) (n : Nat) : Nat :=
  (minus n (match o.dst with | some d => bit d | none => 0)) ||| opsBits o.op.operands.toList |||
    (match o.guard with | some (g, _) => (match (ops[g]?).bind (·.dst) with | some d => bit d | none => 0) | none => 0)

mutual
def liveC : Code → LC → Nat
  | .skip, c => c.nrm
  | .region _ ops _, c => ops.toList.foldr (liveOp ops) c.nrm
  | .seq a b, c => liveC a { c with nrm := liveC b c }
  | .cond x t e, c => liveC t c ||| liveC e c ||| opdBit x
  | .block i b, c => liveC b { c with ex := (i, c.nrm) :: c.ex }
  | .loop b, c => liveC b { c with nrm := 0 }
  | .exit i, c => look c.ex i
  | .goto l, c => look c.gt l
  | .label _, c => c.nrm
  | .scope b, c => liveC b { c with gt := labL b c ++ c.gt }
  | .ret, c => c.rt
  | _, _ => 0
/-- What is wanted at the labels. -/
def labL : Code → LC → List (Nat × Nat)
  | .seq a b, c => labL a { c with nrm := liveC b c } ++ labL b c
  | .label l, c => [(l, c.nrm)]
  | _, _ => []
end

/-! ### states in normal form -/
def slotIds : Slot → List Nat
  | .obj (.box cs) => idsL cs
  | _ => []

def isObj (m : List Slot) (b : Nat) : Bool := match m[b]? with | some (.obj _) => true | _ => false

def reach (m : List Slot) : Nat → List Nat → List Nat → List Nat
  | 0, _, seen => seen.reverse
  | _ + 1, [], seen => seen.reverse
  | n + 1, b :: r, seen => if seen.contains b || !isObj m b then reach m n r seen else reach m n (r ++ slotIds (m.getD b .free)) (b :: seen)

def reachN : Nat := 2000

def renS (f : Nat → Option Nat) : Slot → Slot
  | .obj (.box cs) => .obj (.box (renL f cs))
  | s => s

/-- The slots of a list alone, renamed by their places in it. -/
def subM (m : List Slot) (L : List Nat) : List Slot := L.map fun b => renS (fun c => L.idxOf? c) (m.getD b .free)

def nodupB : List Nat → Bool
  | [] => true
  | b :: r => !r.contains b && nodupB r

/-- The slots that stay: the first 'pin' ones in their places; behind them what is led to. -/
def keepL (pin : Nat) (m : List Slot) (ids : List Nat) : List Nat :=
  List.range pin ++ (reach m reachN (List.range pin ++ ids) []).filter fun b => decide (pin ≤ b)

def renum (pin : Nat) (σ : St) : St :=
  let L := keepL pin σ.mem (idsL σ.env)
  if nodupB L then ⟨renL (fun c => L.idxOf? c) σ.env, subM σ.mem L⟩ else σ

/-- Nil slices as rows of the call's own, without elements. -/
def unnil : List Slot → List AV → List AV × List Slot
  | m, [] => ([], m)
  | m, .nils e :: vs => let r := unnil (m ++ [.obj (.rows e [])]) vs; (.tail m.length 0 :: r.1, r.2)
  | m, v :: vs => let r := unnil m vs; (v :: r.1, r.2)

def unnilM : List Nat → List Slot → List Slot
  | [], m => m
  | b :: r, m =>
    match m[b]? with
    | some (.obj (.box cs)) => let x := unnil m cs; unnilM r (x.2.set b (.obj (.box x.1)))
    | _ => unnilM r m

def mask (keep : Nat) : Nat → List AV → List AV
  | _, [] => []
  | i, v :: vs => (if keep.testBit i then v else .junk) :: mask keep (i + 1) vs

def norm (pin keep : Nat) (σ : St) : St :=
  let σ1 := renum pin ⟨mask keep 0 σ.env, σ.mem⟩
  let x := unnil σ1.mem σ1.env
  renum pin ⟨x.1, unnilM (List.range σ1.mem.length) x.2⟩

/-- As norm, nil slices left. -/
def norm0 (pin keep : Nat) (σ : St) : St := renum pin ⟨mask keep 0 σ.env, σ.mem⟩

/-! ### ends -/
inductive AExit where
  | normal
  | exit (id : Nat)
  | goto (l : Nat)
  | ret

abbrev Ans := Option (AV × List Slot)
abbrev Cont := AExit → St → Ans
/-- What is known of callees. tab: an answer: a test that must hold, the value, the memory. inl: a callee that is interpreted in its turn, and what is to be done with its answer. -/
structure Callf where
  tab : FuncId → List AV → List Slot → Option (Bool × AV × List Slot)
  inl : FuncId → List AV → List Slot → (AV → List Slot → Ans) → Ans

/-! ### calls -/
def fnOf (P : Program) (f : FuncId) : Option Func :=
  match P.funcs[f]? with
  | some fn => if (fn.name == "runtime.NumGoroutine") = false ∧ fn.body.isSome = true then some fn else none
  | none => none

/-- Is a type one whose values bear no address? -/
def plainT (P : Program) : Nat → TypeId → Bool
  | 0, _ => false
  | d + 1, t =>
    match P.underlying t with
    | some .bool | some (.int _) | some .string | some (.float _) | some (.complex _) => true
    | some (.struct fs) => fs.toList.all fun f => plainT P d f.type
    | some (.array _ e) => plainT P d e
    | _ => false

mutual
def AV.plain : AV → Bool
  | .bool _ | .int _ _ | .flt _ _ | .cpx _ _ _ | .str _ | .nilp | .nilm | .nilf | .nili | .nil0 => true
  | .agg cs => plainL cs
  | .tup vs => plainL vs
  | _ => false
def plainL : List AV → Bool
  | [] => true
  | v :: vs => v.plain && plainL vs
end

def fixArgs (P : Program) : List TypeId → List AV → List AV
  | t :: ts, v :: vs => fixT P t v :: fixArgs P ts vs
  | _, vs => vs

/-- Which functions are handed their rows to keep (a hint: nothing hangs on it). -/
structure Hints where
  own : FuncId → Bool

/-- All arguments as read-only data. -/
def frzVL (m : List Slot) : List AV → Option (List AV × List (Nat × Slot))
  | [] => some ([], [])
  | v :: vs =>
    match frzV m v, frzVL m vs with
    | some (x, a), some (xs, b) => some (x :: xs, a ++ b)
    | _, _ => none

/-- Rows as read-only data; pointers as they are. -/
def frzO (m : List Slot) (v : AV) : AV × List (Nat × Slot) := match frzV m v with | some r => r | none => (v, [])

def frzP (m : List Slot) : List AV → List AV × List (Nat × Slot)
  | [] => ([], [])
  | v :: vs => ((frzO m v).1 :: (frzP m vs).1, (frzO m v).2 ++ (frzP m vs).2)

def backF (L : List Nat) (n : Nat) (i : Nat) : Option Nat := if i < L.length then L[i]? else some (n + (i - L.length))

def mergeS (m : List Slot) (L : List Nat) (m' : List Slot) (b : Nat) : Slot :=
  match L.idxOf? b with
  | some i => renS (backF L m.length) (m'.getD i .free)
  | none => m.getD b .free

def mergeM (m : List Slot) (L : List Nat) (m' : List Slot) : List Slot :=
  ((List.range m.length).map (mergeS m L m')) ++ (m'.drop L.length).map (renS (backF L m.length))

/-- A call to which nothing that may be written is handed: read-only data, and plain values. -/
def callP (P : Program) (hn : Hints) (call : Callf) (m : List Slot) (f : FuncId) (args : List AV) : Option Res :=
  match fnOf P f with
  | none => none
  | some fn =>
    if hn.own f then none else
    match frzVL m (fixArgs P fn.params.toList args) with
    | none => none
    | some (ro, w) =>
      if noidsL ro then
        match call.tab f ro [] with
        | none => none
        | some r =>
          if fn.resultTypes.toList.all (plainT P tyD) then
            if r.2.1.plain then some ⟨r.1, r.2.1, [], w.map (·.1)⟩ else none
          else
            match frzV r.2.2 r.2.1 with
            | none => none
            | some v => if v.1.noids then some ⟨r.1, v.1, w, w.map (·.1)⟩ else none
      else none

/-- Any other call: the slots that its arguments lead to are handed over, and come back. -/
def callI (P : Program) (hn : Hints) (call : Callf) (m : List Slot) (f : FuncId) (args : List AV) : Option (Bool × AV × List Slot) :=
  match fnOf P f with
  | none => none
  | some fn =>
    let as := fixArgs P fn.params.toList args
    let p := if hn.own f then (as, []) else frzP m as
    let m1 := writeM m p.2
    let L := reach m1 reachN (idsL p.1) []
    if nodupB L && L.all (isObj m1) then
      match call.tab f (renL (fun c => L.idxOf? c) p.1) (subM m1 L) with
      | none => none
      | some r => if L.length ≤ r.2.2.length then some (r.1, r.2.1.ren (backF L m1.length), mergeM m1 L r.2.2) else none
    else none

/-- As callI, of a callee that is interpreted. -/
def callK (P : Program) (hn : Hints) (call : Callf) (m : List Slot) (f : FuncId) (args : List AV) (kk : AV → List Slot → Ans) : Ans :=
  match fnOf P f with
  | none => none
  | some fn =>
    let as := fixArgs P fn.params.toList args
    let p := if hn.own f then (as, []) else frzP m as
    let m1 := writeM m p.2
    let L := reach m1 reachN (idsL p.1) []
    if nodupB L && L.all (isObj m1) then
      call.inl f (renL (fun c => L.idxOf? c) p.1) (subM m1 L) fun v m' => if L.length ≤ m'.length then kk (v.ren (backF L m1.length)) (mergeM m1 L m') else none
    else none

/-! ### regions -/
/-- What an operation has touched: the slots that it wrote, and those that it read. -/
structure Tch where
  wr : List Nat
  rd : List Nat

def put (env : List AV) (dst : Option Tmp) (v : AV) : List AV := match dst with | some d => env.set d v | none => env

def undefA : AV := .tup []

def calleeOf (env : List AV) : Op → Option (FuncId × List AV)
  | .call { callee := .value x, args := as, .. } =>
    match ev env x with
    | .fn (.func f) first captured => some (f, first ++ as.toList.map (ev env) ++ captured)
    | _ => none
  | _ => none

def isCall : Op → Bool
  | .call { callee := .value _, .. } => true
  | _ => false

/-- Operations that may stand in a region that draws its order. -/
def opR (P : Program) (hn : Hints) (call : Callf) (s : Nat) (o : Oper) (σ : St) : Option Res :=
  if isCall o.op then
    match calleeOf σ.env o.op with
    | none => none
    | some (f, as) => callP P hn call σ.mem f as
  else aop P s σ.mem σ.env o

def oper (P : Program) (hn : Hints) (call : Callf) (dr : Bool) (s : Nat) (o : Oper) (σ : St) (k : St → Tch → Ans) : Ans :=
  match opR P hn call s o σ with
  | some r => cond r.ok (k ⟨put σ.env o.dst r.val, writeM σ.mem r.wr⟩ ⟨r.wr.map (·.1), r.rd⟩) none
  | none =>
    if dr then none else
    match calleeOf σ.env o.op with
    | none => none
    | some (f, as) =>
      match callI P hn call σ.mem f as with
      | none => callK P hn call σ.mem f as fun v m => k ⟨put σ.env o.dst v, m⟩ ⟨[], []⟩
      | some r => cond r.1 (k ⟨put σ.env o.dst r.2.1, r.2.2⟩ ⟨[], []⟩) none

def runOps (P : Program) (hn : Hints) (call : Callf) (dr : Bool) (ops : Array Oper) (base : Nat) : List Oper → Nat → St → List Tch → (St → List Tch → Ans) → Ans
  | [], _, σ, T, k => k σ T
  | o :: r, i, σ, T, k =>
    let skip (σ : St) := runOps P hn call dr ops base r (i + 1) ⟨put σ.env o.dst undefA, σ.mem⟩ (T ++ [⟨[], []⟩]) k
    let go (σ : St) := oper P hn call dr (base + i) o σ fun σ t => runOps P hn call dr ops base r (i + 1) σ (T ++ [t]) k
    match o.guard with
    | none => go σ
    | some (g, want) =>
      match (ops[g]?).bind (·.dst) with
      | none => skip σ
      | some d =>
        match σ.env.getD d .junk with
        | .bool b => cond b (if want then go ⟨σ.env.set d (.bool true), σ.mem⟩ else skip ⟨σ.env.set d (.bool true), σ.mem⟩) (if want then skip ⟨σ.env.set d (.bool false), σ.mem⟩ else go ⟨σ.env.set d (.bool false), σ.mem⟩)
        | .tup [] => skip σ
        | _ => none

def meets (a b : List Nat) : Bool := a.any b.contains
def clash (x y : Tch) : Bool := meets x.wr y.wr || meets x.wr y.rd || meets x.rd y.wr

def drawOk (ops : Array Oper) : List Tch → Nat → Bool
  | [], _ => true
  | x :: r, i => (r.zipIdx.all fun y => !clash x y.1 || match ops[i + 1 + y.2]? with | some oj => oj.after.any (fun e => Region.binds .any e && e.on == i) | none => false) && drawOk ops r (i + 1)

/-- What an operation looks at, and where it writes, as bits. -/
def lookM (ops : Array Oper) (o : Oper) : Nat := (o.looksAt ops).foldl (fun n d => n ||| bit d) 0
def dstM (o : Oper) : Nat := match o.dst with | some d => bit d | none => 0

def apartM (x y : Nat × Nat × Array Edge) : Bool := Nat.beq (x.1 &&& (y.2.1 ||| y.1)) 0 && Nat.beq (y.1 &&& x.2.1) 0

/-- May the text's order stand for all? -/
def fastL : List (Nat × Nat × Array Edge) → Nat → Bool
  | [], _ => true
  | x :: r, k => x.2.2.all (fun e => !Region.binds .any e || decide (e.on < k)) && r.all (fun y => apartM x y || y.2.2.any (fun e => Region.binds .any e && e.on == k)) && fastL r (k + 1)

def fastB (ops : Array Oper) : Bool := fastL (ops.toList.map fun o => (dstM o, lookM ops o, o.after)) 0

def allocs (ops : Array Oper) : Nat := ops.size

def regionA (P : Program) (hn : Hints) (call : Callf) (ops : Array Oper) (dr : Bool) (σ : St) (k : St → Ans) : Ans :=
  let σ0 : St := ⟨σ.env, σ.mem ++ List.replicate ops.size .free⟩
  if dr then
    if P.follows .mixedOrders && fastB ops then runOps P hn call true ops σ.mem.length ops.toList 0 σ0 [] fun σ T => if drawOk ops T 0 then k σ else none
    else none
  else runOps P hn call false ops σ.mem.length ops.toList 0 σ0 [] fun σ _ => k σ

/-! ### code -/
def setB (env : List AV) (x : Operand) (b : Bool) : List AV := match x with | .tmp t => env.set t (.bool b) | _ => env

def iterK (body : St → Cont → Ans) (pin keep : Nat) : Nat → St → Cont → Ans
  | 0, _, _ => none
  | n + 1, σ, k => body σ fun e σ' => match e with
    | .normal => iterK body pin keep n (norm pin keep σ') k
    | e => k e σ'

/-- At a label, n jumps left. -/
def enterK (again : Code → St → Cont → Ans) (body : Code) (pin : Nat) (gt : List (Nat × Nat)) : Nat → Nat → St → Cont → Ans
  | 0, _, _, _ => none
  | n + 1, l, σ, k => match findLabel body l with
    | none => none
    | some rest => again rest σ fun e σ' => match e with
      | .goto l' => match findLabel body l' with
        | some _ => enterK again body pin gt n l' (norm pin (look gt l') σ') k
        | none => k e σ'
      | e => k e σ'

def jumpK (again : Code → St → Cont → Ans) (body : Code) (pin : Nat) (gt : List (Nat × Nat)) (n : Nat) (k : Cont) : Cont := fun e σ' => match e with
  | .goto l' => match findLabel body l' with
    | some _ => enterK again body pin gt n l' (norm pin (look gt l') σ') k
    | none => k e σ'
  | e => k e σ'

/-- The test at which a code begins. -/
def headCond : Code → Option Tmp
  | .cond (.tmp t) _ _ => some t
  | .seq a _ => headCond a
  | .block _ b => headCond b
  | _ => none

/-- A variable that is moved, and then tested. -/
def forkOf : Code → Code → Option Tmp
  | .region _ ops _, b => (headCond b).bind fun t => ops.toList.findSome? fun o => match o.op, o.guard, o.dst with
    | .move (.tmp v), none, some d => if d = t then some v else none
    | _, _, _ => none
  | _, _ => none

/-- Part the ways at a variable that is a truth value. -/
def forkK (v : Option Tmp) (σ : St) (k : St → Ans) : Ans :=
  match v with
  | none => k σ
  | some v =>
    match σ.env.getD v .junk with
    | .bool b => cond b (k ⟨σ.env.set v (.bool true), σ.mem⟩) (k ⟨σ.env.set v (.bool false), σ.mem⟩)
    | _ => k σ

def runC (P : Program) (hn : Hints) (again : Code → LC → St → Cont → Ans) (call : Callf) (n : Nat) : Code → LC → St → Cont → Ans
  | .skip, _, σ, k => k .normal σ
  | .region _ ops dr, _, σ, k => regionA P hn call ops dr σ (k .normal)
  | .seq a b, c, σ, k => forkK (forkOf a b) σ fun σ => runC P hn again call n a { c with nrm := liveC b c } σ fun e σ' => match e with
    | .normal => runC P hn again call n b c σ' k
    | e => k e σ'
  | .cond x t e, c, σ, k =>
    match ev σ.env x with
    | .bool b => cond b (runC P hn again call n t c ⟨setB σ.env x true, σ.mem⟩ k) (runC P hn again call n e c ⟨setB σ.env x false, σ.mem⟩ k)
    | _ => none
  | .block i b, c, σ, k => runC P hn again call n b { c with ex := (i, c.nrm) :: c.ex } σ fun e σ' => match e with
    | .exit j => if j = i then k .normal σ' else k e σ'
    | e => k e σ'
  | .loop b, c, σ, k =>
    let keep := liveC (.loop b) c
    iterK (runC P hn again call n b { c with nrm := keep }) c.pin keep n (norm c.pin keep σ) k
  | .exit i, c, σ, k => k (.exit i) (norm0 c.pin (look c.ex i) σ)
  | .goto l, _, σ, k => k (.goto l) σ
  | .label _, _, σ, k => k .normal σ
  | .scope b, c, σ, k =>
    let c' := { c with gt := labL b c ++ c.gt }
    runC P hn again call n b c' σ (jumpK (fun d => again d c') b c.pin c'.gt n k)
  | .ret, c, σ, k => k .ret ⟨mask c.rt 0 σ.env, σ.mem⟩
  | _, _, _, _ => none

def resBits (fn : Func) : Nat := fn.results.toList.foldl (fun n r => n ||| bit (match r with | .tmp t => t | .cell a _ => a)) 0

def resOne (P : Program) (σ : St) : ResultVar → Option AV
  | .tmp t => some (σ.env.getD t .junk)
  | .cell a t => (loadA P σ.mem σ.env t (.tmp a)).map (·.val)

def resultA (P : Program) (fn : Func) (σ : St) : Option AV :=
  (allSome (fn.results.toList.map (resOne P σ))).map fun vs => match vs with | [v] => v | vs => .tup vs

/-- At a function's end: its results; of memory what the caller had handed in, and what the result leads to. -/
def finK (P : Program) (fn : Func) (n0 : Nat) (kk : AV → List Slot → Ans) : Cont
  | .normal, σ | .ret, σ =>
    match resultA P fn σ with
    | none => none
    | some v =>
      let L := keepL n0 σ.mem v.ids
      if nodupB L then kk (v.ren (fun c => L.idxOf? c)) (subM σ.mem L) else none
  | _, _ => none

/-- d: how deep scopes with labels lie in each other; n: how many rounds a loop may go. -/
def run (P : Program) (hn : Hints) (call : Callf) (n : Nat) : Nat → Code → LC → St → Cont → Ans
  | 0 => fun _ _ _ _ => none
  | d + 1 => fun c l σ k => runC P hn (run P hn call n d) call n c l σ k

def depthN : Nat := 3

/-- A function's body, its callees told by 'call'; kk: what is to be done with its answer. -/
def runK (P : Program) (hn : Hints) (call : Callf) (n : Nat) (f : FuncId) (args : List AV) (m : List Slot) (kk : AV → List Slot → Ans) : Ans :=
  match fnOf P f with
  | none => none
  | some fn =>
    match fn.body with
    | none => none
    | some b => run P hn call n depthN b ⟨m.length, resBits fn, [], [], resBits fn⟩ ⟨args ++ List.replicate (fn.ntmps - args.length) undefA, m⟩ (finK P fn m.length kk)

def retK (v : AV) (m : List Slot) : Ans := some (v, m)

/-- A function's answer. -/
def runF (P : Program) (hn : Hints) (call : Callf) (n : Nat) (f : FuncId) (args : List AV) (m : List Slot) : Ans := runK P hn call n f args m retK

/-- No callee is known. -/
def noCall : Callf := ⟨fun _ _ _ => none, fun _ _ _ _ => none⟩

end Go.Ab

/- The framework, part 4: what abstract values and an abstract memory say of Go's values and memory; first laws. -/
namespace Go.Ab
set_option linter.unusedVariables false

structure Loc where
  nil : Bool
  blk : Nat
  off : Nat
  len : Nat
  sz : Nat
  bsz : Nat

abbrev Locs := Nat → Option Loc

/-- The cells g are plain data x of type t; what they lead to lies in blocks of K. -/
def TyR (K : Nat → Prop) (w : World) : (t : Ty) → t.den → (Nat → Value) → Prop
  | .int k, x, f => f 0 = .int k x
  | .bool, b, f => f 0 = .bool b
  | .str, s, f => f 0 = .string s
  | .list e, l, f => ∃ a c, f 0 = .slice a (List.length l) c ∧ List.length l ≤ c ∧
      ∀ i x, l[i]? = some x → ∃ blk off g, a = some ⟨blk, off, none⟩ ∧ K blk ∧
        (∀ j, j < e.size → w.cell? ⟨blk, off + (i * e.size + j), none⟩ = some (g j)) ∧ TyR K w e x g
  | .pair a b, x, f => TyR K w a x.1 f ∧ TyR K w b x.2 (fun j => f (a.size + j))

def TailR (L : Loc) (i : Nat) (v : Value) : Prop :=
  i ≤ L.len ∧ ∃ a c, v = .slice a (L.len - i) c ∧ L.len - i ≤ c ∧
    (0 < c → L.nil = false ∧ a = some ⟨L.blk, L.off + i * L.sz, none⟩ ∧ L.off + (i + c) * L.sz ≤ L.bsz)

mutual
inductive VR (K : Nat → Prop) (ρ : Locs) (w : World) : AV → Value → Prop where
  | junk (v : Value) : VR K ρ w .junk v
  | bool (b : Bool) : VR K ρ w (.bool b) (.bool b)
  | int (k : IntKind) (n : Int) : VR K ρ w (.int k n) (.int k n)
  | flt (k : FloatKind) (b : Nat) : VR K ρ w (.flt k b) (.float k b)
  | cpx (k : FloatKind) (a b : Nat) : VR K ρ w (.cpx k a b) (.complex k a b)
  | str (s : ByteArray) : VR K ρ w (.str s) (.string s)
  | nilp : VR K ρ w .nilp (.pointer none)
  | nilm : VR K ρ w .nilm (.map none)
  | nilf : VR K ρ w .nilf .nilFunc
  | nili : VR K ρ w .nili .nilIface
  | nil0 (a : Option Addr) : VR K ρ w .nil0 (.slice a 0 0)
  | nils (e : Ty) (a : Option Addr) : VR K ρ w (.nils e) (.slice a 0 0)
  | ro (e : Ty) (l : List e.den) (v : Value) (h : TyR K w (.list e) l (fun _ => v)) : VR K ρ w (.ro e l) v
  | rop (t : Ty) (x : t.den) (j : Nat) (blk off : Nat) (g : Nat → Value) (hk : K blk)
      (hc : ∀ j, j < t.size → w.cell? ⟨blk, off + j, none⟩ = some (g j)) (h : TyR K w t x g) : VR K ρ w (.rop t x j) (.pointer (some ⟨blk, off + j, none⟩))
  | ptr (b j : Nat) (L : Loc) (h : ρ b = some L) : VR K ρ w (.ptr b j) (.pointer (some ⟨L.blk, L.off + j, none⟩))
  | eptr (b i j : Nat) (L : Loc) (h : ρ b = some L) (hlt : i < L.len) : VR K ρ w (.eptr b i j) (.pointer (some ⟨L.blk, L.off + (i * L.sz + j), none⟩))
  | tail (b i : Nat) (L : Loc) (v : Value) (h : ρ b = some L) (ht : TailR L i v) : VR K ρ w (.tail b i) v
  | bsl (b n c : Nat) (L : Loc) (h : ρ b = some L) (hc : n ≤ c) : VR K ρ w (.bsl b n) (.slice (some ⟨L.blk, L.off, none⟩) n c)
  | fn (f : Fn) (a c : List AV) (as cs : List Value) (ha : VRL K ρ w a as) (hc : VRL K ρ w c cs) : VR K ρ w (.fn f a c) (.func f as.toArray cs.toArray)
  | ifc (t : TypeId) (a : AV) (v : Value) (h : VR K ρ w a v) : VR K ρ w (.ifc t a) (.iface t v)
  | agg (cs : List AV) (vs : List Value) (h : VRL K ρ w cs vs) : VR K ρ w (.agg cs) (.agg vs.toArray)
  | tup (cs : List AV) (vs : List Value) (h : VRL K ρ w cs vs) : VR K ρ w (.tup cs) (.tuple vs.toArray)
inductive VRL (K : Nat → Prop) (ρ : Locs) (w : World) : List AV → List Value → Prop where
  | nil : VRL K ρ w [] []
  | cons (a : AV) (v : Value) (as : List AV) (vs : List Value) (h : VR K ρ w a v) (t : VRL K ρ w as vs) : VRL K ρ w (a :: as) (v :: vs)
end

def AObj.own : AObj → Bool
  | .frows _ _ => false
  | _ => true

def RowsR (K : Nat → Prop) (w : World) (L : Loc) (t : Ty) (l : List t.den) : Prop :=
  L.sz = t.size ∧ L.len = List.length l ∧ (L.nil = true → l = []) ∧
    (L.nil = false → ∃ vs e, w.heap[L.blk]? = some (.cells vs e (0, 0)) ∧ vs.size = L.bsz ∧
      ∀ i x, l[i]? = some x → ∃ g, (∀ j, j < t.size → vs[L.off + (i * t.size + j)]? = some (g j)) ∧ TyR K w t x g)

def OR (K : Nat → Prop) (ρ : Locs) (w : World) (L : Loc) : AObj → Prop
  | .box cs => L.nil = false ∧ L.off = 0 ∧ ∃ vs e, w.heap[L.blk]? = some (.cells vs.toArray e (0, 0)) ∧ VRL K ρ w cs vs
  | .rows t l => RowsR K w L t l
  | .frows t l => RowsR K w L t l ∧ (L.nil = false → K L.blk)

structure Inv (K F : Nat → Prop) (ρ : Locs) (m : List Slot) (w : World) : Prop where
  kw : ∀ b, K b → b < w.heap.size
  fw : ∀ b, F b → b < w.heap.size
  dis : ∀ b, K b → ¬ F b
  ob : ∀ b o, m[b]? = some (.obj o) → ∃ L, ρ b = some L ∧ OR K ρ w L o ∧ (o.own = true → L.nil = false → ¬ K L.blk ∧ ¬ F L.blk)
  inj : ∀ b b' o o' L L', m[b]? = some (.obj o) → m[b']? = some (.obj o') → o.own = true → o'.own = true → ρ b = some L → ρ b' = some L' →
    L.nil = false → L'.nil = false → L.blk = L'.blk → b = b'
  fr : ∀ b L, ρ b = some L → b < m.length ∧ m[b]? ≠ some .free

structure Step (K F : Nat → Prop) (ρ : Locs) (w : World) (K' : Nat → Prop) (ρ' : Locs) (w' : World) : Prop where
  sub : ∀ b, K b → K' b
  keepK : ∀ b, K b → w'.heap[b]? = w.heap[b]?
  keepF : ∀ b, F b → w'.heap[b]? = w.heap[b]?
  loc : ∀ b L, ρ b = some L → ρ' b = some L
  size : w.heap.size ≤ w'.heap.size
  os : w'.os = w.os
  tape : w'.tape = w.tape
  output : w'.output = w.output

theorem Step.refl (K F : Nat → Prop) (ρ : Locs) (w : World) : Step K F ρ w K ρ w :=
  ⟨fun _ h => h, fun _ _ => rfl, fun _ _ => rfl, fun _ _ h => h, Nat.le_refl _, rfl, rfl, rfl⟩

theorem Step.trans {K F : Nat → Prop} {ρ : Locs} {w : World} {K1 : Nat → Prop} {ρ1 : Locs} {w1 : World} {K2 : Nat → Prop} {ρ2 : Locs} {w2 : World}
    (a : Step K F ρ w K1 ρ1 w1) (b : Step K1 F ρ1 w1 K2 ρ2 w2) : Step K F ρ w K2 ρ2 w2 :=
  ⟨fun x h => b.sub x (a.sub x h), fun x h => (b.keepK x (a.sub x h)).trans (a.keepK x h), fun x h => (b.keepF x h).trans (a.keepF x h),
    fun x L h => b.loc x L (a.loc x L h), Nat.le_trans a.size b.size, b.os.trans a.os, b.tape.trans a.tape, b.output.trans a.output⟩

theorem Ty.size_pos (t : Ty) : 0 < t.size := by
  induction t with
  | pair a b ha hb => simp only [Ty.size]; omega
  | _ => simp [Ty.size]

theorem cell?_same {w w' : World} {b o : Nat} (h : w'.heap[b]? = w.heap[b]?) : w'.cell? ⟨b, o, none⟩ = w.cell? ⟨b, o, none⟩ := by
  simp [World.cell?, h]

theorem TyR.mono {K K' : Nat → Prop} {w w' : World} (hs : ∀ b, K b → K' b) (hk : ∀ b, K b → w'.heap[b]? = w.heap[b]?) :
    ∀ (t : Ty) (x : t.den) (f : Nat → Value), TyR K w t x f → TyR K' w' t x f := by
  intro t
  induction t with
  | int k => intro x f h; exact h
  | bool => intro x f h; exact h
  | str => intro x f h; exact h
  | list e ih =>
    intro l f h
    obtain ⟨a, c, h1, h2, h3⟩ := h
    refine ⟨a, c, h1, h2, fun i x hi => ?_⟩
    obtain ⟨blk, off, g, e1, e2, e3, e4⟩ := h3 i x hi
    exact ⟨blk, off, g, e1, hs _ e2, fun j hj => (cell?_same (hk _ e2)).trans (e3 j hj), ih _ _ e4⟩
  | pair a b iha ihb =>
    intro x f h
    exact ⟨iha _ _ h.1, ihb _ _ h.2⟩

mutual
theorem VR.mono {K K' : Nat → Prop} {ρ ρ' : Locs} {w w' : World} (hs : ∀ b, K b → K' b) (hk : ∀ b, K b → w'.heap[b]? = w.heap[b]?)
    (hl : ∀ b L, ρ b = some L → ρ' b = some L) {a : AV} {v : Value} (h : VR K ρ w a v) : VR K' ρ' w' a v := by
  cases h with
  | junk => exact .junk _
  | bool => exact .bool _
  | int => exact .int _ _
  | flt => exact .flt _ _
  | cpx => exact .cpx _ _ _
  | str => exact .str _
  | nilp => exact .nilp
  | nilm => exact .nilm
  | nilf => exact .nilf
  | nili => exact .nili
  | nil0 a => exact .nil0 _
  | nils e a => exact .nils _ _
  | ro e l v h => exact .ro _ _ _ (TyR.mono hs hk _ _ _ h)
  | rop t x j blk off g hk' hc h => exact .rop _ _ _ _ _ g (hs _ hk') (fun j hj => (cell?_same (hk _ hk')).trans (hc j hj)) (TyR.mono hs hk _ _ _ h)
  | ptr b j L h => exact .ptr _ _ _ (hl _ _ h)
  | eptr b i j L h hlt => exact .eptr _ _ _ _ (hl _ _ h) hlt
  | tail b i L v h ht => exact .tail _ _ L _ (hl _ _ h) ht
  | bsl b n c L h hc => exact .bsl _ _ _ _ (hl _ _ h) hc
  | fn f a c as cs ha hc => exact .fn _ _ _ _ _ (VRL.mono hs hk hl ha) (VRL.mono hs hk hl hc)
  | ifc t a v h => exact .ifc _ _ _ (VR.mono hs hk hl h)
  | agg cs vs h => exact .agg _ _ (VRL.mono hs hk hl h)
  | tup cs vs h => exact .tup _ _ (VRL.mono hs hk hl h)
theorem VRL.mono {K K' : Nat → Prop} {ρ ρ' : Locs} {w w' : World} (hs : ∀ b, K b → K' b) (hk : ∀ b, K b → w'.heap[b]? = w.heap[b]?)
    (hl : ∀ b L, ρ b = some L → ρ' b = some L) {a : List AV} {v : List Value} (h : VRL K ρ w a v) : VRL K' ρ' w' a v := by
  cases h with
  | nil => exact .nil
  | cons a v as vs h t => exact .cons _ _ _ _ (VR.mono hs hk hl h) (VRL.mono hs hk hl t)
end

theorem Step.vr {K F : Nat → Prop} {ρ : Locs} {w : World} {K1 : Nat → Prop} {ρ1 : Locs} {w1 : World} (s : Step K F ρ w K1 ρ1 w1) {a : AV} {v : Value}
    (h : VR K ρ w a v) : VR K1 ρ1 w1 a v := VR.mono s.sub s.keepK s.loc h
theorem Step.vrl {K F : Nat → Prop} {ρ : Locs} {w : World} {K1 : Nat → Prop} {ρ1 : Locs} {w1 : World} (s : Step K F ρ w K1 ρ1 w1) {a : List AV} {v : List Value}
    (h : VRL K ρ w a v) : VRL K1 ρ1 w1 a v := VRL.mono s.sub s.keepK s.loc h

/-! ### lists of values -/
section
variable {K : Nat → Prop} {ρ : Locs} {w : World}

theorem VRL.length {a : List AV} {v : List Value} (h : VRL K ρ w a v) : a.length = v.length := by
  induction a generalizing v with
  | nil => cases h; rfl
  | cons x xs ih => cases h with | cons _ _ _ _ h t => simp [ih t]

theorem VRL.get {a : List AV} {v : List Value} (h : VRL K ρ w a v) (i : Nat) (hi : i < v.length) : VR K ρ w (a.getD i .junk) (v.getD i undef) := by
  induction a generalizing v i with
  | nil => cases h; simp at hi
  | cons x xs ih =>
    cases h with
    | cons _ u _ us h t =>
      cases i with
      | zero => simpa using h
      | succ i => simpa using ih t i (by simpa using hi)

theorem VRL.append {a b : List AV} {v u : List Value} (h : VRL K ρ w a v) (h' : VRL K ρ w b u) : VRL K ρ w (a ++ b) (v ++ u) := by
  induction a generalizing v with
  | nil => cases h; exact h'
  | cons x xs ih => cases h with | cons _ _ _ _ h t => exact .cons _ _ _ _ h (ih t)

theorem VRL.take {a : List AV} {v : List Value} (h : VRL K ρ w a v) (n : Nat) : VRL K ρ w (a.take n) (v.take n) := by
  induction a generalizing v n with
  | nil => cases h; simp; exact .nil
  | cons x xs ih =>
    cases h with
    | cons _ _ _ _ h t =>
      cases n with
      | zero => exact .nil
      | succ n => exact .cons _ _ _ _ h (ih t n)

theorem VRL.drop {a : List AV} {v : List Value} (h : VRL K ρ w a v) (n : Nat) : VRL K ρ w (a.drop n) (v.drop n) := by
  induction a generalizing v n with
  | nil => cases h; simp; exact .nil
  | cons x xs ih =>
    cases h with
    | cons _ _ _ _ h t =>
      cases n with
      | zero => exact .cons _ _ _ _ h t
      | succ n => exact ih t n

theorem VRL.replicate {a : AV} {v : Value} (h : VR K ρ w a v) (n : Nat) : VRL K ρ w (List.replicate n a) (List.replicate n v) := by
  induction n with
  | zero => exact .nil
  | succ n ih => exact .cons _ _ _ _ h ih

theorem VRL.set {a : List AV} {v : List Value} (h : VRL K ρ w a v) (i : Nat) {x : AV} {u : Value} (hx : VR K ρ w x u) : VRL K ρ w (a.set i x) (v.set i u) := by
  induction a generalizing v i with
  | nil => cases h; exact .nil
  | cons y ys ih =>
    cases h with
    | cons _ _ _ _ h t =>
      cases i with
      | zero => exact .cons _ _ _ _ hx t
      | succ i => exact .cons _ _ _ _ h (ih t i)

theorem VRL.map {α : Type} {f : α → AV} {g : α → Value} (l : List α) (h : ∀ x ∈ l, VR K ρ w (f x) (g x)) : VRL K ρ w (l.map f) (l.map g) := by
  induction l with
  | nil => exact .nil
  | cons x xs ih => exact .cons _ _ _ _ (h x (by simp)) (ih fun y hy => h y (by simp [hy]))

/-! ### plain data as cells -/
theorem enc_length (t : Ty) (x : t.den) : (t.enc x).length = t.size := by
  induction t with
  | pair a b iha ihb => simp [Ty.enc, Ty.size, iha, ihb]
  | _ => simp [Ty.enc, Ty.size]

theorem TyR.enc {t : Ty} {x : t.den} {g : Nat → Value} (h : TyR K w t x g) : VRL K ρ w (t.enc x) ((List.range t.size).map g) := by
  induction t generalizing g with
  | int k => simp only [TyR] at h; simp [Ty.enc, Ty.size, List.range_succ, h]; exact .cons _ _ _ _ (.int _ _) .nil
  | bool => simp only [TyR] at h; simp [Ty.enc, Ty.size, List.range_succ, h]; exact .cons _ _ _ _ (.bool _) .nil
  | str => simp only [TyR] at h; simp [Ty.enc, Ty.size, List.range_succ, h]; exact .cons _ _ _ _ (.str _) .nil
  | list e ih =>
    simp only [Ty.enc, Ty.size, List.range_succ, List.range_zero, List.nil_append, List.map_cons, List.map_nil]
    refine .cons _ _ _ _ (.ro _ _ _ ?_) .nil
    simpa [TyR] using h
  | pair a b iha ihb =>
    simp only [Ty.enc, Ty.size]
    rw [List.range_add, List.map_append, List.map_map]
    exact (iha h.1).append (ihb h.2)

theorem TyR.congr {t : Ty} {x : t.den} {f g : Nat → Value} (hfg : ∀ j, j < t.size → f j = g j) (h : TyR K w t x f) : TyR K w t x g := by
  induction t generalizing f g with
  | int k => simp only [TyR] at h ⊢; rw [← hfg 0 (by simp [Ty.size])]; exact h
  | bool => simp only [TyR] at h ⊢; rw [← hfg 0 (by simp [Ty.size])]; exact h
  | str => simp only [TyR] at h ⊢; rw [← hfg 0 (by simp [Ty.size])]; exact h
  | list e ih => simp only [TyR] at h ⊢; rw [← hfg 0 (by simp [Ty.size])]; exact h
  | pair a b iha ihb =>
    simp only [Ty.size] at hfg
    exact ⟨iha (fun j hj => hfg j (by omega)) h.1, ihb (fun j hj => hfg _ (by omega)) h.2⟩

theorem decInt_some {k : IntKind} {cs : List AV} {x : Int} (h : decInt k cs = some x) : cs = [.int k x] := by
  unfold decInt at h
  split at h
  · rename_i k' y
    split at h
    · rename_i e; subst e; simp at h; rw [h]
    · simp at h
  · simp at h
theorem decBool_some {cs : List AV} {x : Bool} (h : decBool cs = some x) : cs = [.bool x] := by
  unfold decBool at h
  split at h
  · simp at h; rw [h]
  · simp at h
theorem decStr_some {cs : List AV} {x : ByteArray} (h : decStr cs = some x) : cs = [.str x] := by
  unfold decStr at h
  split at h
  · simp at h; rw [h]
  · simp at h
theorem decList_some {e : Ty} {cs : List AV} {x : List e.den} (h : decList e cs = some x) : cs = [.ro e x] ∨ ((∃ y, cs = [.nils y]) ∨ cs = [.nil0]) ∧ x = [] := by
  unfold decList at h
  split at h
  · rename_i e' l
    split at h
    · rename_i he; subst he; simp at h; rw [h]; exact .inl rfl
    · simp at h
  · simp at h; exact .inr ⟨.inl ⟨_, rfl⟩, h⟩
  · simp at h; exact .inr ⟨.inr rfl, h⟩
  · simp at h

theorem dec_length : ∀ {t : Ty} {cs : List AV} {x : t.den}, t.dec cs = some x → cs.length = t.size := by
  intro t
  induction t with
  | int k => intro cs x h; rw [decInt_some h]; rfl
  | bool => intro cs x h; rw [decBool_some h]; rfl
  | str => intro cs x h; rw [decStr_some h]; rfl
  | list e => intro cs x h; rcases decList_some h with h | ⟨⟨y, h⟩ | h, _⟩ <;> rw [h] <;> rfl
  | pair a b iha ihb =>
    intro cs x h
    simp only [Ty.dec] at h
    split at h
    · rename_i y z hy hz
      have h1 := iha hy
      have h2 := ihb hz
      simp only [List.length_take, List.length_drop] at h1 h2
      have := Ty.size_pos b
      simp only [Ty.size]
      omega
    · simp at h

theorem TyR.nil (e : Ty) (a : Option Addr) (f : Nat → Value) (h : f 0 = .slice a 0 0) : TyR K w (.list e) ([] : List e.den) f :=
  ⟨a, 0, by simpa using h, by simp, fun i x hi => by simp at hi⟩

theorem TyR.dec {t : Ty} {cs : List AV} {vs : List Value} {x : t.den} (h : t.dec cs = some x) (hv : VRL K ρ w cs vs) : TyR K w t x (fun j => vs.getD j undef) := by
  induction t generalizing cs vs with
  | int k =>
    rw [decInt_some h] at hv
    cases hv with | cons _ _ _ _ h0 t0 => cases h0; simp [TyR]
  | bool =>
    rw [decBool_some h] at hv
    cases hv with | cons _ _ _ _ h0 t0 => cases h0; simp [TyR]
  | str =>
    rw [decStr_some h] at hv
    cases hv with | cons _ _ _ _ h0 t0 => cases h0; simp [TyR]
  | list e ih =>
    rcases decList_some h with h | ⟨⟨y, h⟩ | h, hx⟩ <;> rw [h] at hv
    · cases hv with | cons _ _ _ _ h0 t0 => cases h0 with | ro _ _ _ h1 => simpa [TyR] using h1
    · cases hv with | cons _ _ _ _ h0 t0 => cases h0 with | nils _ a => rw [hx]; exact TyR.nil e a _ (by simp)
    · cases hv with | cons _ _ _ _ h0 t0 => cases h0 with | nil0 a => rw [hx]; exact TyR.nil e a _ (by simp)
  | pair a b iha ihb =>
    simp only [Ty.dec] at h
    split at h
    · rename_i y z hy hz
      simp at h
      subst h
      have h1 := iha hy (hv.take _)
      have h2 := ihb hz (hv.drop _)
      refine ⟨h1.congr fun j hj => ?_, h2.congr fun j hj => ?_⟩
      · simp [List.getD, hj]
      · simp [List.getD, List.getElem?_drop]
    · simp at h
end

end Go.Ab

/- The framework, part 5: what becomes of an abstract memory when slots are made, written, frozen and struck. -/
namespace Go.Ab
set_option linter.unusedVariables false

section
variable {K F : Nat → Prop} {ρ : Locs} {m : List Slot} {w w' : World}

theorem heap_lt {w : World} {b : Nat} {o : Obj} (h : w.heap[b]? = some o) : b < w.heap.size := (Array.getElem?_eq_some_iff.1 h).1

def upd (ρ : Locs) (s : Nat) (L : Loc) : Locs := fun b => if b = s then some L else ρ b

theorem RowsR.move {K' : Nat → Prop} {L : Loc} {t : Ty} {l : List t.den} (hs : ∀ b, K b → K' b) (hk : ∀ b, K b → w'.heap[b]? = w.heap[b]?)
    (hb : L.nil = false → w'.heap[L.blk]? = w.heap[L.blk]?) (h : RowsR K w L t l) : RowsR K' w' L t l := by
  obtain ⟨h1, h2, h3, h4⟩ := h
  refine ⟨h1, h2, h3, fun hn => ?_⟩
  obtain ⟨vs, e, e1, e2, e3⟩ := h4 hn
  refine ⟨vs, e, (hb hn).trans e1, e2, fun i x hi => ?_⟩
  obtain ⟨g, g1, g2⟩ := e3 i x hi
  exact ⟨g, g1, TyR.mono hs hk _ _ _ g2⟩

theorem OR.move {K' : Nat → Prop} {ρ' : Locs} {L : Loc} {o : AObj} (hs : ∀ b, K b → K' b) (hk : ∀ b, K b → w'.heap[b]? = w.heap[b]?)
    (hl : ∀ b L, ρ b = some L → ρ' b = some L) (hb : L.nil = false → w'.heap[L.blk]? = w.heap[L.blk]?) (h : OR K ρ w L o) : OR K' ρ' w' L o := by
  cases o with
  | box cs =>
    obtain ⟨h1, h2, vs, e, h3, h4⟩ := h
    exact ⟨h1, h2, vs, e, (hb h1).trans h3, VRL.mono hs hk hl h4⟩
  | rows t l => exact RowsR.move hs hk hb h
  | frows t l => exact ⟨RowsR.move hs hk hb h.1, fun hn => hs _ (h.2 hn)⟩

theorem OR.lt {L : Loc} {o : AObj} (h : OR K ρ w L o) (hn : L.nil = false) : L.blk < w.heap.size := by
  cases o with
  | box cs => obtain ⟨_, _, vs, e, h3, _⟩ := h; exact heap_lt h3
  | rows t l => obtain ⟨vs, e, e1, _⟩ := h.2.2.2 hn; exact heap_lt e1
  | frows t l => obtain ⟨vs, e, e1, _⟩ := h.1.2.2.2 hn; exact heap_lt e1

/-- The heap alone matters. -/
theorem Inv.heap (h : Inv K F ρ m w) (he : w'.heap = w.heap) : Inv K F ρ m w' := by
  refine ⟨fun b hb => by rw [he]; exact h.kw b hb, fun b hb => by rw [he]; exact h.fw b hb, h.dis, fun b o hb => ?_, h.inj, h.fr⟩
  obtain ⟨L, h1, h2, h3⟩ := h.ob b o hb
  exact ⟨L, h1, OR.move (fun _ x => x) (fun b _ => by rw [he]) (fun _ _ x => x) (fun _ => by rw [he]) h2, h3⟩

/-- An object is laid into slot s: a new one, or in the place of the one that lay there. -/
theorem Inv.put (h : Inv K F ρ m w) {s : Nat} {L : Loc} {o : AObj} (hs : s < m.length) (hρ : (ρ s = none ∨ ρ s = some L)) (ho : o.own = true)
    (hsz : w.heap.size ≤ w'.heap.size)
    (hsame : ∀ b, b < w.heap.size → (L.nil = true ∨ b ≠ L.blk) → w'.heap[b]? = w.heap[b]?)
    (hfree : L.nil = false → ¬ K L.blk ∧ ¬ F L.blk ∧ ∀ b' o' L', b' ≠ s → m[b']? = some (.obj o') → o'.own = true → ρ b' = some L' → L'.nil = false → L'.blk ≠ L.blk)
    (hor : OR K (upd ρ s L) w' L o) : Inv K F (upd ρ s L) (m.set s (.obj o)) w' := by
  have hl : ∀ b L', ρ b = some L' → upd ρ s L b = some L' := fun b L' hb => by
    unfold upd
    split
    · rename_i hbs; subst hbs; rcases hρ with h0 | h0 <;> rw [h0] at hb <;> simp_all
    · exact hb
  have hkk : ∀ b, K b → w'.heap[b]? = w.heap[b]? := fun b hb => hsame b (h.kw b hb) (by
    cases hn : L.nil with
    | true => exact .inl rfl
    | false => exact .inr fun e => (hfree hn).1 (e ▸ hb))
  refine ⟨fun b hb => Nat.lt_of_lt_of_le (h.kw b hb) hsz, fun b hb => Nat.lt_of_lt_of_le (h.fw b hb) hsz, h.dis, fun b o' hb => ?_, ?_, ?_⟩
  · by_cases hbs : b = s
    · subst hbs
      simp [hs] at hb
      subst hb
      exact ⟨L, by simp [upd], hor, fun _ hn => ⟨(hfree hn).1, (hfree hn).2.1⟩⟩
    · rw [List.getElem?_set_ne (Ne.symm hbs)] at hb
      obtain ⟨L', h1, h2, h3⟩ := h.ob b o' hb
      refine ⟨L', hl b L' h1, OR.move (fun _ x => x) hkk hl (fun hn' => ?_) h2, h3⟩
      refine hsame _ (h2.lt hn') ?_
      cases hn : L.nil with
      | true => exact .inl rfl
      | false =>
        refine .inr fun e => ?_
        cases hoo : o'.own with
        | true => exact (hfree hn).2.2 b o' L' hbs hb hoo h1 hn' e
        | false =>
          cases o' with
          | frows t l => exact (hfree hn).1 (e ▸ h2.2 hn')
          | box cs => simp [AObj.own] at hoo
          | rows t l => simp [AObj.own] at hoo
  · intro b b' o1 o2 L1 L2 hb hb' ho1 ho2 hL1 hL2 hn1 hn2 he
    by_cases hbs : b = s
    · by_cases hbs' : b' = s
      · rw [hbs, hbs']
      · subst hbs
        rw [List.getElem?_set_ne (Ne.symm hbs')] at hb'
        have e1 : L1 = L := by simp [upd] at hL1; exact hL1.symm
        have e2 : ρ b' = some L2 := by simpa [upd, hbs'] using hL2
        subst e1
        exact absurd he.symm ((hfree hn1).2.2 b' o2 L2 hbs' hb' ho2 e2 hn2)
    · by_cases hbs' : b' = s
      · subst hbs'
        rw [List.getElem?_set_ne (Ne.symm hbs)] at hb
        have e1 : L2 = L := by simp [upd] at hL2; exact hL2.symm
        have e2 : ρ b = some L1 := by simpa [upd, hbs] using hL1
        subst e1
        exact absurd he ((hfree hn2).2.2 b o1 L1 hbs hb ho1 e2 hn1)
      · rw [List.getElem?_set_ne (Ne.symm hbs)] at hb
        rw [List.getElem?_set_ne (Ne.symm hbs')] at hb'
        exact h.inj b b' o1 o2 L1 L2 hb hb' ho1 ho2 (by simpa [upd, hbs] using hL1) (by simpa [upd, hbs'] using hL2) hn1 hn2 he
  · intro b L' hb
    by_cases hbs : b = s
    · subst hbs; simp [hs]
    · have := h.fr b L' (by simpa [upd, hbs] using hb)
      rw [List.getElem?_set_ne (Ne.symm hbs)]
      simpa using this

theorem upd_loc {s : Nat} {L : Loc} (hρ : (ρ s = none ∨ ρ s = some L)) : ∀ b L', ρ b = some L' → upd ρ s L b = some L' := fun b L' hb => by
  unfold upd
  split
  · rename_i hbs; subst hbs; rcases hρ with h0 | h0 <;> rw [h0] at hb <;> simp_all
  · exact hb

/-- The step that goes with it. -/
theorem Step.put (h : Inv K F ρ m w) {s : Nat} {L : Loc} (hρ : (ρ s = none ∨ ρ s = some L)) (hsz : w.heap.size ≤ w'.heap.size)
    (hsame : ∀ b, b < w.heap.size → (L.nil = true ∨ b ≠ L.blk) → w'.heap[b]? = w.heap[b]?) (hfree : L.nil = false → ¬ K L.blk ∧ ¬ F L.blk)
    (ho : w'.os = w.os) (ht : w'.tape = w.tape) (hu : w'.output = w.output) : Step K F ρ w K (upd ρ s L) w' := by
  refine ⟨fun _ x => x, fun b hb => hsame b (h.kw b hb) ?_, fun b hb => hsame b (h.fw b hb) ?_, upd_loc hρ, hsz, ho, ht, hu⟩
  · cases hn : L.nil with
    | true => exact .inl rfl
    | false => exact .inr fun e => (hfree hn).1 (e ▸ hb)
  · cases hn : L.nil with
    | true => exact .inl rfl
    | false => exact .inr fun e => (hfree hn).2 (e ▸ hb)

/-- A slot is struck. -/
theorem Inv.kill (h : Inv K F ρ m w) (s : Nat) : Inv K F ρ (m.set s .dead) w := by
  have key : ∀ b o, (m.set s .dead)[b]? = some (Slot.obj o) → b ≠ s ∧ m[b]? = some (.obj o) := fun b o hb => by
    by_cases hbs : b = s
    · subst hbs
      rw [List.getElem?_set] at hb
      simp only [if_true] at hb
      split at hb <;> simp at hb
    · rw [List.getElem?_set_ne (Ne.symm hbs)] at hb; exact ⟨hbs, hb⟩
  refine ⟨h.kw, h.fw, h.dis, fun b o hb => h.ob b o (key b o hb).2, fun b b' o o' L L' hb hb' => h.inj b b' o o' L L' (key b o hb).2 (key b' o' hb').2, fun b L hb => ?_⟩
  obtain ⟨h1, h2⟩ := h.fr b L hb
  refine ⟨by simpa using h1, ?_⟩
  by_cases hbs : b = s
  · subst hbs; simp [h1]
  · rw [List.getElem?_set_ne (Ne.symm hbs)]; exact h2

/-- Free slots are laid behind. -/
theorem Inv.grow (h : Inv K F ρ m w) (n : Nat) : Inv K F ρ (m ++ List.replicate n .free) w := by
  have key : ∀ b o, (m ++ List.replicate n Slot.free)[b]? = some (Slot.obj o) → m[b]? = some (Slot.obj o) := fun b o hb => by
    rw [List.getElem?_append] at hb
    split at hb
    · exact hb
    · rw [List.getElem?_replicate] at hb; split at hb <;> simp at hb
  refine ⟨h.kw, h.fw, h.dis, fun b o hb => h.ob b o (key b o hb), fun b b' o o' L L' hb hb' => h.inj b b' o o' L L' (key b o hb) (key b' o' hb'), fun b L hb => ?_⟩
  obtain ⟨h1, h2⟩ := h.fr b L hb
  refine ⟨by simp; omega, ?_⟩
  rw [List.getElem?_append_left h1]; exact h2

/-- A row is frozen: its block is one of K's from now on. -/
def frzK (K : Nat → Prop) (L : Loc) : Nat → Prop := fun b => K b ∨ (L.nil = false ∧ b = L.blk)

theorem Inv.freeze (h : Inv K F ρ m w) {s : Nat} {t : Ty} {l : List t.den} {L : Loc} (hm : m[s]? = some (.obj (.rows t l))) (hL : ρ s = some L) :
    Inv (frzK K L) F ρ (m.set s (.obj (.frows t l))) w := by
  have hs : s < m.length := (List.getElem?_eq_some_iff.1 hm).1
  obtain ⟨L0, hL0, hor, hfr⟩ := h.ob s _ hm
  have e0 : L0 = L := by rw [hL] at hL0; exact (Option.some.inj hL0).symm
  subst e0
  have hsub : ∀ b, K b → frzK K L0 b := fun b hb => .inl hb
  refine ⟨fun b hb => ?_, h.fw, fun b hb => ?_, fun b o hb => ?_, ?_, ?_⟩
  · rcases hb with hb | ⟨hn, rfl⟩
    · exact h.kw b hb
    · exact hor.lt hn
  · rcases hb with hb | ⟨hn, rfl⟩
    · exact h.dis b hb
    · exact (hfr rfl hn).2
  · by_cases hbs : b = s
    · subst hbs
      simp [hs] at hb
      subst hb
      refine ⟨L0, hL, ⟨?_, fun hn => .inr ⟨hn, rfl⟩⟩, fun ho => by simp [AObj.own] at ho⟩
      exact RowsR.move hsub (fun _ _ => rfl) (fun _ => rfl) hor
    · rw [List.getElem?_set_ne (Ne.symm hbs)] at hb
      obtain ⟨L', h1, h2, h3⟩ := h.ob b o hb
      refine ⟨L', h1, OR.move hsub (fun _ _ => rfl) (fun _ _ x => x) (fun _ => rfl) h2, fun ho hn => ⟨?_, (h3 ho hn).2⟩⟩
      rintro (hk | ⟨hn', he⟩)
      · exact (h3 ho hn).1 hk
      · exact hbs (h.inj b s o _ L' L0 hb hm ho rfl h1 hL hn hn' he)
  · intro b b' o o' L1 L2 hb hb' ho ho' hL1 hL2 hn1 hn2 he
    have k1 : b ≠ s := fun e => by subst e; simp [hs] at hb; subst hb; simp [AObj.own] at ho
    have k2 : b' ≠ s := fun e => by subst e; simp [hs] at hb'; subst hb'; simp [AObj.own] at ho'
    rw [List.getElem?_set_ne (Ne.symm k1)] at hb
    rw [List.getElem?_set_ne (Ne.symm k2)] at hb'
    exact h.inj b b' o o' L1 L2 hb hb' ho ho' hL1 hL2 hn1 hn2 he
  · intro b L' hb
    obtain ⟨h1, h2⟩ := h.fr b L' hb
    refine ⟨by simpa using h1, ?_⟩
    by_cases hbs : b = s
    · subst hbs; simp [hs]
    · rw [List.getElem?_set_ne (Ne.symm hbs)]; exact h2

theorem Step.freeze (h : Inv K F ρ m w) {L : Loc} : Step K F ρ w (frzK K L) ρ w :=
  ⟨fun _ x => .inl x, fun _ _ => rfl, fun _ _ => rfl, fun _ _ x => x, Nat.le_refl _, rfl, rfl, rfl⟩
end

end Go.Ab

/- The framework, part 6: freezing rows; reading. -/
namespace Go.Ab
set_option linter.unusedVariables false

theorem writeM_append (m : List Slot) (a b : List (Nat × Slot)) : writeM m (a ++ b) = writeM (writeM m a) b := by
  induction a generalizing m with
  | nil => rfl
  | cons x xs ih => obtain ⟨i, s⟩ := x; exact ih _

theorem writeM_length (m : List Slot) (a : List (Nat × Slot)) : (writeM m a).length = m.length := by
  induction a generalizing m with
  | nil => rfl
  | cons x xs ih => obtain ⟨i, s⟩ := x; simp [writeM, ih]

/-- m' is m, some rows frozen. -/
def Fz (m m' : List Slot) : Prop :=
  ∀ b : Nat, m'[b]? = m[b]? ∨ ∃ (t : Ty) (l : List t.den), m[b]? = some (Slot.obj (.rows t l)) ∧ m'[b]? = some (Slot.obj (.frows t l))

theorem Fz.refl (m : List Slot) : Fz m m := fun _ => .inl rfl

theorem getObj?_some {m : List Slot} {b : Nat} {o : AObj} (h : getObj? m b = some o) : m[b]? = some (.obj o) := by
  unfold getObj? at h
  split at h
  · rename_i o' he; simp at h; subst h; exact he
  · simp at h

theorem rowOf_some {m : List Slot} {b : Nat} {r : (t : Ty) × List t.den} (h : rowOf m b = some r) :
    m[b]? = some (.obj (.rows r.1 r.2)) ∨ m[b]? = some (.obj (.frows r.1 r.2)) := by
  unfold rowOf at h
  split at h
  · rename_i t l he; simp at h; subst h; exact .inl (getObj?_some he)
  · rename_i t l he; simp at h; subst h; exact .inr (getObj?_some he)
  · simp at h

section
variable {K F : Nat → Prop} {ρ : Locs} {m : List Slot} {w w' : World}

/-- What is known of a row's place. -/
theorem Inv.row (h : Inv K F ρ m w) {b : Nat} {r : (t : Ty) × List t.den} (hr : rowOf m b = some r) : ∃ L, ρ b = some L ∧ RowsR K w L r.1 r.2 := by
  rcases rowOf_some hr with e | e
  · obtain ⟨L, h1, h2, _⟩ := h.ob b _ e; exact ⟨L, h1, h2⟩
  · obtain ⟨L, h1, h2, _⟩ := h.ob b _ e; exact ⟨L, h1, h2.1⟩

theorem frzK_mono {L : Loc} {b : Nat} (h : K b) : frzK K L b := .inl h

/-- A row's elements as read-only data. -/
theorem RowsR.tyR {L : Loc} {t : Ty} {l : List t.den} (hr : RowsR K w L t l) (hk : L.nil = false → K L.blk) {i : Nat} {v : Value} (hv : TailR L i v) :
    TyR K w (.list t) (l.drop i) (fun _ => v) := by
  obtain ⟨h1, h2, h3, h4⟩ := hr
  obtain ⟨g1, a, c, g2, g3, g4⟩ := hv
  refine ⟨a, c, by rw [g2, h2]; simp, by rw [List.length_drop, ← h2]; exact g3, fun j x hx => ?_⟩
  have hj : j < (l.drop i).length := (List.getElem?_eq_some_iff.1 hx).1
  rw [List.length_drop] at hj
  have hn : L.nil = false := by
    cases hn : L.nil with
    | false => rfl
    | true => rw [h3 hn] at hj; simp at hj
  obtain ⟨_, ha, _⟩ := g4 (by omega)
  obtain ⟨vs, e, e1, e2, e3⟩ := h4 hn
  obtain ⟨g, k1, k2⟩ := e3 (i + j) x (by simpa [List.getElem?_drop] using hx)
  refine ⟨L.blk, L.off + i * L.sz, g, ha, hk hn, fun q hq => ?_, k2⟩
  have := k1 q hq
  rw [h1]
  rw [show L.off + i * t.size + (j * t.size + q) = L.off + ((i + j) * t.size + q) by rw [Nat.add_mul]; omega]
  simp [World.cell?, e1, this]

/-- One value frozen. -/
theorem frz_sound (hz : ∀ m', Fz m m' → True) {v x : AV} {wr : List (Nat × Slot)} (hf : frz m v = some (x, wr)) {m' : List Slot} (hm : Fz m m') (hi : Inv K F ρ m' w)
    {u : Value} (hv : VR K ρ w v u) :
    ∃ K', Step K F ρ w K' ρ w ∧ Inv K' F ρ (writeM m' wr) w ∧ Fz m (writeM m' wr) ∧ VR K' ρ w x u := by
  unfold frz at hf
  split at hf
  · rename_i b i
    simp only [Option.map_eq_some_iff] at hf
    obtain ⟨r, hr, he⟩ := hf
    simp only [Prod.mk.injEq] at he
    obtain ⟨rfl, rfl⟩ := he
    cases hv with
    | tail _ _ L _ hL ht =>
      have hdrop : (if i = 0 then r.2 else r.2.drop i) = r.2.drop i := by split <;> simp_all
      have hb : m'[b]? = some (.obj (.rows r.1 r.2)) ∨ m'[b]? = some (.obj (.frows r.1 r.2)) := by
        rcases rowOf_some hr with e | e
        · rcases hm b with e' | ⟨t, l, e1, e2⟩
          · exact .inl (e'.trans e)
          · rw [e] at e1; simp at e1; obtain ⟨rfl, e1⟩ := e1; simp at e1; subst e1; exact .inr e2
        · rcases hm b with e' | ⟨t, l, e1, e2⟩
          · exact .inr (e'.trans e)
          · rw [e] at e1; simp at e1
      have hFz : Fz m (m'.set b (.obj (.frows r.1 r.2))) := fun c => by
        by_cases hc : c = b
        · subst hc
          have hlt : c < m'.length := by rcases hb with e | e <;> exact (List.getElem?_eq_some_iff.1 e).1
          rcases rowOf_some hr with e | e
          · exact .inr ⟨r.1, r.2, e, by simp [hlt]⟩
          · exact .inl (by simp [hlt, e])
        · rw [List.getElem?_set_ne (Ne.symm hc)]; exact hm c
      rcases hb with e | e
      · refine ⟨frzK K L, Step.freeze hi, hi.freeze e hL, hFz, ?_⟩
        obtain ⟨L0, h1, h2, _⟩ := hi.ob b _ e
        rw [hL] at h1
        obtain rfl := Option.some.inj h1
        refine .ro _ _ _ ?_
        rw [hdrop]
        exact RowsR.tyR (RowsR.move (fun _ x => .inl x) (fun _ _ => rfl) (fun _ => rfl) h2) (fun hn => .inr ⟨hn, rfl⟩) ht
      · have hset : m'.set b (.obj (.frows r.1 r.2)) = m' := by
          apply List.ext_getElem?
          intro c
          by_cases hc : c = b
          · subst hc; rw [List.getElem?_set, if_pos rfl, if_pos (List.getElem?_eq_some_iff.1 e).1, e]
          · rw [List.getElem?_set_ne (Ne.symm hc)]
        simp only [writeM]
        rw [hset] at hFz ⊢
        refine ⟨K, Step.refl _ _ _ _, hi, hFz, ?_⟩
        obtain ⟨L0, h1, h2, _⟩ := hi.ob b _ e
        rw [hL] at h1
        obtain rfl := Option.some.inj h1
        refine .ro _ _ _ ?_
        rw [hdrop]
        exact RowsR.tyR h2.1 h2.2 ht
  · split at hf
    · simp at hf
      obtain ⟨rfl, rfl⟩ := hf
      exact ⟨K, Step.refl _ _ _ _, hi, hm, hv⟩
    · simp at hf

theorem frzL_sound {vs xs : List AV} {wr : List (Nat × Slot)} (hf : frzL m vs = some (xs, wr)) : ∀ {m' : List Slot} {K : Nat → Prop} {us : List Value}, Fz m m' → Inv K F ρ m' w → VRL K ρ w vs us →
    ∃ K', Step K F ρ w K' ρ w ∧ Inv K' F ρ (writeM m' wr) w ∧ Fz m (writeM m' wr) ∧ VRL K' ρ w xs us := by
  induction vs generalizing xs wr with
  | nil =>
    intro m' K us hm hi hv
    simp [frzL] at hf
    obtain ⟨rfl, rfl⟩ := hf
    cases hv
    exact ⟨K, Step.refl _ _ _ _, hi, hm, .nil⟩
  | cons v vs ih =>
    intro m' K us hm hi hv
    simp only [frzL] at hf
    split at hf
    · rename_i x a ys b h1 h2
      simp only [Option.some.injEq, Prod.mk.injEq] at hf
      obtain ⟨rfl, rfl⟩ := hf
      cases hv with
      | cons _ u _ us h t =>
        obtain ⟨K1, s1, i1, f1, v1⟩ := frz_sound (fun _ _ => trivial) h1 hm hi h
        obtain ⟨K2, s2, i2, f2, v2⟩ := ih h2 f1 i1 (s1.vrl t)
        rw [writeM_append]
        exact ⟨K2, s1.trans s2, i2, f2, .cons _ _ _ _ (s2.vr v1) v2⟩
    · simp at hf

theorem frzV_sound {v x : AV} {wr : List (Nat × Slot)} (hf : frzV m v = some (x, wr)) {u : Value} (hi : Inv K F ρ m w) (hv : VR K ρ w v u) :
    ∃ K', Step K F ρ w K' ρ w ∧ Inv K' F ρ (writeM m wr) w ∧ VR K' ρ w x u := by
  unfold frzV at hf
  split at hf
  · simp only [Option.map_eq_some_iff] at hf
    obtain ⟨r, hr, he⟩ := hf
    simp only [Prod.mk.injEq] at he
    obtain ⟨rfl, rfl⟩ := he
    cases hv with
    | agg _ vs h =>
      obtain ⟨K1, s1, i1, _, v1⟩ := frzL_sound hr (Fz.refl m) hi h
      exact ⟨K1, s1, i1, .agg _ _ v1⟩
  · simp only [Option.map_eq_some_iff] at hf
    obtain ⟨r, hr, he⟩ := hf
    simp only [Prod.mk.injEq] at he
    obtain ⟨rfl, rfl⟩ := he
    cases hv with
    | tup _ vs h =>
      obtain ⟨K1, s1, i1, _, v1⟩ := frzL_sound hr (Fz.refl m) hi h
      exact ⟨K1, s1, i1, .tup _ _ v1⟩
  · obtain ⟨K1, s1, i1, _, v1⟩ := frz_sound (fun _ _ => trivial) hf (Fz.refl m) hi hv
    exact ⟨K1, s1, i1, v1⟩

/-! ### constants and operands -/
theorem cst_vr (v : Value) : VR K ρ w (cst v) v := by
  unfold cst
  split <;> first | exact .bool _ | exact .int _ _ | exact .flt _ _ | exact .cpx _ _ _ | exact .str _ | exact .nilp | exact .nil0 _ | exact .nilm | exact .nilf | exact .nili | exact .junk _

theorem cstC_vr (v : Value) : VR K ρ w (cstC v) v := by
  unfold cstC
  split
  · rename_i cs
    have h : VRL K ρ w (cs.toList.map cst) cs.toList := by
      have := VRL.map (K := K) (ρ := ρ) (w := w) (f := cst) (g := id) cs.toList fun x _ => cst_vr x
      simpa using this
    have := VR.agg (K := K) (ρ := ρ) (w := w) _ _ h
    simpa using this
  · exact .junk _
  · exact cst_vr _

def EnvR (K : Nat → Prop) (ρ : Locs) (w : World) (env : List AV) (tmps : Array Value) : Prop := ∀ i, VR K ρ w (env.getD i .junk) (tmps.getD i undef)

theorem EnvR.mono {K' : Nat → Prop} {ρ' : Locs} {env : List AV} {tmps : Array Value} (s : Step K F ρ w K' ρ' w') (h : EnvR K ρ w env tmps) : EnvR K' ρ' w' env tmps := fun i => s.vr (h i)

theorem ev_vr {env : List AV} {a : Act} (h : EnvR K ρ w env a.tmps) (x : Operand) : VR K ρ w (ev env x) (a.eval x) := by
  cases x with
  | tmp t => exact h t
  | const v => exact cstC_vr v
  | global g => exact .junk _
  | func f => exact .fn _ _ _ [] [] .nil .nil

theorem fixC_vr (P : Program) (t : TypeId) {v : AV} {u : Value} (h : VR K ρ w v u) : VR K ρ w (fixC P t v) u := by
  unfold fixC
  split
  · cases h with
    | nil0 a =>
      split
      · split
        · exact .nils _ _
        · exact .nil0 _
      · exact .nil0 _
  · exact h

theorem fixL_vr (P : Program) : ∀ (ts : List TypeId) {vs : List AV} {us : List Value}, VRL K ρ w vs us → VRL K ρ w (fixL P ts vs) us
  | [], _, _, h => by simpa [fixL] using h
  | t :: ts, _, _, .nil => by simpa [fixL] using .nil
  | t :: ts, _, _, .cons _ _ _ _ h r => .cons _ _ _ _ (fixC_vr P t h) (fixL_vr P ts r)

theorem fixT_vr (P : Program) (t : TypeId) {v : AV} {u : Value} (h : VR K ρ w v u) : VR K ρ w (fixT P t v) u := by
  unfold fixT
  split
  · cases h with | agg _ _ h => exact .agg _ _ (fixL_vr P _ h)
  · exact fixC_vr P t h

/-! ### values without addresses -/
theorem toV_eq {v : AV} {x u : Value} (h : toV v = some x) (hv : VR K ρ w v u) : u = x := by
  cases hv <;> simp [toV] at h <;> exact h

theorem toVL_eq {vs : List AV} {xs us : List Value} (h : toVL vs = some xs) (hv : VRL K ρ w vs us) : us = xs := by
  induction vs generalizing xs us with
  | nil => cases hv; simp [toVL] at h; first | exact h.symm | exact h
  | cons v vs ih =>
    cases hv with
    | cons _ u _ us h1 t =>
      simp only [toVL] at h
      split at h
      · rename_i y ys e1 e2
        simp at h
        rw [← h, toV_eq e1 h1, ih e2 t]
      · simp at h

theorem toVC_eq {v : AV} {x u : Value} (h : toVC v = some x) (hv : VR K ρ w v u) : u = x := by
  unfold toVC at h
  split at h
  · simp only [Option.map_eq_some_iff] at h
    obtain ⟨l, h1, rfl⟩ := h
    cases hv with | agg _ us h => rw [toVL_eq h1 h]
  · simp only [Option.map_eq_some_iff] at h
    obtain ⟨l, h1, rfl⟩ := h
    cases hv with | tup _ us h => rw [toVL_eq h1 h]
  · exact toV_eq h hv

theorem ofV_vr {v : Value} {a : AV} (h : ofV v = some a) : VR K ρ w a v := by
  unfold ofV at h
  split at h <;> simp at h <;> subst h <;> first | exact .bool _ | exact .int _ _ | exact .flt _ _ | exact .cpx _ _ _ | exact .str _

theorem semEv_run {α : Type} {P : Program} {s : Sem α} {a : α} (w : World) (h : semEv P s = some a) : s.run P w = .ok a w := by
  induction s with
  | pure b => simp [semEv] at h; subst h; rfl
  | program k ih => simp only [semEv] at h; simp only [Sem.run]; exact ih P h
  | mark _ k ih => simp only [semEv] at h; simp only [Sem.run]; exact ih h
  | _ => simp [semEv] at h
end

end Go.Ab

/- The framework, part 7: each operation does what the interpreter says. -/
namespace Go.Ab
set_option linter.unusedVariables false

section
variable {P : Program} {K F : Nat → Prop} {ρ : Locs} {m : List Slot} {w : World}

theorem run_typeInfo' {t : TypeId} {i : TypeInfo} (h : P.info? t = some i) (w : World) : (typeInfo t).run P w = .ok i w := by simp [typeInfo, h]
theorem run_sizeOf' {t : TypeId} {n : Nat} (h : sizeP P t = some n) (w : World) : (sizeOf t).run P w = .ok n w := by
  unfold sizeP at h
  simp only [Option.map_eq_some_iff] at h
  obtain ⟨i, h1, rfl⟩ := h
  simp [sizeOf, run_typeInfo' h1]
theorem run_isAgg' {t : TypeId} {g : Bool} (h : isAggP P t = some g) (w : World) : (isAgg t).run P w = .ok g w := by
  unfold isAggP at h
  simp only [Option.map_eq_some_iff] at h
  obtain ⟨d, h1, rfl⟩ := h
  simp only [isAgg, Sem.run_bind, run_underlying h1, Result.andThen_ok]
  cases d <;> rfl
theorem run_zeroValue' {t : TypeId} {z : Value} (h : (P.info? t).bind (·.zero) = some z) (w : World) : (zeroValue t).run P w = .ok z w := by
  simp only [Option.bind_eq_some_iff] at h
  obtain ⟨i, h1, h2⟩ := h
  simp [zeroValue, run_typeInfo' h1, h2]

theorem zeroA_some {t : TypeId} {cs : List AV} (h : (zeroA P t).bind AV.cells = some cs) : ∃ z, (P.info? t).bind (·.zero) = some z ∧ (fixT P t (cstC z)).cells = some cs := by
  simp only [zeroA, Option.bind_eq_some_iff, Option.map_eq_some_iff] at h
  obtain ⟨a, ⟨z, ⟨i, h1, h2⟩, rfl⟩, h3⟩ := h
  exact ⟨z, by simp [h1, h2], h3⟩

theorem VR.cells {a : AV} {v : Value} {cs : List AV} (h : VR K ρ w a v) (hc : a.cells = some cs) : VRL K ρ w cs v.cells.toList := by
  cases h <;> simp [AV.cells] at hc <;> subst hc <;> simp only [Value.cells]
  case agg h => exact h
  case ro e l h => obtain ⟨a, c, h1, h2⟩ := id h; subst h1; exact .cons _ _ _ _ (.ro _ _ _ h) .nil
  case tail b i L h ht => obtain ⟨_, a, c, h1, _⟩ := id ht; subst h1; exact .cons _ _ _ _ (.tail _ _ L _ h ht) .nil
  all_goals (refine .cons _ _ _ _ ?_ .nil)
  case bool => exact .bool _
  case int => exact .int _ _
  case flt => exact .flt _ _
  case cpx => exact .cpx _ _ _
  case str => exact .str _
  case nilp => exact .nilp
  case nilm => exact .nilm
  case nilf => exact .nilf
  case nili => exact .nili
  case nil0 => exact .nil0 _
  case nils => exact .nils _ _
  case rop t x j blk off g hk hc h => exact .rop _ _ _ _ _ g hk hc h
  case ptr b j L h => exact .ptr _ _ _ h
  case eptr b i j L h hlt => exact .eptr _ _ _ _ h hlt
  case bsl b n c L h hc => exact .bsl _ _ _ _ h hc
  case fn f a c as cs ha hc => exact .fn _ _ _ _ _ ha hc
  case ifc t a v h => exact .ifc _ _ _ h
  case tup cs vs h => exact .tup _ _ h

theorem VR.oneCell {a : AV} {v : Value} (h : VR K ρ w a v) (hc : a.cell = true) : v.oneCell' = true := by
  cases h <;> simp [AV.cell] at hc <;> try rfl
  case ro e l h => obtain ⟨a, c, h1, h2⟩ := h; subst h1; rfl
  case tail b i L h ht => obtain ⟨_, a, c, h1, _⟩ := ht; subst h1; rfl

theorem VRL.oneCell {as : List AV} {vs : List Value} (h : VRL K ρ w as vs) (hc : as.all AV.cell = true) : ∀ v ∈ vs, v.oneCell' = true := by
  induction as generalizing vs with
  | nil => cases h; simp
  | cons a as ih =>
    cases h with
    | cons _ v _ vs h t =>
      simp only [List.all_cons, Bool.and_eq_true] at hc
      intro x hx
      rcases List.mem_cons.1 hx with rfl | hx
      · exact h.oneCell hc.1
      · exact ih t hc.2 x hx

theorem alloc_old (w : World) (o : Obj) {b : Nat} (h : b < w.heap.size) : (w.alloc o).heap[b]? = w.heap[b]? := by
  show (w.heap.push o)[b]? = _
  rw [Array.getElem?_push, if_neg (by omega)]

/-- What is asked of an operation's run. -/
def Done (P : Program) (K F : Nat → Prop) (ρ : Locs) (m : List Slot) (w : World) (r : Res) (res : Result Next) : Prop :=
  ∃ v w' K' ρ', (res = .ok (.value v) w' ∨ (res = .ok .skip w' ∧ v = undef)) ∧ Step K F ρ w K' ρ' w' ∧ Inv K' F ρ' (writeM m r.wr) w' ∧ VR K' ρ' w' r.val v

theorem Done.plain {v : AV} {u : Value} {rd : List Nat} {ok : Bool} (hi : Inv K F ρ m w) (hv : VR K ρ w v u) {res : Result Next} (hr : res = .ok (.value u) w) :
    Done P K F ρ m w ⟨ok, v, [], rd⟩ res := ⟨u, w, K, ρ, .inl hr, Step.refl _ _ _ _, hi, hv⟩

theorem Done.of_pure {v : AV} {r : Res} {u : Value} (h : Res.pure v = some r) (hi : Inv K F ρ m w) (hv : VR K ρ w v u) {res : Result Next} (hr : res = .ok (.value u) w) : Done P K F ρ m w r res := by
  simp only [Res.pure, Option.some.injEq] at h
  subst h
  exact Done.plain hi hv hr

variable {env : List AV} {a : Act} {r : Res}

theorem scalarOp_sound {o : Oper} (hi : Inv K F ρ m w) (he : EnvR K ρ w env a.tmps) (hsel : ∀ cs b, o.op ≠ .select cs b) (h : scalarOp P env o = some r) :
    Done P K F ρ m w r ((execOp a.eval o).run P w) := by
  unfold scalarOp at h
  split at h
  · rename_i hall
    have hρ : ∀ x ∈ o.op.operands, a.eval x = (toVC (ev env x)).getD undef := fun x hx => by
      have := Array.all_eq_true_iff_forall_mem.1 hall x hx
      obtain ⟨y, hy⟩ := Option.isSome_iff_exists.1 this
      rw [hy, Option.getD_some]
      exact toVC_eq hy (ev_vr he x)
    rw [execOp_congr o hsel hρ]
    split at h
    · rename_i v hv
      simp only [Option.map_eq_some_iff] at h
      obtain ⟨b, hb, rfl⟩ := h
      exact Done.plain hi (ofV_vr hb) (semEv_run w hv)
    · simp at h
  · simp at h

theorem moveA_sound {t : TypeId} {x : Operand} (hi : Inv K F ρ m w) (he : EnvR K ρ w env a.tmps) (h : moveA P env t x = some r) :
    Done P K F ρ m w r ((pure (Next.value (a.eval x)) : Sem Next).run P w) :=
  Done.of_pure h hi (fixT_vr P t (ev_vr he x)) rfl

theorem pickA_sound {c x y : Operand} (hi : Inv K F ρ m w) (he : EnvR K ρ w env a.tmps) (h : pickA env c x y = some r) :
    Done P K F ρ m w r ((do pure (Next.value (if ← asBool (a.eval c) then a.eval x else a.eval y)) : Sem Next).run P w) := by
  unfold pickA at h
  have hc := ev_vr he c
  have hx := ev_vr he x
  have hy := ev_vr he y
  split at h
  · rename_i b hb
    rw [hb] at hc
    cases hc' : a.eval c <;> rw [hc'] at hc <;> cases hc
    split at h
    · rename_i p q h1 h2
      rw [h1] at hx
      rw [h2] at hy
      refine Done.of_pure h hi (u := if b then a.eval x else a.eval y) ?_ (by simp [asBool])
      cases b
      · simpa using hy
      · simpa using hx
    · refine Done.of_pure h hi (u := if b then a.eval x else a.eval y) ?_ (by simp [asBool])
      cases b
      · simpa using hy
      · simpa using hx
  · simp at h

/-- A new object in a new block. -/
theorem new_sound {s : Nat} {v : AV} {o : AObj} {ok : Bool} {wr : List (Nat × Slot)} {rd : List Nat} {m0 : List Slot} (h : newA s m0 v o ok wr rd = some r)
    {K0 : Nat → Prop} (hs : Step K0 F ρ w K ρ w) (hi : Inv K F ρ (writeM m0 wr) w) (hfr : (writeM m0 wr)[s]? = some .free) (ho : o.own = true)
    {vs : Array Value} {e : TypeId} {L : Loc} (hn : L.nil = false) (hb : L.blk = w.heap.size)
    (hor : OR K (upd ρ s L) (w.alloc (.cells vs e)) L o) {u : Value} (hv : VR K (upd ρ s L) (w.alloc (.cells vs e)) v u)
    {res : Result Next} {w1 : World} (hw1 : w1.heap = w.heap ∧ w1.os = w.os ∧ w1.tape = w.tape ∧ w1.output = w.output) (hres : res = .ok (.value u) (w1.alloc (.cells vs e))) : Done P K0 F ρ m0 w r res := by
  unfold newA at h
  split at h
  · simp only [Option.some.injEq] at h
    subst h
    have hlt : s < (writeM m0 wr).length := (List.getElem?_eq_some_iff.1 hfr).1
    have hρ : ρ s = none := by
      cases hρ : ρ s with
      | none => rfl
      | some L' => exact absurd hfr (hi.fr s L' hρ).2
    have hheap : (w1.alloc (.cells vs e)).heap = (w.alloc (.cells vs e)).heap := congrArg (fun h : Array Obj => h.push (.cells vs e)) hw1.1
    have hsame : ∀ b, b < w.heap.size → (L.nil = true ∨ b ≠ L.blk) → (w.alloc (.cells vs e)).heap[b]? = w.heap[b]? := fun b hb' _ => by
      exact alloc_old w _ hb'
    have hfree : L.nil = false → ¬ K L.blk ∧ ¬ F L.blk := fun _ => ⟨fun hk => absurd (hi.kw _ hk) (by omega), fun hf => absurd (hi.fw _ hf) (by omega)⟩
    refine ⟨u, w1.alloc (.cells vs e), K, upd ρ s L, .inl hres, ?_, ?_, ?_⟩
    · have st := Step.put (w' := w.alloc (.cells vs e)) hi (.inl hρ) (by simp) hsame hfree rfl rfl rfl
      have := hs.trans st
      exact ⟨this.sub, fun b hb => by rw [hheap]; exact this.keepK b hb, fun b hb => by rw [hheap]; exact this.keepF b hb, this.loc, by rw [hheap]; exact this.size, hw1.2.1, hw1.2.2.1, hw1.2.2.2⟩
    · simp only [writeM_append, writeM]
      refine Inv.heap ?_ hheap
      exact Inv.put (w' := w.alloc (.cells vs e)) hi hlt (.inl hρ) ho (by simp) hsame (fun hn' => ⟨(hfree hn').1, (hfree hn').2, fun b' o' L' hbs hm' ho' hL' hnil' he' => by
        obtain ⟨L2, h1, h2, _⟩ := hi.ob b' o' hm'
        rw [hL'] at h1
        obtain rfl := Option.some.inj h1
        have := h2.lt hnil'
        omega⟩) hor
    · exact VR.mono (fun _ x => x) (fun b hb => by rw [hheap]) (fun _ _ x => x) hv
  · simp at h

theorem heap_alloc' (w : World) (o : Obj) : (w.alloc o).heap[w.heap.size]? = some o := by
  show (w.heap.push o)[w.heap.size]? = _
  rw [Array.getElem?_push, if_pos rfl]

theorem keep_alloc (hi : Inv K F ρ m w) (o : Obj) : ∀ b, K b → (w.alloc o).heap[b]? = w.heap[b]? := fun b hb => by
  exact alloc_old w o (hi.kw b hb)

theorem upd_mono {s : Nat} (hi : Inv K F ρ m w) (hfr : m[s]? = some .free) (L : Loc) : ∀ b L', ρ b = some L' → upd ρ s L b = some L' :=
  upd_loc (.inl (by
    cases hρ : ρ s with
    | none => rfl
    | some L' => exact absurd hfr (hi.fr s L' hρ).2))

/-- A new variable. -/
theorem newbox_sound {s : Nat} {cs : List AV} {vs : List Value} (hi : Inv K F ρ m w) (h : newA s m (.ptr s 0) (.box cs) true [] [] = some r) (hv : VRL K ρ w cs vs) {t : TypeId}
    {res : Result Next} (hres : res = .ok (.value (.pointer (some ⟨w.heap.size, 0, none⟩))) (w.alloc (.cells vs.toArray t))) : Done P K F ρ m w r res := by
  have hfr : m[s]? = some .free := by
    unfold newA at h
    split at h
    · assumption
    · simp at h
  refine new_sound h (Step.refl _ _ _ _) hi hfr rfl (L := ⟨false, w.heap.size, 0, 0, 0, 0⟩) rfl rfl ?_ ?_ ⟨rfl, rfl, rfl, rfl⟩ hres
  · exact ⟨rfl, rfl, vs, t, heap_alloc' _ _, VRL.mono (fun _ x => x) (keep_alloc hi _) (upd_mono hi hfr _) hv⟩
  · exact .ptr s 0 ⟨false, w.heap.size, 0, 0, 0, 0⟩ (by simp [upd])

theorem allocA_sound {s : Nat} {t : TypeId} (hi : Inv K F ρ m w) (h : allocA P s m t = some r) :
    Done P K F ρ m w r ((do pure (.value (← Instr.alloc t true (.tuple #[]))) : Sem Next).run P w) := by
  unfold allocA at h
  split at h
  · rename_i z hz
    obtain ⟨zv, h1, h2⟩ := zeroA_some hz
    have hv := VR.cells (K := K) (ρ := ρ) (w := w) (fixT_vr P t (cstC_vr zv)) h2
    refine newbox_sound hi h hv (t := t) ?_
    simp [Instr.alloc, run_zeroValue' h1, newVar, newRow]
  · simp at h

theorem boxA_sound {s : Nat} {t : TypeId} {x : Operand} (hi : Inv K F ρ m w) (he : EnvR K ρ w env a.tmps) (h : boxA P s m env t x = some r) :
    Done P K F ρ m w r ((do pure (.value (← Instr.box t (a.eval x))) : Sem Next).run P w) := by
  unfold boxA at h
  split at h
  · rename_i cs hc
    have hv := VR.cells (fixT_vr P t (ev_vr he x)) hc
    refine newbox_sound hi h hv (t := t) ?_
    simp [Instr.box, newVar, newRow]
  · simp at h

/-! ### parts of aggregates -/
theorem laid_vr {cs ds : List AV} {us vs : List Value} (h : VRL K ρ w cs us) (h' : VRL K ρ w ds vs) (off : Nat) :
    VRL K ρ w (laid cs off ds) (us.take off ++ vs ++ us.drop (off + vs.length)) := by
  unfold laid
  rw [h'.length]
  exact ((h.take off).append h').append (h.drop _)

theorem foldl_set (vs : List Value) : ∀ (i off : Nat) (pre us post : List Value), pre.length = off + i → us.length = vs.length →
    (vs.zipIdx i).foldl (fun cs (c, j) => cs.setIfInBounds (off + j) c) (pre ++ us ++ post).toArray = (pre ++ vs ++ post).toArray := by
  induction vs with
  | nil => intro i off pre us post h1 h2; have := List.eq_nil_of_length_eq_zero h2; subst this; rfl
  | cons v vs ih =>
    intro i off pre us post h1 h2
    cases us with
    | nil => simp at h2
    | cons u us =>
      simp only [List.zipIdx_cons, List.foldl_cons]
      have : ((pre ++ (u :: us) ++ post).toArray.setIfInBounds (off + i) v) = ((pre ++ [v]) ++ us ++ post).toArray := by
        apply Array.ext'
        rw [Array.toList_setIfInBounds]
        show (pre ++ (u :: us) ++ post).set (off + i) v = (pre ++ [v]) ++ us ++ post
        rw [← h1]
        simp
      rw [this, ih (i + 1) off (pre ++ [v]) us post (by simp; omega) (by simpa using h2)]
      simp

/-- Parts laid into cells, as the interpreter lays them. -/
theorem fillA_sound {pl : Nat → Option (Nat × Nat)} {f : Operand → AV} {g : Operand → Value} (hfg : ∀ x, VR K ρ w (f x) (g x)) :
    ∀ (ps : List (Nat × Operand)) {cells out : List AV} {us : List Value}, VRL K ρ w cells us → fillA pl cells (ps.map fun p => (p.1, f p.2)) = some out →
      ∃ vs, Instr.fill pl us.toArray (ps.map fun p => (p.1, g p.2)) = some vs ∧ VRL K ρ w out vs.toList := by
  intro ps
  induction ps with
  | nil => intro cells out us h hf; simp [fillA] at hf; subst hf; exact ⟨us.toArray, rfl, h⟩
  | cons p ps ih =>
    intro cells out us hv hf
    obtain ⟨i, x⟩ := p
    have h2 := hfg x
    simp only [List.map_cons, fillA] at hf
    cases hp : pl i with
    | none => simp [hp] at hf
    | some q =>
      obtain ⟨off, size⟩ := q
      simp only [hp] at hf
      split at hf
      · rename_i cs hc
        split at hf
        · rename_i hcond
          have hx := VR.cells h2 hc
          have hl := laid_vr hv hx off
          obtain ⟨vs, e1, e2⟩ := ih hl hf
          refine ⟨vs, ?_, e2⟩
          have hlen := hv.length
          have hlen2 := hx.length
          simp only [Array.length_toList] at hlen2
          simp only [List.map_cons, Instr.fill, hp]
          rw [if_neg (by simp; omega)]
          rw [← e1]
          congr 1
          have hsplit : us = us.take off ++ (us.drop off).take (g x).cells.size ++ us.drop (off + (g x).cells.size) := by
            rw [List.append_assoc, ← List.drop_drop, List.take_append_drop, List.take_append_drop]
          have hmid : ((us.drop off).take (g x).cells.size).length = (g x).cells.toList.length := by simp; omega
          have key := foldl_set (g x).cells.toList 0 off (us.take off) ((us.drop off).take (g x).cells.size) (us.drop (off + (g x).cells.size)) (by simp; omega) hmid
          rw [← hsplit] at key
          rw [← Array.foldl_toList, Array.toList_zipIdx, key]
          simp
        · simp at hf
      · simp at hf
end
end Go.Ab

/- The framework, part 8: each operation does what the interpreter says (aggregates, loads, stores, addresses). -/
namespace Go.Ab
set_option linter.unusedVariables false

section
variable {P : Program} {K F : Nat → Prop} {ρ : Locs} {m : List Slot} {w : World} {env : List AV} {a : Act} {r : Res}

theorem allSome_cons {α : Type} {x : Option α} {xs : List (Option α)} {ys : List α} (h : allSome (x :: xs) = some ys) : ∃ y zs, x = some y ∧ allSome xs = some zs ∧ ys = y :: zs := by
  cases x with
  | none => simp [allSome] at h
  | some y =>
    simp only [allSome, Option.map_eq_some_iff] at h
    obtain ⟨zs, h1, h2⟩ := h
    exact ⟨y, zs, rfl, h1, h2.symm⟩

theorem run_places' (w : World) : ∀ (fs : List Field) (places : List (Nat × Nat)), allSome (fs.map fun f => (sizeP P f.type).map fun n => (f.offset, n)) = some places →
    (fs.mapM fun f => Prod.mk f.offset <$> sizeOf f.type).run P w = .ok places w
  | [], places, h => by simp [allSome] at h; subst h; rfl
  | f :: fs, places, h => by
    obtain ⟨y, zs, h1, h2, rfl⟩ := allSome_cons h
    simp only [Option.map_eq_some_iff] at h1
    obtain ⟨n, h3, rfl⟩ := h1
    simp [List.mapM_cons, run_sizeOf' h3, run_places' w fs zs h2]

theorem evParts_eq (env : List AV) (ps : Array (Nat × Operand)) : evParts env ps = ps.toList.map fun p => (p.1, ev env p.2) := rfl

theorem parts_list (ρ : Operand → Value) (ps : Array (Nat × Operand)) : (ps.map fun (i, x) => (i, ρ x)).toList = ps.toList.map fun p => (p.1, ρ p.2) := by simp

theorem buildA_sound {t : TypeId} {ps : Array (Nat × Operand)} (hi : Inv K F ρ m w) (he : EnvR K ρ w env a.tmps) (h : buildA P env t ps = some r) :
    Done P K F ρ m w r ((do pure (.value (← Instr.build t (ps.map fun (i, x) => (i, a.eval x)))) : Sem Next).run P w) := by
  unfold buildA at h
  split at h
  · simp at h
  · rename_i z hz
    obtain ⟨zv, h1, h2⟩ := zeroA_some hz
    have hv := VR.cells (K := K) (ρ := ρ) (w := w) (fixT_vr P t (cstC_vr zv)) h2
    split at h
    · rename_i fs hfs
      unfold fieldsP at hfs
      split at hfs
      · rename_i fs' hu
        simp only [Option.some.injEq] at hfs
        subst hfs
        split at h
        · rename_i pl hpl
          simp only [Option.bind_eq_some_iff] at h
          obtain ⟨cs, hcs, hr⟩ := h
          obtain ⟨vs, e1, e2⟩ := fillA_sound (fun x => ev_vr he x) ps.toList hv hcs
          refine Done.of_pure hr hi (fixT_vr P t (.agg _ _ e2)) ?_
          simp [Instr.build, run_zeroValue' h1, run_underlying hu, Array.mapM_eq_mapM_toList, run_places' w _ _ hpl]
          simp only [Array.toArray_toList] at e1
          rw [e1]
          simp
        · simp at h
      · simp at hfs
    · split at h
      · rename_i n e harr
        unfold arrP at harr
        split at harr
        · rename_i n' e' hu
          simp only [Option.some.injEq, Prod.mk.injEq] at harr
          obtain ⟨rfl, rfl⟩ := harr
          simp only [Option.bind_eq_some_iff] at h
          obtain ⟨sz, hsz, cs, hcs, hr⟩ := h
          obtain ⟨vs, e1, e2⟩ := fillA_sound (fun x => ev_vr he x) ps.toList hv hcs
          refine Done.of_pure hr hi (fixT_vr P t (.agg _ _ e2)) ?_
          simp [Instr.build, run_zeroValue' h1, run_underlying hu, run_sizeOf' hsz]
          simp only [Array.toArray_toList] at e1
          rw [e1]
          simp
        · simp at harr
      · simp at h

/-! ### loads -/
theorem addr_add (b o n : Nat) : Addr.add ⟨b, o, none⟩ n = ⟨b, o + n, none⟩ := by
  unfold Addr.add
  split
  · subst_vars; rfl
  · rfl

theorem run_loadVar' {t : TypeId} {g : Bool} {n : Nat} (hg : isAggP P t = some g) (hn : sizeP P t = some n) (hgn : (g || n == 1) = true) {b o : Nat} {vs : List Value}
    (hl : vs.length = n) (hc : ∀ j v, vs[j]? = some v → w.cell? ⟨b, o + j, none⟩ = some v) {as : List AV} {x : AV} (hv : VRL K ρ w as vs) (hx : valOf g as = some x) :
    ∃ v, (loadVar t ⟨b, o, none⟩).run P w = .ok v w ∧ VR K ρ w x v := by
  cases g with
  | true =>
    simp only [valOf, if_true, Option.some.injEq] at hx
    subst hx
    refine ⟨.agg vs.toArray, ?_, .agg _ _ hv⟩
    have := run_loadCells_list (P := P) w ⟨b, o, none⟩ vs (fun j v hj => by rw [addr_add]; exact hc j v hj)
    rw [hl] at this
    simp [loadVar, run_isAgg' hg, run_sizeOf' hn, this]
  | false =>
    simp only [Bool.false_or, beq_iff_eq] at hgn
    subst hgn
    match vs, hl, hc, hv with
    | [v], _, hc, hv =>
      cases hv with
      | cons a _ as _ h t =>
        cases t
        simp only [valOf, Bool.false_eq_true, if_false, Option.some.injEq] at hx
        subst hx
        refine ⟨v, ?_, h⟩
        have := hc 0 v rfl
        simp [loadVar, run_isAgg' hg, show w.cell? ⟨b, o, none⟩ = some v from by simpa using this]

theorem cellsAt_vr {cs ds : List AV} {vs : List Value} {j n : Nat} (h : VRL K ρ w cs vs) (hc : cellsAt cs j n = some ds) :
    VRL K ρ w ds ((vs.drop j).take n) ∧ ((vs.drop j).take n).length = n := by
  unfold cellsAt at hc
  simp only at hc
  split at hc
  · rename_i hl
    simp only [Option.some.injEq] at hc
    subst hc
    have := (h.drop j).take n
    exact ⟨this, by rw [← this.length]; exact hl⟩
  · simp at hc

theorem loadA_sound' {t : TypeId} {x : Operand} (hi : Inv K F ρ m w) (he : EnvR K ρ w env a.tmps) (h : loadA P m env t x = some r) :
    ∃ v, (Instr.loadAt t (a.eval x)).run P w = .ok v w ∧ VR K ρ w r.val v ∧ r.wr = [] := by
  unfold loadA at h
  split at h
  · rename_i g n hg hn
    split at h
    · rename_i hgn
      have hx := ev_vr he x
      split at h
      · rename_i b j hb
        rw [hb] at hx
        split at h
        · rename_i cs hm
          simp only [Option.map_eq_some_iff, Option.bind_eq_some_iff] at h
          obtain ⟨v, ⟨ds, h1, h2⟩, rfl⟩ := h
          obtain ⟨L, hL, ⟨hnil, hoff, vs, e, hheap, hvs⟩, _⟩ := hi.ob b _ (getObj?_some hm)
          cases hax : a.eval x <;> rw [hax] at hx <;> cases hx
          rename_i L' hL'
          rw [hL] at hL'
          obtain rfl := Option.some.inj hL'
          obtain ⟨k1, k2⟩ := cellsAt_vr hvs h1
          obtain ⟨u, e1, e2⟩ := run_loadVar' (b := L.blk) (o := L.off + j) hg hn hgn k2 (fun i v hv => by
            rw [List.getElem?_take] at hv
            split at hv
            · rw [List.getElem?_drop] at hv
              simp [World.cell?, hheap, hoff, hv]
            · simp at hv) k1 h2
          exact ⟨u, by simpa [Instr.loadAt, Instr.sureAddr] using e1, e2, rfl⟩
        · simp at h
      · rename_i b i j hb
        rw [hb] at hx
        split at h
        · rename_i y l hrow
          simp only [Option.map_eq_some_iff, Option.bind_eq_some_iff] at h
          obtain ⟨v, ⟨ds, h1, h2⟩, rfl⟩ := h
          obtain ⟨L, hL, hR⟩ := hi.row hrow
          cases hax : a.eval x <;> rw [hax] at hx <;> cases hx
          rename_i L' hL' hlt
          rw [hL] at hL'
          obtain rfl := Option.some.inj hL'
          obtain ⟨q1, q2, q3, q4⟩ := hR
          simp only at q1 q2 q3 q4
          have hil : i < l.length := by omega
          have hn0 : L.nil = false := by
            cases hn0 : L.nil with
            | false => rfl
            | true => rw [q3 hn0] at hil; simp at hil
          obtain ⟨vs, e, p1, p2, p3⟩ := q4 hn0
          obtain ⟨g', p4, p5⟩ := p3 i l[i] (List.getElem?_eq_getElem hil)
          have hd : l.getD i y.dflt = l[i] := by simp [List.getD, List.getElem?_eq_getElem hil]
          rw [hd] at h1
          obtain ⟨k1, k2⟩ := cellsAt_vr (TyR.enc (ρ := ρ) p5) h1
          obtain ⟨u, e1, e2⟩ := run_loadVar' (b := L.blk) (o := L.off + (i * L.sz + j)) hg hn hgn k2 (fun q v hv => by
            rw [List.getElem?_take] at hv
            split at hv
            · rw [List.getElem?_drop, List.getElem?_map] at hv
              simp only [Option.map_eq_some_iff] at hv
              obtain ⟨z, hz, rfl⟩ := hv
              obtain ⟨hz1, hz2⟩ := List.getElem?_eq_some_iff.1 hz
              simp at hz1 hz2
              subst hz2
              have := p4 (j + q) (by omega)
              rw [q1, show L.off + (i * y.size + j) + q = L.off + (i * y.size + (j + q)) by omega]
              simp [World.cell?, p1, this]
            · simp at hv) k1 h2
          exact ⟨u, by simpa [Instr.loadAt, Instr.sureAddr] using e1, e2, rfl⟩
        · simp at h
      · rename_i y d j hb
        rw [hb] at hx
        simp only [Option.map_eq_some_iff, Option.bind_eq_some_iff] at h
        obtain ⟨v, ⟨ds, h1, h2⟩, rfl⟩ := h
        cases hax : a.eval x <;> rw [hax] at hx <;> cases hx
        rename_i blk off g' hk hc hT
        obtain ⟨k1, k2⟩ := cellsAt_vr (TyR.enc (ρ := ρ) hT) h1
        obtain ⟨u, e1, e2⟩ := run_loadVar' (b := blk) (o := off + j) hg hn hgn k2 (fun q v hv => by
          rw [List.getElem?_take] at hv
          split at hv
          · rw [List.getElem?_drop, List.getElem?_map] at hv
            simp only [Option.map_eq_some_iff] at hv
            obtain ⟨z, hz, rfl⟩ := hv
            obtain ⟨hz1, hz2⟩ := List.getElem?_eq_some_iff.1 hz
            simp at hz1 hz2
            subst hz2
            rw [Nat.add_assoc]
            exact hc _ (by omega)
          · simp at hv) k1 h2
        exact ⟨u, by simpa [Instr.loadAt, Instr.sureAddr] using e1, e2, rfl⟩
      · simp at h
    · simp at h
  · simp at h

theorem loadA_sound {t : TypeId} {x : Operand} (hi : Inv K F ρ m w) (he : EnvR K ρ w env a.tmps) (h : loadA P m env t x = some r) :
    Done P K F ρ m w r ((do pure (.value (← Instr.loadAt t (a.eval x))) : Sem Next).run P w) := by
  obtain ⟨v, h1, h2, h3⟩ := loadA_sound' hi he h
  refine ⟨v, w, K, ρ, .inl (by simp [h1]), Step.refl _ _ _ _, by rw [h3]; exact hi, h2⟩

end
end Go.Ab
