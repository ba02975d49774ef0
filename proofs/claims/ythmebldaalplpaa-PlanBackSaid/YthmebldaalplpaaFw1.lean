/- The framework, part 1: abstract values, abstract memory and the interpreter's operations (no theorem about Go yet). -/
import Derived.Calls
import Derived.KernelRfl
namespace Go.Ab
set_option linter.unusedVariables false

/-! ### types of plain data -/
inductive Ty where
  | int (k : IntKind)
  | bool
  | str
  | list (e : Ty)
  | pair (a b : Ty)
  deriving DecidableEq

abbrev Ty.den : Ty → Type
  | .int _ => Int
  | .bool => Bool
  | .str => ByteArray
  | .list e => List e.den
  | .pair a b => a.den × b.den

def Ty.dflt : (t : Ty) → t.den
  | .int _ => (0 : Int)
  | .bool => false
  | .str => (⟨#[]⟩ : ByteArray)
  | .list _ => []
  | .pair a b => (a.dflt, b.dflt)

def Ty.size : Ty → Nat
  | .pair a b => a.size + b.size
  | _ => 1

/-! ### abstract values -/
inductive AV where
  | junk
  | bool (b : Bool)
  | int (k : IntKind) (n : Int)
  | flt (k : FloatKind) (b : Nat)
  | cpx (k : FloatKind) (a b : Nat)
  | str (s : ByteArray)
  | nilp
  | nilm
  | nilf
  | nili
  | nil0
  | nils (e : Ty)
  | ro (e : Ty) (l : List e.den)
  | rop (t : Ty) (x : t.den) (j : Nat)
  | ptr (b j : Nat)
  | eptr (b i j : Nat)
  | tail (b i : Nat)
  | bsl (b n : Nat)
  | mp (b : Nat)
  | fn (f : Fn) (first captured : List AV)
  | ifc (t : TypeId) (v : AV)
  | agg (cs : List AV)
  | tup (vs : List AV)

instance : Inhabited AV := ⟨.junk⟩

/-- What a slot of the abstract memory holds. -/
inductive AObj where
  | box (cs : List AV)
  | rows (t : Ty) (l : List t.den)
  | frows (t : Ty) (l : List t.den)

inductive Slot where
  | free
  | dead
  | obj (o : AObj)

instance : Inhabited Slot := ⟨.free⟩

structure St where
  env : List AV
  mem : List Slot

/-- The cells of a value; of one that is not known: none. -/
def AV.cells : AV → Option (List AV)
  | .agg cs => some cs
  | .junk => none
  | v => some [v]

/-- Can a value be stored into one cell? -/
def AV.cell : AV → Bool
  | .agg _ | .tup _ | .junk => false
  | _ => true

def Ty.enc : (t : Ty) → t.den → List AV
  | .int k, x => [.int k x]
  | .bool, x => [.bool x]
  | .str, x => [.str x]
  | .list e, x => [.ro e x]
  | .pair a b, x => a.enc x.1 ++ b.enc x.2

def decInt (k : IntKind) : List AV → Option Int
  | [.int k' x] => if k' = k then some x else none
  | _ => none
def decBool : List AV → Option Bool
  | [.bool x] => some x
  | _ => none
def decStr : List AV → Option ByteArray
  | [.str x] => some x
  | _ => none
def decList (e : Ty) : List AV → Option (List e.den)
  | [.ro e' l] => if h : e' = e then some (h ▸ l) else none
  | [.nils _] => some []
  | [.nil0] => some []
  | _ => none

def Ty.dec : (t : Ty) → List AV → Option t.den
  | .int k, cs => decInt k cs
  | .bool, cs => decBool cs
  | .str, cs => decStr cs
  | .list e, cs => decList e cs
  | .pair a b, cs =>
    match a.dec (cs.take a.size), b.dec (cs.drop a.size) with
    | some x, some y => some (x, y)
    | _, _ => none

/-! ### the program's types -/
def sizeP (P : Program) (t : TypeId) : Option Nat := (P.info? t).map (·.size)
def isAggP (P : Program) (t : TypeId) : Option Bool := (P.underlying t).map fun | .struct _ => true | .array _ _ => true | _ => false

def foldTys : List Ty → Option Ty
  | [] => none
  | [t] => some t
  | t :: ts => (foldTys ts).map (.pair t)

def allSome {α : Type} : List (Option α) → Option (List α)
  | [] => some []
  | none :: _ => none
  | some x :: xs => (allSome xs).map (x :: ·)

def tyOf (P : Program) : Nat → TypeId → Option Ty
  | 0, _ => none
  | d + 1, t =>
    match P.underlying t with
    | some .bool => some .bool
    | some (.int k) => some (.int k)
    | some .string => some .str
    | some (.slice e) => (tyOf P d e).map .list
    | some (.struct fs) => (allSome (fs.toList.map fun f => tyOf P d f.type)).bind foldTys
    | some (.array n e) => (tyOf P d e).bind fun t => foldTys (List.replicate n t)
    | _ => none

def tyD : Nat := 12

/-- A constant of the program's text as an abstract value. -/
def cst : Value → AV
  | .bool b => .bool b
  | .int k n => .int k n
  | .float k b => .flt k b
  | .complex k a b => .cpx k a b
  | .string s => .str s
  | .pointer none => .nilp
  | .slice none 0 0 => .nil0
  | .map none => .nilm
  | .nilFunc => .nilf
  | .nilIface => .nili
  | _ => .junk

def cstC : Value → AV
  | .agg cs => .agg (cs.toList.map cst)
  | .tuple _ => .junk
  | v => cst v

def ev (env : List AV) : Operand → AV
  | .tmp t => env.getD t .junk
  | .const v => cstC v
  | .func f => .fn (.func f) [] []
  | .global _ => .junk

/-! ### what is known of a value's ids -/
mutual
def AV.noids : AV → Bool
  | .ptr _ _ | .eptr _ _ _ | .tail _ _ | .bsl _ _ | .mp _ => false
  | .fn _ a b => noidsL a && noidsL b
  | .ifc _ v => v.noids
  | .agg cs => noidsL cs
  | .tup vs => noidsL vs
  | _ => true
def noidsL : List AV → Bool
  | [] => true
  | v :: vs => v.noids && noidsL vs
end

mutual
def AV.ren (f : Nat → Option Nat) : AV → AV
  | .ptr b j => match f b with | some c => .ptr c j | none => .junk
  | .eptr b i j => match f b with | some c => .eptr c i j | none => .junk
  | .tail b i => match f b with | some c => .tail c i | none => .junk
  | .bsl b n => match f b with | some c => .bsl c n | none => .junk
  | .mp b => match f b with | some c => .mp c | none => .junk
  | .fn g a b => .fn g (renL f a) (renL f b)
  | .ifc t v => .ifc t (v.ren f)
  | .agg cs => .agg (renL f cs)
  | .tup vs => .tup (renL f vs)
  | v => v
def renL (f : Nat → Option Nat) : List AV → List AV
  | [] => []
  | v :: vs => v.ren f :: renL f vs
end

mutual
def AV.ids : AV → List Nat
  | .ptr b _ | .eptr b _ _ | .tail b _ | .bsl b _ | .mp b => [b]
  | .fn _ a b => idsL a ++ idsL b
  | .ifc _ v => v.ids
  | .agg cs => idsL cs
  | .tup vs => idsL vs
  | _ => []
def idsL : List AV → List Nat
  | [] => []
  | v :: vs => v.ids ++ idsL vs
end

/-! ### reading the abstract memory -/
def getObj? (m : List Slot) (b : Nat) : Option AObj :=
  match m[b]? with
  | some (.obj o) => some o
  | _ => none

/-- The cells from cell j on. -/
def cellsAt (cs : List AV) (j n : Nat) : Option (List AV) :=
  let r := (cs.drop j).take n
  if r.length = n then some r else none

def valOf (agg : Bool) (cs : List AV) : Option AV :=
  if agg then some (.agg cs) else match cs with | [v] => some v | _ => none

/-- What an operation makes: is it sure to go (a test), the value, the slots that it writes, the slots that it reads. -/
structure Res where
  ok : Bool
  val : AV
  wr : List (Nat × Slot)
  rd : List Nat

def Res.pure (v : AV) : Option Res := some ⟨true, v, [], []⟩

/-- A row as read-only data: its elements from i on. -/
def rowOf (m : List Slot) (b : Nat) : Option ((t : Ty) × List t.den) :=
  match getObj? m b with
  | some (.rows t l) => some ⟨t, l⟩
  | some (.frows t l) => some ⟨t, l⟩
  | _ => none

/-- How many elements has a slice? -/
def lenA (m : List Slot) : AV → Option (Int × List Nat)
  | .nil0 => some (0, [])
  | .nils _ => some (0, [])
  | .ro _ l => some ((l.length : Int), [])
  | .tail b i => (rowOf m b).map fun r => if i = 0 then ((r.2.length : Int), [b]) else (((r.2.length - i : Nat) : Int), [b])
  | .bsl _ n => some ((n : Int), [])
  | .str s => some ((s.size : Int), [])
  | _ => none

/-- Slices of owned rows turned to read-only data; the slots that are frozen by it. -/
def frz (m : List Slot) : AV → Option (AV × List (Nat × Slot))
  | .tail b i => (rowOf m b).map fun r => (.ro r.1 (if i = 0 then r.2 else r.2.drop i), [(b, .obj (.frows r.1 r.2))])
  | v => if v.noids then some (v, []) else none

def frzL (m : List Slot) : List AV → Option (List AV × List (Nat × Slot))
  | [] => some ([], [])
  | v :: vs =>
    match frz m v, frzL m vs with
    | some (x, a), some (xs, b) => some (x :: xs, a ++ b)
    | _, _ => none

def frzV (m : List Slot) : AV → Option (AV × List (Nat × Slot))
  | .agg cs => (frzL m cs).map fun r => (.agg r.1, r.2)
  | .tup vs => (frzL m vs).map fun r => (.tup r.1, r.2)
  | v => frz m v

def writeM (m : List Slot) : List (Nat × Slot) → List Slot
  | [] => m
  | (b, s) :: r => writeM (m.set b s) r

/-- A nil slice gets the type of its elements, where the program tells it. -/
def fixC (P : Program) (t : TypeId) : AV → AV
  | .nil0 =>
    match P.underlying t with
    | some (.slice e) => match tyOf P tyD e with | some y => .nils y | none => .nil0
    | _ => .nil0
  | v => v

/-- The types of a type's cells. -/
def leafs (P : Program) : Nat → TypeId → List TypeId
  | 0, _ => []
  | d + 1, t =>
    match P.underlying t with
    | some (.struct fs) => fs.toList.flatMap fun f => leafs P d f.type
    | some (.array n e) => (List.replicate n (leafs P d e)).flatten
    | _ => [t]

def fixL (P : Program) : List TypeId → List AV → List AV
  | t :: ts, v :: vs => fixC P t v :: fixL P ts vs
  | _, vs => vs

def fixT (P : Program) (t : TypeId) : AV → AV
  | .agg cs => .agg (fixL P (leafs P tyD t) cs)
  | v => fixC P t v

/-- The zero value. -/
def zeroA (P : Program) (t : TypeId) : Option AV := ((P.info? t).bind (·.zero)).map fun z => fixT P t (cstC z)

end Go.Ab
