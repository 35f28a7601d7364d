/- An evaluator of the model's code over abstract values, and the first steps of its soundness: each operation of a code, met where the abstract state stands for the frame, does what the evaluator says. Conditions: those that each theorem names. -/
import Derived.Calls
import Derived.LoopN
import Derived.Orders
import Derived.CheckFast
import Derived.Below
import Derived.Laws.Rows
import Derived.Laws.AppendOwn
import Derived.Laws.Sem
import Derived.Laws.Entries
import Derived.Laws.Cells
import Derived.Laws.Small
import Derived.Laws.Slices
import Derived.Laws.StructEq
import Derived.Laws.Concat
import Derived.Lib.ConvBytes
import Derived.Laws.BytesArg
import Derived.Laws.MakeOwn
import Derived.Great.FillDense
namespace Go.V

/-- Pure values: what is never written again. -/
inductive PV where
  | int (k : IntKind) (n : Int)
  | bool (b : Bool)
  | str (s : ByteArray)
  | sl (l : List PV)
  | agg (cs : List PV)
  | cst (v : Value)
  | ifc (t : TypeId) (v : PV)

instance : Inhabited PV := ⟨.bool false⟩

namespace PV
def toInt : PV → Int | .int _ n => n | _ => 0
def toBool : PV → Bool | .bool b => b | _ => false
def toStr : PV → ByteArray | .str s => s | _ => ⟨#[]⟩
def toList : PV → List PV | .sl l => l | _ => []
def cells : PV → List PV | .agg cs => cs | v => [v]
def cell (v : PV) (j : Nat) : PV := v.cells.getD j default
end PV

/-- What is known of a type. -/
inductive Ty where
  | int (k : IntKind) | bool | str | sl (e : TypeId) | st (t : TypeId) | ptr | iface | fn | mp (k e : TypeId) | no
  deriving DecidableEq

def Ty.eq : Ty → Ty → Bool
  | .int j, .int k => decide (j = k)
  | .bool, .bool | .str, .str | .ptr, .ptr | .iface, .iface | .fn, .fn => true
  | .sl a, .sl b | .st a, .st b => Nat.beq a b
  | .mp a b, .mp c d => Nat.beq a c && Nat.beq b d
  | _, _ => false

theorem Ty.eq_of {a b : Ty} (h : a.eq b = true) : a = b := by
  cases a <;> cases b <;> simp_all [Ty.eq, Nat.beq_eq]

def tyOf (P : Program) (t : TypeId) : Ty :=
  match P.underlying t with
  | some .bool => .bool
  | some (.int k) => .int k
  | some .string => .str
  | some (.slice e) => .sl e
  | some (.struct _) => .st t
  | some (.pointer _) => .ptr
  | some (.interface _) => .iface
  | some (.func ..) => .fn
  | some (.map k e) => .mp k e
  | _ => .no

/-- The types of the cells of a type. -/
def cellTys (P : Program) : Nat → TypeId → List Ty
  | 0, _ => []
  | d + 1, t =>
    match P.underlying t with
    | some (.struct fs) => fs.toList.flatMap fun f => cellTys P d f.type
    | some (.array n e) => (List.replicate n (cellTys P d e)).flatten
    | _ => [tyOf P t]

def deep : Nat := 12

/-- Owned objects, and pure values. -/
inductive AO where
  | pv (t : Ty) (v : PV)
  | box (E : TypeId) (cs : List AO)
  | arr (E : TypeId) (l : List PV)
  | dead

instance : Inhabited AO := ⟨.dead⟩

/-- What a slot holds. -/
inductive AV where
  | o (x : AO)
  | al (s : Nat) (p : List Nat)
  | ptr (s : Nat) (p : List Nat) (off : Nat)
  | el (s : Nat) (p : List Nat) (i off : Nat)
  | ip (E : TypeId) (x : PV) (off : Nat)
  | tup (vs : List AO)
  | dead

instance : Inhabited AV := ⟨.dead⟩

abbrev St := List AV

def nth {α : Type} (d : α) : List α → Nat → α
  | [], _ => d
  | x :: _, 0 => x
  | _ :: l, n + 1 => nth d l n

def get (st : St) (t : Nat) : AV := nth .dead st t

def AO.at : AO → List Nat → AO
  | x, [] => x
  | .box _ cs, i :: p => (nth .dead cs i).at p
  | _, _ :: _ => .dead

def AO.upd (y : AO) : AO → List Nat → AO
  | _, [] => y
  | .box E cs, i :: p => .box E (cs.set i (AO.upd y (nth .dead cs i) p))
  | x, _ :: _ => x

def obj (st : St) (s : Nat) (p : List Nat) : AO :=
  match get st s with
  | .o x => x.at p
  | _ => .dead

def setObj (st : St) (s : Nat) (p : List Nat) (y : AO) : St :=
  match get st s with
  | .o x => st.set s (.o (AO.upd y x p))
  | _ => st

/-- 'p' is an initial part of 'q'. -/
def pre : List Nat → List Nat → Bool
  | [], _ => true
  | _ :: _, [] => false
  | x :: p, y :: q => Nat.beq x y && pre p q

def AV.rooted (s : Nat) (p : List Nat) : AV → Bool
  | .al s' q | .ptr s' q _ | .el s' q _ _ => Nat.beq s s' && pre p q
  | _ => false

def AV.below (s : Nat) (p : List Nat) : AV → Bool
  | .al s' q | .ptr s' q _ => Nat.beq s s' && pre p q && !pre q p
  | .el s' q _ _ => Nat.beq s s' && pre p q
  | _ => false

def kill (s : Nat) (p : List Nat) (st : St) : St := st.map fun v => bif v.rooted s p then .dead else v
def killBelow (s : Nat) (p : List Nat) (st : St) : St := st.map fun v => bif v.below s p then .dead else v

def AV.moved (s : Nat) (p : List Nat) (d : Nat) (q : List Nat) : AV → AV
  | .al s' r => bif Nat.beq s s' && pre p r then .al d (q ++ r.drop p.length) else .al s' r
  | .ptr s' r off => bif Nat.beq s s' && pre p r then .ptr d (q ++ r.drop p.length) off else .ptr s' r off
  | .el s' r i off => bif Nat.beq s s' && pre p r then .el d (q ++ r.drop p.length) i off else .el s' r i off
  | v => v

def put (d : Nat) (v : AV) (st : St) : St := (kill d [] st).set d v

def putD (d : Option Nat) (v : AV) (st : St) : St :=
  match d with
  | some d => put d v st
  | none => st

/-- A constant, at a type. -/
def constPV (t : Ty) : Value → Option PV
  | .int k n => (match t with | .int j => bif decide (j = k) then some (.int k n) else none | _ => none)
  | .bool b => (match t with | .bool => some (.bool b) | _ => none)
  | .string s => (match t with | .str => some (.str s) | _ => none)
  | .slice a n c => (match a, n, c with
    | none, 0, 0 => (match t with | .sl _ => some (.sl []) | _ => none)
    | _, _, _ => none)
  | .pointer none => (match t with | .ptr => some (.cst (.pointer none)) | _ => none)
  | .nilIface => (match t with | .iface => some (.cst .nilIface) | _ => none)
  | .nilFunc => (match t with | .fn => some (.cst .nilFunc) | _ => none)
  | .map none => (match t with | .mp _ _ => some (.cst (.map none)) | _ => none)
  | _ => none

def constCells : List Ty → List Value → Option (List PV)
  | [], [] => some []
  | t :: ts, v :: vs =>
    match constPV t v with
    | some x => match constCells ts vs with | some xs => some (x :: xs) | none => none
    | none => none
  | _, _ => none

def constAt (P : Program) (t : TypeId) (v : Value) : Option PV :=
  match tyOf P t with
  | .st _ => (match v with | .agg cs => (match constCells (cellTys P deep t) cs.toList with | some xs => some (.agg xs) | none => none) | _ => none)
  | ty => constPV ty v

/-- A constant as a slot's content: nil slices are owned. -/
def constAV (P : Program) (t : TypeId) (v : Value) : AV :=
  match tyOf P t with
  | .sl E => (match constPV (.sl E) v with | some _ => .o (.arr E []) | none => .dead)
  | ty => match constAt P t v with | some x => .o (.pv ty x) | none => .dead

/-- A cell of a new variable: nil slices are owned. -/
def freshCell (t : Ty) (v : Value) : AO :=
  match t with
  | .sl E => (match constPV (.sl E) v with | some _ => .arr E [] | none => .dead)
  | ty => match constPV ty v with | some x => .pv ty x | none => .dead

def freshCells : List Ty → List Value → List AO
  | t :: ts, v :: vs => freshCell t v :: freshCells ts vs
  | _, _ => []

def AO.asPV (t : Ty) : AO → Option PV
  | .pv u v => bif u.eq t then some v else none
  | _ => none

/-- The elements of a list, owned or not. -/
def AO.elems (E : TypeId) : AO → Option (List PV)
  | .pv u v => bif u.eq (.sl E) then some v.toList else none
  | .arr E' l => bif Nat.beq E' E then some l else none
  | _ => none

def AV.elems (st : St) (E : TypeId) : AV → Option (List PV)
  | .o x => x.elems E
  | .al s p => (obj st s p).elems E
  | _ => none

def AV.asPV (st : St) (t : Ty) : AV → Option PV
  | .o x => x.asPV t
  | .al s p => (obj st s p).asPV t
  | _ => none

/-- An operand read as a pure value of a type. -/
def rd (P : Program) (st : St) (t : TypeId) (x : Operand) : Option PV :=
  match x with
  | .tmp i => (get st i).asPV st (tyOf P t)
  | .const v => constAt P t v
  | _ => none

def rdList (st : St) (E : TypeId) (x : Operand) : Option (List PV) :=
  match x with
  | .tmp i => (get st i).elems st E
  | .const (.slice none 0 0) => some []
  | _ => none

/-- .. of whatever integer type -/
def rdInt (st : St) (x : Operand) : Option PV :=
  match x with
  | .tmp i => match get st i with
    | .o (.pv (.int _) v) => some v
    | .al s p => match obj st s p with | .pv (.int _) v => some v | _ => none
    | _ => none
  | .const (.int k n) => some (.int k n)
  | _ => none

/-- Is it pure already (no owned array)? -/
def AV.pure (st : St) : AV → Bool
  | .o (.pv _ _) => true
  | .al s p => match obj st s p with | .pv _ _ => true | _ => false
  | _ => false

def opPure (st : St) (x : Operand) : Bool :=
  match x with
  | .tmp i => (get st i).pure st
  | .const _ => true
  | _ => false

/-- Where the object lies that an operand owns or names. -/
def locOf (st : St) (x : Operand) : Option (Nat × List Nat) :=
  match x with
  | .tmp t => match get st t with
    | .o (.box _ _) => some (t, [])
    | .o (.arr _ _) => some (t, [])
    | .al s p => match obj st s p with
      | .box _ _ => some (s, p)
      | .arr _ _ => some (s, p)
      | _ => none
    | _ => none
  | _ => none

/-- A pointer into a box. -/
def asPtr (st : St) (x : Operand) : Option (Nat × List Nat × Nat) :=
  match x with
  | .tmp t => match get st t with
    | .o (.box _ _) => some (t, [], 0)
    | .al s p => match obj st s p with | .box _ _ => some (s, p, 0) | _ => none
    | .ptr s p off => some (s, p, off)
    | _ => none
  | _ => none

def sizeIs (P : Program) (t : TypeId) (n : Nat) : Bool := Nat.beq (P.cellsOf t) n

def isAggTy : Ty → Bool | .st _ => true | _ => false

/-- The pure cells of a part of a box, if they are of these types. -/
def pureCells : List Ty → List AO → Option (List PV)
  | [], _ => some []
  | t :: ts, x :: xs =>
    match x with
    | .pv u v => bif u.eq t then (match pureCells ts xs with | some vs => some (v :: vs) | none => none) else none
    | _ => none
  | _ :: _, [] => none

/-- Owned arrays among cells become pure. -/
def AO.frozen : AO → AO
  | .arr E l => .pv (.sl E) (.sl l)
  | x => x

def freezeAt (n : Nat) : Nat → List AO → List AO
  | _, [] => []
  | 0, x :: xs => match n with | 0 => x :: xs | n + 1 => x.frozen :: freezeAt n 0 xs
  | off + 1, x :: xs => x :: freezeAt n off xs

def hasArr (n : Nat) : Nat → List AO → Bool
  | _, [] => false
  | 0, x :: xs => match n with | 0 => false | n + 1 => (match x with | .arr _ _ => true | _ => false) || hasArr n 0 xs
  | off + 1, _ :: xs => hasArr n off xs

/-- An object frozen where it lies. -/
def freezeObj (st : St) (s : Nat) (p : List Nat) : St := setObj st s p (obj st s p).frozen

def opRoots (st : St) (x : Operand) : List Nat :=
  match x with
  | .tmp t => t :: (match get st t with | .al s _ | .ptr s _ _ | .el s _ _ _ => [s] | _ => [])
  | _ => []

def anyRooted (d : Nat) (st : St) : Bool := st.any fun v => v.rooted d []

abbrev R := Option (List AO × List AO)
/-- A call: the function, its arguments (pure ones, or objects that are lent): the results, and what is handed back. -/
abbrev CallF := FuncId → List AO → Option (List AO × List AO)

def guardB {α : Type} (b : Bool) (x : Option α) : Option α := bif b then x else none

def room : Nat := 140737488355328

def intOp {α : Type} (op : BinOp) (k : IntKind) (x y : Int) (K : AV → Option α) : Option α :=
  match op with
  | .add => K (.o (.pv (.int k) (.int k (k.wrap (x + y)))))
  | .sub => K (.o (.pv (.int k) (.int k (k.wrap (x - y)))))
  | .mul => K (.o (.pv (.int k) (.int k (k.wrap (x * y)))))
  | .quo => bif decide (y = 0) then none else K (.o (.pv (.int k) (.int k (k.wrap (x.tdiv y)))))
  | .rem => bif decide (y = 0) then none else K (.o (.pv (.int k) (.int k (x.tmod y))))
  | .and => K (.o (.pv (.int k) (.int k (k.wrap (BitVec.ofInt k.bits x &&& BitVec.ofInt k.bits y).toNat))))
  | .or => K (.o (.pv (.int k) (.int k (k.wrap (BitVec.ofInt k.bits x ||| BitVec.ofInt k.bits y).toNat))))
  | .xor => K (.o (.pv (.int k) (.int k (k.wrap (BitVec.ofInt k.bits x ^^^ BitVec.ofInt k.bits y).toNat))))
  | .andNot => K (.o (.pv (.int k) (.int k (k.wrap (BitVec.ofInt k.bits x &&& ~~~ BitVec.ofInt k.bits y).toNat))))
  | .eql => K (.o (.pv .bool (.bool (decide (x = y)))))
  | .neq => K (.o (.pv .bool (.bool (!decide (x = y)))))
  | .lss => K (.o (.pv .bool (.bool (decide (x < y)))))
  | .leq => K (.o (.pv .bool (.bool (decide (x ≤ y)))))
  | .gtr => K (.o (.pv .bool (.bool (decide (y < x)))))
  | .geq => K (.o (.pv .bool (.bool (decide (y ≤ x)))))
  | _ => none

def strOp {α : Type} (op : BinOp) (x y : ByteArray) (K : AV → Option α) : Option α :=
  match op with
  | .add => bif decide (x.size + y.size ≤ 9223372036854775807) then K (.o (.pv .str (.str (x ++ y)))) else none
  | .eql => K (.o (.pv .bool (.bool (x.data.toList == y.data.toList))))
  | .neq => K (.o (.pv .bool (.bool (!(x.data.toList == y.data.toList)))))
  | .lss => K (.o (.pv .bool (.bool (Op.bytesLess x.data.toList y.data.toList))))
  | .leq => K (.o (.pv .bool (.bool (Op.bytesLess x.data.toList y.data.toList || x.data.toList == y.data.toList))))
  | .gtr => K (.o (.pv .bool (.bool (!(Op.bytesLess x.data.toList y.data.toList || x.data.toList == y.data.toList)))))
  | .geq => K (.o (.pv .bool (.bool (!Op.bytesLess x.data.toList y.data.toList))))
  | _ => none

def scalarTy : Ty → Bool | .st _ => false | .no => false | _ => true

/-- One list of types begins another one. -/
def tysPre : List Ty → List Ty → Bool
  | [], _ => true
  | _ :: _, [] => false
  | t :: ts, u :: us => t.eq u && tysPre ts us

def cellsFrom (x : PV) (off n : Nat) : List PV := (List.range n).map fun j => x.cell (off + j)

/-- A part of a value of type E, from cell 'off' on, as a value of type T. -/
def subPV (P : Program) (E T : TypeId) (x : PV) (off : Nat) : Option PV :=
  bif isAggTy (tyOf P E) then
    (bif Nat.beq (P.cellsOf E) (cellTys P deep E).length then
      (bif isAggTy (tyOf P T) then
        (bif Nat.beq (P.cellsOf T) (cellTys P deep T).length then
          (bif Nat.beq off 0 && Nat.beq T E then some x
           else bif tysPre (cellTys P deep T) ((cellTys P deep E).drop off) then some (.agg (cellsFrom x off (cellTys P deep T).length)) else none)
         else none)
       else bif decide (off < (cellTys P deep E).length) && ((nth .no (cellTys P deep E) off).eq (tyOf P T) && scalarTy (tyOf P T)) then some (x.cell off) else none)
     else none)
  else bif Nat.beq off 0 && (Nat.beq (P.cellsOf E) 1 && ((tyOf P E).eq (tyOf P T) && scalarTy (tyOf P T))) then some x else none

def eqFs (P : Program) (go : TypeId → PV → PV → Option Bool) (t : TypeId) (x y : PV) : List Field → Option Bool
  | [] => some true
  | f :: fs =>
    bif decide (f.name = "_") then none else
    match subPV P t f.type x f.offset, subPV P t f.type y f.offset with
    | some a, some b =>
      match go f.type a b with
      | some e => match fs with
        | [] => some e
        | _ => match eqFs P go t x y fs with
          | some e' => some (e && e')
          | none => none
      | none => none
    | _, _ => none

/-- Are two pure values of a type the same? 'none': this isn't asked here. -/
def eqPV (P : Program) : Nat → TypeId → PV → PV → Option Bool
  | 0, _, _, _ => none
  | d + 1, t, x, y =>
    match P.underlying t with
    | some (.int _) => some (decide (x.toInt = y.toInt))
    | some .bool => some (x.toBool == y.toBool)
    | some .string => some (x.toStr.data.toList == y.toStr.data.toList)
    | some (.struct fs) => bif P.stoodInHeld t then none else eqFs P (eqPV P d) t x y fs.toList
    | _ => none

def binQ {α : Type} (P : Program) (op : BinOp) (t : TypeId) (st : St) (x y : Operand) (K : AV → Option α) : Option α :=
  match op with
  | .shl =>
    match tyOf P t, rd P st t x, rdInt st y with
    | .int k, some a, some b => bif decide (b.toInt < 0) then none else K (.o (.pv (.int k) (.int k (k.wrap (a.toInt * 2 ^ min b.toInt.toNat k.bits)))))
    | _, _, _ => none
  | .shr =>
    match tyOf P t, rd P st t x, rdInt st y with
    | .int k, some a, some b => bif decide (b.toInt < 0) then none else K (.o (.pv (.int k) (.int k (a.toInt.fdiv (2 ^ min b.toInt.toNat k.bits)))))
    | _, _, _ => none
  | _ =>
    match rd P st t x, rd P st t y with
    | some a, some b =>
      match tyOf P t with
      | .int k => intOp op k a.toInt b.toInt K
      | .str => strOp op a.toStr b.toStr K
      | .bool =>
        match op with
        | .eql => K (.o (.pv .bool (.bool (a.toBool == b.toBool))))
        | .neq => K (.o (.pv .bool (.bool (!(a.toBool == b.toBool)))))
        | _ => none
      | .st _ =>
        match (bif P.eqGuardType P.depth t then none else eqPV P deep t a b) with
        | some e =>
          match op with
          | .eql => K (.o (.pv .bool (.bool e)))
          | .neq => K (.o (.pv .bool (.bool (!e))))
          | _ => none
        | none => none
      | _ => none
    | _, _ => none

def unQ {α : Type} (P : Program) (op : UnOp) (t : TypeId) (st : St) (x : Operand) (K : AV → Option α) : Option α :=
  match rd P st t x with
  | some a =>
    match op, tyOf P t with
    | .neg, .int k => K (.o (.pv (.int k) (.int k (k.wrap (0 - a.toInt)))))
    | .xor, .int k => K (.o (.pv (.int k) (.int k (k.wrap (BitVec.ofInt k.bits (if k.signed then -1 else k.max) ^^^ BitVec.ofInt k.bits a.toInt).toNat))))
    | .not, .bool => K (.o (.pv .bool (.bool (!a.toBool))))
    | _, _ => none
  | none => none

/-- A slot's content as it is copied. -/
def movK {α : Type} (P : Program) (t : TypeId) (st : St) (x : Operand) (K : AV → Option α) : Option α :=
  match x with
  | .tmp i => match get st i with
    | .o (.pv t v) => K (.o (.pv t v))
    | .o _ => K (.al i [])
    | v => K v
  | .const v => K (constAV P t v)
  | _ => none

/-- The parts of a built value: where they stand, and their cells. -/
def parts (P : Program) (st : St) (T : TypeId) (fs : List Field) : List (Nat × Operand) → Option (List (Nat × List PV))
  | [] => some []
  | (i, x) :: r =>
    match fs[i]? with
    | some f =>
      match rd P st f.type x, parts P st T fs r with
      | some v, some vs =>
        bif Nat.beq (P.cellsOf f.type) (cellTys P deep f.type).length && (tysPre (cellTys P deep f.type) ((cellTys P deep T).drop f.offset) && ((isAggTy (tyOf P f.type) || scalarTy (tyOf P f.type)) && decide (0 < P.cellsOf f.type))) then
          some ((f.offset, bif isAggTy (tyOf P f.type) then cellsFrom v 0 (cellTys P deep f.type).length else [v]) :: vs)
        else none
      | _, _ => none
    | none => none

def setCells : List PV → Nat → List PV → List PV
  | cs, _, [] => cs
  | cs, off, v :: vs => setCells (cs.set off v) (off + 1) vs

def buildCells (cs : List PV) : List (Nat × List PV) → List PV
  | [] => cs
  | (off, vs) :: r => buildCells (setCells cs off vs) r

/-- A pure value's cells. -/
def pcells (P : Program) (T : TypeId) (v : PV) : List PV := bif isAggTy (tyOf P T) then cellsFrom v 0 (cellTys P deep T).length else [v]

def zeroPV (P : Program) (t : TypeId) : Option PV :=
  match P.info? t with
  | some i => match i.zero with | some v => constAt P t v | none => none
  | none => none

def pvCells : List Ty → Nat → PV → List AO
  | [], _, _ => []
  | t :: ts, j, v => .pv t (v.cell j) :: pvCells ts (j + 1) v

def zeroOk (P : Program) (t : TypeId) : Bool :=
  match P.info? t with
  | some i => (match i.zero with | some v => Nat.beq v.cells.size i.size | none => false)
  | none => false

/-- What a call gives, looked at. -/
def okRes (t : Ty) : Option (List AO × List AO) → Bool
  | some ([.pv u _], _) => u.eq t
  | _ => false
def resPV : Option (List AO × List AO) → PV
  | some ([.pv _ v], _) => v
  | _ => default
def okArr (E : TypeId) : Option (List AO × List AO) → Bool
  | some ([.arr E' _], _) => Nat.beq E' E
  | _ => false
def resArr : Option (List AO × List AO) → List PV
  | some ([.arr _ l], _) => l
  | _ => []
def okTup : List Ty → List AO → Bool
  | [], [] => true
  | t :: ts, .pv u _ :: xs => u.eq t && okTup ts xs
  | _, _ => false
def okMany (ts : List Ty) : Option (List AO × List AO) → Bool
  | some (xs, _) => okTup ts xs
  | none => false
def aoPV : AO → PV
  | .pv _ v => v
  | _ => default
def resAt (i : Nat) : Option (List AO × List AO) → PV
  | some (xs, _) => aoPV (nth .dead xs i)
  | none => default
def tupOf (c : Option (List AO × List AO)) : List Ty → Nat → List AO
  | [], _ => []
  | t :: ts, i => .pv t (resAt i c) :: tupOf c ts (i + 1)

/-- A call's result, by its type. -/
def retQ {α : Type} (P : Program) (T : TypeId) (c : Option (List AO × List AO)) (K : AV → Option α) : Option α :=
  match P.underlying T with
  | some (.tuple ts) => bif !Nat.beq ts.size 1 && okMany (ts.toList.map (tyOf P)) c then K (.tup (tupOf c (ts.toList.map (tyOf P)) 0)) else none
  | some (.slice E) => bif okRes (.sl E) c then K (.o (.pv (.sl E) (resPV c))) else bif okArr E c then K (.o (.arr E (resArr c))) else none
  | some (.pointer _) => c.bind fun r => match r.1 with | [x] => K (.o x) | _ => none
  | _ => bif okRes (tyOf P T) c then K (.o (.pv (tyOf P T) (resPV c))) else none

/-- Values that leave everything but their own slot as it was. -/
def evQ {α : Type} (P : Program) (call : CallF) (o : Oper) (st : St) (K : AV → Option α) : Option α :=
  match o.op with
  | .move x | .assign x => movK P o.type st x K
  | .pick c a b =>
    match c with
    | .tmp i =>
      match (get st i).asPV st .bool with
      | some d =>
        bif d.toBool then (match rd P st o.type a with | some x => K (.o (.pv (tyOf P o.type) x)) | none => none)
        else (match rd P st o.type b with | some x => K (.o (.pv (tyOf P o.type) x)) | none => none)
      | none => none
    | _ => none
  | .alloc E =>
    match P.info? E with
    | some i => match i.zero with
      | some z => bif Nat.beq z.cells.size (cellTys P deep E).length then K (.o (.box E (freshCells (cellTys P deep E) z.cells.toList))) else none
      | none => none
    | none => none
  | .box E x =>
    match rd P st E x with
    | some v =>
      bif isAggTy (tyOf P E) then K (.o (.box E (pvCells (cellTys P deep E) 0 v)))
      else bif scalarTy (tyOf P E) then K (.o (.box E [.pv (tyOf P E) v])) else none
    | none => none
  | .load T addr =>
    match addr with
    | .tmp i => match get st i with
      | .ip E x off => (match subPV P E T x off with | some y => K (.o (.pv (tyOf P T) y)) | none => none)
      | _ =>
        match asPtr st addr with
        | some (s, p, off) =>
          match obj st s p with
          | .box _ cs =>
            bif isAggTy (tyOf P T) then
              (bif Nat.beq (P.cellsOf T) (cellTys P deep T).length then
                (match pureCells (cellTys P deep T) (cs.drop off) with
                 | some vs => K (.o (.pv (tyOf P T) (.agg vs)))
                 | none => none)
               else none)
            else bif scalarTy (tyOf P T) then
              (match nth .dead cs off with
               | .pv t v => bif t.eq (tyOf P T) then K (.o (.pv t v)) else none
               | .arr E _ => bif (Ty.sl E).eq (tyOf P T) then K (.al s (p ++ [off])) else none
               | .box _ _ => K (.al s (p ++ [off]))
               | .dead => none)
            else none
          | _ => none
        | none => match get st i with
          | .el s p j off =>
            match obj st s p with
            | .arr E l => (match subPV P E T (nth default l j) off with | some y => K (.o (.pv (tyOf P T) y)) | none => none)
            | _ => none
          | _ => none
    | _ => none
  | .nilCheck x =>
    match x with
    | .tmp i => match get st i with
      | .o (.box _ _) => K (.al i [])
      | .al s p => match obj st s p with | .box _ _ => K (.al s p) | _ => none
      | .ptr s p off => (match obj st s p with | .box _ _ => K (.ptr s p off) | _ => none)
      | .el s p j off => (match obj st s p with | .arr _ _ => K (.el s p j off) | _ => none)
      | .ip E x off => K (.ip E x off)
      | _ => none
    | _ => none
  | .binOp op t x y _ => binQ P op t st x y K
  | .unOp op t x => unQ P op t st x K
  | .convert src dst x =>
    match tyOf P src, tyOf P dst with
    | .int _, .int k => (match rd P st src x with | some a => K (.o (.pv (.int k) (.int k (k.wrap a.toInt)))) | none => none)
    | .str, .str => (match rd P st src x with | some a => K (.o (.pv .str a)) | none => none)
    | .str, .sl e =>
      match tyOf P e, rd P st src x with
      | .int .u8, some a => bif Nat.beq (P.cellsOf e) 1 then K (.o (.pv (.sl e) (.sl (a.toStr.data.toList.map fun b => .int .u8 b.toNat)))) else none
      | _, _ => none
    | .sl e, .str =>
      match tyOf P e, rdList st e x with
      | .int .u8, some l => bif Nat.beq (P.cellsOf e) 1 then K (.o (.pv .str (.str ⟨(l.map fun c => UInt8.ofNat c.toInt.toNat).toArray⟩))) else none
      | _, _ => none
    | _, _ => none
  | .makeInterface t x =>
    match rd P st t x with
    | some v => match tyOf P t with
      | .iface => none
      | _ => K (.o (.pv .iface (.ifc t v)))
    | none => none
  | .fieldAddr T x f =>
    match P.underlying T with
    | some (.struct fs) =>
      match fs[f]? with
      | some fd =>
        bif Nat.beq (P.cellsOf fd.type) 0 then none else
        (match asPtr st x with
         | some (s, p, off) => (match obj st s p with | .box _ _ => K (.ptr s p (off + fd.offset)) | _ => none)
         | none => match x with
           | .tmp i => match get st i with
             | .ip E v off => K (.ip E v (off + fd.offset))
             | .el s p j off => (match obj st s p with | .arr _ _ => K (.el s p j (off + fd.offset)) | _ => none)
             | _ => none
           | _ => none)
      | none => none
    | _ => none
  | .field T x f =>
    match P.underlying T with
    | some (.struct fs) =>
      match fs[f]?, rd P st T x with
      | some fd, some v => (match subPV P T fd.type v fd.offset with | some y => K (.o (.pv (tyOf P fd.type) y)) | none => none)
      | _, _ => none
    | _ => none
  | .indexAddr T x ix =>
    match tyOf P T, rdInt st ix with
    | .sl E, some n =>
      match locOf st x with
      | some (s, p) =>
        match obj st s p with
        | .arr E' l => bif Nat.beq E E' && (decide (0 ≤ n.toInt) && decide (n.toInt < l.length)) then K (.el s p n.toInt.toNat 0) else none
        | _ => none
      | none =>
        match rd P st T x with
        | some v => bif decide (0 ≤ n.toInt) && decide (n.toInt < v.toList.length) then K (.ip E (nth default v.toList n.toInt.toNat) 0) else none
        | none => none
    | _, _ => none
  | .index T x ix =>
    match tyOf P T, rd P st T x, rdInt st ix with
    | .str, some v, some n =>
      bif decide (0 ≤ n.toInt) && decide (n.toInt < v.toStr.size) then K (.o (.pv (.int .u8) (.int .u8 (nth 0 v.toStr.data.toList n.toInt.toNat).toNat))) else none
    | _, _, _ => none
  | .slice T x lo hi mx =>
    match mx with
    | some _ => none
    | none =>
      match (match lo with | some y => rdInt st y | none => some (.int .i64 0)), rd P st T x with
      | some l, some v =>
        match tyOf P T with
        | .str =>
          match (match hi with | some y => rdInt st y | none => some (.int .i64 v.toStr.size)) with
          | some h => bif decide (0 ≤ l.toInt) && (decide (l.toInt ≤ h.toInt) && decide (h.toInt ≤ v.toStr.size)) then
              K (.o (.pv .str (.str (v.toStr.extract l.toInt.toNat h.toInt.toNat)))) else none
          | none => none
        | .sl E =>
          (match (match hi with | some y => rdInt st y | none => some (.int .i64 v.toList.length)) with
             | some h => bif (P.info? E).isSome && (decide (0 ≤ l.toInt) && (decide (l.toInt ≤ h.toInt) && decide (h.toInt ≤ v.toList.length))) then
                 K (.o (.pv (.sl E) (.sl ((v.toList.take h.toInt.toNat).drop l.toInt.toNat)))) else none
             | none => none)
        | _ => none
      | _, _ => none
  | .build T ps =>
    match P.underlying T with
    | some (.struct fs) =>
      match zeroPV P T, parts P st T fs.toList ps.toList with
      | some z, some vs => bif isAggTy (tyOf P T) && fs.toList.all (fun f => (P.info? f.type).isSome) then K (.o (.pv (tyOf P T) (.agg (buildCells z.cells vs)))) else none
      | _, _ => none
    | _ => none
  | .buildSlice T n ps =>
    match tyOf P T, ps.toList with
    | .sl E, l =>
      match (l.mapM fun p => rd P st E p.2 : Option (List PV)) with
      | some vs => bif (Nat.beq vs.length n && Nat.beq (P.cellsOf E) (cellTys P deep E).length) && ((isAggTy (tyOf P E) || scalarTy (tyOf P E)) && (decide (l.map (·.1) = List.range n) && (decide (n * P.cellsOf E ≤ 16777216) && (decide (0 < P.cellsOf E) && zeroOk P E)))) then K (.o (.arr E vs)) else none
      | none => none
    | _, _ => none
  | .makeSlice T n c =>
    match tyOf P T, rdInt st n, rdInt st c with
    | .sl E, some a, some b =>
      match zeroPV P E with
      | some z => bif zeroOk P E && decide (0 ≤ a.toInt) && (decide (a.toInt ≤ b.toInt) && (decide (b.toInt ≤ 140737488355328) && decide (P.bytesOf E * b.toInt ≤ 140737488355328))) then
          K (.o (.arr E (List.replicate a.toInt.toNat z))) else none
      | none => none
    | _, _, _ => none
  | .extract x i =>
    match x with
    | .tmp t => match get st t with
      | .tup vs => match nth .dead vs i with
        | .pv ty v => K (.o (.pv ty v))
        | _ => none
      | _ => none
    | _ => none
  | .call c =>
    match c.callee with
    | .builtin .len =>
      match c.argTypes[0]?, c.args[0]? with
      | some T, some x =>
        match tyOf P T with
        | .str => (match rd P st T x with | some v => K (.o (.pv (.int .i64) (.int .i64 v.toStr.size))) | none => none)
        | .sl E => (match rdList st E x with | some l => K (.o (.pv (.int .i64) (.int .i64 l.length))) | none => none)
        | _ => none
      | _, _ => none
    | .builtin .max =>
      match c.args.toList with
      | [x, y] => match tyOf P o.type, rd P st o.type x, rd P st o.type y with
        | .int k, some a, some b => K (.o (.pv (.int k) (.int k (if b.toInt > a.toInt then b.toInt else a.toInt))))
        | _, _, _ => none
      | _ => none
    | .builtin .min =>
      match c.args.toList with
      | [x, y] => match tyOf P o.type, rd P st o.type x, rd P st o.type y with
        | .int k, some a, some b => K (.o (.pv (.int k) (.int k (if b.toInt < a.toInt then b.toInt else a.toInt))))
        | _, _, _ => none
      | _ => none
    | .value (.func f) =>
      match (c.args.toList.zip c.argTypes.toList).mapM (fun p => (rd P st p.2 p.1).map fun v => AO.pv (tyOf P p.2) v) with
      | some as => bif Nat.beq as.length c.args.size then retQ P o.type (call f as) K else none
      | none => none
    | _ => none
  | _ => none


/-- Exits of a code. -/
inductive Ex where
  | normal | exit (id : Nat) | ret

/-- A slot's own object goes elsewhere, and refs with it; the slot names the place. -/
def moveTo (i s : Nat) (p : List Nat) (st : St) : St := ((st.map (AV.moved i [] s p)).set i (.al s p))

/-- Slot i's object goes into a cell of the box at (s, p) that holds nothing known. -/
def moveIn (i s : Nat) (p : List Nat) (off : Nat) (z : AO) (st : St) : St :=
  match obj st s p with
  | .box E cs => setObj (moveTo i s (p ++ [off]) st) s p (.box E (cs.set off z))
  | _ => st

/-- Refs into the cells off .. off + n - 1 of a box are lost. -/
def killCells (s : Nat) (p : List Nat) : Nat → Nat → St → St
  | _, 0, st => st
  | off, n + 1, st => killCells s p (off + 1) n (kill s (p ++ [off]) st)

def setAOs : List AO → Nat → List AO → List AO
  | cs, _, [] => cs
  | cs, off, v :: vs => setAOs (cs.set off v) (off + 1) vs

/-- One argument: pure, or lent. -/
def takeArg (P : Program) (T : TypeId) (st : St) (x : Operand) : Option (AO × Option (Nat × List Nat)) :=
  bif opPure st x then (match rd P st T x with | some v => some (.pv (tyOf P T) v, none) | none => none) else
  match locOf st x with
  | some (s, p) => match obj st s p with | .box E cs => some (.box E cs, some (s, p)) | _ => none
  | none => none

def takeArgs (P : Program) (st : St) : List (Operand × TypeId) → Option (List AO × List (Nat × List Nat))
  | [] => some ([], [])
  | (x, T) :: r =>
    match takeArg P T st x with
    | some (y, l) =>
      match takeArgs P st r with
      | some (ys, ls) => some (y :: ys, match l with | some z => z :: ls | none => ls)
      | none => none
    | none => none

def aoArr : AO → List PV
  | .arr _ l => l
  | _ => []
def aoCell (y : AO) (i : Nat) : AO := match y with | .box _ cs => nth .dead cs i | _ => .dead

mutual
/-- Of one shape. -/
def like : AO → AO → Bool
  | .pv t _, .pv u _ => t.eq u
  | .arr E _, .arr F _ => Nat.beq E F
  | .box E cs, .box F ds => Nat.beq E F && likes cs ds
  | .dead, .dead => true
  | _, _ => false
def likes : List AO → List AO → Bool
  | [], [] => true
  | x :: xs, y :: ys => like x y && likes xs ys
  | _, _ => false
end

mutual
/-- An object of the shape of the first one, laid out of the second one. -/
def reproj : AO → AO → AO
  | .pv t _, y => .pv t (aoPV y)
  | .arr E _, y => .arr E (aoArr y)
  | .box E cs, y => .box E (reprojs cs y 0)
  | .dead, _ => .dead
def reprojs : List AO → AO → Nat → List AO
  | [], _, _ => []
  | x :: xs, y, i => reproj x (aoCell y i) :: reprojs xs y (i + 1)
end

/-- The lent ones among arguments. -/
def lentOf : List AO → List AO
  | [] => []
  | .pv _ _ :: r => lentOf r
  | x :: r => x :: lentOf r

def okBacks (shapes : List AO) : Option (List AO × List AO) → Bool
  | some (_, back) => likes shapes back
  | none => false

def backAt (i : Nat) : Option (List AO × List AO) → AO
  | some (_, back) => nth .dead back i
  | none => .dead

def backsOf (c : Option (List AO × List AO)) : List AO → Nat → List AO
  | [], _ => []
  | x :: r, i => reproj x (backAt i c) :: backsOf c r (i + 1)

def okBack : AO → Bool
  | .box _ _ | .dead => true
  | _ => false

def giveBack : List (Nat × List Nat) → List AO → St → St
  | (s, p) :: ls, y :: ys, st => giveBack ls ys (killBelow s p (setObj st s p y))
  | _, _, st => st

/-- Lent objects are apart. -/
def apartLocs : List (Nat × List Nat) → Bool
  | [] => true
  | (s, _) :: r => r.all (fun q => !Nat.beq s q.1) && apartLocs r

/-- An element type of which arrays are made. -/
def okElem (P : Program) (E : TypeId) : Bool :=
  Nat.beq (P.cellsOf E) (cellTys P deep E).length && ((isAggTy (tyOf P E) || scalarTy (tyOf P E)) && (decide (0 < P.cellsOf E) && (zeroOk P E && decide (0 < P.bytesOf E))))

/-- What is appended. -/
def srcList (P : Program) (st : St) (E U : TypeId) (y : Operand) : Option (List PV) :=
  match tyOf P U with
  | .str => (match tyOf P E, rd P st U y with | .int .u8, some v => some (v.toStr.data.toList.map fun b => PV.int .u8 b.toNat) | _, _ => none)
  | .sl E' => bif Nat.beq E E' then rdList st E y else none
  | _ => none

/-- Owned arrays among these become pure. -/
def freezeOps : List Operand → St → St
  | [], st => st
  | x :: r, st =>
    match locOf st x with
    | some (s, p) => (match obj st s p with | .arr _ _ => freezeOps r (freezeObj st s p) | _ => freezeOps r st)
    | none => freezeOps r st

/-- Owned arrays in the cells off .. off + n - 1 of a box become pure. -/
def freezeCells (s : Nat) (p : List Nat) : Nat → Nat → St → St
  | _, 0, st => st
  | off, n + 1, st => freezeCells s p (off + 1) n (match obj st s (p ++ [off]) with | .arr _ _ => freezeObj st s (p ++ [off]) | _ => st)

/-- Operations that turn more than their own slot. -/
def evL (P : Program) (call : CallF) (o : Oper) (st : St) (K : St → R) : R :=
  match o.op with
  | .build _ ps => evQ P call o (freezeOps (ps.toList.map (·.2)) st) fun v => K (putD o.dst v (freezeOps (ps.toList.map (·.2)) st))
  | .buildSlice _ _ ps => evQ P call o (freezeOps (ps.toList.map (·.2)) st) fun v => K (putD o.dst v (freezeOps (ps.toList.map (·.2)) st))
  | .assign (.tmp i) =>
    match o.dst with
    | some d =>
      (match get st i with
       | .o x => bif !Nat.beq d i then K ((moveTo i d [] (kill d [] st)).set d (.o x)) else none
       | _ => none)
    | none => none
  | .store T addr x =>
    match o.dst with
    | some _ => none
    | none =>
    match asPtr st addr with
    | some (s, p, off) =>
      match obj st s p with
      | .box E cs =>
        bif isAggTy (tyOf P T) then
          (match rd P st T x with
           | some v => bif Nat.beq (P.cellsOf T) (cellTys P deep T).length && (decide (0 < P.cellsOf T) && decide (off + (cellTys P deep T).length ≤ cs.length)) then
               K (setObj (killCells s p off (cellTys P deep T).length st) s p (.box E (setAOs cs off (pvCells (cellTys P deep T) 0 v)))) else none
           | none => none)
        else bif scalarTy (tyOf P T) && (Nat.beq (P.cellsOf T) 1 && decide (off < cs.length)) then
          (match x with
           | .const v => (match constAV P T v with | .o y => K (setObj (killCells s p off 1 st) s p (.box E (setAOs cs off [y]))) | _ => none)
           | .tmp i =>
             match (get st i).asPV st (tyOf P T) with
             | some v => K (setObj (killCells s p off 1 st) s p (.box E (setAOs cs off [.pv (tyOf P T) v])))
             | none =>
               match get st i with
               | .o (.arr E' l) => bif !Nat.beq s i && (Ty.sl E').eq (tyOf P T) then K (moveIn i s p off (.arr E' l) (setObj (killCells s p off 1 st) s p (.box E (setAOs cs off [.dead])))) else none
               | .o (.box E' cs') => bif !Nat.beq s i then K (moveIn i s p off (.box E' cs') (setObj (killCells s p off 1 st) s p (.box E (setAOs cs off [.dead])))) else none
               | .al s' p' =>
                 match p' with
                 | [] => match obj st s' [] with
                   | .arr E' l => bif !Nat.beq s s' && (Ty.sl E').eq (tyOf P T) then K (moveIn s' s p off (.arr E' l) (setObj (killCells s p off 1 st) s p (.box E (setAOs cs off [.dead])))) else none
                   | _ => none
                 | _ => none
               | _ => none
           | _ => none)
        else none
      | _ => none
    | none =>
      match addr with
      | .tmp a =>
        match get st a with
        | .el s p j off =>
          match obj st s p, rd P st T x with
          | .arr E l, some v =>
            bif decide (0 < P.cellsOf T) && (Nat.beq off 0 && (Nat.beq T E && ((isAggTy (tyOf P T) || scalarTy (tyOf P T)) && Nat.beq (P.cellsOf T) (cellTys P deep T).length))) then K (setObj st s p (.arr E (l.set j v)))
            else bif decide (0 < P.cellsOf T) && (isAggTy (tyOf P E) && (Nat.beq (P.cellsOf E) (cellTys P deep E).length && ((isAggTy (tyOf P T) || scalarTy (tyOf P T)) && (Nat.beq (P.cellsOf T) (cellTys P deep T).length && tysPre (cellTys P deep T) ((cellTys P deep E).drop off))))) then
              K (setObj st s p (.arr E (l.set j (.agg (setCells (cellsFrom (nth default l j) 0 (cellTys P deep E).length) off (pcells P T v))))))
            else none
          | _, _ => none
        | _ => none
      | _ => none
  | .load T addr =>
    match asPtr st addr with
    | some (s, p, off) => evQ P call o (freezeCells s p off (cellTys P deep T).length st) fun v => K (putD o.dst v (freezeCells s p off (cellTys P deep T).length st))
    | none => none
  | .box E x =>
    match o.dst, x with
    | some d, .tmp i =>
      match get st i with
      | .o (.arr E' l) => bif !Nat.beq d i && ((Ty.sl E').eq (tyOf P E) && Nat.beq (P.cellsOf E) 1) then K (moveIn i d [] 0 (.arr E' l) (put d (.o (.box E [.dead])) st)) else none
      | .o (.box E' cs') => bif !Nat.beq d i then K (moveIn i d [] 0 (.box E' cs') (put d (.o (.box E [.dead])) st)) else none
      | _ => none
    | _, _ => none
  | .slice T x lo hi none =>
    match o.dst, tyOf P T, locOf st x with
    | some d, .sl E, some (s, p) =>
      match obj st s p, (match lo with | some y => rdInt st y | none => some (.int .i64 0)) with
      | .arr E' l, some a =>
        match (match hi with | some y => rdInt st y | none => some (.int .i64 l.length)) with
        | some h => bif Nat.beq E E' && ((P.info? E).isSome && (decide (0 ≤ a.toInt) && (decide (a.toInt ≤ h.toInt) && decide (h.toInt ≤ l.length)))) then
            K (put d (.o (.arr E ((l.take h.toInt.toNat).drop a.toInt.toNat))) (kill s p (setObj st s p .dead))) else none
        | none => none
      | _, _ => none
    | _, _, _ => none
  | .call c =>
    match c.callee, o.dst with
    | .builtin .append, some d =>
      match c.argTypes[0]?, c.args[0]?, c.args[1]?, c.argTypes[1]? with
      | some T, some x, some y, some U =>
        match tyOf P T with
        | .sl E =>
          bif okElem P E then
            (match srcList P st E U y with
             | some ys =>
               match x with
               | .const v => (match constPV (.sl E) v with
                 | some _ => bif decide (ys.length * P.bytesOf E ≤ room) then K (put d (.o (.arr E ys)) st) else none
                 | none => none)
               | _ =>
                 match locOf st x with
                 | some (s, p) =>
                   (match obj st s p with
                    | .arr E' l => bif Nat.beq E E' && decide ((l.length + ys.length) * P.bytesOf E ≤ room) then
                        K (put d (.o (.arr E (l ++ ys))) (kill s p (setObj st s p .dead))) else none
                    | _ => none)
                 | none => none
             | none => none)
          else none
        | _ => none
      | _, _, _, _ => none
    | .value (.func f), some d =>
      match takeArgs P (freezeOps c.args.toList st) (c.args.toList.zip c.argTypes.toList) with
      | some (as, ls) =>
        bif Nat.beq as.length c.args.size && (apartLocs ls && ls.all fun q => !Nat.beq q.1 d) then
          bif okBacks (lentOf as) (call f as) then
            retQ P o.type (call f as) fun v => K (put d v (giveBack ls (backsOf (call f as) (lentOf as) 0) (put d .dead (freezeOps c.args.toList st)))) else none
        else none
      | none => none
    | _, _ => none
  | _ => none

/-- Pure, or not there at all (of an operation that is not wanted). -/
def opCalm (st : St) (x : Operand) : Bool :=
  match x with
  | .tmp i => match get st i with | .dead => true | .tup [] => true | v => v.pure st
  | .const _ => true
  | _ => false

def isLoud (P : Program) (o : Oper) (st : St) : Bool :=
  match o.op with
  | .assign (.tmp i) => match get st i with | .o (.box _ _) => true | .o (.arr _ _) => true | _ => false
  | .store .. => true
  | .build _ ps | .buildSlice _ _ ps => !(ps.all fun x => opCalm st x.2)
  | .load T addr =>
    isAggTy (tyOf P T) && (match asPtr st addr with
      | some (s, p, off) => (match obj st s p with | .box _ cs => hasArr (cellTys P deep T).length off cs | _ => false)
      | none => false)
  | .box _ x => !opCalm st x
  | .slice _ x _ _ _ => match locOf st x with | some _ => true | none => false
  | .call c =>
    match c.callee with
    | .builtin .append => true
    | .value _ => !(c.args.all fun x => opCalm st x)
    | _ => false
  | _ => false

def evOp (P : Program) (call : CallF) (o : Oper) (st : St) (K : St → R) : R :=
  bif isLoud P o st then evL P call o st K else evQ P call o st fun v => K (putD o.dst v st)

def opnds (o : Oper) : List Operand := o.op.operands.toList

/-- A slot of which a test has told what it holds. -/
def known (i : Nat) (b : Bool) (st : St) : St := st.set i (.o (.pv .bool (.bool b)))

def tmpOk (N : Nat) : Operand → Bool
  | .tmp t => decide (t < N)
  | _ => true

def dstOk (N : Nat) (o : Oper) : Bool :=
  (match o.dst with | some d => decide (d < N) | none => true) && o.op.operands.toList.all (tmpOk N)

def evOps (P : Program) (call : CallF) (N : Nat) (ops : Array Oper) : List Nat → St → (St → R) → R
  | [], st, K => K st
  | i :: rest, st, K =>
    match ops[i]? with
    | none => none
    | some o =>
      bif dstOk N o then
        match o.guard with
        | none => evOp P call o st fun st => evOps P call N ops rest st K
        | some (j, want) =>
          match (ops[j]?).bind (·.dst) with
          | some d =>
            match get st d with
            | .o (.pv .bool v) =>
              bif decide (d < N) then
                (bif v.toBool then
                  (bif want then evOp P call o (known d true st) (fun st => evOps P call N ops rest st K)
                   else evOps P call N ops rest (putD o.dst (.tup []) (known d true st)) K)
                else
                  (bif want then evOps P call N ops rest (putD o.dst (.tup []) (known d false st)) K
                   else evOp P call o (known d false st) (fun st => evOps P call N ops rest st K))) else none
            | .tup [] => bif decide (d < N) then evOps P call N ops rest (putD o.dst (.tup []) st) K else none
            | _ => none
          | none => none
      else none

/-- The numbers of what stands before each operation of a region. -/
def befK {α : Type} (K : List Nat → Option α) : List Oper → Nat → List Nat → Option α
  | [], _, acc => K acc.reverse
  | o :: rest, j, acc => CheckFast.force (CheckFast.one (fun i => bif decide (i < j) then nth 0 acc (j - 1 - i) else 0) o) fun v => befK K rest (j + 1) (v :: acc)

def ordered (b : List Nat) (i k : Nat) : Bool := bif decide (k < i) then (nth 0 b i).testBit k else (nth 0 b k).testBit i

/-- In a region that draws: a quiet operation touches what no other one writes, unless they are ordered; a loud one stands in its place. -/
def drawOk (P : Program) (ops : Array Oper) (b : List Nat) (i : Nat) (o : Oper) (st : St) : Bool :=
  (match o.guard with | some (j, _) => decide (j < i) && ordered b i j | none => true) &&
  (bif isLoud P o st then
    (List.range ops.size).all fun k => Nat.beq k i || ordered b i k
  else
    (match o.dst with | some d => !anyRooted d st | none => true) &&
    (List.range ops.size).all fun k => Nat.beq k i || (ordered b i k ||
      (match (ops[k]?).bind (·.dst) with
       | some d => !((opnds o).flatMap (opRoots st)).any (Nat.beq d)
       | none => true)))

def distinct : List Nat → Bool
  | [] => true
  | x :: l => !l.any (Nat.beq x) && distinct l

def backEdges : Nat → List Oper → Bool
  | _, [] => true
  | i, o :: r => o.after.toList.all (fun e => !Region.binds .any e || decide (e.on < i)) && backEdges (i + 1) r

/-- Refs to what a region's operations write are lost. -/
def killDsts (ops : Array Oper) (st : St) : St := st.map fun v => bif ops.toList.any (fun o => match o.dst with | some d => v.rooted d [] | none => false) then .dead else v

def envGet : List (Nat × Bool) → Nat → Option Bool
  | [], _ => none
  | (k, b) :: r, j => bif Nat.beq k j then some b else envGet r j

def knownAll (ops : Array Oper) : List (Nat × Bool) → St → St
  | [], st => st
  | (j, b) :: r, st => match (ops[j]?).bind (·.dst) with
    | some d => known d b (knownAll ops r st)
    | none => knownAll ops r st

/-- Is this operation wanted? -/
def askG (N : Nat) (ops : Array Oper) (env : List (Nat × Bool)) (st : St) (o : Oper) (k : List (Nat × Bool) → Bool → R) : R :=
  match o.guard with
  | none => k env true
  | some (j, want) =>
    match envGet env j with
    | some b => k env (bif b then want else !want)
    | none =>
      match (ops[j]?).bind (·.dst) with
      | some d =>
        match get st d with
        | .o (.pv .bool v) => bif decide (d < N) then (bif v.toBool then k ((j, true) :: env) want else k ((j, false) :: env) (!want)) else none
        | .tup [] => bif decide (d < N) then k env false else none
        | _ => none
      | none => none

/-- The operations of a region that draws. -/
def evOpsD (P : Program) (call : CallF) (N : Nat) (ops : Array Oper) (b : List Nat) : List Nat → List (Nat × Bool) → St → (St → R) → R
  | [], env, st, K => K (knownAll ops env st)
  | i :: rest, env, st, K =>
    match ops[i]? with
    | none => none
    | some o =>
      bif dstOk N o && drawOk P ops b i o st then
        askG N ops env st o fun env w =>
          bif isLoud P o st then
            (bif w then evL P call o (knownAll ops env st) fun st => evOpsD P call N ops b rest [] (killDsts ops st) K
             else evOpsD P call N ops b rest [] (killDsts ops (putD o.dst (.tup []) (knownAll ops env st))) K)
          else bif w then evQ P call o st fun v => evOpsD P call N ops b rest env (putD o.dst v st) K
          else evOpsD P call N ops b rest env (putD o.dst (.tup []) st) K
      else none

/-- A region that draws. -/
def evDraw (P : Program) (call : CallF) (N : Nat) (ops : Array Oper) (st : St) (K : St → R) : R :=
  bif P.follows .mixedOrders && (distinct (ops.toList.filterMap (·.dst)) && backEdges 0 ops.toList) then
    befK (fun b => evOpsD P call N ops b (List.range ops.size) [] (killDsts ops st) K) ops.toList 0 []
  else none

def firstRegion : Code → Option Nat
  | .region id _ _ => some id
  | .seq a b => (firstRegion a).or (firstRegion b)
  | .cond _ a b => (firstRegion a).or (firstRegion b)
  | .block _ c | .loop c | .scope c => firstRegion c
  | _ => none

def keepIn (l : List Nat) (st : St) : AV → AV
  | .al s p => bif l.any (Nat.beq s) then .al s p else .dead
  | .ptr s p off => bif l.any (Nat.beq s) then .ptr s p off else .dead
  | .el s p i off => bif l.any (Nat.beq s) then .el s p i off else .dead
  | v => v

def keepFrom (l : List Nat) (n : Nat) : St → St
  | [] => []
  | v :: st => (bif l.any (Nat.beq n) then keepIn l [] v else .dead) :: keepFrom l (n + 1) st

/-- At a loop's head only these slots are kept. -/
def keep (h : Option (List Nat)) (st : St) : St := match h with | some l => keepFrom l 0 st | none => st

/-- What comes behind the first of two. -/
def seqK (f : St → (Ex → St → R) → R) (K : Ex → St → R) : Ex → St → R := fun e st => match e with
  | .normal => f st K
  | e => K e st

def blockK (id : Nat) (K : Ex → St → R) : Ex → St → R := fun e st => match e with
  | .exit id' => bif Nat.beq id' id then K .normal st else K (.exit id') st
  | e => K e st

def evLoop (body : St → (Ex → St → R) → R) (h : Option (List Nat)) : Nat → St → (Ex → St → R) → R
  | 0, _, _ => none
  | n + 1, st, K => body st (seqK (fun st K => evLoop body h n (keep h st) K) K)

def hintOf (H : Nat → Option (List Nat)) (c : Code) : Option (List Nat) := match firstRegion c with | some r => H r | none => none

def evReg (P : Program) (call : CallF) (N : Nat) (ops : Array Oper) (draw : Bool) (st : St) (K : St → R) : R :=
  bif draw then evDraw P call N ops st K else evOps P call N ops (List.range ops.size) st K

/-- What stands at a join: the number, the rest, the state, what comes behind. -/
abbrev Gate := Nat → (St → (St → R) → R) → St → (St → R) → R
def gate0 : Gate := fun _ body st K => body st K

/-- Regions may be joins, too: hints under their number and 100000. -/
def evC (P : Program) (call : CallF) (H : Nat → Option (List Nat)) (G : Gate) (N n : Nat) : Code → St → (Ex → St → R) → R
  | .skip, st, K | .label _, st, K => K .normal st
  | .region id ops draw, st, K =>
    match H (id + 100000) with
    | some l => G id (evReg P call N ops draw) (keep (some l) st) (K .normal)
    | none => evReg P call N ops draw st (K .normal)
  | .seq a b, st, K => evC P call H G N n a st (seqK (evC P call H G N n b) K)
  | .cond c x y, st, K =>
    match c with
    | .tmp i =>
      match get st i with
      | .o (.pv .bool v) => bif decide (i < N) then (bif v.toBool then evC P call H G N n x (known i true st) K else evC P call H G N n y (known i false st) K) else none
      | _ => none
    | .const (.bool b) => bif b then evC P call H G N n x st K else evC P call H G N n y st K
    | _ => none
  | .block id c, st, K => evC P call H G N n c st (blockK id K)
  | .loop c, st, K => evLoop (evC P call H G N n c) (hintOf H c) n (keep (hintOf H c) st) K
  | .exit id, st, K => K (.exit id) st
  | .ret, st, K => K .ret st
  | .scope c, st, K => evC P call H G N n c st K
  | _, _, _ => none

/-- The first state: lent objects lie behind the slots. -/
def entrySlots (n : Nat) : Nat → List AO → List AV
  | _, [] => []
  | h, .pv t v :: r => .o (.pv t v) :: entrySlots n h r
  | h, _ :: r => .al (n + h) [] :: entrySlots n (h + 1) r

def entryLent : List AO → List AV
  | [] => []
  | .pv _ _ :: r => entryLent r
  | x :: r => .o x :: entryLent r

def entry (n : Nat) (args : List AO) : St := entrySlots n 0 args ++ List.replicate (n - args.length) .dead ++ entryLent args

/-- A result out of its variable; 'many': with others. -/
def resOf (P : Program) (n : Nat) (many : Bool) (st : St) (r : ResultVar) (T : TypeId) : Option (St × AO) :=
  match r with
  | .tmp t =>
    bif decide (n ≤ t) then none else
    match get st t with
    | .o (.pv u v) => bif u.eq (tyOf P T) then some (st, .pv u v) else none
    | .o (.arr E l) => bif many then some (freezeObj st t [], .pv (.sl E) (.sl l)) else some (st, .arr E l)
    | .o (.box E cs) => bif many then none else some (st, .box E cs)
    | .al s p =>
      match obj st s p with
      | .pv u v => bif u.eq (tyOf P T) then some (st, .pv u v) else none
      | .arr E l => bif many || decide (n ≤ s) then some (freezeObj st s p, .pv (.sl E) (.sl l)) else some (st, .arr E l)
      | .box E cs => bif many || decide (n ≤ s) then none else some (st, .box E cs)
      | .dead => none
    | _ => none
  | .cell a T' =>
    bif decide (n ≤ a) || !Nat.beq T T' then none else
    match get (freezeCells a [] 0 (cellTys P deep T).length st) a with
    | .o (.box _ cs) =>
      bif isAggTy (tyOf P T) then
        (bif Nat.beq (P.cellsOf T) (cellTys P deep T).length then
          (match pureCells (cellTys P deep T) cs with
           | some vs => some (freezeCells a [] 0 (cellTys P deep T).length st, .pv (tyOf P T) (.agg vs))
           | none => none)
         else none)
      else bif scalarTy (tyOf P T) then
        (match nth .dead cs 0 with
         | .pv u v => bif u.eq (tyOf P T) then some (freezeCells a [] 0 (cellTys P deep T).length st, .pv u v) else none
         | _ => none)
      else none
    | _ => none

def resAll (P : Program) (n : Nat) (many : Bool) : List (ResultVar × TypeId) → St → Option (St × List AO)
  | [], st => some (st, [])
  | (r, T) :: rs, st =>
    match resOf P n many st r T with
    | some (st, x) => match resAll P n many rs st with
      | some (st, xs) => some (st, x :: xs)
      | none => none
    | none => none

def backOf (n : Nat) (st : St) : List AO := (st.drop n).map fun | .o x => x | _ => .dead

def finish (P : Program) (fn : Func) (st : St) : R :=
  match resAll P fn.ntmps (decide (fn.results.size ≠ 1)) (fn.results.toList.zip fn.resultTypes.toList) st with
  | some (st, xs) => bif Nat.beq xs.length fn.results.size then some (xs, backOf fn.ntmps st) else none
  | none => none

/-- What comes behind a body. -/
def finK (P : Program) (fn : Func) : Ex → St → R := fun e st => match e with
  | .exit _ => none
  | _ => finish P fn st

/-- One function, its calls told. -/
def evStepG (P : Program) (H : FuncId → Nat → Option (List Nat)) (G : Gate) (call : CallF) (k : Nat) (f : FuncId) (args : List AO) : R :=
  match P.funcs[f]? with
  | some fn =>
    match fn.body with
    | some c => bif decide (args.length ≤ fn.ntmps) && (Nat.beq args.length fn.params.size && !decide (fn.name = "runtime.NumGoroutine")) then
        evC P call (H f) G fn.ntmps k c (entry fn.ntmps args) (finK P fn)
      else none
    | none => none
  | none => none

def evStep (P : Program) (H : FuncId → Nat → Option (List Nat)) (call : CallF) (k : Nat) (f : FuncId) (args : List AO) : R := evStepG P H gate0 call k f args

def evF (P : Program) (H : FuncId → Nat → Option (List Nat)) : Nat → CallF
  | 0, _, _ => none
  | k + 1, f, args => evStep P H (evF P H k) k f args

/-- A way into a code. -/
inductive Way where
  | a | b | x | y | blk | sc | lp (m : Nat)

/-- The code at a place. -/
def codeAt : List Way → Code → Code
  | [], c => c
  | .a :: p, .seq a _ => codeAt p a
  | .b :: p, .seq _ b => codeAt p b
  | .x :: p, .cond _ x _ => codeAt p x
  | .y :: p, .cond _ _ y => codeAt p y
  | .blk :: p, .block _ c => codeAt p c
  | .sc :: p, .scope c => codeAt p c
  | .lp _ :: p, .loop c => codeAt p c
  | _ :: _, _ => .skip

/-- What comes behind it. -/
def kAt (P : Program) (call : CallF) (H : Nat → Option (List Nat)) (G : Gate) (N n : Nat) : List Way → Code → (Ex → St → R) → (Ex → St → R)
  | [], _, K => K
  | .a :: p, .seq a b, K => kAt P call H G N n p a (seqK (evC P call H G N n b) K)
  | .b :: p, .seq _ b, K => kAt P call H G N n p b K
  | .x :: p, .cond _ x _, K => kAt P call H G N n p x K
  | .y :: p, .cond _ _ y, K => kAt P call H G N n p y K
  | .blk :: p, .block id c, K => kAt P call H G N n p c (blockK id K)
  | .sc :: p, .scope c, K => kAt P call H G N n p c K
  | .lp m :: p, .loop c, K => kAt P call H G N n p c (seqK (fun st K => evLoop (evC P call H G N n c) (hintOf H c) m (keep (hintOf H c) st) K) K)
  | _ :: _, _, K => K

def bodyOf (P : Program) (f : FuncId) : Code := match P.funcs[f]? with | some fn => fn.body.getD .skip | none => .skip
def ntmpsOf (P : Program) (f : FuncId) : Nat := match P.funcs[f]? with | some fn => fn.ntmps | none => 0
def funcOf (P : Program) (f : FuncId) : Func := match P.funcs[f]? with | some fn => fn | none => default

/-- A loop of function f, from a kept state on. -/
def loopAt (P : Program) (H : FuncId → Nat → Option (List Nat)) (G : Gate) (call : CallF) (k : Nat) (f : FuncId) (p : List Way) (m : Nat) (st : St) (K : Ex → St → R) : R :=
  match codeAt p (bodyOf P f) with
  | .loop c => evLoop (evC P call (H f) G (ntmpsOf P f) k c) (hintOf (H f) c) m st K
  | _ => none

/-- A join of function f: the region there. -/
def regAt (P : Program) (call : CallF) (f : FuncId) (p : List Way) : St → (St → R) → R :=
  match codeAt p (bodyOf P f) with
  | .region _ ops draw => evReg P call (ntmpsOf P f) ops draw
  | _ => fun _ _ => none

/-- What comes behind it. -/
def behind (P : Program) (H : FuncId → Nat → Option (List Nat)) (G : Gate) (call : CallF) (k : Nat) (f : FuncId) (p : List Way) : Ex → St → R :=
  kAt P call (H f) G (ntmpsOf P f) k p (bodyOf P f) (finK P (funcOf P f))

end Go.V

namespace Go.V

inductive Tag where
  | free | out | own (s : Nat) (p : List Nat)

structure G where
  tag : Nat → Tag
  val : Nat → List Nat → Value

/-- A pure value lies in memory that nobody owns. -/
inductive PRep (P : Program) (w : World) (g : G) : Ty → PV → Value → Prop
  | int (k : IntKind) (n : Int) : PRep P w g (.int k) (.int k n) (.int k n)
  | bool (b : Bool) : PRep P w g .bool (.bool b) (.bool b)
  | str (s : ByteArray) : PRep P w g .str (.str s) (.string s)
  | nptr : PRep P w g .ptr (.cst (.pointer none)) (.pointer none)
  | nifc : PRep P w g .iface (.cst .nilIface) .nilIface
  | nfn : PRep P w g .fn (.cst .nilFunc) .nilFunc
  | nmp (k e : TypeId) : PRep P w g (.mp k e) (.cst (.map none)) (.map none)
  | ifc (t : TypeId) (v : PV) (x : Value) (h : PRep P w g (tyOf P t) v x) : PRep P w g .iface (.ifc t v) (.iface t x)
  | nsl (e : TypeId) : PRep P w g (.sl e) (.sl []) (.slice none 0 0)
  | esl (e : TypeId) (a : Addr) : PRep P w g (.sl e) (.sl []) (.slice (some a) 0 0)
  | sl (e : TypeId) (l : List PV) (b off cap : Nat) (f : Nat → Value)
      (h : ∀ (i : Nat) (x : PV), l[i]? = some x → PRep P w g (tyOf P e) x (f i))
      (hc : ∀ i, i < l.length → ∀ j, j < P.cellsOf e → w.cell? ⟨b, off + i * P.cellsOf e + j, none⟩ = (f i).cells[j]?)
      (ht : g.tag b = .free) (hb : b < w.heap.size) (hl : l.length ≤ cap) : PRep P w g (.sl e) (.sl l) (.slice (some ⟨b, off, none⟩) l.length cap)
  | st (t : TypeId) (xs : List PV) (cs : List Value) (hx : xs.length = (cellTys P deep t).length) (hc : cs.length = (cellTys P deep t).length)
      (h : ∀ (i : Nat) (ty : Ty) (x : PV) (c : Value), (cellTys P deep t)[i]? = some ty → xs[i]? = some x → cs[i]? = some c → PRep P w g ty x c) :
      PRep P w g (.st t) (.agg xs) (.agg ⟨cs⟩)

/-- How the world and the ghosts may move. -/
structure Fr (w : World) (g : G) (w' : World) (g' : G) : Prop where
  os : w'.os = w.os
  tape : w'.tape = w.tape
  output : w'.output = w.output
  size : w.heap.size ≤ w'.heap.size
  free : ∀ b, b < w.heap.size → g.tag b = .free → g'.tag b = .free ∧ w'.heap[b]? = w.heap[b]?
  out : ∀ b, b < w.heap.size → g.tag b = .out → g'.tag b = .out ∧ w'.heap[b]? = w.heap[b]?
  noOut : ∀ b, g'.tag b = .out → g.tag b = .out ∧ b < w.heap.size
  fresh : ∀ b, w'.heap.size ≤ b → g'.tag b = .free

theorem Fr.refl (w : World) (g : G) (h : ∀ b, w.heap.size ≤ b → g.tag b = .free) : Fr w g w g := by
  refine ⟨rfl, rfl, rfl, Nat.le_refl _, fun _ _ h => ⟨h, rfl⟩, fun _ _ h => ⟨h, rfl⟩, fun b hb => ⟨hb, ?_⟩, h⟩
  rcases Nat.lt_or_ge b w.heap.size with h' | h'
  · exact h'
  · rw [h b h'] at hb; cases hb

theorem Fr.trans {w : World} {g : G} {w1 : World} {g1 : G} {w2 : World} {g2 : G} (h : Fr w g w1 g1) (k : Fr w1 g1 w2 g2) : Fr w g w2 g2 := by
  refine ⟨k.os.trans h.os, k.tape.trans h.tape, k.output.trans h.output, Nat.le_trans h.size k.size, ?_, ?_, ?_, k.fresh⟩
  · intro b hb ht
    obtain ⟨h1, h2⟩ := h.free b hb ht
    obtain ⟨k1, k2⟩ := k.free b (Nat.lt_of_lt_of_le hb h.size) h1
    exact ⟨k1, k2.trans h2⟩
  · intro b hb ht
    obtain ⟨h1, h2⟩ := h.out b hb ht
    obtain ⟨k1, k2⟩ := k.out b (Nat.lt_of_lt_of_le hb h.size) h1
    exact ⟨k1, k2.trans h2⟩
  · intro b hb
    obtain ⟨k1, _⟩ := k.noOut b hb
    exact h.noOut b k1

theorem PRep.ext {P : Program} {w : World} {g : G} {w' : World} {g' : G} {t : Ty} {x : PV} {v : Value} (h : PRep P w g t x v)
    (hs : w.heap.size ≤ w'.heap.size) (hf : ∀ b, b < w.heap.size → g.tag b = .free → g'.tag b = .free ∧ w'.heap[b]? = w.heap[b]?) : PRep P w' g' t x v := by
  induction h with
  | int k n => exact .int k n
  | bool b => exact .bool b
  | str s => exact .str s
  | nptr => exact .nptr
  | nifc => exact .nifc
  | nfn => exact .nfn
  | nmp k e => exact .nmp k e
  | ifc t v x _ ih => exact .ifc t v x ih
  | nsl e => exact .nsl e
  | esl e a => exact .esl e a
  | sl e l b off cap f _ hc ht hb hl ih =>
    obtain ⟨h1, h2⟩ := hf b hb ht
    refine .sl e l b off cap f ih (fun i hi j hj => ?_) h1 (Nat.lt_of_lt_of_le hb hs) hl
    rw [World.cell?_of_block (w := w) h2]; exact hc i hi j hj
  | st t xs cs hx hc _ ih => exact .st t xs cs hx hc ih

theorem PRep.fr {P : Program} {w : World} {g : G} {w' : World} {g' : G} {t : Ty} {x : PV} {v : Value} (h : PRep P w g t x v) (f : Fr w g w' g') : PRep P w' g' t x v :=
  h.ext f.size f.free

section inv
variable {P : Program} {w : World} {g : G} {x : PV} {v : Value}
theorem PRep.int_inv {k : IntKind} (h : PRep P w g (.int k) x v) : ∃ n, x = .int k n ∧ v = .int k n := by cases h; exact ⟨_, rfl, rfl⟩
theorem PRep.bool_inv (h : PRep P w g .bool x v) : ∃ b, x = .bool b ∧ v = .bool b := by cases h; exact ⟨_, rfl, rfl⟩
theorem PRep.str_inv (h : PRep P w g .str x v) : ∃ s, x = .str s ∧ v = .string s := by cases h; exact ⟨_, rfl, rfl⟩
theorem PRep.st_inv {t : TypeId} (h : PRep P w g (.st t) x v) : ∃ xs cs, x = .agg xs ∧ v = .agg ⟨cs⟩ ∧ xs.length = (cellTys P deep t).length ∧ cs.length = (cellTys P deep t).length ∧
    ∀ (i : Nat) (ty : Ty) (x : PV) (c : Value), (cellTys P deep t)[i]? = some ty → xs[i]? = some x → cs[i]? = some c → PRep P w g ty x c := by
  cases h with
  | st _ xs cs hx hc h => exact ⟨xs, cs, rfl, rfl, hx, hc, h⟩
end inv

/-- An owned object at a place; its value is the ghosts' own. -/
inductive ORep (P : Program) (w : World) (g : G) (s : Nat) : List Nat → AO → Prop
  | pv (p : List Nat) (t : Ty) (x : PV) (h : PRep P w g t x (g.val s p)) : ORep P w g s p (.pv t x)
  | dead (p : List Nat) : ORep P w g s p .dead
  | box (p : List Nat) (E : TypeId) (cs : List AO) (b : Nat) (vs : List Value) (hv : g.val s p = .pointer (some ⟨b, 0, none⟩))
      (hh : w.heap[b]? = some (.cells ⟨vs⟩ E (0, 0))) (ht : g.tag b = .own s p) (hl : vs.length = cs.length)
      (hc : ∀ (i : Nat) (x : AO), cs[i]? = some x → ORep P w g s (p ++ [i]) x) (hcv : ∀ (i : Nat) (x : AO), cs[i]? = some x → x ≠ .dead → vs[i]? = some (g.val s (p ++ [i]))) : ORep P w g s p (.box E cs)
  | narr (p : List Nat) (E : TypeId) (hv : g.val s p = .slice none 0 0) : ORep P w g s p (.arr E [])
  | arr (p : List Nat) (E : TypeId) (l : List PV) (b off cap : Nat) (vs : List Value) (f : Nat → Value) (T : TypeId) (hv : g.val s p = .slice (some ⟨b, off, none⟩) l.length cap)
      (hh : w.heap[b]? = some (.cells ⟨vs⟩ T (0, 0))) (ht : g.tag b = .own s p) (hl : l.length ≤ cap) (hcap : off + cap * P.cellsOf E ≤ vs.length)
      (he : ∀ (i : Nat) (x : PV), l[i]? = some x → PRep P w g (tyOf P E) x (f i))
      (hc : ∀ i, i < l.length → ∀ j, j < P.cellsOf E → vs[off + i * P.cellsOf E + j]? = (f i).cells[j]?) : ORep P w g s p (.arr E l)

theorem ORep.ext {P : Program} {w : World} {g : G} {w' : World} {g' : G} {s : Nat} {p : List Nat} {x : AO} (h : ORep P w g s p x) :
    ∀ {s' : Nat} {p' : List Nat}, w.heap.size ≤ w'.heap.size →
    (∀ b, b < w.heap.size → g.tag b = .free → g'.tag b = .free ∧ w'.heap[b]? = w.heap[b]?) →
    (∀ r, g'.val s' (p' ++ r) = g.val s (p ++ r)) →
    (∀ b r, b < w.heap.size → g.tag b = .own s (p ++ r) → g'.tag b = .own s' (p' ++ r) ∧ w'.heap[b]? = w.heap[b]?) → ORep P w' g' s' p' x := by
  induction h with
  | pv p t x h =>
    intro s' p' hs hf hv ho
    refine .pv p' t x ?_
    have := hv []; simp only [List.append_nil] at this
    rw [this]; exact h.ext hs hf
  | dead p => intro s' p' _ _ _ _; exact .dead p'
  | box p E cs b vs hv hh ht hl _ hcv ih =>
    intro s' p' hs hf hv' ho
    have h0 := hv' []; simp only [List.append_nil] at h0
    have hb : b < w.heap.size := by
      rcases Nat.lt_or_ge b w.heap.size with h | h
      · exact h
      · rw [Array.getElem?_eq_none h] at hh; cases hh
    obtain ⟨t1, t2⟩ := ho b [] hb (by simpa using ht)
    refine .box p' E cs b vs (by rw [h0]; exact hv) (by rw [t2]; exact hh) (by simpa using t1) hl (fun i x hx => ?_) (fun i x hx hd => ?_)
    · refine ih i x hx hs hf (fun r => ?_) (fun b r hb hbt => ?_)
      · have := hv' (i :: r); simpa using this
      · have := ho b (i :: r) hb (by simpa using hbt); simpa using this
    · rw [hcv i x hx hd]; have := hv' [i]; rw [this]
  | narr p E hv =>
    intro s' p' hs hf hv' ho
    have h0 := hv' []; simp only [List.append_nil] at h0
    exact .narr p' E (by rw [h0]; exact hv)
  | arr p E l b off cap vs f T hv hh ht hl hcap he hc =>
    intro s' p' hs hf hv' ho
    have h0 := hv' []; simp only [List.append_nil] at h0
    have hb : b < w.heap.size := by
      rcases Nat.lt_or_ge b w.heap.size with h | h
      · exact h
      · rw [Array.getElem?_eq_none h] at hh; cases hh
    obtain ⟨t1, t2⟩ := ho b [] hb (by simpa using ht)
    exact .arr p' E l b off cap vs f T (by rw [h0]; exact hv) (by rw [t2]; exact hh) (by simpa using t1) hl hcap (fun i x hx => (he i x hx).ext hs hf) hc

/-- What a slot's content says of its value. -/
inductive SRep (P : Program) (w : World) (g : G) (st : St) (s : Nat) : AV → Value → Prop
  | o (x : AO) (v : Value) (hv : x ≠ .dead → v = g.val s []) (h : ORep P w g s [] x) : SRep P w g st s (.o x) v
  | al (r : Nat) (p : List Nat) (v : Value) (h : obj st r p ≠ .dead → v = g.val r p) : SRep P w g st s (.al r p) v
  | ptr (r : Nat) (p : List Nat) (off : Nat) (v : Value) (h : ∀ E cs, obj st r p = .box E cs → ∃ b, g.val r p = .pointer (some ⟨b, 0, none⟩) ∧ v = .pointer (some ⟨b, off, none⟩)) : SRep P w g st s (.ptr r p off) v
  | el (r : Nat) (p : List Nat) (i off : Nat) (v : Value) (h : ∀ E l, obj st r p = .arr E l → i < l.length ∧ ∃ b o n cap, g.val r p = .slice (some ⟨b, o, none⟩) n cap ∧ v = .pointer (some ⟨b, o + i * P.cellsOf E + off, none⟩)) : SRep P w g st s (.el r p i off) v
  | ip (E : TypeId) (x : PV) (off b o : Nat) (f : Value) (h : PRep P w g (tyOf P E) x f) (hc : ∀ j, j < P.cellsOf E → w.cell? ⟨b, o + j, none⟩ = f.cells[j]?) (ht : g.tag b = .free) (hb : b < w.heap.size) :
      SRep P w g st s (.ip E x off) (.pointer (some ⟨b, o + off, none⟩))
  | tup (xs : List AO) (vs : List Value) (hl : vs.length = xs.length) (h : ∀ (i : Nat) (x : AO) (v : Value), xs[i]? = some x → vs[i]? = some v → ∃ t y, x = .pv t y ∧ PRep P w g t y v) : SRep P w g st s (.tup xs) (.tuple ⟨vs⟩)
  | dead (v : Value) : SRep P w g st s .dead v

/-- Variables of libraries that are read in calls which the engine takes as told: what they hold. -/
def varIs (n : String) (c : Option Value) : Prop :=
  if n = "internal/bytealg.MaxLen" then ∃ m, c = some (.int .i64 m) else ∃ v, c = some v ∧ (v = .nilIface ∨ ∃ t p, v = .iface t p)
def libVars : List String := ["internal/bytealg.MaxLen", "strconv.ErrSyntax", "strconv.ErrRange"]
/-- Their blocks belong to nobody. -/
def VarsOk (P : Program) (w : World) (g : G) : Prop :=
  ∀ n v, n ∈ libVars → P.globalNamed n = some v → g.tag v = .free ∧ v < w.heap.size ∧ varIs n (w.cell? ⟨v, 0, none⟩)

theorem VarsOk.keep {P : Program} {w : World} {g : G} {w' : World} {g' : G} (h : VarsOk P w g) (hs : w.heap.size ≤ w'.heap.size)
    (hf : ∀ b, b < w.heap.size → g.tag b = .free → g'.tag b = .free ∧ w'.heap[b]? = w.heap[b]?) : VarsOk P w' g' := by
  intro n v hn hv
  obtain ⟨h1, h2, h3⟩ := h n v hn hv
  obtain ⟨k1, k2⟩ := hf v h2 h1
  exact ⟨k1, Nat.lt_of_lt_of_le h2 hs, by rw [World.cell?_of_block (w := w) k2]; exact h3⟩

/-- The state stands for the frame's slots ('tv': their values, those of what is lent behind them) and the world. -/
structure Inv (P : Program) (st : St) (tv : List Value) (w : World) (g : G) : Prop where
  len : tv.length = st.length
  slot : ∀ (s : Nat) (x : AV) (v : Value), st[s]? = some x → tv[s]? = some v → SRep P w g st s x v
  fresh : ∀ b, w.heap.size ≤ b → g.tag b = .free
  vars : VarsOk P w g

end Go.V

namespace Go.V

theorem nth_eq {α : Type} (d : α) : ∀ (l : List α) (n : Nat), nth d l n = l[n]?.getD d
  | [], n => by simp [nth]
  | x :: l, 0 => by simp [nth]
  | x :: l, n + 1 => by simp [nth, nth_eq d l n]

structure Good (P : Program) (N : Nat) (st : St) (a : Act) (hv : List Value) (w : World) (g : G) : Prop where
  inv : Inv P st (a.tmps.toList ++ hv) w g
  sz : a.tmps.size = N
  dfr : a.defers = []

section
variable {P : Program} {N : Nat} {st : St} {a : Act} {hv : List Value} {w : World} {g : G}

theorem Good.len (h : Good P N st a hv w g) : st.length = N + hv.length := by
  have := h.inv.len; simp at this; rw [← this, h.sz]

theorem Good.slot (h : Good P N st a hv w g) {t : Nat} (ht : t < N) : SRep P w g st t (get st t) (a.eval (.tmp t)) := by
  have hl := h.len
  have hs := h.sz
  have h1 : st[t]? = some (get st t) := by
    rw [get, nth_eq, List.getElem?_eq_getElem (by omega)]; rfl
  refine h.inv.slot t _ _ h1 ?_
  have ht' : t < a.tmps.size := by omega
  rw [List.getElem?_append_left (by simpa using ht')]
  simp [Act.eval, ht']

theorem Good.hid (h : Good P N st a hv w g) {i : Nat} {v : Value} (hi : hv[i]? = some v) : SRep P w g st (N + i) (get st (N + i)) v := by
  have hl := h.len
  have hs := h.sz
  have hlt : i < hv.length := by
    rcases Nat.lt_or_ge i hv.length with h' | h'
    · exact h'
    · rw [List.getElem?_eq_none h'] at hi; cases hi
  have h1 : st[N + i]? = some (get st (N + i)) := by
    rw [get, nth_eq, List.getElem?_eq_getElem (by omega)]; rfl
  refine h.inv.slot _ _ _ h1 ?_
  rw [List.getElem?_append_right (by simp; omega)]
  simp only [Array.length_toList, hs, Nat.add_sub_cancel_left]; exact hi

/-- Whatever place: what lies there is as it says. -/
theorem Good.owner (h : Good P N st a hv w g) {s : Nat} {x : AO} (hs : get st s = .o x) : ORep P w g s [] x := by
  have hl := h.len
  have hlt : s < st.length := by
    rcases Nat.lt_or_ge s st.length with h' | h'
    · exact h'
    · rw [get, nth_eq, List.getElem?_eq_none h'] at hs; cases hs
  have h1 : st[s]? = some (.o x) := by rw [List.getElem?_eq_getElem hlt]; rw [get, nth_eq, List.getElem?_eq_getElem hlt] at hs; simpa using hs
  have hv' : s < (a.tmps.toList ++ hv).length := by rw [h.inv.len]; exact hlt
  have := h.inv.slot s _ _ h1 (List.getElem?_eq_getElem hv')
  cases this with
  | o _ _ _ h => exact h

theorem ORep.at {s : Nat} {p : List Nat} {x : AO} (h : ORep P w g s p x) : ∀ (q : List Nat), ORep P w g s (p ++ q) (x.at q) := by
  induction h with
  | pv p t x h => intro q; cases q with
    | nil => simpa [AO.at] using ORep.pv p t x h
    | cons i q => simpa [AO.at] using ORep.dead _
  | dead p => intro q; cases q <;> simpa [AO.at] using ORep.dead _
  | box p E cs b vs hv hh ht hl hc hcv ih =>
    intro q; cases q with
    | nil => simpa [AO.at] using ORep.box p E cs b vs hv hh ht hl hc hcv
    | cons i q =>
      simp only [AO.at]
      rw [nth_eq]
      cases hx : cs[i]? with
      | none =>
        simp only [Option.getD_none]
        have : AO.at .dead q = .dead := by cases q <;> rfl
        rw [this]; exact .dead _
      | some x => have := ih i x hx q; simpa using this
  | narr p E hv => intro q; cases q with
    | nil => simpa [AO.at] using ORep.narr p E hv
    | cons i q => simpa [AO.at] using ORep.dead _
  | arr p E l b off cap vs f T hv hh ht hl hcap he hc => intro q; cases q with
    | nil => simpa [AO.at] using ORep.arr p E l b off cap vs f T hv hh ht hl hcap he hc
    | cons i q => simpa [AO.at] using ORep.dead _

theorem Good.obj (h : Good P N st a hv w g) (s : Nat) (p : List Nat) : ORep P w g s p (obj st s p) := by
  unfold V.obj
  split
  · rename_i x hx
    have := (h.owner hx).at p; simpa using this
  · exact .dead _

theorem ORep.pv_inv {s : Nat} {p : List Nat} {t : Ty} {x : PV} (h : ORep P w g s p (.pv t x)) : PRep P w g t x (g.val s p) := by cases h; assumption

theorem constPV_sound {t : Ty} {v : Value} {x : PV} (h : constPV t v = some x) : PRep P w g t x v := by
  unfold constPV at h
  split at h
  · split at h
    · rename_i k n _ j
      cases hd : decide (j = k) <;> simp [hd] at h
      subst h; simp at hd; subst hd; exact .int _ _
    · cases h
  · split at h
    · cases h; exact .bool _
    · cases h
  · split at h
    · cases h; exact .str _
    · cases h
  · split at h
    · split at h
      · cases h; exact .nsl _
      · cases h
    · cases h
  · split at h
    · cases h; exact .nptr
    · cases h
  · split at h
    · cases h; exact .nifc
    · cases h
  · split at h
    · cases h; exact .nfn
    · cases h
  · split at h
    · cases h; exact .nmp _ _
    · cases h
  · cases h

theorem constCells_sound : ∀ {ts : List Ty} {vs : List Value} {xs : List PV}, constCells ts vs = some xs →
    xs.length = ts.length ∧ vs.length = ts.length ∧ ∀ (i : Nat) (ty : Ty) (x : PV) (c : Value), ts[i]? = some ty → xs[i]? = some x → vs[i]? = some c → PRep P w g ty x c
  | [], [], xs, h => by simp [constCells] at h; subst h; simp
  | [], _ :: _, _, h => by simp [constCells] at h
  | _ :: _, [], _, h => by simp [constCells] at h
  | t :: ts, v :: vs, xs, h => by
    simp only [constCells] at h
    split at h
    · rename_i x hx
      split at h
      · rename_i ys hy
        cases h
        obtain ⟨h1, h2, h3⟩ := constCells_sound hy
        refine ⟨by simp [h1], by simp [h2], ?_⟩
        intro i ty z c ht hz hc
        cases i with
        | zero => simp at ht hz hc; subst ht hz hc; exact constPV_sound hx
        | succ i => simp at ht hz hc; exact h3 i ty z c ht hz hc
      · cases h
    · cases h

theorem constAt_sound {t : TypeId} {v : Value} {x : PV} (h : constAt P t v = some x) : PRep P w g (tyOf P t) x v := by
  unfold constAt at h
  split at h
  · rename_i T hT
    split at h
    · rename_i cs
      split at h
      · rename_i xs hx
        cases h
        obtain ⟨h1, h2, h3⟩ := constCells_sound (P := P) (w := w) (g := g) hx
        have hTt : T = t := by
          unfold tyOf at hT; split at hT <;> first | (cases hT; done) | (injection hT with hT; exact hT.symm) | cases hT
        subst hTt
        rw [hT]
        have := PRep.st (P := P) (w := w) (g := g) T xs cs.toList h1 h2 h3
        simpa using this
      · cases h
    · cases h
  · exact constPV_sound h

theorem asPV_sound {s : Nat} {p : List Nat} {t : Ty} {x : AO} {y : PV} (h : ORep P w g s p x) (hx : x.asPV t = some y) : PRep P w g t y (g.val s p) ∧ x = .pv t y := by
  cases x with
  | pv u v =>
    simp only [AO.asPV] at hx
    cases he : u.eq t with
    | false => simp [he] at hx
    | true => simp [he] at hx; subst hx; have := Ty.eq_of he; subst this; exact ⟨h.pv_inv, rfl⟩
  | _ => simp [AO.asPV] at hx

theorem Good.asPV (h : Good P N st a hv w g) {i : Nat} (hi : i < N) {t : Ty} {y : PV} (hx : (get st i).asPV st t = some y) : PRep P w g t y (a.eval (.tmp i)) := by
  have hs := h.slot hi
  generalize hg : get st i = z at hs hx
  generalize a.eval (.tmp i) = v at hs ⊢
  cases hs with
  | o x v hv' ho =>
    simp only [AV.asPV] at hx
    obtain ⟨h1, h2⟩ := asPV_sound ho hx
    rw [hv' (by rw [h2]; simp)]; exact h1
  | al r p v hv' =>
    simp only [AV.asPV] at hx
    obtain ⟨h1, h2⟩ := asPV_sound (h.obj r p) hx
    rw [hv' (by rw [h2]; simp)]; exact h1
  | _ => simp [AV.asPV] at hx

theorem Good.rd (h : Good P N st a hv w g) {t : TypeId} {x : Operand} {y : PV} (hok : tmpOk N x = true) (hx : rd P st t x = some y) : PRep P w g (tyOf P t) y (a.eval x) := by
  cases x with
  | tmp i => simp [tmpOk] at hok; exact h.asPV hok hx
  | const v => exact constAt_sound hx
  | _ => simp [V.rd] at hx

theorem Good.rdInt (h : Good P N st a hv w g) {x : Operand} {y : PV} (hok : tmpOk N x = true) (hx : rdInt st x = some y) : ∃ k n, y = .int k n ∧ a.eval x = .int k n := by
  cases x with
  | tmp i =>
    simp [tmpOk] at hok
    have hs := h.slot hok
    simp only [V.rdInt] at hx
    generalize hg : get st i = z at hs hx
    generalize a.eval (.tmp i) = v at hs ⊢
    cases hs with
    | o x v hv' ho =>
      cases x with
      | pv t u => cases t <;> simp at hx
                  subst hx
                  obtain ⟨n, h1, h2⟩ := ho.pv_inv.int_inv
                  exact ⟨_, n, h1, by rw [hv' (by simp)]; exact h2⟩
      | _ => simp at hx
    | al r p v hv' =>
      simp only at hx
      have hobj := h.obj r p
      generalize V.obj st r p = q at hx hobj hv'
      cases q with
      | pv t u => cases t <;> simp at hx
                  subst hx
                  obtain ⟨n, h1, h2⟩ := hobj.pv_inv.int_inv
                  exact ⟨_, n, h1, by rw [hv' (by simp)]; exact h2⟩
      | _ => simp at hx
    | _ => simp at hx
  | const v => cases v <;> simp [V.rdInt] at hx; subst hx; exact ⟨_, _, rfl, rfl⟩
  | _ => simp [V.rdInt] at hx

end
end Go.V

namespace Go.V

theorem get_map (f : AV → AV) (hf : f .dead = .dead) (st : St) (r : Nat) : get (st.map f) r = f (get st r) := by
  simp only [get, nth_eq, List.getElem?_map]
  cases st[r]? <;> simp [hf]

theorem get_kill (s : Nat) (p : List Nat) (st : St) (r : Nat) : get (kill s p st) r = bif (get st r).rooted s p then .dead else get st r := by
  unfold kill; rw [get_map _ (by simp [AV.rooted])]

theorem get_set (st : St) (d : Nat) (v : AV) (r : Nat) : get (st.set d v) r = if r = d ∧ d < st.length then v else get st r := by
  simp only [get, nth_eq, List.getElem?_set]
  by_cases h : d = r
  · subst h
    by_cases hl : d < st.length
    · simp [hl]
    · simp [hl]
  · simp [h, Ne.symm h]

theorem length_kill (s : Nat) (p : List Nat) (st : St) : (kill s p st).length = st.length := by simp [kill]
theorem length_put (d : Nat) (v : AV) (st : St) : (put d v st).length = st.length := by simp [put, kill]

theorem get_put (d : Nat) (v : AV) (st : St) (r : Nat) : get (put d v st) r = if r = d ∧ d < st.length then v else (bif (get st r).rooted d [] then .dead else get st r) := by
  unfold put; rw [get_set, get_kill, length_kill]

theorem obj_of_get {st st' : St} {r : Nat} (h : ∀ x, get st r = .o x ↔ get st' r = .o x) (p : List Nat) : obj st' r p = obj st r p := by
  unfold obj
  cases hg : get st r with
  | o x => rw [(h x).1 hg]
  | _ =>
    cases hg' : get st' r with
    | o y => have := (h y).2 hg'; rw [hg] at this; cases this
    | _ => rfl

theorem get_kill_o (s : Nat) (p : List Nat) (st : St) (r : Nat) (x : AO) : get st r = .o x ↔ get (kill s p st) r = .o x := by
  rw [get_kill]
  cases hg : get st r with
  | o y => simp [AV.rooted]
  | al s' q => simp only [AV.rooted]; cases (Nat.beq s s' && pre p q) <;> simp
  | ptr s' q off => simp only [AV.rooted]; cases (Nat.beq s s' && pre p q) <;> simp
  | el s' q i off => simp only [AV.rooted]; cases (Nat.beq s s' && pre p q) <;> simp
  | ip => simp [AV.rooted]
  | tup => simp [AV.rooted]
  | dead => simp [AV.rooted]

theorem obj_kill (s : Nat) (p : List Nat) (st : St) (r : Nat) (q : List Nat) : obj (kill s p st) r q = obj st r q :=
  obj_of_get (get_kill_o s p st r) q

theorem obj_set {st : St} {d r : Nat} (v : AV) (h : r ≠ d) (q : List Nat) : obj (st.set d v) r q = obj st r q := by
  unfold obj; rw [get_set]; simp [h]

theorem obj_put {st : St} {d r : Nat} (v : AV) (h : r ≠ d) (q : List Nat) : obj (put d v st) r q = obj st r q := by
  unfold put; rw [obj_set v h, obj_kill]

theorem nbeq (a b : Nat) : Nat.beq a b = decide (a = b) := by
  rcases Nat.decEq a b with h | h
  · simp only [h, decide_false]; exact Bool.eq_false_iff.2 (fun hb => h (Nat.eq_of_beq_eq_true hb))
  · subst h; simp

theorem pre_nil (q : List Nat) : pre [] q = true := by cases q <;> rfl

structure QFr (w : World) (g : G) (w' : World) (g' : G) (d : Option Nat) : Prop where
  os : w'.os = w.os
  tape : w'.tape = w.tape
  output : w'.output = w.output
  size : w.heap.size ≤ w'.heap.size
  old : ∀ b, b < w.heap.size → g'.tag b = g.tag b ∧ w'.heap[b]? = w.heap[b]?
  val : ∀ s p, d ≠ some s → g'.val s p = g.val s p
  new : ∀ b, w.heap.size ≤ b → g'.tag b ≠ .out
  fresh : ∀ b, w'.heap.size ≤ b → g'.tag b = .free

theorem QFr.fr {w : World} {g : G} {w' : World} {g' : G} {d : Option Nat} (h : QFr w g w' g' d) : Fr w g w' g' := by
  refine ⟨h.os, h.tape, h.output, h.size, fun b hb ht => ?_, fun b hb ht => ?_, fun b hb => ?_, h.fresh⟩
  · obtain ⟨h1, h2⟩ := h.old b hb; exact ⟨h1.trans ht, h2⟩
  · obtain ⟨h1, h2⟩ := h.old b hb; exact ⟨h1.trans ht, h2⟩
  · rcases Nat.lt_or_ge b w.heap.size with h' | h'
    · exact ⟨(h.old b h').1 ▸ hb, h'⟩
    · exact absurd hb (h.new b h')

theorem QFr.refl (w : World) (g : G) (d : Option Nat) (h : ∀ b, w.heap.size ≤ b → g.tag b = .free) : QFr w g w g d :=
  ⟨rfl, rfl, rfl, Nat.le_refl _, fun _ _ => ⟨rfl, rfl⟩, fun _ _ _ => rfl, fun b hb => by rw [h b hb]; simp, h⟩

section
variable {P : Program} {N : Nat} {st : St} {a : Act} {hv : List Value} {w w' : World} {g g' : G}

/-- A slot's content that isn't touched. -/
theorem SRep.keep {st' : St} {s : Nat} {x : AV} {v : Value} (h : SRep P w g st s x v) (hs : w.heap.size ≤ w'.heap.size)
    (hf : ∀ b, b < w.heap.size → g.tag b = .free → g'.tag b = .free ∧ w'.heap[b]? = w.heap[b]?)
    (ho : ∀ y, x = .o y → y ≠ .dead → (∀ r, g'.val s r = g.val s r) ∧ (∀ b r, b < w.heap.size → g.tag b = .own s r → g'.tag b = .own s r ∧ w'.heap[b]? = w.heap[b]?))
    (hr : ∀ r p, (x = .al r p ∨ (∃ off, x = .ptr r p off) ∨ (∃ i off, x = .el r p i off)) → (obj st' r p = .dead) ∨ (obj st' r p = obj st r p ∧ g'.val r p = g.val r p)) :
    SRep P w' g' st' s x v := by
  cases h with
  | o x v hv h =>
    by_cases hd : x = .dead
    · subst hd; exact .o _ v (fun h => absurd rfl h) (.dead _)
    · obtain ⟨h1, h2⟩ := ho x rfl hd
      refine .o x v (fun _ => ?_) (h.ext hs hf (fun r => by simpa using h1 r) (fun b r hb ht => by simpa using h2 b r hb (by simpa using ht)))
      rw [hv hd, h1 []]
  | al r p v h =>
    refine .al r p v (fun hd => ?_)
    rcases hr r p (.inl rfl) with h1 | ⟨h1, h2⟩
    · exact absurd h1 hd
    · rw [h2]; exact h (by rw [← h1]; exact hd)
  | ptr r p off v h =>
    refine .ptr r p off v (fun E cs he => ?_)
    rcases hr r p (.inr (.inl ⟨off, rfl⟩)) with h1 | ⟨h1, h2⟩
    · rw [h1] at he; cases he
    · rw [h2]; exact h E cs (by rw [← h1]; exact he)
  | el r p i off v h =>
    refine .el r p i off v (fun E l he => ?_)
    rcases hr r p (.inr (.inr ⟨i, off, rfl⟩)) with h1 | ⟨h1, h2⟩
    · rw [h1] at he; cases he
    · rw [h2]; exact h E l (by rw [← h1]; exact he)
  | ip E x off b o f h hc ht hb =>
    obtain ⟨h1, h2⟩ := hf b hb ht
    exact .ip E x off b o f (h.ext hs hf) (fun j hj => by rw [World.cell?_of_block (w := w) h2]; exact hc j hj) h1 (Nat.lt_of_lt_of_le hb hs)
  | tup xs vs hl h =>
    refine .tup xs vs hl (fun i x v hx hv => ?_)
    obtain ⟨t, y, h1, h2⟩ := h i x v hx hv
    exact ⟨t, y, h1, h2.ext hs hf⟩
  | dead v => exact .dead v

theorem get_of_getElem? {st : St} {s : Nat} {x : AV} (h : st[s]? = some x) : get st s = x := by simp [get, nth_eq, h]

theorem eval_lt {t : Nat} (a : Act) (h : t < a.tmps.size) : a.tmps.toList[t]? = some (a.eval (.tmp t)) := by
  simp [Act.eval, h]

theorem Good.put (h : Good P N st a hv w g) {d : Nat} (hd : d < N) (q : QFr w g w' g' (some d)) {av : AV} {v : Value} (hs : SRep P w' g' st d av v) :
    Good P N (V.put d av st) (a.put (some d) v) hv w' g' := by
  have hlen := h.len
  have hsz := h.sz
  refine ⟨⟨?_, ?_, q.fresh, h.inv.vars.keep q.size q.fr.free⟩, by simp [Act.put, hsz], by simpa [Act.put] using h.dfr⟩
  · have := h.inv.len
    rw [length_put]; simp [Act.put] at this ⊢; exact this
  · intro s x u hx hu
    have hgx := get_of_getElem? hx
    rw [get_put] at hgx
    by_cases hsd : s = d
    · subst hsd
      have hdl : s < st.length := by omega
      simp [hdl] at hgx
      subst hgx
      have : u = v := by
        have h1 : s < (a.tmps.setIfInBounds s v).toList.length := by simp; omega
        rw [List.getElem?_append_left (by simpa [Act.put] using h1)] at hu
        simp [Act.put, hsz, hd] at hu; exact hu.symm
      subst this
      cases hs with
      | o x _ hv h => exact .o x _ hv h
      | al r p _ h' =>
        refine .al r p _ (fun hne => ?_)
        by_cases hrd : r = s
        · subst hrd
          exfalso; apply hne; unfold V.obj; rw [get_put]; simp [hdl]
        · rw [obj_put _ hrd] at hne; exact h' hne
      | ptr r p off _ h' =>
        refine .ptr r p off _ (fun E cs he => ?_)
        by_cases hrd : r = s
        · subst hrd
          unfold V.obj at he; rw [get_put] at he; simp [hdl] at he
        · rw [obj_put _ hrd] at he; exact h' E cs he
      | el r p i off _ h' =>
        refine .el r p i off _ (fun E l he => ?_)
        by_cases hrd : r = s
        · subst hrd
          unfold V.obj at he; rw [get_put] at he; simp [hdl] at he
        · rw [obj_put _ hrd] at he; exact h' E l he
      | ip E x off b o f h hc ht hb => exact .ip E x off b o f h hc ht hb
      | tup xs vs hl h => exact .tup xs vs hl h
      | dead _ => exact .dead _
    · simp only [hsd, false_and, if_false] at hgx
      cases hroot : (get st s).rooted d [] with
      | true => simp [hroot] at hgx; subst hgx; exact .dead u
      | false =>
        simp [hroot] at hgx
        have hlt : s < st.length := by
          have := List.getElem?_eq_some_iff.1 hx; obtain ⟨hh, _⟩ := this; rw [length_put] at hh; exact hh
        have hxs : st[s]? = some x := by rw [List.getElem?_eq_getElem hlt]; rw [get, nth_eq, List.getElem?_eq_getElem hlt] at hgx; simpa using hgx
        have hus : (a.tmps.toList ++ hv)[s]? = some u := by
          rw [← hu]
          by_cases hsN : s < N
          · rw [List.getElem?_append_left (by simp; omega), List.getElem?_append_left (by simp [Act.put]; omega)]
            simp [Act.put, Ne.symm hsd]
          · rw [List.getElem?_append_right (by simp; omega), List.getElem?_append_right (by simp [Act.put]; omega)]
            simp [Act.put]
        refine (h.inv.slot s x u hxs hus).keep q.size q.fr.free (fun y _ _ => ⟨fun r => q.val s r (by simpa using Ne.symm hsd), fun b r hb ht => ?_⟩) (fun r p hrp => ?_)
        · obtain ⟨h1, h2⟩ := q.old b hb; exact ⟨h1.trans ht, h2⟩
        · have hrd : r ≠ d := by
            intro hrd
            rw [← hgx] at hrp
            rcases hrp with hrp | ⟨off, hrp⟩ | ⟨i, off, hrp⟩ <;> rw [hrp] at hroot <;> simp [AV.rooted, hrd, pre_nil] at hroot
          exact .inr ⟨obj_put _ hrd p, q.val r p (by simpa using Ne.symm hrd)⟩

theorem Good.same (h : Good P N st a hv w g) (q : QFr w g w' g' none) : Good P N st a hv w' g' := by
  refine ⟨⟨h.inv.len, fun s x u hx hu => ?_, q.fresh, h.inv.vars.keep q.size q.fr.free⟩, h.sz, h.dfr⟩
  refine (h.inv.slot s x u hx hu).keep q.size q.fr.free (fun y _ _ => ⟨fun r => q.val s r (by simp), fun b r hb ht => ?_⟩) (fun r p _ => .inr ⟨rfl, q.val r p (by simp)⟩)
  obtain ⟨h1, h2⟩ := q.old b hb; exact ⟨h1.trans ht, h2⟩

theorem Good.putD (h : Good P N st a hv w g) {d : Option Nat} (hd : ∀ i, d = some i → i < N) (q : QFr w g w' g' d) {av : AV} {v : Value} (hs : ∀ i, d = some i → SRep P w' g' st i av v) :
    Good P N (V.putD d av st) (a.put d v) hv w' g' := by
  cases d with
  | none => exact h.same q
  | some i => exact h.put (hd i rfl) q (hs i rfl)
end
end Go.V

namespace Go.V
section
variable {P : Program} {w : World} {g : G}

theorem tyOf_int {t : TypeId} {k : IntKind} (h : tyOf P t = .int k) : P.underlying t = some (.int k) := by
  unfold tyOf at h; split at h <;> first | (injection h with h; subst h; assumption) | cases h
theorem tyOf_bool {t : TypeId} (h : tyOf P t = .bool) : P.underlying t = some .bool := by
  unfold tyOf at h; split at h <;> first | assumption | cases h
theorem tyOf_str {t : TypeId} (h : tyOf P t = .str) : P.underlying t = some .string := by
  unfold tyOf at h; split at h <;> first | assumption | cases h
theorem tyOf_sl {t : TypeId} {e : TypeId} (h : tyOf P t = .sl e) : P.underlying t = some (.slice e) := by
  unfold tyOf at h; split at h <;> first | (injection h with h; subst h; assumption) | cases h
theorem tyOf_st {t u : TypeId} (h : tyOf P t = .st u) : u = t ∧ ∃ fs, P.underlying t = some (.struct fs) := by
  unfold tyOf at h; split at h <;> first | (injection h with h; exact ⟨h.symm, _, by assumption⟩) | cases h
theorem isAggTy_st {t : TypeId} (h : isAggTy (tyOf P t) = true) : tyOf P t = .st t := by
  cases ht : tyOf P t <;> simp [ht, isAggTy] at h
  rw [(tyOf_st ht).1]

theorem run_isAgg_st {t : TypeId} (h : tyOf P t = .st t) : (isAgg t).run P w = .ok true w := by
  obtain ⟨_, fs, hu⟩ := tyOf_st h
  simp [isAgg, run_underlying hu]

theorem scalar_under {t : TypeId} (h : scalarTy (tyOf P t) = true) : ∃ d, P.underlying t = some d ∧ (∀ fs, d ≠ .struct fs) ∧ (∀ n e, d ≠ .array n e) := by
  unfold tyOf at h
  split at h <;> first | (simp [scalarTy] at h; done) | exact ⟨_, by assumption, by simp, by simp⟩

theorem run_isAgg_scalar {t : TypeId} (h : scalarTy (tyOf P t) = true) : (isAgg t).run P w = .ok false w := by
  obtain ⟨d, hd, h1, h2⟩ := scalar_under h
  simp only [isAgg, Sem.run_bind, run_underlying hd, Result.andThen_ok]
  cases d <;> first | rfl | exact absurd rfl (h1 _) | exact absurd rfl (h2 _ _)

theorem run_sizeOf {t : TypeId} {d : TypeDesc} (h : P.underlying t = some d) : (sizeOf t).run P w = .ok (P.cellsOf t) w := by
  unfold Program.underlying at h
  cases hi : P.info? t with
  | none => rw [hi] at h; cases h
  | some i => simp [sizeOf, typeInfo, Program.cellsOf, hi]

theorem run_loadVar_agg {t : TypeId} (h : tyOf P t = .st t) (a : Addr) (cs : List Value) (hn : cs.length = P.cellsOf t) (hc : ∀ j v, cs[j]? = some v → w.cell? (a.add j) = some v) :
    (loadVar t a).run P w = .ok (.agg ⟨cs⟩) w := by
  obtain ⟨_, fs, hu⟩ := tyOf_st h
  have := run_loadCells_list (P := P) (w := w) a cs hc
  simp only [loadVar, Sem.run_bind, run_isAgg_st h, Result.andThen_ok, if_true, run_sizeOf hu, ← hn, this, Sem.run_pure]

theorem run_loadVar_scalar {t : TypeId} (h : scalarTy (tyOf P t) = true) (a : Addr) (v : Value) (hc : w.cell? a = some v) :
    (loadVar t a).run P w = .ok v w := by
  simp [loadVar, run_isAgg_scalar h, hc]

theorem addr_add (b o n : Nat) : Addr.add ⟨b, o, none⟩ n = ⟨b, o + n, none⟩ := Addr.add_lit b o n

theorem cell_get (xs : List PV) (j : Nat) : (PV.agg xs).cell j = xs[j]?.getD default := by simp [PV.cell, PV.cells]

theorem tysPre_get : ∀ {ts us : List Ty} {i : Nat} {t : Ty}, tysPre ts us = true → ts[i]? = some t → us[i]? = some t
  | [], _, i, t, _, h => by simp at h
  | _ :: _, [], _, _, h, _ => by simp [tysPre] at h
  | a :: ts, b :: us, i, t, h, ht => by
    simp only [tysPre, Bool.and_eq_true] at h
    cases i with
    | zero => simp at ht ⊢; rw [← Ty.eq_of h.1]; exact ht
    | succ i => simp at ht ⊢; exact tysPre_get h.2 ht

/-- A part of a pure value, as it lies in memory. -/
theorem subPV_sound {E T : TypeId} {x y : PV} {off : Nat} {f : Value} (h : PRep P w g (tyOf P E) x f) (hs : subPV P E T x off = some y) :
    (tyOf P T = .st T ∧ ∃ cs, cs.length = P.cellsOf T ∧ PRep P w g (tyOf P T) y (.agg ⟨cs⟩) ∧ (∀ j v, cs[j]? = some v → f.cells[off + j]? = some v ∧ off + j < P.cellsOf E)) ∨
    (scalarTy (tyOf P T) = true ∧ ∃ v, PRep P w g (tyOf P T) y v ∧ f.cells[off]? = some v ∧ (isAggTy (tyOf P E) = true → off < (cellTys P deep E).length) ∧ (P.cellsOf E = 1 ∨ P.cellsOf E = (cellTys P deep E).length) ∧ (isAggTy (tyOf P E) = false → off = 0 ∧ P.cellsOf E = 1) ∧ (isAggTy (tyOf P E) = true → P.cellsOf E = (cellTys P deep E).length)) := by
  unfold subPV at hs
  cases hE : isAggTy (tyOf P E) with
  | true =>
    have hEs := isAggTy_st hE
    rw [hEs] at h
    obtain ⟨xs, cs, rfl, rfl, hx, hc, hcs⟩ := h.st_inv
    simp only [hE, cond_true] at hs
    cases hsz : Nat.beq (P.cellsOf E) (cellTys P deep E).length with
    | false => simp [hsz] at hs
    | true =>
      have hsz' := Nat.eq_of_beq_eq_true hsz
      simp only [hsz, cond_true] at hs
      cases hT : isAggTy (tyOf P T) with
      | true =>
        have hTs := isAggTy_st hT
        simp only [hT, cond_true] at hs
        cases hszT : Nat.beq (P.cellsOf T) (cellTys P deep T).length with
        | false => simp [hszT] at hs
        | true =>
          have hszT' := Nat.eq_of_beq_eq_true hszT
          simp only [hszT, cond_true] at hs
          left
          refine ⟨hTs, ?_⟩
          cases hq : (Nat.beq off 0 && Nat.beq T E) with
          | true =>
            simp only [hq, cond_true] at hs
            cases hs
            simp only [Bool.and_eq_true] at hq
            have h1 := Nat.eq_of_beq_eq_true hq.1
            have h2 := Nat.eq_of_beq_eq_true hq.2
            subst h1; subst h2
            refine ⟨cs, by omega, by rw [hTs]; exact h, fun j v hj => ⟨by simpa [Value.cells] using hj, ?_⟩⟩
            have := (List.getElem?_eq_some_iff.1 hj).1; omega
          | false =>
            simp only [hq, cond_false] at hs
            cases hp : tysPre (cellTys P deep T) ((cellTys P deep E).drop off) with
            | false => simp [hp] at hs
            | true =>
              simp only [hp, cond_true] at hs
              cases hs
              have hle : ∀ j, j < (cellTys P deep T).length → off + j < (cellTys P deep E).length := by
                intro j hj
                have := tysPre_get hp (List.getElem?_eq_getElem hj)
                rw [List.getElem?_drop] at this
                exact (List.getElem?_eq_some_iff.1 this).1
              refine ⟨(cs.drop off).take (cellTys P deep T).length, ?_, ?_, ?_⟩
              · simp only [List.length_take, List.length_drop]
                rcases Nat.eq_zero_or_pos (cellTys P deep T).length with h0 | h0
                · omega
                · have := hle ((cellTys P deep T).length - 1) (by omega); omega
              · rw [hTs]
                refine .st T _ _ (by simp [cellsFrom]) ?_ ?_
                · simp only [List.length_take, List.length_drop]
                  rcases Nat.eq_zero_or_pos (cellTys P deep T).length with h0 | h0
                  · omega
                  · have := hle ((cellTys P deep T).length - 1) (by omega); omega
                · intro i ty z c ht hz hc'
                  have hi := (List.getElem?_eq_some_iff.1 ht).1
                  have ht' := tysPre_get hp ht
                  rw [List.getElem?_drop] at ht'
                  have hlt := hle i hi
                  simp only [cellsFrom, List.getElem?_map, List.getElem?_range hi, Option.map_some, Option.some.injEq] at hz
                  rw [List.getElem?_take, if_pos hi, List.getElem?_drop] at hc'
                  refine hcs (off + i) ty z c ht' ?_ hc'
                  rw [← hz, cell_get, List.getElem?_eq_getElem (by omega)]; rfl
              · intro j v hj
                have hjl := (List.getElem?_eq_some_iff.1 hj).1
                simp only [List.length_take] at hjl
                rw [List.getElem?_take, if_pos (by omega), List.getElem?_drop] at hj
                refine ⟨by simpa [Value.cells] using hj, ?_⟩
                have := hle j (by omega); omega
      | false =>
        simp only [hT, cond_false] at hs
        cases hq : (decide (off < (cellTys P deep E).length) && ((nth .no (cellTys P deep E) off).eq (tyOf P T) && scalarTy (tyOf P T))) with
        | false => simp [hq] at hs
        | true =>
          simp only [hq, cond_true, Option.some.injEq] at hs
          simp only [Bool.and_eq_true, decide_eq_true_eq] at hq
          obtain ⟨hlt, heq, hsc⟩ := hq
          have heq' := Ty.eq_of heq
          right
          have hoffcs : off < cs.length := by omega
          refine ⟨hsc, cs[off], ?_, ?_, fun _ => hlt, .inr hsz', (fun h => by simp at h), fun _ => hsz'⟩
          · have ht : (cellTys P deep E)[off]? = some (tyOf P T) := by
              rw [← heq', nth_eq, List.getElem?_eq_getElem hlt]; rfl
            refine hcs off _ _ _ ht ?_ (List.getElem?_eq_getElem (by omega))
            rw [← hs, cell_get, List.getElem?_eq_getElem (by omega)]; rfl
          · simp [Value.cells]
  | false =>
    simp only [hE, cond_false] at hs
    cases hq : (Nat.beq off 0 && (Nat.beq (P.cellsOf E) 1 && ((tyOf P E).eq (tyOf P T) && scalarTy (tyOf P T)))) with
    | false => simp [hq] at hs
    | true =>
      simp only [hq, cond_true, Option.some.injEq] at hs
      simp only [Bool.and_eq_true] at hq
      obtain ⟨h1, h2, h3, h4⟩ := hq
      have h1' := Nat.eq_of_beq_eq_true h1
      have h2' := Nat.eq_of_beq_eq_true h2
      have h3' := Ty.eq_of h3
      subst hs
      right
      refine ⟨h4, f, by rw [← h3']; exact h, ?_, fun h => by simp at h, .inl h2', fun _ => ⟨h1', h2'⟩, fun h => by simp at h⟩
      subst h1'
      rw [h3'] at h
      generalize tyOf P T = ty at h h4
      cases h <;> first | (simp [scalarTy] at h4; done) | simp [Value.cells]

end
end Go.V

namespace Go.V

def G.setVal (g : G) (d : Option Nat) (f : List Nat → Value) : G := { g with val := fun s p => if d = some s then f p else g.val s p }

theorem G.setVal_self (g : G) (d : Nat) (f : List Nat → Value) (p : List Nat) : (g.setVal (some d) f).val d p = f p := by simp [G.setVal]

def opOk (N : Nat) (o : Oper) : Prop := ∀ x ∈ o.op.operands, tmpOk N x = true

def Then (P : Program) (st : St) (a : Act) (w : World) (g : G) (K : AV → R) (r : List AO × List AO) (o : Oper) (next : Act → World → Prop) : Prop :=
  ∀ av v w' g', QFr w g w' g' o.dst → (∀ i, o.dst = some i → SRep P w' g' st i av v) → K av = some r → next (a.put o.dst v) w'

section
variable {P : Program} {N : Nat} {st : St} {a : Act} {hv : List Value} {w : World} {g : G} {K : AV → R} {r : List AO × List AO} {o : Oper} {next : Act → World → Prop} {Q : Exit → Act → World → Prop}

theorem qfr_setVal (hf : ∀ b, w.heap.size ≤ b → g.tag b = .free) (d : Option Nat) (f : List Nat → Value) : QFr w g w (g.setVal d f) d :=
  ⟨rfl, rfl, rfl, Nat.le_refl _, fun _ _ => ⟨rfl, rfl⟩, fun s p h => by simp [G.setVal, h], fun b hb => by show g.tag b ≠ .out; rw [hf b hb]; simp, hf⟩

theorem PRep.tags {g' : G} {t : Ty} {x : PV} {v : Value} (h : PRep P w g t x v) (ht : g'.tag = g.tag) : PRep P w g' t x v :=
  h.ext (Nat.le_refl _) (fun b _ hb => ⟨by rw [ht]; exact hb, rfl⟩)

theorem pure_done (h : Good P N st a hv w g) {t : Ty} {x : PV} {v : Value} (hrun : (execOp a.eval o).run P w = .ok (.value v) w) (hp : PRep P w g t x v)
    (hk : K (.o (.pv t x)) = some r) (hpost : Then P st a w g K r o next) : o.wp P a w next Q := by
  unfold Oper.wp; rw [hrun]
  refine hpost (.o (.pv t x)) v w (g.setVal o.dst fun _ => v) (qfr_setVal h.inv.fresh _ _) (fun i hi => ?_) hk
  refine .o _ _ (fun _ => by rw [hi, G.setVal_self]) (.pv [] t x ?_)
  rw [hi, G.setVal_self]; exact hp.tags rfl

theorem ref_done (h : Good P N st a hv w g) {av : AV} {v : Value} (hrun : (execOp a.eval o).run P w = .ok (.value v) w) (hs : ∀ i, SRep P w g st i av v)
    (hk : K av = some r) (hpost : Then P st a w g K r o next) : o.wp P a w next Q := by
  unfold Oper.wp; rw [hrun]
  exact hpost av v w g (QFr.refl w g _ h.inv.fresh) (fun i _ => hs i) hk

theorem Good.slotAt (h : Good P N st a hv w g) {i : Nat} (hi : i < N) {z : AV} (hz : get st i = z) : SRep P w g st i z (a.eval (.tmp i)) := hz ▸ h.slot hi

theorem SRep.at_any {s s' : Nat} {z : AV} {v : Value} (h : SRep P w g st s z v) (hz : ∀ x, z ≠ .o x) : SRep P w g st s' z v := by
  cases h with
  | o x v _ _ => exact absurd rfl (hz x)
  | al r p v h => exact .al r p v h
  | ptr r p off v h => exact .ptr r p off v h
  | el r p i off v h => exact .el r p i off v h
  | ip E x off b o f h hc ht hb => exact .ip E x off b o f h hc ht hb
  | tup xs vs hl h => exact .tup xs vs hl h
  | dead v => exact .dead v

theorem constPV_sl {E : TypeId} {v : Value} {x : PV} (h : constPV (.sl E) v = some x) : v = .slice none 0 0 ∧ x = .sl [] := by
  cases v with
  | slice b n c =>
    simp only [constPV] at h
    split at h
    · simp at h; exact ⟨rfl, h.symm⟩
    · simp at h
  | pointer p => cases p <;> simp [constPV] at h
  | map p => cases p <;> simp [constPV] at h
  | _ => simp [constPV] at h

theorem mov_done (h : Good P N st a hv w g) {x : Operand} (hx : tmpOk N x = true) (hrun : (execOp a.eval o).run P w = .ok (.value (a.eval x)) w)
    (hk : movK P o.type st x K = some r) (hpost : Then P st a w g K r o next) : o.wp P a w next Q := by
  cases x with
  | tmp i =>
    simp [tmpOk] at hx
    have hs := h.slot hx
    simp only [movK] at hk
    generalize hz : get st i = z at hs hk
    cases z with
    | o y =>
      cases y with
      | pv t u =>
        simp only at hk
        cases hs with
        | o _ _ hv ho => exact pure_done h hrun (by rw [hv (by simp)]; exact ho.pv_inv) hk hpost
      | box E cs =>
        simp only at hk
        cases hs with
        | o _ _ hv ho => exact ref_done h hrun (fun _ => .al i [] _ (fun _ => hv (by simp))) hk hpost
      | arr E cs =>
        simp only at hk
        cases hs with
        | o _ _ hv ho => exact ref_done h hrun (fun _ => .al i [] _ (fun _ => hv (by simp))) hk hpost
      | dead =>
        simp only at hk
        refine ref_done h hrun (fun _ => .al i [] _ (fun hd => ?_)) hk hpost
        exact absurd (by unfold V.obj; rw [hz]; rfl) hd
    | al _ _ => exact ref_done h hrun (fun j => hs.at_any (by simp)) hk hpost
    | ptr _ _ _ => exact ref_done h hrun (fun j => hs.at_any (by simp)) hk hpost
    | el _ _ _ _ => exact ref_done h hrun (fun j => hs.at_any (by simp)) hk hpost
    | ip _ _ _ => exact ref_done h hrun (fun j => hs.at_any (by simp)) hk hpost
    | tup _ => exact ref_done h hrun (fun j => hs.at_any (by simp)) hk hpost
    | dead => exact ref_done h hrun (fun j => hs.at_any (by simp)) hk hpost
  | const v =>
    simp only [movK] at hk
    unfold constAV at hk
    split at hk
    · rename_i E hE
      split at hk
      · rename_i x hx'
        have hv := (constPV_sl hx').1
        unfold Oper.wp; rw [hrun]
        refine hpost _ _ w (g.setVal o.dst fun _ => v) (qfr_setVal h.inv.fresh _ _) (fun i hi => ?_) hk
        refine .o _ _ (fun _ => by rw [hi, G.setVal_self]; rfl) (.narr [] E ?_)
        rw [hi, G.setVal_self, hv]
      · exact ref_done h hrun (fun j => .dead _) hk hpost
    · split at hk
      · rename_i y hy
        exact pure_done h hrun (constAt_sound hy) hk hpost
      · exact ref_done h hrun (fun j => .dead _) hk hpost
  | _ => simp [movK] at hk

end
end Go.V

namespace Go.V
section
variable {P : Program} {N : Nat} {st : St} {a : Act} {hv : List Value} {w : World} {g : G} {K : AV → R} {r : List AO × List AO} {o : Oper} {next : Act → World → Prop} {Q : Exit → Act → World → Prop} {call : CallF}

theorem load_mem {E T : TypeId} {x y : PV} {off b q : Nat} {f : Value} (h : PRep P w g (tyOf P E) x f) (hc : ∀ j, j < P.cellsOf E → w.cell? ⟨b, q + j, none⟩ = f.cells[j]?)
    (hs : subPV P E T x off = some y) : ∃ v, (loadVar T ⟨b, q + off, none⟩).run P w = .ok v w ∧ PRep P w g (tyOf P T) y v := by
  rcases subPV_sound h hs with ⟨hT, cs, hn, hp, hcs⟩ | ⟨hT, v, hp, hcs, h1, h2, h3, h4⟩
  · refine ⟨_, run_loadVar_agg hT _ cs hn (fun j v hj => ?_), hp⟩
    obtain ⟨h1, h2⟩ := hcs j v hj
    rw [addr_add, Nat.add_assoc, hc _ h2, h1]
  · refine ⟨v, run_loadVar_scalar hT _ v ?_, hp⟩
    have hlt : off < P.cellsOf E := by
      cases hE : isAggTy (tyOf P E) with
      | true => rw [h4 hE]; exact h1 hE
      | false => obtain ⟨h5, h6⟩ := h3 hE; omega
    rw [hc off hlt, hcs]

theorem asPtr_sound (h : Good P N st a hv w g) {x : Operand} (hx : tmpOk N x = true) {s : Nat} {p : List Nat} {off : Nat} (hp : asPtr st x = some (s, p, off)) {E : TypeId} {cs : List AO} (ho : obj st s p = .box E cs) :
    ∃ b vs, a.eval x = .pointer (some ⟨b, off, none⟩) ∧ g.val s p = .pointer (some ⟨b, 0, none⟩) ∧ w.heap[b]? = some (.cells ⟨vs⟩ E (0, 0)) ∧ g.tag b = .own s p ∧ vs.length = cs.length ∧
      (∀ (i : Nat) (y : AO), cs[i]? = some y → ORep P w g s (p ++ [i]) y) ∧ (∀ (i : Nat) (y : AO), cs[i]? = some y → y ≠ .dead → vs[i]? = some (g.val s (p ++ [i]))) := by
  have hob := h.obj s p
  rw [ho] at hob
  cases hob with
  | box _ _ _ b vs hv hh ht hl hc hcv =>
    refine ⟨b, vs, ?_, hv, hh, ht, hl, hc, hcv⟩
    cases x with
    | tmp t =>
      simp [tmpOk] at hx
      have hs := h.slot hx
      simp only [asPtr] at hp
      generalize hz : get st t = z at hs hp
      generalize a.eval (.tmp t) = ev at hs ⊢
      cases hs with
      | o y v hv' hy =>
        cases y with
        | box E' cs' =>
          simp at hp
          obtain ⟨rfl, rfl, rfl⟩ := hp
          rw [hv' (by simp)]; exact hv
        | _ => simp at hp
      | al r q v h' =>
        simp only at hp
        split at hp
        · rename_i E' cs' hobj
          simp at hp
          obtain ⟨rfl, rfl, rfl⟩ := hp
          rw [h' (by rw [hobj]; simp)]; exact hv
        · simp at hp
      | ptr r q off' v h' =>
        simp at hp
        obtain ⟨rfl, rfl, rfl⟩ := hp
        obtain ⟨b', hb1, hb2⟩ := h' E cs ho
        rw [hv] at hb1; simp at hb1; subst hb1; exact hb2
      | _ => simp at hp
    | _ => simp [asPtr] at hp

theorem run_load {T : TypeId} {addr : Operand} (hop : o.op = .load T addr) {ad : Addr} (ha : a.eval addr = .pointer (some ad)) {v : Value} (hl : (loadVar T ad).run P w = .ok v w) :
    (execOp a.eval o).run P w = .ok (.value v) w := by
  simp [execOp, hop, Instr.loadAt, ha, Instr.sureAddr, hl]

theorem pureCells_sound : ∀ {ts : List Ty} {cs : List AO} {vs : List PV}, pureCells ts cs = some vs →
    vs.length = ts.length ∧ ∀ (i : Nat) (t : Ty), ts[i]? = some t → ∃ v, vs[i]? = some v ∧ cs[i]? = some (.pv t v)
  | [], cs, vs, h => by simp [pureCells] at h; subst h; simp
  | _ :: _, [], vs, h => by simp [pureCells] at h
  | t :: ts, x :: cs, vs, h => by
    cases x with
    | pv u v =>
      simp only [pureCells] at h
      cases hu : u.eq t with
      | false => simp [hu] at h
      | true =>
        simp only [hu, cond_true] at h
        split at h
        · rename_i ws hw
          cases h
          obtain ⟨h1, h2⟩ := pureCells_sound hw
          refine ⟨by simp [h1], fun i t' ht => ?_⟩
          cases i with
          | zero => simp at ht; subst ht; rw [Ty.eq_of hu]; exact ⟨v, by simp, by simp⟩
          | succ i => simp at ht; simpa using h2 i t' ht
        · cases h
    | _ => simp [pureCells] at h

theorem nth_some {α : Type} {d x : α} {l : List α} {i : Nat} (h : nth d l i = x) (hx : x ≠ d) : l[i]? = some x := by
  rw [nth_eq] at h
  cases hl : l[i]? with
  | none => rw [hl] at h; exact absurd h.symm hx
  | some y => rw [hl] at h; simp at h; rw [h]

theorem good_el (h : Good P N st a hv w g) {i : Nat} (hi : i < N) {s : Nat} {p : List Nat} {j off : Nat} (hg : get st i = .el s p j off) {E : TypeId} {l : List PV} (ho : obj st s p = .arr E l) :
    ∃ (b q cap : Nat) (vs : List Value) (T : TypeId) (f : Nat → Value), j < l.length ∧ a.eval (.tmp i) = .pointer (some ⟨b, q + j * P.cellsOf E + off, none⟩) ∧ g.val s p = .slice (some ⟨b, q, none⟩) l.length cap ∧ w.heap[b]? = some (.cells ⟨vs⟩ T (0, 0)) ∧ g.tag b = .own s p ∧ l.length ≤ cap ∧
      q + cap * P.cellsOf E ≤ vs.length ∧ (∀ (i : Nat) (x : PV), l[i]? = some x → PRep P w g (tyOf P E) x (f i)) ∧ (∀ i, i < l.length → ∀ j, j < P.cellsOf E → vs[q + i * P.cellsOf E + j]? = (f i).cells[j]?) := by
  have hs := h.slotAt hi hg
  generalize a.eval (.tmp i) = ev at hs ⊢
  cases hs with
  | el _ _ _ _ _ h' =>
    obtain ⟨hj, b', o', n, cap', hv', he⟩ := h' E l ho
    have hob := h.obj s p
    rw [ho] at hob
    cases hob with
    | narr => simp at hj
    | arr _ _ _ b q cap vs f T hv hh ht hl hcap he' hc =>
      rw [hv] at hv'
      simp at hv'
      obtain ⟨⟨rfl, rfl⟩, rfl, rfl⟩ := hv'
      exact ⟨b, q, cap, vs, T, f, hj, he, hv, hh, ht, hl, hcap, he', hc⟩

theorem evQ_load (h : Good P N st a hv w g) {T : TypeId} {addr : Operand} (hop : o.op = .load T addr) (hok : opOk N o) (hk : evQ P call o st K = some r) (hpost : Then P st a w g K r o next) : o.wp P a w next Q := by
  have hax : tmpOk N addr = true := hok addr (by simp [hop, Op.operands])
  simp only [evQ, hop] at hk
  cases addr with
  | tmp i =>
    simp only at hk
    have hi : i < N := by simpa [tmpOk] using hax
    split at hk
    · rename_i E x off hg
      split at hk
      · rename_i y hy
        have hs := h.slotAt hi hg
        generalize hv : a.eval (.tmp i) = v at hs
        cases hs with
        | ip _ _ _ b q f hp hc ht hb =>
          obtain ⟨v, h1, h2⟩ := load_mem hp hc hy
          exact pure_done h (run_load hop hv h1) h2 hk hpost
      · cases hk
    · rename_i hnip
      split at hk
      · rename_i s p off hp
        split at hk
        · rename_i E cs hob
          obtain ⟨b, vs, hev, hvv, hh, ht, hl, hc, hcv⟩ := asPtr_sound h hax hp hob
          have hcell : ∀ j, w.cell? ⟨b, j, none⟩ = vs[j]? := fun j => by rw [cell_of_row w b j ⟨vs⟩ E (0, 0) hh]; simp
          cases hT : isAggTy (tyOf P T) with
          | true =>
            have hTs := isAggTy_st hT
            simp only [hT, cond_true] at hk
            cases hsz : Nat.beq (P.cellsOf T) (cellTys P deep T).length with
            | false => simp [hsz] at hk
            | true =>
              have hsz' := Nat.eq_of_beq_eq_true hsz
              simp only [hsz, cond_true] at hk
              split at hk
              · rename_i xs hxs
                obtain ⟨h1, h2⟩ := pureCells_sound hxs
                have key : ∀ (j : Nat) (t : Ty), (cellTys P deep T)[j]? = some t → ∃ y, xs[j]? = some y ∧ vs[off + j]? = some (g.val s (p ++ [off + j])) ∧ PRep P w g t y (g.val s (p ++ [off + j])) := by
                  intro j t ht
                  obtain ⟨y, hy1, hy2⟩ := h2 j t ht
                  rw [List.getElem?_drop] at hy2
                  exact ⟨y, hy1, hcv _ _ hy2 (by simp), (hc _ _ hy2).pv_inv⟩
                have hlen : (cellTys P deep T).length = 0 ∨ off + (cellTys P deep T).length ≤ vs.length := by
                  rcases Nat.eq_zero_or_pos (cellTys P deep T).length with h0 | h0
                  · exact .inl h0
                  · obtain ⟨y, _, hy, _⟩ := key ((cellTys P deep T).length - 1) _ (List.getElem?_eq_getElem (by omega))
                    have := (List.getElem?_eq_some_iff.1 hy).1; exact .inr (by omega)
                have hcl : ((vs.drop off).take (cellTys P deep T).length).length = (cellTys P deep T).length := by simp; omega
                refine pure_done h (run_load hop hev (run_loadVar_agg hTs ⟨b, off, none⟩ ((vs.drop off).take (cellTys P deep T).length) (by omega) (fun j v hj => ?_))) ?_ hk hpost
                · have hjl := (List.getElem?_eq_some_iff.1 hj).1
                  rw [addr_add, hcell]
                  rw [List.getElem?_take, if_pos (by omega), List.getElem?_drop] at hj; exact hj
                · rw [hTs]
                  refine .st T xs _ h1 hcl (fun j ty y c hty hy hcj => ?_)
                  obtain ⟨y', e1, e2, e3⟩ := key j ty hty
                  rw [hy] at e1; cases e1
                  have hjl := (List.getElem?_eq_some_iff.1 hty).1
                  rw [List.getElem?_take, if_pos hjl, List.getElem?_drop, e2] at hcj
                  cases hcj; exact e3
              · cases hk
          | false =>
            simp only [hT, cond_false] at hk
            cases hsc : scalarTy (tyOf P T) with
            | false => simp [hsc] at hk
            | true =>
              simp only [hsc, cond_true] at hk
              split at hk
              · rename_i t y hy
                cases hte : t.eq (tyOf P T) with
                | false => simp [hte] at hk
                | true =>
                  simp only [hte, cond_true] at hk
                  have hcs := nth_some hy (by simp)
                  refine pure_done h (run_load hop hev (run_loadVar_scalar hsc _ _ ?_)) (hc _ _ hcs).pv_inv hk hpost
                  rw [hcell, hcv _ _ hcs (by simp)]
              · rename_i E' l hy
                cases hte : (Ty.sl E').eq (tyOf P T) with
                | false => simp [hte] at hk
                | true =>
                  simp only [hte, cond_true] at hk
                  have hcs := nth_some hy (by simp)
                  refine ref_done h (run_load hop hev (run_loadVar_scalar hsc _ _ ?_)) (fun _ => .al s (p ++ [off]) _ (fun _ => rfl)) hk hpost
                  rw [hcell, hcv _ _ hcs (by simp)]
              · rename_i E' l hy
                have hcs := nth_some hy (by simp)
                refine ref_done h (run_load hop hev (run_loadVar_scalar hsc _ _ ?_)) (fun _ => .al s (p ++ [off]) _ (fun _ => rfl)) hk hpost
                rw [hcell, hcv _ _ hcs (by simp)]
              · cases hk
        · cases hk
      · split at hk
        · rename_i s p j off hg
          split at hk
          · rename_i E l hob
            split at hk
            · rename_i y hy
              obtain ⟨b, q, cap, vs, T', f, hj, hev, hvv, hh, ht, hl, hcap, he, hc⟩ := good_el h hi hg hob
              have hxj : l[j]? = some (nth default l j) := by rw [nth_eq, List.getElem?_eq_getElem hj]; rfl
              obtain ⟨v, h1, h2⟩ := load_mem (b := b) (q := q + j * P.cellsOf E) (he j _ hxj) (fun i hi => by
                rw [cell_of_row w b _ ⟨vs⟩ T' (0, 0) hh, ← hc j hj i hi]; simp) hy
              exact pure_done h (run_load hop hev h1) h2 hk hpost
            · cases hk
          · cases hk
        · cases hk
  | _ => simp at hk

end
end Go.V

namespace Go.V
section
variable {P : Program} {N : Nat} {st : St} {a : Act} {hv : List Value} {w : World} {g : G} {K : AV → R} {r : List AO × List AO} {o : Oper} {next : Act → World → Prop} {Q : Exit → Act → World → Prop} {call : CallF}

theorem evQ_move (h : Good P N st a hv w g) {x : Operand} (hop : o.op = .move x) (hok : opOk N o) (hk : evQ P call o st K = some r) (hpost : Then P st a w g K r o next) : o.wp P a w next Q := by
  refine mov_done h (x := x) (hok x (by simp [hop, Op.operands])) (by simp [execOp, hop]) ?_ hpost
  simpa only [evQ, hop] using hk

theorem evQ_assign (h : Good P N st a hv w g) {x : Operand} (hop : o.op = .assign x) (hok : opOk N o) (hk : evQ P call o st K = some r) (hpost : Then P st a w g K r o next) : o.wp P a w next Q := by
  refine mov_done h (x := x) (hok x (by simp [hop, Op.operands])) (by simp [execOp, hop]) ?_ hpost
  simpa only [evQ, hop] using hk

theorem evQ_pick (h : Good P N st a hv w g) {c x y : Operand} (hop : o.op = .pick c x y) (hok : opOk N o) (hk : evQ P call o st K = some r) (hpost : Then P st a w g K r o next) : o.wp P a w next Q := by
  simp only [evQ, hop] at hk
  have hc := hok c (by simp [hop, Op.operands])
  have hx := hok x (by simp [hop, Op.operands])
  have hy := hok y (by simp [hop, Op.operands])
  cases c with
  | tmp i =>
    simp only at hk
    split at hk
    · rename_i d hd
      obtain ⟨b, rfl, hb⟩ := (h.asPV (by simpa [tmpOk] using hc) hd).bool_inv
      cases b with
      | true =>
        simp only [PV.toBool, cond_true] at hk
        split at hk
        · rename_i v hv'
          exact pure_done h (by simp [execOp, hop, hb, asBool]) (h.rd hx hv') hk hpost
        · cases hk
      | false =>
        simp only [PV.toBool, cond_false] at hk
        split at hk
        · rename_i v hv'
          exact pure_done h (by simp [execOp, hop, hb, asBool]) (h.rd hy hv') hk hpost
        · cases hk
    · cases hk
  | _ => simp at hk

theorem evQ_nilCheck (h : Good P N st a hv w g) {x : Operand} (hop : o.op = .nilCheck x) (hok : opOk N o) (hk : evQ P call o st K = some r) (hpost : Then P st a w g K r o next) : o.wp P a w next Q := by
  simp only [evQ, hop] at hk
  have hx := hok x (by simp [hop, Op.operands])
  have hrun : ∀ ad, a.eval x = .pointer (some ad) → (execOp a.eval o).run P w = .ok (.value (.pointer (some ad))) w := by
    intro ad had; simp [execOp, hop, had]
  cases x with
  | tmp i =>
    simp only at hk
    have hi : i < N := by simpa [tmpOk] using hx
    split at hk
    · rename_i E cs hg
      have hob : obj st i [] = .box E cs := by unfold obj; rw [hg]; rfl
      obtain ⟨b, vs, h1, h2, _⟩ := asPtr_sound h hx (s := i) (p := []) (off := 0) (by simp [asPtr, hg]) hob
      exact ref_done h (hrun _ h1) (fun _ => .al i [] _ (fun _ => h2.symm)) hk hpost
    · rename_i s p hg
      split at hk
      · rename_i E cs hob
        obtain ⟨b, vs, h1, h2, _⟩ := asPtr_sound h hx (s := s) (p := p) (off := 0) (by simp [asPtr, hg, hob]) hob
        exact ref_done h (hrun _ h1) (fun _ => .al s p _ (fun _ => h2.symm)) hk hpost
      · cases hk
    · rename_i s p off hg
      split at hk
      · rename_i E cs hob
        obtain ⟨b, vs, h1, h2, _⟩ := asPtr_sound h hx (s := s) (p := p) (off := off) (by simp [asPtr, hg]) hob
        exact ref_done h (hrun _ h1) (fun _ => h1 ▸ (h.slotAt hi hg).at_any (by simp)) hk hpost
      · cases hk
    · rename_i s p j off hg
      split at hk
      · rename_i E l hob
        obtain ⟨b, q, cap, vs, T', f, hj, hev, _⟩ := good_el h hi hg hob
        exact ref_done h (hrun _ hev) (fun _ => hev ▸ (h.slotAt hi hg).at_any (by simp)) hk hpost
      · cases hk
    · rename_i E x off hg
      have hs := h.slotAt hi hg
      generalize hv' : a.eval (.tmp i) = v at hs hrun
      cases hs with
      | ip _ _ _ b q f hp hc ht hb => exact ref_done h (hrun _ rfl) (fun _ => .ip E x off b q f hp hc ht hb) hk hpost
    · cases hk
  | _ => simp at hk

theorem eqG {op : BinOp} {t : TypeId} {x y : Operand} {u v : Value} (hu : ∀ cs, u ≠ .agg cs) (hn : u ≠ .nilIface) : eqGuard op t x y u v = pure () := by
  cases u <;> cases op <;> first | rfl | exact absurd rfl (hu _) | exact absurd rfl hn

theorem run_bin {op : BinOp} {t ty : TypeId} {x y : Operand} (hop : o.op = .binOp op t x y ty) {u v z : Value} (hx : a.eval x = u) (hy : a.eval y = v) (hu : ∀ cs, u ≠ .agg cs) (hn : u ≠ .nilIface)
    (hrun : (binOp op t u v).run P w = .ok z w) : (execOp a.eval o).run P w = .ok (.value z) w := by
  simp [execOp, hop, hx, hy, eqG hu hn, hrun]

theorem intOp_sound {op : BinOp} {k : IntKind} {m n : Int} {t : TypeId} (h1 : op ≠ .shl) (h2 : op ≠ .shr) (hk : intOp op k m n K = some r) :
    ∃ ty z v, PRep P w g ty z v ∧ K (.o (.pv ty z)) = some r ∧ (binOp op t (.int k m) (.int k n)).run P w = .ok v w := by
  cases op with
  | add => exact ⟨_, _, _, .int _ _, hk, by simp [binOp, Op.intArith]⟩
  | sub => exact ⟨_, _, _, .int _ _, hk, by simp [binOp, Op.intArith]⟩
  | mul => exact ⟨_, _, _, .int _ _, hk, by simp [binOp, Op.intArith]⟩
  | quo =>
    simp only [intOp] at hk
    by_cases h0 : n = 0
    · simp [h0] at hk
    · simp only [h0, decide_false, cond_false] at hk
      exact ⟨_, _, _, .int _ _, hk, by simp [binOp, Op.intDiv, h0]⟩
  | rem =>
    simp only [intOp] at hk
    by_cases h0 : n = 0
    · simp [h0] at hk
    · simp only [h0, decide_false, cond_false] at hk
      exact ⟨_, _, _, .int _ _, hk, by simp [binOp, Op.intDiv, h0]⟩
  | and => exact ⟨_, _, _, .int _ _, hk, by simp [binOp, Op.intBits]⟩
  | or => exact ⟨_, _, _, .int _ _, hk, by simp [binOp, Op.intBits]⟩
  | xor => exact ⟨_, _, _, .int _ _, hk, by simp [binOp, Op.intBits]⟩
  | andNot => exact ⟨_, _, _, .int _ _, hk, by simp [binOp, Op.intBits]⟩
  | shl => exact absurd rfl h1
  | shr => exact absurd rfl h2
  | eql => exact ⟨_, _, _, .bool _, hk, by simp [binOp, Op.intCmp]; rfl⟩
  | neq => exact ⟨_, _, _, .bool _, hk, by simp [binOp, Op.intCmp]; rfl⟩
  | lss => exact ⟨_, _, _, .bool _, hk, by simp [binOp, Op.intCmp]⟩
  | leq => exact ⟨_, _, _, .bool _, hk, by simp [binOp, Op.intCmp]⟩
  | gtr => exact ⟨_, _, _, .bool _, hk, by simp [binOp, Op.intCmp]⟩
  | geq => exact ⟨_, _, _, .bool _, hk, by simp [binOp, Op.intCmp]⟩

theorem strOp_sound {op : BinOp} {x y : ByteArray} {t : TypeId} (hk : strOp op x y K = some r) :
    ∃ ty z v, PRep P w g ty z v ∧ K (.o (.pv ty z)) = some r ∧ (binOp op t (.string x) (.string y)).run P w = .ok v w := by
  cases op with
  | add =>
    simp only [strOp] at hk
    by_cases h0 : x.size + y.size ≤ 9223372036854775807
    · simp only [h0, decide_true, cond_true] at hk
      refine ⟨_, _, _, .str _, hk, ?_⟩
      simp only [binOp]; exact run_string_add_sum w x y h0
    · simp only [h0, decide_false, cond_false] at hk; cases hk
  | eql => exact ⟨_, _, _, .bool _, hk, by simp [binOp, Op.stringOp, ByteArray.toList_eq]⟩
  | neq => exact ⟨_, _, _, .bool _, hk, by simp [binOp, Op.stringOp, ByteArray.toList_eq]⟩
  | lss => exact ⟨_, _, _, .bool _, hk, by simp [binOp, Op.stringOp, ByteArray.toList_eq]⟩
  | leq => exact ⟨_, _, _, .bool _, hk, by simp [binOp, Op.stringOp, ByteArray.toList_eq]⟩
  | gtr => exact ⟨_, _, _, .bool _, hk, by simp [binOp, Op.stringOp, ByteArray.toList_eq]⟩
  | geq => exact ⟨_, _, _, .bool _, hk, by simp [binOp, Op.stringOp, ByteArray.toList_eq]⟩
  | _ => simp [strOp] at hk

end
end Go.V

namespace Go.V
section
variable {P : Program} {N : Nat} {st : St} {a : Act} {hv : List Value} {w : World} {g : G} {K : AV → R} {r : List AO × List AO} {o : Oper} {next : Act → World → Prop} {Q : Exit → Act → World → Prop} {call : CallF}

theorem part_sound {t T : TypeId} {x y : PV} {off : Nat} {cs : List Value} (h : PRep P w g (tyOf P t) x (.agg ⟨cs⟩)) (hs : subPV P t T x off = some y) :
    ∃ v, (part T ⟨cs⟩ off).run P w = .ok v w ∧ PRep P w g (tyOf P T) y v := by
  rcases subPV_sound h hs with ⟨hT, cs', hn, hp, hcs⟩ | ⟨hT, v, hp, hcs, _⟩
  · refine ⟨_, ?_, hp⟩
    obtain ⟨_, fs, hu⟩ := tyOf_st hT
    simp only [part, Sem.run_bind, run_isAgg_st hT, Result.andThen_ok, if_true, run_sizeOf hu, Sem.run_pure]
    congr 2
    apply Array.ext'
    simp only [Array.toList_extract]
    simp only [List.extract_eq_take_drop]
    apply List.ext_getElem?
    intro j
    rw [List.getElem?_take, List.getElem?_drop]
    by_cases hj : j < P.cellsOf T
    · rw [if_pos (by omega)]
      have hj' : j < cs'.length := by omega
      have := (hcs j cs'[j] (List.getElem?_eq_getElem hj')).1
      simp only [Value.cells] at this
      rw [List.getElem?_eq_getElem hj', ← this]; simp
    · rw [if_neg (by omega), List.getElem?_eq_none (by omega)]
  · refine ⟨v, ?_, hp⟩
    simp only [Value.cells] at hcs
    simp only [part, Sem.run_bind, run_isAgg_scalar hT, Result.andThen_ok, Bool.false_eq_true, if_false]
    simp only [hcs, Sem.run_pure]

theorem eqFs_sound {d : Nat} {go : TypeId → PV → PV → Option Bool} (hgo : ∀ t x y u v b, PRep P w g (tyOf P t) x u → PRep P w g (tyOf P t) y v → go t x y = some b → (Op.equalIn d t u v).run P w = .ok b w)
    {t : TypeId} {x y : PV} {cs ds : List Value} (hx : PRep P w g (tyOf P t) x (.agg ⟨cs⟩)) (hy : PRep P w g (tyOf P t) y (.agg ⟨ds⟩)) :
    ∀ {fs : List Field} {b : Bool}, eqFs P go t x y fs = some b → (Op.eqFields d ⟨cs⟩ ⟨ds⟩ fs).run P w = .ok b w
  | [], b, h => by simp [eqFs] at h; subst h; rfl
  | f :: fs, b, h => by
    simp only [eqFs] at h
    by_cases hn : f.name = "_"
    · simp [hn] at h
    · simp only [hn, decide_false, cond_false] at h
      split at h
      · rename_i p q hp hq
        split at h
        · rename_i e he
          obtain ⟨u, hu, hpu⟩ := part_sound hx hp
          obtain ⟨v, hv, hpv⟩ := part_sound hy hq
          have heq := hgo _ _ _ _ _ _ hpu hpv he
          simp only [Op.eqFields, hn, ne_eq, not_false_eq_true, if_true, Sem.run_bind, hu, hv, Result.andThen_ok, heq]
          split at h
          · simp at h; subst h
            cases e <;> simp [Op.eqFields]
          · rename_i hne
            split at h
            · rename_i e' he'
              have ih := eqFs_sound hgo hx hy he'
              simp at h; subst h
              cases e
              · simp
              · simp [ih]
            · cases h
        · cases h
      · cases h

theorem eqPV_sound : ∀ (d D : Nat), d ≤ D → ∀ (t : TypeId) (x y : PV) (u v : Value) (b : Bool), PRep P w g (tyOf P t) x u → PRep P w g (tyOf P t) y v → eqPV P d t x y = some b → (Op.equalIn D t u v).run P w = .ok b w
  | 0, _, _, _, _, _, _, _, _, _, _, h => by simp [eqPV] at h
  | d + 1, 0, hD, _, _, _, _, _, _, _, _, _ => by omega
  | d + 1, D + 1, hD, t, x, y, u, v, b, hx, hy, h => by
    simp only [eqPV] at h
    split at h
    · rename_i k hu
      have ht : tyOf P t = .int k := by simp [tyOf, hu]
      rw [ht] at hx hy
      obtain ⟨m, rfl, rfl⟩ := hx.int_inv
      obtain ⟨n, rfl, rfl⟩ := hy.int_inv
      simp only [PV.toInt, Option.some.injEq] at h
      rw [run_equalIn_int w D t k k m n hu, ← h]; rfl
    · rename_i hu
      have ht : tyOf P t = .bool := by simp [tyOf, hu]
      rw [ht] at hx hy
      obtain ⟨m, rfl, rfl⟩ := hx.bool_inv
      obtain ⟨n, rfl, rfl⟩ := hy.bool_inv
      simp only [PV.toBool, Option.some.injEq] at h
      rw [run_equalIn_bool w D t m n hu, ← h]
    · rename_i hu
      have ht : tyOf P t = .str := by simp [tyOf, hu]
      rw [ht] at hx hy
      obtain ⟨m, rfl, rfl⟩ := hx.str_inv
      obtain ⟨n, rfl, rfl⟩ := hy.str_inv
      simp only [PV.toStr, Option.some.injEq] at h
      rw [run_equalIn_string w D t m n hu, ← h, ByteArray.toList_eq, ByteArray.toList_eq]
    · rename_i fs hu
      have ht : tyOf P t = .st t := by simp [tyOf, hu]
      cases hh : P.stoodInHeld t with
      | true => simp [hh] at h
      | false =>
        simp only [hh, cond_false] at h
        have hx0 := hx
        have hy0 := hy
        rw [ht] at hx0 hy0
        obtain ⟨xs, cs, rfl, rfl, _⟩ := hx0.st_inv
        obtain ⟨ys, ds, rfl, rfl, _⟩ := hy0.st_inv
        have hf : P.fieldsOf t = fs := by simp [Program.fieldsOf, hu]
        rw [run_equalIn_struct w D t _ _ (by rw [hf]; exact hu) hh, hf]
        exact eqFs_sound (fun t x y u v b hx hy he => eqPV_sound d D (by omega) t x y u v b hx hy he) hx hy h
    · cases h

theorem evQ_binOp (h : Good P N st a hv w g) {op : BinOp} {t ty : TypeId} {x y : Operand} (hop : o.op = .binOp op t x y ty) (hok : opOk N o) (hk : evQ P call o st K = some r) (hpost : Then P st a w g K r o next) : o.wp P a w next Q := by
  simp only [evQ, hop] at hk
  have hx := hok x (by simp [hop, Op.operands])
  have hy := hok y (by simp [hop, Op.operands])
  have shift : ∀ (op : BinOp), o.op = .binOp op t x y ty → ∀ (k : IntKind) (A B : PV) (f : Int → Int → Int), rd P st t x = some A → rdInt st y = some B → tyOf P t = .int k → (∀ m yk n, ¬ n < 0 → (Op.shift op k m yk n).run P w = .ok (.int k (f m n)) w) → (∀ m yk n, binOp op t (.int k m) (.int yk n) = Op.shift op k m yk n) →
      (bif decide (B.toInt < 0) then none else K (.o (.pv (.int k) (.int k (f A.toInt B.toInt))))) = some r → o.wp P a w next Q := by
    intro op hop k A B f hA hB hT hf hb hk
    obtain ⟨m, rfl, hm⟩ := (hT ▸ h.rd hx hA).int_inv
    obtain ⟨k', n, rfl, hn⟩ := h.rdInt hy hB
    simp only [PV.toInt] at hk
    by_cases h0 : n < 0
    · simp [h0] at hk
    · simp only [h0, decide_false, cond_false] at hk
      exact pure_done h (run_bin hop hm hn (by simp) (by simp) (by rw [hb]; exact hf m k' n h0)) (.int _ _) hk hpost
  unfold binQ at hk
  split at hk
  · split at hk
    · rename_i k A B hT hA hB
      exact shift .shl hop k A B (fun m n => k.wrap (m * 2 ^ min n.toNat k.bits)) hA hB hT (fun m yk n h0 => by simp [Op.shift, h0]) (fun _ _ _ => rfl) hk
    · cases hk
  · split at hk
    · rename_i k A B hT hA hB
      exact shift .shr hop k A B (fun m n => m.fdiv (2 ^ min n.toNat k.bits)) hA hB hT (fun m yk n h0 => by simp [Op.shift, h0]) (fun _ _ _ => rfl) hk
    · cases hk
  · rename_i hsl hsr
    split at hk
    · rename_i A B hA hB
      have rA := h.rd hx hA
      have rB := h.rd hy hB
      split at hk
      · rename_i k hT
        rw [hT] at rA rB
        obtain ⟨m, rfl, hm⟩ := rA.int_inv
        obtain ⟨n, rfl, hn⟩ := rB.int_inv
        obtain ⟨ty', z, v, h1, h2, h3⟩ := intOp_sound (P := P) (w := w) (g := g) (t := t) (by simpa using hsl) (by simpa using hsr) hk
        exact pure_done h (run_bin hop hm hn (by simp) (by simp) h3) h1 h2 hpost
      · rename_i hT
        rw [hT] at rA rB
        obtain ⟨m, rfl, hm⟩ := rA.str_inv
        obtain ⟨n, rfl, hn⟩ := rB.str_inv
        obtain ⟨ty', z, v, h1, h2, h3⟩ := strOp_sound (P := P) (w := w) (g := g) (t := t) hk
        exact pure_done h (run_bin hop hm hn (by simp) (by simp) h3) h1 h2 hpost
      · rename_i hT
        have hu := tyOf_bool hT
        rw [hT] at rA rB
        obtain ⟨m, rfl, hm⟩ := rA.bool_inv
        obtain ⟨n, rfl, hn⟩ := rB.bool_inv
        split at hk
        · exact pure_done h (run_bin hop hm hn (by simp) (by simp) (run_eql_bool w t m n hu)) (.bool _) hk hpost
        · exact pure_done h (run_bin hop hm hn (by simp) (by simp) (run_neq_bool w t m n hu)) (.bool _) hk hpost
        · cases hk
      · rename_i T hT
        obtain ⟨hTt, fs, hu⟩ := tyOf_st hT
        rw [hTt] at hT
        clear hTt T
        cases hg : P.eqGuardType P.depth t with
        | true => simp [hg] at hk
        | false =>
          simp only [hg, cond_false] at hk
          split at hk
          · rename_i e he
            have hq := eqPV_sound deep 10000 (by decide) t A B _ _ e rA rB he
            rw [hT] at rA rB
            obtain ⟨xs, cs, rfl, hcs, _⟩ := rA.st_inv
            obtain ⟨ys, ds, rfl, hds, _⟩ := rB.st_inv
            rw [hcs, hds] at hq
            split at hk
            · refine pure_done h ?_ (.bool e) hk hpost
              simp only [execOp, hop, hcs, hds, Sem.run_bind, run_eqGuard_agg w _ t x y _ _ hg, Result.andThen_ok, run_eql_struct, hq, Sem.run_pure]
            · refine pure_done h ?_ (.bool (!e)) hk hpost
              have : (binOp .neq t (.agg ⟨cs⟩) (.agg ⟨ds⟩)).run P w = .ok (.bool (!e)) w := by
                simp only [binOp, Sem.run_bind, Op.equal, Op.maxDepth, hq, Result.andThen_ok, Sem.run_pure]
              simp only [execOp, hop, hcs, hds, Sem.run_bind, run_eqGuard_agg w _ t x y _ _ hg, Result.andThen_ok, this, Sem.run_pure]
            · cases hk
          · cases hk
      · cases hk
    · cases hk

theorem evQ_unOp (h : Good P N st a hv w g) {op : UnOp} {t : TypeId} {x : Operand} (hop : o.op = .unOp op t x) (hok : opOk N o) (hk : evQ P call o st K = some r) (hpost : Then P st a w g K r o next) : o.wp P a w next Q := by
  simp only [evQ, hop] at hk
  have hx := hok x (by simp [hop, Op.operands])
  unfold unQ at hk
  split at hk
  · rename_i A hA
    have rA := h.rd hx hA
    split at hk
    · rename_i k hT
      rw [hT] at rA
      obtain ⟨m, rfl, hm⟩ := rA.int_inv
      exact pure_done h (by simp [execOp, hop, hm, Op.unary, Op.intArith, PV.toInt]) (.int _ _) hk hpost
    · rename_i k hT
      rw [hT] at rA
      obtain ⟨m, rfl, hm⟩ := rA.int_inv
      exact pure_done h (by simp [execOp, hop, hm, Op.unary, Op.intBits, PV.toInt]) (.int _ _) hk hpost
    · rename_i hT
      rw [hT] at rA
      obtain ⟨m, rfl, hm⟩ := rA.bool_inv
      exact pure_done h (by simp [execOp, hop, hm, Op.unary, PV.toBool]) (.bool _) hk hpost
    · cases hk
  · cases hk

end
end Go.V

namespace Go.V
section
variable {P : Program} {N : Nat} {st : St} {a : Act} {hv : List Value} {w : World} {g : G} {K : AV → R} {r : List AO × List AO} {o : Oper} {next : Act → World → Prop} {Q : Exit → Act → World → Prop} {call : CallF}


/-- What a pure slice is. -/
theorem sl_inv {e : TypeId} {x : PV} {v : Value} (h : PRep P w g (.sl e) x v) :
    (x.toList = [] ∧ x = .sl [] ∧ ∃ ad, v = .slice ad 0 0) ∨ ∃ (l : List PV) (b off cap : Nat) (f : Nat → Value), x = .sl l ∧ v = .slice (some ⟨b, off, none⟩) l.length cap ∧
      (∀ (i : Nat) (x : PV), l[i]? = some x → PRep P w g (tyOf P e) x (f i)) ∧
      (∀ i, i < l.length → ∀ j, j < P.cellsOf e → w.cell? ⟨b, off + i * P.cellsOf e + j, none⟩ = (f i).cells[j]?) ∧ g.tag b = .free ∧ b < w.heap.size ∧ l.length ≤ cap := by
  cases h with
  | nsl => exact .inl ⟨rfl, rfl, _, rfl⟩
  | esl => exact .inl ⟨rfl, rfl, _, rfl⟩
  | sl _ l b off cap f h hc ht hb hl => exact .inr ⟨l, b, off, cap, f, rfl, rfl, h, hc, ht, hb, hl⟩

/-- A list that is read, owned or not. -/
theorem rdList_sound (h : Good P N st a hv w g) {E : TypeId} {x : Operand} {l : List PV} (hok : tmpOk N x = true) (hx : rdList st E x = some l) :
    (l = [] ∧ ∃ ad, a.eval x = .slice ad 0 0) ∨ ∃ (b off cap : Nat) (f : Nat → Value), a.eval x = .slice (some ⟨b, off, none⟩) l.length cap ∧
      (∀ (i : Nat) (x : PV), l[i]? = some x → PRep P w g (tyOf P E) x (f i)) ∧
      (∀ i, i < l.length → ∀ j, j < P.cellsOf E → w.cell? ⟨b, off + i * P.cellsOf E + j, none⟩ = (f i).cells[j]?) := by
  have key : ∀ (s : Nat) (p : List Nat) (y : AO), ORep P w g s p y → y.elems E = some l → y ≠ .dead → ∀ v, v = g.val s p → (l = [] ∧ ∃ ad, v = .slice ad 0 0) ∨ ∃ (b off cap : Nat) (f : Nat → Value), v = .slice (some ⟨b, off, none⟩) l.length cap ∧
      (∀ (i : Nat) (x : PV), l[i]? = some x → PRep P w g (tyOf P E) x (f i)) ∧
      (∀ i, i < l.length → ∀ j, j < P.cellsOf E → w.cell? ⟨b, off + i * P.cellsOf E + j, none⟩ = (f i).cells[j]?) := by
    intro s p y hy hl _ v hv
    cases y with
    | pv t u =>
      simp only [AO.elems] at hl
      cases he : t.eq (.sl E) with
      | false => simp [he] at hl
      | true =>
        simp only [he, cond_true, Option.some.injEq] at hl
        have ht := Ty.eq_of he
        subst ht
        rcases sl_inv hy.pv_inv with ⟨h1, _, ad, h2⟩ | ⟨l', b, off, cap, f, rfl, h2, h3, h4, _⟩
        · exact .inl ⟨by rw [← hl]; exact h1, ad, by rw [hv]; exact h2⟩
        · simp only [PV.toList] at hl
          subst hl
          exact .inr ⟨b, off, cap, f, by rw [hv]; exact h2, h3, h4⟩
    | arr E' l' =>
      simp only [AO.elems] at hl
      cases he : Nat.beq E' E with
      | false => simp [he] at hl
      | true =>
        simp only [he, cond_true, Option.some.injEq] at hl
        have ht := Nat.eq_of_beq_eq_true he
        subst ht; subst hl
        cases hy with
        | narr _ _ hv' => exact .inl ⟨rfl, none, by rw [hv]; exact hv'⟩
        | arr _ _ _ b off cap vs f T hv' hh ht hl hcap he hc =>
          refine .inr ⟨b, off, cap, f, by rw [hv]; exact hv', he, fun i hi j hj => ?_⟩
          rw [cell_of_row w b _ ⟨vs⟩ T (0, 0) hh, ← hc i hi j hj]; simp
    | _ => simp [AO.elems] at hl
  cases x with
  | tmp i =>
    simp only [rdList] at hx
    have hs := h.slot (by simpa [tmpOk] using hok)
    generalize hz : get st i = z at hs hx
    generalize a.eval (.tmp i) = v at hs ⊢
    cases hs with
    | o y v hv' hy =>
      simp only [AV.elems] at hx
      have hd : y ≠ .dead := by rintro rfl; simp [AO.elems] at hx
      exact key _ _ y hy hx hd v (hv' hd)
    | al s p v h' =>
      simp only [AV.elems] at hx
      have hd : obj st s p ≠ .dead := by intro hd; rw [hd] at hx; simp [AO.elems] at hx
      exact key _ _ _ (h.obj s p) hx hd v (h' hd)
    | _ => simp [AV.elems] at hx
  | const v =>
    cases v with
    | slice b n c =>
      cases b with
      | none =>
        cases n with
        | zero => cases c with
          | zero => simp [rdList] at hx; exact .inl ⟨hx, none, rfl⟩
          | succ c => simp [rdList] at hx
        | succ n => simp [rdList] at hx
      | some b => simp [rdList] at hx
    | _ => simp [rdList] at hx
  | _ => simp [rdList] at hx

theorem evQ_convert (h : Good P N st a hv w g) {src dst : TypeId} {x : Operand} (hop : o.op = .convert src dst x) (hok : opOk N o) (hk : evQ P call o st K = some r) (hpost : Then P st a w g K r o next) : o.wp P a w next Q := by
  simp only [evQ, hop] at hk
  have hx := hok x (by simp [hop, Op.operands])
  split at hk
  · rename_i k' k hs hd
    split at hk
    · rename_i A hA
      obtain ⟨m, rfl, hm⟩ := (hs ▸ h.rd hx hA).int_inv
      exact pure_done h (by simp [execOp, hop, hm, convert, run_underlying (tyOf_int hs), run_underlying (tyOf_int hd), Conv.intToInt, PV.toInt]) (.int _ _) hk hpost
    · cases hk
  · rename_i hs hd
    split at hk
    · rename_i A hA
      obtain ⟨m, rfl, hm⟩ := (hs ▸ h.rd hx hA).str_inv
      exact pure_done h (by simp [execOp, hop, hm, convert, run_underlying (tyOf_str hs), run_underlying (tyOf_str hd)]) (.str _) hk hpost
    · cases hk
  · rename_i e hs hd
    split at hk
    · rename_i A he hA
      cases hone : Nat.beq (P.cellsOf e) 1 with
      | false => simp [hone] at hk
      | true =>
      simp only [hone, cond_true] at hk
      have hone' := Nat.eq_of_beq_eq_true hone
      obtain ⟨m, rfl, hm⟩ := (hs ▸ h.rd hx hA).str_inv
      have hrun := Lib.run_convert_string_bytes (P := P) w src dst e m (tyOf_str hs) (tyOf_sl hd) (tyOf_int he)
      unfold Oper.wp
      have hrun' : (execOp a.eval o).run P w = .ok (.value (.slice (some ⟨w.heap.size, 0, none⟩) m.size (grownCap w m.size 0 e))) (Lib.bytesWorld w e m) := by
        have : execOp a.eval o = (do pure (Next.value (← convert src dst (a.eval x)))) := by simp only [execOp, hop]
        rw [this, hm, Sem.run_bind, hrun]; rfl
      rw [hrun']
      have hsz := Lib.bytesWorld_size w e m
      have hq : QFr w g (Lib.bytesWorld w e m) (g.setVal o.dst fun _ => .slice (some ⟨w.heap.size, 0, none⟩) m.size (grownCap w m.size 0 e)) o.dst := by
        refine ⟨rfl, rfl, rfl, by omega, fun b hb => ⟨rfl, Lib.bytesWorld_at_old w e m b hb⟩, fun s p hd => by simp [G.setVal, hd], fun b hb => ?_, fun b hb => ?_⟩
        · show g.tag b ≠ .out; rw [h.inv.fresh b hb]; simp
        · exact h.inv.fresh b (by omega)
      refine hpost _ _ _ _ hq (fun i hi => ?_) hk
      refine .o _ _ (fun _ => by rw [hi, G.setVal_self]) (.pv [] _ _ ?_)
      rw [hi, G.setVal_self]
      have hlen : m.size = (m.data.toList.map fun b => PV.int .u8 b.toNat).length := by rw [List.length_map, Array.length_toList]; rfl
      have := PRep.sl (P := P) (w := Lib.bytesWorld w e m) (g := g.setVal (some i) fun _ => .slice (some ⟨w.heap.size, 0, none⟩) m.size (grownCap w m.size 0 e)) e
        (m.data.toList.map fun b => PV.int .u8 b.toNat) w.heap.size 0 (grownCap w m.size 0 e) (fun i => .int .u8 (m.data.toList.getD i 0).toNat) ?_ ?_ ?_ ?_ ?_
      · rw [← hlen] at this; exact this
      · intro j y hj
        rw [he]
        simp only [List.getElem?_map, Option.map_eq_some_iff] at hj
        obtain ⟨c, hc1, rfl⟩ := hj
        have : m.data.toList.getD j 0 = c := by simp [List.getD, hc1]
        rw [this]; exact .int _ _
      · intro i hi j hj
        rw [hone'] at hj ⊢
        have hj0 : j = 0 := by omega
        subst hj0
        have := Lib.bytesWorld_cell w e m i (by rw [hlen]; exact hi)
        rw [show 0 + i * 1 + 0 = i by omega, this]; rfl
      · exact h.inv.fresh _ (Nat.le_refl _)
      · omega
      · rw [← hlen]; exact grownCap_ge w m.size 0 e
    · cases hk
  · rename_i e hs hd
    split at hk
    · rename_i l he hl
      cases hone : Nat.beq (P.cellsOf e) 1 with
      | false => simp [hone] at hk
      | true =>
      simp only [hone, cond_true] at hk
      have hone' := Nat.eq_of_beq_eq_true hone
      have hus := tyOf_sl hs
      have hue := tyOf_int he
      have hud := tyOf_str hd
      rcases rdList_sound h hx hl with ⟨rfl, ad, hv'⟩ | ⟨b, off, cap, f, hv', hp, hc⟩
      · refine pure_done h (v := .string ⟨#[]⟩) ?_ (.str _) hk hpost
        cases ad with
        | none =>
          have := run_convert_bytes_nil (P := P) w src e hus hue 0 0 dst hud
          simp only [execOp, hop, hv', Sem.run_bind, this, Result.andThen_ok, Sem.run_pure]; rfl
        | some a0 =>
          have := run_convert_bytes_string (P := P) w src dst e (some a0) 0 0 hus hue hud
          simp only [execOp, hop, hv', Sem.run_bind, this, Result.andThen_ok, Sem.run_pure]
          simp [Conv.bytesToString, loadCells]; rfl
      · refine pure_done h (v := .string ⟨(l.map fun c => UInt8.ofNat c.toInt.toNat).toArray⟩) ?_ (.str _) hk hpost
        have := run_convert_bytes_arg (P := P) w src e hus hue b off l.length cap (l.map PV.toInt) (by simp) (fun i hi => by
          have hx := List.getElem?_eq_getElem hi
          have hpi := hp i _ hx
          rw [he] at hpi
          obtain ⟨n, h1, h2⟩ := hpi.int_inv
          have := hc i hi 0 (by omega)
          rw [hone'] at this
          rw [show off + i = off + i * 1 + 0 by omega, this, h2]
          simp [Value.cells, List.getD, hi, h1, PV.toInt]) dst hud
        have hst : strOfNums (l.map PV.toInt) = ⟨(l.map fun c => UInt8.ofNat c.toInt.toNat).toArray⟩ := by
          simp [strOfNums]
        simp only [execOp, hop, hv', Sem.run_bind, this, Result.andThen_ok, Sem.run_pure, hst]
    · cases hk
  · cases hk

end
end Go.V

namespace Go.V
section
variable {P : Program} {N : Nat} {st : St} {a : Act} {hv : List Value} {w : World} {g : G} {K : AV → R} {r : List AO × List AO} {o : Oper} {next : Act → World → Prop} {Q : Exit → Act → World → Prop} {call : CallF}

theorem under_of_prep {t : TypeId} {x : PV} {v : Value} (h : PRep P w g (tyOf P t) x v) : ∃ d, P.underlying t = some d := by
  cases hu : P.underlying t with
  | some d => exact ⟨d, rfl⟩
  | none =>
    have : tyOf P t = .no := by simp [tyOf, hu]
    rw [this] at h; cases h

theorem run_sizeOf' {t : TypeId} (h : P.cellsOf t ≠ 0) : (sizeOf t).run P w = .ok (P.cellsOf t) w := by
  unfold Program.cellsOf at h ⊢
  cases hi : P.info? t with
  | none => simp [hi] at h
  | some i => simp [sizeOf, typeInfo, hi]

theorem locOf_sound (h : Good P N st a hv w g) {x : Operand} (hx : tmpOk N x = true) {s : Nat} {p : List Nat} (hl : locOf st x = some (s, p)) : a.eval x = g.val s p ∧ obj st s p ≠ .dead := by
  cases x with
  | tmp t =>
    simp only [locOf] at hl
    have hs := h.slot (by simpa [tmpOk] using hx)
    generalize hz : get st t = z at hs hl
    generalize a.eval (.tmp t) = v at hs ⊢
    cases hs with
    | o y v hv' hy =>
      cases y with
      | box E cs => simp at hl; obtain ⟨rfl, rfl⟩ := hl; exact ⟨hv' (by simp), by unfold obj; rw [hz]; simp [AO.at]⟩
      | arr E cs => simp at hl; obtain ⟨rfl, rfl⟩ := hl; exact ⟨hv' (by simp), by unfold obj; rw [hz]; simp [AO.at]⟩
      | _ => simp at hl
    | al r q v h' =>
      simp only at hl
      split at hl
      · rename_i hob; simp at hl; obtain ⟨rfl, rfl⟩ := hl; exact ⟨h' (by rw [hob]; simp), by rw [hob]; simp⟩
      · rename_i hob; simp at hl; obtain ⟨rfl, rfl⟩ := hl; exact ⟨h' (by rw [hob]; simp), by rw [hob]; simp⟩
      · simp at hl
    | _ => simp at hl
  | _ => simp [locOf] at hl

theorem evQ_makeInterface (h : Good P N st a hv w g) {t : TypeId} {x : Operand} (hop : o.op = .makeInterface t x) (hok : opOk N o) (hk : evQ P call o st K = some r) (hpost : Then P st a w g K r o next) : o.wp P a w next Q := by
  simp only [evQ, hop] at hk
  have hx := hok x (by simp [hop, Op.operands])
  split at hk
  · rename_i v hv'
    have hp := h.rd hx hv'
    obtain ⟨d, hd⟩ := under_of_prep hp
    split at hk
    · cases hk
    · rename_i hne
      refine pure_done h ?_ (.ifc t v _ hp) hk hpost
      have : (Instr.makeInterface t (a.eval x)).run P w = .ok (.iface t (a.eval x)) w := by
        simp only [Instr.makeInterface, Sem.run_bind, run_underlying hd, Result.andThen_ok]
        cases d with
        | interface ms => exact absurd (by simp [tyOf, hd]) hne
        | _ => rfl
      simp only [execOp, hop, Sem.run_bind, this, Result.andThen_ok, Sem.run_pure]
  · cases hk

theorem evQ_fieldAddr (h : Good P N st a hv w g) {T : TypeId} {x : Operand} {f : Nat} (hop : o.op = .fieldAddr T x f) (hok : opOk N o) (hk : evQ P call o st K = some r) (hpost : Then P st a w g K r o next) : o.wp P a w next Q := by
  simp only [evQ, hop] at hk
  have hx := hok x (by simp [hop, Op.operands])
  split at hk
  · rename_i fs hu
    split at hk
    · rename_i fd hfd
      cases hz : Nat.beq (P.cellsOf fd.type) 0 with
      | true => simp [hz] at hk
      | false =>
        simp only [hz, cond_false] at hk
        have hz' : P.cellsOf fd.type ≠ 0 := fun h0 => by rw [h0] at hz; simp at hz
        have hrun : ∀ b off, a.eval x = .pointer (some ⟨b, off, none⟩) → (execOp a.eval o).run P w = .ok (.value (.pointer (some ⟨b, off + fd.offset, none⟩))) w := by
          intro b off hev
          simp only [execOp, hop, hev, Instr.fieldAt, Sem.run_bind, run_underlying hu, Result.andThen_ok, hfd, Instr.sureAddr, Sem.run_pure, fieldPlace, run_sizeOf' hz', if_neg hz', addr_add, Sem.run_ite]
        split at hk
        · rename_i s p off hp
          split at hk
          · rename_i E cs hob
            obtain ⟨b, vs, h1, h2, _⟩ := asPtr_sound h hx hp hob
            exact ref_done h (hrun b off h1) (fun _ => .ptr s p _ _ (fun _ _ _ => ⟨b, h2, rfl⟩)) hk hpost
          · cases hk
        · cases x with
          | tmp i =>
            simp only at hk
            have hi : i < N := by simpa [tmpOk] using hx
            split at hk
            · rename_i E v off hg
              have hs := h.slotAt hi hg
              generalize hv' : a.eval (.tmp i) = z at hs hrun
              cases hs with
              | ip _ _ _ b q f hp hc ht hb =>
                refine ref_done h (hrun b _ rfl) (fun _ => ?_) hk hpost
                rw [Nat.add_assoc]; exact .ip E v _ b q f hp hc ht hb
            · rename_i s p j off hg
              split at hk
              · rename_i E l hob
                obtain ⟨b, q, cap, vs, T', f', hj, hev, hvv, _⟩ := good_el h hi hg hob
                refine ref_done h (hrun b _ hev) (fun _ => .el s p j _ _ (fun E' l' he => ?_)) hk hpost
                rw [hob] at he; cases he
                exact ⟨hj, b, q, _, cap, hvv, by rw [Nat.add_assoc]⟩
              · cases hk
            · cases hk
          | _ => simp at hk
    · cases hk
  · cases hk

theorem evQ_field (h : Good P N st a hv w g) {T : TypeId} {x : Operand} {f : Nat} (hop : o.op = .field T x f) (hok : opOk N o) (hk : evQ P call o st K = some r) (hpost : Then P st a w g K r o next) : o.wp P a w next Q := by
  simp only [evQ, hop] at hk
  have hx := hok x (by simp [hop, Op.operands])
  split at hk
  · rename_i fs hu
    split at hk
    · rename_i fd v hfd hrd
      split at hk
      · rename_i y hy
        have hp := h.rd hx hrd
        have hT : tyOf P T = .st T := by simp [tyOf, hu]
        have hp' := hp
        rw [hT] at hp'
        obtain ⟨xs, cs, rfl, hcs, _⟩ := hp'.st_inv
        rw [hcs] at hp
        obtain ⟨z, h1, h2⟩ := part_sound hp hy
        refine pure_done h ?_ h2 hk hpost
        simp only [execOp, hop, hcs, Instr.field, Sem.run_bind, run_underlying hu, Result.andThen_ok, hfd, asAgg, Sem.run_pure, h1]
      · cases hk
    · cases hk
  · cases hk

theorem run_indexAddr {T E : TypeId} {x ix : Operand} (hop : o.op = .indexAddr T x ix) (hu : P.underlying T = some (.slice E)) {b q n cap : Nat} {k : IntKind} {i : Int} (hx : a.eval x = .slice (some ⟨b, q, none⟩) n cap)
    (hi : a.eval ix = .int k i) (h0 : 0 ≤ i) (h1 : i < n) {d : TypeDesc} (hE : P.underlying E = some d) : (execOp a.eval o).run P w = .ok (.value (.pointer (some ⟨b, q + i.toNat * P.cellsOf E, none⟩))) w := by
  have he : P.elem T = E := by simp [Program.elem, hu]
  have := run_indexAt_slice (P := P) w T ⟨b, q, none⟩ n cap k i (by rw [he]; exact hu)
  simp only [execOp, hop, hx, hi, Sem.run_bind, this, he, run_sizeOf hE, Result.andThen_ok, h0, h1, and_self, if_true, addr_add, Sem.run_pure]

theorem evQ_indexAddr (h : Good P N st a hv w g) {T : TypeId} {x ix : Operand} (hop : o.op = .indexAddr T x ix) (hok : opOk N o) (hk : evQ P call o st K = some r) (hpost : Then P st a w g K r o next) : o.wp P a w next Q := by
  simp only [evQ, hop] at hk
  have hx := hok x (by simp [hop, Op.operands])
  have hix := hok ix (by simp [hop, Op.operands])
  split at hk
  · rename_i E n hT hn
    obtain ⟨k, i, rfl, hi⟩ := h.rdInt hix hn
    have hu := tyOf_sl hT
    split at hk
    · rename_i s p hl
      obtain ⟨hev, _⟩ := locOf_sound h hx hl
      split at hk
      · rename_i E' l hob
        cases hc : (Nat.beq E E' && (decide (0 ≤ (PV.int k i).toInt) && decide ((PV.int k i).toInt < l.length))) with
        | false => simp [hc] at hk
        | true =>
          simp only [hc, cond_true] at hk
          simp only [PV.toInt] at hk
          simp only [Bool.and_eq_true] at hc
          obtain ⟨hE, h0', h1'⟩ := hc
          have h0 : 0 ≤ i := of_decide_eq_true h0'
          have h1 : i < l.length := of_decide_eq_true h1'
          have hE' := Nat.eq_of_beq_eq_true hE
          subst hE'
          have hor := h.obj s p
          rw [hob] at hor
          cases hor with
          | narr => simp at h1; omega
          | arr _ _ _ b q cap vs f T' hv' hh ht hl' hcap he hc' =>
            have hxi := List.getElem?_eq_getElem (show i.toNat < l.length by omega)
            obtain ⟨d, hd⟩ := under_of_prep (he _ _ hxi)
            refine ref_done h (run_indexAddr hop hu (hev.trans hv') hi h0 h1 hd) (fun _ => .el s p _ _ _ (fun E' l' he' => ?_)) hk hpost
            rw [hob] at he'; cases he'
            exact ⟨by omega, b, q, _, cap, hv', rfl⟩
      · cases hk
    · split at hk
      · rename_i v hrd
        cases hc : (decide (0 ≤ (PV.int k i).toInt) && decide ((PV.int k i).toInt < v.toList.length)) with
        | false => simp [hc] at hk
        | true =>
          simp only [hc, cond_true] at hk
          simp only [PV.toInt] at hk
          simp only [Bool.and_eq_true] at hc
          obtain ⟨h0', h1'⟩ := hc
          have h0 : 0 ≤ i := of_decide_eq_true h0'
          have h1 : i < v.toList.length := of_decide_eq_true h1'
          have hp := h.rd hx hrd
          rw [hT] at hp
          rcases sl_inv hp with ⟨hnil, _⟩ | ⟨l, b, q, cap, f, rfl, hv', he, hcell, ht, hb, _⟩
          · rw [hnil] at h1; simp at h1; omega
          · simp only [PV.toList] at h1 hk
            have hlt : i.toNat < l.length := by omega
            have hxi := List.getElem?_eq_getElem hlt
            have hnth : nth default l i.toNat = l[i.toNat] := by rw [nth_eq, hxi]; rfl
            obtain ⟨d, hd⟩ := under_of_prep (he _ _ hxi)
            refine ref_done h (run_indexAddr hop hu hv' hi h0 h1 hd) (fun _ => ?_) hk hpost
            rw [hnth]
            exact .ip E _ 0 b (q + i.toNat * P.cellsOf E) (f i.toNat) (he _ _ hxi) (fun j hj => hcell _ hlt j hj) ht hb
      · cases hk
  · cases hk

theorem evQ_index (h : Good P N st a hv w g) {T : TypeId} {x ix : Operand} (hop : o.op = .index T x ix) (hok : opOk N o) (hk : evQ P call o st K = some r) (hpost : Then P st a w g K r o next) : o.wp P a w next Q := by
  simp only [evQ, hop] at hk
  have hx := hok x (by simp [hop, Op.operands])
  have hix := hok ix (by simp [hop, Op.operands])
  split at hk
  · rename_i v n hT hrd hn
    obtain ⟨k, i, rfl, hi⟩ := h.rdInt hix hn
    obtain ⟨s, rfl, hs⟩ := (hT ▸ h.rd hx hrd).str_inv
    cases hc : (decide (0 ≤ (PV.int k i).toInt) && decide ((PV.int k i).toInt < (PV.str s).toStr.size)) with
    | false => simp [hc] at hk
    | true =>
      simp only [hc, cond_true] at hk
      simp only [PV.toInt, PV.toStr] at hk
      simp only [Bool.and_eq_true] at hc
      obtain ⟨h0', h1'⟩ := hc
      have h0 : 0 ≤ i := of_decide_eq_true h0'
      have h1 : i < s.size := of_decide_eq_true h1'
      have hlt : i.toNat < s.size := by omega
      have hnth : nth 0 s.data.toList i.toNat = s[i.toNat] := by
        rw [nth_eq, List.getElem?_eq_getElem (by simpa using hlt)]; simp; rfl
      refine pure_done h ?_ (.int .u8 _) hk hpost
      simp only [execOp, hop, hs, hi, Instr.index, asIntOf, Sem.run_bind, Sem.run_pure, Result.andThen_ok, run_underlying (tyOf_str hT), if_pos h0, ByteArray.getElem?_lt' s i.toNat hlt, hnth]
  · cases hk

theorem evQ_extract (h : Good P N st a hv w g) {x : Operand} {i : Nat} (hop : o.op = .extract x i) (hok : opOk N o) (hk : evQ P call o st K = some r) (hpost : Then P st a w g K r o next) : o.wp P a w next Q := by
  simp only [evQ, hop] at hk
  have hx := hok x (by simp [hop, Op.operands])
  cases x with
  | tmp t =>
    simp only at hk
    split at hk
    · rename_i xs hg
      have hs := h.slotAt (by simpa [tmpOk] using hx) hg
      generalize hv' : a.eval (.tmp t) = z at hs
      cases hs with
      | tup _ vs hl hh =>
        split at hk
        · rename_i ty v hn
          have hxi := nth_some hn (by simp)
          have hlt := (List.getElem?_eq_some_iff.1 hxi).1
          have hvi := List.getElem?_eq_getElem (show i < vs.length by omega)
          obtain ⟨t', y, h1, h2⟩ := hh i _ _ hxi hvi
          cases h1
          refine pure_done h ?_ h2 hk hpost
          simp [execOp, hop, hv', Instr.extract, hvi]
        · cases hk
    · cases hk
  | _ => simp at hk

end
end Go.V

namespace Go.V
section
variable {P : Program} {N : Nat} {st : St} {a : Act} {hv : List Value} {w : World} {g : G} {K : AV → R} {r : List AO × List AO} {o : Oper} {next : Act → World → Prop} {Q : Exit → Act → World → Prop} {call : CallF}

theorem guardB_true {c : Bool} {x : R} {y : List AO × List AO} (h : (bif c then x else none) = some y) : c = true ∧ x = some y := by
  cases c <;> simp_all

theorem run_sizeOf_info {t : TypeId} (h : (P.info? t).isSome = true) : (sizeOf t).run P w = .ok (P.cellsOf t) w := by
  cases hi : P.info? t with
  | none => rw [hi] at h; cases h
  | some i => simp [sizeOf, typeInfo, Program.cellsOf, hi]

/-- The bound of a slice expression. -/
def bound (st : St) (d : Int) : Option Operand → Option PV
  | some y => rdInt st y
  | none => some (.int .i64 d)

theorem bound_sound (h : Good P N st a hv w g) {y : Option Operand} (hy : ∀ z, y = some z → tmpOk N z = true) {d : Int} {v : PV} (hb : bound st d y = some v) :
    (y = none ∧ v.toInt = d) ∨ ∃ z k, y = some z ∧ a.eval z = .int k v.toInt := by
  cases y with
  | none => simp [bound] at hb; subst hb; exact .inl ⟨rfl, rfl⟩
  | some z =>
    obtain ⟨k, n, rfl, hn⟩ := h.rdInt (hy z rfl) hb
    exact .inr ⟨z, k, rfl, hn⟩

theorem run_sliceBounds {isSlice : Bool} {len cap : Nat} {lo hi : Option Operand} {L H : Int} {ρ : Operand → Value} (hlo : (lo = none ∧ L = 0) ∨ ∃ z k, lo = some z ∧ ρ z = .int k L) (hhi : (hi = none ∧ H = len) ∨ ∃ z k, hi = some z ∧ ρ z = .int k H)
    (h0 : 0 ≤ L) (h1 : L ≤ H) (h2 : H ≤ len) (hc : len ≤ cap) : (Instr.sliceBounds isSlice len cap (lo.map ρ) (hi.map ρ) none).run P w = .ok (L.toNat, H.toNat, cap) w := by
  have eH : ((H.toNat : Nat) : Int) = H := Int.toNat_of_nonneg (by omega)
  rcases hlo with ⟨rfl, rfl⟩ | ⟨z, k, rfl, hz⟩ <;> rcases hhi with ⟨rfl, rfl⟩ | ⟨z', k', rfl, hz'⟩
  · simp [Instr.sliceBounds]
  · simp [Instr.sliceBounds, hz', run_sliceBound w k' H cap _ (by omega) (by omega)]
  · simp [Instr.sliceBounds, hz, run_sliceBound w k L len _ (by omega) (by omega)]
  · simp [Instr.sliceBounds, hz, hz', run_sliceBound w k' H cap _ (by omega) (by omega), run_sliceBound w k L H.toNat _ (by omega) (by omega)]

theorem evQ_slice (h : Good P N st a hv w g) {T : TypeId} {x : Operand} {lo hi mx : Option Operand} (hop : o.op = .slice T x lo hi mx) (hok : opOk N o) (hk : evQ P call o st K = some r) (hpost : Then P st a w g K r o next) : o.wp P a w next Q := by
  have hx : tmpOk N x = true := hok x (by simp [hop, Op.operands])
  have hlo : ∀ z, lo = some z → tmpOk N z = true := fun z hz => hok z (by simp [hop, Op.operands, hz])
  have hhi : ∀ z, hi = some z → tmpOk N z = true := fun z hz => hok z (by simp [hop, Op.operands, hz])
  simp only [evQ, hop] at hk
  split at hk
  · cases hk
  · rename_i hmx
    split at hk
    · rename_i l v hl hrd
      have hl' := bound_sound h hlo (v := l) (d := 0) (by cases lo <;> exact hl)
      split at hk
      · rename_i hT
        obtain ⟨s, rfl, hs⟩ := (hT ▸ h.rd hx hrd).str_inv
        split at hk
        · rename_i H hH
          have hH' := bound_sound h hhi (v := H) (d := (PV.str s).toStr.size) (by cases hi <;> exact hH)
          obtain ⟨hc, hk⟩ := guardB_true hk
          simp only [Bool.and_eq_true] at hc
          obtain ⟨c0, c1, c2⟩ := hc
          have c0 : 0 ≤ l.toInt := of_decide_eq_true c0
          have c1 : l.toInt ≤ H.toInt := of_decide_eq_true c1
          have c2 : H.toInt ≤ s.size := of_decide_eq_true c2
          refine pure_done h ?_ (.str _) hk hpost
          have hb := run_sliceBounds (P := P) (w := w) (isSlice := false) (len := s.size) (cap := s.size) hl' hH' c0 c1 c2 (Nat.le_refl _)
          have hu := tyOf_str hT
          have : (Instr.sliceAt T (.string s) (lo.map a.eval) (hi.map a.eval) none).run P w = .ok (.string (s.extract l.toInt.toNat H.toInt.toNat)) w := by
            rw [run_sliceAt_string w T _ _ _ _ hu]
            simp only [Instr.slice, Sem.run_bind, run_underlying hu, Result.andThen_ok, hb, Option.isSome, Bool.false_eq_true, if_false, Sem.run_pure]
          simp only [execOp, hop, hs, Option.map_none, Sem.run_bind, this, Result.andThen_ok, Sem.run_pure]; rfl
        · cases hk
      · rename_i E hT
        have hp := h.rd hx hrd
        rw [hT] at hp
        have hu := tyOf_sl hT
        have hel : P.elem T = E := by simp [Program.elem, hu]
        split at hk
        · rename_i H hH
          have hH' := bound_sound h hhi (v := H) (d := v.toList.length) (by cases hi <;> exact hH)
          obtain ⟨hc, hk⟩ := guardB_true hk
          simp only [Bool.and_eq_true] at hc
          obtain ⟨ci, c0, c1, c2⟩ := hc
          have c0 : 0 ≤ l.toInt := of_decide_eq_true c0
          have c1 : l.toInt ≤ H.toInt := of_decide_eq_true c1
          have c2 : H.toInt ≤ v.toList.length := of_decide_eq_true c2
          have hrun : ∀ ad n cap, n = v.toList.length → n ≤ cap → a.eval x = .slice ad n cap →
              (execOp a.eval o).run P w = .ok (.value (.slice (if cap = l.toInt.toNat then ad else ad.map (·.add (l.toInt.toNat * P.cellsOf E))) (H.toInt.toNat - l.toInt.toNat) (cap - l.toInt.toNat))) w := by
            intro ad n cap hn hcap hev
            have hb := run_sliceBounds (P := P) (w := w) (isSlice := true) (len := n) (cap := cap) hl' (by rw [hn]; exact hH') c0 c1 (by rw [hn]; exact c2) hcap
            have : (Instr.sliceAt T (.slice ad n cap) (lo.map a.eval) (hi.map a.eval) none).run P w = .ok (.slice (if cap = l.toInt.toNat then ad else ad.map (·.add (l.toInt.toNat * P.cellsOf E))) (H.toInt.toNat - l.toInt.toNat) (cap - l.toInt.toNat)) w := by
              rw [run_sliceAt_slice w T _ _ _ _ (by rw [hel]; exact hu)]
              simp only [Instr.slice, Sem.run_bind, run_underlying hu, Result.andThen_ok, hb, run_sizeOf_info ci, Sem.run_pure]
            simp only [execOp, hop, hev, Option.map_none, Sem.run_bind, this, Result.andThen_ok, Sem.run_pure]
          rcases sl_inv hp with ⟨hnil, rfl, ad, hv'⟩ | ⟨l', b, q, cap, f, rfl, hv', he, hcell, ht, hb, hcap⟩
          · simp only [PV.toList, List.length_nil] at c2
            have e1 : l.toInt.toNat = 0 := by omega
            have e2 : H.toInt.toNat = 0 := by omega
            refine pure_done h (hrun ad 0 0 (by simp [PV.toList]) (Nat.le_refl _) hv') ?_ hk hpost
            simp only [PV.toList, e1, e2, if_true]
            cases ad with
            | none => exact .nsl E
            | some a0 => exact .esl E a0
          · simp only [PV.toList] at c2 hk
            refine pure_done h (hrun _ _ cap rfl hcap hv') ?_ hk hpost
            have hlen : ((l'.take H.toInt.toNat).drop l.toInt.toNat).length = H.toInt.toNat - l.toInt.toNat := by simp; omega
            by_cases hcl : cap = l.toInt.toNat
            · rw [if_pos hcl, ← hlen]
              have hnil : (l'.take H.toInt.toNat).drop l.toInt.toNat = [] := List.eq_nil_of_length_eq_zero (by omega)
              rw [hnil]
              exact .sl E [] b q (cap - l.toInt.toNat) f (fun i x hx => by simp at hx) (fun i hi => by simp at hi) ht hb (Nat.zero_le _)
            · rw [if_neg hcl, ← hlen]
              simp only [Option.map_some, addr_add]
              refine .sl E _ b (q + l.toInt.toNat * P.cellsOf E) (cap - l.toInt.toNat) (fun i => f (l.toInt.toNat + i)) (fun i x hx => ?_) (fun i hi j hj => ?_) ht hb (by omega)
              · rw [List.getElem?_drop, List.getElem?_take] at hx
                split at hx
                · exact he _ x hx
                · cases hx
              · rw [← hcell (l.toInt.toNat + i) (by omega) j hj, Nat.add_mul]
                congr 2; omega
        · cases hk
      · cases hk
    · cases hk

end
end Go.V

namespace Go.V
section
variable {P : Program} {N : Nat} {st : St} {a : Act} {hv : List Value} {w : World} {g : G} {K : AV → R} {r : List AO × List AO} {o : Oper} {next : Act → World → Prop} {Q : Exit → Act → World → Prop} {call : CallF}

theorem cellTys_scalar {t : TypeId} (h : scalarTy (tyOf P t) = true) : cellTys P deep t = [tyOf P t] := by
  obtain ⟨d, hd, h1, h2⟩ := scalar_under h
  show cellTys P (11 + 1) t = _
  simp only [cellTys, hd]
  cases d <;> first | rfl | exact absurd rfl (h1 _) | exact absurd rfl (h2 _ _)

theorem scalar_cells {t : Ty} {x : PV} {v : Value} (hs : scalarTy t = true) (h : PRep P w g t x v) : v.cells = #[v] ∧ v.oneCell' = true := by
  cases h <;> first | (simp [scalarTy] at hs; done) | exact ⟨rfl, rfl⟩

theorem cells_of_prep {T : TypeId} {x : PV} {v : Value} (h : PRep P w g (tyOf P T) x v) (hT : (isAggTy (tyOf P T) || scalarTy (tyOf P T)) = true) :
    (pcells P T x).length = (cellTys P deep T).length ∧ v.cells.size = (cellTys P deep T).length ∧
    ∀ (j : Nat) (ty : Ty) (y : PV) (c : Value), (cellTys P deep T)[j]? = some ty → (pcells P T x)[j]? = some y → v.cells[j]? = some c → PRep P w g ty y c := by
  unfold pcells
  cases hA : isAggTy (tyOf P T) with
  | true =>
    rw [isAggTy_st hA] at h
    obtain ⟨xs, cs, rfl, rfl, h1, h2, h3⟩ := h.st_inv
    refine ⟨by simp [cellsFrom], by simpa [Value.cells] using h2, fun j ty y c hty hy hc => ?_⟩
    have hj := (List.getElem?_eq_some_iff.1 hty).1
    simp only [cond_true, cellsFrom, List.getElem?_map, List.getElem?_range hj, Option.map_some, Option.some.injEq] at hy
    refine h3 j ty y c hty ?_ (by simpa [Value.cells] using hc)
    rw [← hy, cell_get, Nat.zero_add, List.getElem?_eq_getElem (by omega)]; rfl
  | false =>
    have hs : scalarTy (tyOf P T) = true := by rw [hA] at hT; simpa using hT
    rw [cellTys_scalar hs]
    obtain ⟨hc, _⟩ := scalar_cells hs h
    rw [hc]
    refine ⟨rfl, rfl, fun j ty y c hty hy hc => ?_⟩
    cases j with
    | zero => simp at hty hy hc; subst hty hy hc; exact h
    | succ j => simp at hty

theorem setCells_get : ∀ (vs cs : List PV) (off : Nat), (setCells cs off vs).length = cs.length ∧
    ∀ k, (setCells cs off vs)[k]? = if off ≤ k ∧ k < off + vs.length ∧ k < cs.length then vs[k - off]? else cs[k]?
  | [], cs, off => by
    refine ⟨rfl, fun k => ?_⟩
    simp only [setCells, List.length_nil, Nat.add_zero]
    rw [if_neg (by omega)]
  | v :: vs, cs, off => by
    obtain ⟨h1, h2⟩ := setCells_get vs (cs.set off v) (off + 1)
    simp only [setCells]
    refine ⟨by rw [h1]; simp, fun k => ?_⟩
    rw [h2 k]
    simp only [List.length_set, List.length_cons, List.getElem?_set]
    by_cases hk : off = k
    · subst hk
      rw [if_neg (by omega), if_pos rfl]
      by_cases hs : off < cs.length
      · rw [if_pos hs, if_pos ⟨Nat.le_refl _, by omega, hs⟩, Nat.sub_self]; rfl
      · rw [if_neg hs, if_neg (by omega), List.getElem?_eq_none (by omega)]
    · by_cases hin : off + 1 ≤ k ∧ k < off + 1 + vs.length ∧ k < cs.length
      · rw [if_pos hin, if_pos (by omega)]
        have e : k - off = (k - (off + 1)) + 1 := by omega
        rw [e, List.getElem?_cons_succ]
      · rw [if_neg hin, if_neg hk, if_neg (by omega)]

/-- Cells that are typed. -/
structure Typed (P : Program) (w : World) (g : G) (ts : List Ty) (xs : List PV) (cs : Array Value) : Prop where
  lx : xs.length = ts.length
  lc : cs.size = ts.length
  rep : ∀ (j : Nat) (ty : Ty) (y : PV) (c : Value), ts[j]? = some ty → xs[j]? = some y → cs[j]? = some c → PRep P w g ty y c

theorem parts_sound (h : Good P N st a hv w g) {T : TypeId} {fs : Array Field} : ∀ {ps : List (Nat × Operand)} {vs : List (Nat × List PV)} {xs : List PV} {cs : Array Value}, (∀ p ∈ ps, tmpOk N p.2 = true) →
    parts P st T fs.toList ps = some vs → Typed P w g (cellTys P deep T) xs cs →
    ∃ cs', Instr.fill ((fs.map fun f => (f.offset, P.cellsOf f.type))[·]?) cs (ps.map fun p => (p.1, a.eval p.2)) = some cs' ∧ Typed P w g (cellTys P deep T) (buildCells xs vs) cs'
  | [], vs, xs, cs, _, hp, ht => by
    simp [parts] at hp; subst hp
    exact ⟨cs, rfl, ht⟩
  | (i, x) :: ps, vs, xs, cs, hok, hp, ht => by
    simp only [parts] at hp
    split at hp
    · rename_i f hf
      split at hp
      · rename_i v vs' hv hvs'
        cases hc : (Nat.beq (P.cellsOf f.type) (cellTys P deep f.type).length && (tysPre (cellTys P deep f.type) ((cellTys P deep T).drop f.offset) && ((isAggTy (tyOf P f.type) || scalarTy (tyOf P f.type)) && decide (0 < P.cellsOf f.type)))) with
        | false => rw [hc] at hp; simp at hp
        | true =>
          rw [hc] at hp
          simp only [cond_true, Option.some.injEq] at hp
          simp only [Bool.and_eq_true] at hc
          obtain ⟨hsz, hpre, hsc, hpos⟩ := hc
          have hpos := of_decide_eq_true hpos
          have hsz' := Nat.eq_of_beq_eq_true hsz
          have hrep := h.rd (hok (i, x) (by simp)) hv
          obtain ⟨l1, l2, l3⟩ := cells_of_prep hrep hsc
          have hle : ∀ j, j < (cellTys P deep f.type).length → f.offset + j < (cellTys P deep T).length := by
            intro j hj
            have := tysPre_get hpre (List.getElem?_eq_getElem hj)
            rw [List.getElem?_drop] at this
            exact (List.getElem?_eq_some_iff.1 this).1
          have hle' : f.offset + (cellTys P deep f.type).length ≤ (cellTys P deep T).length := by
            have := hle ((cellTys P deep f.type).length - 1) (by omega); omega
          have hfill : Instr.fill ((fs.map fun f => (f.offset, P.cellsOf f.type))[·]?) cs (((i, x) :: ps).map fun p => (p.1, a.eval p.2)) =
              Instr.fill ((fs.map fun f => (f.offset, P.cellsOf f.type))[·]?) ((a.eval x).cells.zipIdx.foldl (fun cs (c, j) => cs.setIfInBounds (f.offset + j) c) cs) (ps.map fun p => (p.1, a.eval p.2)) := by
            have hfi : (fs.map fun f => (f.offset, P.cellsOf f.type))[i]? = some (f.offset, P.cellsOf f.type) := by
              simp only [Array.getElem?_map]
              have : fs[i]? = some f := by simpa using hf
              rw [this]; rfl
            simp only [List.map_cons, Instr.fill, hfi]
            rw [if_neg]
            simp only [ne_eq, decide_not, Bool.or_eq_true, Bool.not_eq_true', decide_eq_false_iff_not, decide_eq_true_eq, not_or, Decidable.not_not]
            have h1 := ht.lc
            have h2 : (a.eval x).cells.size = (cellTys P deep f.type).length := l2
            rw [h2]
            exact ⟨by omega, by omega⟩
          rw [hfill, ← hp]
          simp only [buildCells]
          refine parts_sound h (fun p hp => hok p (by simp [hp])) hvs' ?_
          obtain ⟨g1, g2⟩ := Great.foldl_set f.offset (a.eval x).cells.toList 0 cs
          obtain ⟨s1, s2⟩ := setCells_get (pcells P f.type v) xs f.offset
          have h2 : (a.eval x).cells.size = (cellTys P deep f.type).length := l2
          have h1 := ht.lc
          have h3 := ht.lx
          refine ⟨by rw [show (bif isAggTy (tyOf P f.type) then cellsFrom v 0 (cellTys P deep f.type).length else [v]) = pcells P f.type v from rfl, s1]; exact ht.lx, ?_, ?_⟩
          · rw [← Array.foldl_toList, Array.toList_zipIdx, g1]; exact ht.lc
          · intro k ty y c hty hy hc
            rw [show (bif isAggTy (tyOf P f.type) then cellsFrom v 0 (cellTys P deep f.type).length else [v]) = pcells P f.type v from rfl, s2 k, l1] at hy
            rw [← Array.foldl_toList, Array.toList_zipIdx, g2 k] at hc
            simp only [Nat.add_zero, Array.length_toList, h2] at hc
            have hk := (List.getElem?_eq_some_iff.1 hty).1
            by_cases hin : f.offset ≤ k ∧ k < f.offset + (cellTys P deep f.type).length
            · rw [if_pos ⟨hin.1, hin.2, by omega⟩] at hy hc
              obtain ⟨j, rfl⟩ : ∃ j, k = f.offset + j := ⟨k - f.offset, by omega⟩
              rw [Nat.add_sub_cancel_left] at hy hc
              have hj := List.getElem?_eq_getElem (show j < (cellTys P deep f.type).length by omega)
              have := tysPre_get hpre hj
              rw [List.getElem?_drop, hty] at this
              cases this
              exact l3 j _ y c hj hy (by simpa using hc)
            · rw [if_neg (by omega)] at hy hc
              exact ht.rep k ty y c hty hy hc
      · cases hp
    · cases hp
end
end Go.V

namespace Go.V
section
variable {P : Program} {N : Nat} {st : St} {a : Act} {hv : List Value} {w : World} {g : G} {K : AV → R} {r : List AO × List AO} {o : Oper} {next : Act → World → Prop} {Q : Exit → Act → World → Prop} {call : CallF}

theorem run_places : ∀ (fs : List Field), (fs.all fun f => (P.info? f.type).isSome) = true → ((fs.mapM fun f => do pure (f.offset, ← sizeOf f.type)) : Sem (List (Nat × Nat))).run P w = .ok (fs.map fun f => (f.offset, P.cellsOf f.type)) w
  | [], _ => rfl
  | f :: fs, h => by
    simp only [List.all_cons, Bool.and_eq_true] at h
    have ih := run_places fs h.2
    simp only [List.mapM_cons, Sem.run_bind, run_sizeOf_info h.1, Result.andThen_ok, Sem.run_pure, ih, List.map_cons]

theorem zeroPV_sound {T : TypeId} {z : PV} (h : zeroPV P T = some z) : ∃ v, (zeroValue T).run P w = .ok v w ∧ PRep P w g (tyOf P T) z v ∧ ∃ i, P.info? T = some i ∧ i.zero = some v := by
  unfold zeroPV at h
  split at h
  · rename_i i hi
    split at h
    · rename_i v hv
      exact ⟨v, by simp [zeroValue, typeInfo, hi, hv], constAt_sound h, i, hi, hv⟩
    · cases h
  · cases h

theorem evQ_build (h : Good P N st a hv w g) {T : TypeId} {ps : Array (Nat × Operand)} (hop : o.op = .build T ps) (hok : opOk N o) (hk : evQ P call o st K = some r) (hpost : Then P st a w g K r o next) : o.wp P a w next Q := by
  simp only [evQ, hop] at hk
  have hx : ∀ p ∈ ps.toList, tmpOk N p.2 = true := fun p hp => hok p.2 (by
    simp only [hop, Op.operands, List.mem_toArray, List.mem_map]; exact ⟨p, hp, rfl⟩)
  split at hk
  · rename_i fs hu
    split at hk
    · rename_i z vs hz hvs
      obtain ⟨hc, hk⟩ := guardB_true hk
      simp only [Bool.and_eq_true] at hc
      obtain ⟨hT, hall⟩ := hc
      obtain ⟨zv, hzr, hzp, _⟩ := zeroPV_sound (w := w) (g := g) hz
      have hTs := isAggTy_st hT
      rw [hTs] at hzp
      obtain ⟨xs, cs, rfl, rfl, h1, h2, h3⟩ := hzp.st_inv
      obtain ⟨cs', hf, ht⟩ := parts_sound h (T := T) hx hvs ⟨h1, h2, fun j ty y c hty hy hc => h3 j ty y c hty hy (by simpa using hc)⟩
      refine pure_done h (v := .agg cs') ?_ ?_ hk hpost
      · have hpl : ((fs.mapM fun f => do pure (f.offset, ← sizeOf f.type)) : Sem (Array (Nat × Nat))).run P w = .ok (fs.map fun f => (f.offset, P.cellsOf f.type)) w := by
          rw [Array.mapM_eq_mapM_toList]
          simp only [Sem.run_map, run_places fs.toList hall, Result.andThen_ok]
          congr 1
          apply Array.ext'; simp
        have hpm : (ps.map fun x => (x.1, a.eval x.2)).toList = ps.toList.map fun p => (p.1, a.eval p.2) := by simp
        have : (Instr.build T (ps.map fun (i, x) => (i, a.eval x))).run P w = .ok (.agg cs') w := by
          simp only [Instr.build, Sem.run_bind, hzr, Result.andThen_ok, run_underlying hu, hpl, Value.cells, hpm, hf, Sem.run_pure]
        simp only [execOp, hop, Sem.run_bind, this, Result.andThen_ok, Sem.run_pure]
      · rw [hTs]
        obtain ⟨l⟩ := cs'
        exact .st T _ l ht.lx (by simpa using ht.lc) (fun j ty y c hty hy hc => ht.rep j ty y c hty hy (by simpa using hc))
    · cases hk
  · cases hk

/-- The ghosts behind a new block that belongs to slot d. -/
def G.newAt (g : G) (b : Nat) (d : Option Nat) (f : List Nat → Value) : G :=
  { tag := fun c => if c = b then (match d with | some d => .own d [] | none => .free) else g.tag c, val := (g.setVal d f).val }

theorem alloc_done (h : Good P N st a hv w g) {ob : Obj} {x : AO} {v : Value} (f : List Nat → Value) (hrun : (execOp a.eval o).run P w = .ok (.value v) (w.alloc ob)) (hv' : v = f [])
    (hx : ∀ d, ORep P (w.alloc ob) (g.newAt w.heap.size (some d) f) d [] x) (hk : K (.o x) = some r) (hpost : Then P st a w g K r o next) : o.wp P a w next Q := by
  unfold Oper.wp; rw [hrun]
  refine hpost (.o x) v (w.alloc ob) (g.newAt w.heap.size o.dst f) ?_ (fun i hi => ?_) hk
  · refine ⟨rfl, rfl, rfl, by simp, fun b hb => ⟨?_, heap_alloc_old w ob b hb⟩, fun s p hd => by simp [G.newAt, G.setVal, hd], fun b hb => ?_, fun b hb => ?_⟩
    · simp [G.newAt, Nat.ne_of_lt hb]
    · simp only [G.newAt]
      split
      · cases o.dst <;> simp
      · rw [h.inv.fresh b hb]; simp
    · simp only [World.size_alloc] at hb
      simp only [G.newAt]
      rw [if_neg (by omega)]
      exact h.inv.fresh b (by omega)
  · rw [hi]
    exact .o x v (fun _ => by simp [G.newAt, G.setVal, hv']) (hx i)

theorem PRep.alloc {t : Ty} {x : PV} {v : Value} (h : PRep P w g t x v) (ob : Obj) (d : Option Nat) (f : List Nat → Value) : PRep P (w.alloc ob) (g.newAt w.heap.size d f) t x v :=
  h.ext (by simp) (fun b hb ht => ⟨by simp [G.newAt, Nat.ne_of_lt hb, ht], heap_alloc_old w ob b hb⟩)

/-- A new variable's cell. -/
def CellRep (P : Program) (w : World) (g : G) (x : AO) (v : Value) : Prop :=
  x = .dead ∨ (∃ t y, x = .pv t y ∧ PRep P w g t y v) ∨ (∃ E, x = .arr E [] ∧ v = .slice none 0 0)

/-- The values in a new box. -/
def boxVal (b : Nat) (vs : List Value) : List Nat → Value
  | [] => .pointer (some ⟨b, 0, none⟩)
  | [i] => vs.getD i undef
  | _ => undef

theorem newBox {E : TypeId} {xs : List AO} {vs : List Value} (hl : vs.length = xs.length) (hc : ∀ (i : Nat) (x : AO) (v : Value), xs[i]? = some x → vs[i]? = some v → CellRep P w g x v) (d : Nat) :
    ORep P (w.alloc (.cells ⟨vs⟩ E)) (g.newAt w.heap.size (some d) (boxVal w.heap.size vs)) d [] (.box E xs) := by
  have hval : ∀ p, (g.newAt w.heap.size (some d) (boxVal w.heap.size vs)).val d p = boxVal w.heap.size vs p := fun p => by simp [G.newAt, G.setVal]
  refine .box [] E xs w.heap.size vs (by rw [hval]; rfl) (heap_alloc_new w _) (by simp [G.newAt]) hl (fun i x hx => ?_) (fun i x hx hd => ?_)
  · have hi := (List.getElem?_eq_some_iff.1 hx).1
    have hvi := List.getElem?_eq_getElem (show i < vs.length by omega)
    have hb : boxVal w.heap.size vs ([] ++ [i]) = vs[i] := by simp [boxVal, List.getD, hvi]
    rcases hc i x _ hx hvi with rfl | ⟨t, y, rfl, hp⟩ | ⟨E', rfl, hv⟩
    · exact .dead _
    · refine .pv _ t y ?_
      rw [hval, hb]; exact hp.alloc _ _ _
    · refine .narr _ E' ?_
      rw [hval, hb, hv]
  · have hi := (List.getElem?_eq_some_iff.1 hx).1
    have hvi := List.getElem?_eq_getElem (show i < vs.length by omega)
    have hb : boxVal w.heap.size vs ([] ++ [i]) = vs[i] := by simp [boxVal, List.getD, hvi]
    rw [hval, hb, hvi]

theorem freshCells_get : ∀ (ts : List Ty) (vs : List Value), ts.length = vs.length → (freshCells ts vs).length = vs.length ∧ ∀ (i : Nat) (t : Ty) (v : Value), ts[i]? = some t → vs[i]? = some v → (freshCells ts vs)[i]? = some (freshCell t v)
  | [], [], _ => ⟨rfl, fun i t v h => by simp at h⟩
  | [], _ :: _, h => by simp at h
  | _ :: _, [], h => by simp at h
  | t :: ts, v :: vs, h => by
    simp only [List.length_cons, Nat.add_right_cancel_iff] at h
    obtain ⟨h1, h2⟩ := freshCells_get ts vs h
    refine ⟨by simp [freshCells, h1], fun i t' v' ht hv => ?_⟩
    cases i with
    | zero => simp at ht hv; subst ht hv; rfl
    | succ i => simp at ht hv; simpa [freshCells] using h2 i t' v' ht hv

theorem freshCell_rep (t : Ty) (v : Value) : CellRep P w g (freshCell t v) v := by
  unfold freshCell
  split
  · rename_i E
    split
    · rename_i x hx; exact .inr (.inr ⟨E, rfl, (constPV_sl hx).1⟩)
    · exact .inl rfl
  · split
    · rename_i x hx; exact .inr (.inl ⟨_, _, rfl, constPV_sound hx⟩)
    · exact .inl rfl

theorem evQ_alloc (h : Good P N st a hv w g) {E : TypeId} (hop : o.op = .alloc E) (hk : evQ P call o st K = some r) (hpost : Then P st a w g K r o next) : o.wp P a w next Q := by
  simp only [evQ, hop] at hk
  split at hk
  · rename_i i hi
    split at hk
    · rename_i z hz
      obtain ⟨hc, hk⟩ := guardB_true hk
      have hsz := Nat.eq_of_beq_eq_true hc
      have hrun : (execOp a.eval o).run P w = .ok (.value (.pointer (some ⟨w.heap.size, 0, none⟩))) (w.alloc (.cells z.cells E)) := by
        have : (zeroValue E).run P w = .ok z w := by simp [zeroValue, typeInfo, hi, hz]
        simp only [execOp, hop, Sem.run_bind, Instr.alloc, this, Result.andThen_ok, newVar, newRow, run_newObj, Sem.run_pure]; rfl
      have hcs : z.cells = ⟨z.cells.toList⟩ := rfl
      rw [hcs] at hrun
      obtain ⟨f1, f2⟩ := freshCells_get (cellTys P deep E) z.cells.toList (by simpa using hsz.symm)
      refine alloc_done h (boxVal w.heap.size z.cells.toList) hrun rfl (fun d => newBox f1.symm (fun j x v hx hv => ?_) d) hk hpost
      have hj := (List.getElem?_eq_some_iff.1 hv).1
      have ht := List.getElem?_eq_getElem (show j < (cellTys P deep E).length by simp at hj; omega)
      rw [f2 j _ v ht hv] at hx
      cases hx
      exact freshCell_rep _ _
    · cases hk
  · cases hk

theorem pvCells_get : ∀ (ts : List Ty) (j : Nat) (v : PV), (pvCells ts j v).length = ts.length ∧ ∀ (i : Nat) (t : Ty), ts[i]? = some t → (pvCells ts j v)[i]? = some (.pv t (v.cell (j + i)))
  | [], j, v => ⟨rfl, fun i t h => by simp at h⟩
  | t :: ts, j, v => by
    obtain ⟨h1, h2⟩ := pvCells_get ts (j + 1) v
    refine ⟨by simp [pvCells, h1], fun i t' ht => ?_⟩
    cases i with
    | zero => simp at ht; subst ht; rfl
    | succ i => simp at ht; simp only [pvCells, List.getElem?_cons_succ]; rw [h2 i t' ht]; congr 2; congr 1; omega

theorem evQ_box (h : Good P N st a hv w g) {E : TypeId} {x : Operand} (hop : o.op = .box E x) (hok : opOk N o) (hk : evQ P call o st K = some r) (hpost : Then P st a w g K r o next) : o.wp P a w next Q := by
  simp only [evQ, hop] at hk
  have hx := hok x (by simp [hop, Op.operands])
  have hrun : (execOp a.eval o).run P w = .ok (.value (.pointer (some ⟨w.heap.size, 0, none⟩))) (w.alloc (.cells ⟨(a.eval x).cells.toList⟩ E)) := by
    simp only [execOp, hop, Sem.run_bind, Instr.box, newVar, newRow, run_newObj, Result.andThen_ok, Sem.run_pure]; rfl
  split at hk
  · rename_i v hv'
    have hp := h.rd hx hv'
    cases hA : isAggTy (tyOf P E) with
    | true =>
      simp only [hA, cond_true] at hk
      rw [isAggTy_st hA] at hp
      obtain ⟨xs, cs, rfl, hcs, h1, h2, h3⟩ := hp.st_inv
      rw [hcs] at hrun
      simp only [Value.cells] at hrun
      obtain ⟨p1, p2⟩ := pvCells_get (cellTys P deep E) 0 (.agg xs)
      refine alloc_done h (boxVal w.heap.size cs) hrun rfl (fun d => newBox (by rw [p1, h2]) (fun j y c hy hc => ?_) d) hk hpost
      have hj := (List.getElem?_eq_some_iff.1 hc).1
      have ht := List.getElem?_eq_getElem (show j < (cellTys P deep E).length by omega)
      rw [p2 j _ ht] at hy
      cases hy
      refine .inr (.inl ⟨_, _, rfl, h3 j _ _ _ ht ?_ hc⟩)
      rw [Nat.zero_add, cell_get, List.getElem?_eq_getElem (by omega)]; rfl
    | false =>
      simp only [hA, cond_false] at hk
      obtain ⟨hs, hk⟩ := guardB_true hk
      obtain ⟨hc, _⟩ := scalar_cells hs hp
      rw [hc] at hrun
      refine alloc_done h (boxVal w.heap.size [a.eval x]) hrun rfl (fun d => newBox (by simp) (fun j y c hy hc => ?_) d) hk hpost
      cases j with
      | zero => simp at hy hc; subst hy hc; exact .inr (.inl ⟨_, _, rfl, hp⟩)
      | succ j => simp at hy
  · cases hk

end
end Go.V
