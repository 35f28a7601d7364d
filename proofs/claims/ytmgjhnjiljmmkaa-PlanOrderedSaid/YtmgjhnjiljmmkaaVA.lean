/- An evaluator of the model's code over abstract values, and the first steps of its soundness: each operation of a code, met where the abstract state stands for the frame, does what the evaluator says. Conditions: those that each theorem names. (Names are short so that the claim keeps to its size.) -/
import Derived.Calls
import Derived.LoopN
import Derived.Orders
import Derived.CheckFast
import Derived.Below
import Derived.Laws.Rows
import Derived.Laws.AppendOwn
import Derived.Laws.Sem
import Derived.Laws.Entries
import Derived.Laws.Cells
import Derived.Laws.Small
import Derived.Laws.Slices
import Derived.Laws.StructEq
import Derived.Laws.Concat
import Derived.Lib.ConvBytes
import Derived.Laws.BytesArg
import Derived.Laws.MakeOwn
import Derived.Great.FillDense
set_option linter.unusedSimpArgs false
set_option linter.unusedVariables false
namespace Go.V
inductive PV where
 | int (k:IntKind) (n:Int)
 | bool (b:Bool)
 | str (s:ByteArray)
 | sl (l:List PV)
 | agg (cs:List PV)
 | M9 (v:Value)
 | Ql (t:TypeId) (v:PV)
 | ref (E:TypeId) (x:PV)
 | wN (f:FuncId) (gw:List PV)
 | mp (ks vs:List PV)
instance :Inhabited PV:=⟨.bool false⟩
namespace PV
def toInt:PV→Int | .int _ n=>n | _=>0
def toBool:PV→Bool | .bool b=>b | _=>false
def Sl:PV→Bool | .wN _ _=>true | _=>false
def Vu:PV→FuncId | .wN f _=>f | _=>0
def Qm:PV→List PV | .wN _ cs=>cs | _=>[]
def keys:PV→List PV | .mp ks _=>ks | _=>[]
def bw:PV→List PV | .mp _ vs=>vs | _=>[]
def toStr:PV→ByteArray | .str s=>s | _=>⟨#[]⟩
def toList:PV→List PV | .sl l=>l | _=>[]
def cells:PV→List PV | .agg cs=>cs | v=>[v]
def cell (v:PV) (j:Nat):PV:=v.cells.getD j default
end PV
inductive Ty where
 | int (k:IntKind) | bool | str | sl (e:TypeId) | st (t:TypeId) | ptr | iface | fn | mp (k e:TypeId) | no
 deriving DecidableEq
def Ty.eq:Ty→Ty→Bool
 | .int j, .int k=>decide (j=k)
 | .bool, .bool | .str, .str | .ptr, .ptr | .iface, .iface | .fn, .fn=>true
 | .sl a, .sl b | .st a, .st b=>Nat.beq a b
 | .mp a b, .mp c d=>Nat.beq a c&&Nat.beq b d
 | _,_=>false
theorem Ty.iH {a b:Ty} (h:a.eq b=true):a=b:=by
 cases a<;>cases b<;>simp_all [Ty.eq,Nat.beq_eq]
def ai (P:Program) (t:TypeId):Ty:=
 match P.underlying t with
 | some .bool=> .bool
 | some (.int k)=> .int k
 | some .string=> .str
 | some (.slice e)=> .sl e
 | some (.struct _)=> .st t
 | some (.array _ _)=> .st t
 | some (.pointer _)=> .ptr
 | some (.interface _)=> .iface
 | some (.func ..)=> .fn
 | some (.map k e)=> .mp k e
 | _=> .no
def ae (P:Program):Nat→TypeId→List Ty
 | 0,_=>[]
 | d+1,t=>
  match P.underlying t with
  | some (.struct fs)=>fs.toList.flatMap fun f=>ae P d f.type
  | some (.array n e)=>(List.replicate n (ae P d e)).flatten
  | _=>[ai P t]
def deep:Nat:=12
inductive AO where
 | pv (t:Ty) (v:PV)
 | box (E:TypeId) (cs:List AO)
 | arr (E:TypeId) (l:List PV)
 | own (E D:TypeId) (l:List PV) (h:Option Nat)
 | map (k e:TypeId) (ks vs:List PV)
 | dead
instance :Inhabited AO:=⟨.dead⟩
inductive ek where
 | pv (t:Ty) (v:PV)
 | al (s:Nat) (p:List Nat)
 | nil (E:TypeId)
def qx:ek→Bool | .al _ _=>false | _=>true
def fg:ek→PV | .pv _ v=>v | .nil _=> .sl [] | .al _ _=>default
def cw:List Ty→List ek→Bool
 | [],[]=>true
 | t::ts, .pv u _::cs=>u.eq t&&cw ts cs
 | t::ts, .nil E::cs=>(Ty.sl E).eq t&&cw ts cs
 | _::ts, .al _ _::cs=>cw ts cs
 | _,_=>false
inductive AV where
 | o (x:AO)
 | al (s:Nat) (p:List Nat)
 | ptr (s:Nat) (p:List Nat) (off:Nat)
 | el (s:Nat) (p:List Nat) (i off:Nat)
 | ip (E:TypeId) (x:PV) (off:Nat)
 | jg (vs:List AO)
 | lE (T:TypeId) (cs:List ek)
 | clip (E:TypeId) (l:List PV)
 | fix (v:Value)
 | dead
instance :Inhabited AV:=⟨.dead⟩
abbrev St:=List AV
def nth {α:Type} (d:α):List α→Nat→α
 | [],_=>d
 | x::_,0=>x
 | _::l,n+1=>nth d l n
def get (st:St) (t:Nat):AV:=nth .dead st t
def isHole:Option Nat→Nat→Bool
 | none,_=>false
 | some j,i=>Nat.beq j i
def AO.at:AO→List Nat→AO
 | x,[]=>x
 | .box _ cs,i::p=>(nth .dead cs i).at p
 | .own _ D l h,i::p=>bif isHole h i then .dead else(AO.arr D (nth default l i).toList).at p
 | _,_::_=> .dead
def uw (E D:TypeId) (l:List PV) (h:Option Nat) (i:Nat):AO→AO
 | .arr E' l'=>bif Nat.beq E' D then .own E D (l.set i (.sl l')) h else .dead
 | .dead=>(match h with | none=> .own E D l (some i) | some _=> .dead)
 | _=> .dead
def AO.fh (y:AO):AO→List Nat→AO
 | _,[]=>y
 | .box E cs,i::p=> .box E (cs.set i (AO.fh y (nth .dead cs i) p))
 | .own E D l h,i::p=>bif isHole h i then .own E D l h else uw E D l h i (AO.fh y (.arr D (nth default l i).toList) p)
 | x,_::_=>x
def AO.CU:AO→List Nat→Bool
 | _,[]=>true
 | .box _ cs,i::p=>(nth .dead cs i).CU p
 | .own _ D l _,i::p=>decide (i<l.length)&&(AO.arr D (nth default l i).toList).CU p
 | _,_::_=>true
def AO.iF:AO→Option (TypeId×Nat)
 | .arr E l=>some (E,l.length)
 | .own E _ l _=>some (E,l.length)
 | _=>none
def obj (st:St) (s:Nat) (p:List Nat):AO:=
 match get st s with
 | .o x=>x.at p
 | _=> .dead
def gx (st:St) (s:Nat) (p:List Nat):Bool:=
 match get st s with
 | .o x=>x.CU p
 | _=>true
def setObj (st:St) (s:Nat) (p:List Nat) (y:AO):St:=
 match get st s with
 | .o x=>st.set s (.o (AO.fh y x p))
 | _=>st
def pre:List Nat→List Nat→Bool
 | [],_=>true
 | _::_,[]=>false
 | x::p,y::q=>Nat.beq x y&&pre p q
def ek.ar (s:Nat) (p:List Nat):ek→Bool
 | .al s' q=>Nat.beq s s'&&pre p q
 | _=>false
def AV.ar (s:Nat) (p:List Nat):AV→Bool
 | .al s' q | .ptr s' q _ | .el s' q _ _=>Nat.beq s s'&&pre p q
 | .lE _ cs=>cs.any fun c=>c.ar s p
 | _=>false
def AV.below (s:Nat) (p:List Nat):AV→Bool
 | .al s' q | .ptr s' q _=>Nat.beq s s'&&pre p q&& !pre q p
 | .el s' q _ _=>Nat.beq s s'&&pre p q
 | .lE _ cs=>cs.any fun c=>c.ar s p
 | _=>false
def kill (s:Nat) (p:List Nat) (st:St):St:=st.map fun v=>bif v.ar s p then .dead else v
def jk (s:Nat) (p:List Nat) (st:St):St:=st.map fun v=>bif v.below s p then .dead else v
def ek.bQ (s:Nat) (p:List Nat) (d:Nat) (q:List Nat):ek→ek
 | .al s' r=>bif Nat.beq s s'&&pre p r then .al d (q++r.drop p.length)else .al s' r
 | c=>c
def AV.bQ (s:Nat) (p:List Nat) (d:Nat) (q:List Nat):AV→AV
 | .al s' r=>bif Nat.beq s s'&&pre p r then .al d (q++r.drop p.length)else .al s' r
 | .ptr s' r off=>bif Nat.beq s s'&&pre p r then .ptr d (q++r.drop p.length) off else .ptr s' r off
 | .el s' r i off=>bif Nat.beq s s'&&pre p r then .el d (q++r.drop p.length) i off else .el s' r i off
 | .lE T cs=> .lE T (cs.map (ek.bQ s p d q))
 | v=>v
def put (d:Nat) (v:AV) (st:St):St:=(kill d [] st).set d v
def gy (d:Option Nat) (v:AV) (st:St):St:=
 match d with
 | some d=>put d v st
 | none=>st
def gj (t:Ty):Value→Option PV
 | .int k n=>(match t with | .int j=>bif decide (j=k)then some (.int k n)else none | _=>none)
 | .bool b=>(match t with | .bool=>some (.bool b) | _=>none)
 | .string s=>(match t with | .str=>some (.str s) | _=>none)
 | .slice a n c=>(match a,n,c with
  | none,0,0=>(match t with | .sl _=>some (.sl []) | _=>none)
  | _,_,_=>none)
 | .pointer none=>(match t with | .ptr=>some (.M9 (.pointer none)) | _=>none)
 | .nilIface=>(match t with | .iface=>some (.M9 .nilIface) | _=>none)
 | .nilFunc=>(match t with | .fn=>some (.M9 .nilFunc) | _=>none)
 | .map none=>(match t with | .mp _ _=>some (.M9 (.map none)) | _=>none)
 | _=>none
def dP:List Ty→List Value→Option (List PV)
 | [],[]=>some []
 | t::ts,v::vs=>
  match gj t v with
  | some x=>match dP ts vs with | some xs=>some (x::xs) | none=>none
  | none=>none
 | _,_=>none
def mJ (P:Program) (t:TypeId) (v:Value):Option PV:=
 match ai P t with
 | .st _=>(match v with | .agg cs=>(match dP (ae P deep t) cs.toList with | some xs=>some (.agg xs) | none=>none) | _=>none)
 | ty=>gj ty v
def qy (P:Program) (t:TypeId) (v:Value):AV:=
 match ai P t with
 | .sl E=>(match gj (.sl E) v with | some _=> .o (.arr E []) | none=> .dead)
 | ty=>match mJ P t v with | some x=> .o (.pv ty x) | none=> .dead
def o4 (t:Ty) (v:Value):AO:=
 match t with
 | .sl E=>(match gj (.sl E) v with | some _=> .arr E [] | none=> .dead)
 | ty=>match gj ty v with | some x=> .pv ty x | none=> .dead
def jl:List Ty→List Value→List AO
 | t::ts,v::vs=>o4 t v::jl ts vs
 | _,_=>[]
def AO.gK (t:Ty):AO→Option PV
 | .pv u v=>bif u.eq t then some v else none
 | _=>none
def AO.elems (E:TypeId):AO→Option (List PV)
 | .pv u v=>bif u.eq (.sl E)then some v.toList else none
 | .arr E' l=>bif Nat.beq E' E then some l else none
 | _=>none
def AV.elems (st:St) (E:TypeId):AV→Option (List PV)
 | .o x=>x.elems E
 | .al s p=>(obj st s p).elems E
 | .clip E' l=>bif Nat.beq E' E then some l else none
 | _=>none
def AV.gK (st:St) (t:Ty):AV→Option PV
 | .o x=>x.gK t
 | .al s p=>(obj st s p).gK t
 | .clip E l=>bif (Ty.sl E).eq t then some (.sl l)else none
 | .lE T cs=>bif (Ty.st T).eq t&&cs.all qx then some (.agg (cs.map fg))else none
 | _=>none
def rd (P:Program) (st:St) (t:TypeId) (x:Operand):Option PV:=
 match x with
 | .tmp i=>(get st i).gK st (ai P t)
 | .const v=>mJ P t v
 | .func f=>(match ai P t with | .fn=>some (.wN f []) | _=>none)
 | _=>none
def fH (st:St) (E:TypeId) (x:Operand):Option (List PV):=
 match x with
 | .tmp i=>(get st i).elems st E
 | .const (.slice none 0 0)=>some []
 | _=>none
def ck (st:St) (x:Operand):Option PV:=
 match x with
 | .tmp i=>match get st i with
  | .o (.pv (.int _) v)=>some v
  | .al s p=>match obj st s p with | .pv (.int _) v=>some v | _=>none
  | _=>none
 | .const (.int k n)=>some (.int k n)
 | _=>none
def AV.pure (st:St):AV→Bool
 | .o (.pv _ _)=>true
 | .al s p=>match obj st s p with | .pv _ _=>true | _=>false
 | .clip _ _=>true
 | .lE _ cs=>cs.all qx
 | _=>false
def JA (st:St) (x:Operand):Bool:=
 match x with
 | .tmp i=>(get st i).pure st
 | .const _=>true
 | _=>false
def cV (st:St) (x:Operand):Option (Nat×List Nat):=
 match x with
 | .tmp t=>match get st t with
  | .o (.box _ _)=>some (t,[])
  | .o (.arr _ _)=>some (t,[])
  | .o (.own _ _ _ _)=>some (t,[])
  | .o (.map _ _ _ _)=>some (t,[])
  | .al s p=>match obj st s p with
   | .box _ _=>some (s,p)
   | .arr _ _=>some (s,p)
   | .own _ _ _ _=>some (s,p)
   | .map _ _ _ _=>some (s,p)
   | _=>none
  | _=>none
 | _=>none
def de (st:St) (x:Operand):Option (Nat×List Nat×Nat):=
 match x with
 | .tmp t=>match get st t with
  | .o (.box _ _)=>some (t,[],0)
  | .al s p=>match obj st s p with | .box _ _=>some (s,p,0) | _=>none
  | .ptr s p off=>some (s,p,off)
  | _=>none
 | _=>none
def lR (st:St):AV→Option (TypeId×PV×Nat)
 | .ip E x off=>some (E,x,off)
 | .o (.pv .ptr (.ref E x))=>some (E,x,0)
 | .al s p=>(match obj st s p with | .pv .ptr (.ref E x)=>some (E,x,0) | _=>none)
 | _=>none
def aO:Ty→Bool | .st _=>true | _=>false
def fD:List Ty→List AO→Option (List PV)
 | [],_=>some []
 | t::ts,x::xs=>
  match x with
  | .pv u v=>bif u.eq t then(match fD ts xs with | some vs=>some (v::vs) | none=>none)else none
  | _=>none
 | _::_,[]=>none
def AO.frozen:AO→AO
 | .arr E l=> .pv (.sl E) (.sl l)
 | .own E _ l none=> .pv (.sl E) (.sl l)
 | .map k e ks vs=> .pv (.mp k e) (.mp ks vs)
 | x=>x
def AO.jh:AO→Bool
 | .arr _ _ | .own _ _ _ none=>true
 | _=>false
def AO.pA:AO→Bool
 | .map _ _ _ _=>true
 | _=>false
def C2 (n:Nat):Nat→List AO→Bool
 | _,[]=>false
 | 0,x::xs=>match n with | 0=>false | n+1=>(x.jh|| x.pA)|| C2 n 0 xs
 | off+1,_::xs=>C2 n off xs
def bR (st:St) (s:Nat) (p:List Nat):St:=setObj st s p (obj st s p).frozen
def Fo:ek→List Nat
 | .al s _=>[s]
 | _=>[]
def aP (st:St) (x:Operand):List Nat:=
 match x with
 | .tmp t=>t::(match get st t with | .al s _ | .ptr s _ _ | .el s _ _ _=>[s] | .lE _ cs=>cs.flatMap Fo | _=>[])
 | _=>[]
def lS (d:Nat) (st:St):Bool:=st.any fun v=>v.ar d []
abbrev R:=Option (List AO×List AO)
abbrev aw:=FuncId→List AO→Option (List AO×List AO)
def Qo {α:Type} (b:Bool) (x:Option α):Option α:=bif b then x else none
def room:Nat:=140737488355328
def nS {α:Type} (op:BinOp) (k:IntKind) (x y:Int) (K:AV→Option α):Option α:=
 match op with
 | .add=>K (.o (.pv (.int k) (.int k (k.wrap (x+y)))))
 | .sub=>K (.o (.pv (.int k) (.int k (k.wrap (x-y)))))
 | .mul=>K (.o (.pv (.int k) (.int k (k.wrap (x*y)))))
 | .quo=>bif decide (y=0)then none else K (.o (.pv (.int k) (.int k (k.wrap (x.tdiv y)))))
 | .rem=>bif decide (y=0)then none else K (.o (.pv (.int k) (.int k (x.tmod y))))
 | .and=>K (.o (.pv (.int k) (.int k (k.wrap (BitVec.ofInt k.bits x&&& BitVec.ofInt k.bits y).toNat))))
 | .or=>K (.o (.pv (.int k) (.int k (k.wrap (BitVec.ofInt k.bits x||| BitVec.ofInt k.bits y).toNat))))
 | .xor=>K (.o (.pv (.int k) (.int k (k.wrap (BitVec.ofInt k.bits x ^^^ BitVec.ofInt k.bits y).toNat))))
 | .andNot=>K (.o (.pv (.int k) (.int k (k.wrap (BitVec.ofInt k.bits x&&& ~~~ BitVec.ofInt k.bits y).toNat))))
 | .eql=>K (.o (.pv .bool (.bool (decide (x=y)))))
 | .neq=>K (.o (.pv .bool (.bool (!decide (x=y)))))
 | .lss=>K (.o (.pv .bool (.bool (decide (x<y)))))
 | .leq=>K (.o (.pv .bool (.bool (decide (x≤y)))))
 | .gtr=>K (.o (.pv .bool (.bool (decide (y<x)))))
 | .geq=>K (.o (.pv .bool (.bool (decide (y≤x)))))
 | _=>none
def nT {α:Type} (op:BinOp) (x y:ByteArray) (K:AV→Option α):Option α:=
 match op with
 | .add=>bif decide (x.size+y.size≤9223372036854775807)then K (.o (.pv .str (.str (x++y))))else none
 | .eql=>K (.o (.pv .bool (.bool (x.data.toList==y.data.toList))))
 | .neq=>K (.o (.pv .bool (.bool (!(x.data.toList==y.data.toList)))))
 | .lss=>K (.o (.pv .bool (.bool (Op.bytesLess x.data.toList y.data.toList))))
 | .leq=>K (.o (.pv .bool (.bool (Op.bytesLess x.data.toList y.data.toList|| x.data.toList==y.data.toList))))
 | .gtr=>K (.o (.pv .bool (.bool (!(Op.bytesLess x.data.toList y.data.toList|| x.data.toList==y.data.toList)))))
 | .geq=>K (.o (.pv .bool (.bool (!Op.bytesLess x.data.toList y.data.toList))))
 | _=>none
def bA:Ty→Bool | .st _=>false | .no=>false | _=>true
def lF:List Ty→List Ty→Bool
 | [],_=>true
 | _::_,[]=>false
 | t::ts,u::us=>t.eq u&&lF ts us
def bB (x:PV) (off n:Nat):List PV:=(List.range n).map fun j=>x.cell (off+j)
def qz (P:Program) (E T:TypeId) (x:PV) (off:Nat):Option PV:=
 bif aO (ai P E)then
  (
   bif Nat.beq (P.cellsOf E) (ae P deep E).length then
   (
    bif aO (ai P T)then
    (
     bif Nat.beq (P.cellsOf T) (ae P deep T).length then
     (
      bif Nat.beq off 0&&Nat.beq T E then some x
      else bif lF (ae P deep T) ((ae P deep E).drop off)then some (.agg (bB x off (ae P deep T).length))else none)
     else none)
    else bif decide (off<(ae P deep E).length)&&((nth .no (ae P deep E) off).eq (ai P T)&&bA (ai P T))then some (x.cell off)else none)
   else none)
 else bif Nat.beq off 0&&(Nat.beq (P.cellsOf E) 1&&((ai P E).eq (ai P T)&&bA (ai P T)))then some x else none
def JB (P:Program) (go:TypeId→PV→PV→Option Bool) (t:TypeId) (x y:PV):List Field→Option Bool
 | []=>some true
 | f::fs=>
  bif decide (f.name= "_")then none else
  match qz P t f.type x f.offset,qz P t f.type y f.offset with
  | some a,some b=>
   match go f.type a b with
   | some e=>match fs with
    | []=>some e
    | _=>match JB P go t x y fs with
     | some e'=>some (e&&e')
     | none=>none
   | none=>none
  | _,_=>none
def C3 (P:Program):Nat→TypeId→PV→PV→Option Bool
 | 0,_,_,_=>none
 | d+1,t,x,y=>
  match P.underlying t with
  | some (.int _)=>some (decide (x.toInt=y.toInt))
  | some .bool=>some (x.toBool==y.toBool)
  | some .string=>some (x.toStr.data.toList==y.toStr.data.toList)
  | some (.struct fs)=>bif P.stoodInHeld t then none else JB P (C3 P d) t x y fs.toList
  | _=>none
def AL {α:Type} (P:Program) (op:BinOp) (t:TypeId) (st:St) (x y:Operand) (K:AV→Option α):Option α:=
 match op with
 | .shl=>
  match ai P t,rd P st t x,ck st y with
  | .int k,some a,some b=>bif decide (b.toInt<0)then none else K (.o (.pv (.int k) (.int k (k.wrap (a.toInt*2 ^ min b.toInt.toNat k.bits)))))
  | _,_,_=>none
 | .shr=>
  match ai P t,rd P st t x,ck st y with
  | .int k,some a,some b=>bif decide (b.toInt<0)then none else K (.o (.pv (.int k) (.int k (a.toInt.fdiv (2 ^ min b.toInt.toNat k.bits)))))
  | _,_,_=>none
 | _=>
  match rd P st t x,rd P st t y with
  | some a,some b=>
   match ai P t with
   | .int k=>nS op k a.toInt b.toInt K
   | .str=>nT op a.toStr b.toStr K
   | .bool=>
    match op with
    | .eql=>K (.o (.pv .bool (.bool (a.toBool==b.toBool))))
    | .neq=>K (.o (.pv .bool (.bool (!(a.toBool==b.toBool)))))
    | _=>none
   | .st _=>
    match(bif P.eqGuardType P.depth t then none else C3 P deep t a b)with
    | some e=>
     match op with
     | .eql=>K (.o (.pv .bool (.bool e)))
     | .neq=>K (.o (.pv .bool (.bool (!e))))
     | _=>none
    | none=>none
   | _=>none
  | _,_=>none
def Qp {α:Type} (P:Program) (op:UnOp) (t:TypeId) (st:St) (x:Operand) (K:AV→Option α):Option α:=
 match rd P st t x with
 | some a=>
  match op,ai P t with
  | .neg, .int k=>K (.o (.pv (.int k) (.int k (k.wrap (0-a.toInt)))))
  | .xor, .int k=>K (.o (.pv (.int k) (.int k (k.wrap (BitVec.ofInt k.bits (if k.signed then-1 else k.max) ^^^ BitVec.ofInt k.bits a.toInt).toNat))))
  | .not, .bool=>K (.o (.pv .bool (.bool (!a.toBool))))
  | _,_=>none
 | none=>none
def rO {α:Type} (P:Program) (t:TypeId) (st:St) (x:Operand) (K:AV→Option α):Option α:=
 match x with
 | .tmp i=>match get st i with
  | .o (.pv t v)=>K (.o (.pv t v))
  | .o _=>K (.al i [])
  | v=>K v
 | .const v=>K (qy P t v)
 | _=>none
def parts (P:Program) (st:St) (T:TypeId) (fs:List Field):List (Nat×Operand)→Option (List (Nat×List PV))
 | []=>some []
 | (i,x)::r=>
  match fs[i]? with
  | some f=>
   match rd P st f.type x,parts P st T fs r with
   | some v,some vs=>
    bif Nat.beq (P.cellsOf f.type) (ae P deep f.type).length&&(lF (ae P deep f.type) ((ae P deep T).drop f.offset)&&((aO (ai P f.type)|| bA (ai P f.type))&&decide (0<P.cellsOf f.type)))then
     some ((f.offset,bif aO (ai P f.type)then bB v 0 (ae P deep f.type).length else [v])::vs)
    else none
   | _,_=>none
  | none=>none
def setCells:List PV→Nat→List PV→List PV
 | cs,_,[]=>cs
 | cs,off,v::vs=>setCells (cs.set off v) (off+1) vs
def eo (cs:List PV):List (Nat×List PV)→List PV
 | []=>cs
 | (off,vs)::r=>eo (setCells cs off vs) r
def fI (P:Program) (T:TypeId) (v:PV):List PV:=bif aO (ai P T)then bB v 0 (ae P deep T).length else [v]
def kH (P:Program) (t:TypeId):Option PV:=
 match P.info? t with
 | some i=>match i.zero with | some v=>mJ P t v | none=>none
 | none=>none
def jK:List Ty→Nat→PV→List AO
 | [],_,_=>[]
 | t::ts,j,v=> .pv t (v.cell j)::jK ts (j+1) v
def pV (P:Program) (t:TypeId):Bool:=
 match P.info? t with
 | some i=>(match i.zero with | some v=>Nat.beq v.cells.size i.size | none=>false)
 | none=>false
def sN:Ty→Bool | .int _ | .bool | .str=>true | _=>false
def lT:Ty→PV→PV→Bool
 | .int _,a,b=>decide (a.toInt=b.toInt)
 | .bool,a,b=>a.toBool==b.toBool
 | _,a,b=>a.toStr.data.toList==b.toStr.data.toList
def cI (t:Ty) (k:PV):List PV→List PV→Option PV
 | x::ks,v::vs=>bif lT t k x then some v else cI t k ks vs
 | _,_=>none
def mapIdx (t:Ty) (k:PV):List PV→Nat→Option Nat
 | x::ks,i=>bif lT t k x then some i else mapIdx t k ks (i+1)
 | [],_=>none
def ke (t:Ty) (k:PV) (ks:List PV):List PV:=match mapIdx t k ks 0 with | some i=>ks.set i k | none=>ks++[k]
def kf (t:Ty) (k v:PV) (ks vs:List PV):List PV:=match mapIdx t k ks 0 with | some i=>vs.set i v | none=>vs++[v]
def nU (st:St) (k e:TypeId) (x:Operand):Option (List PV×List PV):=
 match x with
 | .tmp i=>
  match get st i with
  | .o (.map k' e' ks vs)=>bif Nat.beq k k'&&Nat.beq e e' then some (ks,vs)else none
  | .o (.pv (.mp k' e') v)=>bif Nat.beq k k'&&Nat.beq e e' then some (v.keys,v.bw)else none
  | .al s p=>
   match obj st s p with
   | .map k' e' ks vs=>bif Nat.beq k k'&&Nat.beq e e' then some (ks,vs)else none
   | .pv (.mp k' e') v=>bif Nat.beq k k'&&Nat.beq e e' then some (v.keys,v.bw)else none
   | _=>none
  | _=>none
 | _=>none
def nameOf (st:St) (x:Operand):Option (Nat×List Nat):=
 match cV st x with
 | some (s,p)=>(match obj st s p with | .own _ _ _ none=>some (s,p) | .map _ _ _ _=>some (s,p) | _=>none)
 | none=>none
def kg (st:St) (ps:List (Nat×Operand)):Bool:=ps.any fun q=>(nameOf st q.2).isSome
def jm:List Ty→List PV→List ek
 | t::ts,v::vs=> .pv t v::jm ts vs
 | _,_=>[]
def ny:List Ty→List PV→List ek
 | t::ts,v::vs=>(match t with | .sl E=> .nil E | _=> .pv t v)::ny ts vs
 | _,_=>[]
def Qq:Ty→Bool | .sl _=>true | _=>false
def Fp (P:Program) (fs:List Field) (ps:List (Nat×Operand)):Bool:=
 (fs.zipIdx).any fun q=>(ae P deep q.1.type).any Qq&& !ps.any fun p=>Nat.beq p.1 q.2
def kX:List ek→Nat→List ek→List ek
 | cs,_,[]=>cs
 | cs,off,v::vs=>kX (cs.set off v) (off+1) vs
def df (P:Program) (st:St) (fs:List Field) (cs:List ek):List (Nat×Operand)→Option (List ek)
 | []=>some cs
 | (i,x)::r=>
  match fs[i]? with
  | some f=>
   match nameOf st x with
   | some (s,p)=>bif Nat.beq (P.cellsOf f.type) 1&&decide (f.offset<cs.length)then df P st fs (cs.set f.offset (.al s p)) r else none
   | none=>
    match rd P st f.type x with
    | some v=>bif Nat.beq (P.cellsOf f.type) (ae P deep f.type).length&&((aO (ai P f.type)|| bA (ai P f.type))&&decide (f.offset+(ae P deep f.type).length≤cs.length))then df P st fs (kX cs f.offset (jm (ae P deep f.type) (fI P f.type v))) r else none
    | none=>none
  | none=>none
def ab (t:Ty):Option (List AO×List AO)→Bool
 | some ([.pv u _],_)=>u.eq t
 | _=>false
def aa:Option (List AO×List AO)→PV
 | some ([.pv _ v],_)=>v
 | _=>default
def fU (E:TypeId):Option (List AO×List AO)→Bool
 | some ([.arr E' _],_)=>Nat.beq E' E
 | _=>false
def cB:Option (List AO×List AO)→List PV
 | some ([.arr _ l],_)=>l
 | _=>[]
def nV:List Ty→List AO→Bool
 | [],[]=>true
 | t::ts, .pv u _::xs=>u.eq t&&nV ts xs
 | _,_=>false
def cc (ts:List Ty):Option (List AO×List AO)→Bool
 | some (xs,_)=>nV ts xs
 | none=>false
def ux:AO→PV
 | .pv _ v=>v
 | _=>default
def bk (i:Nat):Option (List AO×List AO)→PV
 | some (xs,_)=>ux (nth .dead xs i)
 | none=>default
def Fq (c:Option (List AO×List AO)):List Ty→Nat→List AO
 | [],_=>[]
 | t::ts,i=> .pv t (bk i c)::Fq c ts (i+1)
def yt {α:Type} (P:Program) (T:TypeId) (c:Option (List AO×List AO)) (K:AV→Option α):Option α:=
 match P.underlying T with
 | some (.tuple ts)=>bif !Nat.beq ts.size 1&&cc (ts.toList.map (ai P)) c then K (.jg (Fq c (ts.toList.map (ai P)) 0))else none
 | some (.slice E)=>bif ab (.sl E) c then K (.o (.pv (.sl E) (aa c)))else bif fU E c then K (.o (.arr E (cB c)))else none
 | some (.pointer _)=>c.bind fun r=>match r.1 with | [x]=>K (.o x) | _=>none
 | _=>bif ab (ai P T) c then K (.o (.pv (ai P T) (aa c)))else none
def Ft (st:St):Operand→Option PV
 | .tmp i=>(get st i).gK st .ptr
 | _=>none
def qC {α:Type} (P:Program) (call:aw) (c:Call) (T:TypeId) (st:St) (fo:Operand) (K:AV→Option α):Option α:=
 match fo with
 | .func f=>
  match(c.args.toList.zip c.argTypes.toList).mapM (fun p=>(rd P st p.2 p.1).map fun v=>AO.pv (ai P p.2) v)with
  | some as=>bif Nat.beq as.length c.args.size then yt P T (call f as) K else none
  | none=>none
 | .tmp t=>
  match(get st t).gK st .fn with
  | some x=>
   bif x.Sl then
    match(c.args.toList.zip c.argTypes.toList).mapM (fun p=>(rd P st p.2 p.1).map fun v=>AO.pv (ai P p.2) v)with
    | some as=>bif Nat.beq as.length c.args.size then yt P T (call x.Vu (as++x.Qm.map (AO.pv .ptr))) K else none
    | none=>none
   else none
  | none=>none
 | _=>none
def dX {α:Type} (P:Program) (call:aw) (o:Oper) (st:St) (K:AV→Option α):Option α:=
 match o.op with
 | .move x | .assign x=>rO P o.type st x K
 | .pick c a b=>
  match c with
  | .tmp i=>
   match(get st i).gK st .bool with
   | some d=>
    bif d.toBool then(match rd P st o.type a with | some x=>K (.o (.pv (ai P o.type) x)) | none=>none)
    else(match rd P st o.type b with | some x=>K (.o (.pv (ai P o.type) x)) | none=>none)
   | none=>none
  | _=>none
 | .alloc E=>
  match P.info? E with
  | some i=>match i.zero with
   | some z=>bif Nat.beq z.cells.size (ae P deep E).length then K (.o (.box E (jl (ae P deep E) z.cells.toList)))else none
   | none=>none
  | none=>none
 | .box E x=>
  match rd P st E x with
  | some v=>
   bif aO (ai P E)then K (.o (.box E (jK (ae P deep E) 0 v)))
   else bif bA (ai P E)then K (.o (.box E [.pv (ai P E) v]))else none
  | none=>none
 | .load T addr=>
  match addr with
  | .tmp i=>match lR st (get st i)with
   | some (E,x,off)=>(match qz P E T x off with | some y=>K (.o (.pv (ai P T) y)) | none=>none)
   | none=>
    match de st addr with
    | some (s,p,off)=>
     match obj st s p with
     | .box _ cs=>
      bif aO (ai P T)then
       (
        bif Nat.beq (P.cellsOf T) (ae P deep T).length then
        (
         match fD (ae P deep T) (cs.drop off)with
         | some vs=>K (.o (.pv (ai P T) (.agg vs)))
         | none=>none)
        else none)
      else bif bA (ai P T)then
       (
        match nth .dead cs off with
        | .pv t v=>bif t.eq (ai P T)then K (.o (.pv t v))else none
        | .arr E _=>bif (Ty.sl E).eq (ai P T)then K (.al s (p++[off]))else none
        | .own E _ _ _=>bif (Ty.sl E).eq (ai P T)then K (.al s (p++[off]))else none
        | .map k e _ _=>bif (Ty.mp k e).eq (ai P T)then K (.al s (p++[off]))else none
        | .box _ _=>K (.al s (p++[off]))
        | .dead=>none)
      else none
     | _=>none
    | none=>match get st i with
     | .el s p j off=>
      match obj st s p with
      | .arr E l=>(match qz P E T (nth default l j) off with | some y=>K (.o (.pv (ai P T) y)) | none=>none)
      | .own _ D _ none=>bif (Ty.sl D).eq (ai P T)&&Nat.beq off 0 then K (.al s (p++[j]))else none
      | _=>none
     | _=>none
  | _=>none
 | .nilCheck x=>
  match x with
  | .tmp i=>match get st i with
   | .o (.box _ _)=>K (.al i [])
   | .al s p=>(match obj st s p with | .box _ _=>K (.al s p) | .pv .ptr (.ref E x)=>K (.ip E x 0) | _=>none)
   | .ptr s p off=>(match obj st s p with | .box _ _=>K (.ptr s p off) | _=>none)
   | .el s p j off=>(match(obj st s p).iF with | some _=>K (.el s p j off) | none=>none)
   | .ip E x off=>K (.ip E x off)
   | .o (.pv .ptr (.ref E x))=>K (.ip E x 0)
   | _=>none
  | _=>none
 | .binOp op t x y _=>AL P op t st x y K
 | .unOp op t x=>Qp P op t st x K
 | .convert src dst x=>
  match ai P src,ai P dst with
  | .int _, .int k=>(match rd P st src x with | some a=>K (.o (.pv (.int k) (.int k (k.wrap a.toInt)))) | none=>none)
  | .str, .str=>(match rd P st src x with | some a=>K (.o (.pv .str a)) | none=>none)
  | .str, .sl e=>
   match ai P e,rd P st src x with
   | .int .u8,some a=>bif Nat.beq (P.cellsOf e) 1 then K (.o (.pv (.sl e) (.sl (a.toStr.data.toList.map fun b=> .int .u8 b.toNat))))else none
   | _,_=>none
  | .sl e, .str=>
   match ai P e,fH st e x with
   | .int .u8,some l=>bif Nat.beq (P.cellsOf e) 1 then K (.o (.pv .str (.str ⟨(l.map fun c=>UInt8.ofNat c.toInt.toNat).toArray⟩)))else none
   | _,_=>none
  | _,_=>none
 | .makeInterface t x=>
  match rd P st t x with
  | some v=>match ai P t with
   | .iface=>none
   | _=>K (.o (.pv .iface (.Ql t v)))
  | none=>none
 | .fieldAddr T x f=>
  match P.underlying T with
  | some (.struct fs)=>
   match fs[f]? with
   | some fd=>
    bif Nat.beq (P.cellsOf fd.type) 0 then none else
    (
     match de st x with
     | some (s,p,off)=>(match obj st s p with | .box _ _=>K (.ptr s p (off+fd.offset)) | _=>none)
     | none=>match x with
      | .tmp i=>match lR st (get st i)with
       | some (E,v,off)=>K (.ip E v (off+fd.offset))
       | none=>match get st i with
        | .el s p j off=>(match(obj st s p).iF with | some _=>K (.el s p j (off+fd.offset)) | none=>none)
        | _=>none
      | _=>none)
   | none=>none
  | _=>none
 | .field T x f=>
  match P.underlying T with
  | some (.struct fs)=>
   match fs[f]?,rd P st T x with
   | some fd,some v=>(match qz P T fd.type v fd.offset with | some y=>K (.o (.pv (ai P fd.type) y)) | none=>none)
   | _,_=>none
  | _=>none
 | .indexAddr T x ix=>
  match ai P T,ck st ix with
  | .sl E,some n=>
   match cV st x with
   | some (s,p)=>
    match(obj st s p).iF with
    | some (E',m)=>bif Nat.beq E E'&&(decide (0≤n.toInt)&&decide (n.toInt<m))then K (.el s p n.toInt.toNat 0)else none
    | none=>none
   | none=>
    match rd P st T x with
    | some v=>bif decide (0≤n.toInt)&&decide (n.toInt<v.toList.length)then K (.ip E (nth default v.toList n.toInt.toNat) 0)else none
    | none=>none
  | .st _,some n=>
   match P.underlying T with
   | some (.array m e)=>
    bif (P.info? e).isSome&&(decide (0<P.cellsOf e)&&(decide (0≤n.toInt)&&decide (n.toInt<m)))then
     (
      match de st x with
      | some (s,p,off)=>(match obj st s p with | .box _ _=>K (.ptr s p (off+n.toInt.toNat*P.cellsOf e)) | _=>none)
      | none=>match x with
       | .tmp i=>(match lR st (get st i)with | some (E,v,off)=>K (.ip E v (off+n.toInt.toNat*P.cellsOf e)) | none=>none)
       | _=>none)
    else none
   | _=>none
  | _,_=>none
 | .index T x ix=>
  match ai P T,rd P st T x,ck st ix with
  | .str,some v,some n=>
   bif decide (0≤n.toInt)&&decide (n.toInt<v.toStr.size)then K (.o (.pv (.int .u8) (.int .u8 (nth 0 v.toStr.data.toList n.toInt.toNat).toNat)))else none
  | _,_,_=>none
 | .slice T x lo hi mx=>
  match mx with
  | some y=>
   match ai P T,(match lo with | some y=>ck st y | none=>some (.int .i64 0)),rd P st T x,(match hi with | some y=>ck st y | none=>none),ck st y with
   | .sl E,some l,some v,some h,some m=>
    bif (P.info? E).isSome&&(decide (0≤l.toInt)&&(decide (l.toInt≤h.toInt)&&(decide (h.toInt≤v.toList.length)&&decide (m.toInt=h.toInt))))then
     K (.clip E ((v.toList.take h.toInt.toNat).drop l.toInt.toNat))else none
   | _,_,_,_,_=>none
  | none=>
   match(match lo with | some y=>ck st y | none=>some (.int .i64 0)),rd P st T x with
   | some l,some v=>
    match ai P T with
    | .str=>
     match(match hi with | some y=>ck st y | none=>some (.int .i64 v.toStr.size))with
     | some h=>bif decide (0≤l.toInt)&&(decide (l.toInt≤h.toInt)&&decide (h.toInt≤v.toStr.size))then
       K (.o (.pv .str (.str (v.toStr.extract l.toInt.toNat h.toInt.toNat))))else none
     | none=>none
    | .sl E=>
     (match(match hi with | some y=>ck st y | none=>some (.int .i64 v.toList.length))with
       | some h=>bif (P.info? E).isSome&&(decide (0≤l.toInt)&&(decide (l.toInt≤h.toInt)&&decide (h.toInt≤v.toList.length)))then
         K (.o (.pv (.sl E) (.sl ((v.toList.take h.toInt.toNat).drop l.toInt.toNat))))else none
       | none=>none)
    | _=>none
   | _,_=>none
 | .build T ps=>
  match P.underlying T with
  | some (.array m e)=>
   match(ps.toList.mapM fun p=>rd P st e p.2:Option (List PV))with
   | some vs=>bif (Nat.beq vs.length m&&aO (ai P T))&&(bA (ai P e)&&((P.info? e).isSome&&(decide (ps.toList.map (·.1)=List.range m)&&(Nat.beq (P.cellsOf e) 1&&decide (ae P deep T=List.replicate m (ai P e))))))then
     (match kH P T with | some _=>K (.o (.pv (ai P T) (.agg vs))) | none=>none)else none
   | none=>none
  | some (.struct fs)=>
   bif kg st ps.toList|| Fp P fs.toList ps.toList then
    (
     match kH P T with
     | some z=>(match df P st fs.toList (ny (ae P deep T) (fI P T z)) ps.toList with
      | some cs=>bif (aO (ai P T)&&fs.toList.all (fun f=>(P.info? f.type).isSome))&&cw (ae P deep T) cs then K (.lE T cs)else none
      | none=>none)
     | none=>none)else
   match kH P T,parts P st T fs.toList ps.toList with
   | some z,some vs=>bif aO (ai P T)&&fs.toList.all (fun f=>(P.info? f.type).isSome)then K (.o (.pv (ai P T) (.agg (eo z.cells vs))))else none
   | _,_=>none
  | _=>none
 | .buildSlice T n ps=>
  match ai P T,ps.toList with
  | .sl E,l=>
   match(l.mapM fun p=>rd P st E p.2:Option (List PV))with
   | some vs=>bif (Nat.beq vs.length n&&Nat.beq (P.cellsOf E) (ae P deep E).length)&&((aO (ai P E)|| bA (ai P E))&&(decide (l.map (·.1)=List.range n)&&(decide (n*P.cellsOf E≤16777216)&&(decide (0<P.cellsOf E)&&pV P E))))then K (.o (.arr E vs))else none
   | none=>none
  | _,_=>none
 | .makeSlice T n c=>
  match ai P T,ck st n,ck st c with
  | .sl E,some a,some b=>
   match kH P E with
   | some z=>bif pV P E&&decide (0≤a.toInt)&&(decide (a.toInt≤b.toInt)&&(decide (b.toInt≤140737488355328)&&decide (P.bytesOf E*b.toInt≤140737488355328)))then
     (
      match ai P E with
      | .sl E'=>bif Nat.beq (P.cellsOf E) 1 then K (.o (.own E E' (List.replicate a.toInt.toNat z) none))else none
      | _=>K (.o (.arr E (List.replicate a.toInt.toNat z))))else none
   | none=>none
  | _,_,_=>none
 | .makeMap T r=>
  match ai P T,r with
  | .mp k e,none=>K (.o (.map k e [] []))
  | _,_=>none
 | .lookup T x ix ok=>
  match ai P T with
  | .mp k e=>
   match nU st k e x,rd P st k ix,kH P e with
   | some (ks,vs),some kx,some z=>
    bif sN (ai P k)then
     (
      bif ok then K (.jg [.pv (ai P e) ((cI (ai P k) kx ks vs).getD z), .pv .bool (.bool (cI (ai P k) kx ks vs).isSome)])
      else K (.o (.pv (ai P e) ((cI (ai P k) kx ks vs).getD z))))
    else none
   | _,_,_=>none
  | _=>none
 | .extract x i=>
  match x with
  | .tmp t=>match get st t with
   | .jg vs=>match nth .dead vs i with
    | .pv ty v=>K (.o (.pv ty v))
    | _=>none
   | _=>none
  | _=>none
 | .call c=>
  match c.callee with
  | .builtin .len=>
   match c.argTypes[0]?,c.args[0]? with
   | some T,some x=>
    match ai P T with
    | .str=>(match rd P st T x with | some v=>K (.o (.pv (.int .i64) (.int .i64 v.toStr.size))) | none=>none)
    | .sl E=>(match fH st E x with
     | some l=>K (.o (.pv (.int .i64) (.int .i64 l.length)))
     | none=>match cV st x with
      | some (s,p)=>(match obj st s p with | .own E' _ l _=>bif Nat.beq E E' then K (.o (.pv (.int .i64) (.int .i64 l.length)))else none | _=>none)
      | none=>none)
    | .mp k e=>(match nU st k e x with | some (ks,_)=>K (.o (.pv (.int .i64) (.int .i64 ks.length))) | none=>none)
    | _=>none
   | _,_=>none
  | .builtin .max=>
   match c.args.toList with
   | [x,y]=>match ai P o.type,rd P st o.type x,rd P st o.type y with
    | .int k,some a,some b=>K (.o (.pv (.int k) (.int k (if b.toInt > a.toInt then b.toInt else a.toInt))))
    | _,_,_=>none
   | _=>none
  | .builtin .min=>
   match c.args.toList with
   | [x,y]=>match ai P o.type,rd P st o.type x,rd P st o.type y with
    | .int k,some a,some b=>K (.o (.pv (.int k) (.int k (if b.toInt<a.toInt then b.toInt else a.toInt))))
    | _,_,_=>none
   | _=>none
  | .value fo=>qC P call c o.type st fo K
  | _=>none
 | .makeFunc fn first cap=>
  match fn with
  | .func f=>bif first.isEmpty then
    (
     match(cap.toList.mapM (Ft st):Option (List PV))with
     | some cs=>K (.o (.pv .fn (.wN f cs)))
     | none=>none)else none
  | _=>none
 | _=>none
inductive Ex where
 | normal | exit (id:Nat) | ret
def cJ (i s:Nat) (p:List Nat) (st:St):St:=((st.map (AV.bQ i [] s p)).set i (.al s p))
def dg (i s:Nat) (p:List Nat) (off:Nat) (z:AO) (st:St):St:=
 match obj st s p with
 | .box E cs=>setObj (cJ i s (p++[off]) st) s p (.box E (cs.set off z))
 | _=>st
def bc (s:Nat) (p:List Nat):Nat→Nat→St→St
 | _,0,st=>st
 | off,n+1,st=>bc s p (off+1) n (kill s (p++[off]) st)
def dh:List AO→Nat→List AO→List AO
 | cs,_,[]=>cs
 | cs,off,v::vs=>dh (cs.set off v) (off+1) vs
def yu (P:Program) (T:TypeId) (st:St) (x:Operand):Option (AO×Option (Nat×List Nat)):=
 bif JA st x then(match rd P st T x with | some v=>some (.pv (ai P T) v,none) | none=>none)else
 match cV st x with
 | some (s,p)=>match obj st s p with
  | .box E cs=>some (.box E cs,some (s,p))
  | .map k e ks vs=>some (.map k e ks vs,some (s,p))
  | .arr E l=>some (.arr E l,some (s,p))
  | _=>none
 | none=>none
def nW (P:Program) (st:St):List (Operand×TypeId)→Option (List AO×List (Nat×List Nat))
 | []=>some ([],[])
 | (x,T)::r=>
  match yu P T st x with
  | some (y,l)=>
   match nW P st r with
   | some (ys,ls)=>some (y::ys,match l with | some z=>z::ls | none=>ls)
   | none=>none
  | none=>none
def cZ:AO→List PV
 | .arr _ l=>l
 | .own _ _ l _=>l
 | _=>[]
def rP:AO→List PV
 | .map _ _ ks _=>ks
 | _=>[]
def rQ:AO→List PV
 | .map _ _ _ vs=>vs
 | _=>[]
def ch (y:AO) (i:Nat):AO:=match y with | .box _ cs=>nth .dead cs i | _=> .dead
mutual
def nJ:AO→AO→Bool
 | .pv t _, .pv u _=>t.eq u
 | .arr E _, .arr F _=>Nat.beq E F
 | .own E D _ none, .own F G _ none=>Nat.beq E F&&Nat.beq D G
 | .map k e _ _, .map k' e' _ _=>Nat.beq k k'&&Nat.beq e e'
 | .box E cs, .box F ds=>Nat.beq E F&&gU cs ds
 | .dead, .dead=>true
 | _,_=>false
def gU:List AO→List AO→Bool
 | [],[]=>true
 | x::xs,y::ys=>nJ x y&&gU xs ys
 | _,_=>false
end
mutual
def nX:AO→AO→AO
 | .pv t _,y=> .pv t (ux y)
 | .arr E _,y=> .arr E (cZ y)
 | .own E D _ _,y=> .own E D (cZ y) none
 | .map k e _ _,y=> .map k e (rP y) (rQ y)
 | .box E cs,y=> .box E (tT cs y 0)
 | .dead,_=> .dead
def tT:List AO→AO→Nat→List AO
 | [],_,_=>[]
 | x::xs,y,i=>nX x (ch y i)::tT xs y (i+1)
end
def di:List AO→List AO
 | []=>[]
 | .pv _ _::r=>di r
 | x::r=>x::di r
def eG (Qr:List AO):Option (List AO×List AO)→Bool
 | some (_,back)=>gU Qr back
 | none=>false
def bD (i:Nat):Option (List AO×List AO)→AO
 | some (_,back)=>nth .dead back i
 | none=> .dead
def qD (c:Option (List AO×List AO)):List AO→Nat→List AO
 | [],_=>[]
 | x::r,i=>nX x (bD i c)::qD c r (i+1)
def dj:List (Nat×List Nat)→List AO→St→St
 | (s,p)::ls,y::ys,st=>dj ls ys (jk s p (setObj st s p y))
 | _,_,st=>st
def gk:List (Nat×List Nat)→Bool
 | []=>true
 | (s,_)::r=>r.all (fun q=> !Nat.beq s q.1)&&gk r
def mK (P:Program) (E:TypeId):Bool:=
 Nat.beq (P.cellsOf E) (ae P deep E).length&&((aO (ai P E)|| bA (ai P E))&&(decide (0<P.cellsOf E)&&(pV P E&&decide (0<P.bytesOf E))))
def jL (P:Program) (st:St) (E U:TypeId) (y:Operand):Option (List PV):=
 match ai P U with
 | .str=>(match ai P E,rd P st U y with | .int .u8,some v=>some (v.toStr.data.toList.map fun b=>PV.int .u8 b.toNat) | _,_=>none)
 | .sl E'=>bif Nat.beq E E' then fH st E y else none
 | _=>none
def bS:List Operand→St→St
 | [],st=>st
 | x::r,st=>
  match cV st x with
  | some (s,p)=>bif (obj st s p).jh&&gx st s p then bS r (bR st s p)else bS r st
  | none=>bS r st
def AO.JC:AO→List Nat→Bool
 | .box _ cs,i::p=>(nth .dead cs i).JC p
 | .own _ _ _ _,_::_=>true
 | _,_=>false
def Fu (st:St) (s:Nat) (p:List Nat):Bool:=match get st s with | .o x=>x.JC p | _=>false
def fj (N:Nat):List Operand→St→St
 | [],st=>st
 | x::r,st=>
  match cV st x with
  | some (s,p)=>bif ((obj st s p).jh&&(!Fu st s p&&decide (s<N)))&&gx st s p then fj N r (bR st s p)else fj N r st
  | none=>fj N r st
def kI (c:Option (List AO×List AO)):List AO→Nat→Bool
 | [],_=>true
 | x::r,i=>(match x with | .arr _ l=>decide ((cZ (bD i c)).length=l.length) | _=>true)&&kI c r (i+1)
def dk (s:Nat) (p:List Nat):Nat→Nat→St→St
 | _,0,st=>st
 | off,n+1,st=>dk s p (off+1) n (bif ((obj st s (p++[off])).jh|| (obj st s (p++[off])).pA)&&gx st s (p++[off])then bR st s (p++[off])else st)
def JD (P:Program) (E:TypeId) (cs:List AO):Option PV:=
 bif aO (ai P E)then
  (bif Nat.beq (P.cellsOf E) (ae P deep E).length then(match fD (ae P deep E) cs with | some vs=>some (.ref E (.agg vs)) | none=>none)else none)
 else bif bA (ai P E)&&Nat.beq (P.cellsOf E) 1 then
  (match cs with | [.pv t v]=>bif t.eq (ai P E)then some (.ref E v)else none | _=>none)
 else none
def gV (P:Program):List Operand→St→Option St
 | [],st=>some st
 | x::r,st=>
  match cV st x with
  | some (s,p)=>
   match obj st s p with
   | .box E _=>
    (
     match obj (dk s p 0 (P.cellsOf E) st) s p with
     | .box E' mH=>(match JD P E' mH with
      | some v=>gV P r (setObj (dk s p 0 (P.cellsOf E) st) s p (.pv .ptr v))
      | none=>none)
     | _=>none)
   | _=>none
  | none=>gV P r st
def iI (s:Nat) (p:List Nat):Nat→List ek→St→Option St
 | _,[],st=>some st
 | off, .pv _ _::r,st=>iI s p (off+1) r st
 | off, .nil _::r,st=>iI s p (off+1) r st
 | off, .al i []::r,st=>
  (
   match get st i with
   | .o (.own E D l none)=>bif !Nat.beq i s then iI s p (off+1) r (dg i s p off (.own E D l none) st)else none
   | .o (.map k e ks vs)=>bif !Nat.beq i s then iI s p (off+1) r (dg i s p off (.map k e ks vs) st)else none
   | _=>none)
 | _,_,_=>none
def ji:ek→AO
 | .pv t v=> .pv t v
 | .al _ _=> .dead
 | .nil E=> .arr E []
def jo:Option Nat→Nat→Bool
 | none,_=>true
 | some j0,j=>Nat.beq j0 j
def jq (i s:Nat) (p:List Nat) (j:Nat) (l':List PV) (st:St):St:=
 match obj st s p with
 | .own E D l _=>setObj (cJ i s (p++[j]) st) s p (.own E D (l.set j (.sl l')) none)
 | _=>st
def mL (st:St):Operand→Option (TypeId×List PV)
 | .tmp i=>(match get st i with | .clip E l=>some (E,l) | _=>none)
 | _=>none
def nY (st:St):Operand→Option (TypeId×List ek)
 | .tmp i=>(match get st i with | .lE T cs=>some (T,cs) | _=>none)
 | _=>none
def jr (st:St):Operand→Option (Nat×TypeId×List PV)
 | .tmp i=>
  match get st i with
  | .o (.arr E l)=>some (i,E,l)
  | .al s []=>(match get st s with
   | .o (.arr E l)=>some (s,E,l)
   | _=>none)
  | _=>none
 | _=>none
def fN (x:Operand) (st:St):St:=
 match x with
 | .tmp i=>(match get st i with | .al _ _=>st.set i .dead | _=>st)
 | _=>st
def j7 (P:Program) (call:aw) (N:Nat) (o:Oper) (st:St) (K:St→R):R:=
 match o.op with
 | .build _ ps=>dX P call o (bS (ps.toList.map (·.2)) st) fun v=>K (gy o.dst v (bS (ps.toList.map (·.2)) st))
 | .buildSlice _ _ ps=>dX P call o (bS (ps.toList.map (·.2)) st) fun v=>K (gy o.dst v (bS (ps.toList.map (·.2)) st))
 | .assign (.tmp i)=>
  match o.dst with
  | some d=>
   (
    match get st i with
    | .o x=>bif !Nat.beq d i then K ((cJ i d [] (kill d [] st)).set d (.o x))else none
    | .al s []=>bif Nat.beq d s then(match get st d with | .o .dead=>none | .o _=>K st | _=>none)else none
    | _=>none)
  | none=>none
 | .store T addr x=>
  match o.dst with
  | some _=>none
  | none=>
  match de st addr with
  | some (s,p,off)=>
   match obj st s p with
   | .box E cs=>
    bif aO (ai P T)then
     (
      match nY st x with
      | some (T',er)=>bif Nat.beq T T'&&(Nat.beq (P.cellsOf T) er.length&&(Nat.beq (P.cellsOf T) (ae P deep T).length&&(decide (0<P.cellsOf T)&&decide (off+er.length≤cs.length))))then
        (match iI s p off er (setObj (bc s p off er.length st) s p (.box E (dh cs off (er.map ji))))with | some st=>K st | none=>none)else none
      | none=>
      match rd P st T x with
      | some v=>bif Nat.beq (P.cellsOf T) (ae P deep T).length&&(decide (0<P.cellsOf T)&&decide (off+(ae P deep T).length≤cs.length))then
        K (setObj (bc s p off (ae P deep T).length st) s p (.box E (dh cs off (jK (ae P deep T) 0 v))))else none
      | none=>none)
    else bif bA (ai P T)&&(Nat.beq (P.cellsOf T) 1&&decide (off<cs.length))then
     (
      match x with
      | .const v=>(match qy P T v with | .o y=>K (setObj (bc s p off 1 st) s p (.box E (dh cs off [y]))) | _=>none)
      | .tmp i=>
       match(get st i).gK st (ai P T)with
       | some v=>K (setObj (bc s p off 1 st) s p (.box E (dh cs off [.pv (ai P T) v])))
       | none=>
        match get st i with
        | .o (.arr E' l)=>bif !Nat.beq s i&&(Ty.sl E').eq (ai P T)then K (dg i s p off (.arr E' l) (setObj (bc s p off 1 st) s p (.box E (dh cs off [.dead]))))else none
        | .o (.own E' D l h)=>bif !Nat.beq s i&&(Ty.sl E').eq (ai P T)then K (dg i s p off (.own E' D l h) (setObj (bc s p off 1 st) s p (.box E (dh cs off [.dead]))))else none
        | .o (.map k e ks vs)=>bif !Nat.beq s i&&(Ty.mp k e).eq (ai P T)then K (dg i s p off (.map k e ks vs) (setObj (bc s p off 1 st) s p (.box E (dh cs off [.dead]))))else none
        | .o (.box E' mH)=>bif !Nat.beq s i then K (dg i s p off (.box E' mH) (setObj (bc s p off 1 st) s p (.box E (dh cs off [.dead]))))else none
        | .al s' p'=>
         match p' with
         | []=>match obj st s' []with
          | .arr E' l=>bif !Nat.beq s s'&&(Ty.sl E').eq (ai P T)then K (dg s' s p off (.arr E' l) (setObj (bc s p off 1 st) s p (.box E (dh cs off [.dead]))))else none
          | _=>none
         | _=>none
        | _=>none
      | _=>none)
    else none
   | _=>none
  | none=>
   match addr with
   | .tmp a=>
    match get st a with
    | .el s p j off=>
     match obj st s p with
     | .own E D l h=>
      (
       match(bif Nat.beq off 0&&Nat.beq T E then jr st x else none)with
       | some (i,F,l')=>
        bif !Nat.beq i s&&(jo h j&&(Nat.beq (P.cellsOf T) 1&&Nat.beq F D))then
         K (jq i s p j l' (kill s (p++[j]) st))else none
       | none=>none)
     | .arr E l=>
      match rd P st T x with
      | some v=>
       bif !gx st s p then none else
       bif decide (0<P.cellsOf T)&&(Nat.beq off 0&&(Nat.beq T E&&((aO (ai P T)|| bA (ai P T))&&Nat.beq (P.cellsOf T) (ae P deep T).length)))then K (setObj st s p (.arr E (l.set j v)))
       else bif decide (0<P.cellsOf T)&&(aO (ai P E)&&(Nat.beq (P.cellsOf E) (ae P deep E).length&&((aO (ai P T)|| bA (ai P T))&&(Nat.beq (P.cellsOf T) (ae P deep T).length&&lF (ae P deep T) ((ae P deep E).drop off)))))then
        K (setObj st s p (.arr E (l.set j (.agg (setCells (bB (nth default l j) 0 (ae P deep E).length) off (fI P T v))))))
       else none
      | none=>none
     | _=>none
    | _=>none
   | _=>none
 | .load T addr=>
  match de st addr with
  | some (s,p,off)=>dX P call o (dk s p off (ae P deep T).length st) fun v=>K (gy o.dst v (dk s p off (ae P deep T).length st))
  | none=>none
 | .box E x=>
  match o.dst,x with
  | some d, .tmp i=>
   match get st i with
   | .lE T er=>bif Nat.beq T E&&(!Nat.beq d i&&(Nat.beq (P.cellsOf E) er.length&&aO (ai P E)))then
     (match iI d [] 0 er (put d (.o (.box E (er.map ji))) st)with | some st=>K st | none=>none)else none
   | .o (.own E' D l h)=>bif !Nat.beq d i&&((Ty.sl E').eq (ai P E)&&Nat.beq (P.cellsOf E) 1)then K (dg i d [] 0 (.own E' D l h) (put d (.o (.box E [.dead])) st))else none
   | .o (.map k e ks vs)=>bif !Nat.beq d i&&((Ty.mp k e).eq (ai P E)&&Nat.beq (P.cellsOf E) 1)then K (dg i d [] 0 (.map k e ks vs) (put d (.o (.box E [.dead])) st))else none
   | .o (.arr E' l)=>bif !Nat.beq d i&&((Ty.sl E').eq (ai P E)&&Nat.beq (P.cellsOf E) 1)then K (dg i d [] 0 (.arr E' l) (put d (.o (.box E [.dead])) st))else none
   | .o (.box E' mH)=>bif !Nat.beq d i then K (dg i d [] 0 (.box E' mH) (put d (.o (.box E [.dead])) st))else none
   | _=>none
  | _,_=>none
 | .makeFunc _ _ cap=>
  (
   match gV P cap.toList st with
   | some st=>dX P call o st fun v=>K (gy o.dst v st)
   | none=>none)
 | .mapUpdate T m k v=>
  match o.dst,ai P T,cV st m with
  | none, .mp kt et,some (s,p)=>
   match obj st s p,rd P st kt k,rd P st et v with
   | .map Yc Yd ks vs,some kx,some vx=>
    bif Nat.beq kt Yc&&(Nat.beq et Yd&&sN (ai P kt))then
     K (setObj st s p (.map kt et (ke (ai P kt) kx ks) (kf (ai P kt) kx vx ks vs)))else none
   | _,_,_=>none
  | _,_,_=>none
 | .slice _ x _ _ (some _)=>dX P call o (bS [x] st) fun v=>K (gy o.dst v (bS [x] st))
 | .slice T x lo hi none=>
  match o.dst,ai P T,cV st x with
  | some d, .sl E,some (s,p)=>
   match obj st s p,(match lo with | some y=>ck st y | none=>some (.int .i64 0))with
   | .arr E' l,some a=>
    match(match hi with | some y=>ck st y | none=>some (.int .i64 l.length))with
    | some h=>bif Nat.beq E E'&&((P.info? E).isSome&&(decide (0≤a.toInt)&&(decide (a.toInt≤h.toInt)&&decide (h.toInt≤l.length))))then
      K (put d (.o (.arr E ((l.take h.toInt.toNat).drop a.toInt.toNat))) (kill s p (setObj st s p .dead)))else none
    | none=>none
   | _,_=>none
  | _,_,_=>none
 | .call c=>
  match c.callee,o.dst with
  | .builtin .append,some d=>
   match c.argTypes[0]?,c.args[0]?,c.args[1]?,c.argTypes[1]? with
   | some T,some x,some y,some U=>
    match ai P T with
    | .sl E=>
     bif mK P E then
      (
       match jL P st E U y with
       | some ys=>
        match x with
        | .const v=>(match gj (.sl E) v with
         | some _=>bif decide (ys.length*P.bytesOf E≤room)then K (put d (.o (.arr E ys)) st)else none
         | none=>none)
        | _=>
         match mL st x with
         | some (E',l)=>bif Nat.beq E E'&&decide ((l.length+ys.length)*P.bytesOf E≤room)then K (put d (.o (.pv (.sl E) (.sl (l++ys)))) st)else none
         | none=>
         match cV st x with
         | some (s,p)=>
          (
           match obj st s p with
           | .arr E' l=>bif Nat.beq E E'&&decide ((l.length+ys.length)*P.bytesOf E≤room)then
             K (put d (.o (.arr E (l++ys))) (kill s p (setObj (fN x st) s p .dead)))else none
           | _=>none)
         | none=>none
       | none=>none)
     else none
    | _=>none
   | _,_,_,_=>none
  | .value (.func f),some d=>
   match nW P (fj N c.args.toList st) (c.args.toList.zip c.argTypes.toList)with
   | some (as,ls)=>
    bif Nat.beq as.length c.args.size&&((gk ls&&ls.all fun q=> !Nat.beq q.1 d)&&ls.all fun q=>gx (fj N c.args.toList st) q.1 q.2)then
     bif eG (di as) (call f as)&&kI (call f as) (di as) 0 then
      yt P o.type (call f as) fun v=>K (put d v (dj ls (qD (call f as) (di as) 0) (put d .dead (fj N c.args.toList st))))else none
    else none
   | none=>none
  | _,_=>none
 | _=>none
def js (st:St) (x:Operand):Bool:=
 match x with
 | .tmp i=>match get st i with | .dead=>true | .jg []=>true | v=>v.pure st
 | .const _=>true
 | .func _=>true
 | _=>false
def fJ (P:Program) (o:Oper) (st:St):Bool:=
 match o.op with
 | .assign (.tmp i)=>match get st i with | .o (.box _ _)=>true | .o (.arr _ _)=>true | .o (.own _ _ _ _)=>true | .o (.map _ _ _ _)=>true | .al s []=>(match o.dst with | some d=>Nat.beq d s | none=>false) | _=>false
 | .store .. =>true
 | .mapUpdate .. =>true
 | .makeFunc _ _ cap=> !(cap.all (js st))
 | .build _ ps=> !(ps.all fun x=>js st x.2)&& !kg st ps.toList
 | .buildSlice _ _ ps=> !(ps.all fun x=>js st x.2)
 | .load T addr=>
  aO (ai P T)&&(match de st addr with
   | some (s,p,off)=>(match obj st s p with | .box _ cs=>C2 (ae P deep T).length off cs | _=>false)
   | none=>false)
 | .box _ x=>(nY st x).isSome|| !js st x
 | .slice _ x _ _ _=>match cV st x with | some _=>true | none=>false
 | .call c=>
  match c.callee with
  | .builtin .append=>true
  | .value _=> !(c.args.all fun x=>js st x)
  | _=>false
 | _=>false
def C4 (P:Program) (call:aw) (N:Nat) (o:Oper) (st:St) (K:St→R):R:=
 bif fJ P o st then j7 P call N o st K else dX P call o st fun v=>K (gy o.dst v st)
def JE (o:Oper):List Operand:=o.op.operands.toList
def known (i:Nat) (b:Bool) (st:St):St:=st.set i (.o (.pv .bool (.bool b)))
def bL (N:Nat):Operand→Bool
 | .tmp t=>decide (t<N)
 | _=>true
def sO (N:Nat) (o:Oper):Bool:=
 (match o.dst with | some d=>decide (d<N) | none=>true)&&o.op.operands.toList.all (bL N)
def gu (P:Program) (call:aw) (N:Nat) (ops:Array Oper):List Nat→St→(St→R)→R
 | [],st,K=>K st
 | i::rest,st,K=>
  match ops[i]? with
  | none=>none
  | some o=>
   bif sO N o then
    match o.guard with
    | none=>C4 P call N o st fun st=>gu P call N ops rest st K
    | some (j,want)=>
     match(ops[j]?).bind (·.dst)with
     | some d=>
      match get st d with
      | .o (.pv .bool v)=>
       bif decide (d<N)then
        (bif v.toBool then
         (
          bif want then C4 P call N o (known d true st) (fun st=>gu P call N ops rest st K)
          else gu P call N ops rest (gy o.dst (.jg []) (known d true st)) K)
        else
         (
          bif want then gu P call N ops rest (gy o.dst (.jg []) (known d false st)) K
          else C4 P call N o (known d false st) (fun st=>gu P call N ops rest st K)))else none
      | .jg []=>bif decide (d<N)then gu P call N ops rest (gy o.dst (.jg []) st) K else none
      | _=>none
     | none=>none
   else none
def Ns {α:Type} (K:List Nat→Option α):List Oper→Nat→List Nat→Option α
 | [],_,acc=>K acc.reverse
 | o::rest,j,acc=>CheckFast.force (CheckFast.one (fun i=>bif decide (i<j)then nth 0 acc (j-1-i)else 0) o) fun v=>Ns K rest (j+1) (v::acc)
def ordered (b:List Nat) (i k:Nat):Bool:=bif decide (k<i)then(nth 0 b i).testBit k else(nth 0 b k).testBit i
def JF (P:Program) (o:Oper):Bool:=o.guard.isNone
def tU (P:Program) (st:St) (o:Oper):Option (Nat×List Nat×Nat×Nat×AO):=
 match o.op with
 | .store T addr x=>
  match o.guard,o.dst with
  | none,none=>
   match de st addr with
   | some (s,p,off)=>
    match obj st s p with
    | .box E cs=>
     match nY st x,rd P st T x with
     | none,some v=>bif aO (ai P T)&&(Nat.beq (P.cellsOf T) (ae P deep T).length&&(decide (0<P.cellsOf T)&&decide (off+(ae P deep T).length≤cs.length)))then
       some (s,p,off,(ae P deep T).length, .box E (dh cs off (jK (ae P deep T) 0 v)))else none
     | _,_=>none
    | _=>none
   | none=>none
  | _,_=>none
 | _=>none
def yw (P:Program) (st:St) (o:Oper):Option (Nat×Nat×List Nat×Nat×List PV):=
 match o.op with
 | .store T (.tmp a) x=>
  match o.guard,o.dst with
  | none,none=>
   match get st a with
   | .el s p j off=>
    match obj st s p with
    | .own E D _ h=>
     match jr st x with
     | some (i,F,l')=>bif Nat.beq off 0&&(Nat.beq T E&&(!Nat.beq i s&&(jo h j&&(Nat.beq (P.cellsOf T) 1&&Nat.beq F D))))then some (i,s,p,j,l')else none
     | none=>none
    | _=>none
   | _=>none
  | _,_=>none
 | _=>none
def isObj:AO→Bool
 | .box _ _=>true
 | .arr _ _=>true
 | .own _ _ _ _=>true
 | .map _ _ _ _=>true
 | _=>false
def tV (st:St) (o:Oper):Option (Nat×Nat×AO):=
 match o.op with
 | .assign (.tmp i)=>
  match o.guard,o.dst with
  | none,some d=>
   match get st i with
   | .o x=>bif !Nat.beq d i&&isObj x then some (i,d,x)else none
   | _=>none
  | _,_=>none
 | _=>none
def tW (P:Program) (st:St) (o:Oper):Bool:=
 match o.op with
 | .build _ ps=>o.guard.isNone&&(o.dst.isSome&&(fJ P o st&&(dX (α:=AV) P (fun _ _=>none) o (bS (ps.toList.map (·.2)) st) some).isSome))
 | _=>false
def pW (P:Program) (st:St) (o:Oper):Bool:=(tU P st o).isSome|| ((yw P st o).isSome|| ((tV st o).isSome|| tW P st o))
def fV (o:Oper):Bool:=
 o.guard.isNone&&(match o.op with
  | .call c=>(match c.callee with | .builtin .append=>true | _=>false)
  | _=>false)
def uy:List Nat→List Nat→Bool
 | [],[]=>true
 | x::l,y::m=>Nat.beq x y&&uy l m
 | _,_=>false
def AM:AV→AV→Bool
 | .al s p, .al s' p'=>Nat.beq s s'&&uy p p'
 | .ptr s p i, .ptr s' p' j=>Nat.beq s s'&&(uy p p'&&Nat.beq i j)
 | _,_=>false
def eI (o:Oper) (st:St):List Nat:=(JE o).flatMap (aP st)
def has (l:List Nat) (x:Nat):Bool:=l.any (Nat.beq x)
def clear (l:List Nat) (v:AV):Bool:=l.all fun s=> !v.ar s []
def dstsOf (ops:Array Oper):List Nat:=ops.toList.filterMap (·.dst)
def C5 (P:Program) (call:aw) (ops:Array Oper) (b:List Nat) (e:Nat) (o:Oper) (st gD:St) (q:Nat):Bool:=
 match ops[q]? with
 | some oq=>
  match oq.dst with
  | some d=>
   (JF P oq&&(!lS d gD&& !has (eI o st) d))&&
   ((
    List.range ops.size).all (fun k=>(nth 0 b q).testBit k|| ((decide (e<k)&&(nth 0 b k).testBit q)||
    (match(ops[k]?).bind (·.dst)with | some d'=> !has (eI oq st) d'&& !has (eI oq gD) d' | none=>true)))&&
   (
    bif (d::eI oq st).all (fun r=> !has (eI o st++o.dst.toList) r&&clear (eI o st++(o.dst.toList++dstsOf ops)) (get st r))then true
    else(match dX (α:=Unit) P call oq gD (fun v=>Qo (AM v (get gD d)) (some ()))with | some _=>true | none=>false)))
  | none=>false
 | none=>false
def tX (P:Program) (call:aw) (ops:Array Oper) (b:List Nat) (e:Nat) (o:Oper) (env:List (Nat×Bool)) (st gD:St):Bool:=
 (List.range e).all fun q=>ordered b e q|| (env.isEmpty&&C5 P call ops b e o st gD q)
def nZ (P:Program) (ops:Array Oper) (b:List Nat) (i:Nat) (o:Oper) (st:St):Bool:=
 (match o.guard with | some (j,_)=>decide (j<i)&&ordered b i j | none=>true)&&
 (bif fJ P o st then
  (List.range ops.size).all fun k=>Nat.beq k i|| (ordered b i k|| (decide (k<i)&&(fV o|| pW P st o)))
 else
  (match o.dst with | some d=> !lS d st | none=>true)&&
  (List.range ops.size).all fun k=>Nat.beq k i|| (ordered b i k||
   (
    match(ops[k]?).bind (·.dst)with
    | some d=> !((JE o).flatMap (aP st)).any (Nat.beq d)
    | none=>true)))
def distinct:List Nat→Bool
 | []=>true
 | x::l=> !l.any (Nat.beq x)&&distinct l
def o8:Nat→List Oper→Bool
 | _,[]=>true
 | i,o::r=>o.after.toList.all (fun e=> !Region.binds .any e|| decide (e.on<i))&&o8 (i+1) r
def bM (ops:Array Oper) (st:St):St:=st.map fun v=>bif ops.toList.any (fun o=>match o.dst with | some d=>v.ar d [] | none=>false)then .dead else v
def uz:List (Nat×Bool)→Nat→Option Bool
 | [],_=>none
 | (k,b)::r,j=>bif Nat.beq k j then some b else uz r j
def eb (ops:Array Oper):List (Nat×Bool)→St→St
 | [],st=>st
 | (j,b)::r,st=>match(ops[j]?).bind (·.dst)with
  | some d=>known d b (eb ops r st)
  | none=>eb ops r st
def Qs (N:Nat) (ops:Array Oper) (env:List (Nat×Bool)) (st:St) (o:Oper) (k:List (Nat×Bool)→Bool→R):R:=
 match o.guard with
 | none=>k env true
 | some (j,want)=>
  match uz env j with
  | some b=>k env (bif b then want else !want)
  | none=>
   match(ops[j]?).bind (·.dst)with
   | some d=>
    match get st d with
    | .o (.pv .bool v)=>bif decide (d<N)then(bif v.toBool then k ((j,true)::env) want else k ((j,false)::env) (!want))else none
    | .jg []=>bif decide (d<N)then k env false else none
    | _=>none
   | none=>none
def iJ (P:Program) (call:aw) (N:Nat) (ops:Array Oper) (b:List Nat):List Nat→List (Nat×Bool)→St→(St→R)→R
 | [],env,st,K=>K (eb ops env st)
 | i::rest,env,st,K=>
  match ops[i]? with
  | none=>none
  | some o=>
   bif sO N o&&nZ P ops b i o st then
    Qs N ops env st o fun env w=>
     bif fJ P o st then
      (
       bif w then j7 P call N o (eb ops env st) fun gD=>bif tX P call ops b i o env (eb ops env st) (bM ops gD)then iJ P call N ops b rest [] (bM ops gD) K else none
       else iJ P call N ops b rest [] (bM ops (gy o.dst (.jg []) (eb ops env st))) K)
     else bif w then dX P call o st fun v=>iJ P call N ops b rest env (gy o.dst v st) K
     else iJ P call N ops b rest env (gy o.dst (.jg []) st) K
   else none
def C6 (P:Program) (call:aw) (N:Nat) (ops:Array Oper) (st:St) (K:St→R):R:=
 bif P.follows .mixedOrders&&(distinct (ops.toList.filterMap (·.dst))&&o8 0 ops.toList)then
  Ns (fun b=>iJ P call N ops b (List.range ops.size) [] (bM ops st) K) ops.toList 0 []
 else none
def gW:Code→Option Nat
 | .region id _ _=>some id
 | .seq a b=>(gW a).or (gW b)
 | .cond _ a b=>(gW a).or (gW b)
 | .block _ c | .loop c | .scope c=>gW c
 | _=>none
def JG (l:List Nat):ek→Bool
 | .al s _=>l.any (Nat.beq s)
 | _=>true
def fW (l:List Nat) (st:St):AV→AV
 | .al s p=>bif l.any (Nat.beq s)then .al s p else .dead
 | .ptr s p off=>bif l.any (Nat.beq s)then .ptr s p off else .dead
 | .el s p i off=>bif l.any (Nat.beq s)then .el s p i off else .dead
 | .lE T cs=>bif cs.all (JG l)then .lE T cs else .dead
 | v=>v
def fz (l:List Nat) (n:Nat):St→St
 | []=>[]
 | v::st=>(bif l.any (Nat.beq n)then fW l [] v else .dead)::fz l (n+1) st
def db (h:Option (List Nat)) (st:St):St:=match h with | some l=>fz l 0 st | none=>st
def Nt (f:St→(Ex→St→R)→R) (K:Ex→St→R):Ex→St→R:=fun e st=>match e with
 | .normal=>f st K
 | e=>K e st
def C7 (id:Nat) (K:Ex→St→R):Ex→St→R:=fun e st=>match e with
 | .exit RR=>bif Nat.beq RR id then K .normal st else K (.exit RR) st
 | e=>K e st
def pX (body:St→(Ex→St→R)→R) (h:Option (List Nat)):Nat→St→(Ex→St→R)→R
 | 0,_,_=>none
 | n+1,st,K=>body st (Nt (fun st K=>pX body h n (db h st) K) K)
def hintOf (H:Nat→Option (List Nat)) (c:Code):Option (List Nat):=match gW c with | some r=>H r | none=>none
def AN (P:Program) (call:aw) (N:Nat) (ops:Array Oper) (draw:Bool) (st:St) (K:St→R):R:=
 bif draw then C6 P call N ops st K else gu P call N ops (List.range ops.size) st K
abbrev Gate:=Nat→(St→(St→R)→R)→St→(St→R)→R
def kY:Gate:=fun _ body st K=>body st K
def nK (P:Program) (call:aw) (H:Nat→Option (List Nat)) (G:Gate) (N n:Nat):Code→St→(Ex→St→R)→R
 | .skip,st,K | .label _,st,K=>K .normal st
 | .region id ops draw,st,K=>
  match H (id+100000)with
  | some l=>G id (AN P call N ops draw) (db (some l) st) (K .normal)
  | none=>AN P call N ops draw st (K .normal)
 | .seq a b,st,K=>nK P call H G N n a st (Nt (nK P call H G N n b) K)
 | .cond c x y,st,K=>
  match c with
  | .tmp i=>
   match get st i with
   | .o (.pv .bool v)=>bif decide (i<N)then(bif v.toBool then nK P call H G N n x (known i true st) K else nK P call H G N n y (known i false st) K)else none
   | _=>none
  | .const (.bool b)=>bif b then nK P call H G N n x st K else nK P call H G N n y st K
  | _=>none
 | .block id c,st,K=>nK P call H G N n c st (C7 id K)
 | .loop c,st,K=>pX (nK P call H G N n c) (hintOf H c) n (db (hintOf H c) st) K
 | .exit id,st,K=>K (.exit id) st
 | .ret,st,K=>K .ret st
 | .scope c,st,K=>nK P call H G N n c st K
 | _,_,_=>none
def cK (n:Nat):Nat→List AO→List AV
 | _,[]=>[]
 | h, .pv t v::r=> .o (.pv t v)::cK n h r
 | h,_::r=> .al (n+h) []::cK n (h+1) r
def dM:List AO→List AV
 | []=>[]
 | .pv _ _::r=>dM r
 | x::r=> .o x::dM r
def entry (n:Nat) (args:List AO):St:=cK n 0 args++List.replicate (n-args.length) .dead++dM args
def Fv (P:Program) (n:Nat) (many:Bool) (st:St) (r:ResultVar) (T:TypeId):Option (St×AO):=
 match r with
 | .tmp t=>
  bif decide (n≤t)then none else
  match get st t with
  | .o (.pv u v)=>bif u.eq (ai P T)then some (st, .pv u v)else none
  | .o (.arr E l)=>bif many then some (bR st t [], .pv (.sl E) (.sl l))else some (st, .arr E l)
  | .o (.box E cs)=>bif many then none else some (st, .box E cs)
  | .o (.own E _ l none)=>some (bR st t [], .pv (.sl E) (.sl l))
  | .o (.map k e ks vs)=>some (bR st t [], .pv (.mp k e) (.mp ks vs))
  | .clip E l=>bif (Ty.sl E).eq (ai P T)then some (st, .pv (.sl E) (.sl l))else none
  | .lE T' cs=>bif (Ty.st T').eq (ai P T)&&cs.all qx then some (st, .pv (.st T') (.agg (cs.map fg)))else none
  | .al s p=>
   match obj st s p with
   | .pv u v=>bif u.eq (ai P T)then some (st, .pv u v)else none
   | .arr E l=>bif !gx st s p then none else bif many|| decide (n≤s)then some (bR st s p, .pv (.sl E) (.sl l))else some (st, .arr E l)
   | .box E cs=>bif many|| decide (n≤s)then none else some (st, .box E cs)
   | .own E _ l none=>some (bR st s p, .pv (.sl E) (.sl l))
   | .map k e ks vs=>some (bR st s p, .pv (.mp k e) (.mp ks vs))
   | _=>none
  | _=>none
 | .cell a T'=>
  bif decide (n≤a)|| !Nat.beq T T' then none else
  match get (dk a [] 0 (ae P deep T).length st) a with
  | .o (.box _ cs)=>
   bif aO (ai P T)then
    (
     bif Nat.beq (P.cellsOf T) (ae P deep T).length then
     (
      match fD (ae P deep T) cs with
      | some vs=>some (dk a [] 0 (ae P deep T).length st, .pv (ai P T) (.agg vs))
      | none=>none)
     else none)
   else bif bA (ai P T)then
    (
     match nth .dead cs 0 with
     | .pv u v=>bif u.eq (ai P T)then some (dk a [] 0 (ae P deep T).length st, .pv u v)else none
     | _=>none)
   else none
  | _=>none
def pY (P:Program) (n:Nat) (many:Bool):List (ResultVar×TypeId)→St→Option (St×List AO)
 | [],st=>some (st,[])
 | (r,T)::rs,st=>
  match Fv P n many st r T with
  | some (st,x)=>match pY P n many rs st with
   | some (st,xs)=>some (st,x::xs)
   | none=>none
  | none=>none
def yx (n:Nat) (st:St):List AO:=(st.drop n).map fun | .o x=>x | _=> .dead
def finish (P:Program) (fn:Func) (st:St):R:=
 match pY P fn.ntmps (decide (fn.results.size≠1)) (fn.results.toList.zip fn.resultTypes.toList) st with
 | some (st,xs)=>bif Nat.beq xs.length fn.results.size then some (xs,yx fn.ntmps st)else none
 | none=>none
def C8 (P:Program) (fn:Func):Ex→St→R:=fun e st=>match e with
 | .exit _=>none
 | _=>finish P fn st
def yy (P:Program) (H:FuncId→Nat→Option (List Nat)) (G:Gate) (call:aw) (k:Nat) (f:FuncId) (args:List AO):R:=
 match P.funcs[f]? with
 | some fn=>
  match fn.body with
  | some c=>bif decide (args.length≤fn.ntmps)&&(Nat.beq args.length (fn.params.size+fn.nfree)&& !decide (fn.name= "runtime.NumGoroutine"))then
    nK P call (H f) G fn.ntmps k c (entry fn.ntmps args) (C8 P fn)
   else none
  | none=>none
 | none=>none
def aW (P:Program) (H:FuncId→Nat→Option (List Nat)) (call:aw) (k:Nat) (f:FuncId) (args:List AO):R:=yy P H kY call k f args
def JH (P:Program) (H:FuncId→Nat→Option (List Nat)):Nat→aw
 | 0,_,_=>none
 | k+1,f,args=>aW P H (JH P H k) k f args
inductive Way where
 | a | b | x | y | aD | sc | lp (m:Nat)
def dQ:List Way→Code→Code
 | [],c=>c
 | .a::p, .seq a _=>dQ p a
 | .b::p, .seq _ b=>dQ p b
 | .x::p, .cond _ x _=>dQ p x
 | .y::p, .cond _ _ y=>dQ p y
 | .aD::p, .block _ c=>dQ p c
 | .sc::p, .scope c=>dQ p c
 | .lp _::p, .loop c=>dQ p c
 | _::_,_=> .skip
def OL (P:Program) (call:aw) (H:Nat→Option (List Nat)) (G:Gate) (N n:Nat):List Way→Code→(Ex→St→R)→(Ex→St→R)
 | [],_,K=>K
 | .a::p, .seq a b,K=>OL P call H G N n p a (Nt (nK P call H G N n b) K)
 | .b::p, .seq _ b,K=>OL P call H G N n p b K
 | .x::p, .cond _ x _,K=>OL P call H G N n p x K
 | .y::p, .cond _ _ y,K=>OL P call H G N n p y K
 | .aD::p, .block id c,K=>OL P call H G N n p c (C7 id K)
 | .sc::p, .scope c,K=>OL P call H G N n p c K
 | .lp m::p, .loop c,K=>OL P call H G N n p c (Nt (fun st K=>pX (nK P call H G N n c) (hintOf H c) m (db (hintOf H c) st) K) K)
 | _::_,_,K=>K
def yz (P:Program) (f:FuncId):Code:=match P.funcs[f]? with | some fn=>fn.body.getD .skip | none=> .skip
def yA (P:Program) (f:FuncId):Nat:=match P.funcs[f]? with | some fn=>fn.ntmps | none=>0
def funcOf (P:Program) (f:FuncId):Func:=match P.funcs[f]? with | some fn=>fn | none=>default
def Qt (P:Program) (H:FuncId→Nat→Option (List Nat)) (G:Gate) (call:aw) (k:Nat) (f:FuncId) (p:List Way) (m:Nat) (st:St) (K:Ex→St→R):R:=
 match dQ p (yz P f)with
 | .loop c=>pX (nK P call (H f) G (yA P f) k c) (hintOf (H f) c) m st K
 | _=>none
def OM (P:Program) (call:aw) (f:FuncId) (p:List Way):St→(St→R)→R:=
 match dQ p (yz P f)with
 | .region _ ops draw=>AN P call (yA P f) ops draw
 | _=>fun _ _=>none
def behind (P:Program) (H:FuncId→Nat→Option (List Nat)) (G:Gate) (call:aw) (k:Nat) (f:FuncId) (p:List Way):Ex→St→R:=
 OL P call (H f) G (yA P f) k p (yz P f) (C8 P (funcOf P f))
end Go.V
namespace Go.V
inductive Tag where
 | free | out | own (s:Nat) (p:List Nat)
structure G where
 tag:Nat→Tag
 val:Nat→List Nat→Value
def mM (es:Array MapEntry) (clock:Nat):Prop:=(∀x∈es.toList,x.born<clock)∧(es.toList.map (·.born)).Nodup
inductive aV (P:Program) (w:World) (g:G):Ty→PV→Value→Prop
 | int (k:IntKind) (n:Int):aV P w g (.int k) (.int k n) (.int k n)
 | bool (b:Bool):aV P w g .bool (.bool b) (.bool b)
 | str (s:ByteArray):aV P w g .str (.str s) (.string s)
 | Qu:aV P w g .ptr (.M9 (.pointer none)) (.pointer none)
 | Qv:aV P w g .iface (.M9 .nilIface) .nilIface
 | UE:aV P w g .fn (.M9 .nilFunc) .nilFunc
 | wN (f:FuncId) (gw:List PV) (bw:List Value) (hl:bw.length=gw.length)
   (h:∀(i:Nat) (x:PV) (v:Value),gw[i]? =some x→bw[i]? =some v→aV P w g .ptr x v):aV P w g .fn (.wN f gw) (.func (.func f) #[] ⟨bw⟩)
 | ref (E:TypeId) (x:PV) (b o:Nat) (f:Value) (h:aV P w g (ai P E) x f) (hc:∀j,j<P.cellsOf E→w.cell? ⟨b,o+j,none⟩=f.cells[j]?)
   (ht:g.tag b= .free) (hb:b<w.heap.size):aV P w g .ptr (.ref E x) (.pointer (some ⟨b,o,none⟩))
 | mp (k e:TypeId) (ks vs:List PV) (b:Nat) (es:Array MapEntry) (clock:Nat) (hh:w.heap[b]? =some (.map es clock)) (ht:g.tag b= .free)
   (hk:ks.length=es.size∧mM es clock) (hv:vs.length=es.size)
   (h1:∀(i:Nat) (en:MapEntry) (x:PV),es[i]? =some en→ks[i]? =some x→aV P w g (ai P k) x en.key)
   (h2:∀(i:Nat) (en:MapEntry) (x:PV),es[i]? =some en→vs[i]? =some x→aV P w g (ai P e) x en.val):aV P w g (.mp k e) (.mp ks vs) (.map (some b))
 | UF (k e:TypeId):aV P w g (.mp k e) (.M9 (.map none)) (.map none)
 | Ql (t:TypeId) (v:PV) (x:Value) (h:aV P w g (ai P t) v x):aV P w g .iface (.Ql t v) (.iface t x)
 | Jn (e:TypeId):aV P w g (.sl e) (.sl []) (.slice none 0 0)
 | ON (e:TypeId) (a:Addr):aV P w g (.sl e) (.sl []) (.slice (some a) 0 0)
 | sl (e:TypeId) (l:List PV) (b off cap:Nat) (f:Nat→Value)
   (h:∀(i:Nat) (x:PV),l[i]? =some x→aV P w g (ai P e) x (f i))
   (hc:∀i,i<l.length→∀j,j<P.cellsOf e→w.cell? ⟨b,off+i*P.cellsOf e+j,none⟩=(f i).cells[j]?)
   (ht:g.tag b= .free) (hb:b<w.heap.size) (hl:l.length≤cap):aV P w g (.sl e) (.sl l) (.slice (some ⟨b,off,none⟩) l.length cap)
 | st (t:TypeId) (xs:List PV) (cs:List Value) (hx:xs.length=(ae P deep t).length) (hc:cs.length=(ae P deep t).length)
   (h:∀(i:Nat) (ty:Ty) (x:PV) (c:Value),(ae P deep t)[i]? =some ty→xs[i]? =some x→cs[i]? =some c→aV P w g ty x c):
   aV P w g (.st t) (.agg xs) (.agg ⟨cs⟩)
structure Fr (w:World) (g:G) (w':World) (g':G):Prop where
 os:w'.os=w.os
 tape:w'.tape=w.tape
 output:w'.output=w.output
 size:w.heap.size≤w'.heap.size
 free:∀b,b<w.heap.size→g.tag b= .free→g'.tag b= .free∧w'.heap[b]? =w.heap[b]?
 out:∀b,b<w.heap.size→g.tag b= .out→g'.tag b= .out∧w'.heap[b]? =w.heap[b]?
 lU:∀b,g'.tag b= .out→g.tag b= .out∧b<w.heap.size
 fresh:∀b,w'.heap.size≤b→g'.tag b= .free
theorem Fr.refl (w:World) (g:G) (h:∀b,w.heap.size≤b→g.tag b= .free):Fr w g w g:=by
 refine⟨rfl,rfl,rfl,Nat.le_refl _,fun _ _ h=>⟨h,rfl⟩,fun _ _ h=>⟨h,rfl⟩,fun b hb=>⟨hb, ?_⟩,h⟩
 rcases Nat.lt_or_ge b w.heap.size with h' | h'
 ·exact h'
 ·rw[h b h']at hb;cases hb
theorem Fr.trans {w:World} {g:G} {w1:World} {g1:G} {w2:World} {g2:G} (h:Fr w g w1 g1) (k:Fr w1 g1 w2 g2):Fr w g w2 g2:=by
 refine⟨k.os.trans h.os,k.tape.trans h.tape,k.output.trans h.output,Nat.le_trans h.size k.size, ?_, ?_, ?_,k.fresh⟩
 ·intro b hb ht
  obtain⟨h1,h2⟩:=h.free b hb ht
  obtain⟨k1,k2⟩:=k.free b (Nat.lt_of_lt_of_le hb h.size) h1
  exact⟨k1,k2.trans h2⟩
 ·intro b hb ht
  obtain⟨h1,h2⟩:=h.out b hb ht
  obtain⟨k1,k2⟩:=k.out b (Nat.lt_of_lt_of_le hb h.size) h1
  exact⟨k1,k2.trans h2⟩
 ·intro b hb
  obtain⟨k1,_⟩:=k.lU b hb
  exact h.lU b k1
theorem bT {w:World} {b:Nat} {o:Obj} (h:w.heap[b]? =some o):b<w.heap.size:=by
 rcases Nat.lt_or_ge b w.heap.size with h' | h'
 ·exact h'
 ·rw[Array.getElem?_eq_none h']at h;cases h
theorem aV.ext {P:Program} {w:World} {g:G} {w':World} {g':G} {t:Ty} {x:PV} {v:Value} (h:aV P w g t x v)
  (hs:w.heap.size≤w'.heap.size) (hf:∀b,b<w.heap.size→g.tag b= .free→g'.tag b= .free∧w'.heap[b]? =w.heap[b]?):aV P w' g' t x v:=by
 induction h with
 | int k n=>exact .int k n
 | bool b=>exact .bool b
 | str s=>exact .str s
 | Qu=>exact .Qu
 | Qv=>exact .Qv
 | UE=>exact .UE
 | wN f gw bw hl _ ih=>exact .wN f gw bw hl ih
 | ref E x b o f _ hc ht hb ih=>
  obtain⟨h1,h2⟩:=hf b hb ht
  exact .ref E x b o f ih (fun j hj=>by rw[World.cell?_of_block (w:=w) h2];exact hc j hj) h1 (Nat.lt_of_lt_of_le hb hs)
 | mp k e ks vs b es clock hh ht hk hv _ _ ZI ZJ=>
  obtain⟨h1,h2⟩:=hf b (bT hh) ht
  exact .mp k e ks vs b es clock (by rw[h2];exact hh) h1 hk hv ZI ZJ
 | UF k e=>exact .UF k e
 | Ql t v x _ ih=>exact .Ql t v x ih
 | Jn e=>exact .Jn e
 | ON e a=>exact .ON e a
 | sl e l b off cap f _ hc ht hb hl ih=>
  obtain⟨h1,h2⟩:=hf b hb ht
  refine .sl e l b off cap f ih (fun i hi j hj=> ?_) h1 (Nat.lt_of_lt_of_le hb hs) hl
  rw[World.cell?_of_block (w:=w) h2];exact hc i hi j hj
 | st t xs cs hx hc _ ih=>exact .st t xs cs hx hc ih
theorem aV.fr {P:Program} {w:World} {g:G} {w':World} {g':G} {t:Ty} {x:PV} {v:Value} (h:aV P w g t x v) (f:Fr w g w' g'):aV P w' g' t x v:=
 h.ext f.size f.free
section inv
variable {P:Program} {w:World} {g:G} {x:PV} {v:Value}
theorem aV.cO {k:IntKind} (h:aV P w g (.int k) x v):∃n,x= .int k n∧v= .int k n:=by cases h;exact⟨_,rfl,rfl⟩
theorem aV.dR (h:aV P w g .bool x v):∃b,x= .bool b∧v= .bool b:=by cases h;exact⟨_,rfl,rfl⟩
theorem aV.dm (h:aV P w g .str x v):∃s,x= .str s∧v= .string s:=by cases h;exact⟨_,rfl,rfl⟩
theorem aV.Qw (h:aV P w g .fn x v):(x= .M9 .nilFunc∧v= .nilFunc)∨∃f gw bw,x= .wN f gw∧v= .func (.func f) #[] ⟨bw⟩∧bw.length=gw.length∧
  ∀(i:Nat) (x:PV) (v:Value),gw[i]? =some x→bw[i]? =some v→aV P w g .ptr x v:=by
 cases h with
 | UE=>exact .inl ⟨rfl,rfl⟩
 | wN f gw bw hl h=>exact .inr ⟨f,gw,bw,rfl,rfl,hl,h⟩
theorem aV.eu {t:TypeId} (h:aV P w g (.st t) x v):∃xs cs,x= .agg xs∧v= .agg ⟨cs⟩∧xs.length=(ae P deep t).length∧cs.length=(ae P deep t).length∧
  ∀(i:Nat) (ty:Ty) (x:PV) (c:Value),(ae P deep t)[i]? =some ty→xs[i]? =some x→cs[i]? =some c→aV P w g ty x c:=by
 cases h with
 | st _ xs cs hx hc h=>exact⟨xs,cs,rfl,rfl,hx,hc,h⟩
end inv
inductive bY (P:Program) (w:World) (g:G) (s:Nat):List Nat→AO→Prop
 | pv (p:List Nat) (t:Ty) (x:PV) (h:aV P w g t x (g.val s p)):bY P w g s p (.pv t x)
 | dead (p:List Nat):bY P w g s p .dead
 | box (p:List Nat) (E:TypeId) (cs:List AO) (b:Nat) (vs:List Value) (hv:g.val s p= .pointer (some ⟨b,0,none⟩))
   (hh:w.heap[b]? =some (.cells ⟨vs⟩ E (0,0))) (ht:g.tag b= .own s p) (hl:vs.length=cs.length)
   (hc:∀(i:Nat) (x:AO),cs[i]? =some x→bY P w g s (p++[i]) x) (nQ:∀(i:Nat) (x:AO),cs[i]? =some x→x≠ .dead→vs[i]? =some (g.val s (p++[i]))):bY P w g s p (.box E cs)
 | jt (p:List Nat) (E:TypeId) (hv:g.val s p= .slice none 0 0):bY P w g s p (.arr E [])
 | arr (p:List Nat) (E:TypeId) (l:List PV) (b off cap:Nat) (vs:List Value) (f:Nat→Value) (T:TypeId) (hv:g.val s p= .slice (some ⟨b,off,none⟩) l.length cap)
   (hh:w.heap[b]? =some (.cells ⟨vs⟩ T (0,0))) (ht:g.tag b= .own s p) (hl:l.length≤cap) (cU:off+cap*P.cellsOf E≤vs.length)
   (he:∀(i:Nat) (x:PV),l[i]? =some x→aV P w g (ai P E) x (f i))
   (hc:∀i,i<l.length→∀j,j<P.cellsOf E→vs[off+i*P.cellsOf E+j]? =(f i).cells[j]?):bY P w g s p (.arr E l)
 | og (p:List Nat) (E D:TypeId) (h:Option Nat) (hv:g.val s p= .slice none 0 0) (fQ:∀i,isHole h i=false→bY P w g s (p++[i]) (.arr D [])):bY P w g s p (.own E D [] h)
 | own (p:List Nat) (E D:TypeId) (l:List PV) (h:Option Nat) (b off cap:Nat) (vs:List Value) (T:TypeId) (hv:g.val s p= .slice (some ⟨b,off,none⟩) l.length cap)
   (hh:w.heap[b]? =some (.cells ⟨vs⟩ T (0,0))) (ht:g.tag b= .own s p) (hl:l.length≤cap) (cU:off+cap*P.cellsOf E≤vs.length) (h1:P.cellsOf E=1) (iK:ai P E= .sl D)
   (kW:∀(i:Nat) (x:PV),l[i]? =some x→x= .sl x.toList)
   (hc:∀i,i<l.length→isHole h i=false→vs[off+i]? =some (g.val s (p++[i])))
   (fQ:∀i,isHole h i=false→bY P w g s (p++[i]) (.arr D (nth default l i).toList)):bY P w g s p (.own E D l h)
 | map (p:List Nat) (k e:TypeId) (ks vs:List PV) (b:Nat) (es:Array MapEntry) (clock:Nat) (hv:g.val s p= .map (some b)) (hh:w.heap[b]? =some (.map es clock)) (ht:g.tag b= .own s p)
   (hk:ks.length=es.size∧mM es clock) (nz:vs.length=es.size)
   (h1:∀(i:Nat) (en:MapEntry) (x:PV),es[i]? =some en→ks[i]? =some x→aV P w g (ai P k) x en.key)
   (h2:∀(i:Nat) (en:MapEntry) (x:PV),es[i]? =some en→vs[i]? =some x→aV P w g (ai P e) x en.val):bY P w g s p (.map k e ks vs)
theorem bY.ext {P:Program} {w:World} {g:G} {w':World} {g':G} {s:Nat} {p:List Nat} {x:AO} (h:bY P w g s p x):
  ∀ {s':Nat} {p':List Nat},w.heap.size≤w'.heap.size→
  (∀b,b<w.heap.size→g.tag b= .free→g'.tag b= .free∧w'.heap[b]? =w.heap[b]?)→
  (∀r,g'.val s' (p'++r)=g.val s (p++r))→
  (∀b r,b<w.heap.size→g.tag b= .own s (p++r)→g'.tag b= .own s' (p'++r)∧w'.heap[b]? =w.heap[b]?)→bY P w' g' s' p' x:=by
 induction h with
 | pv p t x h=>
  intro s' p' hs hf hv ho
  refine .pv p' t x ?_
  have:=hv [];simp only[List.append_nil]at this
  rw[this];exact h.ext hs hf
 | dead p=>intro s' p' _ _ _ _;exact .dead p'
 | box p E cs b vs hv hh ht hl _ nQ ih=>
  intro s' p' hs hf bh ho
  have h0:=bh [];simp only[List.append_nil]at h0
  have hb:b<w.heap.size:=by
   rcases Nat.lt_or_ge b w.heap.size with h | h
   ·exact h
   ·rw[Array.getElem?_eq_none h]at hh;cases hh
  obtain⟨t1,t2⟩:=ho b [] hb (by simpa using ht)
  refine .box p' E cs b vs (by rw[h0];exact hv) (by rw[t2];exact hh) (by simpa using t1) hl (fun i x hx=> ?_) (fun i x hx hd=> ?_)
  ·refine ih i x hx hs hf (fun r=> ?_) (fun b r hb JI=> ?_)
   ·have:=bh (i::r);simpa using this
   ·have:=ho b (i::r) hb (by simpa using JI);simpa using this
  ·rw[nQ i x hx hd];have:=bh [i];rw[this]
 | jt p E hv=>
  intro s' p' hs hf bh ho
  have h0:=bh [];simp only[List.append_nil]at h0
  exact .jt p' E (by rw[h0];exact hv)
 | arr p E l b off cap vs f T hv hh ht hl cU he hc=>
  intro s' p' hs hf bh ho
  have h0:=bh [];simp only[List.append_nil]at h0
  have hb:b<w.heap.size:=by
   rcases Nat.lt_or_ge b w.heap.size with h | h
   ·exact h
   ·rw[Array.getElem?_eq_none h]at hh;cases hh
  obtain⟨t1,t2⟩:=ho b [] hb (by simpa using ht)
  exact .arr p' E l b off cap vs f T (by rw[h0];exact hv) (by rw[t2];exact hh) (by simpa using t1) hl cU (fun i x hx=>(he i x hx).ext hs hf) hc
 | og p E D hh hv _ ih=>
  intro s' p' hs hf bh ho
  have h0:=bh [];simp only[List.append_nil]at h0
  refine .og p' E D hh (by rw[h0];exact hv) (fun i hi=>ih i hi hs hf (fun r=> ?_) (fun b r hb JI=> ?_))
  ·have:=bh (i::r);simpa using this
  ·have:=ho b (i::r) hb (by simpa using JI);simpa using this
 | own p E D l h b off cap vs T hv hh ht hl cU h1 iK kW hc _ ih=>
  intro s' p' hs hf bh ho
  have h0:=bh [];simp only[List.append_nil]at h0
  obtain⟨t1,t2⟩:=ho b [] (bT hh) (by simpa using ht)
  refine .own p' E D l h b off cap vs T (by rw[h0];exact hv) (by rw[t2];exact hh) (by simpa using t1) hl cU h1 iK kW (fun i hi yB=> ?_) (fun i hi=>ih i hi hs hf (fun r=> ?_) (fun b r hb JI=> ?_))
  ·rw[hc i hi yB];have:=bh [i];rw[this]
  ·have:=bh (i::r);simpa using this
  ·have:=ho b (i::r) hb (by simpa using JI);simpa using this
 | map p k e ks vs b es clock hv hh ht hk nz h1 h2=>
  intro s' p' hs hf bh ho
  have h0:=bh [];simp only[List.append_nil]at h0
  obtain⟨t1,t2⟩:=ho b [] (bT hh) (by simpa using ht)
  exact .map p' k e ks vs b es clock (by rw[h0];exact hv) (by rw[t2];exact hh) (by simpa using t1) hk nz (fun i en x gL hx=>(h1 i en x gL hx).ext hs hf) (fun i en x gL hx=>(h2 i en x gL hx).ext hs hf)
inductive fm (P:Program) (w:World) (g:G) (st:St) (s:Nat):AV→Value→Prop
 | o (x:AO) (v:Value) (hv:x≠ .dead→v=g.val s []) (h:bY P w g s [] x):fm P w g st s (.o x) v
 | al (r:Nat) (p:List Nat) (v:Value) (h:obj st r p≠ .dead→v=g.val r p):fm P w g st s (.al r p) v
 | ptr (r:Nat) (p:List Nat) (off:Nat) (v:Value) (h:∀E cs,obj st r p= .box E cs→∃b,g.val r p= .pointer (some ⟨b,0,none⟩)∧v= .pointer (some ⟨b,off,none⟩)):fm P w g st s (.ptr r p off) v
 | el (r:Nat) (p:List Nat) (i off:Nat) (v:Value) (h:∀E m,(obj st r p).iF=some (E,m)→i<m∧∃b o n cap,g.val r p= .slice (some ⟨b,o,none⟩) n cap∧v= .pointer (some ⟨b,o+i*P.cellsOf E+off,none⟩)):fm P w g st s (.el r p i off) v
 | ip (E:TypeId) (x:PV) (off b o:Nat) (f:Value) (h:aV P w g (ai P E) x f) (hc:∀j,j<P.cellsOf E→w.cell? ⟨b,o+j,none⟩=f.cells[j]?) (ht:g.tag b= .free) (hb:b<w.heap.size):
   fm P w g st s (.ip E x off) (.pointer (some ⟨b,o+off,none⟩))
 | jg (xs:List AO) (vs:List Value) (hl:vs.length=xs.length) (h:∀(i:Nat) (x:AO) (v:Value),xs[i]? =some x→vs[i]? =some v→∃t y,x= .pv t y∧aV P w g t y v):fm P w g st s (.jg xs) (.tuple ⟨vs⟩)
 | lE (T:TypeId) (cs:List ek) (vs:List Value) (hl:vs.length=cs.length) (h3:∀v∈vs,v.oneCell'=true)
   (h4:∀(i:Nat) (E:TypeId) (v:Value),cs[i]? =some (.nil E)→vs[i]? =some v→v= .slice none 0 0) (h5:cw (ae P deep T) cs=true)
   (h1:∀(i:Nat) (t:Ty) (x:PV) (v:Value),cs[i]? =some (.pv t x)→vs[i]? =some v→aV P w g t x v)
   (h2:∀(i r:Nat) (p:List Nat) (v:Value),cs[i]? =some (.al r p)→vs[i]? =some v→obj st r p≠ .dead→v=g.val r p):fm P w g st s (.lE T cs) (.agg ⟨vs⟩)
 | clip (E:TypeId) (l:List PV) (a:Option Addr) (h:aV P w g (.sl E) (.sl l) (.slice a l.length l.length)):fm P w g st s (.clip E l) (.slice a l.length l.length)
 | fix (v:Value):fm P w g st s (.fix v) v
 | dead (v:Value):fm P w g st s .dead v
def Sm (n:String) (c:Option Value):Prop:=
 if n= "internal/bytealg.MaxLen" then∃m,c=some (.int .i64 m)else∃v,c=some v∧(v= .nilIface∨∃t p,v= .iface t p)
def Fw:List String:=["internal/bytealg.MaxLen", "strconv.ErrSyntax", "strconv.ErrRange"]
def mN (P:Program) (w:World) (g:G):Prop:=
 ∀n v,n∈Fw→P.globalNamed n=some v→g.tag v= .free∧v<w.heap.size∧Sm n (w.cell? ⟨v,0,none⟩)
theorem mN.db {P:Program} {w:World} {g:G} {w':World} {g':G} (h:mN P w g) (hs:w.heap.size≤w'.heap.size)
  (hf:∀b,b<w.heap.size→g.tag b= .free→g'.tag b= .free∧w'.heap[b]? =w.heap[b]?):mN P w' g':=by
 intro n v hn hv
 obtain⟨h1,h2,h3⟩:=h n v hn hv
 obtain⟨k1,k2⟩:=hf v h2 h1
 exact⟨k1,Nat.lt_of_lt_of_le h2 hs,by rw[World.cell?_of_block (w:=w) k2];exact h3⟩
structure Inv (P:Program) (st:St) (tv:List Value) (w:World) (g:G):Prop where
 len:tv.length=st.length
 slot:∀(s:Nat) (x:AV) (v:Value),st[s]? =some x→tv[s]? =some v→fm P w g st s x v
 fresh:∀b,w.heap.size≤b→g.tag b= .free
 vars:mN P w g
end Go.V
namespace Go.V
theorem bZ {α:Type} (d:α):∀(l:List α) (n:Nat),nth d l n=l[n]?.getD d
 | [],n=>by simp[nth]
 | x::l,0=>by simp[nth]
 | x::l,n+1=>by simp[nth,bZ d l n]
structure Good (P:Program) (N:Nat) (st:St) (a:Act) (hv:List Value) (w:World) (g:G):Prop where
 inv:Inv P st (a.tmps.toList++hv) w g
 sz:a.tmps.size=N
 OO:a.defers=[]
section
variable {P:Program} {N:Nat} {st:St} {a:Act} {hv:List Value} {w:World} {g:G}
theorem Good.len (h:Good P N st a hv w g):st.length=N+hv.length:=by
 have:=h.inv.len;simp at this;rw[←this,h.sz]
theorem Good.slot (h:Good P N st a hv w g) {t:Nat} (ht:t<N):fm P w g st t (get st t) (a.eval (.tmp t)):=by
 have hl:=h.len
 have hs:=h.sz
 have h1:st[t]? =some (get st t):=by
  rw[get,bZ,List.getElem?_eq_getElem (by omega)];rfl
 refine h.inv.slot t _ _ h1 ?_
 have Sn:t<a.tmps.size:=by omega
 rw[List.getElem?_append_left (by simpa using Sn)]
 simp[Act.eval,Sn]
theorem Good.JJ (h:Good P N st a hv w g) {i:Nat} {v:Value} (hi:hv[i]? =some v):fm P w g st (N+i) (get st (N+i)) v:=by
 have hl:=h.len
 have hs:=h.sz
 have b6:i<hv.length:=by
  rcases Nat.lt_or_ge i hv.length with h' | h'
  ·exact h'
  ·rw[List.getElem?_eq_none h']at hi;cases hi
 have h1:st[N+i]? =some (get st (N+i)):=by
  rw[get,bZ,List.getElem?_eq_getElem (by omega)];rfl
 refine h.inv.slot _ _ _ h1 ?_
 rw[List.getElem?_append_right (by simp;omega)]
 simp only[Array.length_toList,hs,Nat.add_sub_cancel_left];exact hi
theorem Good.owner (h:Good P N st a hv w g) {s:Nat} {x:AO} (hs:get st s= .o x):bY P w g s [] x:=by
 have hl:=h.len
 have b6:s<st.length:=by
  rcases Nat.lt_or_ge s st.length with h' | h'
  ·exact h'
  ·rw[get,bZ,List.getElem?_eq_none h']at hs;cases hs
 have h1:st[s]? =some (.o x):=by rw[List.getElem?_eq_getElem b6];rw[get,bZ,List.getElem?_eq_getElem b6]at hs;simpa using hs
 have bh:s<(a.tmps.toList++hv).length:=by rw[h.inv.len];exact b6
 have:=h.inv.slot s _ _ h1 (List.getElem?_eq_getElem bh)
 cases this with
 | o _ _ _ h=>exact h
theorem bY.at {s:Nat} {p:List Nat} {x:AO} (h:bY P w g s p x):∀(q:List Nat),bY P w g s (p++q) (x.at q):=by
 induction h with
 | og p E D h hv fQ ih=>intro q;cases q with
  | nil=>simpa[AO.at]using bY.og p E D h hv fQ
  | cons i q=>
   simp only[AO.at]
   cases hi:isHole h i with
   | true=>simpa using bY.dead _
   | false=>have:=ih i hi q;simpa[nth,PV.toList,default,instInhabitedPV]using this
 | own p E D l h b off cap vs T hv hh ht hl cU h1 iK kW hc fQ ih=>intro q;cases q with
  | nil=>simpa[AO.at]using bY.own p E D l h b off cap vs T hv hh ht hl cU h1 iK kW hc fQ
  | cons i q=>
   simp only[AO.at]
   cases hi:isHole h i with
   | true=>simpa using bY.dead _
   | false=>have:=ih i hi q;simpa using this
 | map p k e ks vs b es clock hv hh ht hk nz h1 h2=>intro q;cases q with
  | nil=>simpa[AO.at]using bY.map p k e ks vs b es clock hv hh ht hk nz h1 h2
  | cons i q=>simpa[AO.at]using bY.dead _
 | pv p t x h=>intro q;cases q with
  | nil=>simpa[AO.at]using bY.pv p t x h
  | cons i q=>simpa[AO.at]using bY.dead _
 | dead p=>intro q;cases q<;>simpa[AO.at]using bY.dead _
 | box p E cs b vs hv hh ht hl hc nQ ih=>
  intro q;cases q with
  | nil=>simpa[AO.at]using bY.box p E cs b vs hv hh ht hl hc nQ
  | cons i q=>
   simp only[AO.at]
   rw[bZ]
   cases hx:cs[i]? with
   | none=>
    simp only[Option.getD_none]
    have:AO.at .dead q= .dead:=by cases q<;>rfl
    rw[this];exact .dead _
   | some x=>have:=ih i x hx q;simpa using this
 | jt p E hv=>intro q;cases q with
  | nil=>simpa[AO.at]using bY.jt p E hv
  | cons i q=>simpa[AO.at]using bY.dead _
 | arr p E l b off cap vs f T hv hh ht hl cU he hc=>intro q;cases q with
  | nil=>simpa[AO.at]using bY.arr p E l b off cap vs f T hv hh ht hl cU he hc
  | cons i q=>simpa[AO.at]using bY.dead _
theorem Good.obj (h:Good P N st a hv w g) (s:Nat) (p:List Nat):bY P w g s p (obj st s p):=by
 unfold V.obj
 split
 ·rename_i x hx
  have:=(h.owner hx).at p;simpa using this
 ·exact .dead _
theorem bY.eK {s:Nat} {p:List Nat} {t:Ty} {x:PV} (h:bY P w g s p (.pv t x)):aV P w g t x (g.val s p):=by cases h;assumption
theorem lG {t:Ty} {v:Value} {x:PV} (h:gj t v=some x):aV P w g t x v:=by
 unfold gj at h
 split at h
 ·split at h
  ·rename_i k n _ j
   cases hd:decide (j=k)<;>simp[hd]at h
   subst h;simp at hd;subst hd;exact .int _ _
  ·cases h
 ·split at h
  ·cases h;exact .bool _
  ·cases h
 ·split at h
  ·cases h;exact .str _
  ·cases h
 ·split at h
  ·split at h
   ·cases h;exact .Jn _
   ·cases h
  ·cases h
 ·split at h
  ·cases h;exact .Qu
  ·cases h
 ·split at h
  ·cases h;exact .Qv
  ·cases h
 ·split at h
  ·cases h;exact .UE
  ·cases h
 ·split at h
  ·cases h;exact .UF _ _
  ·cases h
 ·cases h
theorem lV:∀ {ts:List Ty} {vs:List Value} {xs:List PV},dP ts vs=some xs→
  xs.length=ts.length∧vs.length=ts.length∧∀(i:Nat) (ty:Ty) (x:PV) (c:Value),ts[i]? =some ty→xs[i]? =some x→vs[i]? =some c→aV P w g ty x c
 | [],[],xs,h=>by simp[dP]at h;subst h;simp
 | [],_::_,_,h=>by simp[dP]at h
 | _::_,[],_,h=>by simp[dP]at h
 | t::ts,v::vs,xs,h=>by
  simp only[dP]at h
  split at h
  ·rename_i x hx
   split at h
   ·rename_i ys hy
    cases h
    obtain⟨h1,h2,h3⟩:=lV hy
    refine⟨by simp[h1],by simp[h2], ?_⟩
    intro i ty z c ht hz hc
    cases i with
    | zero=>simp at ht hz hc;subst ht hz hc;exact lG hx
    | succ i=>simp at ht hz hc;exact h3 i ty z c ht hz hc
   ·cases h
  ·cases h
theorem jM {t:TypeId} {v:Value} {x:PV} (h:mJ P t v=some x):aV P w g (ai P t) x v:=by
 unfold mJ at h
 split at h
 ·rename_i T hT
  split at h
  ·rename_i cs
   split at h
   ·rename_i xs hx
    cases h
    obtain⟨h1,h2,h3⟩:=lV (P:=P) (w:=w) (g:=g) hx
    have UG:T=t:=by
     unfold ai at hT;split at hT<;>first | (cases hT;done) | (injection hT with hT;exact hT.symm) | cases hT
    subst UG
    rw[hT]
    have:=aV.st (P:=P) (w:=w) (g:=g) T xs cs.toList h1 h2 h3
    simpa using this
   ·cases h
  ·cases h
 ·exact lG h
theorem uA {s:Nat} {p:List Nat} {t:Ty} {x:AO} {y:PV} (h:bY P w g s p x) (hx:x.gK t=some y):aV P w g t y (g.val s p)∧x= .pv t y:=by
 cases x with
 | pv u v=>
  simp only[AO.gK]at hx
  cases he:u.eq t with
  | false=>simp[he]at hx
  | true=>simp[he]at hx;subst hx;have:=Ty.iH he;subst this;exact⟨h.eK,rfl⟩
 | _=>simp[AO.gK]at hx
theorem pB:∀ {ts:List Ty} {cs:List ek},cw ts cs=true→cs.length=ts.length∧∀(i:Nat) (t:Ty),ts[i]? =some t→(∀u x,cs[i]? =some (.pv u x)→u=t)∧∀E,cs[i]? =some (.nil E)→t= .sl E
 | [],[],_=>⟨rfl,fun i t h=>by simp at h⟩
 | [],_::_,h=>by simp[cw]at h
 | _::_,[],h=>by simp[cw]at h
 | t::ts,c::cs,h=>by
  have key:cw ts cs=true∧(∀u x,c= .pv u x→u=t)∧∀E,c= .nil E→t= .sl E:=by
   cases c with
   | pv u x=>
    simp only[cw,Bool.and_eq_true]at h
    exact⟨h.2,fun u' x' e=>by cases e;exact Ty.iH h.1,fun E e=>by cases e⟩
   | nil E=>
    simp only[cw,Bool.and_eq_true]at h
    exact⟨h.2,fun u' x' e=>(by cases e),fun E' e=>by cases e;exact(Ty.iH h.1).symm⟩
   | al s p=>
    simp only[cw]at h
    exact⟨h,fun u' x' e=>(by cases e),fun E' e=>by cases e⟩
  obtain⟨h1,h2⟩:=pB key.1
  refine⟨by simp[h1],fun i t' ht=> ?_⟩
  cases i with
  | zero=>
   simp at ht;subst ht
   exact⟨fun u x e=>key.2.1 u x (by simpa using e),fun E e=>key.2.2 E (by simpa using e)⟩
  | succ i=>
   simp at ht
   obtain⟨k1,k2⟩:=h2 i t' ht
   exact⟨fun u x e=>k1 u x (by simpa using e),fun E e=>k2 E (by simpa using e)⟩
theorem AP {T:TypeId} {cs:List ek} {vs:List Value} (hl:vs.length=cs.length)
  (h4:∀(i:Nat) (E:TypeId) (v:Value),cs[i]? =some (.nil E)→vs[i]? =some v→v= .slice none 0 0) (h5:cw (ae P deep T) cs=true)
  (h1:∀(i:Nat) (t:Ty) (x:PV) (v:Value),cs[i]? =some (.pv t x)→vs[i]? =some v→aV P w g t x v) (hp:cs.all qx=true):aV P w g (.st T) (.agg (cs.map fg)) (.agg ⟨vs⟩):=by
 obtain⟨k1,k2⟩:=pB h5
 refine .st T _ vs (by simp[k1]) (by omega) (fun i ty x c iK hx hc=> ?_)
 rw[List.getElem?_map]at hx
 obtain⟨q1,q2⟩:=k2 i ty iK
 cases CV:cs[i]? with
 | none=>rw[CV]at hx;cases hx
 | some cl=>
  rw[CV]at hx
  cases cl with
  | pv u y=>
   simp[fg]at hx;subst hx
   rw[←q1 u y CV];exact h1 i u y c CV hc
  | nil E=>
   simp[fg]at hx;subst hx
   rw[q2 E CV,h4 i E c CV hc];exact .Jn E
  | al s p=>
   rw[List.all_eq_true]at hp
   have:=hp _ (List.mem_of_getElem? CV)
   cases this
theorem Good.gK (h:Good P N st a hv w g) {i:Nat} (hi:i<N) {t:Ty} {y:PV} (hx:(get st i).gK st t=some y):aV P w g t y (a.eval (.tmp i)):=by
 have hs:=h.slot hi
 generalize hg:get st i=z at hs hx
 generalize a.eval (.tmp i)=v at hs ⊢
 cases hs with
 | o x v bh ho=>
  simp only[AV.gK]at hx
  obtain⟨h1,h2⟩:=uA ho hx
  rw[bh (by rw[h2];simp)];exact h1
 | al r p v bh=>
  simp only[AV.gK]at hx
  obtain⟨h1,h2⟩:=uA (h.obj r p) hx
  rw[bh (by rw[h2];simp)];exact h1
 | clip E l a h=>
  simp only[AV.gK]at hx
  cases he:(Ty.sl E).eq t with
  | false=>simp[he]at hx
  | true=>simp[he]at hx;subst hx;have:=Ty.iH he;subst this;exact h
 | lE T cs vs hl h3 h4 h5 h1 h2=>
  simp only[AV.gK]at hx
  cases he:((Ty.st T).eq t&&cs.all qx)with
  | false=>rw[he]at hx;cases hx
  | true=>
   rw[he]at hx
   simp only[cond_true,Option.some.injEq]at hx
   subst hx
   simp only[Bool.and_eq_true]at he
   have:=Ty.iH he.1
   subst this
   exact AP hl h4 h5 h1 he.2
 | _=>simp[AV.gK]at hx
theorem Good.rd (h:Good P N st a hv w g) {t:TypeId} {x:Operand} {y:PV} (br:bL N x=true) (hx:rd P st t x=some y):aV P w g (ai P t) y (a.eval x):=by
 cases x with
 | tmp i=>simp[bL]at br;exact h.gK br hx
 | const v=>exact jM hx
 | func f=>
  simp only[V.rd]at hx
  split at hx
  ·rename_i ht
   cases hx
   rw[ht];exact .wN f [] [] rfl (fun i x v hx=>by simp at hx)
  ·cases hx
 | _=>simp[V.rd]at hx
theorem Good.ck (h:Good P N st a hv w g) {x:Operand} {y:PV} (br:bL N x=true) (hx:ck st x=some y):∃k n,y= .int k n∧a.eval x= .int k n:=by
 cases x with
 | tmp i=>
  simp[bL]at br
  have hs:=h.slot br
  simp only[V.ck]at hx
  generalize hg:get st i=z at hs hx
  generalize a.eval (.tmp i)=v at hs ⊢
  cases hs with
  | o x v bh ho=>
   cases x with
   | pv t u=>
    cases t<;>simp at hx
    subst hx
    obtain⟨n,h1,h2⟩:=ho.eK.cO
    exact⟨_,n,h1,by rw[bh (by simp)];exact h2⟩
   | _=>simp at hx
  | al r p v bh=>
   simp only at hx
   have AQ:=h.obj r p
   generalize V.obj st r p=q at hx AQ bh
   cases q with
   | pv t u=>
    cases t<;>simp at hx
    subst hx
    obtain⟨n,h1,h2⟩:=AQ.eK.cO
    exact⟨_,n,h1,by rw[bh (by simp)];exact h2⟩
   | _=>simp at hx
  | _=>simp at hx
 | const v=>cases v<;>simp[V.ck]at hx;subst hx;exact⟨_,_,rfl,rfl⟩
 | _=>simp[V.ck]at hx
end
end Go.V
namespace Go.V
theorem get_map (f:AV→AV) (hf:f .dead= .dead) (st:St) (r:Nat):get (st.map f) r=f (get st r):=by
 simp only[get,bZ,List.getElem?_map]
 cases st[r]? <;>simp[hf]
theorem cj (s:Nat) (p:List Nat) (st:St) (r:Nat):get (kill s p st) r=bif (get st r).ar s p then .dead else get st r:=by
 unfold kill;rw[get_map _ (by simp[AV.ar])]
theorem bU (st:St) (d:Nat) (v:AV) (r:Nat):get (st.set d v) r=if r=d∧d<st.length then v else get st r:=by
 simp only[get,bZ,List.getElem?_set]
 by_cases h:d=r
 ·subst h
  by_cases hl:d<st.length
  ·simp[hl]
  ·simp[hl]
 ·simp[h,Ne.symm h]
theorem bC (s:Nat) (p:List Nat) (st:St):(kill s p st).length=st.length:=by simp[kill]
theorem gM (d:Nat) (v:AV) (st:St):(put d v st).length=st.length:=by simp[put,kill]
theorem cX (d:Nat) (v:AV) (st:St) (r:Nat):get (put d v st) r=if r=d∧d<st.length then v else(bif (get st r).ar d []then .dead else get st r):=by
 unfold put;rw[bU,cj,bC]
theorem ju {st aZ:St} {r:Nat} (h:∀x,get st r= .o x↔get aZ r= .o x) (p:List Nat):obj aZ r p=obj st r p:=by
 unfold obj
 cases hg:get st r with
 | o x=>rw[(h x).1 hg]
 | _=>
  cases ZK:get aZ r with
  | o y=>have:=(h y).2 ZK;rw[hg]at this;cases this
  | _=>rfl
theorem gN (s:Nat) (p:List Nat) (st:St) (r:Nat) (x:AO):get st r= .o x↔get (kill s p st) r= .o x:=by
 rw[cj]
 cases hg:get st r with
 | o y=>simp[AV.ar]
 | al s' q=>simp only[AV.ar];cases (Nat.beq s s'&&pre p q)<;>simp
 | ptr s' q off=>simp only[AV.ar];cases (Nat.beq s s'&&pre p q)<;>simp
 | el s' q i off=>simp only[AV.ar];cases (Nat.beq s s'&&pre p q)<;>simp
 | lE T cs=>simp only[AV.ar];cases (cs.any fun c=>c.ar s p)<;>simp
 | ip=>simp[AV.ar]
 | jg=>simp[AV.ar]
 | clip=>simp[AV.ar]
 | fix=>simp[AV.ar]
 | dead=>simp[AV.ar]
theorem fX (s:Nat) (p:List Nat) (st:St) (r:Nat) (q:List Nat):obj (kill s p st) r q=obj st r q:=
 ju (gN s p st r) q
theorem yC {st:St} {d r:Nat} (v:AV) (h:r≠d) (q:List Nat):obj (st.set d v) r q=obj st r q:=by
 unfold obj;rw[bU];simp[h]
theorem ki {st:St} {d r:Nat} (v:AV) (h:r≠d) (q:List Nat):obj (put d v st) r q=obj st r q:=by
 unfold put;rw[yC v h,fX]
theorem cQ (a b:Nat):Nat.beq a b=decide (a=b):=by
 rcases Nat.decEq a b with h | h
 ·simp only[h,decide_false];exact Bool.eq_false_iff.2 (fun hb=>h (Nat.eq_of_beq_eq_true hb))
 ·subst h;simp
theorem eJ (q:List Nat):pre [] q=true:=by cases q<;>rfl
structure uB (w:World) (g:G) (w':World) (g':G) (d:Option Nat):Prop where
 os:w'.os=w.os
 tape:w'.tape=w.tape
 output:w'.output=w.output
 size:w.heap.size≤w'.heap.size
 Sp:∀b,b<w.heap.size→g'.tag b=g.tag b∧w'.heap[b]? =w.heap[b]?
 val:∀s p,d≠some s→g'.val s p=g.val s p
 new:∀b,w.heap.size≤b→g'.tag b≠ .out
 fresh:∀b,w'.heap.size≤b→g'.tag b= .free
theorem uB.fr {w:World} {g:G} {w':World} {g':G} {d:Option Nat} (h:uB w g w' g' d):Fr w g w' g':=by
 refine⟨h.os,h.tape,h.output,h.size,fun b hb ht=> ?_,fun b hb ht=> ?_,fun b hb=> ?_,h.fresh⟩
 ·obtain⟨h1,h2⟩:=h.Sp b hb;exact⟨h1.trans ht,h2⟩
 ·obtain⟨h1,h2⟩:=h.Sp b hb;exact⟨h1.trans ht,h2⟩
 ·rcases Nat.lt_or_ge b w.heap.size with h' | h'
  ·exact⟨(h.Sp b h').1▸hb,h'⟩
  ·exact absurd hb (h.new b h')
theorem uB.refl (w:World) (g:G) (d:Option Nat) (h:∀b,w.heap.size≤b→g.tag b= .free):uB w g w g d:=
 ⟨rfl,rfl,rfl,Nat.le_refl _,fun _ _=>⟨rfl,rfl⟩,fun _ _ _=>rfl,fun b hb=>by rw[h b hb];simp,h⟩
def AV.names (x:AV) (r:Nat) (p:List Nat):Prop:=x= .al r p∨(∃off,x= .ptr r p off)∨(∃i off,x= .el r p i off)∨∃T cs,x= .lE T cs∧ek.al r p∈cs
theorem uC (r:Nat) (p:List Nat):(AV.al r p).names r p:= .inl rfl
theorem rR (r:Nat) (p:List Nat) (off:Nat):(AV.ptr r p off).names r p:= .inr (.inl ⟨off,rfl⟩)
theorem uD (r:Nat) (p:List Nat) (i off:Nat):(AV.el r p i off).names r p:= .inr (.inr (.inl ⟨i,off,rfl⟩))
theorem rS {T:TypeId} {cs:List ek} {i r:Nat} {p:List Nat} (h:cs[i]? =some (.al r p)):(AV.lE T cs).names r p:= .inr (.inr (.inr ⟨T,cs,rfl,List.mem_of_getElem? h⟩))
theorem iL {x:AV} {r s:Nat} {p q:List Nat} (h:x.names r p) (hr:x.ar s q=false):(Nat.beq s r&&pre q p)=false:=by
 rcases h with rfl | ⟨off,rfl⟩ | ⟨i,off,rfl⟩ | ⟨T,cs,rfl,hm⟩
 ·exact hr
 ·exact hr
 ·exact hr
 ·simp only[AV.ar,List.any_eq_false]at hr
  have:=hr _ hm
  simpa[ek.ar]using this
section
variable {P:Program} {N:Nat} {st:St} {a:Act} {hv:List Value} {w w':World} {g g':G}
theorem fm.db {aZ:St} {s:Nat} {x:AV} {v:Value} (h:fm P w g st s x v) (hs:w.heap.size≤w'.heap.size)
  (hf:∀b,b<w.heap.size→g.tag b= .free→g'.tag b= .free∧w'.heap[b]? =w.heap[b]?)
  (ho:∀y,x= .o y→y≠ .dead→(∀r,g'.val s r=g.val s r)∧(∀b r,b<w.heap.size→g.tag b= .own s r→g'.tag b= .own s r∧w'.heap[b]? =w.heap[b]?))
  (hr:∀r p,x.names r p→(obj aZ r p= .dead)∨(obj aZ r p=obj st r p∧g'.val r p=g.val r p)):
  fm P w' g' aZ s x v:=by
 cases h with
 | o x v hv h=>
  by_cases hd:x= .dead
  ·subst hd;exact .o _ v (fun h=>absurd rfl h) (.dead _)
  ·obtain⟨h1,h2⟩:=ho x rfl hd
   refine .o x v (fun _=> ?_) (h.ext hs hf (fun r=>by simpa using h1 r) (fun b r hb ht=>by simpa using h2 b r hb (by simpa using ht)))
   rw[hv hd,h1 []]
 | al r p v h=>
  refine .al r p v (fun hd=> ?_)
  rcases hr r p (uC r p)with h1 | ⟨h1,h2⟩
  ·exact absurd h1 hd
  ·rw[h2];exact h (by rw[←h1];exact hd)
 | ptr r p off v h=>
  refine .ptr r p off v (fun E cs he=> ?_)
  rcases hr r p (rR r p off)with h1 | ⟨h1,h2⟩
  ·rw[h1]at he;cases he
  ·rw[h2];exact h E cs (by rw[←h1];exact he)
 | el r p i off v h=>
  refine .el r p i off v (fun E l he=> ?_)
  rcases hr r p (uD r p i off)with h1 | ⟨h1,h2⟩
  ·rw[h1]at he;cases he
  ·rw[h2];exact h E l (by rw[←h1];exact he)
 | lE T cs vs hl h3 h4 h5 h1 h2=>
  refine .lE T cs vs hl h3 h4 h5 (fun i t x v hx hv=>(h1 i t x v hx hv).ext hs hf) (fun i r p v hx hv hd=> ?_)
  rcases hr r p (rS hx)with e1 | ⟨e1,e2⟩
  ·exact absurd e1 hd
  ·rw[e2];exact h2 i r p v hx hv (by rw[←e1];exact hd)
 | clip E l a h=>exact .clip E l a (h.ext hs hf)
 | fix v=>exact .fix v
 | ip E x off b o f h hc ht hb=>
  obtain⟨h1,h2⟩:=hf b hb ht
  exact .ip E x off b o f (h.ext hs hf) (fun j hj=>by rw[World.cell?_of_block (w:=w) h2];exact hc j hj) h1 (Nat.lt_of_lt_of_le hb hs)
 | jg xs vs hl h=>
  refine .jg xs vs hl (fun i x v hx hv=> ?_)
  obtain⟨t,y,h1,h2⟩:=h i x v hx hv
  exact⟨t,y,h1,h2.ext hs hf⟩
 | dead v=>exact .dead v
theorem gE {st:St} {s:Nat} {x:AV} (h:st[s]? =some x):get st s=x:=by simp[get,bZ,h]
theorem Nu {t:Nat} (a:Act) (h:t<a.tmps.size):a.tmps.toList[t]? =some (a.eval (.tmp t)):=by
 simp[Act.eval,h]
theorem Good.put (h:Good P N st a hv w g) {d:Nat} (hd:d<N) (q:uB w g w' g' (some d)) {av:AV} {v:Value} (hs:fm P w' g' st d av v):
  Good P N (V.put d av st) (a.put (some d) v) hv w' g':=by
 have hlen:=h.len
 have eC:=h.sz
 refine⟨⟨?_, ?_,q.fresh,h.inv.vars.db q.size q.fr.free⟩,by simp[Act.put,eC],by simpa[Act.put]using h.OO⟩
 ·have:=h.inv.len
  rw[gM];simp[Act.put]at this ⊢;exact this
 ·intro s x u hx hu
  have mO:=gE hx
  rw[cX]at mO
  by_cases wI:s=d
  ·subst wI
   have Qx:s<st.length:=by omega
   simp[Qx]at mO
   subst mO
   have:u=v:=by
    have h1:s<(a.tmps.setIfInBounds s v).toList.length:=by simp;omega
    rw[List.getElem?_append_left (by simpa[Act.put]using h1)]at hu
    simp[Act.put,eC,hd]at hu;exact hu.symm
   subst this
   cases hs with
   | o x _ hv h=>exact .o x _ hv h
   | al r p _ h'=>
    refine .al r p _ (fun dc=> ?_)
    by_cases lH:r=s
    ·subst lH
     exfalso;apply dc;unfold V.obj;rw[cX];simp[Qx]
    ·rw[ki _ lH]at dc;exact h' dc
   | ptr r p off _ h'=>
    refine .ptr r p off _ (fun E cs he=> ?_)
    by_cases lH:r=s
    ·subst lH
     unfold V.obj at he;rw[cX]at he;simp[Qx]at he
    ·rw[ki _ lH]at he;exact h' E cs he
   | el r p i off _ h'=>
    refine .el r p i off _ (fun E l he=> ?_)
    by_cases lH:r=s
    ·subst lH
     unfold V.obj at he;rw[cX]at he;simp[Qx,AO.iF]at he
    ·rw[ki _ lH]at he;exact h' E l he
   | ip E x off b o f h hc ht hb=>exact .ip E x off b o f h hc ht hb
   | jg xs vs hl h=>exact .jg xs vs hl h
   | lE T cs vs hl h3 h4 h5 h1 h2=>
    refine .lE T cs vs hl h3 h4 h5 h1 (fun i r p v hx hv hd=> ?_)
    by_cases lH:r=s
    ·subst lH
     exfalso;apply hd;unfold V.obj;rw[cX];simp[Qx]
    ·rw[ki _ lH]at hd;exact h2 i r p v hx hv hd
   | clip E l a h=>exact .clip E l a h
   | fix _=>exact .fix _
   | dead _=>exact .dead _
  ·simp only[wI,false_and,if_false]at mO
   cases AR:(get st s).ar d []with
   | true=>simp[AR]at mO;subst mO;exact .dead u
   | false=>
    simp[AR]at mO
    have b6:s<st.length:=by
     have:=List.getElem?_eq_some_iff.1 hx;obtain⟨hh,_⟩:=this;rw[gM]at hh;exact hh
    have JK:st[s]? =some x:=by rw[List.getElem?_eq_getElem b6];rw[get,bZ,List.getElem?_eq_getElem b6]at mO;simpa using mO
    have Na:(a.tmps.toList++hv)[s]? =some u:=by
     rw[←hu]
     by_cases ZL:s<N
     ·rw[List.getElem?_append_left (by simp;omega),List.getElem?_append_left (by simp[Act.put];omega)]
      simp[Act.put,Ne.symm wI]
     ·rw[List.getElem?_append_right (by simp;omega),List.getElem?_append_right (by simp[Act.put];omega)]
      simp[Act.put]
    refine(h.inv.slot s x u JK Na).db q.size q.fr.free (fun y _ _=>⟨fun r=>q.val s r (by simpa using Ne.symm wI),fun b r hb ht=> ?_⟩) (fun r p UH=> ?_)
    ·obtain⟨h1,h2⟩:=q.Sp b hb;exact⟨h1.trans ht,h2⟩
    ·have lH:r≠d:=by
      intro lH
      rw[←mO]at UH
      have:=iL UH AR
      simp[lH,eJ]at this
     exact .inr ⟨ki _ lH p,q.val r p (by simpa using Ne.symm lH)⟩
theorem Good.same (h:Good P N st a hv w g) (q:uB w g w' g' none):Good P N st a hv w' g':=by
 refine⟨⟨h.inv.len,fun s x u hx hu=> ?_,q.fresh,h.inv.vars.db q.size q.fr.free⟩,h.sz,h.OO⟩
 refine(h.inv.slot s x u hx hu).db q.size q.fr.free (fun y _ _=>⟨fun r=>q.val s r (by simp),fun b r hb ht=> ?_⟩) (fun r p _=> .inr ⟨rfl,q.val r p (by simp)⟩)
 obtain⟨h1,h2⟩:=q.Sp b hb;exact⟨h1.trans ht,h2⟩
theorem Good.gy (h:Good P N st a hv w g) {d:Option Nat} (hd:∀i,d=some i→i<N) (q:uB w g w' g' d) {av:AV} {v:Value} (hs:∀i,d=some i→fm P w' g' st i av v):
  Good P N (V.gy d av st) (a.put d v) hv w' g':=by
 cases d with
 | none=>exact h.same q
 | some i=>exact h.put (hd i rfl) q (hs i rfl)
end
end Go.V
namespace Go.V
section
variable {P:Program} {w:World} {g:G}
theorem lW {t:TypeId} {k:IntKind} (h:ai P t= .int k):P.underlying t=some (.int k):=by
 unfold ai at h;split at h<;>first | (injection h with h;subst h;assumption) | cases h
theorem rT {t:TypeId} (h:ai P t= .bool):P.underlying t=some .bool:=by
 unfold ai at h;split at h<;>first | assumption | cases h
theorem gz {t:TypeId} (h:ai P t= .str):P.underlying t=some .string:=by
 unfold ai at h;split at h<;>first | assumption | cases h
theorem ec {t:TypeId} {e:TypeId} (h:ai P t= .sl e):P.underlying t=some (.slice e):=by
 unfold ai at h;split at h<;>first | (injection h with h;subst h;assumption) | cases h
theorem qE {t u:TypeId} (h:ai P t= .st u):u=t∧∃d,P.underlying t=some d∧((∃fs,d= .struct fs)∨∃n e,d= .array n e):=by
 unfold ai at h
 split at h<;>first | (injection h with h;exact⟨h.symm,_,by assumption, .inl ⟨_,rfl⟩⟩) | (injection h with h;exact⟨h.symm,_,by assumption, .inr ⟨_,_,rfl⟩⟩) | cases h
theorem tY {t k e:TypeId} (h:ai P t= .mp k e):P.underlying t=some (.map k e):=by
 unfold ai at h;split at h<;>first | (injection h with h1 h2;subst h1 h2;assumption) | cases h
theorem dD {t:TypeId} (h:aO (ai P t)=true):ai P t= .st t:=by
 cases ht:ai P t<;>simp[ht,aO]at h
 rw[(qE ht).1]
theorem qF {t:TypeId} (h:ai P t= .st t):(isAgg t).run P w= .ok true w:=by
 obtain⟨_,d,hu,⟨fs,rfl⟩ | ⟨n,e,rfl⟩⟩:=qE h<;>simp[isAgg,run_underlying hu]
theorem qG {t:TypeId} (h:bA (ai P t)=true):∃d,P.underlying t=some d∧(∀fs,d≠ .struct fs)∧(∀n e,d≠ .array n e):=by
 unfold ai at h
 split at h<;>first | (simp[bA]at h;done) | exact⟨_,by assumption,by simp,by simp⟩
theorem lX {t:TypeId} (h:bA (ai P t)=true):(isAgg t).run P w= .ok false w:=by
 obtain⟨d,hd,h1,h2⟩:=qG h
 simp only[isAgg,Sem.run_bind,run_underlying hd,Result.andThen_ok]
 cases d<;>first | rfl | exact absurd rfl (h1 _) | exact absurd rfl (h2 _ _)
theorem run_sizeOf {t:TypeId} {d:TypeDesc} (h:P.underlying t=some d):(sizeOf t).run P w= .ok (P.cellsOf t) w:=by
 unfold Program.underlying at h
 cases hi:P.info? t with
 | none=>rw[hi]at h;cases h
 | some i=>simp[sizeOf,typeInfo,Program.cellsOf,hi]
theorem jX {t:TypeId} (h:ai P t= .st t) (a:Addr) (cs:List Value) (hn:cs.length=P.cellsOf t) (hc:∀j v,cs[j]? =some v→w.cell? (a.add j)=some v):
  (loadVar t a).run P w= .ok (.agg ⟨cs⟩) w:=by
 obtain⟨_,d,hu,_⟩:=qE h
 have:=run_loadCells_list (P:=P) (w:=w) a cs hc
 simp only[loadVar,Sem.run_bind,qF h,Result.andThen_ok,if_true,run_sizeOf hu, ←hn,this,Sem.run_pure]
theorem cq {t:TypeId} (h:bA (ai P t)=true) (a:Addr) (v:Value) (hc:w.cell? a=some v):
  (loadVar t a).run P w= .ok v w:=by
 simp[loadVar,lX h,hc]
theorem iM (b o n:Nat):Addr.add ⟨b,o,none⟩ n=⟨b,o+n,none⟩:=Addr.add_lit b o n
theorem lY (xs:List PV) (j:Nat):(PV.agg xs).cell j=xs[j]?.getD default:=by simp[PV.cell,PV.cells]
theorem gO:∀ {ts us:List Ty} {i:Nat} {t:Ty},lF ts us=true→ts[i]? =some t→us[i]? =some t
 | [],_,i,t,_,h=>by simp at h
 | _::_,[],_,_,h,_=>by simp[lF]at h
 | a::ts,b::us,i,t,h,ht=>by
  simp only[lF,Bool.and_eq_true]at h
  cases i with
  | zero=>simp at ht ⊢;rw[←Ty.iH h.1];exact ht
  | succ i=>simp at ht ⊢;exact gO h.2 ht
theorem sP {E T:TypeId} {x y:PV} {off:Nat} {f:Value} (h:aV P w g (ai P E) x f) (hs:qz P E T x off=some y):
  (ai P T= .st T∧∃cs,cs.length=P.cellsOf T∧aV P w g (ai P T) y (.agg ⟨cs⟩)∧(∀j v,cs[j]? =some v→f.cells[off+j]? =some v∧off+j<P.cellsOf E))∨
  (bA (ai P T)=true∧∃v,aV P w g (ai P T) y v∧f.cells[off]? =some v∧(aO (ai P E)=true→off<(ae P deep E).length)∧(P.cellsOf E=1∨P.cellsOf E=(ae P deep E).length)∧(aO (ai P E)=false→off=0∧P.cellsOf E=1)∧(aO (ai P E)=true→P.cellsOf E=(ae P deep E).length)):=by
 unfold qz at hs
 cases hE:aO (ai P E)with
 | true=>
  have UI:=dD hE
  rw[UI]at h
  obtain⟨xs,cs,rfl,rfl,hx,hc,jN⟩:=h.eu
  simp only[hE,cond_true]at hs
  cases eC:Nat.beq (P.cellsOf E) (ae P deep E).length with
  | false=>simp[eC]at hs
  | true=>
   have Nv:=Nat.eq_of_beq_eq_true eC
   simp only[eC,cond_true]at hs
   cases hT:aO (ai P T)with
   | true=>
    have wJ:=dD hT
    simp only[hT,cond_true]at hs
    cases Qy:Nat.beq (P.cellsOf T) (ae P deep T).length with
    | false=>simp[Qy]at hs
    | true=>
     have Ye:=Nat.eq_of_beq_eq_true Qy
     simp only[Qy,cond_true]at hs
     left
     refine⟨wJ, ?_⟩
     cases hq:(Nat.beq off 0&&Nat.beq T E)with
     | true=>
      simp only[hq,cond_true]at hs
      cases hs
      simp only[Bool.and_eq_true]at hq
      have h1:=Nat.eq_of_beq_eq_true hq.1
      have h2:=Nat.eq_of_beq_eq_true hq.2
      subst h1;subst h2
      refine⟨cs,by omega,by rw[wJ];exact h,fun j v hj=>⟨by simpa[Value.cells]using hj, ?_⟩⟩
      have:=(List.getElem?_eq_some_iff.1 hj).1;omega
     | false=>
      simp only[hq,cond_false]at hs
      cases hp:lF (ae P deep T) ((ae P deep E).drop off)with
      | false=>simp[hp]at hs
      | true=>
       simp only[hp,cond_true]at hs
       cases hs
       have hle:∀j,j<(ae P deep T).length→off+j<(ae P deep E).length:=by
        intro j hj
        have:=gO hp (List.getElem?_eq_getElem hj)
        rw[List.getElem?_drop]at this
        exact(List.getElem?_eq_some_iff.1 this).1
       refine⟨(cs.drop off).take (ae P deep T).length, ?_, ?_, ?_⟩
       ·simp only[List.length_take,List.length_drop]
        rcases Nat.eq_zero_or_pos (ae P deep T).length with h0 | h0
        ·omega
        ·have:=hle ((ae P deep T).length-1) (by omega);omega
       ·rw[wJ]
        refine .st T _ _ (by simp[bB]) ?_ ?_
        ·simp only[List.length_take,List.length_drop]
         rcases Nat.eq_zero_or_pos (ae P deep T).length with h0 | h0
         ·omega
         ·have:=hle ((ae P deep T).length-1) (by omega);omega
        ·intro i ty z c ht hz Fx
         have hi:=(List.getElem?_eq_some_iff.1 ht).1
         have Sn:=gO hp ht
         rw[List.getElem?_drop]at Sn
         have b6:=hle i hi
         simp only[bB,List.getElem?_map,List.getElem?_range hi,Option.map_some,Option.some.injEq]at hz
         rw[List.getElem?_take,if_pos hi,List.getElem?_drop]at Fx
         refine jN (off+i) ty z c Sn ?_ Fx
         rw[←hz,lY,List.getElem?_eq_getElem (by omega)];rfl
       ·intro j v hj
        have wK:=(List.getElem?_eq_some_iff.1 hj).1
        simp only[List.length_take]at wK
        rw[List.getElem?_take,if_pos (by omega),List.getElem?_drop]at hj
        refine⟨by simpa[Value.cells]using hj, ?_⟩
        have:=hle j (by omega);omega
   | false=>
    simp only[hT,cond_false]at hs
    cases hq:(decide (off<(ae P deep E).length)&&((nth .no (ae P deep E) off).eq (ai P T)&&bA (ai P T)))with
    | false=>simp[hq]at hs
    | true=>
     simp only[hq,cond_true,Option.some.injEq]at hs
     simp only[Bool.and_eq_true,decide_eq_true_eq]at hq
     obtain⟨b6,heq,AS⟩:=hq
     have Vv:=Ty.iH heq
     right
     have Vw:off<cs.length:=by omega
     refine⟨AS,cs[off], ?_, ?_,fun _=>b6, .inr Nv,(fun h=>by simp at h),fun _=>Nv⟩
     ·have ht:(ae P deep E)[off]? =some (ai P T):=by
       rw[←Vv,bZ,List.getElem?_eq_getElem b6];rfl
      refine jN off _ _ _ ht ?_ (List.getElem?_eq_getElem (by omega))
      rw[←hs,lY,List.getElem?_eq_getElem (by omega)];rfl
     ·simp[Value.cells]
 | false=>
  simp only[hE,cond_false]at hs
  cases hq:(Nat.beq off 0&&(Nat.beq (P.cellsOf E) 1&&((ai P E).eq (ai P T)&&bA (ai P T))))with
  | false=>simp[hq]at hs
  | true=>
   simp only[hq,cond_true,Option.some.injEq]at hs
   simp only[Bool.and_eq_true]at hq
   obtain⟨h1,h2,h3,h4⟩:=hq
   have xt:=Nat.eq_of_beq_eq_true h1
   have OP:=Nat.eq_of_beq_eq_true h2
   have Jo:=Ty.iH h3
   subst hs
   right
   refine⟨h4,f,by rw[←Jo];exact h, ?_,fun h=>by simp at h, .inl OP,fun _=>⟨xt,OP⟩,fun h=>by simp at h⟩
   subst xt
   rw[Jo]at h
   generalize ai P T=ty at h h4
   cases h<;>first | (simp[bA]at h4;done) | simp[Value.cells]
end
end Go.V
namespace Go.V
def G.bP (g:G) (d:Option Nat) (f:List Nat→Value):G:= {g with val:=fun s p=>if d=some s then f p else g.val s p}
theorem G.cC (g:G) (d:Nat) (f:List Nat→Value) (p:List Nat):(g.bP (some d) f).val d p=f p:=by simp[G.bP]
def ey (N:Nat) (o:Oper):Prop:=∀x∈o.op.operands,bL N x=true
def fR (P:Program) (st:St) (a:Act) (w:World) (g:G) (K:AV→R) (r:List AO×List AO) (o:Oper) (next:Act→World→Prop):Prop:=
 ∀av v w' g',uB w g w' g' o.dst→(∀i,o.dst=some i→fm P w' g' st i av v)→K av=some r→next (a.put o.dst v) w'
section
variable {P:Program} {N:Nat} {st:St} {a:Act} {hv:List Value} {w:World} {g:G} {K:AV→R} {r:List AO×List AO} {o:Oper} {next:Act→World→Prop} {Q:Exit→Act→World→Prop}
theorem fY (hf:∀b,w.heap.size≤b→g.tag b= .free) (d:Option Nat) (f:List Nat→Value):uB w g w (g.bP d f) d:=
 ⟨rfl,rfl,rfl,Nat.le_refl _,fun _ _=>⟨rfl,rfl⟩,fun s p h=>by simp[G.bP,h],fun b hb=>by show g.tag b≠ .out;rw[hf b hb];simp,hf⟩
theorem aV.tags {g':G} {t:Ty} {x:PV} {v:Value} (h:aV P w g t x v) (ht:g'.tag=g.tag):aV P w g' t x v:=
 h.ext (Nat.le_refl _) (fun b _ hb=>⟨by rw[ht];exact hb,rfl⟩)
theorem aY (h:Good P N st a hv w g) {t:Ty} {x:PV} {v:Value} (ba:(execOp a.eval o).run P w= .ok (.value v) w) (hp:aV P w g t x v)
  (hk:K (.o (.pv t x))=some r) (ag:fR P st a w g K r o next):o.wp P a w next Q:=by
 unfold Oper.wp;rw[ba]
 refine ag (.o (.pv t x)) v w (g.bP o.dst fun _=>v) (fY h.inv.fresh _ _) (fun i hi=> ?_) hk
 refine .o _ _ (fun _=>by rw[hi,G.cC]) (.pv [] t x ?_)
 rw[hi,G.cC];exact hp.tags rfl
theorem bo (h:Good P N st a hv w g) {av:AV} {v:Value} (ba:(execOp a.eval o).run P w= .ok (.value v) w) (hs:∀i,fm P w g st i av v)
  (hk:K av=some r) (ag:fR P st a w g K r o next):o.wp P a w next Q:=by
 unfold Oper.wp;rw[ba]
 exact ag av v w g (uB.refl w g _ h.inv.fresh) (fun i _=>hs i) hk
theorem Good.cb (h:Good P N st a hv w g) {i:Nat} (hi:i<N) {z:AV} (hz:get st i=z):fm P w g st i z (a.eval (.tmp i)):=hz▸h.slot hi
theorem fm.kJ {s s':Nat} {z:AV} {v:Value} (h:fm P w g st s z v) (hz:∀x,z≠ .o x):fm P w g st s' z v:=by
 cases h with
 | o x v _ _=>exact absurd rfl (hz x)
 | al r p v h=>exact .al r p v h
 | ptr r p off v h=>exact .ptr r p off v h
 | el r p i off v h=>exact .el r p i off v h
 | ip E x off b o f h hc ht hb=>exact .ip E x off b o f h hc ht hb
 | jg xs vs hl h=>exact .jg xs vs hl h
 | lE T cs vs hl h3 h4 h5 h1 h2=>exact .lE T cs vs hl h3 h4 h5 h1 h2
 | clip E l a h=>exact .clip E l a h
 | fix v=>exact .fix v
 | dead v=>exact .dead v
theorem jv {E:TypeId} {v:Value} {x:PV} (h:gj (.sl E) v=some x):v= .slice none 0 0∧x= .sl []:=by
 cases v with
 | slice b n c=>
  simp only[gj]at h
  split at h
  ·simp at h;exact⟨rfl,h.symm⟩
  ·simp at h
 | pointer p=>cases p<;>simp[gj]at h
 | map p=>cases p<;>simp[gj]at h
 | _=>simp[gj]at h
theorem AT (h:Good P N st a hv w g) {x:Operand} (hx:bL N x=true) (ba:(execOp a.eval o).run P w= .ok (.value (a.eval x)) w)
  (hk:rO P o.type st x K=some r) (ag:fR P st a w g K r o next):o.wp P a w next Q:=by
 cases x with
 | tmp i=>
  simp[bL]at hx
  have hs:=h.slot hx
  simp only[rO]at hk
  generalize hz:get st i=z at hs hk
  cases z with
  | o y=>
   cases y with
   | pv t u=>
    simp only at hk
    cases hs with
    | o _ _ hv ho=>exact aY h ba (by rw[hv (by simp)];exact ho.eK) hk ag
   | box E cs=>
    simp only at hk
    cases hs with
    | o _ _ hv ho=>exact bo h ba (fun _=> .al i [] _ (fun _=>hv (by simp))) hk ag
   | arr E cs=>
    simp only at hk
    cases hs with
    | o _ _ hv ho=>exact bo h ba (fun _=> .al i [] _ (fun _=>hv (by simp))) hk ag
   | own E D l hh=>
    simp only at hk
    cases hs with
    | o _ _ hv ho=>exact bo h ba (fun _=> .al i [] _ (fun _=>hv (by simp))) hk ag
   | map k e ks vs=>
    simp only at hk
    cases hs with
    | o _ _ hv ho=>exact bo h ba (fun _=> .al i [] _ (fun _=>hv (by simp))) hk ag
   | dead=>
    simp only at hk
    refine bo h ba (fun _=> .al i [] _ (fun hd=> ?_)) hk ag
    exact absurd (by unfold V.obj;rw[hz];rfl) hd
  | al _ _=>exact bo h ba (fun j=>hs.kJ (by simp)) hk ag
  | ptr _ _ _=>exact bo h ba (fun j=>hs.kJ (by simp)) hk ag
  | el _ _ _ _=>exact bo h ba (fun j=>hs.kJ (by simp)) hk ag
  | ip _ _ _=>exact bo h ba (fun j=>hs.kJ (by simp)) hk ag
  | jg _=>exact bo h ba (fun j=>hs.kJ (by simp)) hk ag
  | lE _ _=>exact bo h ba (fun j=>hs.kJ (by simp)) hk ag
  | clip _ _=>exact bo h ba (fun j=>hs.kJ (by simp)) hk ag
  | fix _=>exact bo h ba (fun j=>hs.kJ (by simp)) hk ag
  | dead=>exact bo h ba (fun j=>hs.kJ (by simp)) hk ag
 | const v=>
  simp only[rO]at hk
  unfold qy at hk
  split at hk
  ·rename_i E hE
   split at hk
   ·rename_i x tZ
    have hv:=(jv tZ).1
    unfold Oper.wp;rw[ba]
    refine ag _ _ w (g.bP o.dst fun _=>v) (fY h.inv.fresh _ _) (fun i hi=> ?_) hk
    refine .o _ _ (fun _=>by rw[hi,G.cC];rfl) (.jt [] E ?_)
    rw[hi,G.cC,hv]
   ·exact bo h ba (fun j=> .dead _) hk ag
  ·split at hk
   ·rename_i y hy
    exact aY h ba (jM hy) hk ag
   ·exact bo h ba (fun j=> .dead _) hk ag
 | _=>simp[rO]at hk
end
end Go.V
namespace Go.V
section
variable {P:Program} {N:Nat} {st:St} {a:Act} {hv:List Value} {w:World} {g:G} {K:AV→R} {r:List AO×List AO} {o:Oper} {next:Act→World→Prop} {Q:Exit→Act→World→Prop} {call:aw}
theorem AU {E T:TypeId} {x y:PV} {off b q:Nat} {f:Value} (h:aV P w g (ai P E) x f) (hc:∀j,j<P.cellsOf E→w.cell? ⟨b,q+j,none⟩=f.cells[j]?)
  (hs:qz P E T x off=some y):∃v,(loadVar T ⟨b,q+off,none⟩).run P w= .ok v w∧aV P w g (ai P T) y v:=by
 rcases sP h hs with ⟨hT,cs,hn,hp,jN⟩ | ⟨hT,v,hp,jN,h1,h2,h3,h4⟩
 ·refine⟨_,jX hT _ cs hn (fun j v hj=> ?_),hp⟩
  obtain⟨h1,h2⟩:=jN j v hj
  rw[iM,Nat.add_assoc,hc _ h2,h1]
 ·refine⟨v,cq hT _ v ?_,hp⟩
  have b6:off<P.cellsOf E:=by
   cases hE:aO (ai P E)with
   | true=>rw[h4 hE];exact h1 hE
   | false=>obtain⟨h5,h6⟩:=h3 hE;omega
  rw[hc off b6,jN]
theorem ee (h:Good P N st a hv w g) {x:Operand} (hx:bL N x=true) {s:Nat} {p:List Nat} {off:Nat} (hp:de st x=some (s,p,off)) {E:TypeId} {cs:List AO} (ho:obj st s p= .box E cs):
  ∃b vs,a.eval x= .pointer (some ⟨b,off,none⟩)∧g.val s p= .pointer (some ⟨b,0,none⟩)∧w.heap[b]? =some (.cells ⟨vs⟩ E (0,0))∧g.tag b= .own s p∧vs.length=cs.length∧
   (∀(i:Nat) (y:AO),cs[i]? =some y→bY P w g s (p++[i]) y)∧(∀(i:Nat) (y:AO),cs[i]? =some y→y≠ .dead→vs[i]? =some (g.val s (p++[i]))):=by
 have bq:=h.obj s p
 rw[ho]at bq
 cases bq with
 | box _ _ _ b vs hv hh ht hl hc nQ=>
  refine⟨b,vs, ?_,hv,hh,ht,hl,hc,nQ⟩
  cases x with
  | tmp t=>
   simp[bL]at hx
   have hs:=h.slot hx
   simp only[de]at hp
   generalize hz:get st t=z at hs hp
   generalize a.eval (.tmp t)=ev at hs ⊢
   cases hs with
   | o y v bh hy=>
    cases y with
    | box E' mH=>
     simp at hp
     obtain⟨rfl,rfl,rfl⟩:=hp
     rw[bh (by simp)];exact hv
    | _=>simp at hp
   | al r q v h'=>
    simp only at hp
    split at hp
    ·rename_i E' mH AQ
     simp at hp
     obtain⟨rfl,rfl,rfl⟩:=hp
     rw[h' (by rw[AQ];simp)];exact hv
    ·simp at hp
   | ptr r q Sq v h'=>
    simp at hp
    obtain⟨rfl,rfl,rfl⟩:=hp
    obtain⟨b',JL,Vx⟩:=h' E cs ho
    rw[hv]at JL;simp at JL;subst JL;exact Vx
   | _=>simp at hp
  | _=>simp[de]at hp
theorem run_load {T:TypeId} {addr:Operand} (aM:o.op= .load T addr) {ad:Addr} (ha:a.eval addr= .pointer (some ad)) {v:Value} (hl:(loadVar T ad).run P w= .ok v w):
  (execOp a.eval o).run P w= .ok (.value v) w:=by
 simp[execOp,aM,Instr.loadAt,ha,Instr.sureAddr,hl]
theorem gF:∀ {ts:List Ty} {cs:List AO} {vs:List PV},fD ts cs=some vs→
  vs.length=ts.length∧∀(i:Nat) (t:Ty),ts[i]? =some t→∃v,vs[i]? =some v∧cs[i]? =some (.pv t v)
 | [],cs,vs,h=>by simp[fD]at h;subst h;simp
 | _::_,[],vs,h=>by simp[fD]at h
 | t::ts,x::cs,vs,h=>by
  cases x with
  | pv u v=>
   simp only[fD]at h
   cases hu:u.eq t with
   | false=>simp[hu]at h
   | true=>
    simp only[hu,cond_true]at h
    split at h
    ·rename_i ws hw
     cases h
     obtain⟨h1,h2⟩:=gF hw
     refine⟨by simp[h1],fun i t' ht=> ?_⟩
     cases i with
     | zero=>simp at ht;subst ht;rw[Ty.iH hu];exact⟨v,by simp,by simp⟩
     | succ i=>simp at ht;simpa using h2 i t' ht
    ·cases h
  | _=>simp[fD]at h
theorem lZ {α:Type} {d x:α} {l:List α} {i:Nat} (h:nth d l i=x) (hx:x≠d):l[i]? =some x:=by
 rw[bZ]at h
 cases hl:l[i]? with
 | none=>rw[hl]at h;exact absurd h.symm hx
 | some y=>rw[hl]at h;simp at h;rw[h]
theorem Fy (h:Good P N st a hv w g) {i:Nat} (hi:i<N) {s:Nat} {p:List Nat} {j off:Nat} (hg:get st i= .el s p j off) {E:TypeId} {l:List PV} (ho:obj st s p= .arr E l):
  ∃(b q cap:Nat) (vs:List Value) (T:TypeId) (f:Nat→Value),j<l.length∧a.eval (.tmp i)= .pointer (some ⟨b,q+j*P.cellsOf E+off,none⟩)∧g.val s p= .slice (some ⟨b,q,none⟩) l.length cap∧w.heap[b]? =some (.cells ⟨vs⟩ T (0,0))∧g.tag b= .own s p∧l.length≤cap∧
   q+cap*P.cellsOf E≤vs.length∧(∀(i:Nat) (x:PV),l[i]? =some x→aV P w g (ai P E) x (f i))∧(∀i,i<l.length→∀j,j<P.cellsOf E→vs[q+i*P.cellsOf E+j]? =(f i).cells[j]?):=by
 have hs:=h.cb hi hg
 generalize a.eval (.tmp i)=ev at hs ⊢
 cases hs with
 | el _ _ _ _ _ h'=>
  obtain⟨hj,b',o',n,Vy,bh,he⟩:=h' E l.length (by rw[ho];rfl)
  have bq:=h.obj s p
  rw[ho]at bq
  cases bq with
  | jt=>simp at hj
  | arr _ _ _ b q cap vs f T hv hh ht hl cU JM hc=>
   rw[hv]at bh
   simp at bh
   obtain⟨⟨rfl,rfl⟩,rfl,rfl⟩:=bh
   exact⟨b,q,cap,vs,T,f,hj,he,hv,hh,ht,hl,cU,JM,hc⟩
theorem jP (h:Good P N st a hv w g) {i:Nat} (hi:i<N) {E:TypeId} {x:PV} {off:Nat} (hr:lR st (get st i)=some (E,x,off)):
  ∃(b q:Nat) (f:Value),a.eval (.tmp i)= .pointer (some ⟨b,q+off,none⟩)∧aV P w g (ai P E) x f∧(∀j,j<P.cellsOf E→w.cell? ⟨b,q+j,none⟩=f.cells[j]?)∧g.tag b= .free∧b<w.heap.size:=by
 have hs:=h.slot hi
 generalize hg:get st i=z at hs hr
 generalize a.eval (.tmp i)=v at hs ⊢
 unfold lR at hr
 split at hr
 ·cases hr
  cases hs with
  | ip _ _ _ b q f hp hc ht hb=>exact⟨b,q,f,rfl,hp,hc,ht,hb⟩
 ·cases hr
  cases hs with
  | o _ _ eD ho=>
   have hp:=ho.eK
   rw[←eD (by simp)]at hp
   cases hp with
   | ref _ _ b q f hp hc ht hb=>exact⟨b,q,f,rfl,hp,hc,ht,hb⟩
 ·rename_i s p
  split at hr
  ·rename_i E' x' bq
   cases hr
   cases hs with
   | al _ _ _ eD=>
    have ho:=h.obj s p
    rw[bq]at ho
    have hp:=ho.eK
    rw[←eD (by rw[bq];simp)]at hp
    cases hp with
    | ref _ _ b q f hp hc ht hb=>exact⟨b,q,f,rfl,hp,hc,ht,hb⟩
  ·cases hr
 ·cases hr
theorem uE (h:Good P N st a hv w g) {i:Nat} (hi:i<N) {s:Nat} {p:List Nat} {j off:Nat} (hg:get st i= .el s p j off) {E D:TypeId} {l:List PV} {hh:Option Nat} (ho:obj st s p= .own E D l hh):
  ∃(b q cap:Nat) (vs:List Value) (T:TypeId),j<l.length∧a.eval (.tmp i)= .pointer (some ⟨b,q+j*P.cellsOf E+off,none⟩)∧g.val s p= .slice (some ⟨b,q,none⟩) l.length cap∧w.heap[b]? =some (.cells ⟨vs⟩ T (0,0))∧g.tag b= .own s p∧l.length≤cap∧
   q+cap*P.cellsOf E≤vs.length∧P.cellsOf E=1∧ai P E= .sl D∧(∀(i:Nat) (x:PV),l[i]? =some x→x= .sl x.toList)∧(∀i,i<l.length→isHole hh i=false→vs[q+i]? =some (g.val s (p++[i])))∧
   (∀i,isHole hh i=false→bY P w g s (p++[i]) (.arr D (nth default l i).toList)):=by
 have hs:=h.cb hi hg
 generalize a.eval (.tmp i)=ev at hs ⊢
 cases hs with
 | el _ _ _ _ _ h'=>
  obtain⟨hj,b',o',n,Vy,bh,he⟩:=h' E l.length (by rw[ho];rfl)
  have bq:=h.obj s p
  rw[ho]at bq
  cases bq with
  | og=>simp at hj
  | own _ _ _ _ _ b q cap vs T hv uF ht hl cU h1 iK kW hc fQ=>
   rw[hv]at bh
   simp at bh
   obtain⟨⟨rfl,rfl⟩,rfl,rfl⟩:=bh
   exact⟨b,q,cap,vs,T,hj,he,hv,uF,ht,hl,cU,h1,iK,kW,hc,fQ⟩
theorem JN (h:Good P N st a hv w g) {T:TypeId} {addr:Operand} (aM:o.op= .load T addr) (br:ey N o) (hk:dX P call o st K=some r) (ag:fR P st a w g K r o next):o.wp P a w next Q:=by
 have OQ:bL N addr=true:=br addr (by simp[aM,Op.operands])
 simp only[dX,aM]at hk
 cases addr with
 | tmp i=>
  simp only at hk
  have hi:i<N:=by simpa[bL]using OQ
  split at hk
  ·rename_i E x off hg
   split at hk
   ·rename_i y hy
    obtain⟨b,q,f,hv,hp,hc,ht,hb⟩:=jP h hi hg
    obtain⟨v,h1,h2⟩:=AU hp hc hy
    exact aY h (run_load aM hv h1) h2 hk ag
   ·cases hk
  ·rename_i ZM
   split at hk
   ·rename_i s p off hp
    split at hk
    ·rename_i E cs bq
     obtain⟨b,vs,dV,qH,hh,ht,hl,hc,nQ⟩:=ee h OQ hp bq
     have cW:∀j,w.cell? ⟨b,j,none⟩=vs[j]? :=fun j=>by rw[cell_of_row w b j ⟨vs⟩ E (0,0) hh];simp
     cases hT:aO (ai P T)with
     | true=>
      have wJ:=dD hT
      simp only[hT,cond_true]at hk
      cases eC:Nat.beq (P.cellsOf T) (ae P deep T).length with
      | false=>simp[eC]at hk
      | true=>
       have Nv:=Nat.eq_of_beq_eq_true eC
       simp only[eC,cond_true]at hk
       split at hk
       ·rename_i xs JK
        obtain⟨h1,h2⟩:=gF JK
        have key:∀(j:Nat) (t:Ty),(ae P deep T)[j]? =some t→∃y,xs[j]? =some y∧vs[off+j]? =some (g.val s (p++[off+j]))∧aV P w g t y (g.val s (p++[off+j])):=by
         intro j t ht
         obtain⟨y,RS,Nw⟩:=h2 j t ht
         rw[List.getElem?_drop]at Nw
         exact⟨y,RS,nQ _ _ Nw (by simp),(hc _ _ Nw).eK⟩
        have hlen:(ae P deep T).length=0∨off+(ae P deep T).length≤vs.length:=by
         rcases Nat.eq_zero_or_pos (ae P deep T).length with h0 | h0
         ·exact .inl h0
         ·obtain⟨y,_,hy,_⟩:=key ((ae P deep T).length-1) _ (List.getElem?_eq_getElem (by omega))
          have:=(List.getElem?_eq_some_iff.1 hy).1;exact .inr (by omega)
        have jW:((vs.drop off).take (ae P deep T).length).length=(ae P deep T).length:=by simp;omega
        refine aY h (run_load aM dV (jX wJ ⟨b,off,none⟩ ((vs.drop off).take (ae P deep T).length) (by omega) (fun j v hj=> ?_))) ?_ hk ag
        ·have wK:=(List.getElem?_eq_some_iff.1 hj).1
         rw[iM,cW]
         rw[List.getElem?_take,if_pos (by omega),List.getElem?_drop]at hj;exact hj
        ·rw[wJ]
         refine .st T xs _ h1 jW (fun j ty y c iK hy Jp=> ?_)
         obtain⟨y',e1,e2,e3⟩:=key j ty iK
         rw[hy]at e1;cases e1
         have wK:=(List.getElem?_eq_some_iff.1 iK).1
         rw[List.getElem?_take,if_pos wK,List.getElem?_drop,e2]at Jp
         cases Jp;exact e3
       ·cases hk
     | false=>
      simp only[hT,cond_false]at hk
      cases AS:bA (ai P T)with
      | false=>simp[AS]at hk
      | true=>
       simp only[AS,cond_true]at hk
       split at hk
       ·rename_i t y hy
        cases wO:t.eq (ai P T)with
        | false=>simp[wO]at hk
        | true=>
         simp only[wO,cond_true]at hk
         have jN:=lZ hy (by simp)
         refine aY h (run_load aM dV (cq AS _ _ ?_)) (hc _ _ jN).eK hk ag
         rw[cW,nQ _ _ jN (by simp)]
       ·rename_i E' l hy
        cases wO:(Ty.sl E').eq (ai P T)with
        | false=>simp[wO]at hk
        | true=>
         simp only[wO,cond_true]at hk
         have jN:=lZ hy (by simp)
         refine bo h (run_load aM dV (cq AS _ _ ?_)) (fun _=> .al s (p++[off]) _ (fun _=>rfl)) hk ag
         rw[cW,nQ _ _ jN (by simp)]
       ·rename_i E' D' l Nb hy
        cases wO:(Ty.sl E').eq (ai P T)with
        | false=>simp[wO]at hk
        | true=>
         simp only[wO,cond_true]at hk
         have jN:=lZ hy (by simp)
         refine bo h (run_load aM dV (cq AS _ _ ?_)) (fun _=> .al s (p++[off]) _ (fun _=>rfl)) hk ag
         rw[cW,nQ _ _ jN (by simp)]
       ·rename_i k' e' ks rU hy
        cases wO:(Ty.mp k' e').eq (ai P T)with
        | false=>simp[wO]at hk
        | true=>
         simp only[wO,cond_true]at hk
         have jN:=lZ hy (by simp)
         refine bo h (run_load aM dV (cq AS _ _ ?_)) (fun _=> .al s (p++[off]) _ (fun _=>rfl)) hk ag
         rw[cW,nQ _ _ jN (by simp)]
       ·rename_i E' l hy
        have jN:=lZ hy (by simp)
        refine bo h (run_load aM dV (cq AS _ _ ?_)) (fun _=> .al s (p++[off]) _ (fun _=>rfl)) hk ag
        rw[cW,nQ _ _ jN (by simp)]
       ·cases hk
    ·cases hk
   ·split at hk
    ·rename_i s p j off hg
     split at hk
     ·rename_i E l bq
      split at hk
      ·rename_i y hy
       obtain⟨b,q,cap,vs,T',f,hj,dV,qH,hh,ht,hl,cU,he,hc⟩:=Fy h hi hg bq
       have Vz:l[j]? =some (nth default l j):=by rw[bZ,List.getElem?_eq_getElem hj];rfl
       obtain⟨v,h1,h2⟩:=AU (b:=b) (q:=q+j*P.cellsOf E) (he j _ Vz) (fun i hi=>by
        rw[cell_of_row w b _ ⟨vs⟩ T' (0,0) hh, ←hc j hj i hi];simp) hy
       exact aY h (run_load aM dV h1) h2 hk ag
      ·cases hk
     ·rename_i E D l bq
      obtain⟨b,q,cap,vs,T',hj,dV,qH,hh,ht,hl,cU,h1,iK,kW,hc,fQ⟩:=uE h hi hg bq
      cases C9:((Ty.sl D).eq (ai P T)&&Nat.beq off 0)with
      | false=>simp[C9]at hk
      | true=>
       simp only[C9,cond_true]at hk
       simp only[Bool.and_eq_true]at C9
       have hT:=Ty.iH C9.1
       have ho:=Nat.eq_of_beq_eq_true C9.2
       subst ho
       refine bo h (run_load aM dV (cq (by rw[←hT];rfl) _ _ ?_)) (fun _=> .al s (p++[j]) _ (fun _=>rfl)) hk ag
       rw[h1,Nat.mul_one,Nat.add_zero,cell_of_row w b _ ⟨vs⟩ T' (0,0) hh]
       simpa using hc j hj rfl
     ·cases hk
    ·cases hk
 | _=>simp at hk
end
end Go.V
namespace Go.V
section
variable {P:Program} {N:Nat} {st:St} {a:Act} {hv:List Value} {w:World} {g:G} {K:AV→R} {r:List AO×List AO} {o:Oper} {next:Act→World→Prop} {Q:Exit→Act→World→Prop} {call:aw}
theorem JO (h:Good P N st a hv w g) {x:Operand} (aM:o.op= .move x) (br:ey N o) (hk:dX P call o st K=some r) (ag:fR P st a w g K r o next):o.wp P a w next Q:=by
 refine AT h (x:=x) (br x (by simp[aM,Op.operands])) (by simp[execOp,aM]) ?_ ag
 simpa only[dX,aM]using hk
theorem Da (h:Good P N st a hv w g) {x:Operand} (aM:o.op= .assign x) (br:ey N o) (hk:dX P call o st K=some r) (ag:fR P st a w g K r o next):o.wp P a w next Q:=by
 refine AT h (x:=x) (br x (by simp[aM,Op.operands])) (by simp[execOp,aM]) ?_ ag
 simpa only[dX,aM]using hk
theorem JP (h:Good P N st a hv w g) {c x y:Operand} (aM:o.op= .pick c x y) (br:ey N o) (hk:dX P call o st K=some r) (ag:fR P st a w g K r o next):o.wp P a w next Q:=by
 simp only[dX,aM]at hk
 have hc:=br c (by simp[aM,Op.operands])
 have hx:=br x (by simp[aM,Op.operands])
 have hy:=br y (by simp[aM,Op.operands])
 cases c with
 | tmp i=>
  simp only at hk
  split at hk
  ·rename_i d hd
   obtain⟨b,rfl,hb⟩:=(h.gK (by simpa[bL]using hc) hd).dR
   cases b with
   | true=>
    simp only[PV.toBool,cond_true]at hk
    split at hk
    ·rename_i v bh
     exact aY h (by simp[execOp,aM,hb,asBool]) (h.rd hx bh) hk ag
    ·cases hk
   | false=>
    simp only[PV.toBool,cond_false]at hk
    split at hk
    ·rename_i v bh
     exact aY h (by simp[execOp,aM,hb,asBool]) (h.rd hy bh) hk ag
    ·cases hk
  ·cases hk
 | _=>simp at hk
theorem Db (h:Good P N st a hv w g) {i:Nat} (hi:i<N) {s:Nat} {p:List Nat} {j off:Nat} (hg:get st i= .el s p j off) {E:TypeId} {m:Nat} (ho:(obj st s p).iF=some (E,m)):
  ∃b q,a.eval (.tmp i)= .pointer (some ⟨b,q+j*P.cellsOf E+off,none⟩):=by
 have hs:=h.cb hi hg
 generalize a.eval (.tmp i)=ev at hs ⊢
 cases hs with
 | el _ _ _ _ _ h'=>
  obtain⟨_,b,o,n,cap,_,he⟩:=h' E m ho
  exact⟨b,o,he⟩
theorem yD (h:Good P N st a hv w g) {x:Operand} (aM:o.op= .nilCheck x) (br:ey N o) (hk:dX P call o st K=some r) (ag:fR P st a w g K r o next):o.wp P a w next Q:=by
 simp only[dX,aM]at hk
 have hx:=br x (by simp[aM,Op.operands])
 have ba:∀ad,a.eval x= .pointer (some ad)→(execOp a.eval o).run P w= .ok (.value (.pointer (some ad))) w:=by
  intro ad ZN;simp[execOp,aM,ZN]
 cases x with
 | tmp i=>
  simp only at hk
  have hi:i<N:=by simpa[bL]using hx
  split at hk
  ·rename_i E cs hg
   have bq:obj st i []= .box E cs:=by unfold obj;rw[hg];rfl
   obtain⟨b,vs,h1,h2,_⟩:=ee h hx (s:=i) (p:=[]) (off:=0) (by simp[de,hg]) bq
   exact bo h (ba _ h1) (fun _=> .al i [] _ (fun _=>h2.symm)) hk ag
  ·rename_i s p hg
   split at hk
   ·rename_i E cs bq
    obtain⟨b,vs,h1,h2,_⟩:=ee h hx (s:=s) (p:=p) (off:=0) (by simp[de,hg,bq]) bq
    exact bo h (ba _ h1) (fun _=> .al s p _ (fun _=>h2.symm)) hk ag
   ·rename_i E x bq
    obtain⟨b,q,f,h1,hp,hc,ht,hb⟩:=jP h hi (E:=E) (x:=x) (off:=0) (by rw[hg];simp only[lR,bq])
    exact bo h (ba _ h1) (fun _=>by simpa using fm.ip E x 0 b q f hp hc ht hb) hk ag
   ·cases hk
  ·rename_i s p off hg
   split at hk
   ·rename_i E cs bq
    obtain⟨b,vs,h1,h2,_⟩:=ee h hx (s:=s) (p:=p) (off:=off) (by simp[de,hg]) bq
    exact bo h (ba _ h1) (fun _=>h1▸ (h.cb hi hg).kJ (by simp)) hk ag
   ·cases hk
  ·rename_i s p j off hg
   split at hk
   ·rename_i Em bq
    obtain⟨E,m⟩:=Em
    obtain⟨b,q,dV⟩:=Db h hi hg bq
    exact bo h (ba _ dV) (fun _=>dV▸ (h.cb hi hg).kJ (by simp)) hk ag
   ·cases hk
  ·rename_i E x off hg
   have hs:=h.cb hi hg
   generalize bh:a.eval (.tmp i)=v at hs ba
   cases hs with
   | ip _ _ _ b q f hp hc ht hb=>exact bo h (ba _ rfl) (fun _=> .ip E x off b q f hp hc ht hb) hk ag
  ·rename_i E x hg
   obtain⟨b,q,f,h1,hp,hc,ht,hb⟩:=jP h hi (E:=E) (x:=x) (off:=0) (by rw[hg];rfl)
   exact bo h (ba _ h1) (fun _=>by simpa using fm.ip E x 0 b q f hp hc ht hb) hk ag
  ·cases hk
 | _=>simp at hk
theorem ZO {op:BinOp} {t:TypeId} {x y:Operand} {u v:Value} (hu:∀cs,u≠ .agg cs) (hn:u≠ .nilIface):eqGuard op t x y u v=pure ():=by
 cases u<;>cases op<;>first | rfl | exact absurd rfl (hu _) | exact absurd rfl hn
theorem qI {op:BinOp} {t ty:TypeId} {x y:Operand} (aM:o.op= .binOp op t x y ty) {u v z:Value} (hx:a.eval x=u) (hy:a.eval y=v) (hu:∀cs,u≠ .agg cs) (hn:u≠ .nilIface)
  (ba:(binOp op t u v).run P w= .ok z w):(execOp a.eval o).run P w= .ok (.value z) w:=by
 simp[execOp,aM,hx,hy,ZO hu hn,ba]
theorem AW {op:BinOp} {k:IntKind} {m n:Int} {t:TypeId} (h1:op≠ .shl) (h2:op≠ .shr) (hk:nS op k m n K=some r):
  ∃ty z v,aV P w g ty z v∧K (.o (.pv ty z))=some r∧(binOp op t (.int k m) (.int k n)).run P w= .ok v w:=by
 cases op with
 | add=>exact⟨_,_,_, .int _ _,hk,by simp[binOp,Op.intArith]⟩
 | sub=>exact⟨_,_,_, .int _ _,hk,by simp[binOp,Op.intArith]⟩
 | mul=>exact⟨_,_,_, .int _ _,hk,by simp[binOp,Op.intArith]⟩
 | quo=>
  simp only[nS]at hk
  by_cases h0:n=0
  ·simp[h0]at hk
  ·simp only[h0,decide_false,cond_false]at hk
   exact⟨_,_,_, .int _ _,hk,by simp[binOp,Op.intDiv,h0]⟩
 | rem=>
  simp only[nS]at hk
  by_cases h0:n=0
  ·simp[h0]at hk
  ·simp only[h0,decide_false,cond_false]at hk
   exact⟨_,_,_, .int _ _,hk,by simp[binOp,Op.intDiv,h0]⟩
 | and=>exact⟨_,_,_, .int _ _,hk,by simp[binOp,Op.intBits]⟩
 | or=>exact⟨_,_,_, .int _ _,hk,by simp[binOp,Op.intBits]⟩
 | xor=>exact⟨_,_,_, .int _ _,hk,by simp[binOp,Op.intBits]⟩
 | andNot=>exact⟨_,_,_, .int _ _,hk,by simp[binOp,Op.intBits]⟩
 | shl=>exact absurd rfl h1
 | shr=>exact absurd rfl h2
 | eql=>exact⟨_,_,_, .bool _,hk,by simp[binOp,Op.intCmp];rfl⟩
 | neq=>exact⟨_,_,_, .bool _,hk,by simp[binOp,Op.intCmp];rfl⟩
 | lss=>exact⟨_,_,_, .bool _,hk,by simp[binOp,Op.intCmp]⟩
 | leq=>exact⟨_,_,_, .bool _,hk,by simp[binOp,Op.intCmp]⟩
 | gtr=>exact⟨_,_,_, .bool _,hk,by simp[binOp,Op.intCmp]⟩
 | geq=>exact⟨_,_,_, .bool _,hk,by simp[binOp,Op.intCmp]⟩
theorem AX {op:BinOp} {x y:ByteArray} {t:TypeId} (hk:nT op x y K=some r):
  ∃ty z v,aV P w g ty z v∧K (.o (.pv ty z))=some r∧(binOp op t (.string x) (.string y)).run P w= .ok v w:=by
 cases op with
 | add=>
  simp only[nT]at hk
  by_cases h0:x.size+y.size≤9223372036854775807
  ·simp only[h0,decide_true,cond_true]at hk
   refine⟨_,_,_, .str _,hk, ?_⟩
   simp only[binOp];exact run_string_add_sum w x y h0
  ·simp only[h0,decide_false,cond_false]at hk;cases hk
 | eql=>exact⟨_,_,_, .bool _,hk,by simp[binOp,Op.stringOp,ByteArray.toList_eq]⟩
 | neq=>exact⟨_,_,_, .bool _,hk,by simp[binOp,Op.stringOp,ByteArray.toList_eq]⟩
 | lss=>exact⟨_,_,_, .bool _,hk,by simp[binOp,Op.stringOp,ByteArray.toList_eq]⟩
 | leq=>exact⟨_,_,_, .bool _,hk,by simp[binOp,Op.stringOp,ByteArray.toList_eq]⟩
 | gtr=>exact⟨_,_,_, .bool _,hk,by simp[binOp,Op.stringOp,ByteArray.toList_eq]⟩
 | geq=>exact⟨_,_,_, .bool _,hk,by simp[binOp,Op.stringOp,ByteArray.toList_eq]⟩
 | _=>simp[nT]at hk
end
end Go.V
namespace Go.V
section
variable {P:Program} {N:Nat} {st:St} {a:Act} {hv:List Value} {w:World} {g:G} {K:AV→R} {r:List AO×List AO} {o:Oper} {next:Act→World→Prop} {Q:Exit→Act→World→Prop} {call:aw}
theorem pZ {t T:TypeId} {x y:PV} {off:Nat} {cs:List Value} (h:aV P w g (ai P t) x (.agg ⟨cs⟩)) (hs:qz P t T x off=some y):
  ∃v,(part T ⟨cs⟩ off).run P w= .ok v w∧aV P w g (ai P T) y v:=by
 rcases sP h hs with ⟨hT,mH,hn,hp,jN⟩ | ⟨hT,v,hp,jN,_⟩
 ·refine⟨_, ?_,hp⟩
  obtain⟨_,fs,hu,_⟩:=qE hT
  simp only[part,Sem.run_bind,qF hT,Result.andThen_ok,if_true,run_sizeOf hu,Sem.run_pure]
  congr 2
  apply Array.ext'
  simp only[Array.toList_extract]
  simp only[List.extract_eq_take_drop]
  apply List.ext_getElem?
  intro j
  rw[List.getElem?_take,List.getElem?_drop]
  by_cases hj:j<P.cellsOf T
  ·rw[if_pos (by omega)]
   have Hd:j<mH.length:=by omega
   have:=(jN j mH[j] (List.getElem?_eq_getElem Hd)).1
   simp only[Value.cells]at this
   rw[List.getElem?_eq_getElem Hd, ←this];simp
  ·rw[if_neg (by omega),List.getElem?_eq_none (by omega)]
 ·refine⟨v, ?_,hp⟩
  simp only[Value.cells]at jN
  simp only[part,Sem.run_bind,lX hT,Result.andThen_ok,Bool.false_eq_true,if_false]
  simp only[jN,Sem.run_pure]
theorem uG {d:Nat} {go:TypeId→PV→PV→Option Bool} (Sr:∀t x y u v b,aV P w g (ai P t) x u→aV P w g (ai P t) y v→go t x y=some b→(Op.equalIn d t u v).run P w= .ok b w)
  {t:TypeId} {x y:PV} {cs ds:List Value} (hx:aV P w g (ai P t) x (.agg ⟨cs⟩)) (hy:aV P w g (ai P t) y (.agg ⟨ds⟩)):
  ∀ {fs:List Field} {b:Bool},JB P go t x y fs=some b→(Op.eqFields d ⟨cs⟩ ⟨ds⟩ fs).run P w= .ok b w
 | [],b,h=>by simp[JB]at h;subst h;rfl
 | f::fs,b,h=>by
  simp only[JB]at h
  by_cases hn:f.name= "_"
  ·simp[hn]at h
  ·simp only[hn,decide_false,cond_false]at h
   split at h
   ·rename_i p q hp hq
    split at h
    ·rename_i e he
     obtain⟨u,hu,ZP⟩:=pZ hx hp
     obtain⟨v,hv,Qz⟩:=pZ hy hq
     have heq:=Sr _ _ _ _ _ _ ZP Qz he
     simp only[Op.eqFields,hn,ne_eq,not_false_eq_true,if_true,Sem.run_bind,hu,hv,Result.andThen_ok,heq]
     split at h
     ·simp at h;subst h
      cases e<;>simp[Op.eqFields]
     ·rename_i dc
      split at h
      ·rename_i e' JM
       have ih:=uG Sr hx hy JM
       simp at h;subst h
       cases e
       ·simp
       ·simp[ih]
      ·cases h
    ·cases h
   ·cases h
theorem uH:∀(d D:Nat),d≤D→∀(t:TypeId) (x y:PV) (u v:Value) (b:Bool),aV P w g (ai P t) x u→aV P w g (ai P t) y v→C3 P d t x y=some b→(Op.equalIn D t u v).run P w= .ok b w
 | 0,_,_,_,_,_,_,_,_,_,_,h=>by simp[C3]at h
 | d+1,0,hD,_,_,_,_,_,_,_,_,_=>by omega
 | d+1,D+1,hD,t,x,y,u,v,b,hx,hy,h=>by
  simp only[C3]at h
  split at h
  ·rename_i k hu
   have ht:ai P t= .int k:=by simp[ai,hu]
   rw[ht]at hx hy
   obtain⟨m,rfl,rfl⟩:=hx.cO
   obtain⟨n,rfl,rfl⟩:=hy.cO
   simp only[PV.toInt,Option.some.injEq]at h
   rw[run_equalIn_int w D t k k m n hu, ←h];rfl
  ·rename_i hu
   have ht:ai P t= .bool:=by simp[ai,hu]
   rw[ht]at hx hy
   obtain⟨m,rfl,rfl⟩:=hx.dR
   obtain⟨n,rfl,rfl⟩:=hy.dR
   simp only[PV.toBool,Option.some.injEq]at h
   rw[run_equalIn_bool w D t m n hu, ←h]
  ·rename_i hu
   have ht:ai P t= .str:=by simp[ai,hu]
   rw[ht]at hx hy
   obtain⟨m,rfl,rfl⟩:=hx.dm
   obtain⟨n,rfl,rfl⟩:=hy.dm
   simp only[PV.toStr,Option.some.injEq]at h
   rw[run_equalIn_string w D t m n hu, ←h,ByteArray.toList_eq,ByteArray.toList_eq]
  ·rename_i fs hu
   have ht:ai P t= .st t:=by simp[ai,hu]
   cases hh:P.stoodInHeld t with
   | true=>simp[hh]at h
   | false=>
    simp only[hh,cond_false]at h
    have OR:=hx
    have Ss:=hy
    rw[ht]at OR Ss
    obtain⟨xs,cs,rfl,rfl,_⟩:=OR.eu
    obtain⟨ys,ds,rfl,rfl,_⟩:=Ss.eu
    have hf:P.fieldsOf t=fs:=by simp[Program.fieldsOf,hu]
    rw[run_equalIn_struct w D t _ _ (by rw[hf];exact hu) hh,hf]
    exact uG (fun t x y u v b hx hy he=>uH d D (by omega) t x y u v b hx hy he) hx hy h
  ·cases h
theorem He (h:Good P N st a hv w g) {op:BinOp} {t ty:TypeId} {x y:Operand} (aM:o.op= .binOp op t x y ty) (br:ey N o) (hk:dX P call o st K=some r) (ag:fR P st a w g K r o next):o.wp P a w next Q:=by
 simp only[dX,aM]at hk
 have hx:=br x (by simp[aM,Op.operands])
 have hy:=br y (by simp[aM,Op.operands])
 have shift:∀(op:BinOp),o.op= .binOp op t x y ty→∀(k:IntKind) (A B:PV) (f:Int→Int→Int),rd P st t x=some A→ck st y=some B→ai P t= .int k→(∀m yk n,¬n<0→(Op.shift op k m yk n).run P w= .ok (.int k (f m n)) w)→(∀m yk n,binOp op t (.int k m) (.int yk n)=Op.shift op k m yk n)→
   (bif decide (B.toInt<0)then none else K (.o (.pv (.int k) (.int k (f A.toInt B.toInt)))))=some r→o.wp P a w next Q:=by
  intro op aM k A B f hA hB hT hf hb hk
  obtain⟨m,rfl,hm⟩:=(hT▸h.rd hx hA).cO
  obtain⟨k',n,rfl,hn⟩:=h.ck hy hB
  simp only[PV.toInt]at hk
  by_cases h0:n<0
  ·simp[h0]at hk
  ·simp only[h0,decide_false,cond_false]at hk
   exact aY h (qI aM hm hn (by simp) (by simp) (by rw[hb];exact hf m k' n h0)) (.int _ _) hk ag
 unfold AL at hk
 split at hk
 ·split at hk
  ·rename_i k A B hT hA hB
   exact shift .shl aM k A B (fun m n=>k.wrap (m*2 ^ min n.toNat k.bits)) hA hB hT (fun m yk n h0=>by simp[Op.shift,h0]) (fun _ _ _=>rfl) hk
  ·cases hk
 ·split at hk
  ·rename_i k A B hT hA hB
   exact shift .shr aM k A B (fun m n=>m.fdiv (2 ^ min n.toNat k.bits)) hA hB hT (fun m yk n h0=>by simp[Op.shift,h0]) (fun _ _ _=>rfl) hk
  ·cases hk
 ·rename_i kW kD
  split at hk
  ·rename_i A B hA hB
   have rA:=h.rd hx hA
   have rB:=h.rd hy hB
   split at hk
   ·rename_i k hT
    rw[hT]at rA rB
    obtain⟨m,rfl,hm⟩:=rA.cO
    obtain⟨n,rfl,hn⟩:=rB.cO
    obtain⟨ZQ,z,v,h1,h2,h3⟩:=AW (P:=P) (w:=w) (g:=g) (t:=t) (by simpa using kW) (by simpa using kD) hk
    exact aY h (qI aM hm hn (by simp) (by simp) h3) h1 h2 ag
   ·rename_i hT
    rw[hT]at rA rB
    obtain⟨m,rfl,hm⟩:=rA.dm
    obtain⟨n,rfl,hn⟩:=rB.dm
    obtain⟨ZQ,z,v,h1,h2,h3⟩:=AX (P:=P) (w:=w) (g:=g) (t:=t) hk
    exact aY h (qI aM hm hn (by simp) (by simp) h3) h1 h2 ag
   ·rename_i hT
    have hu:=rT hT
    rw[hT]at rA rB
    obtain⟨m,rfl,hm⟩:=rA.dR
    obtain⟨n,rfl,hn⟩:=rB.dR
    split at hk
    ·exact aY h (qI aM hm hn (by simp) (by simp) (run_eql_bool w t m n hu)) (.bool _) hk ag
    ·exact aY h (qI aM hm hn (by simp) (by simp) (run_neq_bool w t m n hu)) (.bool _) hk ag
    ·cases hk
   ·rename_i T hT
    obtain⟨UG,fs,hu⟩:=qE hT
    rw[UG]at hT
    clear UG T
    cases hg:P.eqGuardType P.depth t with
    | true=>simp[hg]at hk
    | false=>
     simp only[hg,cond_false]at hk
     split at hk
     ·rename_i e he
      have hq:=uH deep 10000 (by decide) t A B _ _ e rA rB he
      rw[hT]at rA rB
      obtain⟨xs,cs,rfl,jN,_⟩:=rA.eu
      obtain⟨ys,ds,rfl,yE,_⟩:=rB.eu
      rw[jN,yE]at hq
      split at hk
      ·refine aY h ?_ (.bool e) hk ag
       simp only[execOp,aM,jN,yE,Sem.run_bind,run_eqGuard_agg w _ t x y _ _ hg,Result.andThen_ok,run_eql_struct,hq,Sem.run_pure]
      ·refine aY h ?_ (.bool (!e)) hk ag
       have:(binOp .neq t (.agg ⟨cs⟩) (.agg ⟨ds⟩)).run P w= .ok (.bool (!e)) w:=by
        simp only[binOp,Sem.run_bind,Op.equal,Op.maxDepth,hq,Result.andThen_ok,Sem.run_pure]
       simp only[execOp,aM,jN,yE,Sem.run_bind,run_eqGuard_agg w _ t x y _ _ hg,Result.andThen_ok,this,Sem.run_pure]
      ·cases hk
     ·cases hk
   ·cases hk
  ·cases hk
theorem JQ (h:Good P N st a hv w g) {op:UnOp} {t:TypeId} {x:Operand} (aM:o.op= .unOp op t x) (br:ey N o) (hk:dX P call o st K=some r) (ag:fR P st a w g K r o next):o.wp P a w next Q:=by
 simp only[dX,aM]at hk
 have hx:=br x (by simp[aM,Op.operands])
 unfold Qp at hk
 split at hk
 ·rename_i A hA
  have rA:=h.rd hx hA
  split at hk
  ·rename_i k hT
   rw[hT]at rA
   obtain⟨m,rfl,hm⟩:=rA.cO
   exact aY h (by simp[execOp,aM,hm,Op.unary,Op.intArith,PV.toInt]) (.int _ _) hk ag
  ·rename_i k hT
   rw[hT]at rA
   obtain⟨m,rfl,hm⟩:=rA.cO
   exact aY h (by simp[execOp,aM,hm,Op.unary,Op.intBits,PV.toInt]) (.int _ _) hk ag
  ·rename_i hT
   rw[hT]at rA
   obtain⟨m,rfl,hm⟩:=rA.dR
   exact aY h (by simp[execOp,aM,hm,Op.unary,PV.toBool]) (.bool _) hk ag
  ·cases hk
 ·cases hk
end
end Go.V
namespace Go.V
section
variable {P:Program} {N:Nat} {st:St} {a:Act} {hv:List Value} {w:World} {g:G} {K:AV→R} {r:List AO×List AO} {o:Oper} {next:Act→World→Prop} {Q:Exit→Act→World→Prop} {call:aw}
theorem iN {e:TypeId} {x:PV} {v:Value} (h:aV P w g (.sl e) x v):
  (x.toList=[]∧x= .sl []∧∃ad,v= .slice ad 0 0)∨∃(l:List PV) (b off cap:Nat) (f:Nat→Value),x= .sl l∧v= .slice (some ⟨b,off,none⟩) l.length cap∧
   (∀(i:Nat) (x:PV),l[i]? =some x→aV P w g (ai P e) x (f i))∧
   (∀i,i<l.length→∀j,j<P.cellsOf e→w.cell? ⟨b,off+i*P.cellsOf e+j,none⟩=(f i).cells[j]?)∧g.tag b= .free∧b<w.heap.size∧l.length≤cap:=by
 cases h with
 | Jn=>exact .inl ⟨rfl,rfl,_,rfl⟩
 | ON=>exact .inl ⟨rfl,rfl,_,rfl⟩
 | sl _ l b off cap f h hc ht hb hl=>exact .inr ⟨l,b,off,cap,f,rfl,rfl,h,hc,ht,hb,hl⟩
theorem mP (h:Good P N st a hv w g) {E:TypeId} {x:Operand} {l:List PV} (br:bL N x=true) (hx:fH st E x=some l):
  (l=[]∧∃ad,a.eval x= .slice ad 0 0)∨∃(b off cap:Nat) (f:Nat→Value),a.eval x= .slice (some ⟨b,off,none⟩) l.length cap∧
   (∀(i:Nat) (x:PV),l[i]? =some x→aV P w g (ai P E) x (f i))∧
   (∀i,i<l.length→∀j,j<P.cellsOf E→w.cell? ⟨b,off+i*P.cellsOf E+j,none⟩=(f i).cells[j]?):=by
 have key:∀(s:Nat) (p:List Nat) (y:AO),bY P w g s p y→y.elems E=some l→y≠ .dead→∀v,v=g.val s p→(l=[]∧∃ad,v= .slice ad 0 0)∨∃(b off cap:Nat) (f:Nat→Value),v= .slice (some ⟨b,off,none⟩) l.length cap∧
   (∀(i:Nat) (x:PV),l[i]? =some x→aV P w g (ai P E) x (f i))∧
   (∀i,i<l.length→∀j,j<P.cellsOf E→w.cell? ⟨b,off+i*P.cellsOf E+j,none⟩=(f i).cells[j]?):=by
  intro s p y hy hl _ v hv
  cases y with
  | pv t u=>
   simp only[AO.elems]at hl
   cases he:t.eq (.sl E)with
   | false=>simp[he]at hl
   | true=>
    simp only[he,cond_true,Option.some.injEq]at hl
    have ht:=Ty.iH he
    subst ht
    rcases iN hy.eK with ⟨h1,_,ad,h2⟩ | ⟨l',b,off,cap,f,rfl,h2,h3,h4,_⟩
    ·exact .inl ⟨by rw[←hl];exact h1,ad,by rw[hv];exact h2⟩
    ·simp only[PV.toList]at hl
     subst hl
     exact .inr ⟨b,off,cap,f,by rw[hv];exact h2,h3,h4⟩
  | arr E' l'=>
   simp only[AO.elems]at hl
   cases he:Nat.beq E' E with
   | false=>simp[he]at hl
   | true=>
    simp only[he,cond_true,Option.some.injEq]at hl
    have ht:=Nat.eq_of_beq_eq_true he
    subst ht;subst hl
    cases hy with
    | jt _ _ bh=>exact .inl ⟨rfl,none,by rw[hv];exact bh⟩
    | arr _ _ _ b off cap vs f T bh hh ht hl cU he hc=>
     refine .inr ⟨b,off,cap,f,by rw[hv];exact bh,he,fun i hi j hj=> ?_⟩
     rw[cell_of_row w b _ ⟨vs⟩ T (0,0) hh, ←hc i hi j hj];simp
  | _=>simp[AO.elems]at hl
 cases x with
 | tmp i=>
  simp only[fH]at hx
  have hs:=h.slot (by simpa[bL]using br)
  generalize hz:get st i=z at hs hx
  generalize a.eval (.tmp i)=v at hs ⊢
  cases hs with
  | o y v bh hy=>
   simp only[AV.elems]at hx
   have hd:y≠ .dead:=by rintro rfl;simp[AO.elems]at hx
   exact key _ _ y hy hx hd v (bh hd)
  | al s p v h'=>
   simp only[AV.elems]at hx
   have hd:obj st s p≠ .dead:=by intro hd;rw[hd]at hx;simp[AO.elems]at hx
   exact key _ _ _ (h.obj s p) hx hd v (h' hd)
  | clip E' l' ad h'=>
   simp only[AV.elems]at hx
   cases he:Nat.beq E' E with
   | false=>simp[he]at hx
   | true=>
    simp only[he,cond_true,Option.some.injEq]at hx
    have:=Nat.eq_of_beq_eq_true he
    subst this;subst hx
    rcases iN h' with ⟨h1,_,ZR,h2⟩ | ⟨l,b,off,cap,f,h1,h2,h3,h4,_⟩
    ·simp only[PV.toList]at h1
     subst h1
     exact .inl ⟨rfl,ad,rfl⟩
    ·cases h1
     exact .inr ⟨b,off,cap,f,h2,h3,h4⟩
  | _=>simp[AV.elems]at hx
 | const v=>
  cases v with
  | slice b n c=>
   cases b with
   | none=>
    cases n with
    | zero=>cases c with
     | zero=>simp[fH]at hx;exact .inl ⟨hx,none,rfl⟩
     | succ c=>simp[fH]at hx
    | succ n=>simp[fH]at hx
   | some b=>simp[fH]at hx
  | _=>simp[fH]at hx
 | _=>simp[fH]at hx
theorem AY (h:Good P N st a hv w g) {src dst:TypeId} {x:Operand} (aM:o.op= .convert src dst x) (br:ey N o) (hk:dX P call o st K=some r) (ag:fR P st a w g K r o next):o.wp P a w next Q:=by
 simp only[dX,aM]at hk
 have hx:=br x (by simp[aM,Op.operands])
 split at hk
 ·rename_i k' k hs hd
  split at hk
  ·rename_i A hA
   obtain⟨m,rfl,hm⟩:=(hs▸h.rd hx hA).cO
   exact aY h (by simp[execOp,aM,hm,convert,run_underlying (lW hs),run_underlying (lW hd),Conv.intToInt,PV.toInt]) (.int _ _) hk ag
  ·cases hk
 ·rename_i hs hd
  split at hk
  ·rename_i A hA
   obtain⟨m,rfl,hm⟩:=(hs▸h.rd hx hA).dm
   exact aY h (by simp[execOp,aM,hm,convert,run_underlying (gz hs),run_underlying (gz hd)]) (.str _) hk ag
  ·cases hk
 ·rename_i e hs hd
  split at hk
  ·rename_i A he hA
   cases jQ:Nat.beq (P.cellsOf e) 1 with
   | false=>simp[jQ]at hk
   | true=>
   simp only[jQ,cond_true]at hk
   have JR:=Nat.eq_of_beq_eq_true jQ
   obtain⟨m,rfl,hm⟩:=(hs▸h.rd hx hA).dm
   have ba:=Lib.run_convert_string_bytes (P:=P) w src dst e m (gz hs) (ec hd) (lW he)
   unfold Oper.wp
   have sQ:(execOp a.eval o).run P w= .ok (.value (.slice (some ⟨w.heap.size,0,none⟩) m.size (grownCap w m.size 0 e))) (Lib.bytesWorld w e m):=by
    have:execOp a.eval o=(do pure (Next.value (←convert src dst (a.eval x)))):=by simp only[execOp,aM]
    rw[this,hm,Sem.run_bind,ba];rfl
   rw[sQ]
   have eC:=Lib.bytesWorld_size w e m
   have hq:uB w g (Lib.bytesWorld w e m) (g.bP o.dst fun _=> .slice (some ⟨w.heap.size,0,none⟩) m.size (grownCap w m.size 0 e)) o.dst:=by
    refine⟨rfl,rfl,rfl,by omega,fun b hb=>⟨rfl,Lib.bytesWorld_at_old w e m b hb⟩,fun s p hd=>by simp[G.bP,hd],fun b hb=> ?_,fun b hb=> ?_⟩
    ·show g.tag b≠ .out;rw[h.inv.fresh b hb];simp
    ·exact h.inv.fresh b (by omega)
   refine ag _ _ _ _ hq (fun i hi=> ?_) hk
   refine .o _ _ (fun _=>by rw[hi,G.cC]) (.pv [] _ _ ?_)
   rw[hi,G.cC]
   have hlen:m.size=(m.data.toList.map fun b=>PV.int .u8 b.toNat).length:=by rw[List.length_map,Array.length_toList];rfl
   have:=aV.sl (P:=P) (w:=Lib.bytesWorld w e m) (g:=g.bP (some i) fun _=> .slice (some ⟨w.heap.size,0,none⟩) m.size (grownCap w m.size 0 e)) e
    (m.data.toList.map fun b=>PV.int .u8 b.toNat) w.heap.size 0 (grownCap w m.size 0 e) (fun i=> .int .u8 (m.data.toList.getD i 0).toNat) ?_ ?_ ?_ ?_ ?_
   ·rw[←hlen]at this;exact this
   ·intro j y hj
    rw[he]
    simp only[List.getElem?_map,Option.map_eq_some_iff]at hj
    obtain⟨c,Dc,rfl⟩:=hj
    have:m.data.toList.getD j 0=c:=by simp[List.getD,Dc]
    rw[this];exact .int _ _
   ·intro i hi j hj
    rw[JR]at hj ⊢
    have Dd:j=0:=by omega
    subst Dd
    have:=Lib.bytesWorld_cell w e m i (by rw[hlen];exact hi)
    rw[show 0+i*1+0=i by omega,this];rfl
   ·exact h.inv.fresh _ (Nat.le_refl _)
   ·omega
   ·rw[←hlen];exact grownCap_ge w m.size 0 e
  ·cases hk
 ·rename_i e hs hd
  split at hk
  ·rename_i l he hl
   cases jQ:Nat.beq (P.cellsOf e) 1 with
   | false=>simp[jQ]at hk
   | true=>
   simp only[jQ,cond_true]at hk
   have JR:=Nat.eq_of_beq_eq_true jQ
   have Na:=ec hs
   have wP:=lW he
   have VA:=gz hd
   rcases mP h hx hl with ⟨rfl,ad,bh⟩ | ⟨b,off,cap,f,bh,hp,hc⟩
   ·refine aY h (v:= .string ⟨#[]⟩) ?_ (.str _) hk ag
    cases ad with
    | none=>
     have:=run_convert_bytes_nil (P:=P) w src e Na wP 0 0 dst VA
     simp only[execOp,aM,bh,Sem.run_bind,this,Result.andThen_ok,Sem.run_pure];rfl
    | some a0=>
     have:=run_convert_bytes_string (P:=P) w src dst e (some a0) 0 0 Na wP VA
     simp only[execOp,aM,bh,Sem.run_bind,this,Result.andThen_ok,Sem.run_pure]
     simp[Conv.bytesToString,loadCells];rfl
   ·refine aY h (v:= .string ⟨(l.map fun c=>UInt8.ofNat c.toInt.toNat).toArray⟩) ?_ (.str _) hk ag
    have:=run_convert_bytes_arg (P:=P) w src e Na wP b off l.length cap (l.map PV.toInt) (by simp) (fun i hi=>by
     have hx:=List.getElem?_eq_getElem hi
     have Yf:=hp i _ hx
     rw[he]at Yf
     obtain⟨n,h1,h2⟩:=Yf.cO
     have:=hc i hi 0 (by omega)
     rw[JR]at this
     rw[show off+i=off+i*1+0 by omega,this,h2]
     simp[Value.cells,List.getD,hi,h1,PV.toInt]) dst VA
    have jw:strOfNums (l.map PV.toInt)=⟨(l.map fun c=>UInt8.ofNat c.toInt.toNat).toArray⟩:=by
     simp[strOfNums]
    simp only[execOp,aM,bh,Sem.run_bind,this,Result.andThen_ok,Sem.run_pure,jw]
  ·cases hk
 ·cases hk
end
end Go.V
namespace Go.V
section
variable {P:Program} {N:Nat} {st:St} {a:Act} {hv:List Value} {w:World} {g:G} {K:AV→R} {r:List AO×List AO} {o:Oper} {next:Act→World→Prop} {Q:Exit→Act→World→Prop} {call:aw}
theorem gA {t:TypeId} {x:PV} {v:Value} (h:aV P w g (ai P t) x v):∃d,P.underlying t=some d:=by
 cases hu:P.underlying t with
 | some d=>exact⟨d,rfl⟩
 | none=>
  have:ai P t= .no:=by simp[ai,hu]
  rw[this]at h;cases h
theorem sR {t:TypeId} (h:P.cellsOf t≠0):(sizeOf t).run P w= .ok (P.cellsOf t) w:=by
 unfold Program.cellsOf at h ⊢
 cases hi:P.info? t with
 | none=>simp[hi]at h
 | some i=>simp[sizeOf,typeInfo,hi]
theorem ef (h:Good P N st a hv w g) {x:Operand} (hx:bL N x=true) {s:Nat} {p:List Nat} (hl:cV st x=some (s,p)):a.eval x=g.val s p∧obj st s p≠ .dead:=by
 cases x with
 | tmp t=>
  simp only[cV]at hl
  have hs:=h.slot (by simpa[bL]using hx)
  generalize hz:get st t=z at hs hl
  generalize a.eval (.tmp t)=v at hs ⊢
  cases hs with
  | o y v bh hy=>
   cases y with
   | box E cs=>simp at hl;obtain⟨rfl,rfl⟩:=hl;exact⟨bh (by simp),by unfold obj;rw[hz];simp[AO.at]⟩
   | arr E cs=>simp at hl;obtain⟨rfl,rfl⟩:=hl;exact⟨bh (by simp),by unfold obj;rw[hz];simp[AO.at]⟩
   | own E D l hh=>simp at hl;obtain⟨rfl,rfl⟩:=hl;exact⟨bh (by simp),by unfold obj;rw[hz];simp[AO.at]⟩
   | map k e ks vs=>simp at hl;obtain⟨rfl,rfl⟩:=hl;exact⟨bh (by simp),by unfold obj;rw[hz];simp[AO.at]⟩
   | _=>simp at hl
  | al r q v h'=>
   simp only at hl
   split at hl
   ·rename_i bq;simp at hl;obtain⟨rfl,rfl⟩:=hl;exact⟨h' (by rw[bq];simp),by rw[bq];simp⟩
   ·rename_i bq;simp at hl;obtain⟨rfl,rfl⟩:=hl;exact⟨h' (by rw[bq];simp),by rw[bq];simp⟩
   ·rename_i bq;simp at hl;obtain⟨rfl,rfl⟩:=hl;exact⟨h' (by rw[bq];simp),by rw[bq];simp⟩
   ·rename_i bq;simp at hl;obtain⟨rfl,rfl⟩:=hl;exact⟨h' (by rw[bq];simp),by rw[bq];simp⟩
   ·simp at hl
  | _=>simp at hl
 | _=>simp[cV]at hl
theorem qJ (h:Good P N st a hv w g) {t:TypeId} {x:Operand} (aM:o.op= .makeInterface t x) (br:ey N o) (hk:dX P call o st K=some r) (ag:fR P st a w g K r o next):o.wp P a w next Q:=by
 simp only[dX,aM]at hk
 have hx:=br x (by simp[aM,Op.operands])
 split at hk
 ·rename_i v bh
  have hp:=h.rd hx bh
  obtain⟨d,hd⟩:=gA hp
  split at hk
  ·cases hk
  ·rename_i dc
   refine aY h ?_ (.Ql t v _ hp) hk ag
   have:(Instr.makeInterface t (a.eval x)).run P w= .ok (.iface t (a.eval x)) w:=by
    simp only[Instr.makeInterface,Sem.run_bind,run_underlying hd,Result.andThen_ok]
    cases d with
    | interface ms=>exact absurd (by simp[ai,hd]) dc
    | _=>rfl
   simp only[execOp,aM,Sem.run_bind,this,Result.andThen_ok,Sem.run_pure]
 ·cases hk
theorem wQ (h:Good P N st a hv w g) {T:TypeId} {x:Operand} {f:Nat} (aM:o.op= .fieldAddr T x f) (br:ey N o) (hk:dX P call o st K=some r) (ag:fR P st a w g K r o next):o.wp P a w next Q:=by
 simp only[dX,aM]at hk
 have hx:=br x (by simp[aM,Op.operands])
 split at hk
 ·rename_i fs hu
  split at hk
  ·rename_i fd VB
   cases hz:Nat.beq (P.cellsOf fd.type) 0 with
   | true=>simp[hz]at hk
   | false=>
    simp only[hz,cond_false]at hk
    have JS:P.cellsOf fd.type≠0:=fun h0=>by rw[h0]at hz;simp at hz
    have ba:∀b off,a.eval x= .pointer (some ⟨b,off,none⟩)→(execOp a.eval o).run P w= .ok (.value (.pointer (some ⟨b,off+fd.offset,none⟩))) w:=by
     intro b off dV
     simp only[execOp,aM,dV,Instr.fieldAt,Sem.run_bind,run_underlying hu,Result.andThen_ok,VB,Instr.sureAddr,Sem.run_pure,fieldPlace,sR JS,if_neg JS,iM,Sem.run_ite]
    split at hk
    ·rename_i s p off hp
     split at hk
     ·rename_i E cs bq
      obtain⟨b,vs,h1,h2,_⟩:=ee h hx hp bq
      exact bo h (ba b off h1) (fun _=> .ptr s p _ _ (fun _ _ _=>⟨b,h2,rfl⟩)) hk ag
     ·cases hk
    ·cases x with
     | tmp i=>
      simp only at hk
      have hi:i<N:=by simpa[bL]using hx
      split at hk
      ·rename_i E v off hg
       obtain⟨b,q,f,dV,hp,hc,ht,hb⟩:=jP h hi hg
       refine bo h (ba b _ dV) (fun _=> ?_) hk ag
       rw[Nat.add_assoc];exact .ip E v _ b q f hp hc ht hb
      ·split at hk
       ·rename_i s p j off hg
        split at hk
        ·rename_i Em bq
         obtain⟨E,m⟩:=Em
         have hs:=h.cb hi hg
         generalize dV:a.eval (.tmp i)=z at hs ba
         cases hs with
         | el _ _ _ _ _ h'=>
          obtain⟨hj,b,q,n,cap,qH,he⟩:=h' E m bq
          refine bo h (ba b _ he) (fun _=> .el s p j _ _ (fun E' l' JM=> ?_)) hk ag
          rw[bq]at JM;cases JM
          exact⟨hj,b,q,n,cap,qH,by rw[Nat.add_assoc]⟩
        ·cases hk
       ·cases hk
     | _=>simp at hk
  ·cases hk
 ·cases hk
theorem Hf (h:Good P N st a hv w g) {T:TypeId} {x:Operand} {f:Nat} (aM:o.op= .field T x f) (br:ey N o) (hk:dX P call o st K=some r) (ag:fR P st a w g K r o next):o.wp P a w next Q:=by
 simp only[dX,aM]at hk
 have hx:=br x (by simp[aM,Op.operands])
 split at hk
 ·rename_i fs hu
  split at hk
  ·rename_i fd v VB lH
   split at hk
   ·rename_i y hy
    have hp:=h.rd hx lH
    have hT:ai P T= .st T:=by simp[ai,hu]
    have Su:=hp
    rw[hT]at Su
    obtain⟨xs,cs,rfl,jN,_⟩:=Su.eu
    rw[jN]at hp
    obtain⟨z,h1,h2⟩:=pZ hp hy
    refine aY h ?_ h2 hk ag
    simp only[execOp,aM,jN,Instr.field,Sem.run_bind,run_underlying hu,Result.andThen_ok,VB,asAgg,Sem.run_pure,h1]
   ·cases hk
  ·cases hk
 ·cases hk
theorem pC {T E:TypeId} {x ix:Operand} (aM:o.op= .indexAddr T x ix) (hu:P.underlying T=some (.slice E)) {b q n cap:Nat} {k:IntKind} {i:Int} (hx:a.eval x= .slice (some ⟨b,q,none⟩) n cap)
  (hi:a.eval ix= .int k i) (h0:0≤i) (h1:i<n) {d:TypeDesc} (hE:P.underlying E=some d):(execOp a.eval o).run P w= .ok (.value (.pointer (some ⟨b,q+i.toNat*P.cellsOf E,none⟩))) w:=by
 have he:P.elem T=E:=by simp[Program.elem,hu]
 have:=run_indexAt_slice (P:=P) w T ⟨b,q,none⟩ n cap k i (by rw[he];exact hu)
 simp only[execOp,aM,hx,hi,Sem.run_bind,this,he,run_sizeOf hE,Result.andThen_ok,h0,h1,and_self,if_true,iM,Sem.run_pure]
theorem Hg {s:Nat} {p:List Nat} {y:AO} (h:bY P w g s p y) {E:TypeId} {m:Nat} (hl:y.iF=some (E,m)) (hm:0<m):
  ∃(b q cap:Nat) (d:TypeDesc),g.val s p= .slice (some ⟨b,q,none⟩) m cap∧P.underlying E=some d:=by
 cases h with
 | jt=>simp[AO.iF]at hl;omega
 | og=>simp[AO.iF]at hl;omega
 | arr _ _ l b off cap vs f T hv hh ht jR cU he hc=>
  simp[AO.iF]at hl
  obtain⟨rfl,rfl⟩:=hl
  obtain⟨d,hd⟩:=gA (he 0 _ (List.getElem?_eq_getElem hm))
  exact⟨b,off,cap,d,hv,hd⟩
 | own _ _ D l _ b off cap vs T hv hh ht jR cU h1 iK=>
  simp[AO.iF]at hl
  obtain⟨rfl,rfl⟩:=hl
  exact⟨b,off,cap,_,hv,ec iK⟩
 | _=>simp[AO.iF]at hl
theorem oh {T e:TypeId} {m:Nat} {x ix:Operand} (aM:o.op= .indexAddr T x ix) (hu:P.underlying T=some (.array m e)) {b q:Nat} {k:IntKind} {i:Int} (hx:a.eval x= .pointer (some ⟨b,q,none⟩))
  (hi:a.eval ix= .int k i) (h0:0≤i) (h1:i<m) (hE:(P.info? e).isSome=true):(execOp a.eval o).run P w= .ok (.value (.pointer (some ⟨b,q+i.toNat*P.cellsOf e,none⟩))) w:=by
 have he:P.elem T=e:=by simp[Program.elem,hu]
 have hm:P.arrayLen T=m:=by simp[Program.arrayLen,hu]
 have hs:(sizeOf e).run P w= .ok (P.cellsOf e) w:=by
  cases Hh:P.info? e with
  | none=>rw[Hh]at hE;cases hE
  | some z=>simp[sizeOf,typeInfo,Program.cellsOf,Hh]
 have:=run_indexAt_array (P:=P) w T ⟨b,q,none⟩ k i (by rw[he,hm];exact hu)
 simp only[execOp,aM,hx,hi,Sem.run_bind,this,he,hm,hs,Result.andThen_ok,h0,h1,and_self,if_true,iM,Sem.run_pure]
theorem wR (h:Good P N st a hv w g) {T:TypeId} {x ix:Operand} (aM:o.op= .indexAddr T x ix) (br:ey N o) (hk:dX P call o st K=some r) (ag:fR P st a w g K r o next):o.wp P a w next Q:=by
 simp only[dX,aM]at hk
 have hx:=br x (by simp[aM,Op.operands])
 have RT:=br ix (by simp[aM,Op.operands])
 split at hk
 ·rename_i E n hT hn
  obtain⟨k,i,rfl,hi⟩:=h.ck RT hn
  have hu:=ec hT
  split at hk
  ·rename_i s p hl
   obtain⟨dV,_⟩:=ef h hx hl
   split at hk
   ·rename_i E' m bq
    cases hc:(Nat.beq E E'&&(decide (0≤(PV.int k i).toInt)&&decide ((PV.int k i).toInt<m)))with
    | false=>simp[hc]at hk
    | true=>
     simp only[hc,cond_true]at hk
     simp only[PV.toInt]at hk
     simp only[Bool.and_eq_true]at hc
     obtain⟨hE,Nx,xt⟩:=hc
     have h0:0≤i:=of_decide_eq_true Nx
     have h1:i<m:=of_decide_eq_true xt
     have AZ:=Nat.eq_of_beq_eq_true hE
     subst AZ
     obtain⟨b,q,cap,d,bh,hd⟩:=Hg (h.obj s p) bq (by omega)
     refine bo h (pC aM hu (dV.trans bh) hi h0 h1 hd) (fun _=> .el s p _ _ _ (fun E' l' JM=> ?_)) hk ag
     rw[bq]at JM;cases JM
     exact⟨by omega,b,q,_,cap,bh,rfl⟩
   ·cases hk
  ·split at hk
   ·rename_i v lH
    cases hc:(decide (0≤(PV.int k i).toInt)&&decide ((PV.int k i).toInt<v.toList.length))with
    | false=>simp[hc]at hk
    | true=>
     simp only[hc,cond_true]at hk
     simp only[PV.toInt]at hk
     simp only[Bool.and_eq_true]at hc
     obtain⟨Nx,xt⟩:=hc
     have h0:0≤i:=of_decide_eq_true Nx
     have h1:i<v.toList.length:=of_decide_eq_true xt
     have hp:=h.rd hx lH
     rw[hT]at hp
     rcases iN hp with ⟨qK,_⟩ | ⟨l,b,q,cap,f,rfl,bh,he,cW,ht,hb,_⟩
     ·rw[qK]at h1;simp at h1;omega
     ·simp only[PV.toList]at h1 hk
      have b6:i.toNat<l.length:=by omega
      have RU:=List.getElem?_eq_getElem b6
      have JT:nth default l i.toNat=l[i.toNat]:=by rw[bZ,RU];rfl
      obtain⟨d,hd⟩:=gA (he _ _ RU)
      refine bo h (pC aM hu bh hi h0 h1 hd) (fun _=> ?_) hk ag
      rw[JT]
      exact .ip E _ 0 b (q+i.toNat*P.cellsOf E) (f i.toNat) (he _ _ RU) (fun j hj=>cW _ b6 j hj) ht hb
   ·cases hk
 ·rename_i T' n hT hn
  obtain⟨k,i,rfl,hi⟩:=h.ck RT hn
  split at hk
  ·rename_i m e hu
   have key:∀ {c:Bool} {x:R} {y:List AO×List AO},(bif c then x else none)=some y→c=true∧x=some y:=by
    intro c x y h;cases c<;>simp_all
   obtain⟨hc,hk⟩:=key hk
   ·simp only[PV.toInt]at hk hc
    simp only[Bool.and_eq_true]at hc
    obtain⟨hE,_,Nx,xt⟩:=hc
    have h0:0≤i:=of_decide_eq_true Nx
    have h1:i<m:=of_decide_eq_true xt
    split at hk
    ·rename_i s p off hp
     split at hk
     ·rename_i E cs bq
      obtain⟨b,vs,e1,e2,_⟩:=ee h hx hp bq
      exact bo h (oh aM hu e1 hi h0 h1 hE) (fun _=> .ptr s p _ _ (fun _ _ _=>⟨b,e2,rfl⟩)) hk ag
     ·cases hk
    ·cases x with
     | tmp t=>
      simp only at hk
      split at hk
      ·rename_i E v off hr
       obtain⟨b,q,f,dV,hp,hc,ht,hb⟩:=jP h (by simpa[bL]using hx) hr
       refine bo h (oh aM hu dV hi h0 h1 hE) (fun _=> ?_) hk ag
       rw[Nat.add_assoc];exact .ip E v _ b q f hp hc ht hb
      ·cases hk
     | _=>simp at hk
  ·cases hk
 ·cases hk
theorem Hi (h:Good P N st a hv w g) {T:TypeId} {x ix:Operand} (aM:o.op= .index T x ix) (br:ey N o) (hk:dX P call o st K=some r) (ag:fR P st a w g K r o next):o.wp P a w next Q:=by
 simp only[dX,aM]at hk
 have hx:=br x (by simp[aM,Op.operands])
 have RT:=br ix (by simp[aM,Op.operands])
 split at hk
 ·rename_i v n hT lH hn
  obtain⟨k,i,rfl,hi⟩:=h.ck RT hn
  obtain⟨s,rfl,hs⟩:=(hT▸h.rd hx lH).dm
  cases hc:(decide (0≤(PV.int k i).toInt)&&decide ((PV.int k i).toInt<(PV.str s).toStr.size))with
  | false=>simp[hc]at hk
  | true=>
   simp only[hc,cond_true]at hk
   simp only[PV.toInt,PV.toStr]at hk
   simp only[Bool.and_eq_true]at hc
   obtain⟨Nx,xt⟩:=hc
   have h0:0≤i:=of_decide_eq_true Nx
   have h1:i<s.size:=of_decide_eq_true xt
   have b6:i.toNat<s.size:=by omega
   have JT:nth 0 s.data.toList i.toNat=s[i.toNat]:=by
    rw[bZ,List.getElem?_eq_getElem (by simpa using b6)];simp;rfl
   refine aY h ?_ (.int .u8 _) hk ag
   simp only[execOp,aM,hs,hi,Instr.index,asIntOf,Sem.run_bind,Sem.run_pure,Result.andThen_ok,run_underlying (gz hT),if_pos h0,ByteArray.getElem?_lt' s i.toNat b6,JT]
 ·cases hk
theorem A0 (h:Good P N st a hv w g) {x:Operand} {i:Nat} (aM:o.op= .extract x i) (br:ey N o) (hk:dX P call o st K=some r) (ag:fR P st a w g K r o next):o.wp P a w next Q:=by
 simp only[dX,aM]at hk
 have hx:=br x (by simp[aM,Op.operands])
 cases x with
 | tmp t=>
  simp only at hk
  split at hk
  ·rename_i xs hg
   have hs:=h.cb (by simpa[bL]using hx) hg
   generalize bh:a.eval (.tmp t)=z at hs
   cases hs with
   | jg _ vs hl hh=>
    split at hk
    ·rename_i ty v hn
     have RU:=lZ hn (by simp)
     have b6:=(List.getElem?_eq_some_iff.1 RU).1
     have uI:=List.getElem?_eq_getElem (show i<vs.length by omega)
     obtain⟨t',y,h1,h2⟩:=hh i _ _ RU uI
     cases h1
     refine aY h ?_ h2 hk ag
     simp[execOp,aM,bh,Instr.extract,uI]
    ·cases hk
  ·cases hk
 | _=>simp at hk
end
end Go.V
namespace Go.V
section
variable {P:Program} {N:Nat} {st:St} {a:Act} {hv:List Value} {w:World} {g:G} {K:AV→R} {r:List AO×List AO} {o:Oper} {next:Act→World→Prop} {Q:Exit→Act→World→Prop} {call:aw}
theorem aH {c:Bool} {x:R} {y:List AO×List AO} (h:(bif c then x else none)=some y):c=true∧x=some y:=by
 cases c<;>simp_all
theorem bg {α:Type} {c:Bool} {x:Option α} {y:α} (h:(bif c then x else none)=some y):c=true∧x=some y:=by
 cases c<;>simp_all
theorem dY {t:TypeId} (h:(P.info? t).isSome=true):(sizeOf t).run P w= .ok (P.cellsOf t) w:=by
 cases hi:P.info? t with
 | none=>rw[hi]at h;cases h
 | some i=>simp[sizeOf,typeInfo,Program.cellsOf,hi]
def bound (st:St) (d:Int):Option Operand→Option PV
 | some y=>ck st y
 | none=>some (.int .i64 d)
theorem gX (h:Good P N st a hv w g) {y:Option Operand} (hy:∀z,y=some z→bL N z=true) {d:Int} {v:PV} (hb:bound st d y=some v):
  (y=none∧v.toInt=d)∨∃z k,y=some z∧a.eval z= .int k v.toInt:=by
 cases y with
 | none=>simp[bound]at hb;subst hb;exact .inl ⟨rfl,rfl⟩
 | some z=>
  obtain⟨k,n,rfl,hn⟩:=h.ck (hy z rfl) hb
  exact .inr ⟨z,k,rfl,hn⟩
theorem jY {isSlice:Bool} {len cap:Nat} {lo hi:Option Operand} {L H:Int} {ρ:Operand→Value} (fy:(lo=none∧L=0)∨∃z k,lo=some z∧ρ z= .int k L) (Jq:(hi=none∧H=len)∨∃z k,hi=some z∧ρ z= .int k H)
  (h0:0≤L) (h1:L≤H) (h2:H≤len) (hc:len≤cap):(Instr.sliceBounds isSlice len cap (lo.map ρ) (hi.map ρ) none).run P w= .ok (L.toNat,H.toNat,cap) w:=by
 have eH:((H.toNat:Nat):Int)=H:=Int.toNat_of_nonneg (by omega)
 rcases fy with ⟨rfl,rfl⟩ | ⟨z,k,rfl,hz⟩<;>rcases Jq with ⟨rfl,rfl⟩ | ⟨z',k',rfl,JS⟩
 ·simp[Instr.sliceBounds]
 ·simp[Instr.sliceBounds,JS,run_sliceBound w k' H cap _ (by omega) (by omega)]
 ·simp[Instr.sliceBounds,hz,run_sliceBound w k L len _ (by omega) (by omega)]
 ·simp[Instr.sliceBounds,hz,JS,run_sliceBound w k' H cap _ (by omega) (by omega),run_sliceBound w k L H.toNat _ (by omega) (by omega)]
theorem rV {len cap:Nat} {lo:Option Operand} {z0 y0:Operand} {L H M:Int} {ρ:Operand→Value} {kh km:IntKind} (fy:(lo=none∧L=0)∨∃z k,lo=some z∧ρ z= .int k L) (Yg:ρ z0= .int kh H) (Ss:ρ y0= .int km M)
  (h0:0≤L) (h1:L≤H) (h2:H≤len) (hm:M=H) (hc:len≤cap):(Instr.sliceBounds true len cap (lo.map ρ) (some (ρ z0)) (some (ρ y0))).run P w= .ok (L.toNat,H.toNat,H.toNat) w:=by
 subst hm
 have eH:((M.toNat:Nat):Int)=M:=Int.toNat_of_nonneg (by omega)
 rcases fy with ⟨rfl,rfl⟩ | ⟨z,k,rfl,hz⟩
 ·simp[Instr.sliceBounds,Yg,Ss,run_sliceBound w km M cap _ (by omega) (by omega),run_sliceBound w kh M M.toNat _ (by omega) (by omega)]
 ·simp[Instr.sliceBounds,Yg,Ss,hz,run_sliceBound w km M cap _ (by omega) (by omega),run_sliceBound w kh M M.toNat _ (by omega) (by omega),run_sliceBound w k L M.toNat _ (by omega) (by omega)]
theorem Hj (h:Good P N st a hv w g) {T:TypeId} {x:Operand} {lo hi mx:Option Operand} (aM:o.op= .slice T x lo hi mx) (br:ey N o) (hk:dX P call o st K=some r) (ag:fR P st a w g K r o next):o.wp P a w next Q:=by
 have hx:bL N x=true:=br x (by simp[aM,Op.operands])
 have fy:∀z,lo=some z→bL N z=true:=fun z hz=>br z (by simp[aM,Op.operands,hz])
 have Jq:∀z,hi=some z→bL N z=true:=fun z hz=>br z (by simp[aM,Op.operands,hz])
 simp only[dX,aM]at hk
 split at hk
 ·rename_i y
  split at hk
  ·rename_i E l v H m hT hl lH hH hm
   obtain⟨hc,kK⟩:=aH hk
   clear hk
   simp only[Bool.and_eq_true]at hc
   obtain⟨ci,c0,c1,c2,c3⟩:=hc
   have jR:=gX h fy (v:=l) (d:=0) (by cases lo<;>exact hl)
   cases hi with
   | none=>cases hH
   | some z=>
    obtain⟨kh,H',rfl,QA⟩:=h.ck (Jq z rfl) hH
    have Sv:bL N y=true:=br y (by simp[aM,Op.operands])
    obtain⟨km,M',rfl,ZS⟩:=h.ck Sv hm
    simp only[PV.toInt]at c1 c2 c3
    rw[show(PV.int kh H').toInt=H' from rfl]at kK
    have c0:0≤l.toInt:=of_decide_eq_true c0
    have c1:l.toInt≤H':=of_decide_eq_true c1
    have c2:H'≤v.toList.length:=of_decide_eq_true c2
    have c3:M'=H':=of_decide_eq_true c3
    have hp:=h.rd hx lH
    rw[hT]at hp
    have hu:=ec hT
    have Jr:P.elem T=E:=by simp[Program.elem,hu]
    have ba:∀ad n cap,n=v.toList.length→n≤cap→a.eval x= .slice ad n cap→
      (execOp a.eval o).run P w= .ok (.value (.slice (if H'.toNat=l.toInt.toNat then ad else ad.map (·.add (l.toInt.toNat*P.cellsOf E))) (H'.toNat-l.toInt.toNat) (H'.toNat-l.toInt.toNat))) w:=by
     intro ad n cap hn cU dV
     have hb:=rV (P:=P) (w:=w) (len:=n) (cap:=cap) (ρ:=a.eval) jR QA ZS c0 c1 (by rw[hn];exact c2) c3 cU
     have:(Instr.sliceAt T (.slice ad n cap) (lo.map a.eval) (some (a.eval z)) (some (a.eval y))).run P w= .ok (.slice (if H'.toNat=l.toInt.toNat then ad else ad.map (·.add (l.toInt.toNat*P.cellsOf E))) (H'.toNat-l.toInt.toNat) (H'.toNat-l.toInt.toNat)) w:=by
      rw[run_sliceAt_slice w T _ _ _ _ (by rw[Jr];exact hu)]
      simp only[Instr.slice,Sem.run_bind,run_underlying hu,Result.andThen_ok,hb,dY ci,Sem.run_pure]
     simp only[execOp,aM,dV,Option.map_some,Sem.run_bind,this,Result.andThen_ok,Sem.run_pure]
    have fin:∀(ad:Option Addr) (l':List PV),l'.length=H'.toNat-l.toInt.toNat→aV P w g (.sl E) (.sl l') (.slice ad (H'.toNat-l.toInt.toNat) (H'.toNat-l.toInt.toNat))→∀i,fm P w g st i (.clip E l') (.slice ad (H'.toNat-l.toInt.toNat) (H'.toNat-l.toInt.toNat)):=by
     intro ad l' hl hp i
     rw[←hl]at hp ⊢
     exact .clip E l' ad hp
    have hlen:v.toList.length=v.toList.length→((v.toList.take H'.toNat).drop l.toInt.toNat).length=H'.toNat-l.toInt.toNat:=by intro _;simp;omega
    have hlen:=hlen rfl
    rcases iN hp with ⟨qK,rfl,ad,bh⟩ | ⟨l',b,q,cap,f,rfl,bh,he,cW,ht,hb,cU⟩
    ·simp only[PV.toList,List.length_nil]at c2
     have e1:l.toInt.toNat=0:=by omega
     have e2:H'.toNat=0:=by omega
     refine bo h (ba ad 0 0 (by simp[PV.toList]) (Nat.le_refl _) bh) (fin _ _ hlen ?_) kK ag
     simp only[PV.toList,e1,e2,if_true]
     cases ad with
     | none=>exact .Jn E
     | some a0=>exact .ON E a0
    ·simp only[PV.toList]at c2 kK hlen
     refine bo h (ba _ _ cap rfl cU bh) (fin _ _ hlen ?_) kK ag
     by_cases jW:H'.toNat=l.toInt.toNat
     ·rw[if_pos jW]
      have qK:(l'.take H'.toNat).drop l.toInt.toNat=[]:=List.eq_nil_of_length_eq_zero (by omega)
      have h0:H'.toNat-l.toInt.toNat=0:=by omega
      rw[qK,h0]
      exact .ON E _
     ·rw[if_neg jW]
      simp only[Option.map_some,iM]
      have:=aV.sl (P:=P) (w:=w) (g:=g) E ((l'.take H'.toNat).drop l.toInt.toNat) b (q+l.toInt.toNat*P.cellsOf E) (H'.toNat-l.toInt.toNat) (fun i=>f (l.toInt.toNat+i)) (fun i x hx=> ?_) (fun i hi j hj=> ?_) ht hb (by omega)
      ·rw[hlen]at this;exact this
      ·rw[List.getElem?_drop,List.getElem?_take]at hx
       split at hx
       ·exact he _ x hx
       ·cases hx
      ·rw[←cW (l.toInt.toNat+i) (by omega) j hj,Nat.add_mul]
       congr 2;omega
  ·cases hk
 ·rename_i hmx
  split at hk
  ·rename_i l v hl lH
   have jR:=gX h fy (v:=l) (d:=0) (by cases lo<;>exact hl)
   split at hk
   ·rename_i hT
    obtain⟨s,rfl,hs⟩:=(hT▸h.rd hx lH).dm
    split at hk
    ·rename_i H hH
     have QA:=gX h Jq (v:=H) (d:=(PV.str s).toStr.size) (by cases hi<;>exact hH)
     obtain⟨hc,hk⟩:=aH hk
     simp only[Bool.and_eq_true]at hc
     obtain⟨c0,c1,c2⟩:=hc
     have c0:0≤l.toInt:=of_decide_eq_true c0
     have c1:l.toInt≤H.toInt:=of_decide_eq_true c1
     have c2:H.toInt≤s.size:=of_decide_eq_true c2
     refine aY h ?_ (.str _) hk ag
     have hb:=jY (P:=P) (w:=w) (isSlice:=false) (len:=s.size) (cap:=s.size) jR QA c0 c1 c2 (Nat.le_refl _)
     have hu:=gz hT
     have:(Instr.sliceAt T (.string s) (lo.map a.eval) (hi.map a.eval) none).run P w= .ok (.string (s.extract l.toInt.toNat H.toInt.toNat)) w:=by
      rw[run_sliceAt_string w T _ _ _ _ hu]
      simp only[Instr.slice,Sem.run_bind,run_underlying hu,Result.andThen_ok,hb,Option.isSome,Bool.false_eq_true,if_false,Sem.run_pure]
     simp only[execOp,aM,hs,Option.map_none,Sem.run_bind,this,Result.andThen_ok,Sem.run_pure];rfl
    ·cases hk
   ·rename_i E hT
    have hp:=h.rd hx lH
    rw[hT]at hp
    have hu:=ec hT
    have Jr:P.elem T=E:=by simp[Program.elem,hu]
    split at hk
    ·rename_i H hH
     have QA:=gX h Jq (v:=H) (d:=v.toList.length) (by cases hi<;>exact hH)
     obtain⟨hc,hk⟩:=aH hk
     simp only[Bool.and_eq_true]at hc
     obtain⟨ci,c0,c1,c2⟩:=hc
     have c0:0≤l.toInt:=of_decide_eq_true c0
     have c1:l.toInt≤H.toInt:=of_decide_eq_true c1
     have c2:H.toInt≤v.toList.length:=of_decide_eq_true c2
     have ba:∀ad n cap,n=v.toList.length→n≤cap→a.eval x= .slice ad n cap→
       (execOp a.eval o).run P w= .ok (.value (.slice (if cap=l.toInt.toNat then ad else ad.map (·.add (l.toInt.toNat*P.cellsOf E))) (H.toInt.toNat-l.toInt.toNat) (cap-l.toInt.toNat))) w:=by
      intro ad n cap hn cU dV
      have hb:=jY (P:=P) (w:=w) (isSlice:=true) (len:=n) (cap:=cap) jR (by rw[hn];exact QA) c0 c1 (by rw[hn];exact c2) cU
      have:(Instr.sliceAt T (.slice ad n cap) (lo.map a.eval) (hi.map a.eval) none).run P w= .ok (.slice (if cap=l.toInt.toNat then ad else ad.map (·.add (l.toInt.toNat*P.cellsOf E))) (H.toInt.toNat-l.toInt.toNat) (cap-l.toInt.toNat)) w:=by
       rw[run_sliceAt_slice w T _ _ _ _ (by rw[Jr];exact hu)]
       simp only[Instr.slice,Sem.run_bind,run_underlying hu,Result.andThen_ok,hb,dY ci,Sem.run_pure]
      simp only[execOp,aM,dV,Option.map_none,Sem.run_bind,this,Result.andThen_ok,Sem.run_pure]
     rcases iN hp with ⟨qK,rfl,ad,bh⟩ | ⟨l',b,q,cap,f,rfl,bh,he,cW,ht,hb,cU⟩
     ·simp only[PV.toList,List.length_nil]at c2
      have e1:l.toInt.toNat=0:=by omega
      have e2:H.toInt.toNat=0:=by omega
      refine aY h (ba ad 0 0 (by simp[PV.toList]) (Nat.le_refl _) bh) ?_ hk ag
      simp only[PV.toList,e1,e2,if_true]
      cases ad with
      | none=>exact .Jn E
      | some a0=>exact .ON E a0
     ·simp only[PV.toList]at c2 hk
      refine aY h (ba _ _ cap rfl cU bh) ?_ hk ag
      have hlen:((l'.take H.toInt.toNat).drop l.toInt.toNat).length=H.toInt.toNat-l.toInt.toNat:=by simp;omega
      by_cases jW:cap=l.toInt.toNat
      ·rw[if_pos jW, ←hlen]
       have qK:(l'.take H.toInt.toNat).drop l.toInt.toNat=[]:=List.eq_nil_of_length_eq_zero (by omega)
       rw[qK]
       exact .sl E [] b q (cap-l.toInt.toNat) f (fun i x hx=>by simp at hx) (fun i hi=>by simp at hi) ht hb (Nat.zero_le _)
      ·rw[if_neg jW, ←hlen]
       simp only[Option.map_some,iM]
       refine .sl E _ b (q+l.toInt.toNat*P.cellsOf E) (cap-l.toInt.toNat) (fun i=>f (l.toInt.toNat+i)) (fun i x hx=> ?_) (fun i hi j hj=> ?_) ht hb (by omega)
       ·rw[List.getElem?_drop,List.getElem?_take]at hx
        split at hx
        ·exact he _ x hx
        ·cases hx
       ·rw[←cW (l.toInt.toNat+i) (by omega) j hj,Nat.add_mul]
        congr 2;omega
    ·cases hk
   ·cases hk
  ·cases hk
end
end Go.V
namespace Go.V
section
variable {P:Program} {N:Nat} {st:St} {a:Act} {hv:List Value} {w:World} {g:G} {K:AV→R} {r:List AO×List AO} {o:Oper} {next:Act→World→Prop} {Q:Exit→Act→World→Prop} {call:aw}
theorem oi {t:TypeId} (h:bA (ai P t)=true):ae P deep t=[ai P t]:=by
 obtain⟨d,hd,h1,h2⟩:=qG h
 show ae P (11+1) t=_
 simp only[ae,hd]
 cases d<;>first | rfl | exact absurd rfl (h1 _) | exact absurd rfl (h2 _ _)
theorem fp {t:Ty} {x:PV} {v:Value} (hs:bA t=true) (h:aV P w g t x v):v.cells= #[v]∧v.oneCell'=true:=by
 cases h<;>first | (simp[bA]at hs;done) | exact⟨rfl,rfl⟩
theorem dI {T:TypeId} {x:PV} {v:Value} (h:aV P w g (ai P T) x v) (hT:(aO (ai P T)|| bA (ai P T))=true):
  (fI P T x).length=(ae P deep T).length∧v.cells.size=(ae P deep T).length∧
  ∀(j:Nat) (ty:Ty) (y:PV) (c:Value),(ae P deep T)[j]? =some ty→(fI P T x)[j]? =some y→v.cells[j]? =some c→aV P w g ty y c:=by
 unfold fI
 cases hA:aO (ai P T)with
 | true=>
  rw[dD hA]at h
  obtain⟨xs,cs,rfl,rfl,h1,h2,h3⟩:=h.eu
  refine⟨by simp[bB],by simpa[Value.cells]using h2,fun j ty y c iK hy hc=> ?_⟩
  have hj:=(List.getElem?_eq_some_iff.1 iK).1
  simp only[cond_true,bB,List.getElem?_map,List.getElem?_range hj,Option.map_some,Option.some.injEq]at hy
  refine h3 j ty y c iK ?_ (by simpa[Value.cells]using hc)
  rw[←hy,lY,Nat.zero_add,List.getElem?_eq_getElem (by omega)];rfl
 | false=>
  have hs:bA (ai P T)=true:=by rw[hA]at hT;simpa using hT
  rw[oi hs]
  obtain⟨hc,_⟩:=fp hs h
  rw[hc]
  refine⟨rfl,rfl,fun j ty y c iK hy hc=> ?_⟩
  cases j with
  | zero=>simp at iK hy hc;subst iK hy hc;exact h
  | succ j=>simp at iK
theorem mQ:∀(vs cs:List PV) (off:Nat),(setCells cs off vs).length=cs.length∧
  ∀k,(setCells cs off vs)[k]? =if off≤k∧k<off+vs.length∧k<cs.length then vs[k-off]? else cs[k]?
 | [],cs,off=>by
  refine⟨rfl,fun k=> ?_⟩
  simp only[setCells,List.length_nil,Nat.add_zero]
  rw[if_neg (by omega)]
 | v::vs,cs,off=>by
  obtain⟨h1,h2⟩:=mQ vs (cs.set off v) (off+1)
  simp only[setCells]
  refine⟨by rw[h1];simp,fun k=> ?_⟩
  rw[h2 k]
  simp only[List.length_set,List.length_cons,List.getElem?_set]
  by_cases hk:off=k
  ·subst hk
   rw[if_neg (by omega),if_pos rfl]
   by_cases hs:off<cs.length
   ·rw[if_pos hs,if_pos ⟨Nat.le_refl _,by omega,hs⟩,Nat.sub_self];rfl
   ·rw[if_neg hs,if_neg (by omega),List.getElem?_eq_none (by omega)]
  ·by_cases fQ:off+1≤k∧k<off+1+vs.length∧k<cs.length
   ·rw[if_pos fQ,if_pos (by omega)]
    have e:k-off=(k- (off+1))+1:=by omega
    rw[e,List.getElem?_cons_succ]
   ·rw[if_neg fQ,if_neg hk,if_neg (by omega)]
structure Typed (P:Program) (w:World) (g:G) (ts:List Ty) (xs:List PV) (cs:Array Value):Prop where
 lx:xs.length=ts.length
 lc:cs.size=ts.length
 rep:∀(j:Nat) (ty:Ty) (y:PV) (c:Value),ts[j]? =some ty→xs[j]? =some y→cs[j]? =some c→aV P w g ty y c
theorem sS (h:Good P N st a hv w g) {T:TypeId} {fs:Array Field}:∀ {ps:List (Nat×Operand)} {vs:List (Nat×List PV)} {xs:List PV} {cs:Array Value},(∀p∈ps,bL N p.2=true)→
  parts P st T fs.toList ps=some vs→Typed P w g (ae P deep T) xs cs→
  ∃mH,Instr.fill ((fs.map fun f=>(f.offset,P.cellsOf f.type))[·]?) cs (ps.map fun p=>(p.1,a.eval p.2))=some mH∧Typed P w g (ae P deep T) (eo xs vs) mH
 | [],vs,xs,cs,_,hp,ht=>by
  simp[parts]at hp;subst hp
  exact⟨cs,rfl,ht⟩
 | (i,x)::ps,vs,xs,cs,br,hp,ht=>by
  simp only[parts]at hp
  split at hp
  ·rename_i f hf
   split at hp
   ·rename_i v rU hv QB
    cases hc:(Nat.beq (P.cellsOf f.type) (ae P deep f.type).length&&(lF (ae P deep f.type) ((ae P deep T).drop f.offset)&&((aO (ai P f.type)|| bA (ai P f.type))&&decide (0<P.cellsOf f.type))))with
    | false=>rw[hc]at hp;simp at hp
    | true=>
     rw[hc]at hp
     simp only[cond_true,Option.some.injEq]at hp
     simp only[Bool.and_eq_true]at hc
     obtain⟨eC,nL,AS,wS⟩:=hc
     have wS:=of_decide_eq_true wS
     have Nv:=Nat.eq_of_beq_eq_true eC
     have fZ:=h.rd (br (i,x) (by simp)) hv
     obtain⟨l1,l2,l3⟩:=dI fZ AS
     have hle:∀j,j<(ae P deep f.type).length→f.offset+j<(ae P deep T).length:=by
      intro j hj
      have:=gO nL (List.getElem?_eq_getElem hj)
      rw[List.getElem?_drop]at this
      exact(List.getElem?_eq_some_iff.1 this).1
     have VC:f.offset+(ae P deep f.type).length≤(ae P deep T).length:=by
      have:=hle ((ae P deep f.type).length-1) (by omega);omega
     have Fz:Instr.fill ((fs.map fun f=>(f.offset,P.cellsOf f.type))[·]?) cs (((i,x)::ps).map fun p=>(p.1,a.eval p.2))=
       Instr.fill ((fs.map fun f=>(f.offset,P.cellsOf f.type))[·]?) ((a.eval x).cells.zipIdx.foldl (fun cs (c,j)=>cs.setIfInBounds (f.offset+j) c) cs) (ps.map fun p=>(p.1,a.eval p.2)):=by
      have QC:(fs.map fun f=>(f.offset,P.cellsOf f.type))[i]? =some (f.offset,P.cellsOf f.type):=by
       simp only[Array.getElem?_map]
       have:fs[i]? =some f:=by simpa using hf
       rw[this];rfl
      simp only[List.map_cons,Instr.fill,QC]
      rw[if_neg]
      simp only[ne_eq,decide_not,Bool.or_eq_true,Bool.not_eq_true',decide_eq_false_iff_not,decide_eq_true_eq,not_or,Decidable.not_not]
      have h1:=ht.lc
      have h2:(a.eval x).cells.size=(ae P deep f.type).length:=l2
      rw[h2]
      exact⟨by omega,by omega⟩
     rw[Fz, ←hp]
     simp only[eo]
     refine sS h (fun p hp=>br p (by simp[hp])) QB ?_
     obtain⟨g1,g2⟩:=Great.foldl_set f.offset (a.eval x).cells.toList 0 cs
     obtain⟨s1,s2⟩:=mQ (fI P f.type v) xs f.offset
     have h2:(a.eval x).cells.size=(ae P deep f.type).length:=l2
     have h1:=ht.lc
     have h3:=ht.lx
     refine⟨by rw[show(bif aO (ai P f.type)then bB v 0 (ae P deep f.type).length else [v])=fI P f.type v from rfl,s1];exact ht.lx, ?_, ?_⟩
     ·rw[←Array.foldl_toList,Array.toList_zipIdx,g1];exact ht.lc
     ·intro k ty y c iK hy hc
      rw[show(bif aO (ai P f.type)then bB v 0 (ae P deep f.type).length else [v])=fI P f.type v from rfl,s2 k,l1]at hy
      rw[←Array.foldl_toList,Array.toList_zipIdx,g2 k]at hc
      simp only[Nat.add_zero,Array.length_toList,h2]at hc
      have hk:=(List.getElem?_eq_some_iff.1 iK).1
      by_cases fQ:f.offset≤k∧k<f.offset+(ae P deep f.type).length
      ·rw[if_pos ⟨fQ.1,fQ.2,by omega⟩]at hy hc
       obtain⟨j,rfl⟩:∃j,k=f.offset+j:=⟨k-f.offset,by omega⟩
       rw[Nat.add_sub_cancel_left]at hy hc
       have hj:=List.getElem?_eq_getElem (show j<(ae P deep f.type).length by omega)
       have:=gO nL hj
       rw[List.getElem?_drop,iK]at this
       cases this
       exact l3 j _ y c hj hy (by simpa using hc)
      ·rw[if_neg (by omega)]at hy hc
       exact ht.rep k ty y c iK hy hc
   ·cases hp
  ·cases hp
theorem De {t:TypeId} {d:TypeDesc} (hd:P.underlying t=some d) (h:∀fs,d≠ .struct fs) (h2:∀n e,d≠ .array n e):aO (ai P t)=false:=by
 unfold ai;rw[hd]
 cases d<;>first | rfl | exact absurd rfl (h _) | exact absurd rfl (h2 _ _)
theorem gP:∀(d:Nat) (t:TypeId) (ty:Ty),ty∈ae P d t→aO ty=false
 | 0,t,ty,h=>by simp[ae]at h
 | d+1,t,ty,h=>by
  simp only[ae]at h
  split at h
  ·obtain⟨f,_,hf⟩:=List.mem_flatMap.1 h
   exact gP d f.type ty hf
  ·obtain⟨l,hl,iK⟩:=List.mem_flatten.1 h
   rw[List.eq_of_mem_replicate hl]at iK
   exact gP d _ ty iK
  ·rename_i h1 h2
   simp only[List.mem_singleton]at h
   subst h
   cases hu:P.underlying t with
   | none=>simp[ai,hu,aO]
   | some d=>exact De hu (fun fs hd=>h1 fs (by rw[hu,hd])) (fun n e hd=>h2 n e (by rw[hu,hd]))
theorem A1 {ty:Ty} {x:PV} {v:Value} (hs:aO ty=false) (h:aV P w g ty x v):v.oneCell'=true:=by
 cases h<;>first | rfl | (simp[aO]at hs;done)
theorem l6 {T:TypeId} {x:PV} {v:Value} (h:aV P w g (ai P T) x v) (hT:(aO (ai P T)|| bA (ai P T))=true):∀u∈v.cells.toList,u.oneCell'=true:=by
 obtain⟨h1,h2,h3⟩:=dI h hT
 intro u hu
 obtain⟨i,hi⟩:=List.getElem?_of_mem hu
 have b6:=(List.getElem?_eq_some_iff.1 hi).1
 have ht:=List.getElem?_eq_getElem (show i<(ae P deep T).length by simp at b6;omega)
 have hp:=List.getElem?_eq_getElem (show i<(fI P T x).length by simp at b6;omega)
 exact A1 (gP deep T _ (List.getElem_mem _)) (h3 i _ _ u ht hp (by simpa using hi))
end
end Go.V
namespace Go.V
section
variable {P:Program} {N:Nat} {st:St} {a:Act} {hv:List Value} {w:World} {g:G} {K:AV→R} {r:List AO×List AO} {o:Oper} {next:Act→World→Prop} {Q:Exit→Act→World→Prop} {call:aw}
theorem run_places:∀(fs:List Field),(fs.all fun f=>(P.info? f.type).isSome)=true→((fs.mapM fun f=>do pure (f.offset, ←sizeOf f.type)):Sem (List (Nat×Nat))).run P w= .ok (fs.map fun f=>(f.offset,P.cellsOf f.type)) w
 | [],_=>rfl
 | f::fs,h=>by
  simp only[List.all_cons,Bool.and_eq_true]at h
  have ih:=run_places fs h.2
  simp only[List.mapM_cons,Sem.run_bind,dY h.1,Result.andThen_ok,Sem.run_pure,ih,List.map_cons]
theorem iO {T:TypeId} {z:PV} (h:kH P T=some z):∃v,(zeroValue T).run P w= .ok v w∧aV P w g (ai P T) z v∧∃i,P.info? T=some i∧i.zero=some v:=by
 unfold kH at h
 split at h
 ·rename_i i hi
  split at h
  ·rename_i v hv
   exact⟨v,by simp[zeroValue,typeInfo,hi,hv],jM h,i,hi,hv⟩
  ·cases h
 ·cases h
theorem mapM_some {α β:Type} {f:α→Option β}:∀ {l:List α} {r:List β},l.mapM f=some r→r.length=l.length∧∀(i:Nat) (x:α),l[i]? =some x→∃y,r[i]? =some y∧f x=some y
 | [],r,h=>by simp at h;subst h;simp
 | x::l,r,h=>by
  simp only[List.mapM_cons,Option.bind_eq_bind,Option.bind_eq_some_iff]at h
  obtain⟨y,hy,ys,A2,h⟩:=h
  simp at h
  subst h
  obtain⟨h1,h2⟩:=mapM_some A2
  refine⟨by simp[h1],fun i z hz=> ?_⟩
  cases i with
  | zero=>simp at hz;subst hz;exact⟨y,by simp,hy⟩
  | succ i=>simp at hz;simpa using h2 i z hz
theorem A3 (h:Good P N st a hv w g) {T e:TypeId} {m:Nat} {ps:Array (Nat×Operand)} {vs:List PV} (aM:o.op= .build T ps) (hx:∀p∈ps.toList,bL N p.2=true)
  (hu:P.underlying T=some (.array m e)) (nz:(ps.toList.mapM fun p=>rd P st e p.2:Option (List PV))=some vs) (c1:vs.length=m) (cA:aO (ai P T)=true) (c2:bA (ai P e)=true)
  (ci:(P.info? e).isSome=true) (c3:ps.toList.map (·.1)=List.range m) (c4:P.cellsOf e=1) (c5:ae P deep T=List.replicate m (ai P e)) {z:PV} (hz:kH P T=some z)
  (hk:K (.o (.pv (ai P T) (.agg vs)))=some r) (ag:fR P st a w g K r o next):o.wp P a w next Q:=by
 obtain⟨m1,m2⟩:=mapM_some nz
 have hlen:ps.toList.length=m:=by omega
 obtain⟨zv,Nc,Hk,_⟩:=iO (w:=w) (g:=g) hz
 have wJ:=dD cA
 rw[wJ]at Hk
 obtain⟨xs,cs,rfl,rfl,h1,h2,h3⟩:=Hk.eu
 have fZ:∀(i:Nat) (p:Nat×Operand),ps.toList[i]? =some p→∃y,vs[i]? =some y∧aV P w g (ai P e) y (a.eval p.2):=by
  intro i p hp
  obtain⟨y,hy,lH⟩:=m2 i p hp
  exact⟨y,hy,h.rd (hx p (List.mem_of_getElem? hp)) lH⟩
 have jN:∀v∈ps.toList.map (fun p=>a.eval p.2),v.cells.size=1:=by
  intro v hv
  obtain⟨p,hp,rfl⟩:=List.mem_map.1 hv
  obtain⟨i,Hh⟩:=List.getElem?_of_mem hp
  obtain⟨y,_,hy⟩:=fZ i p Hh
  rw[(fp c2 hy).1];rfl
 have Df:(ps.map fun x=>(x.1,a.eval x.2)).toList=((ps.toList.map fun p=>a.eval p.2).zipIdx 0).map fun x=>(x.2,x.1):=by
  apply List.ext_getElem?
  intro i
  simp only[Array.toList_map,List.getElem?_map,List.getElem?_zipIdx]
  cases hp:ps.toList[i]? with
  | none=>simp
  | some p=>
   have:(ps.toList.map (·.1))[i]? =(List.range m)[i]? :=by rw[c3]
   have b6:=(List.getElem?_eq_some_iff.1 hp).1
   rw[List.getElem?_map,hp,List.getElem?_range (by omega)]at this
   simp only[Option.map_some,Option.some.injEq]at this
   simp[this]
 have jW:cs.length=m:=by rw[h2,c5];simp
 obtain⟨rr,hf,Hl,VD⟩:=Great.fill_dense (s:=1) (by omega) (ps.toList.map fun p=>a.eval p.2) 0 (⟨cs⟩:Array Value) jN (by simp[hlen];omega)
 have Sw:(sizeOf e).run P w= .ok 1 w:=by rw[dY ci,c4]
 have ba:(execOp a.eval o).run P w= .ok (.value (.agg rr)) w:=by
  have:(Instr.build T (ps.map fun(i,x)=>(i,a.eval x))).run P w= .ok (.agg rr) w:=by
   simp only[Instr.build,Sem.run_bind,Nc,Result.andThen_ok,run_underlying hu,Sw,Value.cells,Df,hf,Sem.run_pure]
  simp only[execOp,aM,Sem.run_bind,this,Result.andThen_ok,Sem.run_pure]
 refine aY h ba ?_ hk ag
 rw[wJ]
 obtain⟨l⟩:=rr
 have Hl:l.length=cs.length:=Hl
 refine .st T vs l (by rw[c5];simp[c1]) (by rw[c5];simp;omega) (fun j ty y c iK hy hc=> ?_)
 rw[c5,List.getElem?_replicate]at iK
 split at iK
 ·rename_i hj
  cases iK
  have hp:=List.getElem?_eq_getElem (show j<ps.toList.length by omega)
  obtain⟨y',rM,JU⟩:=fZ j _ hp
  rw[hy]at rM;cases rM
  have Sx:=VD j
  simp only[Nat.div_one,Nat.sub_zero,Nat.mod_one]at Sx
  have Fx:(⟨l⟩:Array Value)[j]? =some c:=by simpa using hc
  rw[Sx,if_pos (by simp[hlen];omega)]at Fx
  simp only[List.getElem?_map,hp,Option.map_some,Option.bind_some]at Fx
  rw[(fp c2 JU).1]at Fx
  simp at Fx
  rw[←Fx];exact JU
 ·cases iK
structure JV (P:Program) (st:St) (w:World) (g:G) (cs:List ek) (vs:Array Value):Prop where
 len:vs.size=cs.length
 one:∀(i:Nat) (v:Value),vs[i]? =some v→v.oneCell'=true
 pv:∀(i:Nat) (t:Ty) (x:PV) (v:Value),cs[i]? =some (.pv t x)→vs[i]? =some v→aV P w g t x v
 al:∀(i r:Nat) (p:List Nat) (v:Value),cs[i]? =some (.al r p)→vs[i]? =some v→obj st r p≠ .dead→v=g.val r p
 nil:∀(i:Nat) (E:TypeId) (v:Value),cs[i]? =some (.nil E)→vs[i]? =some v→v= .slice none 0 0
theorem xu:∀(ts:List Ty) (vs:List PV),ts.length=vs.length→(ny ts vs).length=vs.length∧∀(i:Nat) (c:ek),(ny ts vs)[i]? =some c→(∃t v,c= .pv t v∧ts[i]? =some t∧vs[i]? =some v)∨∃E,c= .nil E∧ts[i]? =some (.sl E)
 | [],[],_=>⟨rfl,fun i c h=>by simp[ny]at h⟩
 | [],_::_,h=>by simp at h
 | _::_,[],h=>by simp at h
 | t::ts,v::vs,h=>by
  obtain⟨h1,h2⟩:=xu ts vs (by simpa using h)
  refine⟨by simp[ny,h1],fun i c hc=> ?_⟩
  cases i with
  | zero=>
   simp[ny]at hc
   cases t with
   | sl E=>exact .inr ⟨E,hc.symm,rfl⟩
   | _=>exact .inl ⟨_,v,hc.symm,rfl,rfl⟩
  | succ i=>simp[ny]at hc;simpa using h2 i c hc
theorem oj:∀ {ts:List Ty} {vs:List Value} {xs:List PV},dP ts vs=some xs→∀(i:Nat) (E:TypeId) (v:Value),ts[i]? =some (.sl E)→vs[i]? =some v→v= .slice none 0 0
 | [],[],_,_,i,E,v,h,_=>by simp at h
 | [],_::_,_,h,_,_,_,_,_=>by simp[dP]at h
 | _::_,[],_,h,_,_,_,_,_=>by simp[dP]at h
 | t::ts,c::vs,xs,h,i,E,v,ht,hv=>by
  simp only[dP]at h
  split at h
  ·rename_i x hx
   split at h
   ·rename_i ys A2
    cases i with
    | zero=>
     simp at ht hv;subst ht hv
     exact(jv hx).1
    | succ i=>simp at ht hv;exact oj A2 i E v ht hv
   ·cases h
  ·cases h
theorem JW {T:TypeId} {z:PV} (h:kH P T=some z) (hT:ai P T= .st T) {zv:Value} (hz:(zeroValue T).run P w= .ok zv w) (i:Nat) (E:TypeId) (v:Value) (ht:(ae P deep T)[i]? =some (.sl E)) (hv:zv.cells[i]? =some v):v= .slice none 0 0:=by
 unfold kH at h
 split at h
 ·rename_i inf hi
  split at h
  ·rename_i u hu
   have:zv=u:=by
    have h2:(zeroValue T).run P w= .ok u w:=by simp[zeroValue,typeInfo,hi,hu]
    rw[h2]at hz;cases hz;rfl
   subst this
   unfold mJ at h
   rw[hT]at h
   simp only at h
   split at h
   ·rename_i cs
    split at h
    ·rename_i xs JK
     exact oj JK i E v ht (by simpa[Value.cells]using hv)
    ·cases h
   ·cases h
  ·cases h
 ·cases h
theorem sT:∀(vs cs:List ek) (off:Nat),(kX cs off vs).length=cs.length∧
  ∀k,(kX cs off vs)[k]? =if off≤k∧k<off+vs.length∧k<cs.length then vs[k-off]? else cs[k]?
 | [],cs,off=>by
  refine⟨rfl,fun k=> ?_⟩
  simp only[kX,List.length_nil,Nat.add_zero]
  rw[if_neg (by omega)]
 | v::vs,cs,off=>by
  obtain⟨h1,h2⟩:=sT vs (cs.set off v) (off+1)
  simp only[kX]
  refine⟨by rw[h1];simp,fun k=> ?_⟩
  rw[h2 k]
  simp only[List.length_set,List.length_cons,List.getElem?_set]
  by_cases hk:off=k
  ·subst hk
   rw[if_neg (by omega),if_pos rfl]
   by_cases hs:off<cs.length
   ·rw[if_pos hs,if_pos ⟨Nat.le_refl _,by omega,hs⟩,Nat.sub_self];rfl
   ·rw[if_neg hs,if_neg (by omega),List.getElem?_eq_none (by omega)]
  ·by_cases fQ:off+1≤k∧k<off+1+vs.length∧k<cs.length
   ·rw[if_pos fQ,if_pos (by omega)]
    have e:k-off=(k- (off+1))+1:=by omega
    rw[e,List.getElem?_cons_succ]
   ·rw[if_neg fQ,if_neg hk,if_neg (by omega)]
theorem uJ:∀(ts:List Ty) (vs:List PV),ts.length=vs.length→(jm ts vs).length=vs.length∧∀(i:Nat) (c:ek),(jm ts vs)[i]? =some c→∃t v,c= .pv t v∧ts[i]? =some t∧vs[i]? =some v
 | [],[],_=>⟨rfl,fun i c h=>by simp[jm]at h⟩
 | [],_::_,h=>by simp at h
 | _::_,[],h=>by simp at h
 | t::ts,v::vs,h=>by
  obtain⟨h1,h2⟩:=uJ ts vs (by simpa using h)
  refine⟨by simp[jm,h1],fun i c hc=> ?_⟩
  cases i with
  | zero=>simp[jm]at hc;exact⟨t,v,hc.symm,rfl,rfl⟩
  | succ i=>simp[jm]at hc;simpa using h2 i c hc
theorem yF (h:Good P N st a hv w g) {x:Operand} (hx:bL N x=true) {s:Nat} {p:List Nat} (hn:nameOf st x=some (s,p)):
  a.eval x=g.val s p∧(a.eval x).cells= #[a.eval x]∧(a.eval x).oneCell'=true∧((∃E D l,obj st s p= .own E D l none)∨∃k e ks vs,obj st s p= .map k e ks vs):=by
 unfold nameOf at hn
 split at hn
 ·rename_i s' p' hl
  obtain⟨he,_⟩:=ef h hx hl
  split at hn
  ·rename_i E D l bq
   cases hn
   refine⟨he, ?_, ?_, .inl ⟨E,D,l,bq⟩⟩<;>
   ·have ho:=h.obj s p
    rw[bq]at ho
    cases ho with
    | og _ _ _ _ bh=>rw[he,bh];rfl
    | own _ _ _ _ _ b off cap vs T bh=>rw[he,bh];rfl
  ·rename_i k e ks vs bq
   cases hn
   refine⟨he, ?_, ?_, .inr ⟨k,e,ks,vs,bq⟩⟩<;>
   ·have ho:=h.obj s p
    rw[bq]at ho
    cases ho with
    | map _ _ _ _ _ b es clock bh=>rw[he,bh];rfl
  ·cases hn
 ·cases hn
theorem kL (h:Good P N st a hv w g) {fs:Array Field}:∀ {ps:List (Nat×Operand)} {cs mH:List ek} {vs:Array Value},(∀p∈ps,bL N p.2=true)→
  df P st fs.toList cs ps=some mH→JV P st w g cs vs→
  ∃rU,Instr.fill ((fs.map fun f=>(f.offset,P.cellsOf f.type))[·]?) vs (ps.map fun p=>(p.1,a.eval p.2))=some rU∧JV P st w g mH rU
 | [],cs,mH,vs,_,hp,ht=>by
  simp[df]at hp;subst hp
  exact⟨vs,rfl,ht⟩
 | (i,x)::ps,cs,mH,vs,br,hp,ht=>by
  have JX:bL N x=true:=br (i,x) (by simp)
  simp only[df]at hp
  split at hp
  ·rename_i f hf
   have QC:(fs.map fun f=>(f.offset,P.cellsOf f.type))[i]? =some (f.offset,P.cellsOf f.type):=by
    simp only[Array.getElem?_map]
    have:fs[i]? =some f:=by simpa using hf
    rw[this];rfl
   have Fz:(a.eval x).cells.size=P.cellsOf f.type→f.offset+P.cellsOf f.type≤vs.size→Instr.fill ((fs.map fun f=>(f.offset,P.cellsOf f.type))[·]?) vs (((i,x)::ps).map fun p=>(p.1,a.eval p.2))=
     Instr.fill ((fs.map fun f=>(f.offset,P.cellsOf f.type))[·]?) ((a.eval x).cells.zipIdx.foldl (fun cs (c,j)=>cs.setIfInBounds (f.offset+j) c) vs) (ps.map fun p=>(p.1,a.eval p.2)):=by
    intro e1 e2
    simp only[List.map_cons,Instr.fill,QC]
    rw[if_neg]
    simp only[ne_eq,decide_not,Bool.or_eq_true,Bool.not_eq_true',decide_eq_false_iff_not,decide_eq_true_eq,not_or,Decidable.not_not]
    exact⟨e1,by omega⟩
   obtain⟨g1,g2⟩:=Great.foldl_set f.offset (a.eval x).cells.toList 0 vs
   split at hp
   ·rename_i s p hn
    obtain⟨hc,hp⟩:=bg hp
    simp only[Bool.and_eq_true]at hc
    have eC:=Nat.eq_of_beq_eq_true hc.1
    have b6:=of_decide_eq_true hc.2
    obtain⟨he,cW,jQ,_⟩:=yF h JX hn
    have ZT:(a.eval x).cells.size=P.cellsOf f.type:=by rw[cW,eC];rfl
    rw[Fz ZT (by rw[eC,ht.len];omega)]
    refine kL h (fun p hp=>br p (by simp[hp])) hp ⟨?_,fun k v hv=> ?_,fun k t y v hy hv=> ?_,fun k r q v hy hv hd=> ?_,fun k E v hy hv=> ?_⟩
    ·rw[←Array.foldl_toList,Array.toList_zipIdx,g1,List.length_set];exact ht.len
    ·rw[←Array.foldl_toList,Array.toList_zipIdx,g2 k,cW]at hv
     split at hv
     ·rename_i fQ
      simp at fQ
      have:k=f.offset:=by omega
      subst this
      simp at hv
      rw[←hv];exact jQ
     ·exact ht.one k v hv
    ·rw[←Array.foldl_toList,Array.toList_zipIdx,g2 k]at hv
     rw[List.getElem?_set]at hy
     by_cases hk:f.offset=k
     ·rw[if_pos hk]at hy
      split at hy<;>cases hy
     ·rw[if_neg hk]at hy
      rw[cW,if_neg (by simp;omega)]at hv
      exact ht.pv k t y v hy hv
    ·rw[←Array.foldl_toList,Array.toList_zipIdx,g2 k]at hv
     rw[List.getElem?_set]at hy
     by_cases hk:f.offset=k
     ·subst hk
      rw[if_pos rfl,if_pos b6]at hy
      cases hy
      have:=ht.len
      rw[cW,if_pos ⟨by simp,by simp,by omega⟩]at hv
      simp at hv
      rw[←hv];exact he
     ·rw[if_neg hk]at hy
      rw[cW,if_neg (by simp;omega)]at hv
      exact ht.al k r q v hy hv hd
    ·rw[←Array.foldl_toList,Array.toList_zipIdx,g2 k]at hv
     rw[List.getElem?_set]at hy
     by_cases hk:f.offset=k
     ·rw[if_pos hk]at hy
      split at hy<;>cases hy
     ·rw[if_neg hk]at hy
      rw[cW,if_neg (by simp;omega)]at hv
      exact ht.nil k E v hy hv
   ·split at hp
    ·rename_i v hv
     obtain⟨hc,hp⟩:=bg hp
     simp only[Bool.and_eq_true]at hc
     have eC:=Nat.eq_of_beq_eq_true hc.1
     have hle:=of_decide_eq_true hc.2.2
     obtain⟨l1,l2,l3⟩:=dI (h.rd JX hv) hc.2.1
     rw[Fz (by rw[l2,eC]) (by rw[eC,ht.len];exact hle)]
     obtain⟨c1,c2⟩:=uJ (ae P deep f.type) (fI P f.type v) l1.symm
     obtain⟨s1,s2⟩:=sT (jm (ae P deep f.type) (fI P f.type v)) cs f.offset
     have ZU:(a.eval x).cells.toList.length=(ae P deep f.type).length:=by simpa using l2
     refine kL h (fun p hp=>br p (by simp[hp])) hp ⟨?_,fun k u hu=> ?_,fun k t y u hy hu=> ?_,fun k r q u hy hu hd=> ?_,fun k E u hy hu=> ?_⟩
     ·rw[←Array.foldl_toList,Array.toList_zipIdx,g1,s1];exact ht.len
     ·rw[←Array.foldl_toList,Array.toList_zipIdx,g2 k]at hu
      split at hu
      ·exact l6 (h.rd JX hv) hc.2.1 u (List.mem_of_getElem? hu)
      ·exact ht.one k u hu
     ·rw[←Array.foldl_toList,Array.toList_zipIdx,g2 k]at hu
      rw[s2 k,c1,l1]at hy
      have hlen:=ht.len
      by_cases fQ:f.offset≤k∧k<f.offset+(ae P deep f.type).length
      ·rw[if_pos ⟨fQ.1,fQ.2,by omega⟩]at hy
       rw[if_pos ⟨by omega,by omega,by omega⟩]at hu
       obtain⟨t',v',e1,e2,e3⟩:=c2 _ _ hy
       cases e1
       exact l3 (k-f.offset) _ _ _ e2 e3 (by simpa using hu)
      ·rw[if_neg (by omega)]at hy
       rw[if_neg (by omega)]at hu
       exact ht.pv k t y u hy hu
     ·rw[←Array.foldl_toList,Array.toList_zipIdx,g2 k]at hu
      rw[s2 k,c1,l1]at hy
      have hlen:=ht.len
      by_cases fQ:f.offset≤k∧k<f.offset+(ae P deep f.type).length
      ·rw[if_pos ⟨fQ.1,fQ.2,by omega⟩]at hy
       obtain⟨t',v',e1,e2,e3⟩:=c2 _ _ hy
       cases e1
      ·rw[if_neg (by omega)]at hy
       rw[if_neg (by omega)]at hu
       exact ht.al k r q u hy hu hd
     ·rw[←Array.foldl_toList,Array.toList_zipIdx,g2 k]at hu
      rw[s2 k,c1,l1]at hy
      have hlen:=ht.len
      by_cases fQ:f.offset≤k∧k<f.offset+(ae P deep f.type).length
      ·rw[if_pos ⟨fQ.1,fQ.2,by omega⟩]at hy
       obtain⟨t',v',e1,e2,e3⟩:=c2 _ _ hy
       cases e1
      ·rw[if_neg (by omega)]at hy
       rw[if_neg (by omega)]at hu
       exact ht.nil k E u hy hu
    ·cases hp
  ·cases hp
theorem Hm (h:Good P N st a hv w g) {T:TypeId} {ps:Array (Nat×Operand)} (aM:o.op= .build T ps) (br:ey N o) (hk:dX P call o st K=some r) (ag:fR P st a w g K r o next):o.wp P a w next Q:=by
 simp only[dX,aM]at hk
 have hx:∀p∈ps.toList,bL N p.2=true:=fun p hp=>br p.2 (by
  simp only[aM,Op.operands,List.mem_toArray,List.mem_map];exact⟨p,hp,rfl⟩)
 split at hk
 ·rename_i m e hu
  split at hk
  ·rename_i vs nz
   obtain⟨hc,hk⟩:=aH hk
   simp only[Bool.and_eq_true]at hc
   obtain⟨⟨c1,cA⟩,c2,ci,c3,c4,c5⟩:=hc
   split at hk
   ·rename_i z hz
    exact A3 h aM hx hu nz (Nat.eq_of_beq_eq_true c1) cA c2 ci (of_decide_eq_true c3) (Nat.eq_of_beq_eq_true c4) (of_decide_eq_true c5) hz hk ag
   ·cases hk
  ·cases hk
 ·rename_i fs hu
  cases Sy:(kg st ps.toList|| Fp P fs.toList ps.toList)with
  | true=>
   simp only[Sy,cond_true]at hk
   split at hk
   ·rename_i z hz
    split at hk
    ·rename_i cs jN
     obtain⟨hc,hk⟩:=aH hk
     simp only[Bool.and_eq_true]at hc
     obtain⟨⟨hT,cE⟩,VE⟩:=hc
     obtain⟨zv,Nc,Hk,_⟩:=iO (w:=w) (g:=g) hz
     have wJ:=dD hT
     obtain⟨l1,l2,l3⟩:=dI Hk (by rw[hT];rfl)
     obtain⟨k1,k2⟩:=xu (ae P deep T) (fI P T z) l1.symm
     obtain⟨rU,hf,ht⟩:=kL h (vs:=zv.cells) hx jN ⟨by rw[k1,l1,l2],fun i v hv=>l6 Hk (by rw[hT];rfl) v (Array.mem_toList_iff.2 (Array.mem_of_getElem? hv)),fun i t x v hx hv=>(by
      rcases k2 _ _ hx with ⟨t',v',e1,e2,e3⟩ | ⟨E,e1,_⟩
      ·cases e1
       exact l3 i _ _ _ e2 e3 hv
      ·cases e1),fun i r q v hx=>(by
      rcases k2 _ _ hx with ⟨t',v',e1,_⟩ | ⟨E,e1,_⟩<;>cases e1),fun i E v hx hv=>(by
      rcases k2 _ _ hx with ⟨t',v',e1,_⟩ | ⟨E',e1,e2⟩
      ·cases e1
      ·cases e1;exact JW hz wJ Nc i E v e2 hv)⟩
     have ba:(execOp a.eval o).run P w= .ok (.value (.agg rU)) w:=by
      have OS:((fs.mapM fun f=>do pure (f.offset, ←sizeOf f.type)):Sem (Array (Nat×Nat))).run P w= .ok (fs.map fun f=>(f.offset,P.cellsOf f.type)) w:=by
       rw[Array.mapM_eq_mapM_toList]
       simp only[Sem.run_map,run_places fs.toList cE,Result.andThen_ok]
       congr 1
       apply Array.ext';simp
      have VF:(ps.map fun x=>(x.1,a.eval x.2)).toList=ps.toList.map fun p=>(p.1,a.eval p.2):=by simp
      have:(Instr.build T (ps.map fun(i,x)=>(i,a.eval x))).run P w= .ok (.agg rU) w:=by
       simp only[Instr.build,Sem.run_bind,Nc,Result.andThen_ok,run_underlying hu,OS,VF,hf,Sem.run_pure]
      simp only[execOp,aM,Sem.run_bind,this,Result.andThen_ok,Sem.run_pure]
     obtain⟨l⟩:=rU
     exact bo h ba (fun _=> .lE T cs l (by simpa using ht.len) (fun v hv=>by
      obtain⟨i,hi⟩:=List.getElem?_of_mem hv
      exact ht.one i v (by simpa using hi)) (fun i E v hx hv=>ht.nil i E v hx (by simpa using hv)) VE (fun i t x v hx hv=>ht.pv i t x v hx (by simpa using hv)) (fun i r q v hx hv=>ht.al i r q v hx (by simpa using hv))) hk ag
    ·cases hk
   ·cases hk
  | false=>
  simp only[Sy,cond_false]at hk
  split at hk
  ·rename_i z vs hz nz
   obtain⟨hc,hk⟩:=aH hk
   simp only[Bool.and_eq_true]at hc
   obtain⟨hT,cE⟩:=hc
   obtain⟨zv,Nc,Hk,_⟩:=iO (w:=w) (g:=g) hz
   have wJ:=dD hT
   rw[wJ]at Hk
   obtain⟨xs,cs,rfl,rfl,h1,h2,h3⟩:=Hk.eu
   obtain⟨mH,hf,ht⟩:=sS h (T:=T) hx nz ⟨h1,h2,fun j ty y c iK hy hc=>h3 j ty y c iK hy (by simpa using hc)⟩
   refine aY h (v:= .agg mH) ?_ ?_ hk ag
   ·have OS:((fs.mapM fun f=>do pure (f.offset, ←sizeOf f.type)):Sem (Array (Nat×Nat))).run P w= .ok (fs.map fun f=>(f.offset,P.cellsOf f.type)) w:=by
     rw[Array.mapM_eq_mapM_toList]
     simp only[Sem.run_map,run_places fs.toList cE,Result.andThen_ok]
     congr 1
     apply Array.ext';simp
    have VF:(ps.map fun x=>(x.1,a.eval x.2)).toList=ps.toList.map fun p=>(p.1,a.eval p.2):=by simp
    have:(Instr.build T (ps.map fun(i,x)=>(i,a.eval x))).run P w= .ok (.agg mH) w:=by
     simp only[Instr.build,Sem.run_bind,Nc,Result.andThen_ok,run_underlying hu,OS,Value.cells,VF,hf,Sem.run_pure]
    simp only[execOp,aM,Sem.run_bind,this,Result.andThen_ok,Sem.run_pure]
   ·rw[wJ]
    obtain⟨l⟩:=mH
    exact .st T _ l ht.lx (by simpa using ht.lc) (fun j ty y c iK hy hc=>ht.rep j ty y c iK hy (by simpa using hc))
  ·cases hk
 ·cases hk
def G.newAt (g:G) (b:Nat) (d:Option Nat) (f:List Nat→Value):G:=
 {tag:=fun c=>if c=b then(match d with | some d=> .own d [] | none=> .free)else g.tag c,val:=(g.bP d f).val}
theorem gQ (h:Good P N st a hv w g) {ob:Obj} {x:AO} {v:Value} (f:List Nat→Value) (ba:(execOp a.eval o).run P w= .ok (.value v) (w.alloc ob)) (bh:v=f [])
  (hx:∀d,bY P (w.alloc ob) (g.newAt w.heap.size (some d) f) d [] x) (hk:K (.o x)=some r) (ag:fR P st a w g K r o next):o.wp P a w next Q:=by
 unfold Oper.wp;rw[ba]
 refine ag (.o x) v (w.alloc ob) (g.newAt w.heap.size o.dst f) ?_ (fun i hi=> ?_) hk
 ·refine⟨rfl,rfl,rfl,by simp,fun b hb=>⟨?_,heap_alloc_old w ob b hb⟩,fun s p hd=>by simp[G.newAt,G.bP,hd],fun b hb=> ?_,fun b hb=> ?_⟩
  ·simp[G.newAt,Nat.ne_of_lt hb]
  ·simp only[G.newAt]
   split
   ·cases o.dst<;>simp
   ·rw[h.inv.fresh b hb];simp
  ·simp only[World.size_alloc]at hb
   simp only[G.newAt]
   rw[if_neg (by omega)]
   exact h.inv.fresh b (by omega)
 ·rw[hi]
  exact .o x v (fun _=>by simp[G.newAt,G.bP,bh]) (hx i)
theorem aV.alloc {t:Ty} {x:PV} {v:Value} (h:aV P w g t x v) (ob:Obj) (d:Option Nat) (f:List Nat→Value):aV P (w.alloc ob) (g.newAt w.heap.size d f) t x v:=
 h.ext (by simp) (fun b hb ht=>⟨by simp[G.newAt,Nat.ne_of_lt hb,ht],heap_alloc_old w ob b hb⟩)
def mR (P:Program) (w:World) (g:G) (x:AO) (v:Value):Prop:=
 x= .dead∨(∃t y,x= .pv t y∧aV P w g t y v)∨(∃E,x= .arr E []∧v= .slice none 0 0)
theorem sU {E:TypeId} {v:Value} (h:v= .slice none 0 0):mR P w g (ji (.nil E)) v:= .inr (.inr ⟨E,rfl,h⟩)
def iP (b:Nat) (vs:List Value):List Nat→Value
 | []=> .pointer (some ⟨b,0,none⟩)
 | [i]=>vs.getD i undef
 | _=>undef
theorem yG {E:TypeId} {xs:List AO} {vs:List Value} (hl:vs.length=xs.length) (hc:∀(i:Nat) (x:AO) (v:Value),xs[i]? =some x→vs[i]? =some v→mR P w g x v) (d:Nat):
  bY P (w.alloc (.cells ⟨vs⟩ E)) (g.newAt w.heap.size (some d) (iP w.heap.size vs)) d [] (.box E xs):=by
 have eL:∀p,(g.newAt w.heap.size (some d) (iP w.heap.size vs)).val d p=iP w.heap.size vs p:=fun p=>by simp[G.newAt,G.bP]
 refine .box [] E xs w.heap.size vs (by rw[eL];rfl) (heap_alloc_new w _) (by simp[G.newAt]) hl (fun i x hx=> ?_) (fun i x hx hd=> ?_)
 ·have hi:=(List.getElem?_eq_some_iff.1 hx).1
  have uI:=List.getElem?_eq_getElem (show i<vs.length by omega)
  have hb:iP w.heap.size vs ([]++[i])=vs[i]:=by simp[iP,List.getD,uI]
  rcases hc i x _ hx uI with rfl | ⟨t,y,rfl,hp⟩ | ⟨E',rfl,hv⟩
  ·exact .dead _
  ·refine .pv _ t y ?_
   rw[eL,hb];exact hp.alloc _ _ _
  ·refine .jt _ E' ?_
   rw[eL,hb,hv]
 ·have hi:=(List.getElem?_eq_some_iff.1 hx).1
  have uI:=List.getElem?_eq_getElem (show i<vs.length by omega)
  have hb:iP w.heap.size vs ([]++[i])=vs[i]:=by simp[iP,List.getD,uI]
  rw[eL,hb,uI]
theorem om:∀(ts:List Ty) (vs:List Value),ts.length=vs.length→(jl ts vs).length=vs.length∧∀(i:Nat) (t:Ty) (v:Value),ts[i]? =some t→vs[i]? =some v→(jl ts vs)[i]? =some (o4 t v)
 | [],[],_=>⟨rfl,fun i t v h=>by simp at h⟩
 | [],_::_,h=>by simp at h
 | _::_,[],h=>by simp at h
 | t::ts,v::vs,h=>by
  simp only[List.length_cons,Nat.add_right_cancel_iff]at h
  obtain⟨h1,h2⟩:=om ts vs h
  refine⟨by simp[jl,h1],fun i t' v' ht hv=> ?_⟩
  cases i with
  | zero=>simp at ht hv;subst ht hv;rfl
  | succ i=>simp at ht hv;simpa[jl]using h2 i t' v' ht hv
theorem wT (t:Ty) (v:Value):mR P w g (o4 t v) v:=by
 unfold o4
 split
 ·rename_i E
  split
  ·rename_i x hx;exact .inr (.inr ⟨E,rfl,(jv hx).1⟩)
  ·exact .inl rfl
 ·split
  ·rename_i x hx;exact .inr (.inl ⟨_,_,rfl,lG hx⟩)
  ·exact .inl rfl
theorem Hn (h:Good P N st a hv w g) {E:TypeId} (aM:o.op= .alloc E) (hk:dX P call o st K=some r) (ag:fR P st a w g K r o next):o.wp P a w next Q:=by
 simp only[dX,aM]at hk
 split at hk
 ·rename_i i hi
  split at hk
  ·rename_i z hz
   obtain⟨hc,hk⟩:=aH hk
   have eC:=Nat.eq_of_beq_eq_true hc
   have ba:(execOp a.eval o).run P w= .ok (.value (.pointer (some ⟨w.heap.size,0,none⟩))) (w.alloc (.cells z.cells E)):=by
    have:(zeroValue E).run P w= .ok z w:=by simp[zeroValue,typeInfo,hi,hz]
    simp only[execOp,aM,Sem.run_bind,Instr.alloc,this,Result.andThen_ok,newVar,newRow,run_newObj,Sem.run_pure];rfl
   have jN:z.cells=⟨z.cells.toList⟩:=rfl
   rw[jN]at ba
   obtain⟨f1,f2⟩:=om (ae P deep E) z.cells.toList (by simpa using eC.symm)
   refine gQ h (iP w.heap.size z.cells.toList) ba rfl (fun d=>yG f1.symm (fun j x v hx hv=> ?_) d) hk ag
   have hj:=(List.getElem?_eq_some_iff.1 hv).1
   have ht:=List.getElem?_eq_getElem (show j<(ae P deep E).length by simp at hj;omega)
   rw[f2 j _ v ht hv]at hx
   cases hx
   exact wT _ _
  ·cases hk
 ·cases hk
theorem oo:∀(ts:List Ty) (j:Nat) (v:PV),(jK ts j v).length=ts.length∧∀(i:Nat) (t:Ty),ts[i]? =some t→(jK ts j v)[i]? =some (.pv t (v.cell (j+i)))
 | [],j,v=>⟨rfl,fun i t h=>by simp at h⟩
 | t::ts,j,v=>by
  obtain⟨h1,h2⟩:=oo ts (j+1) v
  refine⟨by simp[jK,h1],fun i t' ht=> ?_⟩
  cases i with
  | zero=>simp at ht;subst ht;rfl
  | succ i=>simp at ht;simp only[jK,List.getElem?_cons_succ];rw[h2 i t' ht];congr 2;congr 1;omega
theorem Ny (h:Good P N st a hv w g) {E:TypeId} {x:Operand} (aM:o.op= .box E x) (br:ey N o) (hk:dX P call o st K=some r) (ag:fR P st a w g K r o next):o.wp P a w next Q:=by
 simp only[dX,aM]at hk
 have hx:=br x (by simp[aM,Op.operands])
 have ba:(execOp a.eval o).run P w= .ok (.value (.pointer (some ⟨w.heap.size,0,none⟩))) (w.alloc (.cells ⟨(a.eval x).cells.toList⟩ E)):=by
  simp only[execOp,aM,Sem.run_bind,Instr.box,newVar,newRow,run_newObj,Result.andThen_ok,Sem.run_pure];rfl
 split at hk
 ·rename_i v bh
  have hp:=h.rd hx bh
  cases hA:aO (ai P E)with
  | true=>
   simp only[hA,cond_true]at hk
   rw[dD hA]at hp
   obtain⟨xs,cs,rfl,jN,h1,h2,h3⟩:=hp.eu
   rw[jN]at ba
   simp only[Value.cells]at ba
   obtain⟨p1,p2⟩:=oo (ae P deep E) 0 (.agg xs)
   refine gQ h (iP w.heap.size cs) ba rfl (fun d=>yG (by rw[p1,h2]) (fun j y c hy hc=> ?_) d) hk ag
   have hj:=(List.getElem?_eq_some_iff.1 hc).1
   have ht:=List.getElem?_eq_getElem (show j<(ae P deep E).length by omega)
   rw[p2 j _ ht]at hy
   cases hy
   refine .inr (.inl ⟨_,_,rfl,h3 j _ _ _ ht ?_ hc⟩)
   rw[Nat.zero_add,lY,List.getElem?_eq_getElem (by omega)];rfl
  | false=>
   simp only[hA,cond_false]at hk
   obtain⟨hs,hk⟩:=aH hk
   obtain⟨hc,_⟩:=fp hs hp
   rw[hc]at ba
   refine gQ h (iP w.heap.size [a.eval x]) ba rfl (fun d=>yG (by simp) (fun j y c hy hc=> ?_) d) hk ag
   cases j with
   | zero=>simp at hy hc;subst hy hc;exact .inr (.inl ⟨_,_,rfl,hp⟩)
   | succ j=>simp at hy
 ·cases hk
end
end Go.V
