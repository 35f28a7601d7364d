/- Nets, nodes and plans as plain data; the frame in which functions are evaluated; operations by number, args, sizes, rationals, formats, paths. Conditions: those that each theorem names. (Names are short so that the claim keeps to its size.) -/
import Derived.Test.YtmgjhnjiljmmkaaVG
import Derived.Test.YtmgjhnjiljmmkaaVC
import Derived.Test.YtmgjhnjiljmmkaaProg
import Derived.Test.YtmgjhnjiljmmkaaVM
import Derived.Test.YtmgjhnjiljmmkaaVH
import Derived.Test.YtmgjhnjiljmmkaaVE
set_option linter.unusedSimpArgs false
set_option linter.unusedVariables false
set_option maxRecDepth 100000
namespace Go.V
open Go.Proofs
structure Qn where
 n:Int
 d:Int
 deriving DecidableEq
structure Nf where
 op:ByteArray
 name:ByteArray
 n:Int
 m:Int
 ao:List Qn
 fk:ByteArray
 fi:Int
 ff:Int
 fr:ByteArray
 fo:ByteArray
 args:List Int
inductive Net where
 | mk (ins:Int) (nodes:List (Nf×List Net)) (outs:List Int)
abbrev Node:=Nf×List Net
structure Loop where
 nodes:List Int
 ni:Bool
 deriving DecidableEq
structure Ring where
 node:Int
 size:Int
 deriving DecidableEq
structure eN where
 loops:List Loop
 rings:List Ring
 ay:Int
 bG:Bool
namespace Net
def ins:Net→Int | mk i _ _=>i
def nodes:Net→List Node | mk _ l _=>l
def outs:Net→List Int | mk _ _ l=>l
end Net
abbrev iv (n:Int):PV:= .int .i64 n
abbrev bv (b:Bool):PV:= .bool b
abbrev bH (l:List Int):PV:= .sl (l.map iv)
def Qn.pv (q:Qn):PV:= .agg [iv q.n,iv q.d]
def Loop.pv (l:Loop):PV:= .agg [bH l.nodes, .bool l.ni]
def Ring.pv (r:Ring):PV:= .agg [iv r.node,iv r.size]
def eN.pv (p:eN):PV:= .agg [.sl (p.loops.map Loop.pv), .sl (p.rings.map Ring.pv),iv p.ay, .bool p.bG]
mutual
def Net.pv:Net→PV
 | .mk i ns os=> .agg [iv i, .sl (um ns),bH os]
def af:Nf×List Net→PV
 | (x,ms)=> .agg [.str x.op, .str x.name,iv x.n,iv x.m, .sl (x.ao.map Qn.pv), .str x.fk,iv x.fi,iv x.ff, .str x.fr, .str x.fo,bH x.args, .sl (Ac ms)]
def um:List (Nf×List Net)→List PV
 | []=>[]
 | x::r=>af x::um r
def Ac:List Net→List PV
 | []=>[]
 | x::r=>x.pv::Ac r
end
theorem vT:∀l,Ac l=l.map Net.pv
 | []=>rfl
 | x::r=>by rw[Ac,vT r];rfl
theorem tz:∀l,um l=l.map af
 | []=>rfl
 | x::r=>by rw[um,tz r];rfl
theorem Net.Cp (n:Net):n.pv= .agg [iv n.ins, .sl (n.nodes.map af),bH n.outs]:=by
 cases n;rw[Net.pv,tz];rfl
theorem dt (x:Node):af x= .agg [.str x.1.op, .str x.1.name,iv x.1.n,iv x.1.m, .sl (x.1.ao.map Qn.pv), .str x.1.fk,iv x.1.fi,iv x.1.ff, .str x.1.fr, .str x.1.fo,bH x.1.args, .sl (x.2.map Net.pv)]:=by
 obtain⟨x,ms⟩:=x;rw[af,vT]
section
variable (x:Node) (n:Net) (q:Qn) (p:eN) (l:Loop) (r:Ring)
theorem R8:(af x).cell 0= .str x.1.op:=by rw[dt];rfl
theorem Zb:(af x).cell 1= .str x.1.name:=by rw[dt];rfl
theorem Zc:(af x).cell 2=iv x.1.n:=by rw[dt];rfl
theorem Zd:(af x).cell 3=iv x.1.m:=by rw[dt];rfl
theorem Ze:(af x).cell 4= .sl (x.1.ao.map Qn.pv):=by rw[dt];rfl
theorem Zf:(af x).cell 5= .str x.1.fk:=by rw[dt];rfl
theorem Zg:(af x).cell 6=iv x.1.fi:=by rw[dt];rfl
theorem Zh:(af x).cell 7=iv x.1.ff:=by rw[dt];rfl
theorem Zi:(af x).cell 8= .str x.1.fr:=by rw[dt];rfl
theorem Zj:(af x).cell 9= .str x.1.fo:=by rw[dt];rfl
theorem TH:(af x).cell 10=bH x.1.args:=by rw[dt];rfl
theorem Rl:(af x).cell 11= .sl (x.2.map Net.pv):=by rw[dt];rfl
theorem Py:n.pv.cell 0=iv n.ins:=by rw[Net.Cp];rfl
theorem R9:n.pv.cell 1= .sl (n.nodes.map af):=by rw[Net.Cp];rfl
theorem Pz:n.pv.cell 2=bH n.outs:=by rw[Net.Cp];rfl
theorem qq0:q.pv.cell 0=iv q.n:=rfl
theorem qq1:q.pv.cell 1=iv q.d:=rfl
theorem Xd:p.pv.cell 0= .sl (p.loops.map Loop.pv):=rfl
theorem Xe:p.pv.cell 1= .sl (p.rings.map Ring.pv):=rfl
theorem Xf:p.pv.cell 2=iv p.ay:=rfl
theorem Xg:p.pv.cell 3= .bool p.bG:=rfl
theorem lp0:l.pv.cell 0=bH l.nodes:=rfl
theorem lp1:l.pv.cell 1= .bool l.ni:=rfl
theorem rg0:r.pv.cell 0=iv r.node:=rfl
theorem rg1:r.pv.cell 1=iv r.size:=rfl
end
def pj (n:Int):Prop:= -9223372036854775808≤n∧n<9223372036854775808
def bf:Nat:=140737488355328
structure nO (x:Nf):Prop where
 n:pj x.n
 m:pj x.m
 ao:∀q∈x.ao,pj q.n∧pj q.d
 GK:x.ao.length<bf
 fi:pj x.fi
 ff:pj x.ff
 args:∀a∈x.args,pj a
 yd:x.args.length<bf
 op:x.op.size<bf
 name:x.name.size<bf
 fk:x.fk.size<bf
 fr:x.fr.size<bf
 fo:x.fo.size<bf
inductive cu:Net→Prop where
 | mk (i:Int) (ns:List Node) (os:List Int) (hi:pj i) (h1:∀x∈ns,nO x.1) (h2:∀x∈ns,∀m∈x.2,cu m) (h3:∀x∈ns,x.2.length<bf)
   (h4:ns.length<bf) (h5:os.length<bf) (h6:∀o∈os,pj o):cu (.mk i ns os)
structure dH (p:eN):Prop where
 l1:p.loops.length<bf
 l2:∀l∈p.loops,l.nodes.length<bf
 l3:∀l∈p.loops,∀x∈l.nodes,pj x
 r1:p.rings.length<bf
 r2:∀r∈p.rings,pj r.node∧pj r.size
 v:pj p.ay
 l0:p.loops.length*32≤140737488355328
section
variable {n:Net}
theorem cu.i (h:cu n):pj n.ins:=by cases h;assumption
theorem cu.nf (h:cu n):∀x∈n.nodes,nO x.1:=by cases h;assumption
theorem cu.sub (h:cu n):∀x∈n.nodes,∀m∈x.2,cu m:=by cases h;assumption
theorem cu.EN (h:cu n):∀x∈n.nodes,x.2.length<bf:=by cases h;assumption
theorem cu.ln (h:cu n):n.nodes.length<bf:=by cases h;assumption
theorem cu.lo (h:cu n):n.outs.length<bf:=by cases h;assumption
theorem cu.os (h:cu n):∀o∈n.outs,pj o:=by cases h;assumption
end
section
variable {P:Program} {x:PV}
theorem WT.dm (h:WT P .str x):∃s,x= .str s∧s.size≤reachBytes:=by cases h;exact⟨_,rfl,by assumption⟩
theorem WT.dR (h:WT P .bool x):∃b,x= .bool b:=by cases h;exact⟨_,rfl⟩
theorem WT.cO {k:IntKind} (h:WT P (.int k) x):∃n,x= .int k n∧(Lit.int k n).wf=true:=by cases h with | int _ n h=>exact⟨n,rfl,h⟩
theorem WT.iN {e:TypeId} (h:WT P (.sl e) x):∃l,x= .sl l∧(∀y∈l,WT P (ai P e) y)∧l.length*P.bytesOf e≤reachBytes:=by
 cases h with
 | sl _ l h hl=>
  refine⟨l,rfl,fun y hy=> ?_,hl⟩
  obtain⟨i,hi,rfl⟩:=List.mem_iff_getElem.1 hy
  exact h i _ (List.getElem?_eq_getElem hi)
theorem WT.eu {t:TypeId} (h:WT P (.st t) x):∃xs,x= .agg xs∧xs.length=(ae P deep t).length∧∀(i:Nat) (ty:Ty) (x:PV),(ae P deep t)[i]? =some ty→xs[i]? =some x→WT P ty x:=by
 cases h with | st _ xs hx h=>exact⟨xs,rfl,hx,h⟩
theorem WT.i64 (h:WT P (.int .i64) x):∃n,x=iv n∧pj n:=by
 obtain⟨n,rfl,hn⟩:=h.cO
 refine⟨n,rfl, ?_⟩
 have:decide (-9223372036854775808≤n)=true∧decide (n≤9223372036854775807)=true:=by
  have h2:(decide (-9223372036854775808≤n)&&decide (n≤9223372036854775807))=true:=hn
  simpa using h2
 have a:=of_decide_eq_true this.1
 have b:=of_decide_eq_true this.2
 exact⟨a,by omega⟩
end
theorem lz {α:Type} {f:α→PV} {p:α→Prop}:∀ {l:List PV},(∀y∈l,∃a,y=f a∧p a)→∃l':List α,l=l'.map f∧∀a∈l',p a
 | [],_=>⟨[],rfl,by simp⟩
 | y::l,h=>by
  obtain⟨a,rfl,ha⟩:=h y (by simp)
  obtain⟨l',rfl,hl⟩:=lz (l:=l) (fun z hz=>h z (List.mem_cons_of_mem _ hz))
  exact⟨a::l',rfl,by simpa using ⟨ha,hl⟩⟩
theorem LY:ae Try.prog deep 128=[.int .i64, .int .i64]:=by kernel_rfl
theorem Ob:ae Try.prog deep 55=[.str, .str, .int .i64, .int .i64, .sl 128, .str, .int .i64, .int .i64, .str, .str, .sl 3, .sl 25]:=by kernel_rfl
theorem Oc:ae Try.prog deep 25=[.int .i64, .sl 55, .sl 3]:=by kernel_rfl
theorem Od:ae Try.prog deep 36=[.sl 47, .sl 57, .int .i64, .bool]:=by kernel_rfl
theorem Oe:ae Try.prog deep 47=[.sl 3, .bool]:=by kernel_rfl
theorem Of:ae Try.prog deep 57=[.int .i64, .int .i64]:=by kernel_rfl
theorem Xh:ai Try.prog 3= .int .i64:=by kernel_rfl
theorem Xi:ai Try.prog 5= .int .u8:=by kernel_rfl
theorem Rm:ai Try.prog 128= .st 128:=by kernel_rfl
theorem TI:ai Try.prog 55= .st 55:=by kernel_rfl
theorem LZ:ai Try.prog 25= .st 25:=by kernel_rfl
theorem PA:ai Try.prog 36= .st 36:=by kernel_rfl
theorem TJ:ai Try.prog 47= .st 47:=by kernel_rfl
theorem TK:ai Try.prog 57= .st 57:=by kernel_rfl
theorem Xj:Try.prog.bytesOf 3=8:=by kernel_rfl
theorem Rn:Try.prog.bytesOf 128=16:=by kernel_rfl
theorem TL:Try.prog.bytesOf 55=184:=by kernel_rfl
theorem TM:Try.prog.bytesOf 25=56:=by kernel_rfl
theorem TN:Try.prog.bytesOf 47=32:=by kernel_rfl
theorem TO:Try.prog.bytesOf 57=16:=by kernel_rfl
theorem Cq:reachBytes<bf:=by decide
theorem sC {n b:Nat} (h:n*b≤reachBytes) (hb:1≤b):n<bf:=by
 have:=Cq
 have:n*1≤n*b:=Nat.mul_le_mul_left _ hb
 omega
theorem EO {x:PV} (h:WT Try.prog (.sl 3) x):∃l,x=bH l∧(∀a∈l,pj a)∧l.length<bf:=by
 obtain⟨l,rfl,hl,hb⟩:=h.iN
 rw[Xh]at hl
 obtain⟨l',rfl,h'⟩:=lz (fun y hy=>(hl y hy).i64)
 rw[Xj,List.length_map]at hb
 exact⟨l',rfl,h',sC hb (by decide)⟩
theorem Xk {x:PV} (h:WT Try.prog (.st 128) x):∃q:Qn,x=q.pv∧pj q.n∧pj q.d:=by
 obtain⟨xs,rfl,hl,hc⟩:=h.eu
 rw[LY]at hl hc
 match xs,hl with
 | [a,b],_=>
  obtain⟨n,rfl,hn⟩:=(hc 0 _ a rfl rfl).i64
  obtain⟨d,rfl,hd⟩:=(hc 1 _ b rfl rfl).i64
  exact⟨⟨n,d⟩,rfl,hn,hd⟩
theorem EP:∀ {l:List PV} {x:PV},x∈l→x.sz≤pd l
 | y::l,x,h=>by
  simp only[pd]
  rcases List.mem_cons.1 h with rfl | h
  ·omega
  ·have:=EP h;omega
mutual
theorem L0:∀(k:Nat) {x:PV},x.sz≤k→WT Try.prog (.st 25) x→∃n:Net,x=n.pv∧cu n
 | 0,x,hs,h=>by
  obtain⟨xs,rfl,_,_⟩:=h.eu
  simp[PV.sz]at hs
 | k+1,x,hs,h=>by
  obtain⟨xs,rfl,hl,hc⟩:=h.eu
  rw[Oc]at hl hc
  match xs,hl with
  | [x0,x1,x2],_=>
   obtain⟨i,rfl,hi⟩:=(hc 0 _ x0 rfl rfl).i64
   obtain⟨l,rfl,hn,Dv⟩:=(hc 1 _ x1 rfl rfl).iN
   obtain⟨os,rfl,ho,hol⟩:=EO (hc 2 _ x2 rfl rfl)
   rw[TI]at hn
   rw[TL]at Dv
   obtain⟨ns,rfl,wL⟩:=lz (f:=af) (fun y hy=>Og k (by
    have:=EP hy
    simp only[PV.sz,pd]at hs
    omega) (hn y hy))
   rw[List.length_map]at Dv
   refine⟨.mk i ns os,by rw[Net.Cp];rfl, .mk i ns os hi (fun x hx=>(wL x hx).1) (fun x hx=>(wL x hx).2.1) (fun x hx=>(wL x hx).2.2) (sC Dv (by decide)) hol ho⟩
theorem Og:∀(k:Nat) {x:PV},x.sz≤k→WT Try.prog (.st 55) x→∃y:Node,x=af y∧nO y.1∧(∀m∈y.2,cu m)∧y.2.length<bf
 | 0,x,hs,h=>by
  obtain⟨xs,rfl,_,_⟩:=h.eu
  simp[PV.sz]at hs
 | k+1,x,hs,h=>by
  obtain⟨xs,rfl,hl,hc⟩:=h.eu
  rw[Ob]at hl hc
  match xs,hl with
  | [x0,x1,x2,x3,x4,x5,x6,x7,x8,x9,x10,x11],_=>
   obtain⟨op,rfl,b0⟩:=(hc 0 _ x0 rfl rfl).dm
   obtain⟨name,rfl,b1⟩:=(hc 1 _ x1 rfl rfl).dm
   obtain⟨nn,rfl,Zk⟩:=(hc 2 _ x2 rfl rfl).i64
   obtain⟨mm,rfl,TP⟩:=(hc 3 _ x3 rfl rfl).i64
   obtain⟨ao,rfl,hq,Xl⟩:=(hc 4 _ x4 rfl rfl).iN
   obtain⟨fk,rfl,b5⟩:=(hc 5 _ x5 rfl rfl).dm
   obtain⟨fa,rfl,hfa⟩:=(hc 6 _ x6 rfl rfl).i64
   obtain⟨fb,rfl,SB⟩:=(hc 7 _ x7 rfl rfl).i64
   obtain⟨fc,rfl,b8⟩:=(hc 8 _ x8 rfl rfl).dm
   obtain⟨fd,rfl,b9⟩:=(hc 9 _ x9 rfl rfl).dm
   obtain⟨az,rfl,ha,AD⟩:=EO (hc 10 _ x10 rfl rfl)
   obtain⟨ms,rfl,hm,Xm⟩:=(hc 11 _ x11 rfl rfl).iN
   rw[Rm]at hq
   rw[LZ]at hm
   rw[Rn]at Xl
   rw[TM]at Xm
   obtain⟨TQ,rfl,Pf⟩:=lz (f:=Qn.pv) (fun y hy=>Xk (hq y hy))
   obtain⟨ms',rfl,Wb⟩:=lz (f:=Net.pv) (fun y hy=>L0 k (by
    have:=EP hy
    simp only[PV.sz,pd]at hs
    omega) (hm y hy))
   rw[List.length_map]at Xl Xm
   have:=Cq
   refine⟨(⟨op,name,nn,mm,TQ,fk,fa,fb,fc,fd,az⟩,ms'),by rw[dt],⟨Zk,TP,Pf,sC Xl (by decide),hfa,SB,ha,AD,by show op.size<_;omega,by show name.size<_;omega,by show fk.size<_;omega,by show fc.size<_;omega,by show fd.size<_;omega⟩,Wb,sC Xm (by decide)⟩
end
theorem Oh {x:PV} (h:WT Try.prog (.st 36) x):∃p:eN,x=p.pv∧dH p:=by
 obtain⟨xs,rfl,hl,hc⟩:=h.eu
 rw[Od]at hl hc
 match xs,hl with
 | [x0,x1,x2,x3],_=>
  obtain⟨ls,rfl,L1,qd⟩:=(hc 0 _ x0 rfl rfl).iN
  obtain⟨rs,rfl,Hl,Np⟩:=(hc 1 _ x1 rfl rfl).iN
  obtain⟨v,rfl,hv⟩:=(hc 2 _ x2 rfl rfl).i64
  obtain⟨b,rfl⟩:=(hc 3 _ x3 rfl rfl).dR
  rw[TJ]at L1
  rw[TK]at Hl
  rw[TN]at qd
  rw[TO]at Np
  obtain⟨Yr,rfl,h1⟩:=lz (f:=Loop.pv) (p:=fun l=>l.nodes.length<bf∧∀x∈l.nodes,pj x) (fun y hy=>by
   obtain⟨xs,rfl,hl,hc⟩:=(L1 y hy).eu
   rw[Oe]at hl hc
   match xs,hl with
   | [a,b],_=>
    obtain⟨l,rfl,ha,hl⟩:=EO (hc 0 _ a rfl rfl)
    obtain⟨s,rfl⟩:=(hc 1 _ b rfl rfl).dR
    exact⟨⟨l,s⟩,rfl,hl,ha⟩)
  obtain⟨rs',rfl,h2⟩:=lz (f:=Ring.pv) (p:=fun r=>pj r.node∧pj r.size) (fun y hy=>by
   obtain⟨xs,rfl,hl,hc⟩:=(Hl y hy).eu
   rw[Of]at hl hc
   match xs,hl with
   | [a,b],_=>
    obtain⟨n,rfl,hn⟩:=(hc 0 _ a rfl rfl).i64
    obtain⟨d,rfl,hd⟩:=(hc 1 _ b rfl rfl).i64
    exact⟨⟨n,d⟩,rfl,hn,hd⟩)
  rw[List.length_map]at qd Np
  exact⟨⟨Yr,rs',v,b⟩,rfl,⟨sC qd (by decide),fun l hl=>(h1 l hl).1,fun l hl=>(h1 l hl).2,sC Np (by decide),h2,hv,Nat.le_trans qd (by decide)⟩⟩
end Go.V
namespace Go.V
open Go.Proofs
theorem PB:∃K:Nat,18446744073709551616≤K:=⟨_,Nat.le_refl _⟩
noncomputable def KK:Nat:=Classical.choose PB
theorem bN:18446744073709551616≤KK:=Classical.choose_spec PB
structure mo (E:Nat→aw):Prop where
 step:∀(k:Nat) (f:FuncId) (az:List AO),Nat.beq f 40=false→(Nat.beq f 36|| Nat.beq f 43)=false→E (k+1) f az=aW Try.prog H0 (E k) k f az
theorem mo.at {E:Nat→aw} (hE:mo E) {k d:Nat} (hk:KK+(d+1)≤k) (f:FuncId) (az:List AO) (h1:Nat.beq f 40=false) (h2:(Nat.beq f 36|| Nat.beq f 43)=false):
  ∃j,KK+d≤j∧E k f az=aW Try.prog H0 (E j) j f az:=
 ⟨k-1,by omega,by rw[←hE.step _ _ _ h1 h2,Nat.sub_add_cancel (by omega)]⟩
theorem uo:mo (JH Try.prog H0):=⟨fun _ _ _ _ _=>rfl⟩
theorem Oi {base:aw} (hb:∀f az,Nat.beq f 40=false→(Nat.beq f 36|| Nat.beq f 43)=false→base f az=none):mo (KL Try.prog H0 base):=
 ⟨fun k f az h1 h2=>by rw[KL,hb f az h1 h2]⟩
abbrev aI (n:Int):AO:= .pv (.int .i64) (iv n)
abbrev aB (b:Bool):AO:= .pv .bool (.bool b)
abbrev aS (s:ByteArray):AO:= .pv .str (.str s)
abbrev aL (l:List Int):AO:= .pv (.sl 3) (bH l)
abbrev cn (n:Net):AO:= .pv (.st 25) n.pv
abbrev j8 (x:Node):AO:= .pv (.st 55) (af x)
abbrev kT (p:eN):AO:= .pv (.st 36) p.pv
abbrev aQ (q:Qn):AO:= .pv (.st 128) q.pv
abbrev rI (n:Int):R:=some ([aI n],[])
abbrev rB (b:Bool):R:=some ([aB b],[])
theorem tI (k:IntKind) (n:Int):(PV.int k n).toInt=n:=rfl
theorem tS (s:ByteArray):(PV.str s).toStr=s:=rfl
theorem tB (b:Bool):(PV.bool b).toBool=b:=rfl
theorem tL (l:List PV):(PV.sl l).toList=l:=rfl
theorem bJ {n:Int} (h0: -9223372036854775808≤n) (h1:n<9223372036854775808):IntKind.i64.wrap n=n:=by
 simp[IntKind.wrap,IntKind.signed,IntKind.bits]
 split<;>omega
theorem aq {j:Nat} (h:j<4611686018427387904):IntKind.i64.wrap ((j:Int)+1)=((j+1:Nat):Int):=by
 rw[bJ (by omega) (by omega)];omega
theorem L2 {n:Int} (h0:0≤n) (h1:n<18446744073709551616):IntKind.u64.wrap n=n:=by
 simp[IntKind.wrap,IntKind.signed,IntKind.bits]
 omega
theorem TR (j:Nat):aj 0 (j:Int)=true:=b7 (by omega)
theorem ER (a b:Nat):au (a:Int) (b:Int)=decide (a<b):=by unfold au;congr 1;exact propext Int.ofNat_lt
theorem aK {α β:Type} (d:β) (f:α→β):∀(l:List α) (j:Nat) (h:j<l.length),nth d (l.map f) j=f l[j]
 | x::l,0,h=>rfl
 | x::l,j+1,h=>by simpa[nth]using aK d f l j (by simpa using h)
theorem GL {α:Type} (d:α):∀(l:List α) (j:Nat) (h:j<l.length),nth d l j=l[j]
 | x::l,0,h=>rfl
 | x::l,j+1,h=>by simpa[nth]using GL d l j (by simpa using h)
theorem bb {α:Type} {l:List α} {j:Nat} (h:j<l.length):l.drop j=l[j]::l.drop (j+1):=List.drop_eq_getElem_cons h
theorem aT {α:Type} {l:List α} {j:Nat} (h:l.length≤j):l.drop j=[]:=List.drop_eq_nil_of_le h
theorem gH (x:Node):PV.agg [.str x.1.op, .str x.1.name,iv x.1.n,iv x.1.m, .sl (x.1.ao.map Qn.pv), .str x.1.fk,iv x.1.fi,iv x.1.ff, .str x.1.fr, .str x.1.fo,bH x.1.args, .sl (x.2.map Net.pv)]=af x:=(dt x).symm
theorem eA (n:Net):PV.agg [iv n.ins, .sl (n.nodes.map af),bH n.outs]=n.pv:=(Net.Cp n).symm
theorem Ad (p:eN):PV.agg [.sl (p.loops.map Loop.pv), .sl (p.rings.map Ring.pv),iv p.ay, .bool p.bG]=p.pv:=rfl
theorem j9 {n:Nat} (h:n<bf) {d k:Nat} (hk:KK+d≤k):n<k:=by
 have:=bN;unfold bf at h;omega
theorem TS (a b:ByteArray):(a.data.toList==b.data.toList)=decide (a=b):=by
 rw[Bool.eq_iff_iff,beq_iff_eq,decide_eq_true_iff]
 constructor
 ·intro h;cases a;cases b;congr 1;exact Array.toList_inj.1 h
 ·rintro rfl;rfl
theorem TT:(∀x:Node,(af x).cell 0= .str x.1.op∧(af x).cell 1= .str x.1.name∧(af x).cell 2=iv x.1.n∧(af x).cell 3=iv x.1.m∧(af x).cell 4= .sl (x.1.ao.map Qn.pv)∧(af x).cell 5= .str x.1.fk∧(af x).cell 6=iv x.1.fi∧(af x).cell 7=iv x.1.ff∧(af x).cell 8= .str x.1.fr∧(af x).cell 9= .str x.1.fo∧(af x).cell 10=bH x.1.args∧(af x).cell 11= .sl (x.2.map Net.pv))∧
 (∀n:Net,n.pv.cell 0=iv n.ins∧n.pv.cell 1= .sl (n.nodes.map af)∧n.pv.cell 2=bH n.outs)∧(∀q:Qn,q.pv.cell 0=iv q.n∧q.pv.cell 1=iv q.d)∧
 (∀p:eN,p.pv.cell 0= .sl (p.loops.map Loop.pv)∧p.pv.cell 1= .sl (p.rings.map Ring.pv)∧p.pv.cell 2=iv p.ay∧p.pv.cell 3= .bool p.bG)∧
 (∀l:Loop,l.pv.cell 0=bH l.nodes∧l.pv.cell 1= .bool l.ni)∧(∀r:Ring,r.pv.cell 0=iv r.node∧r.pv.cell 1=iv r.size)∧
 (∀(k:IntKind) (n:Int),(PV.int k n).toInt=n)∧(∀s:ByteArray,(PV.str s).toStr=s)∧(∀b:Bool,(PV.bool b).toBool=b)∧(∀l:List PV,(PV.sl l).toList=l)∧
 (∀n:Nat,Nat.beq n n=true)∧(∀(α β:Type) (f:α→β) (l:List α),(l.map f).length=l.length)∧(∀n:Nat,((n:Nat):Int).toNat=n)∧(∀j:Nat,aj 0 (j:Int)=true)∧(∀a b:Nat,au (a:Int) (b:Int)=decide (a<b))∧
 (∀h:Decidable True, @decide True h=true)∧(∀h:Decidable False, @decide False h=false)∧(∀b:Bool,(b&&b)=b∧(true&&b)=b∧(b&&true)=b)∧(!true)=false∧(!false)=true∧(∀(α:Type) (a b:α),cond true a b=a∧cond false a b=b):=
 ⟨fun x=>⟨R8 x,Zb x,Zc x,Zd x,Ze x,Zf x,Zg x,Zh x,Zi x,Zj x,TH x,Rl x⟩,fun n=>⟨Py n,R9 n,Pz n⟩,fun q=>⟨qq0 q,qq1 q⟩,fun p=>⟨Xd p,Xe p,Xf p,Xg p⟩,fun l=>⟨lp0 l,lp1 l⟩,fun r=>⟨rg0 r,rg1 r⟩,tI,tS,tB,tL,Nat.beq_refl,fun _ _ _ _=>List.length_map _,fun n=>Int.toNat_natCast n,TR,ER,fun _=>decide_true _,fun _=>decide_false _,fun b=>⟨Bool.and_self b,Bool.true_and b,Bool.and_true b⟩,rfl,rfl,fun _ _ _=>⟨rfl,rfl⟩⟩
end Go.V
namespace Go.V
def ops:List (List UInt8):=[[119,105,114,101],[110,101,103],[97,98,115],[102,108,111,111,114],[114,111,117,110,100],[102,114,97,99],[110,111,116],[99,117,116],[110,117,109],[97,100,100],[115,117,98],[109,117,108],[100,105,118],[109,111,100],[109,105,110],[109,97,120],[108,116],[108,101],[101,113],[110,101],[97,110,100],[111,114],[120,111,114],[115,104,108],[115,104,114],[112,105,99,107],[102,105,116],[100,101,108,97,121],[118,97,114,121],[116,97,98,108,101],[115,116,111,114,101],[119,97,118,101],[107,110,111,98],[115,104,111,119],[112,97,114],[115,101,113],[115,112,108,105,116],[109,101,114,103,101],[114,101,99],[117,112],[100,111,119,110],[103,97,116,101],[114,101,115,101,116],[105,110],[111,110],[104,111,108,100],[112,97,114,116]]
def aF (s:ByteArray):Nat:=ops.findIdx (· ==s.data.toList)
theorem bp (s:ByteArray) (l:List UInt8) (i:Nat) (h:ops.findIdx (· ==l)=i) (hi:i<ops.length):(s.data.toList==l)=Nat.beq (aF s) i:=by
 rw[Bool.eq_iff_iff,beq_iff_eq,Nat.beq_eq]
 constructor
 ·rintro rfl;exact h
 ·intro h2
  have a:=List.findIdx_getElem (p:=(· ==l)) (xs:=ops) (w:=by rw[h];exact hi)
  have b:=List.findIdx_getElem (p:=(· ==s.data.toList)) (xs:=ops) (w:=by show aF s<_;rw[h2];exact hi)
  have e:ops.findIdx (· ==l)=ops.findIdx (· ==s.data.toList):=by rw[h];exact h2.symm
  simp only[beq_iff_eq]at a b
  rw[←a, ←b]
  congr 1
  exact e.symm
theorem lO (s:ByteArray):aF s≤47:=List.findIdx_le_length
theorem eO (s:ByteArray):(s.data.toList==[119,105,114,101])=Nat.beq (aF s) 0:=bp s _ 0 (by decide+kernel) (by decide)
theorem gZ (s:ByteArray):(s.data.toList==[110,101,103])=Nat.beq (aF s) 1:=bp s _ 1 (by decide+kernel) (by decide)
theorem hZ (s:ByteArray):(s.data.toList==[97,98,115])=Nat.beq (aF s) 2:=bp s _ 2 (by decide+kernel) (by decide)
theorem du (s:ByteArray):(s.data.toList==[102,108,111,111,114])=Nat.beq (aF s) 3:=bp s _ 3 (by decide+kernel) (by decide)
theorem dv (s:ByteArray):(s.data.toList==[114,111,117,110,100])=Nat.beq (aF s) 4:=bp s _ 4 (by decide+kernel) (by decide)
theorem eP (s:ByteArray):(s.data.toList==[102,114,97,99])=Nat.beq (aF s) 5:=bp s _ 5 (by decide+kernel) (by decide)
theorem h9 (s:ByteArray):(s.data.toList==[110,111,116])=Nat.beq (aF s) 6:=bp s _ 6 (by decide+kernel) (by decide)
theorem ia (s:ByteArray):(s.data.toList==[99,117,116])=Nat.beq (aF s) 7:=bp s _ 7 (by decide+kernel) (by decide)
theorem ib (s:ByteArray):(s.data.toList==[110,117,109])=Nat.beq (aF s) 8:=bp s _ 8 (by decide+kernel) (by decide)
theorem ic (s:ByteArray):(s.data.toList==[97,100,100])=Nat.beq (aF s) 9:=bp s _ 9 (by decide+kernel) (by decide)
theorem ig (s:ByteArray):(s.data.toList==[115,117,98])=Nat.beq (aF s) 10:=bp s _ 10 (by decide+kernel) (by decide)
theorem ij (s:ByteArray):(s.data.toList==[109,117,108])=Nat.beq (aF s) 11:=bp s _ 11 (by decide+kernel) (by decide)
theorem ik (s:ByteArray):(s.data.toList==[100,105,118])=Nat.beq (aF s) 12:=bp s _ 12 (by decide+kernel) (by decide)
theorem il (s:ByteArray):(s.data.toList==[109,111,100])=Nat.beq (aF s) 13:=bp s _ 13 (by decide+kernel) (by decide)
theorem im (s:ByteArray):(s.data.toList==[109,105,110])=Nat.beq (aF s) 14:=bp s _ 14 (by decide+kernel) (by decide)
theorem iq (s:ByteArray):(s.data.toList==[109,97,120])=Nat.beq (aF s) 15:=bp s _ 15 (by decide+kernel) (by decide)
theorem mq (s:ByteArray):(s.data.toList==[108,116])=Nat.beq (aF s) 16:=bp s _ 16 (by decide+kernel) (by decide)
theorem mr (s:ByteArray):(s.data.toList==[108,101])=Nat.beq (aF s) 17:=bp s _ 17 (by decide+kernel) (by decide)
theorem mu (s:ByteArray):(s.data.toList==[101,113])=Nat.beq (aF s) 18:=bp s _ 18 (by decide+kernel) (by decide)
theorem mv (s:ByteArray):(s.data.toList==[110,101])=Nat.beq (aF s) 19:=bp s _ 19 (by decide+kernel) (by decide)
theorem ir (s:ByteArray):(s.data.toList==[97,110,100])=Nat.beq (aF s) 20:=bp s _ 20 (by decide+kernel) (by decide)
theorem mw (s:ByteArray):(s.data.toList==[111,114])=Nat.beq (aF s) 21:=bp s _ 21 (by decide+kernel) (by decide)
theorem iu (s:ByteArray):(s.data.toList==[120,111,114])=Nat.beq (aF s) 22:=bp s _ 22 (by decide+kernel) (by decide)
theorem iw (s:ByteArray):(s.data.toList==[115,104,108])=Nat.beq (aF s) 23:=bp s _ 23 (by decide+kernel) (by decide)
theorem iy (s:ByteArray):(s.data.toList==[115,104,114])=Nat.beq (aF s) 24:=bp s _ 24 (by decide+kernel) (by decide)
theorem eQ (s:ByteArray):(s.data.toList==[112,105,99,107])=Nat.beq (aF s) 25:=bp s _ 25 (by decide+kernel) (by decide)
theorem iz (s:ByteArray):(s.data.toList==[102,105,116])=Nat.beq (aF s) 26:=bp s _ 26 (by decide+kernel) (by decide)
theorem cP (s:ByteArray):(s.data.toList==[100,101,108,97,121])=Nat.beq (aF s) 27:=bp s _ 27 (by decide+kernel) (by decide)
theorem eR (s:ByteArray):(s.data.toList==[118,97,114,121])=Nat.beq (aF s) 28:=bp s _ 28 (by decide+kernel) (by decide)
theorem dw (s:ByteArray):(s.data.toList==[116,97,98,108,101])=Nat.beq (aF s) 29:=bp s _ 29 (by decide+kernel) (by decide)
theorem dx (s:ByteArray):(s.data.toList==[115,116,111,114,101])=Nat.beq (aF s) 30:=bp s _ 30 (by decide+kernel) (by decide)
theorem eT (s:ByteArray):(s.data.toList==[119,97,118,101])=Nat.beq (aF s) 31:=bp s _ 31 (by decide+kernel) (by decide)
theorem eU (s:ByteArray):(s.data.toList==[107,110,111,98])=Nat.beq (aF s) 32:=bp s _ 32 (by decide+kernel) (by decide)
theorem eV (s:ByteArray):(s.data.toList==[115,104,111,119])=Nat.beq (aF s) 33:=bp s _ 33 (by decide+kernel) (by decide)
theorem iA (s:ByteArray):(s.data.toList==[112,97,114])=Nat.beq (aF s) 34:=bp s _ 34 (by decide+kernel) (by decide)
theorem iB (s:ByteArray):(s.data.toList==[115,101,113])=Nat.beq (aF s) 35:=bp s _ 35 (by decide+kernel) (by decide)
theorem dy (s:ByteArray):(s.data.toList==[115,112,108,105,116])=Nat.beq (aF s) 36:=bp s _ 36 (by decide+kernel) (by decide)
theorem dz (s:ByteArray):(s.data.toList==[109,101,114,103,101])=Nat.beq (aF s) 37:=bp s _ 37 (by decide+kernel) (by decide)
theorem iC (s:ByteArray):(s.data.toList==[114,101,99])=Nat.beq (aF s) 38:=bp s _ 38 (by decide+kernel) (by decide)
theorem kz (s:ByteArray):(s.data.toList==[117,112])=Nat.beq (aF s) 39:=bp s _ 39 (by decide+kernel) (by decide)
theorem eW (s:ByteArray):(s.data.toList==[100,111,119,110])=Nat.beq (aF s) 40:=bp s _ 40 (by decide+kernel) (by decide)
theorem eX (s:ByteArray):(s.data.toList==[103,97,116,101])=Nat.beq (aF s) 41:=bp s _ 41 (by decide+kernel) (by decide)
theorem dA (s:ByteArray):(s.data.toList==[114,101,115,101,116])=Nat.beq (aF s) 42:=bp s _ 42 (by decide+kernel) (by decide)
theorem my (s:ByteArray):(s.data.toList==[105,110])=Nat.beq (aF s) 43:=bp s _ 43 (by decide+kernel) (by decide)
theorem mz (s:ByteArray):(s.data.toList==[111,110])=Nat.beq (aF s) 44:=bp s _ 44 (by decide+kernel) (by decide)
theorem eY (s:ByteArray):(s.data.toList==[104,111,108,100])=Nat.beq (aF s) 45:=bp s _ 45 (by decide+kernel) (by decide)
theorem eZ (s:ByteArray):(s.data.toList==[112,97,114,116])=Nat.beq (aF s) 46:=bp s _ 46 (by decide+kernel) (by decide)
theorem Ro (s:ByteArray):(s.data.toList==[])=decide (s.size=0):=by
 rw[Bool.eq_iff_iff,beq_iff_eq,decide_eq_true_iff]
 show s.data.toList=[]↔s.data.size=0
 rw[Array.toList_eq_nil_iff,Array.size_eq_zero_iff]
end Go.V
namespace Go.V
structure ES where
 ins:Int
 outs:Int
 kids:Int
 N:Bool
 M:Bool
 name:Bool
 fmt:Bool
 least:Int
 TU:Int
def ES.pv (s:ES):PV:= .agg [iv s.ins,iv s.outs,iv s.kids, .bool s.N, .bool s.M, .bool s.name, .bool s.fmt,iv s.least,iv s.TU]
def Oj (c:Nat):Option ES:=
 if c<7 then some ⟨1,1,0,false,false,false,false,0,0⟩
 else if c=7 then some ⟨1,0,0,false,false,false,false,0,0⟩
 else if c=8 then some ⟨0,1,0,false,false,false,false,1,1⟩
 else if c<25 then some ⟨2,1,0,false,false,false,false,0,0⟩
 else if c=25 then some ⟨3,1,0,false,false,false,false,0,0⟩
 else if c=26 then some ⟨1,1,0,false,false,false,true,0,0⟩
 else if c=27 then some ⟨1,1,0,true,false,false,false,0,0⟩
 else if c=28 then some ⟨2,1,0,true,true,false,false,0,0⟩
 else if c=29 then some ⟨1,1,0,false,false,false,false,1,256⟩
 else if c=30 then some ⟨3,1,0,false,false,false,false,1,256⟩
 else if c=31 then some ⟨0,1,0,false,false,false,false,1,256⟩
 else if c=32 then some ⟨0,1,0,false,false,true,false,4,4⟩
 else if c=33 then some ⟨1,1,0,false,false,true,false,0,0⟩
 else if c<39 then some ⟨0,0,2,false,false,false,false,0,0⟩
 else if c<41 then some ⟨0,0,1,true,false,false,false,0,0⟩
 else if c<43 then some ⟨0,0,1,false,false,false,false,0,0⟩
 else none
def ET:ES:=⟨0,0,0,false,false,false,false,0,0⟩
theorem Ae {c:Nat} (h:c≤47):c=0∨c=1∨c=2∨c=3∨c=4∨c=5∨c=6∨c=7∨c=8∨c=9∨c=10∨c=11∨c=12∨c=13∨c=14∨c=15∨c=16∨c=17∨c=18∨c=19∨c=20∨c=21∨c=22∨c=23∨c=24∨c=25∨c=26∨c=27∨c=28∨c=29∨c=30∨c=31∨c=32∨c=33∨c=34∨c=35∨c=36∨c=37∨c=38∨c=39∨c=40∨c=41∨c=42∨c=43∨c=44∨c=45∨c=46∨c=47:=by omega
abbrev Ol (s:ES):AO:= .pv (.st 121) s.pv
section
variable {E:Nat→aw} {k:Nat}
theorem f67 (hE:mo E) (hk:KK+1≤k) (s:ByteArray):E k 67 [aS s]=some ([Ol ((Oj (aF s)).getD ET),aB (Oj (aF s)).isSome],[]):=by
 obtain⟨j,hj,e⟩:=hE.at hk 67 [aS s] rfl rfl
 rw[e,R67]
 simp only[Lm,Ic,Ie,Ig,Ih,PV.toStr,eO,gZ,hZ,du,dv,eP,h9,ia,ib,ic,ig,ij,ik,il,im,iq,mq,mr,mu,mv,ir,mw,iu,iw,iy,eQ,iz,cP,eR,dw,dx,eT,eU,eV,iA,iB,dy,dz,iC,kz,eW,eX,dA,my,mz,eY,eZ]
 rcases Ae (lO s)with h | h | h | h | h | h | h | h | h | h | h | h | h | h | h | h | h | h | h | h | h | h | h | h | h | h | h | h | h | h | h | h | h | h | h | h | h | h | h | h | h | h | h | h | h | h | h | h<;>rw[h]<;>rfl
def cg (c:Nat) (n:Int):Int×Int×Int×Bool:=
 if c=43∨c=8∨c=32 then(0, -1, -1,true)
 else if c=44∨c=46 then(1, -1, -1,true)
 else if c=27∨c=45 then(3,1,2,true)
 else if c=28 then(4,2,3,true)
 else if c=31 then(2,0,1,true)
 else if c=30 then(5,3,4,true)
 else if c=33 then(2,1, -1,true)
 else if c=39 then(n,n-2,n-1,aj 2 n)
 else if c=0∨c=7 then(0,0,0,false)
 else(((Oj c).getD ET).ins, -1, -1,(Oj c).isSome&&ak ((Oj c).getD ET).kids 0)
theorem f49 (hE:mo E) (hk:KK+2≤k) (s:ByteArray) (n:Nat) (hn:n<bf):
  E k 49 [aS s,aI n]=some ([aI (cg (aF s) n).1,aI (cg (aF s) n).2.1,aI (cg (aF s) n).2.2.1,aB (cg (aF s) n).2.2.2],[]):=by
 obtain⟨j,hj,e⟩:=hE.at hk 49 [aS s,aI n] rfl rfl
 unfold bf at hn
 rw[e,R49,f67 hE hj]
 simp only[K2,K3,HP,HQ,PV.toStr,PV.toInt,eO,gZ,hZ,du,dv,eP,h9,ia,ib,ic,ig,ij,ik,il,im,iq,mq,mr,mu,mv,ir,mw,iu,iw,iy,eQ,iz,cP,eR,dw,dx,eT,eU,eV,iA,iB,dy,dz,iC,kz,eW,eX,dA,my,mz,eY,eZ]
 rw[bJ (n:=(n:Int)-2) (by omega) (by omega),bJ (n:=(n:Int)-1) (by omega) (by omega)]
 rcases Ae (lO s)with h | h | h | h | h | h | h | h | h | h | h | h | h | h | h | h | h | h | h | h | h | h | h | h | h | h | h | h | h | h | h | h | h | h | h | h | h | h | h | h | h | h | h | h | h | h | h | h<;>rw[h]<;>rfl
end
end Go.V
namespace Go.V
def pick (p:Nat→Bool):Nat→List Int→List Int
 | _,[]=>[]
 | i,a::l=>bif p i&&aj 0 a then a::pick p (i+1) l else pick p (i+1) l
def tP (c:Nat) (n en rs:Int) (i:Nat):Bool:=
 bif Nat.beq c 27 then ak i rs
 else bif Nat.beq c 28 then ak i 1|| (ak i rs|| (ak i 0&&ak n 0))
 else bif Nat.beq c 31 then ak i rs
 else bif Nat.beq c 30 then ak i 2|| ak i rs
 else bif Nat.beq c 45|| (Nat.beq c 33|| Nat.beq c 39)then true
 else !ak i en
def cp (x:Nf):List Int:=pick (tP (aF x.op) x.n (cg (aF x.op) x.args.length).2.1 (cg (aF x.op) x.args.length).2.2.1) 0 x.args
section
variable {call:aw} {k n j:Nat} {v0 v1 v2 v3 v4 v5 v6 v7 v8 v9 v10 v11 v12 v13 v14 v15 v16:PV} {op:ByteArray} {m en rs:Int} {args acc:List Int}
theorem Xn (hl:args.length≤1000):∀(n j:Nat) (acc:List Int),args.length-j<n→acc.length≤j→BB call k n (.str op) v1 (iv m) v3 v4 v5 v6 v7 v8 v9 (bH args) v11 (iv en) (iv rs) (acc.map iv) (iv j)=some ([.arr 3 ((acc++pick (tP (aF op) m en rs) j (args.drop j)).map iv)],[])
 | 0,j,acc,h,_=>by omega
 | n+1,j,acc,h,ha=>by
  have step:∀b:Bool,b=tP (aF op) m en rs j→j<args.length→gR call k n (.str op) v1 (iv m) v3 v4 v5 v6 v7 v8 v9 (bH args) v11 (iv en) (iv rs) (acc.map iv) (iv j) (.bool b)=some ([.arr 3 ((acc++pick (tP (aF op) m en rs) j (args.drop j)).map iv)],[]):=by
   intro b hb hj
   have hn:nth default (args.map iv) j=iv args[j]:=aK _ _ _ _ hj
   have i1:=Xn hl n (j+1) acc (by omega) (by omega)
   have i2:=Xn hl n (j+1) (acc++[args[j]]) (by omega) (by simp;omega)
   rw[bb hj,pick, ←hb]
   rw[HO]
   simp only[TT,ab,aa,Ty.eq,hj,hn,K1,DY,aq (show j<4611686018427387904 by omega),List.reverse_singleton,List.length_singleton]
   rw[kQ (show(acc.length+1)*8≤room by show _≤140737488355328;omega)]
   rw[i1]
   simp only[List.map_append,List.map_cons,List.map_nil,cond_true]at i2 ⊢
   rw[i2]
   cases b<;>cases aj 0 args[j]<;>simp
  rw[DZ]
  by_cases hj:j<args.length
  ·have step:=fun b hb=>step b hb hj
   simp only[TT,ab,aa,Ty.eq,hj,eO,gZ,hZ,du,dv,eP,h9,ia,ib,ic,ig,ij,ik,il,im,iq,mq,mr,mu,mv,ir,mw,iu,iw,iy,eQ,iz,cP,eR,dw,dx,eT,eU,eV,iA,iB,dy,dz,iC,kz,eW,eX,dA,my,mz,eY,eZ]
   unfold tP at step ⊢
   generalize aF op=c at*
   revert step
   cases Nat.beq c 27 with
   | true=>exact fun step=>step _ rfl
   | false=>
   cases Nat.beq c 28 with
   | true=>
    simp only[cond_true,cond_false]
    cases ak j 1<;>cases ak j rs<;>cases ak j 0<;>exact fun step=>step _ rfl
   | false=>
   cases Nat.beq c 31 with
   | true=>exact fun step=>step _ rfl
   | false=>
   cases Nat.beq c 30 with
   | true=>cases ak j 2<;>exact fun step=>step _ rfl
   | false=>
   cases Nat.beq c 45<;>cases Nat.beq c 33<;>cases Nat.beq c 39<;>exact fun step=>step _ rfl
  ·simp only[TT,ab,aa,Ty.eq,hj,aT (Nat.le_of_not_lt hj),pick,List.append_nil]
end
section
variable {E:Nat→aw} {k:Nat}
theorem f38 (hE:mo E) (hk:KK+3≤k) (x:Node) (hl:x.1.args.length≤1000):E k 38 [j8 x]=some ([.arr 3 ((cp x.1).map iv)],[]):=by
 obtain⟨j,hj,e⟩:=hE.at hk 38 [j8 x] rfl rfl
 have:=bN
 rw[e,R38]
 simp only[TT,ab,aa,Ty.eq]
 rw[f49 hE hj _ _ (by unfold bf;omega)]
 exact Xn hl j 0 [] (by omega) (by simp)
end
end Go.V
namespace Go.V
mutual
def Net.size:Net→Nat
 | .mk _ ns _=>ns.length+ca ns
def ca:List (Nf×List Net)→Nat
 | []=>0
 | (_,ms)::r=>cx ms+ca r
def cx:List Net→Nat
 | []=>0
 | m::r=>m.size+cx r
end
mutual
def Net.dp:Net→Nat
 | .mk _ ns _=>nj ns+1
def nj:List (Nf×List Net)→Nat
 | []=>0
 | (_,ms)::r=>sD ms+nj r
def sD:List Net→Nat
 | []=>0
 | m::r=>m.dp+sD r
end
theorem Net.size_eq (n:Net):n.size=n.nodes.length+ca n.nodes:=by cases n;rw[Net.size];rfl
theorem iY (x:Node) (r:List Node):ca (x::r)=cx x.2+ca r:=by cases x;rw[ca]
theorem Net.vU (n:Net):n.dp=nj n.nodes+1:=by cases n;rw[Net.dp];rfl
theorem Af (x:Node) (r:List Node):nj (x::r)=sD x.2+nj r:=by cases x;rw[nj]
theorem vV:∀ {l:List Net} {m:Net},m∈l→m.dp≤sD l
 | x::l,m,h=>by
  rw[sD]
  rcases List.mem_cons.1 h with rfl | h
  ·omega
  ·have:=vV h;omega
theorem tA:∀ {l:List Node} {x:Node},x∈l→sD x.2≤nj l
 | y::l,x,h=>by
  rw[Af]
  rcases List.mem_cons.1 h with rfl | h
  ·omega
  ·have:=tA h;omega
theorem Net.sE {n:Net} {x:Node} {m:Net} (hx:x∈n.nodes) (hm:m∈x.2):m.dp<n.dp:=by
 have:=tA hx
 have:=vV hm
 have:=n.vU
 omega
theorem wrap_add (a b:Int):IntKind.i64.wrap (IntKind.i64.wrap a+IntKind.i64.wrap b)=IntKind.i64.wrap (a+b):=by
 simp[IntKind.wrap,IntKind.signed,IntKind.bits]
 repeat' split
 all_goals omega
theorem bz {α:Type} {l:List α} {j:Nat} (h:j<l.length):l[j]∈l:=List.getElem_mem h
section
variable {call:aw} {k m1:Nat} {v0 v1 v2 v3 v4 v5 v6 v7 v8 v9 v10 v11 v12 v13 v14 v15 v16 v17 v18 v19 v20 v21:PV} {i:Nat}
theorem PC {ms:List Net} (hl:ms.length<bf) (hc:∀m∈ms,call 17 [cn m]=rI (IntKind.i64.wrap m.size)):∀(n j:Nat) (t:Int),ms.length-j<n→
  FQ call k m1 n v0 v1 v2 (iv (IntKind.i64.wrap t)) v4 v5 v6 v7 v8 v9 v10 v11 v12 v13 v14 v15 v16 v17 (iv i) (.sl (ms.map Net.pv)) (iv ms.length) (iv j)=By call k m1 v0 v1 v2 (iv (IntKind.i64.wrap (t+cx (ms.drop j)))) v16 v17 (iv (IntKind.i64.wrap ((i:Int)+1)))
 | 0,j,t,h=>by omega
 | n+1,j,t,h=>by
  have jR:=hl
  unfold bf at jR
  rw[DU]
  by_cases hj:j<ms.length
  ·have hn:nth default (ms.map Net.pv) j=ms[j].pv:=aK _ _ _ _ hj
   have Jp:=hc _ (bz hj)
   simp only[TT,ab,aa,Ty.eq,hj,hn,eA,Jp,wrap_add,aq (show j<4611686018427387904 by omega)]
   rw[PC hl hc n (j+1) _ (by omega),bb hj,cx]
   simp only[Int.natCast_add,Int.add_assoc]
  ·simp only[TT,ab,aa,Ty.eq,hj,aT (Nat.le_of_not_lt hj),cx,Int.natCast_zero,Int.add_zero]
theorem PD {ns:List Node} (hl:ns.length<bf) (Q1:∀x∈ns,x.2.length<bf) (hk:KK≤k) (hc:∀x∈ns,∀m∈x.2,call 17 [cn m]=rI (IntKind.i64.wrap m.size)):∀(n j:Nat) (t:Int) {v0 v1 v2:PV},ns.length-j<n→
  By call k n v0 v1 v2 (iv (IntKind.i64.wrap t)) (.sl (ns.map af)) (iv ns.length) (iv j)=rI (IntKind.i64.wrap (t+ca (ns.drop j)))
 | 0,j,t,_,_,_,h=>by omega
 | n+1,j,t,v0,v1,v2,h=>by
  rw[DV]
  by_cases hj:j<ns.length
  ·have hn:nth default (ns.map af) j=af ns[j]:=aK _ _ _ _ hj
   have h2:=Q1 _ (bz hj)
   simp only[TT,ab,aa,Ty.eq,hj,hn]
   have kV:=bN
   have h3:=h2
   have jR:=hl
   unfold bf at h3 jR
   refine(PC h2 (hc _ (bz hj)) k 0 t (by omega)).trans ?_
   rw[aq (by omega),PD hl Q1 hk hc n (j+1) _ (by omega),bb hj,iY]
   simp only[Int.natCast_add,Int.add_assoc,List.drop_zero]
  ·simp only[TT,ab,aa,Ty.eq,hj,aT (Nat.le_of_not_lt hj),ca,Int.natCast_zero,Int.add_zero]
end
theorem f17 {E:Nat→aw} (hE:mo E):∀(d:Nat) (n:Net),cu n→n.dp≤d→∀k,KK+d+1≤k→E k 17 [cn n]=rI (IntKind.i64.wrap n.size)
 | 0,n,ho,h=>by rw[n.vU]at h;omega
 | d+1,n,ho,h=>by
  intro k hk
  obtain⟨j,hj,e⟩:=hE.at (d:=d+1) (by omega) 17 [cn n] rfl rfl
  have:=bN
  have h4:=ho.ln
  have h5:=h4
  unfold bf at h5
  rw[e,R17]
  simp only[TT,ab,aa,Ty.eq]
  have:=PD (k:=j) (call:=E j) (v0:=iv n.ins) (v1:= .sl (n.nodes.map af)) (v2:=bH n.outs) h4 ho.EN (by omega) (fun x hx m hm=>f17 hE d m (ho.sub x hx m hm) (by have:=Net.sE hx hm;omega) j (by omega)) j 0 n.nodes.length (by omega)
  rw[bJ (n:=(n.nodes.length:Int)) (by omega) (by omega)]at this
  refine this.trans ?_
  rw[n.size_eq,List.drop_zero,Int.natCast_add]
section
variable {call:aw} {k m1:Nat} {v0 v1 v2 v3 v4 v5 v6 v7 v8 v9 v10 v11 v12 v13 v14 v15 v16 v17 v18 v19 v20 v21:PV} {i:Nat}
theorem PE {ms:List Net} (hl:ms.length<bf) (hc:∀m∈ms,call 50 [cn m]=rI (IntKind.i64.wrap m.size)):∀(n j:Nat) (t:Int),ms.length-j<n→
  FV call k m1 n v0 v1 v2 (iv (IntKind.i64.wrap t)) v4 v5 v6 v7 v8 v9 v10 v11 v12 v13 v14 v15 v16 v17 (iv i) (.sl (ms.map Net.pv)) (iv ms.length) (iv j)=BD call k m1 v0 v1 v2 (iv (IntKind.i64.wrap (t+cx (ms.drop j)))) v16 v17 (iv (IntKind.i64.wrap ((i:Int)+1)))
 | 0,j,t,h=>by omega
 | n+1,j,t,h=>by
  have jR:=hl
  unfold bf at jR
  rw[D0]
  by_cases hj:j<ms.length
  ·have hn:nth default (ms.map Net.pv) j=ms[j].pv:=aK _ _ _ _ hj
   have Jp:=hc _ (bz hj)
   simp only[TT,ab,aa,Ty.eq,hj,hn,eA,Jp,wrap_add,aq (show j<4611686018427387904 by omega)]
   rw[PE hl hc n (j+1) _ (by omega),bb hj,cx]
   simp only[Int.natCast_add,Int.add_assoc]
  ·simp only[TT,ab,aa,Ty.eq,hj,aT (Nat.le_of_not_lt hj),cx,Int.natCast_zero,Int.add_zero]
theorem PF {ns:List Node} (hl:ns.length<bf) (Q1:∀x∈ns,x.2.length<bf) (hk:KK≤k) (hc:∀x∈ns,∀m∈x.2,call 50 [cn m]=rI (IntKind.i64.wrap m.size)):∀(n j:Nat) (t:Int) {v0 v1 v2:PV},ns.length-j<n→
  BD call k n v0 v1 v2 (iv (IntKind.i64.wrap t)) (.sl (ns.map af)) (iv ns.length) (iv j)=rI (IntKind.i64.wrap (t+ca (ns.drop j)))
 | 0,j,t,_,_,_,h=>by omega
 | n+1,j,t,v0,v1,v2,h=>by
  rw[D1]
  by_cases hj:j<ns.length
  ·have hn:nth default (ns.map af) j=af ns[j]:=aK _ _ _ _ hj
   have h2:=Q1 _ (bz hj)
   simp only[TT,ab,aa,Ty.eq,hj,hn]
   have kV:=bN
   have h3:=h2
   have jR:=hl
   unfold bf at h3 jR
   refine(PE h2 (hc _ (bz hj)) k 0 t (by omega)).trans ?_
   rw[aq (by omega),PF hl Q1 hk hc n (j+1) _ (by omega),bb hj,iY]
   simp only[Int.natCast_add,Int.add_assoc,List.drop_zero]
  ·simp only[TT,ab,aa,Ty.eq,hj,aT (Nat.le_of_not_lt hj),ca,Int.natCast_zero,Int.add_zero]
end
theorem f50 {E:Nat→aw} (hE:mo E):∀(d:Nat) (n:Net),cu n→n.dp≤d→∀k,KK+d+1≤k→E k 50 [cn n]=rI (IntKind.i64.wrap n.size)
 | 0,n,ho,h=>by rw[n.vU]at h;omega
 | d+1,n,ho,h=>by
  intro k hk
  obtain⟨j,hj,e⟩:=hE.at (d:=d+1) (by omega) 50 [cn n] rfl rfl
  have:=bN
  have h4:=ho.ln
  have h5:=h4
  unfold bf at h5
  rw[e,R50]
  simp only[TT,ab,aa,Ty.eq]
  have:=PF (k:=j) (call:=E j) (v0:=iv n.ins) (v1:= .sl (n.nodes.map af)) (v2:=bH n.outs) h4 ho.EN (by omega) (fun x hx m hm=>f50 hE d m (ho.sub x hx m hm) (by have:=Net.sE hx hm;omega) j (by omega)) j 0 n.nodes.length (by omega)
  rw[bJ (n:=(n.nodes.length:Int)) (by omega) (by omega)]at this
  refine this.trans ?_
  rw[n.size_eq,List.drop_zero,Int.natCast_add]
end Go.V
namespace Go.V
def oT (q:Qn):Bool:=aj 1 q.d&&(aj q.d 1073741824&&(aj (-1073741824) q.n&&(aj q.n 1073741824&&ak (Nat.gcd q.n.natAbs q.d.natAbs:Nat) 1)))
theorem gq {q:Qn} (h:oT q=true):1≤q.d∧q.d≤1073741824∧ -1073741824≤q.n∧q.n≤1073741824∧Nat.gcd q.n.natAbs q.d.natAbs=1:=by
 unfold oT at h
 simp only[Bool.and_eq_true]at h
 obtain⟨h1,h2,h3,h4,h5⟩:=h
 have h5:((Nat.gcd q.n.natAbs q.d.natAbs:Nat):Int)=1:=of_decide_eq_true h5
 exact⟨of_decide_eq_true h1,of_decide_eq_true h2,of_decide_eq_true h3,of_decide_eq_true h4,by omega⟩
def eB (q:Qn):Bool:=oT q|| (ak q.n 0&&ak q.d 0)
section
variable {call:aw} {k:Nat}
theorem Om (a b:Nat):ak (a:Int) (b:Int)=decide (a=b):=by unfold ak;congr 1;exact propext Int.ofNat_inj
theorem L3:∀(n a b:Nat),b<n→xV call k n (iv a) (iv b)=rI (Nat.gcd a b:Nat)
 | 0,a,b,h=>by omega
 | n+1,a,b,h=>by
  rw[D7]
  by_cases hb:b=0
  ·subst hb
   simp only[TT,ab,aa,Ty.eq,Int.natCast_zero]
   rw[lk (rfl:(0:Int)=0),Nat.gcd_zero_right];rfl
  ·simp only[TT,ab,aa,Ty.eq]
   rw[eE (show(b:Int)≠0 by omega)]
   simp only[Bool.not_false,cond_true,cond_false]
   have:=L3 n b (a % b) (by have:=Nat.mod_lt a (Nat.pos_of_ne_zero hb);omega)
   refine(this:xV _ _ _ (iv b) (iv ((a:Int).tmod b))=_).trans ?_
   rw[Nat.gcd_comm a b,Nat.gcd_rec b a,Nat.gcd_comm]
abbrev uv (n:Int):PV:= .int .u64 n
abbrev aU (n:Int):AO:= .pv (.int .u64) (uv n)
theorem L4:∀(n a b:Nat),b<n→vu call k n (uv a) (uv b)=some ([aU (Nat.gcd a b:Nat)],[])
 | 0,a,b,h=>by omega
 | n+1,a,b,h=>by
  rw[BL]
  by_cases hb:b=0
  ·subst hb
   simp only[TT,ab,aa,Ty.eq,Int.natCast_zero]
   rw[lk (rfl:(0:Int)=0),Nat.gcd_zero_right];rfl
  ·simp only[TT,ab,aa,Ty.eq]
   rw[eE (show(b:Int)≠0 by omega)]
   simp only[Bool.not_false,cond_true,cond_false]
   have:=L4 n b (a % b) (by have:=Nat.mod_lt a (Nat.pos_of_ne_zero hb);omega)
   refine(this:vu _ _ _ (uv b) (uv ((a:Int).tmod b))=_).trans ?_
   rw[Nat.gcd_comm a b,Nat.gcd_rec b a,Nat.gcd_comm]
theorem L5:∀(n a b:Nat),b<n→vt call k n (iv a) (iv b)=rI (Nat.gcd a b:Nat)
 | 0,a,b,h=>by omega
 | n+1,a,b,h=>by
  rw[BK]
  by_cases hb:b=0
  ·subst hb
   simp only[TT,ab,aa,Ty.eq,Int.natCast_zero]
   rw[lk (rfl:(0:Int)=0),Nat.gcd_zero_right];rfl
  ·simp only[TT,ab,aa,Ty.eq]
   rw[eE (show(b:Int)≠0 by omega)]
   simp only[Bool.not_false,cond_true,cond_false]
   have:=L5 n b (a % b) (by have:=Nat.mod_lt a (Nat.pos_of_ne_zero hb);omega)
   refine(this:vt _ _ _ (iv b) (iv ((a:Int).tmod b))=_).trans ?_
   rw[Nat.gcd_comm a b,Nat.gcd_rec b a,Nat.gcd_comm]
end
section
variable {E:Nat→aw} {k:Nat}
theorem f87 (hE:mo E) (hk:KK+1≤k) (a b:Int) (ha: -1073741824≤a) (O1:a≤1073741824) (hb:0≤b) (rN:b≤1073741824):E k 87 [aI a,aI b]=rI (Nat.gcd a.natAbs b.natAbs:Nat):=by
 obtain⟨j,hj,e⟩:=hE.at hk 87 [aI a,aI b] rfl rfl
 have:=bN
 rw[e,R87]
 simp only[TT,ab,aa,Ty.eq,Lf]
 rw[eg hb,cond_false,cond_false]
 by_cases h:a<0
 ·rw[dF h,cond_true,bJ (by omega) (by omega)]
  have:=L3 (call:=E j) (k:=j) j a.natAbs b.natAbs (by omega)
  rwa[show((a.natAbs:Nat):Int)=0-a by omega,show((b.natAbs:Nat):Int)=b by omega]at this
 ·rw[eg (by omega),cond_false]
  have:=L3 (call:=E j) (k:=j) j a.natAbs b.natAbs (by omega)
  rwa[show((a.natAbs:Nat):Int)=a by omega,show((b.natAbs:Nat):Int)=b by omega]at this
theorem f108 (hE:mo E) (hk:KK+1≤k) (a b:Nat) (hb:b≤1073741824):E k 108 [aU a,aU b]=some ([aU (Nat.gcd a b:Nat)],[]):=by
 obtain⟨j,hj,e⟩:=hE.at hk 108 [aU a,aU b] rfl rfl
 have:=bN
 rw[e,W5]
 exact L4 j a b (by omega)
theorem f107 (hE:mo E) (hk:KK+1≤k) (a b:Nat) (hb:b≤1073741824):E k 107 [aI a,aI b]=rI (Nat.gcd a b:Nat):=by
 obtain⟨j,hj,e⟩:=hE.at hk 107 [aI a,aI b] rfl rfl
 have:=bN
 rw[e,W4]
 exact L5 j a b (by omega)
theorem f109 (hE:mo E) (hk:KK+1≤k) (a:Int) (ha: -9223372036854775808≤a) (O1:a<9223372036854775808):E k 109 [aI a]=some ([aU (a.natAbs:Nat)],[]):=by
 obtain⟨j,hj,e⟩:=hE.at hk 109 [aI a] rfl rfl
 rw[e,W8]
 simp only[TT,ab,aa,Ty.eq]
 by_cases h:a<0
 ·rw[dF h,cond_true]
  have:IntKind.u64.wrap (0-IntKind.u64.wrap a)=((a.natAbs:Nat):Int):=by
   simp[IntKind.wrap,IntKind.signed,IntKind.bits]
   omega
  rw[this]
 ·rw[eg (by omega),cond_false,L2 (by omega) (by omega),show a=((a.natAbs:Nat):Int)by omega]
  rfl
theorem f78 (hE:mo E) (hk:KK+2≤k) (q:Qn):E k 78 [aQ q]=rB (oT q):=by
 obtain⟨j,hj,e⟩:=hE.at hk 78 [aQ q] rfl rfl
 rw[e,R78]
 simp only[TT,ab,aa,Ty.eq]
 unfold oT
 cases h1:aj 1 q.d
 ·rfl
 cases h2:aj q.d 1073741824
 ·rfl
 cases h3:aj (-1073741824) q.n
 ·rfl
 cases h4:aj q.n 1073741824
 ·rfl
 have h1:1≤q.d:=of_decide_eq_true h1
 have h2:q.d≤_:=of_decide_eq_true h2
 have h3:_≤q.n:=of_decide_eq_true h3
 have h4:q.n≤_:=of_decide_eq_true h4
 simp only[cond_true,f87 hE hj q.n q.d h3 h4 (by omega) h2,ab,aa,tI,Ty.eq,Bool.true_and]
 rfl
theorem f105 (hE:mo E) (hk:KK+2≤k) (q:Qn) (ho:pj q.n):E k 105 [aQ q]=rB (oT q):=by
 obtain⟨j,hj,e⟩:=hE.at hk 105 [aQ q] rfl rfl
 rw[e,W2]
 simp only[TT,ab,aa,Ty.eq]
 unfold oT
 cases h1:aj 1 q.d
 ·rfl
 cases h2:aj q.d 1073741824
 ·rfl
 cases h3:aj (-1073741824) q.n
 ·rfl
 have h1:1≤q.d:=of_decide_eq_true h1
 have h2:q.d≤_:=of_decide_eq_true h2
 have h3:_≤q.n:=of_decide_eq_true h3
 simp only[cond_true,f109 hE hj q.n (by omega) ho.2,f109 hE hj q.d (by omega) (by omega),f108 hE hj q.n.natAbs q.d.natAbs (by omega),ab,aa,tI,Ty.eq,Bool.true_and]
 cases h4:aj q.n 1073741824<;>rfl
end
end Go.V
namespace Go.V
theorem I4 (q:Qn):PV.agg [iv q.n,iv q.d]=q.pv:=rfl
def sF (a b:Qn):Int:=bif au (a.n*b.d) (b.n*a.d)then-1 else bif au (b.n*a.d) (a.n*b.d)then 1 else 0
theorem Rp {a b A B:Int} (h1: -A≤a) (h2:a≤A) (h3:0≤b) (h4:b≤B) (hA:0≤A): -(A*B)≤a*b∧a*b≤A*B:=by
 have k1:a*b≤A*b:=Int.mul_le_mul_of_nonneg_right h2 h3
 have k2:A*b≤A*B:=Int.mul_le_mul_of_nonneg_left h4 hA
 have k3: -A*b≤a*b:=Int.mul_le_mul_of_nonneg_right h1 h3
 have k4: -A*b= -(A*b):=Int.neg_mul A b
 constructor<;>omega
theorem On {a b:Qn} (ha:oT a=true) (hb:oT b=true):IntKind.i64.wrap (a.n*b.d)=a.n*b.d:=by
 obtain⟨a1,a2,a3,a4,_⟩:=gq ha
 obtain⟨b1,b2,b3,b4,_⟩:=gq hb
 obtain⟨h1,h2⟩:=Rp a3 a4 (show 0≤b.d by omega) b2 (by omega)
 exact bJ (by omega) (by omega)
def L6 (i f:Int):Bool:=aj 0 i&&(aj i 30&&(aj 0 f&&(aj f 30&&aj (IntKind.i64.wrap (i+f)) 30)))
def L7 (i f:Int):Bool:=aj 1 i&&(aj i 24&&(aj 0 f&&(aj f 20&&aj (IntKind.i64.wrap (i+f)) 30)))
def L8:List UInt8:=[102,105,120]
def vW:List UInt8:=[102,108,111,97,116]
def Oo:List UInt8:=[115,97,116]
def L9:List UInt8:=[119,114,97,112]
def GM:List UInt8:=[110,111,110,101]
def EU:List UInt8:=[102,108,111,111,114]
def Ma:List UInt8:=[110,101,97,114]
def Mb:List UInt8:=[122,101,114,111]
def I5 (fk:ByteArray) (i f:Int) (fr fo:ByteArray):Bool:=
 (fr.data.toList==EU|| (fr.data.toList==Ma|| fr.data.toList==Mb))&&
 bif fk.data.toList==L8 then(fo.data.toList==Oo|| (fo.data.toList==L9|| fo.data.toList==GM))&&L6 i f
 else(fo.data.toList==Oo|| fo.data.toList==GM)&&(fk.data.toList==vW&&L7 i f)
abbrev pP (fk:ByteArray) (i f:Int) (fr fo:ByteArray):PV:= .agg [.str fk,iv i,iv f, .str fr, .str fo]
theorem Xo (fk:ByteArray) (i f:Int) (fr fo:ByteArray):(pP fk i f fr fo).cell 0= .str fk:=rfl
theorem Xp (fk:ByteArray) (i f:Int) (fr fo:ByteArray):(pP fk i f fr fo).cell 1=iv i:=rfl
theorem Xq (fk:ByteArray) (i f:Int) (fr fo:ByteArray):(pP fk i f fr fo).cell 2=iv f:=rfl
theorem Xr (fk:ByteArray) (i f:Int) (fr fo:ByteArray):(pP fk i f fr fo).cell 3= .str fr:=rfl
theorem Xs (fk:ByteArray) (i f:Int) (fr fo:ByteArray):(pP fk i f fr fo).cell 4= .str fo:=rfl
section
variable {call:aw} {k:Nat} {v0 v1 v2 v3 v4 v5:PV} {i f:Int} {fk fr fo:ByteArray} {b:Bool}
theorem TV:xU call k v0 (iv i) (iv f) v3 v4 (.bool b)=rB (b&&L6 i f):=by
 rw[Lc];simp only[TT,ab,aa,Ty.eq];unfold L6
 cases b<;>cases aj 0 i<;>cases aj i 30<;>cases aj 0 f<;>cases aj f 30<;>rfl
theorem TW:BG call k (.str fk) (iv i) (iv f) v3 v4 (.bool b)=rB (b&&(fk.data.toList==vW&&L7 i f)):=by
 rw[Ld];simp only[TT,ab,aa,Ty.eq];unfold L7 vW
 cases (fk.data.toList==[102,108,111,97,116])<;>cases b<;>cases aj 1 i<;>cases aj i 24<;>cases aj 0 f<;>cases aj f 20<;>rfl
theorem Oq:ph call k (.str fk) (iv i) (iv f) v3 v4=rB (bif fk.data.toList==L8 then L6 i f else(fk.data.toList==vW&&L7 i f)):=by
 rw[D9];simp only[TT,ab,aa,Ty.eq];unfold L6 L7 vW L8
 cases (fk.data.toList==[102,105,120])
 ·cases (fk.data.toList==[102,108,111,97,116])<;>cases aj 1 i<;>cases aj i 24<;>cases aj 0 f<;>cases aj f 20<;>rfl
 ·cases aj 0 i<;>cases aj i 30<;>cases aj 0 f<;>cases aj f 30<;>rfl
end
section
variable {E:Nat→aw} {k:Nat}
theorem f85 (hE:mo E) (hk:KK+3≤k) (q:Qn):E k 85 [aQ q]=rB (eB q):=by
 obtain⟨j,hj,e⟩:=hE.at hk 85 [aQ q] rfl rfl
 rw[e,R85]
 simp only[TT,ab,aa,Ty.eq,I4,f78 hE hj]
 unfold eB
 cases oT q<;>cases ak q.n 0<;>rfl
theorem f101 (hE:mo E) (hk:KK+3≤k) (q:Qn) (ho:pj q.n):E k 101 [aQ q]=rB (eB q):=by
 obtain⟨j,hj,e⟩:=hE.at hk 101 [aQ q] rfl rfl
 rw[e,WZ]
 simp only[TT,ab,aa,Ty.eq,I4,f105 hE hj q ho]
 unfold eB
 cases oT q<;>cases ak q.n 0<;>cases ak q.d 0<;>rfl
theorem f94 (hE:mo E) (hk:KK+3≤k) (a b:Qn) (ha:oT a=true) (hb:oT b=true):E k 94 [aQ a,aQ b]=rI (sF a b):=by
 obtain⟨j,hj,e⟩:=hE.at hk 94 [aQ a,aQ b] rfl rfl
 rw[e,R94]
 simp only[TT,ab,aa,Ty.eq,Lg,I4,f78 hE hj,ha,hb,On ha hb,On hb ha]
 unfold sF
 cases au (a.n*b.d) (b.n*a.d)<;>cases au (b.n*a.d) (a.n*b.d)<;>rfl
theorem f110 (hE:mo E) (hk:KK+1≤k) (a b:Bool):E k 110 [aB a,aB b]=rI (bif a then-1 else bif b then 1 else 0):=by
 obtain⟨j,hj,e⟩:=hE.at hk 110 [aB a,aB b] rfl rfl
 rw[e,W9]
 cases a<;>cases b<;>rfl
theorem f106 (hE:mo E) (hk:KK+3≤k) (a b:Qn) (ha:oT a=true) (hb:oT b=true) (oa:pj a.n) (ob:pj b.n):E k 106 [aQ a,aQ b]=rI (sF a b):=by
 obtain⟨j,hj,e⟩:=hE.at hk 106 [aQ a,aQ b] rfl rfl
 rw[e,W3]
 simp only[TT,ab,aa,Ty.eq,HX,I4,f105 hE hj _ oa,f105 hE hj _ ob,ha,hb,On ha hb,On hb ha,f110 hE (show KK+1≤j by omega)]
 rfl
theorem f84 (hE:mo E) (hk:KK+1≤k) (fk:ByteArray) (i f:Int) (fr fo:ByteArray):E k 84 [.pv (.st 52) (pP fk i f fr fo)]=rB (I5 fk i f fr fo):=by
 obtain⟨j,hj,e⟩:=hE.at hk 84 [.pv (.st 52) (pP fk i f fr fo)] rfl rfl
 rw[e,R84]
 simp only[TT,ab,aa,Ty.eq,Xo,Xp,Xq,Xr,Xs,Le,TV,TW]
 unfold I5 L8 EU Ma Mb Oo L9 GM
 cases (fk.data.toList==[102,105,120])<;>cases (fr.data.toList==[102,108,111,111,114])<;>cases (fr.data.toList==[110,101,97,114])<;>cases (fr.data.toList==[122,101,114,111])<;>first | rfl | (cases (fo.data.toList==[115,97,116])<;>cases (fo.data.toList==[119,114,97,112])<;>rfl)
theorem f102 (hE:mo E) (hk:KK+1≤k) (fk:ByteArray) (i f:Int) (fr fo:ByteArray):E k 102 [.pv (.st 52) (pP fk i f fr fo)]=rB (I5 fk i f fr fo):=by
 obtain⟨j,hj,e⟩:=hE.at hk 102 [.pv (.st 52) (pP fk i f fr fo)] rfl rfl
 rw[e,W0]
 simp only[TT,ab,aa,Ty.eq,Xo,Xp,Xq,Xr,Xs,HW,Oq]
 unfold I5 L8 EU Ma Mb Oo L9 GM
 cases (fk.data.toList==[102,105,120])<;>cases (fr.data.toList==[102,108,111,111,114])<;>cases (fr.data.toList==[110,101,97,114])<;>cases (fr.data.toList==[122,101,114,111])<;>first | rfl | (cases (fo.data.toList==[115,97,116])<;>cases (fo.data.toList==[119,114,97,112])<;>cases (fo.data.toList==[110,111,110,101])<;>rfl)
end
end Go.V
namespace Go.V
def TX (c:Int):Bool:=(aj 97 c&&aj c 122)|| ((aj 65 c&&aj c 90)|| ((aj 48 c&&aj c 57)|| (ak c 95|| (ak c 45|| ak c 47))))
def pQ (s:ByteArray):Bool:=s.data.toList.all (fun b=>TX b.toNat)&&(aj 1 s.size&&aj s.size 40)
theorem vX (s:ByteArray):s.size=s.data.toList.length:=by show s.data.size=_;simp
section
variable {call:aw} {k:Nat} {v0 v1 v2 v3 v4 v5:PV} {s:ByteArray} {c:Int} {b:Bool}
theorem PG (hs:s.size<bf):∀(n j:Nat),s.size-j<n→Gi call k n (.str s) (iv j)=rB ((s.data.toList.drop j).all (fun b=>TX b.toNat)&&(aj 1 s.size&&aj s.size 40))
 | 0,j,h=>by omega
 | n+1,j,h=>by
  have AG:=hs
  unfold bf at AG
  rw[Ea]
  by_cases hj:j<s.size
  ·have Hd:j<s.data.toList.length:=by rw[←vX];exact hj
   have hn:nth 0 s.data.toList j=s.data.toList[j]:=GL _ _ _ Hd
   rw[bb Hd,List.all_cons]
   simp only[TT,ab,aa,Ty.eq,hj,hn,Lh,Li,aq (show j<4611686018427387904 by omega),PG hs n (j+1) (by omega)]
   generalize ((s.data.toList[j]).toNat:Int)=c
   unfold TX
   cases aj 97 c<;>cases aj c 122<;>first | rfl | skip
   all_goals (cases aj 65 c<;>cases aj c 90<;>first | rfl | skip)
   all_goals (cases aj 48 c<;>cases aj c 57<;>first | rfl | skip)
   all_goals (cases ak c 95<;>cases ak c 45<;>cases ak c 47<;>rfl)
  ·have Hd:s.data.toList.length≤j:=by rw[←vX];omega
   rw[aT Hd]
   simp only[TT,ab,aa,Ty.eq,hj,List.all_nil]
   cases aj 1 (s.size:Int)<;>rfl
theorem Mc (hs:s.size<bf) {l:List UInt8} (hl:l=s.data.toList):∀(n j:Nat),s.size-j<n→zn call k n (.str s) (.sl (l.map fun b=>PV.int .u8 b.toNat)) (iv l.length) (iv j)=rB ((l.drop j).all (fun b=>TX b.toNat)&&(aj 1 s.size&&aj s.size 40))
 | 0,j,h=>by omega
 | n+1,j,h=>by
  have AG:=hs
  unfold bf at AG
  have hz:s.size=l.length:=by rw[hl];exact vX s
  rw[BN]
  by_cases hj:j<l.length
  ·have hn:nth default (l.map fun b=>PV.int .u8 b.toNat) j=PV.int .u8 l[j].toNat:=aK _ _ _ _ hj
   rw[bb hj,List.all_cons]
   simp only[TT,ab,aa,Ty.eq,hj,hn,Ee,H9,Ia,Ib,aq (show j<4611686018427387904 by omega),Mc hs hl n (j+1) (by omega)]
   generalize ((l[j]).toNat:Int)=c
   unfold TX
   cases aj 97 c<;>cases aj c 122<;>first | rfl | skip
   all_goals (cases aj 65 c<;>cases aj c 90<;>first | rfl | skip)
   all_goals (cases aj 48 c<;>cases aj c 57<;>first | rfl | skip)
   all_goals (cases ak c 95<;>cases ak c 45<;>cases ak c 47<;>rfl)
  ·rw[aT (by omega)]
   simp only[TT,ab,aa,Ty.eq,hj,List.all_nil,Ro]
   by_cases h0:s.size=0
   ·rw[ml (show(s.size:Int)<1 by omega)];simp[h0]
   ·rw[b7 (show(1:Int)≤s.size by omega)];simp[h0]
end
def iZ (a b:Nat):Nat:=a / Nat.gcd a b*b
def Md (den:Nat) (q:Qn):Bool:= !au (1073741824*q.d) (den* (q.n.natAbs:Nat))
def Cr (b c d:Qn):Bool:=aj (iZ b.d.toNat d.d.toNat:Nat) 1073741824&&(Md (iZ b.d.toNat d.d.toNat) b&&Md (iZ b.d.toNat d.d.toNat) c)
def cS (l:List Qn):Bool:=
 l.all oT&&match l with
 | [a,b,c,d]=>(!au 0 (sF b a)&&(!au 0 (sF a c)&& !au d.n 0))&&(ak d.n 0|| Cr b c d)
 | _=>false
theorem GN (a b:Nat):(a:Int).tdiv (b:Int)=((a / b:Nat):Int):=rfl
section
variable {call:aw} {k:Nat} {v0 v1 v2 v3 v4 v5:PV}
theorem PH {a b:Nat} (ha:1≤a) (O1:a≤1073741824) (hb:1≤b) (rN:b≤1073741824):∀(n x y:Nat),y<n→Nat.gcd x y=Nat.gcd a b→Gh call k n (iv a) (iv b) (iv x) (iv y)=rI (if 1073741824<iZ a b then 0 else iZ a b:Nat)
 | 0,x,y,h,_=>by omega
 | n+1,x,y,h,hg=>by
  rw[D8]
  simp only[TT,ab,aa,Ty.eq]
  by_cases hy:y=0
  ·subst hy
   rw[Nat.gcd_zero_right]at hg
   have Dy:1≤x:=by rw[hg];exact Nat.gcd_pos_of_pos_left _ ha
   have h1:a / x≤a:=Nat.div_le_self _ _
   have h2:1073741824 / b≤1073741824:=Nat.div_le_self _ _
   have h4:a / x*b≤1073741824*1073741824:=Nat.mul_le_mul (by omega) rN
   rw[lk (show((0:Nat):Int)=0 from rfl),eE (show(x:Int)≠0 by omega),eE (show(b:Int)≠0 by omega),GN a x,show Int.tdiv 1073741824 (b:Int)=((1073741824 / b:Nat):Int)from rfl]
   have h5:1073741824 / b<a / x↔1073741824<a / x*b:=Nat.div_lt_iff_lt_mul (show 0<b by omega)
   unfold iZ
   rw[←hg]
   generalize a / x=u at*
   generalize 1073741824 / b=w at*
   rw[bJ (n:=(w:Int)) (by omega) (by omega),bJ (n:=(u:Int)) (by omega) (by omega),ER, ←Int.natCast_mul,bJ (n:=((u*b:Nat):Int)) (by omega) (by omega)]
   by_cases hd:1073741824<u*b
   ·simp[hd,h5.2 hd]
   ·simp[hd,mt h5.1 hd]
  ·rw[eE (show(y:Int)≠0 by omega),show(x:Int).tmod (y:Int)=((x % y:Nat):Int)from rfl]
   simp only[Bool.not_false,cond_true,cond_false]
   exact PH ha O1 hb rN n y (x % y) (by have:=Nat.mod_lt x (Nat.pos_of_ne_zero hy);omega) (by rw[←hg,Nat.gcd_comm x y,Nat.gcd_rec y x,Nat.gcd_comm])
theorem Me {den:Nat} {l:List Qn} (hl:l.length≤4) (hq:∀q∈l,oT q=true) (hd:den≤1073741824):∀(n j:Nat),l.length-j<n→zd call k n (iv den) (l.map Qn.pv) (iv l.length) (iv j)=rB ((l.drop j).all (Md den))
 | 0,j,h=>by omega
 | n+1,j,h=>by
  rw[BJ]
  by_cases hj:j<l.length
  ·have hn:nth default (l.map Qn.pv) j=l[j].pv:=aK _ _ _ _ hj
   obtain⟨q1,q2,q3,q4,_⟩:=gq (hq _ (bz hj))
   rw[bb hj,List.all_cons]
   simp only[TT,ab,aa,Ty.eq,hj,hn,HV,aq (show j<4611686018427387904 by omega),Me hl hq hd n (j+1) (by omega)]
   have hm:den* (l[j]).n.natAbs≤1073741824*1073741824:=Nat.mul_le_mul hd (by omega)
   have NA:((den* (l[j]).n.natAbs:Nat):Int)=(den:Int)* ((l[j]).n.natAbs:Int):=Int.natCast_mul _ _
   have hw:IntKind.i64.wrap ((den:Int)* ((l[j]).n.natAbs:Int))=(den:Int)* ((l[j]).n.natAbs:Int):=by rw[←NA];exact bJ (by omega) (by omega)
   rw[bJ (n:=1073741824* (l[j]).d) (by omega) (by omega)]
   unfold Md
   by_cases Rq:(l[j]).n<0
   ·rw[dF Rq,cond_true,bJ (n:=0- (l[j]).n) (by omega) (by omega),show 0- (l[j]).n=((l[j]).n.natAbs:Int)by omega,hw]
    cases au (1073741824*l[j].d) (den* (l[j].n.natAbs:Int))<;>rfl
   ·rw[eg (by omega),cond_false]
    rw[show den* (l[j]).n=den* ((l[j]).n.natAbs:Int)by rw[show((l[j]).n.natAbs:Int)=(l[j]).n by omega],hw]
    cases au (1073741824*l[j].d) (den* (l[j].n.natAbs:Int))<;>rfl
  ·rw[aT (by omega)]
   simp only[TT,ab,aa,Ty.eq,hj];rfl
end
section
variable {E:Nat→aw} {k:Nat}
theorem f83 (hE:mo E) (hk:KK+1≤k) (s:ByteArray) (hs:s.size<bf):E k 83 [aS s]=rB (pQ s):=by
 obtain⟨j,hj,e⟩:=hE.at hk 83 [aS s] rfl rfl
 rw[e,R83]
 exact PG hs j 0 (by have:=j9 hs hj;omega)
theorem f104 (hE:mo E) (hk:KK+1≤k) (s:ByteArray) (hs:s.size<bf):E k 104 [aS s]=rB (pQ s):=by
 obtain⟨j,hj,e⟩:=hE.at hk 104 [aS s] rfl rfl
 rw[e,Xb]
 simp only[List.length_map]
 exact Mc hs rfl j 0 (by have:=j9 hs hj;omega)
theorem f95 (hE:mo E) (hk:KK+1≤k) (a b:Nat) (ha:1≤a) (O1:a≤1073741824) (hb:1≤b) (rN:b≤1073741824):E k 95 [aI a,aI b]=rI (if 1073741824<iZ a b then 0 else iZ a b:Nat):=by
 obtain⟨j,hj,e⟩:=hE.at hk 95 [aI a,aI b] rfl rfl
 rw[e,R95]
 exact PH ha O1 hb rN j a b (by have:=bN;omega) rfl
end
end Go.V
namespace Go.V
theorem Ot {den g:Nat} {q:Qn} (hq:oT q=true) (hg:g=Nat.gcd den q.d.toNat) (hd:1≤den):
  (au (1073741824* ((q.d.toNat / g:Nat):Int)) (((q.n.natAbs:Nat):Int)* ((den / g:Nat):Int)))= !Md den q:=by
 obtain⟨q1,q2,q3,q4,_⟩:=gq hq
 have Dy:0<g:=by rw[hg];exact Nat.gcd_pos_of_pos_left _ hd
 have h1:g ∣ den:=by rw[hg];exact Nat.gcd_dvd_left _ _
 have h2:g ∣ q.d.toNat:=by rw[hg];exact Nat.gcd_dvd_right _ _
 obtain⟨a,ha⟩:=h1
 obtain⟨b,hb⟩:=h2
 unfold Md
 rw[Bool.not_not,ha,hb,Nat.mul_div_cancel_left _ Dy,Nat.mul_div_cancel_left _ Dy]
 have AI:q.d=((g*b:Nat):Int):=by omega
 rw[AI,show(1073741824:Int)* ((b:Nat):Int)=((1073741824*b:Nat):Int)by simp,show((q.n.natAbs:Nat):Int)* (a:Int)=((q.n.natAbs*a:Nat):Int)by simp,
  show(1073741824:Int)* ((g*b:Nat):Int)=((1073741824* (g*b):Nat):Int)by simp,show((g*a:Nat):Int)* ((q.n.natAbs:Nat):Int)=(((g*a)*q.n.natAbs:Nat):Int)by simp,ER,ER]
 rw[decide_eq_decide]
 have e1:1073741824* (g*b)=g* (1073741824*b):=by rw[Nat.mul_left_comm]
 have e2:g*a*q.n.natAbs=g* (q.n.natAbs*a):=by rw[Nat.mul_assoc,Nat.mul_comm a]
 rw[e1,e2]
 exact(Nat.mul_lt_mul_left Dy).symm
section
variable {E:Nat→aw} {k k':Nat} {v0 v1 v2 v3 v4 v5:PV}
theorem PI (hE:mo E) (hk:KK+3≤k) {l:List Qn} (hl:l.length<bf):∀(n j:Nat),l.length-j<n→(∀q∈l.take j,oT q=true)→Ge (E k) k n (.sl (l.map Qn.pv)) (iv j)=rB (cS l)
 | 0,j,h,_=>by omega
 | n+1,j,h,ht=>by
  have jR:=hl
  unfold bf at jR
  rw[D6]
  by_cases hj:j<l.length
  ·have hn:nth default (l.map Qn.pv) j=l[j].pv:=aK _ _ _ _ hj
   simp only[TT,ab,aa,Ty.eq,hj,hn,f78 hE (show KK+2≤k by omega)]
   cases hq:oT l[j]
   ·have:cS l=false:=by
     unfold cS
     have:l.all oT=false:=by
      rw[List.all_eq_false]
      exact⟨_,bz hj,by simp[hq]⟩
     rw[this];rfl
    rw[this];rfl
   ·simp only[Bool.not_true,cond_false,aq (show j<4611686018427387904 by omega)]
    refine PI hE hk hl n (j+1) (by omega) (fun q hm=> ?_)
    rw[List.take_add_one,List.mem_append]at hm
    rcases hm with hm | hm
    ·exact ht q hm
    ·rw[List.getElem?_eq_getElem hj]at hm
     simp at hm
     rw[hm];exact hq
  ·rw[List.take_of_length_le (by omega)]at ht
   have cE:l.all oT=true:=List.all_eq_true.2 ht
   by_cases h4:l.length=4
   ·match l,h4 with
    | [a,b,c,d],_=>
    have ha:=ht a (by simp)
    have hb:=ht b (by simp)
    have hc:=ht c (by simp)
    have hd:=ht d (by simp)
    obtain⟨b1,b2,_,_,_⟩:=gq hb
    obtain⟨d1,d2,_,_,_⟩:=gq hd
    have Zl:=f95 hE (show KK+1≤k by omega) b.d.toNat d.d.toNat (by omega) (by omega) (by omega) (by omega)
    rw[show((b.d.toNat:Nat):Int)=b.d by omega,show((d.d.toNat:Nat):Int)=d.d by omega]at Zl
    have wS:1≤iZ b.d.toNat d.d.toNat:=by
     unfold iZ
     refine Nat.mul_pos (Nat.div_pos (Nat.le_of_dvd (by omega) (Nat.gcd_dvd_left _ _)) (Nat.gcd_pos_of_pos_left _ (by omega))) (by omega)
    have kK:cS [a,b,c,d]=((!au 0 (sF b a)&&(!au 0 (sF a c)&& !au d.n 0))&&(ak d.n 0|| Cr b c d)):=by
     unfold cS;rw[cE];rfl
    have TY:=fun h=>Me (call:=E k) (k:=k) (den:=iZ b.d.toNat d.d.toNat) (l:=[b,c]) (by simp) (by simp[hb,hc]) h k 0 (by have:=bN;simp;omega)
    rw[kK]
    unfold Cr
    have Hd:au (j:Int) ((4:Nat):Int)=false:=eg (by simp at hj;omega)
    simp only[TT,ab,aa,Ty.eq,Hd,List.map_cons,List.map_nil,List.length_cons,List.length_nil,nth,f94 hE hk _ _ hb ha,f94 hE hk _ _ ha hc,Zl,BI]
    cases h1:au 0 (sF b a)
    ·cases h2:au 0 (sF a c)
     ·cases h3:au d.n 0
      ·cases h4:ak d.n 0
       ·by_cases Rr:1073741824<iZ b.d.toNat d.d.toNat
        ·simp only[if_pos Rr]
         rw[ml (show(1073741824:Int)<(iZ b.d.toNat d.d.toNat:Nat)by omega)]
         rfl
        ·simp only[if_neg Rr]
         rw[eE (show((iZ b.d.toNat d.d.toNat:Nat):Int)≠0 by omega),b7 (show((iZ b.d.toNat d.d.toNat:Nat):Int)≤1073741824 by omega)]
         refine(TY (by omega)).trans ?_
         simp only[List.drop_zero,List.all_cons,List.all_nil,Bool.and_true]
         rfl
       ·rfl
      ·rfl
     ·rfl
    ·rfl
   ·have:cS l=false:=by
     unfold cS
     rw[cE]
     match l,h4 with
     | [],_=>rfl
     | [a],_=>rfl
     | [a,b],_=>rfl
     | [a,b,c],_=>rfl
     | [a,b,c,d],h=>simp at h
     | a::b::c::d::e::r,_=>rfl
    simp only[TT,hj]
    rw[eE (show(l.length:Int)≠4 by omega),this]
    simp only[Bool.not_false,cond_true,BI]
theorem f86 (hE:mo E) (hk:KK+4≤k) {l:List Qn} (hl:l.length<bf):E k 86 [.pv (.sl 128) (.sl (l.map Qn.pv))]=rB (cS l):=by
 obtain⟨j,hj,e⟩:=hE.at hk 86 [.pv (.sl 128) (.sl (l.map Qn.pv))] rfl rfl
 rw[e,R86]
 exact PI hE hj hl j 0 (by have:=j9 hl hj;omega) (by simp)
end
section
variable {E:Nat→aw} {k k':Nat} {v0 v1 v2 v3 v4 v5:PV}
theorem GO (hE:mo E) (hk:KK+3≤k) {den:Nat} {l:List Qn} (hl:l.length≤4) (hq:∀q∈l,oT q=true) (hd:den≤1073741824) (TZ:1≤den):∀(n j:Nat),l.length-j<n→uh (E k) k' n (iv den) (l.map Qn.pv) (iv l.length) (iv j)=rB ((l.drop j).all (Md den))
 | 0,j,h=>by omega
 | n+1,j,h=>by
  rw[zj]
  by_cases hj:j<l.length
  ·have hn:nth default (l.map Qn.pv) j=l[j].pv:=aK _ _ _ _ hj
   have Zm:=hq _ (bz hj)
   obtain⟨q1,q2,q3,q4,_⟩:=gq Zm
   have Mf:=f107 hE (show KK+1≤k by omega) den (l[j]).d.toNat (by omega)
   rw[show(((l[j]).d.toNat:Nat):Int)=(l[j]).d by omega]at Mf
   rw[bb hj,List.all_cons]
   have key:=Ot Zm (g:=Nat.gcd den (l[j]).d.toNat) rfl TZ
   have Dy:0<Nat.gcd den (l[j]).d.toNat:=Nat.gcd_pos_of_pos_left _ TZ
   have e1:(l[j]).d.tdiv (Nat.gcd den (l[j]).d.toNat:Nat)=(((l[j]).d.toNat / Nat.gcd den (l[j]).d.toNat:Nat):Int):=by
    rw[←GN,show(((l[j]).d.toNat:Nat):Int)=(l[j]).d by omega]
   have h1:(l[j]).d.toNat / Nat.gcd den (l[j]).d.toNat≤(l[j]).d.toNat:=Nat.div_le_self _ _
   have h2:den / Nat.gcd den (l[j]).d.toNat≤den:=Nat.div_le_self _ _
   have hm:(l[j]).n.natAbs* (den / Nat.gcd den (l[j]).d.toNat)≤1073741824*1073741824:=Nat.mul_le_mul (by omega) (by omega)
   simp only[TT,ab,aa,Ty.eq,hj,hn,Ed,Mf,GN,e1,aq (show j<4611686018427387904 by omega),GO hE hk hl hq hd TZ n (j+1) (by omega)]
   generalize Nat.gcd den (l[j]).d.toNat=g at*
   generalize den / g=u at*
   generalize (l[j]).d.toNat / g=w at*
   have NA:(((l[j]).n.natAbs*u:Nat):Int)=((l[j]).n.natAbs:Int)* (u:Int):=Int.natCast_mul _ _
   have hw:IntKind.i64.wrap (((l[j]).n.natAbs:Int)* (u:Int))=((l[j]).n.natAbs:Int)* (u:Int):=by rw[←NA];exact bJ (by omega) (by omega)
   rw[bJ (n:=(w:Int)) (by omega) (by omega),bJ (n:=(u:Int)) (by omega) (by omega),bJ (n:=1073741824* (w:Int)) (by omega) (by omega),eE (show(g:Int)≠0 by omega)]
   by_cases Rq:(l[j]).n<0
   ·rw[dF Rq,cond_true,bJ (n:=0- (l[j]).n) (by omega) (by omega),show 0- (l[j]).n=((l[j]).n.natAbs:Int)by omega,hw,key]
    cases Md den l[j]<;>rfl
   ·rw[eg (by omega),cond_false]
    rw[show(l[j]).n* (u:Int)=((l[j]).n.natAbs:Int)* (u:Int)by rw[show((l[j]).n.natAbs:Int)=(l[j]).n by omega],hw,key]
    cases Md den l[j]<;>rfl
  ·rw[aT (by omega)]
   simp only[TT,ab,aa,Ty.eq,hj];rfl
theorem Mg (hE:mo E) (hk:KK+3≤k) {a b c d:Qn} (ho:∀q∈[a,b,c,d],pj q.n):∀(n j:Nat),4-j<n→(∀q∈[a,b,c,d].take j,oT q=true)→zi (E k) k n (.sl ([a,b,c,d].map Qn.pv)) (.sl ([a,b,c,d].map Qn.pv)) (iv 4) (iv j)=rB (cS [a,b,c,d])
 | 0,j,h,_=>by omega
 | n+1,j,h,ht=>by
  rw[BM]
  by_cases hj:j<4
  ·have wM:j<[a,b,c,d].length:=hj
   have hn:nth default ([a,b,c,d].map Qn.pv) j=[a,b,c,d][j].pv:=aK _ _ _ _ wM
   simp only[tL,List.length_map]
   rw[tI,tI,dF (show(j:Int)<4 by omega),show([a,b,c,d].length:Int)=4 from rfl,dF (show(j:Int)<4 by omega)]
   simp only[TT,ab,aa,Ty.eq,hn,I4,f105 hE (show KK+2≤k by omega) _ (ho _ (bz wM))]
   cases hq:oT [a,b,c,d][j]
   ·have:cS [a,b,c,d]=false:=by
     unfold cS
     have:[a,b,c,d].all oT=false:=by
      rw[List.all_eq_false]
      exact⟨_,bz wM,by simp[hq]⟩
     rw[this];rfl
    rw[this];rfl
   ·simp only[Bool.not_true,cond_false,aq (show j<4611686018427387904 by omega)]
    refine Mg hE hk ho n (j+1) (by omega) (fun q hm=> ?_)
    rw[List.take_add_one,List.mem_append]at hm
    rcases hm with hm | hm
    ·exact ht q hm
    ·rw[List.getElem?_eq_getElem wM]at hm
     simp at hm
     rw[hm];exact hq
  ·rw[List.take_of_length_le (by simp;omega)]at ht
   have cE:[a,b,c,d].all oT=true:=List.all_eq_true.2 ht
   have ha:=ht a (by simp)
   have hb:=ht b (by simp)
   have hc:=ht c (by simp)
   have hd:=ht d (by simp)
   obtain⟨b1,b2,_,_,_⟩:=gq hb
   obtain⟨d1,d2,_,_,_⟩:=gq hd
   have Mf:=f107 hE (show KK+1≤k by omega) b.d.toNat d.d.toNat (by omega)
   rw[show((b.d.toNat:Nat):Int)=b.d by omega,show((d.d.toNat:Nat):Int)=d.d by omega]at Mf
   have Dy:0<Nat.gcd b.d.toNat d.d.toNat:=Nat.gcd_pos_of_pos_left _ (by omega)
   have wS:1≤iZ b.d.toNat d.d.toNat:=by
    unfold iZ
    refine Nat.mul_pos (Nat.div_pos (Nat.le_of_dvd (by omega) (Nat.gcd_dvd_left _ _)) (Nat.gcd_pos_of_pos_left _ (by omega))) (by omega)
   have h1:b.d.toNat / Nat.gcd b.d.toNat d.d.toNat≤b.d.toNat:=Nat.div_le_self _ _
   have e0:b.d.tdiv (Nat.gcd b.d.toNat d.d.toNat:Nat)=((b.d.toNat / Nat.gcd b.d.toNat d.d.toNat:Nat):Int):=by
    rw[←GN,show((b.d.toNat:Nat):Int)=b.d by omega]
   have h4:b.d.toNat / Nat.gcd b.d.toNat d.d.toNat*d.d.toNat≤1073741824*1073741824:=Nat.mul_le_mul (by omega) (by omega)
   have e1:IntKind.i64.wrap (IntKind.i64.wrap (b.d.tdiv (Nat.gcd b.d.toNat d.d.toNat:Nat))*d.d)=(iZ b.d.toNat d.d.toNat:Nat):=by
    have e2:((b.d.toNat / Nat.gcd b.d.toNat d.d.toNat:Nat):Int)*d.d=(iZ b.d.toNat d.d.toNat:Nat):=by
     unfold iZ
     rw[Int.natCast_mul,show((d.d.toNat:Nat):Int)=d.d by omega]
    have w0:IntKind.i64.wrap ((b.d.toNat / Nat.gcd b.d.toNat d.d.toNat:Nat):Int)=((b.d.toNat / Nat.gcd b.d.toNat d.d.toNat:Nat):Int):=by
     generalize b.d.toNat / Nat.gcd b.d.toNat d.d.toNat=u at*
     exact bJ (by omega) (by omega)
    rw[e0,w0,e2]
    unfold iZ
    exact bJ (by omega) (by omega)
   have kK:cS [a,b,c,d]=((!au 0 (sF b a)&&(!au 0 (sF a c)&& !au d.n 0))&&(ak d.n 0|| Cr b c d)):=by
    unfold cS;rw[cE];rfl
   have one:oT ⟨1,1⟩=true:=by decide
   have TY:=fun h=>GO hE hk (k':=k) (den:=iZ b.d.toNat d.d.toNat) (l:=[⟨1,1⟩,b,c]) (by simp) (by simp[hb,hc,one]) h wS k 0 (by have:=bN;simp;omega)
   rw[kK]
   unfold Cr
   have Hd:au (j:Int) 4=false:=eg (by omega)
   have oa:=ho a (by simp)
   have ob:=ho b (by simp)
   have oc:=ho c (by simp)
   simp only[TT,ab,aa,Ty.eq,Hd,List.map_cons,List.map_nil,List.length_cons,List.length_nil,nth,f106 hE hk _ _ hb ha ob oa,f106 hE hk _ _ ha hc oa oc,Mf,e1,Ec]
   cases h1:au 0 (sF b a)
   ·cases h2:au 0 (sF a c)
    ·cases h3:au d.n 0
     ·cases h4:ak d.n 0
      ·rw[eE (show((Nat.gcd b.d.toNat d.d.toNat:Nat):Int)≠0 by omega)]
       by_cases Rr:1073741824<iZ b.d.toNat d.d.toNat
       ·rw[dF (show(1073741824:Int)<(iZ b.d.toNat d.d.toNat:Nat)by omega),ml (show(1073741824:Int)<(iZ b.d.toNat d.d.toNat:Nat)by omega)]
        rfl
       ·rw[eg (show((iZ b.d.toNat d.d.toNat:Nat):Int)≤1073741824 by omega),b7 (show((iZ b.d.toNat d.d.toNat:Nat):Int)≤1073741824 by omega)]
        refine(TY (by omega)).trans ?_
        have:Md (iZ b.d.toNat d.d.toNat) ⟨1,1⟩=true:=by
         unfold Md
         rw[Bool.not_eq_true']
         refine eg ?_
         show((iZ b.d.toNat d.d.toNat:Nat):Int)* ((1:Nat):Int)≤1073741824*1
         omega
        simp only[List.drop_zero,List.all_cons,List.all_nil,Bool.and_true,this]
        rfl
      ·rfl
     ·rfl
    ·rfl
   ·rfl
theorem f103 (hE:mo E) (hk:KK+4≤k) {l:List Qn} (hl:l.length<bf) (ho:∀q∈l,pj q.n):E k 103 [.pv (.sl 128) (.sl (l.map Qn.pv))]=rB (cS l):=by
 obtain⟨j,hj,e⟩:=hE.at hk 103 [.pv (.sl 128) (.sl (l.map Qn.pv))] rfl rfl
 rw[e,Xa]
 simp only[tL,List.length_map]
 by_cases h4:l.length=4
 ·match l,h4 with
  | [a,b,c,d],_=>
   exact Mg hE hj ho j 0 (by have:=bN;omega) (by simp)
 ·have:cS l=false:=by
   unfold cS
   match l,h4 with
   | [],_=>rfl
   | [a],_=>simp
   | [a,b],_=>simp
   | [a,b,c],_=>simp
   | [a,b,c,d],h=>simp at h
   | a::b::c::d::e::r,_=>simp
  rw[eE (show(l.length:Int)≠4 by omega),this];rfl
end
end Go.V
