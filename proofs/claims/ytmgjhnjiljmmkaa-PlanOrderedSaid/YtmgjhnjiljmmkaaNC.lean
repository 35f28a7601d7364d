/- What is formed in the reference: r10.Valid, told. Conditions: those that each theorem names. (Names are short so that the claim keeps to its size.) -/
import Derived.Test.YtmgjhnjiljmmkaaNB
set_option linter.unusedSimpArgs false
set_option linter.unusedVariables false
set_option maxRecDepth 100000
namespace Go.V
open Go.Proofs
structure ka where
 knobs:List Node
 bx:List ByteArray
inductive jU:Net→Prop where
 | mk (i:Int) (ns:List Node) (os:List Int) (h1:∀x∈ns,x.1.args.length≤1000∧x.1.ao.length≤1000) (h2:∀x∈ns,∀m∈x.2,jU m):jU (.mk i ns os)
theorem jU.nd {n:Net} (h:jU n):∀x∈n.nodes,x.1.args.length≤1000∧x.1.ao.length≤1000:=by cases h;assumption
theorem jU.sub {n:Net} (h:jU n):∀x∈n.nodes,∀m∈x.2,jU m:=by cases h;assumption
abbrev sv (l:List ByteArray):List PV:=l.map PV.str
abbrev E1 (ks ss:List PV):AO:= .box 94 [.arr 55 ks, .arr 9 ss]
abbrev Ry (p:ka):AO:=E1 (p.knobs.map af) (sv p.bx)
def RF (r:R) (o:Option ka):Prop:=match o with
 | some p=>r=some ([aB true],[Ry p])
 | none=>∃ks ss,r=some ([aB false],[E1 ks ss])
def wc (ns:List Node) (c:Nat) (en rs:Int) (j:Nat) (a:Int):Bool:=
 (ak a (-1)&&(ak j en|| ak j rs))|| (!au a 0&&(!aj ns.length a&&(tQ ns a==Nat.beq c 46)))
def cT (ns:List Node) (c:Nat) (en rs:Int):Nat→List Int→Bool
 | _,[]=>true
 | j,a::l=>wc ns c en rs j a&&cT ns c en rs (j+1) l
def gI (x:Nf) (l:List Node):Bool:=l.all fun y=> !(y.1.name.data.toList==x.name.data.toList)|| jH y.1.ao x.ao
def eh (x:Nf) (l:List ByteArray):Bool:=l.all fun s=> !(s.data.toList==x.name.data.toList)
section
variable {call:aw} {k m1 n:Nat} {v0 v1 v2 v3 v4 v5 v6 v7 v8 v9 v10 v11 v12 v13 v14 v15 v16 v17 v18 v19 v20 v21 v22 v23:PV} {w21 w22 w24 w25:List PV}
theorem Ml {ns:List Node} {x:Nf} {en rs:Int} (hl:x.args.length≤1000):∀(n j:Nat),x.args.length-j<n→
  (cT ns (aF x.op) en rs j (x.args.drop j)=true→oQ call k m1 n v0 v1 (.sl (ns.map af)) v3 (.str x.op) v5 v6 v7 v8 v9 v10 v11 v12 v13 v14 v15 (iv en) (iv rs) v18 v19 v20 (bH x.args) (iv x.args.length) (iv j) w24 w25=oQ call k m1 1 v0 v1 (.sl (ns.map af)) v3 (.str x.op) v5 v6 v7 v8 v9 v10 v11 v12 v13 v14 v15 (iv en) (iv rs) v18 v19 v20 (bH x.args) (iv x.args.length) (iv x.args.length) w24 w25)∧
  (cT ns (aF x.op) en rs j (x.args.drop j)=false→oQ call k m1 n v0 v1 (.sl (ns.map af)) v3 (.str x.op) v5 v6 v7 v8 v9 v10 v11 v12 v13 v14 v15 (iv en) (iv rs) v18 v19 v20 (bH x.args) (iv x.args.length) (iv j) w24 w25=some ([aB false],[E1 w24 w25]))
 | 0,j,h=>by omega
 | n+1,j,h=>by
  by_cases hj:j<x.args.length
  ·have hn:nth default (x.args.map iv) j=iv x.args[j]:=aK _ _ _ _ hj
   have ih:=Ml (ns:=ns) (x:=x) (en:=en) (rs:=rs) hl n (j+1) (by omega)
   rw[bb hj,cT,ly _ _ _ n]
   simp only[TT,ab,aa,Ty.eq,hj,hn,Iz,IB,IA,aq (show j<4611686018427387904 by omega),eO,gZ,hZ,du,dv,eP,h9,ia,ib,ic,ig,ij,ik,il,im,iq,mq,mr,mu,mv,ir,mw,iu,iw,iy,eQ,iz,cP,eR,dw,dx,eT,eU,eV,iA,iB,dy,dz,iC,kz,eW,eX,dA,my,mz,eY,eZ]
   generalize x.args[j]=a at*
   unfold wc
   cases h1:(ak a (-1)&&(ak (j:Int) en|| ak (j:Int) rs))
   ·cases h3:au a 0
    ·cases h2:aj (ns.length:Int) a
     ·have Jo:=cM h3
      have OP:=jG h2
      obtain⟨b6,Rw⟩:=uq (ns:=ns) Jo OP
      have DH:nth default (ns.map af) a.toNat=af ns[a.toNat]:=aK _ _ _ _ b6
      simp only[b7 Jo,dF OP,DH,R8,tS,kz, ←Rw,cond_true,cond_false,Bool.and_self]
      have dc:ak a (-1)=false:=eE (by omega)
      rw[dc]
      cases hu:(tQ ns a==Nat.beq (aF x.op) 46)
      ·simp
      ·simpa using ih
     ·have Jo:=cM h3
      have dc:ak a (-1)=false:=eE (by omega)
      rw[dc]
      simp
    ·cases h4:ak a (-1)
     ·simp
     ·rw[h4,Bool.true_and]at h1
      rw[Bool.or_eq_false_iff]at h1
      rw[h1.1,h1.2]
      simp
   ·rw[Bool.and_eq_true]at h1
    rw[h1.1]
    simp only[cond_true]
    cases h5:ak (j:Int) en
    ·cases h6:ak (j:Int) rs
     ·rw[h5,h6]at h1;cases h1.2
     ·simpa using ih
    ·simpa using ih
  ·rw[aT (by omega),cT]
   refine⟨fun _=> ?_,fun h=>by cases h⟩
   rw[ly _ _ _ n,ly _ _ _ 0]
   simp only[TT,ab,aa,Ty.eq,hj,Nat.lt_irrefl]
end
end Go.V
namespace Go.V
open Go.Proofs
def mC:List Net→Int
 | m::_=>m.ins
 | []=>0
def mD (ns:List Node) (o:Int):Bool:= !au o 0&&(!aj ns.length o&& !tQ ns o)
def nI (ns:List Node) (ins:Int) (x:Node) (p:ka):Option ka:=
 bif Nat.beq (aF x.1.op) 43 then(bif au x.1.n 0|| aj ins x.1.n then none else some p)
 else bif Nat.beq (aF x.1.op) 46 then(bif nm ns x.1 then some p else none)
 else bif Nat.beq (aF x.1.op) 32 then(bif gI x.1 p.knobs then some ⟨p.knobs++[x],p.bx⟩else none)
 else bif Nat.beq (aF x.1.op) 33 then(bif eh x.1 p.bx then some ⟨p.knobs,p.bx++[x.1.name]⟩else none)
 else some p
def qs (x:Node) (ns:List Node):Bool:=
 aR x&&cT ns (aF x.1.op) (cg (aF x.1.op) x.1.args.length).2.1 (cg (aF x.1.op) x.1.args.length).2.2.1 0 x.1.args
def lQ (ns:List Node):Bool:=decide ((oU ns (ns.length+1) (List.replicate ns.length false) []).length=ns.length)
def we (ins deep:Int) (ns:List Node) (outs:List Int):Bool:=
 au 60 deep|| (au ins 0|| (au 64 ins|| (au 64 outs.length|| au 2000 ns.length)))
mutual
def dB:Net→Int→ka→Option ka
 | .mk ins ns outs,deep,p=>
  bif we ins deep ns outs then none
  else bif outs.all (mD ns)then
   (
    match cy ns ins deep ns p with
    | some q=>bif lQ ns then some q else none
    | none=>none)
  else none
def cy (all:List Node) (ins deep:Int):List (Nf×List Net)→ka→Option ka
 | [],p=>some p
 | (x,ms)::r,p=>
  bif qs (x,ms) all then
   (
    match(bif Nat.beq (aF x.op) 39 then(bif ak (mC ms) (x.args.length-2)then ei ms (deep+1) p else none)else nI all ins (x,ms) p)with
    | some q=>cy all ins deep r q
    | none=>none)
  else none
def ei:List Net→Int→ka→Option ka
 | [],_,_=>none
 | m::_,d,p=>dB m d p
end
theorem E3 (n:Net) (deep:Int) (p:ka):dB n deep p=(bif we n.ins deep n.nodes n.outs then none
  else bif n.outs.all (mD n.nodes)then
   (
    match cy n.nodes n.ins deep n.nodes p with
    | some q=>bif lQ n.nodes then some q else none
    | none=>none)
  else none):=by cases n;rw[dB];rfl
theorem xn (all:List Node) (ins deep:Int) (x:Node) (r:List Node) (p:ka):cy all ins deep (x::r) p=
  (bif qs x all then
   (
    match(bif Nat.beq (aF x.1.op) 39 then(bif ak (mC x.2) (x.1.args.length-2)then ei x.2 (deep+1) p else none)else nI all ins x p)with
    | some q=>cy all ins deep r q
    | none=>none)
  else none):=by cases x;rw[cy]
theorem yf {ns:List Node} {ins:Int} {x:Node} {p q:ka} (h:nI ns ins x p=some q):q.knobs.length≤p.knobs.length+1∧q.bx.length≤p.bx.length+1:=by
 unfold nI at h
 simp only[Bool.cond_eq_ite]at h
 repeat' split at h
 all_goals first
  | (cases h;done)
  | (cases h;exact⟨by simp,by simp⟩)
mutual
theorem tC:∀(n:Net) (deep:Int) (p q:ka),dB n deep p=some q→q.knobs.length≤p.knobs.length+n.size∧q.bx.length≤p.bx.length+n.size
 | .mk ins ns outs,deep,p,q,h=>by
  rw[dB]at h
  cases h1:we ins deep ns outs with
  | true=>rw[h1]at h;cases h
  | false=>
   rw[h1,cond_false]at h
   cases h2:outs.all (mD ns)with
   | false=>rw[h2]at h;cases h
   | true=>
    rw[h2,cond_true]at h
    cases h3:cy ns ins deep ns p with
    | none=>rw[h3]at h;cases h
    | some q'=>
     rw[h3]at h
     have:=np ns ns ins deep p q' h3
     cases h4:lQ ns with
     | false=>simp only[h4,cond_false]at h;cases h
     | true=>
      simp only[h4,cond_true]at h
      cases h
      rw[Net.size];omega
theorem np:∀(ns all:List (Nf×List Net)) (ins deep:Int) (p q:ka),cy all ins deep ns p=some q→q.knobs.length≤p.knobs.length+(ns.length+ca ns)∧q.bx.length≤p.bx.length+(ns.length+ca ns)
 | [],all,ins,deep,p,q,h=>by rw[cy]at h;cases h;simp
 | (x,ms)::r,all,ins,deep,p,q,h=>by
  rw[cy]at h
  cases h1:qs (x,ms) all with
  | false=>rw[h1]at h;cases h
  | true=>
   rw[h1,cond_true]at h
   rw[ca,List.length_cons]
   cases h2:Nat.beq (aF x.op) 39 with
   | false=>
    simp only[h2,cond_false]at h
    cases h3:nI all ins (x,ms) p with
    | none=>rw[h3]at h;cases h
    | some q'=>
     rw[h3]at h
     have a:=yf h3
     have b:=np r all ins deep q' q h
     omega
   | true=>
    simp only[h2,cond_true]at h
    cases h4:ak (mC ms) (x.args.length-2)with
    | false=>simp only[h4,cond_false]at h;cases h
    | true=>
     simp only[h4,cond_true]at h
     cases h3:ei ms (deep+1) p with
     | none=>rw[h3]at h;cases h
     | some q'=>
      rw[h3]at h
      have a:=rC ms (deep+1) p q' h3
      have b:=np r all ins deep q' q h
      omega
theorem rC:∀(ms:List Net) (deep:Int) (p q:ka),ei ms deep p=some q→q.knobs.length≤p.knobs.length+cx ms∧q.bx.length≤p.bx.length+cx ms
 | [],deep,p,q,h=>by rw[ei]at h;cases h
 | m::r,deep,p,q,h=>by
  rw[ei]at h
  have:=tC m deep p q h
  rw[cx];omega
end
end Go.V
namespace Go.V
open Go.Proofs
def kd (p:ka):Prop:=∀y∈p.knobs,nO y.1
theorem Cw {ns:List Node} {ins:Int} {x:Node} {p q:ka} (h:nI ns ins x p=some q) (hp:kd p) (hx:nO x.1):kd q:=by
 unfold nI at h
 simp only[Bool.cond_eq_ite]at h
 repeat' split at h
 all_goals first
  | (cases h;done)
  | (cases h;exact hp)
  | (
   cases h
   intro y hy
   rcases List.mem_append.1 hy with hy | hy
   ·exact hp y hy
   ·rw[List.mem_singleton.1 hy];exact hx)
mutual
theorem E4:∀(n:Net) (deep:Int) (p q:ka),dB n deep p=some q→cu n→kd p→kd q
 | .mk ins ns outs,deep,p,q,h,hn,hp=>by
  rw[dB]at h
  cases h1:we ins deep ns outs with
  | true=>rw[h1]at h;cases h
  | false=>
   rw[h1,cond_false]at h
   cases h2:outs.all (mD ns)with
   | false=>rw[h2]at h;cases h
   | true=>
    rw[h2,cond_true]at h
    cases h3:cy ns ins deep ns p with
    | none=>rw[h3]at h;cases h
    | some q'=>
     rw[h3]at h
     have:=oW ns ns ins deep p q' h3 hn.nf hn.sub hp
     cases h4:lQ ns with
     | false=>simp only[h4,cond_false]at h;cases h
     | true=>
      simp only[h4,cond_true]at h
      cases h
      exact this
theorem oW:∀(ns all:List (Nf×List Net)) (ins deep:Int) (p q:ka),cy all ins deep ns p=some q→(∀x∈ns,nO x.1)→(∀x∈ns,∀m∈x.2,cu m)→kd p→kd q
 | [],all,ins,deep,p,q,h,_,_,hp=>by rw[cy]at h;cases h;exact hp
 | (x,ms)::r,all,ins,deep,p,q,h,hx,hm,hp=>by
  rw[cy]at h
  cases h1:qs (x,ms) all with
  | false=>rw[h1]at h;cases h
  | true=>
   rw[h1,cond_true]at h
   cases h2:Nat.beq (aF x.op) 39 with
   | false=>
    simp only[h2,cond_false]at h
    cases h3:nI all ins (x,ms) p with
    | none=>rw[h3]at h;cases h
    | some q'=>
     rw[h3]at h
     exact oW r all ins deep q' q h (fun y hy=>hx y (List.mem_cons_of_mem _ hy)) (fun y hy=>hm y (List.mem_cons_of_mem _ hy)) (Cw h3 hp (hx _ List.mem_cons_self))
   | true=>
    simp only[h2,cond_true]at h
    cases h4:ak (mC ms) (x.args.length-2)with
    | false=>simp only[h4,cond_false]at h;cases h
    | true=>
     simp only[h4,cond_true]at h
     cases h3:ei ms (deep+1) p with
     | none=>rw[h3]at h;cases h
     | some q'=>
      rw[h3]at h
      exact oW r all ins deep q' q h (fun y hy=>hx y (List.mem_cons_of_mem _ hy)) (fun y hy=>hm y (List.mem_cons_of_mem _ hy)) (tD ms (deep+1) p q' h3 (hm _ List.mem_cons_self) hp)
theorem tD:∀(ms:List Net) (deep:Int) (p q:ka),ei ms deep p=some q→(∀m∈ms,cu m)→kd p→kd q
 | [],deep,p,q,h,_,_=>by rw[ei]at h;cases h
 | m::r,deep,p,q,h,hm,hp=>by
  rw[ei]at h
  exact E4 m deep p q h (hm _ List.mem_cons_self) hp
end
section
variable {E:Nat→aw} {k m1:Nat} {v0 v1 v2 v3 v4 v5 v6 v7 v8 v9 v10 v11 v12 v13 v14 v15 v16 v17 v18 v19 v20:PV} {w21 w22:List PV}
theorem Mm (hE:mo E) (hk:KK+3≤k) {x:Node} {ks:List Node} (DA:∀y∈ks,nO y.1) (hl:ks.length≤1000000) {i:Nat} (hi:i<4611686018427387904):∀(n j:Nat),ks.length-j<n→
  (gI x.1 (ks.drop j)=true→vI (E k) k m1 n v0 v1 v2 v3 (.str x.1.op) (.str x.1.name) (iv x.1.n) (iv x.1.m) (.sl (x.1.ao.map Qn.pv)) (.str x.1.fk) (iv x.1.fi) (iv x.1.ff) (.str x.1.fr) (.str x.1.fo) (bH x.1.args) (.sl (x.2.map Net.pv)) v16 v17 (iv i) (iv ks.length) (iv j) (ks.map af) w22=
   qm (E k) k m1 v0 v1 v2 v3 v16 v17 (iv ((i+1:Nat):Int)) ((ks++[x]).map af) w22)∧
  (gI x.1 (ks.drop j)=false→vI (E k) k m1 n v0 v1 v2 v3 (.str x.1.op) (.str x.1.name) (iv x.1.n) (iv x.1.m) (.sl (x.1.ao.map Qn.pv)) (.str x.1.fk) (iv x.1.fi) (iv x.1.ff) (.str x.1.fr) (.str x.1.fo) (bH x.1.args) (.sl (x.2.map Net.pv)) v16 v17 (iv i) (iv ks.length) (iv j) (ks.map af) w22=some ([aB false],[E1 (ks.map af) w22]))
 | 0,j,h=>by omega
 | n+1,j,h=>by
  by_cases hj:j<ks.length
  ·have hn:nth default (ks.map af) j=af ks[j]:=aK _ _ _ _ hj
   have ih:=Mm hE hk (x:=x) DA hl hi n (j+1) (by omega)
   have h65:=f65 hE hk (l:=ks[j].1.ao) (m:=x.1.ao) (DA _ (bz hj)).GK
   unfold gI at ih ⊢
   rw[bb hj,List.all_cons,tr]
   simp only[TT,ab,aa,Ty.eq,hj,hn,h65,IF,aq (show j<4611686018427387904 by omega)]
   cases (ks[j].1.name.data.toList==x.1.name.data.toList)
   ·simpa using ih
   ·cases jH ks[j].1.ao x.1.ao
    ·simp
    ·simpa using ih
  ·unfold gI
   rw[aT (by omega),tr]
   refine⟨fun _=> ?_,fun h=>by cases h⟩
   simp only[TT,ab,aa,Ty.eq,hj,List.reverse_singleton,List.length_singleton,su,aq hi,gH]
   rw[kQ (show(ks.length+1)*184≤room by show _≤140737488355328;omega)]
   simp only[List.map_append,List.map_cons,List.map_nil,cond_true]
theorem Mn {call:aw} {x:Node} {ks:List PV} {ss:List ByteArray} (hl:ss.length≤1000000) {i:Nat} (hi:i<4611686018427387904):∀(n j:Nat),ss.length-j<n→
  (eh x.1 (ss.drop j)=true→vJ call k m1 n v0 v1 v2 v3 v4 (.str x.1.name) v6 v7 v8 v9 v10 v11 v12 v13 v14 v15 v16 v17 (iv i) (iv ss.length) (iv j) ks (sv ss)=
   qm call k m1 v0 v1 v2 v3 v16 v17 (iv ((i+1:Nat):Int)) ks (sv (ss++[x.1.name])))∧
  (eh x.1 (ss.drop j)=false→vJ call k m1 n v0 v1 v2 v3 v4 (.str x.1.name) v6 v7 v8 v9 v10 v11 v12 v13 v14 v15 v16 v17 (iv i) (iv ss.length) (iv j) ks (sv ss)=some ([aB false],[E1 ks (sv ss)]))
 | 0,j,h=>by omega
 | n+1,j,h=>by
  by_cases hj:j<ss.length
  ·have hn:nth default (ss.map PV.str) j= .str ss[j]:=aK _ _ _ _ hj
   have ih:=Mn (call:=call) (x:=x) (ks:=ks) hl hi n (j+1) (by omega)
   unfold eh at ih ⊢
   rw[bb hj,List.all_cons,tt]
   simp only[TT,ab,aa,Ty.eq,hj,hn,aq (show j<4611686018427387904 by omega)]
   cases (ss[j].data.toList==x.1.name.data.toList)
   ·simpa using ih
   ·simp
  ·unfold eh
   rw[aT (by omega),tt]
   refine⟨fun _=> ?_,fun h=>by cases h⟩
   simp only[TT,ab,aa,Ty.eq,hj,List.reverse_singleton,List.length_singleton,su,aq hi]
   rw[kQ (show(ss.length+1)*16≤room by show _≤140737488355328;omega)]
   simp only[List.map_append,List.map_cons,List.map_nil,cond_true]
end
end Go.V
namespace Go.V
open Go.Proofs
def rD (ns:List Node) (ins deep:Int) (x:Node) (p:ka):Option ka:=
 bif Nat.beq (aF x.1.op) 39 then(bif ak (mC x.2) (x.1.args.length-2)then ei x.2 (deep+1) p else none)else nI ns ins x p
theorem yg {x:Node} (h:aR x=true) (hc:Nat.beq (aF x.1.op) 39=true):∃m,x.2=[m]:=by
 unfold aR at h
 have e:=Nat.eq_of_beq_eq_true hc
 simp only[e,Bool.and_eq_true]at h
 obtain⟨_,_,h⟩:=h
 have h:(ja x.1&&(aj 2 x.1.n&&(aj x.1.n 8&&ak x.2.length 1)))=true:=h
 simp only[Bool.and_eq_true]at h
 have:=dW h.2.2.2
 exact List.length_eq_one_iff.1 (by omega)
theorem Cx {x:Node} (h:aR x=true) (hc:Nat.beq (aF x.1.op) 46=true):∃a,x.1.args=[a]:=by
 unfold aR at h
 have e:=Nat.eq_of_beq_eq_true hc
 simp only[e,Bool.and_eq_true]at h
 have h2:ak (x.1.args.length:Int) 1=true:=h.2.1
 have:=dW h2
 exact List.length_eq_one_iff.1 (by omega)
theorem Aj {ns:List Node} {a:Int} (h:cT ns 46 (cg 46 1).2.1 (cg 46 1).2.2.1 0 [a]=true):0≤a∧a<ns.length:=by
 simp only[cT,Bool.and_eq_true]at h
 have h:wc ns 46 (-1) (-1) 0 a=true:=h.1
 unfold wc at h
 rw[show ak ((0:Nat):Int) (-1)=false from rfl,Bool.or_false,Bool.and_false,Bool.false_or]at h
 simp only[Bool.and_eq_true,Bool.not_eq_true']at h
 exact⟨cM h.1,jG h.2.1⟩
section
variable {E:Nat→aw} {k m1:Nat} {v0 v1 v2 v3 v4 v5 v6 v7 v8 v9 v10 v11 v12 v13 v14 v15 v16 v17 v18 v19 v20:PV} {w21 w22:List PV}
theorem Ox (hE:mo E) (hk:KK+3≤k) {ns:List Node} {ins deep en rs:Int} {outs:List Int} {x:Node} {p:ka} {i:Nat} (wL:ns.length≤2000) (hi:i<ns.length) (hr:aR x=true)
  (Sb:cT ns (aF x.1.op) (cg (aF x.1.op) x.1.args.length).2.1 (cg (aF x.1.op) x.1.args.length).2.2.1 0 x.1.args=true) (hd:0≤deep∧deep≤1000) (dE:x.1.args.length≤1000)
  (hp:kd p) (xz:p.knobs.length≤1000000) (xG:p.bx.length≤1000000)
  (Rz:∀m∈x.2,RF (E k 48 [cn m,aI (deep+1),Ry p]) (dB m (deep+1) p)):
  (∀q,rD ns ins deep x p=some q→oQ (E k) k m1 1 (iv deep) (iv ins) (.sl (ns.map af)) (bH outs) (.str x.1.op) (.str x.1.name) (iv x.1.n) (iv x.1.m) (.sl (x.1.ao.map Qn.pv)) (.str x.1.fk) (iv x.1.fi) (iv x.1.ff) (.str x.1.fr) (.str x.1.fo) (bH x.1.args) (.sl (x.2.map Net.pv)) (iv en) (iv rs) (.sl (ns.map af)) (iv ns.length) (iv i) (bH x.1.args) (iv x.1.args.length) (iv x.1.args.length) (p.knobs.map af) (sv p.bx)=
   qm (E k) k m1 (iv deep) (iv ins) (.sl (ns.map af)) (bH outs) (.sl (ns.map af)) (iv ns.length) (iv ((i+1:Nat):Int)) (q.knobs.map af) (sv q.bx))∧
  (rD ns ins deep x p=none→∃ks ss,oQ (E k) k m1 1 (iv deep) (iv ins) (.sl (ns.map af)) (bH outs) (.str x.1.op) (.str x.1.name) (iv x.1.n) (iv x.1.m) (.sl (x.1.ao.map Qn.pv)) (.str x.1.fk) (iv x.1.fi) (iv x.1.ff) (.str x.1.fr) (.str x.1.fo) (bH x.1.args) (.sl (x.2.map Net.pv)) (iv en) (iv rs) (.sl (ns.map af)) (iv ns.length) (iv i) (bH x.1.args) (iv x.1.args.length) (iv x.1.args.length) (p.knobs.map af) (sv p.bx)=some ([aB false],[E1 ks ss])):=by
 have kV:=bN
 rw[ly _ _ _ 0]
 unfold rD nI
 simp only[TT,ab,aa,Ty.eq,Nat.lt_irrefl,eO,gZ,hZ,du,dv,eP,h9,ia,ib,ic,ig,ij,ik,il,im,iq,mq,mr,mu,mv,ir,mw,iu,iw,iy,eQ,iz,cP,eR,dw,dx,eT,eU,eV,iA,iB,dy,dz,iC,kz,eW,eX,dA,my,mz,eY,eZ,IC,ID,IE,su,aq (show i<4611686018427387904 by omega)]
 cases Xz:Nat.beq (aF x.1.op) 43
 ·cases Rv:Nat.beq (aF x.1.op) 46
  ·cases pq:Nat.beq (aF x.1.op) 39
   ·cases Ou:Nat.beq (aF x.1.op) 32
    ·cases T2:Nat.beq (aF x.1.op) 33
     ·refine⟨fun q h=> ?_,fun h=>by cases h⟩
      cases h
      rfl
     ·simp only[cond_true,cond_false]
      have key:=Mn (call:=E k) (k:=k) (m1:=m1) (x:=x) (ks:=p.knobs.map af) (ss:=p.bx) (v0:=iv deep) (v1:=iv ins) (v2:= .sl (ns.map af)) (v3:=bH outs) (v4:= .str x.1.op) (v6:=iv x.1.n) (v7:=iv x.1.m) (v8:= .sl (x.1.ao.map Qn.pv)) (v9:= .str x.1.fk) (v10:=iv x.1.fi) (v11:=iv x.1.ff) (v12:= .str x.1.fr) (v13:= .str x.1.fo) (v14:=bH x.1.args) (v15:= .sl (x.2.map Net.pv)) (v16:= .sl (ns.map af)) (v17:=iv ns.length) xG (show i<4611686018427387904 by omega) k 0 (by omega)
      rw[List.drop_zero]at key
      cases hs:eh x.1 p.bx
      ·exact⟨fun q h=>(by cases h),fun _=>⟨_,_,key.2 hs⟩⟩
      ·refine⟨fun q h=> ?_,fun h=>by cases h⟩
       cases h
       exact key.1 hs
    ·simp only[cond_true,cond_false]
     have key:=Mm hE (k:=k) (m1:=m1) hk (x:=x) (ks:=p.knobs) (w22:=sv p.bx) (v0:=iv deep) (v1:=iv ins) (v2:= .sl (ns.map af)) (v3:=bH outs) (v16:= .sl (ns.map af)) (v17:=iv ns.length) hp xz (show i<4611686018427387904 by omega) k 0 (by omega)
     rw[List.drop_zero]at key
     cases hs:gI x.1 p.knobs
     ·exact⟨fun q h=>(by cases h),fun _=>⟨_,_,key.2 hs⟩⟩
     ·refine⟨fun q h=> ?_,fun h=>by cases h⟩
      cases h
      exact key.1 hs
   ·obtain⟨m,hm⟩:=yg hr pq
    have H:=Rz m (by rw[hm];simp)
    have hw:IntKind.i64.wrap ((x.1.args.length:Int)-2)=x.1.args.length-2:=bJ (by omega) (by omega)
    have Sc:IntKind.i64.wrap (deep+1)=deep+1:=bJ (by omega) (by omega)
    rw[hm]
    simp only[cond_true,cond_false,List.map_cons,List.map_nil,nth,Py,tI,List.length_cons,List.length_nil,hw,Sc,mC,ei]
    cases hi:ak m.ins (x.1.args.length-2)
    ·exact⟨fun q h=>(by cases h),fun _=>⟨_,_,rfl⟩⟩
    ·simp only[cond_true,cond_false,Bool.not_true]
     unfold RF at H
     cases hf:dB m (deep+1) p with
     | none=>
      rw[hf]at H
      obtain⟨ks,ss,H⟩:=H
      refine⟨fun q h=>(by cases h),fun _=>⟨ks,ss, ?_⟩⟩
      simp only[H];rfl
     | some q'=>
      rw[hf]at H
      refine⟨fun q h=> ?_,fun h=>by cases h⟩
      cases h
      simp only[H];rfl
  ·obtain⟨a,ha⟩:=Cx hr Rv
   have Vn:=Nat.eq_of_beq_eq_true Rv
   rw[Vn,ha]at Sb
   obtain⟨h0,h1⟩:=Aj Sb
   have pq:Nat.beq (aF x.1.op) 39=false:=by rw[Vn];rfl
   have b6:a.toNat<ns.length:=by omega
   have DH:nth default (ns.map af) a.toNat=af ns[a.toNat]:=aK _ _ _ _ b6
   rw[pq]
   unfold nm
   rw[ha]
   simp only[List.getElem?_eq_getElem b6,cond_true,cond_false,List.map_cons,List.map_nil,nth,tI,DH,List.length_cons,List.length_nil,b7 h0,dF h1,Rl,tL,List.length_map,Bool.and_self]
   generalize (ns[a.toNat]).2=ms
   have e0:aj 0 x.1.n= !au x.1.n 0:=by
    cases hh:au x.1.n 0
    ·exact b7 (cM hh)
    ·exact ml (sG hh)
   rcases ms with _ | ⟨mm,_ | ⟨m2,ms⟩⟩
   ·refine⟨fun q h=>(by cases h),fun _=> ?_⟩
    cases au x.1.n 0<;>exact⟨_,_,rfl⟩
   ·rw[e0]
    simp only[List.map_cons,List.map_nil,nth,Pz,tL,List.length_map,List.length_cons,List.length_nil]
    have e1:au x.1.n mm.outs.length= !aj mm.outs.length x.1.n:=by
     cases hh:aj (mm.outs.length:Int) x.1.n
     ·exact dF (jG hh)
     ·exact eg (gT hh)
    rw[e1]
    cases au x.1.n 0
    ·cases aj (mm.outs.length:Int) x.1.n
     ·refine⟨fun q h=> ?_,fun h=>by cases h⟩
      cases h;rfl
     ·exact⟨fun q h=>(by cases h),fun _=>⟨_,_,rfl⟩⟩
    ·exact⟨fun q h=>(by cases h),fun _=>⟨_,_,rfl⟩⟩
   ·rw[eE (show(((mm::m2::ms).length:Nat):Int)≠1 by simp;omega)]
    refine⟨fun q h=>(by cases h),fun _=> ?_⟩
    cases au x.1.n 0<;>exact⟨_,_,rfl⟩
 ·have pq:Nat.beq (aF x.1.op) 39=false:=by rw[Nat.eq_of_beq_eq_true Xz];rfl
  rw[pq]
  cases au x.1.n 0
  ·cases aj ins x.1.n
   ·refine⟨fun q h=> ?_,fun h=>by cases h⟩
    cases h;rfl
   ·exact⟨fun q h=>(by cases h),fun _=>⟨_,_,rfl⟩⟩
  ·exact⟨fun q h=>(by cases h),fun _=>⟨_,_,rfl⟩⟩
end
end Go.V
namespace Go.V
open Go.Proofs
theorem Mo (a b c:Int) (d:Bool):cc (List.map (ai Try.prog) [3,3,3,4]) (some ([aI a,aI b,aI c,aB d],[]))=true:=by kernel_rfl
theorem RF.of {r r':R} {o:Option ka} (e:r=r') (h:RF r' o):RF r o:=e▸h
theorem I7 {ns:List Node} {ins deep:Int} {x:Node} {p q:ka} (h:rD ns ins deep x p=some q):q.knobs.length≤p.knobs.length+(1+cx x.2)∧q.bx.length≤p.bx.length+(1+cx x.2):=by
 unfold rD at h
 cases h1:Nat.beq (aF x.1.op) 39 with
 | false=>rw[h1]at h;have:=yf h;omega
 | true=>
  rw[h1,cond_true]at h
  cases h2:ak (mC x.2) (x.1.args.length-2)with
  | false=>rw[h2]at h;cases h
  | true=>
   rw[h2,cond_true]at h
   have:=rC _ _ _ _ h
   omega
theorem Mp {ns:List Node} {ins deep:Int} {x:Node} {p q:ka} (h:rD ns ins deep x p=some q) (hp:kd p) (hx:nO x.1) (hm:∀m∈x.2,cu m):kd q:=by
 unfold rD at h
 cases h1:Nat.beq (aF x.1.op) 39 with
 | false=>rw[h1]at h;exact Cw h hp hx
 | true=>
  rw[h1,cond_true]at h
  cases h2:ak (mC x.2) (x.1.args.length-2)with
  | false=>rw[h2]at h;cases h
  | true=>
   rw[h2,cond_true]at h
   exact tD _ _ _ _ h hm hp
theorem xo (all:List Node) (ins deep:Int) (x:Node) (r:List Node) (p:ka):cy all ins deep (x::r) p=
  (bif qs x all then(match rD all ins deep x p with | some q=>cy all ins deep r q | none=>none)else none):=xn _ _ _ _ _ _
theorem pR {x:Node}:∀ {l:List Node},x∈l→cx x.2≤ca l
 | y::l,h=>by
  rw[iY]
  rcases List.mem_cons.1 h with rfl | h
  ·omega
  ·have:=pR h;omega
theorem kA {m:Net}:∀ {l:List Net},m∈l→m.size≤cx l
 | y::l,h=>by
  rw[cx]
  rcases List.mem_cons.1 h with rfl | h
  ·omega
  ·have:=kA h;omega
theorem Net.Mq {n:Net} {x:Node} {m:Net} (hx:x∈n.nodes) (hm:m∈x.2):m.size≤n.size:=by
 have:=pR hx
 have:=kA hm
 rw[n.size_eq];omega
section
variable {E:Nat→aw} {k m1:Nat}
theorem Mr (hE:mo E) (hk:KK+6≤k) {n:Net} {deep:Int} (ho:cu n) (hs:jU n) (wL:n.nodes.length≤2000) (hd:0≤deep∧deep≤1000)
  (Rz:∀x∈n.nodes,∀m∈x.2,∀p,kd p→p.knobs.length+m.size≤1000000→p.bx.length+m.size≤1000000→RF (E k 48 [cn m,aI (deep+1),Ry p]) (dB m (deep+1) p)):
  ∀(f j:Nat) (p:ka),n.nodes.length-j<f→kd p→p.knobs.length+((n.nodes.drop j).length+ca (n.nodes.drop j))≤1000000→p.bx.length+((n.nodes.drop j).length+ca (n.nodes.drop j))≤1000000→
  RF (qm (E k) k f (iv deep) (iv n.ins) (.sl (n.nodes.map af)) (bH n.outs) (.sl (n.nodes.map af)) (iv n.nodes.length) (iv j) (p.knobs.map af) (sv p.bx))
   (match cy n.nodes n.ins deep (n.nodes.drop j) p with | some q=>bif lQ n.nodes then some q else none | none=>none)
 | 0,j,p,h,_,_,_=>by omega
 | f+1,j,p,h,hp,xz,xG=>by
  have kV:=bN
  rw[B6]
  by_cases hj:j<n.nodes.length
  ·have hn:nth default (n.nodes.map af) j=af n.nodes[j]:=aK _ _ _ _ hj
   have hm:=bz hj
   have hx:=ho.nf _ hm
   have dE:=(hs.nd _ hm).1
   rw[bb hj]at xz xG ⊢
   rw[xo]
   rw[List.length_cons,iY]at xz xG
   unfold qs
   simp only[TT,ab,aa,Ty.eq,hj,hn,gH,f64 hE hk _ hx (ho.EN _ hm)]
   cases hr:aR n.nodes[j]
   ·exact⟨_,_,rfl⟩
   ·simp only[f49 hE (show KK+2≤k by omega) _ _ hx.yd,GP,Mo,vZ,Mk,cond_true,cond_false,Bool.not_true,Bool.true_and]
    have RA:=Ml (call:=E k) (k:=k) (m1:=f) (ns:=n.nodes) (x:=n.nodes[j].1) (en:=(cg (aF n.nodes[j].1.op) n.nodes[j].1.args.length).2.1) (rs:=(cg (aF n.nodes[j].1.op) n.nodes[j].1.args.length).2.2.1) (v0:=iv deep) (v1:=iv n.ins) (v3:=bH n.outs) (v5:= .str n.nodes[j].1.name) (v6:=iv n.nodes[j].1.n) (v7:=iv n.nodes[j].1.m) (v8:= .sl (n.nodes[j].1.ao.map Qn.pv)) (v9:= .str n.nodes[j].1.fk) (v10:=iv n.nodes[j].1.fi) (v11:=iv n.nodes[j].1.ff) (v12:= .str n.nodes[j].1.fr) (v13:= .str n.nodes[j].1.fo) (v14:=bH n.nodes[j].1.args) (v15:= .sl (n.nodes[j].2.map Net.pv)) (v18:= .sl (n.nodes.map af)) (v19:=iv n.nodes.length) (v20:=iv j) (w24:=p.knobs.map af) (w25:=sv p.bx) dE k 0 (by omega)
    rw[List.drop_zero]at RA
    cases Sb:cT n.nodes (aF n.nodes[j].1.op) (cg (aF n.nodes[j].1.op) n.nodes[j].1.args.length).2.1 (cg (aF n.nodes[j].1.op) n.nodes[j].1.args.length).2.2.1 0 n.nodes[j].1.args
    ·exact⟨_,_,RA.2 Sb⟩
    ·have N5:=Ox hE (k:=k) (m1:=f) (show KK+3≤k by omega) (ns:=n.nodes) (ins:=n.ins) (deep:=deep) (outs:=n.outs) (en:=(cg (aF n.nodes[j].1.op) n.nodes[j].1.args.length).2.1) (rs:=(cg (aF n.nodes[j].1.op) n.nodes[j].1.args.length).2.2.1) wL hj hr Sb hd dE hp (by omega) (by omega) (fun m TP=>Rz _ hm m TP p hp (by have:=kA TP;omega) (by have:=kA TP;omega))
     have e1:=RA.1 Sb
     simp only[cond_true]
     cases jw:rD n.nodes n.ins deep n.nodes[j] p with
     | none=>
      obtain⟨ks,ss,hh⟩:=N5.2 jw
      exact⟨ks,ss,e1.trans hh⟩
     | some q=>
      have hlen:=I7 jw
      have ih:=Mr hE hk ho hs wL hd Rz f (j+1) q (by omega) (Mp jw hp hx (ho.sub _ hm)) (by omega) (by omega)
      have e2:=e1.trans (N5.1 q jw)
      exact RF.of e2 ih
  ·rw[aT (by omega),cy]
   simp only[TT,ab,aa,Ty.eq,hj,eA,f66 hE (show KK+4≤k by omega) n wL (fun x hx=>(hs.nd x hx).1),fU,cB]
   rw[Om]
   unfold lQ RF
   cases decide ((oU n.nodes (n.nodes.length+1) (List.replicate n.nodes.length false) []).length=n.nodes.length)
   ·exact⟨_,_,rfl⟩
   ·rfl
theorem PQ (hE:mo E) (hk:KK+6≤k) {n:Net} {deep:Int} (ho:cu n) (hs:jU n) (wL:n.nodes.length≤2000) (hd:0≤deep∧deep≤1000)
  (Rz:∀x∈n.nodes,∀m∈x.2,∀p,kd p→p.knobs.length+m.size≤1000000→p.bx.length+m.size≤1000000→RF (E k 48 [cn m,aI (deep+1),Ry p]) (dB m (deep+1) p)) {p:ka} (hp:kd p) (xz:p.knobs.length+n.size≤1000000) (xG:p.bx.length+n.size≤1000000):
  ∀(f j:Nat),n.outs.length-j<f→
  RF (GB (E k) k f (iv deep) (iv n.ins) (.sl (n.nodes.map af)) (bH n.outs) (bH n.outs) (iv n.outs.length) (iv j) (p.knobs.map af) (sv p.bx))
   (bif (n.outs.drop j).all (mD n.nodes)then(match cy n.nodes n.ins deep n.nodes p with | some q=>bif lQ n.nodes then some q else none | none=>none)else none)
 | 0,j,h=>by omega
 | f+1,j,h=>by
  have kV:=bN
  have fy:=ho.lo
  unfold bf at fy
  rw[Ey]
  by_cases hj:j<n.outs.length
  ·have hn:nth default (n.outs.map iv) j=iv n.outs[j]:=aK _ _ _ _ hj
   have ih:=PQ hE hk ho hs wL hd Rz hp xz xG f (j+1) (by omega)
   rw[bb hj,List.all_cons]
   simp only[TT,ab,aa,Ty.eq,hj,hn,LG,aq (show j<4611686018427387904 by omega),eO,gZ,hZ,du,dv,eP,h9,ia,ib,ic,ig,ij,ik,il,im,iq,mq,mr,mu,mv,ir,mw,iu,iw,iy,eQ,iz,cP,eR,dw,dx,eT,eU,eV,iA,iB,dy,dz,iC,kz,eW,eX,dA,my,mz,eY,eZ]
   generalize n.outs[j]=o at*
   have J8:mD n.nodes o=(!au o 0&&(!aj n.nodes.length o&& !tQ n.nodes o)):=rfl
   rw[J8]
   cases h1:au o 0
   ·cases h2:aj (n.nodes.length:Int) o
    ·obtain⟨b6,Rw⟩:=uq (cM h1) (jG h2)
     have DH:nth default (n.nodes.map af) o.toNat=af n.nodes[o.toNat]:=aK _ _ _ _ b6
     simp only[b7 (cM h1),dF (jG h2),DH,R8,tS,kz, ←Rw,cond_true,cond_false,Bool.and_self]
     cases tQ n.nodes o
     ·exact ih
     ·exact⟨_,_,rfl⟩
    ·exact⟨_,_,rfl⟩
   ·exact⟨_,_,rfl⟩
  ·rw[aT (by omega),List.all_nil]
   simp only[TT,ab,aa,Ty.eq,hj]
   have eC:=n.size_eq
   have:=Mr hE (k:=k) hk ho hs wL hd Rz k 0 p (by omega) hp (by rw[List.drop_zero];omega) (by rw[List.drop_zero];omega)
   rw[List.drop_zero]at this
   exact this
theorem I8 {ins deep:Int} {ns:List Node} {outs:List Int} (h:we ins deep ns outs=false):ns.length≤2000:=by
 unfold we at h
 simp only[Bool.or_eq_false_iff]at h
 have:=cM h.2.2.2.2
 omega
theorem f48 (hE:mo E):∀(d:Nat) (n:Net),cu n→jU n→n.dp≤d→∀k,KK+d+7≤k→∀(deep:Int) (p:ka),0≤deep→deep≤61→kd p→p.knobs.length+n.size≤1000000→p.bx.length+n.size≤1000000→
  RF (E k 48 [cn n,aI deep,Ry p]) (dB n deep p)
 | 0,n,ho,hs,h=>by rw[n.vU]at h;omega
 | d+1,n,ho,hs,h=>by
  intro k hk deep p UN TZ hp xz xG
  have kV:=bN
  obtain⟨j,hj,e⟩:=hE.at (d:=d+1+6) (by omega) 48 [cn n,aI deep,Ry p] rfl rfl
  rw[e,R48,E3]
  simp only[TT,ab,aa,Ty.eq,LF]
  cases Cy:we n.ins deep n.nodes n.outs
  ·have wL:=I8 Cy
   unfold we at Cy
   simp only[Bool.or_eq_false_iff]at Cy
   obtain⟨l1,l2,l3,l4,l5⟩:=Cy
   rw[l1,l2,l3,l4,l5]
   simp only[cond_false]
   have yP:=cM l1
   have fy:=j9 ho.lo hj
   have:=PQ hE (k:=j) (by omega) ho hs wL (deep:=deep) ⟨by omega,by omega⟩ (fun x hx m hm q hq h1 h2=>f48 hE d m (ho.sub x hx m hm) (hs.sub x hx m hm) (by have:=Net.sE hx hm;omega) j (by omega) (deep+1) q (by omega) (by omega) hq h1 h2) hp xz xG j 0 (by omega)
   rw[List.drop_zero]at this
   exact this
  ·unfold we at Cy
   rw[cond_true]
   cases h1:au 60 deep
   ·cases h2:au n.ins 0
    ·cases h3:au 64 n.ins
     ·cases h4:au 64 (n.outs.length:Int)
      ·rw[h1,h2,h3,h4]at Cy
       simp only[Bool.false_or]at Cy
       rw[Cy]
       exact⟨_,_,rfl⟩
      ·exact⟨_,_,rfl⟩
     ·exact⟨_,_,rfl⟩
    ·exact⟨_,_,rfl⟩
   ·exact⟨_,_,rfl⟩
end
end Go.V
namespace Go.V
open Go.Proofs
def Ak (q:ka):Bool:=q.knobs.all fun y=>eh y.1 q.bx
def fL (n:Net):Bool:=
 match dB n 1 ⟨[],[]⟩with
 | none=>false
 | some q=> !au 2000 (IntKind.i64.wrap n.size)&&Ak q
section
variable {call:aw} {k m1:Nat} {v2 v3 v4 v5 v6 v7 v8 v9 v10 v11 v12 v13 v14 v15 v16 v17:PV} {w0 w1:List PV}
theorem PR {x:Nf} {ss:List ByteArray} {i:Nat} (hl:ss.length≤1000000) (hi:i<4611686018427387904):∀(n j:Nat),ss.length-j<n→
  FT call k m1 n w0 (sv ss) v2 (.str x.name) v4 v5 v6 v7 v8 v9 v10 v11 v12 v13 v14 (iv i) (iv ss.length) (iv j)=(bif eh x (ss.drop j)then Bz call k m1 w0 (sv ss) v14 (iv ((i+1:Nat):Int))else rB false)
 | 0,j,h=>by omega
 | n+1,j,h=>by
  unfold eh
  rw[DW]
  by_cases hj:j<ss.length
  ·have hn:nth default (ss.map PV.str) j= .str ss[j]:=aK _ _ _ _ hj
   have ih:=PR (x:=x) hl hi n (j+1) (by omega)
   rw[bb hj,List.all_cons]
   simp only[TT,ab,aa,Ty.eq,hj,hn,aq (show j<4611686018427387904 by omega)]
   rw[show(x.name.data.toList==ss[j].data.toList)=(ss[j].data.toList==x.name.data.toList)from Bool.beq_comm]
   cases (ss[j].data.toList==x.name.data.toList)
   ·exact ih
   ·rfl
  ·rw[aT (by omega),List.all_nil]
   simp only[TT,ab,aa,Ty.eq,hj,aq hi]
theorem PS {ks:List Node} {ss:List ByteArray} (hk:ks.length≤1000000) (hl:ss.length≤1000000) (hf:1000000<k):∀(n j:Nat),ks.length-j<n→
  Bz call k n (ks.map af) (sv ss) (iv ks.length) (iv j)=rB ((ks.drop j).all fun y=>eh y.1 ss)
 | 0,j,h=>by omega
 | n+1,j,h=>by
  rw[DX]
  by_cases hj:j<ks.length
  ·have hn:nth default (ks.map af) j=af ks[j]:=aK _ _ _ _ hj
   have ih:=PS (ss:=ss) hk hl hf n (j+1) (by omega)
   rw[bb hj,List.all_cons]
   simp only[TT,ab,aa,Ty.eq,hj,hn]
   refine(PR (x:=ks[j].1) (i:=j) hl (by omega) k 0 (by omega)).trans ?_
   rw[List.drop_zero,ih]
   cases eh ks[j].1 ss<;>rfl
  ·rw[aT (by omega),List.all_nil]
   simp only[TT,ab,aa,Ty.eq,hj]
end
section
variable {E:Nat→aw} {k:Nat}
theorem f37 (hE:mo E) {n:Net} (ho:cu n) (hs:jU n) (eC:n.size≤1000000) (hk:KK+n.dp+8≤k):E k 37 [cn n]=rB (fL n):=by
 have kV:=bN
 obtain⟨j,hj,e⟩:=hE.at (d:=n.dp+7) (by omega) 37 [cn n] rfl rfl
 have Nr:=f48 hE n.dp n ho hs (Nat.le_refl _) j (by omega) 1 ⟨[],[]⟩ (by omega) (by omega) (fun y hy=>by cases hy) (by simpa using eC) (by simpa using eC)
 have Xx:=f17 hE n.dp n ho (Nat.le_refl _) j (by omega)
 rw[e,R37]
 unfold fL
 cases hf:dB n 1 ⟨[],[]⟩with
 | none=>
  rw[hf]at Nr
  obtain⟨ks,ss,Nr⟩:=Nr
  have Nr:E j 48 [.pv (.st 25) n.pv, .pv (.int .i64) (.int .i64 1), .box 94 [.arr 55 [], .arr 9 []]]=some ([aB false],[E1 ks ss]):=Nr
  simp only[TT,ab,aa,Ty.eq,eA,Nr,BA]
  rfl
 | some q=>
  rw[hf]at Nr
  have Nr:E j 48 [.pv (.st 25) n.pv, .pv (.int .i64) (.int .i64 1), .box 94 [.arr 55 [], .arr 9 []]]=some ([aB true],[Ry q]):=Nr
  have hlen:=tC n 1 ⟨[],[]⟩ q hf
  simp only[List.length_nil,Nat.zero_add]at hlen
  simp only[TT,ab,aa,Ty.eq,eA,Nr,Xx,BA]
  cases hz:au 2000 (IntKind.i64.wrap (n.size:Int))
  ·have:=PS (call:=E j) (k:=j) (ks:=q.knobs) (ss:=q.bx) (by omega) (by omega) (by omega) j 0 (by omega)
   rw[List.drop_zero,show q.knobs.length=(q.knobs.map af).length from(List.length_map _).symm]at this
   exact Eq.trans (by kernel_rfl) this
  ·rfl
end
end Go.V
