/- Fields, ports and args of nodes, in the program and in the reference: right, linked, at once; the reference's order of a net. Conditions: those that each theorem names. (Names are short so that the claim keeps to its size.) -/
import Derived.Test.YtmgjhnjiljmmkaaNA
import Derived.Test.YtmgjhnjiljmmkaaVE
import Derived.Test.YtmgjhnjiljmmkaaVI
import Derived.Test.YtmgjhnjiljmmkaaVF
set_option linter.unusedSimpArgs false
set_option linter.unusedVariables false
set_option maxRecDepth 100000
namespace Go.V
def cf (x:Nf):Bool:=(x.fk.data.toList==[]&&(ak x.fi 0&&(ak x.ff 0&&(x.fr.data.toList==[]&&x.fo.data.toList==[]))))
def EV (x:Nf):Bool:=I5 x.fk x.fi x.ff x.fr x.fo
abbrev Zn (x:Nf):PV:=pP x.fk x.fi x.ff x.fr x.fo
def Cs (c:Nat) (n m:Int) (ao:List Qn):Bool:=
 bif Nat.beq c 27 then aj 0 n&&aj n 4096
 else bif Nat.beq c 28 then aj 0 n&&(aj n m&&aj m 4096)
 else bif Nat.beq c 32 then cS ao
 else bif Nat.beq c 39|| Nat.beq c 40 then aj 1 n&&aj n 8
 else true
def nk (s:ES) (x:Nf):Bool:=
 (bif s.name then pQ x.name else x.name.data.toList==[])&&((s.N|| ak x.n 0)&&((s.M|| ak x.m 0)&&((bif s.fmt then EV x else cf x)&&
  (!au x.ao.length s.least&&(!au s.TU x.ao.length&&(x.ao.all eB&&Cs (aF x.op) x.n x.m x.ao))))))
section
variable {E:Nat→aw} {k k':Nat} {v0 v1 v2 v3 v4 v5 v6 v7 v8 v9 v10 v11 v12 v13:PV}
theorem PJ (hE:mo E) (hk:KK+4≤k) {op:ByteArray} {m n':Int} {l:List Qn} (hl:l.length<bf):∀(n j:Nat),l.length-j<n→GA (E k) k' n (.str op) (iv n') (iv m) (.sl (l.map Qn.pv)) (iv j)=rB ((l.drop j).all eB&&Cs (aF op) n' m l)
 | 0,j,h=>by omega
 | n+1,j,h=>by
  have jR:=hl
  unfold bf at jR
  rw[Ew]
  by_cases hj:j<l.length
  ·have hn:nth default (l.map Qn.pv) j=l[j].pv:=aK _ _ _ _ hj
   simp only[TT,ab,aa,Ty.eq,hj,hn,f85 hE (show KK+3≤k by omega),aq (show j<4611686018427387904 by omega),PJ hE hk hl n (j+1) (by omega)]
   rw[bb hj,List.all_cons]
   cases eB l[j]<;>rfl
  ·rw[aT (by omega)]
   simp only[TT,ab,aa,Ty.eq,hj,eO,gZ,hZ,du,dv,eP,h9,ia,ib,ic,ig,ij,ik,il,im,iq,mq,mr,mu,mv,ir,mw,iu,iw,iy,eQ,iz,cP,eR,dw,dx,eT,eU,eV,iA,iB,dy,dz,iC,kz,eW,eX,dA,my,mz,eY,eZ,Iy,f86 hE hk hl,List.all_nil]
   unfold Cs
   generalize aF op=c
   cases Nat.beq c 27<;>cases Nat.beq c 28<;>cases Nat.beq c 32<;>cases Nat.beq c 39<;>cases Nat.beq c 40<;>cases aj 0 n'<;>cases aj n' m<;>cases aj 1 n'<;>rfl
theorem f77 (hE:mo E) (hk:KK+5≤k) (s:ES) (x:Nf) (hl:x.ao.length<bf) (hs:x.name.size<bf):
  E k 77 [Ol s,aS x.op,aS x.name,aI x.n,aI x.m, .pv (.sl 128) (.sl (x.ao.map Qn.pv)), .pv (.st 52) (Zn x)]=rB (nk s x):=by
 obtain⟨j,hj,e⟩:=hE.at hk 77 [Ol s,aS x.op,aS x.name,aI x.n,aI x.m, .pv (.sl 128) (.sl (x.ao.map Qn.pv)), .pv (.st 52) (Zn x)] rfl rfl
 rw[e,R77]
 have Dz:=j9 hl hj
 obtain⟨s1,s2,s3,s4,s5,s6,s7,s8,s9⟩:=s
 have c3:(ES.pv ⟨s1,s2,s3,s4,s5,s6,s7,s8,s9⟩).cell 3= .bool s4:=rfl
 have c4:(ES.pv ⟨s1,s2,s3,s4,s5,s6,s7,s8,s9⟩).cell 4= .bool s5:=rfl
 have c5:(ES.pv ⟨s1,s2,s3,s4,s5,s6,s7,s8,s9⟩).cell 5= .bool s6:=rfl
 have c6:(ES.pv ⟨s1,s2,s3,s4,s5,s6,s7,s8,s9⟩).cell 6= .bool s7:=rfl
 have c7:(ES.pv ⟨s1,s2,s3,s4,s5,s6,s7,s8,s9⟩).cell 7=iv s8:=rfl
 have c8:(ES.pv ⟨s1,s2,s3,s4,s5,s6,s7,s8,s9⟩).cell 8=iv s9:=rfl
 have h3:∀ {v4 v5 v6 v7 v8 v9 v10:PV},bE (E j) j (.str x.op) (iv x.n) (iv x.m) (.sl (x.ao.map Qn.pv)) v4 v5 v6 v7 v8 v9 v10 (iv s8) (iv s9)=rB (!au x.ao.length s8&&(!au s9 x.ao.length&&(x.ao.all eB&&Cs (aF x.op) x.n x.m x.ao))):=by
  intros
  rw[LD]
  simp only[TT,ab,aa,Ty.eq,LC]
  cases au (x.ao.length:Int) s8
  ·cases au s9 (x.ao.length:Int)
   ·exact PJ hE hj hl j 0 (by omega)
   ·rfl
  ·rfl
 simp only[c3,c4,c5,c6,c7,c8,h3,LB,TT,ab,aa,Ty.eq,Xo,Xp,Xq,Xr,Xs,f83 hE (show KK+1≤j by omega) _ hs]
 unfold nk
 have h84:=f84 hE (show KK+1≤j by omega) x.fk x.fi x.ff x.fr x.fo
 simp only[h84,ab,aa,Ty.eq,tB]
 unfold EV cf
 skip
 generalize (!au (x.ao.length:Int) s8&&(!au s9 (x.ao.length:Int)&&(x.ao.all eB&&Cs (aF x.op) x.n x.m x.ao)))=t
 generalize (x.fk.data.toList==[]&&(ak x.fi 0&&(ak x.ff 0&&(x.fr.data.toList==[]&&x.fo.data.toList==[]))))=f0
 generalize I5 x.fk x.fi x.ff x.fr x.fo=fb
 generalize pQ x.name=pb
 generalize (x.name.data.toList==[])=nb
 generalize ak x.n 0=e1
 generalize ak x.m 0=e2
 cases s6<;>cases pb<;>cases nb<;>first | rfl | skip
 all_goals (cases s4<;>cases e1<;>first | rfl | skip)
 all_goals (cases s5<;>cases e2<;>first | rfl | skip)
 all_goals (cases s7<;>cases f0<;>cases fb<;>rfl)
end
end Go.V
namespace Go.V
open Go.Proofs
def mA (x:Nf):PV:= .agg [.str x.op, .str x.name,iv x.n,iv x.m, .sl (x.ao.map Qn.pv), .str x.fk,iv x.fi,iv x.ff, .str x.fr, .str x.fo, .sl []]
abbrev ry (x:Nf):AO:= .pv (.st 142) (mA x)
section
variable (x:Nf)
theorem T1:(mA x).cell 0= .str x.op:=rfl
theorem Ve:(mA x).cell 1= .str x.name:=rfl
theorem Vf:(mA x).cell 2=iv x.n:=rfl
theorem Vg:(mA x).cell 3=iv x.m:=rfl
theorem Vh:(mA x).cell 4= .sl (x.ao.map Qn.pv):=rfl
theorem Vi:(mA x).cell 5= .str x.fk:=rfl
theorem Vj:(mA x).cell 6=iv x.fi:=rfl
theorem Vk:(mA x).cell 7=iv x.ff:=rfl
theorem Vl:(mA x).cell 8= .str x.fr:=rfl
theorem Vm:(mA x).cell 9= .str x.fo:=rfl
theorem Mh:(mA x).cell 10= .sl []:=rfl
theorem Ah:PV.agg [.str x.op, .str x.name,iv x.n,iv x.m, .sl (x.ao.map Qn.pv), .str x.fk,iv x.fi,iv x.ff, .str x.fr, .str x.fo, .sl []]=mA x:=rfl
end
theorem Mi (a b:Int) (c:Bool):cc (List.map (ai Try.prog) #[3,3,4].toList) (some ([aI a,aI b,aB c],[]))=true:=by kernel_rfl
theorem EW (a b c:Int):cc (List.map (ai Try.prog) #[3,3,29].toList) (some ([aI a,aI b,aI c],[]))=true:=by kernel_rfl
def kU (c:Nat):Int×Int×Bool:=
 if c<7∨c=26∨c=27∨c=29∨c=33 then(1,1,true)
 else if c=7 then(1,0,true)
 else if c=8∨c=31∨c=32 then(0,1,true)
 else if c<25∨c=28 then(2,1,true)
 else if c=25∨c=30 then(3,1,true)
 else(0,0,false)
def Ct (c:Nat):Int:=if 34≤c∧c<39 then 2 else if 39≤c∧c<43 then 1 else if(kU c).2.2 then 0 else-1
def aJ (x:Nf):Bool:=
 x.ao.all eB&&
 ((bif Nat.beq (aF x.op) 27 then aj 0 x.n&&aj x.n 4096 else bif Nat.beq (aF x.op) 28 then aj 0 x.n&&aj x.n x.m else bif Nat.beq (aF x.op) 39|| Nat.beq (aF x.op) 40 then aj 1 x.n&&aj x.n 8 else ak x.n 0)&&
 ((bif Nat.beq (aF x.op) 28 then aj x.m 4096 else ak x.m 0)&&
 ((bif Nat.beq (aF x.op) 8 then ak x.ao.length 1 else bif Nat.beq (aF x.op) 29|| (Nat.beq (aF x.op) 30|| Nat.beq (aF x.op) 31)then aj 1 x.ao.length&&aj x.ao.length 256 else bif Nat.beq (aF x.op) 32 then cS x.ao else ak x.ao.length 0)&&
 ((bif Nat.beq (aF x.op) 32|| Nat.beq (aF x.op) 33 then pQ x.name else x.name.data.toList==[])&&
 (bif Nat.beq (aF x.op) 26 then EV x else cf x)))))
section
variable {call:aw} {k:Nat} {v0 v1 v2 v3 v4 v5 v6 v7 v8 v9 v10 v11 v12 v13 v14 v15 v16 v17:PV} {b0 b1 b2 b3 b4:Bool}
theorem Rs:gS call k (.bool b0) (.bool b1) (.bool b2) (.bool b3) (.bool b4)=rB (b0&&(b1&&(b2&&(b3&&b4)))):=by
 rw[HZ];simp only[tB]
 cases b0<;>cases b1<;>cases b2<;>cases b3<;>rfl
end
section
variable {E:Nat→aw} {k k':Nat} {v0 v1 v2 v3 v4 v5 v6 v7 v8 v9 v10 v11 v12 v13:PV}
theorem f98 (hE:mo E) (hk:KK+1≤k) (s:ByteArray):E k 98 [aS s]=some ([aI (kU (aF s)).1,aI (kU (aF s)).2.1,aB (kU (aF s)).2.2],[]):=by
 obtain⟨j,hj,e⟩:=hE.at hk 98 [aS s] rfl rfl
 rw[e,R98]
 simp only[H5,H6,H7,H8,tS,eO,gZ,hZ,du,dv,eP,h9,ia,ib,ic,ig,ij,ik,il,im,iq,mq,mr,mu,mv,ir,mw,iu,iw,iy,eQ,iz,cP,eR,dw,dx,eT,eU,eV,iA,iB,dy,dz,iC,kz,eW,eX,dA,my,mz,eY,eZ]
 rcases Ae (lO s)with h | h | h | h | h | h | h | h | h | h | h | h | h | h | h | h | h | h | h | h | h | h | h | h | h | h | h | h | h | h | h | h | h | h | h | h | h | h | h | h | h | h | h | h | h | h | h | h<;>rw[h]<;>rfl
theorem f96 (hE:mo E) (hk:KK+2≤k) (s:ByteArray):E k 96 [aS s]=rI (Ct (aF s)):=by
 obtain⟨j,hj,e⟩:=hE.at hk 96 [aS s] rfl rfl
 rw[e,R96]
 simp only[Lj,HY,tS,eO,gZ,hZ,du,dv,eP,h9,ia,ib,ic,ig,ij,ik,il,im,iq,mq,mr,mu,mv,ir,mw,iu,iw,iy,eQ,iz,cP,eR,dw,dx,eT,eU,eV,iA,iB,dy,dz,iC,kz,eW,eX,dA,my,mz,eY,eZ,f98 hE hj,Mi]
 rcases Ae (lO s)with h | h | h | h | h | h | h | h | h | h | h | h | h | h | h | h | h | h | h | h | h | h | h | h | h | h | h | h | h | h | h | h | h | h | h | h | h | h | h | h | h | h | h | h | h | h | h | h<;>rw[h]<;>rfl
theorem PK (hE:mo E) (hk:KK+4≤k) {x:Nf} (hx:nO x):∀(n j:Nat),x.ao.length-j<n→Gj (E k) k' n (.str x.op) (.str x.name) (iv x.n) (iv x.m) (.sl (x.ao.map Qn.pv)) (.str x.fk) (iv x.fi) (iv x.ff) (.str x.fr) (.str x.fo) v10 (.sl (x.ao.map Qn.pv)) (iv x.ao.length) (iv j)=rB ((x.ao.drop j).all eB&&(
 ((bif Nat.beq (aF x.op) 27 then aj 0 x.n&&aj x.n 4096 else bif Nat.beq (aF x.op) 28 then aj 0 x.n&&aj x.n x.m else bif Nat.beq (aF x.op) 39|| Nat.beq (aF x.op) 40 then aj 1 x.n&&aj x.n 8 else ak x.n 0)&&
 ((bif Nat.beq (aF x.op) 28 then aj x.m 4096 else ak x.m 0)&&
 ((bif Nat.beq (aF x.op) 8 then ak x.ao.length 1 else bif Nat.beq (aF x.op) 29|| (Nat.beq (aF x.op) 30|| Nat.beq (aF x.op) 31)then aj 1 x.ao.length&&aj x.ao.length 256 else bif Nat.beq (aF x.op) 32 then cS x.ao else ak x.ao.length 0)&&
 ((bif Nat.beq (aF x.op) 32|| Nat.beq (aF x.op) 33 then pQ x.name else x.name.data.toList==[])&&
 (bif Nat.beq (aF x.op) 26 then EV x else cf x)))))))
 | 0,j,h=>by omega
 | n+1,j,h=>by
  have hl:=hx.GK
  have jR:=hl
  unfold bf at jR
  rw[Eb]
  by_cases hj:j<x.ao.length
  ·have hn:nth default (x.ao.map Qn.pv) j=x.ao[j].pv:=aK _ _ _ _ hj
   simp only[TT,ab,aa,Ty.eq,hj,hn,I4,f101 hE (show KK+3≤k by omega) _ (hx.ao _ (bz hj)).1,aq (show j<4611686018427387904 by omega),PK hE hk hx n (j+1) (by omega)]
   rw[bb hj,List.all_cons]
   cases eB x.ao[j]<;>rfl
  ·rw[aT (by omega)]
   have Xt:=f102 hE (show KK+1≤k by omega) x.fk x.fi x.ff x.fr x.fo
   have Xu:=f103 hE hk hl (fun q hq=>(hx.ao q hq).1)
   have Xv:=f104 hE (show KK+1≤k by omega) _ hx.name
   simp only[TT,ab,aa,Ty.eq,hj,eO,gZ,hZ,du,dv,eP,h9,ia,ib,ic,ig,ij,ik,il,im,iq,mq,mr,mu,mv,ir,mw,iu,iw,iy,eQ,iz,cP,eR,dw,dx,eT,eU,eV,iA,iB,dy,dz,iC,kz,eW,eX,dA,my,mz,eY,eZ,H2,H3,H4,Rs,Xt,Xu,Xv,List.all_nil]
   unfold EV cf
   rcases Ae (lO x.op)with h | h | h | h | h | h | h | h | h | h | h | h | h | h | h | h | h | h | h | h | h | h | h | h | h | h | h | h | h | h | h | h | h | h | h | h | h | h | h | h | h | h | h | h | h | h | h | h<;>rw[h]
   all_goals first | rfl | skip
   all_goals first | (cases aj 0 x.n<;>rfl) | (cases aj 1 x.n<;>rfl) | (cases aj 1 (x.ao.length:Int)<;>rfl)
theorem f97 (hE:mo E) (hk:KK+5≤k) {x:Nf} (hx:nO x):E k 97 [ry x]=rB (aJ x):=by
 obtain⟨j,hj,e⟩:=hE.at hk 97 [ry x] rfl rfl
 rw[e,R97]
 simp only[T1,Ve,Vf,Vg,Vh,Vi,Vj,Vk,Vl,Vm,Mh,tL,List.length_map]
 exact PK hE hj hx j 0 (by have:=j9 hx.GK hj;omega)
end
end Go.V
namespace Go.V
open Go.Proofs
def ax (x:Nf):Bool:=ak (Ct (aF x.op)) 0&&aJ x
abbrev Mj (ks ss:List PV) (b:Bool):AO:= .box 156 [.arr 164 ks, .arr 9 ss,aB b]
theorem vY {l:List Qn} (h:cS l=true):∃a b c d,l=[a,b,c,d]:=by
 unfold cS at h
 rw[Bool.and_eq_true]at h
 obtain⟨_,h⟩:=h
 split at h
 ·exact⟨_,_,_,_,rfl⟩
 ·cases h
section
variable {E:Nat→aw} {k k':Nat} {v0 v1 v2 v3 v4 v5 v6 v7 v8 v9 v10 v11 v12 v13:PV}
theorem f88 (hE:mo E) (hk:KK+6≤k) {x:Nf} (hx:nO x):E k 88 [ry x]=rB (ax x):=by
 obtain⟨j,hj,e⟩:=hE.at hk 88 [ry x] rfl rfl
 rw[e,R88]
 simp only[T1,Ve,Vf,Vg,Vh,Vi,Vj,Vk,Vl,Vm,Mh,tL,f96 hE (show KK+2≤j by omega),ab,aa,Ty.eq,tI,decide_true,cond_true,Ah,f97 hE hj hx,Ll]
 unfold ax
 obtain⟨m,rfl⟩:∃m,j=m+1:=⟨j-1,by have:=bN;omega⟩
 rw[Ef]
 cases hq:ak (Ct (aF x.op)) 0
 ·rfl
 ·cases aJ x<;>rfl
theorem f89 (hE:mo E) (hk:KK+1≤k) (x:Nf):E k 89 [ry x]=rI 1:=by
 obtain⟨j,hj,e⟩:=hE.at hk 89 [ry x] rfl rfl
 obtain⟨m,rfl⟩:∃m,j=m+1:=⟨j-1,by have:=bN;omega⟩
 rw[e,R89,D4];rfl
theorem f90 (hE:mo E) (hk:KK+1≤k) (x:Nf):E k 90 [ry x]=rI 1:=by
 obtain⟨j,hj,e⟩:=hE.at hk 90 [ry x] rfl rfl
 obtain⟨m,rfl⟩:∃m,j=m+1:=⟨j-1,by have:=bN;omega⟩
 rw[e,R90,D5];rfl
theorem f91 (hE:mo E) (hk:KK+2≤k) (x:Nf):E k 91 [ry x]=some ([aI (kU (aF x.op)).1,aI (kU (aF x.op)).2.1,aI 0],[]):=by
 obtain⟨j,hj,e⟩:=hE.at hk 91 [ry x] rfl rfl
 rw[e,R91]
 simp only[T1,Mh,tL,tS,f98 hE hj,Mi]
 rfl
theorem f100 (hE:mo E) (hk:KK+1≤k) (a0 a1 a2 a3 a4 a5 a6 a7 a8:PV) (ss:List PV) (b:Bool):E k 100 [Mj [] ss b, .pv (.st 164) (.agg [a0,a1,a2,a3,a4,a5,a6,a7,a8, .bool false])]=some ([],[Mj [.agg [a0,a1,a2,a3,a4,a5,a6,a7,a8, .bool false]] ss b]):=by
 obtain⟨j,hj,e⟩:=hE.at hk 100 [Mj [] ss b, .pv (.st 164) (.agg [a0,a1,a2,a3,a4,a5,a6,a7,a8, .bool false])] rfl rfl
 obtain⟨m,rfl⟩:∃m,j=m+1:=⟨j-1,by have:=bN;omega⟩
 rw[e,Xc,Cb];kernel_rfl
theorem l92 {ks ss:List PV} {b:Bool} {n:Nat} (hn:0<n):zN (E k) k n v0 v1 v2 v3 v4 v5 v6 v7 v8 v9 v10 (.sl []) (iv 0) (iv 0) ks ss (.bool b)=some ([],[Mj ks ss b]):=by
 obtain⟨m,rfl⟩:∃m,n=m+1:=⟨n-1,by omega⟩
 rw[Ca];rfl
theorem f92 (hE:mo E) (hk:KK+2≤k) {x:Nf} (hx:ax x=true):∃ks ss,E k 92 [Mj [] [] false,ry x]=some ([],[Mj ks ss false])∧ks.length≤1∧(ks=[]∨ss=[]):=by
 obtain⟨j,hj,e⟩:=hE.at hk 92 [Mj [] [] false,ry x] rfl rfl
 have Dd:0<j:=by have:=bN;omega
 have Nq:∀(ks ss:List PV),sy (E j) j (.str x.op) (.str x.name) (iv x.n) (iv x.m) (.sl (x.ao.map Qn.pv)) (.str x.fk) (iv x.fi) (iv x.ff) (.str x.fr) (.str x.fo) (.sl []) ks ss (.bool false)=some ([],[Mj ks ss false]):=by
  intro ks ss
  rw[IL]
  exact l92 Dd
 rw[e,R92]
 simp only[T1,Ve,Vf,Vg,Vh,Vi,Vj,Vk,Vl,Vm,Mh,tS,tL,eO,gZ,hZ,du,dv,eP,h9,ia,ib,ic,ig,ij,ik,il,im,iq,mq,mr,mu,mv,ir,mw,iu,iw,iy,eQ,iz,cP,eR,dw,dx,eT,eU,eV,iA,iB,dy,dz,iC,kz,eW,eX,dA,my,mz,eY,eZ,List.length_map]
 cases Ou:Nat.beq (aF x.op) 32
 ·cases T2:Nat.beq (aF x.op) 33
  ·refine⟨[],[], ?_,by simp, .inl rfl⟩
   exact Nq [] []
  ·refine⟨[],[.str x.name], ?_,by simp, .inl rfl⟩
   simp only[cond_true,cond_false]
   obtain⟨m,rfl⟩:∃m,j=m+1:=⟨j-1,by omega⟩
   rw[EC]
   refine Eq.trans ?_ (Nq [] [.str x.name])
   kernel_rfl
 ·have Td:cS x.ao=true:=by
   unfold ax aJ at hx
   have e0:aF x.op=32:=Nat.eq_of_beq_eq_true Ou
   rw[e0]at hx
   simp only[Bool.and_eq_true]at hx
   exact hx.2.2.2.2.1
  obtain⟨a,b,c,d,hl⟩:=vY Td
  rw[hl]at Nq ⊢
  have Xw:=f100 hE hj (.str x.name) (iv a.n) (iv a.d) (iv b.n) (iv b.d) (iv c.n) (iv c.d) (iv d.n) (iv d.d) [] false
  refine⟨[.agg [.str x.name,iv a.n,iv a.d,iv b.n,iv b.d,iv c.n,iv c.d,iv d.n,iv d.d, .bool false]],[], ?_,by simp, .inr rfl⟩
  refine Eq.trans ?_ (Nq _ _)
  have e0:PV.agg [.str x.name,(nth default (List.map Qn.pv [a,b,c,d]) 0).cell 0,(nth default (List.map Qn.pv [a,b,c,d]) 0).cell 1,(nth default (List.map Qn.pv [a,b,c,d]) 1).cell 0,(nth default (List.map Qn.pv [a,b,c,d]) 1).cell 1,(nth default (List.map Qn.pv [a,b,c,d]) 2).cell 0,(nth default (List.map Qn.pv [a,b,c,d]) 2).cell 1,(nth default (List.map Qn.pv [a,b,c,d]) 3).cell 0,(nth default (List.map Qn.pv [a,b,c,d]) 3).cell 1,PV.bool false]= .agg [.str x.name,iv a.n,iv a.d,iv b.n,iv b.d,iv c.n,iv c.d,iv d.n,iv d.d, .bool false]:=rfl
  rw[e0,Xw]
  show _=_
  kernel_rfl
theorem T3 {ks:List PV} {n m1:Nat} (hn:0<n):LK (E k) k m1 n v0 v1 v2 v3 v4 v5 v6 v7 v8 v9 v10 (iv 0) (iv 0) (iv 0) ks ([]) (.bool false)=GC (E k) k m1 v10 (iv 1) ks ([]) (.bool false):=by
 obtain⟨m,rfl⟩:∃m,n=m+1:=⟨n-1,by omega⟩
 rw[ED];kernel_rfl
theorem f93 (hE:mo E) (hk:KK+1≤k) {ks ss:List PV} (h1:ks.length≤1) (h2:ks=[]∨ss=[]):E k 93 [Mj ks ss false]=some ([aB false],[Mj ks ss false]):=by
 obtain⟨j,hj,e⟩:=hE.at hk 93 [Mj ks ss false] rfl rfl
 obtain⟨m,rfl⟩:∃m,j=m+2:=⟨j-2,by have:=bN;omega⟩
 rw[e,R93]
 rcases h2 with rfl | rfl
 ·rw[nh]
  kernel_rfl
 ·rcases ks with _ | ⟨x,_ | ⟨y,r⟩⟩
  ·rw[nh];kernel_rfl
  ·rw[nh]
   have h5:=T3 (E:=E) (k:=m+2) (ks:=[x]) (m1:=m+1) (n:=m+2) (v0:=x.cell 0) (v1:=x.cell 1) (v2:=x.cell 2) (v3:=x.cell 3) (v4:=x.cell 4) (v5:=x.cell 5) (v6:=x.cell 6) (v7:=x.cell 7) (v8:=x.cell 8) (v9:=x.cell 9) (v10:=iv 1) (by omega)
   rw[nh]at h5
   refine Eq.trans ?_ (h5.trans ?_)
   ·kernel_rfl
   ·kernel_rfl
  ·simp at h1
theorem f79 (hE:mo E) (hk:KK+7≤k) {x:Nf} (hx:nO x):E k 79 [ry x]=(bif ax x then some ([aI (kU (aF x.op)).1,aI (kU (aF x.op)).2.1,aI 0],[])else some ([aI 0,aI 0,aI 2],[])):=by
 obtain⟨j,hj,e⟩:=hE.at hk 79 [ry x] rfl rfl
 rw[e,R79]
 simp only[T1,Ve,Vf,Vg,Vh,Vi,Vj,Vk,Vl,Vm,Mh,Ah,f88 hE hj hx,f89 hE (show KK+1≤j by omega),f90 hE (show KK+1≤j by omega),f91 hE (show KK+2≤j by omega),EW]
 cases fy:ax x
 ·rfl
 ·obtain⟨ks,ss,h1,h2,h3⟩:=f92 hE (show KK+2≤j by omega) fy
  simp only[h1,cZ,ch,bD,nth,ux,f93 hE (show KK+1≤j by omega) h2 h3]
  rfl
end
end Go.V
namespace Go.V
open Go.Proofs
theorem GP (a b c:Int) (d:Bool):cc (List.map (ai Try.prog) #[3,3,3,4].toList) (some ([aI a,aI b,aI c,aB d],[]))=true:=by kernel_rfl
theorem Ov (s:ES) (d:Bool):cc (List.map (ai Try.prog) #[121,4].toList) (some ([Ol s,aB d],[]))=true:=by kernel_rfl
theorem T4 (a b:Int):cc (List.map (ai Try.prog) #[3,3].toList) (some ([aI a,aI b],[]))=true:=by kernel_rfl
theorem Sa (a b c:AO) (r:List AO) (l:List AO):bk 0 (some (.pv .bool (.bool true)::r,l))= .bool true:=rfl
def ja (x:Nf):Bool:=x.name.data.toList==[]&&(ak x.m 0&&(ak x.ao.length 0&&cf x))
def aR (x:Node):Bool:=
 (
  cg (aF x.1.op) x.1.args.length).2.2.2&&(ak x.1.args.length (cg (aF x.1.op) x.1.args.length).1&&
  (
   bif Nat.beq (aF x.1.op) 43|| Nat.beq (aF x.1.op) 46 then ja x.1&&ak x.2.length 0
   else bif Nat.beq (aF x.1.op) 44|| Nat.beq (aF x.1.op) 45 then ja x.1&&(ak x.1.n 0&&ak x.2.length 0)
   else bif Nat.beq (aF x.1.op) 39 then ja x.1&&(aj 2 x.1.n&&(aj x.1.n 8&&ak x.2.length 1))
   else !(Nat.beq (aF x.1.op) 27&&au x.1.n 1)&&(ak x.2.length 0&&nk ((Oj (aF x.1.op)).getD ET) x.1)))
theorem Rt (s:ES):PV.agg [s.pv.cell 0,s.pv.cell 1,s.pv.cell 2,s.pv.cell 3,s.pv.cell 4,s.pv.cell 5,s.pv.cell 6,s.pv.cell 7,s.pv.cell 8]=s.pv:=rfl
theorem EX (t:Ty) (v:PV) (r l:List AO):bk 0 (some (.pv t v::r,l))=v:=rfl
theorem vZ (a:AO) (t:Ty) (v:PV) (r l:List AO):bk 1 (some (a:: .pv t v::r,l))=v:=rfl
theorem Mk (a b:AO) (t:Ty) (v:PV) (r l:List AO):bk 2 (some (a::b:: .pv t v::r,l))=v:=rfl
theorem Ru (a b c:AO) (t:Ty) (v:PV) (r l:List AO):bk 3 (some (a::b::c:: .pv t v::r,l))=v:=rfl
section
variable {E:Nat→aw} {k k':Nat} {v0 v1 v2 v3 v4 v5 v6 v7 v8 v9 v10 v11 v12 v13 v14:PV}
theorem f64 (hE:mo E) (hk:KK+6≤k) (x:Node) (hx:nO x.1) (hl:x.2.length<bf):E k 64 [j8 x]=rB (aR x):=by
 obtain⟨j,hj,e⟩:=hE.at hk 64 [j8 x] rfl rfl
 rw[e,R64]
 have Xx:vm (E j) j (.str x.1.op) (.str x.1.name) (iv x.1.n) (iv x.1.m) (.sl (x.1.ao.map Qn.pv)) (.str x.1.fk) (iv x.1.fi) (iv x.1.ff) (.str x.1.fr) (.str x.1.fo) (bH x.1.args) (.sl (x.2.map Net.pv))=rB (ak x.2.length 0&&nk ((Oj (aF x.1.op)).getD ET) x.1):=by
  rw[HS]
  simp only[f67 hE (show KK+1≤j by omega),Ov,EX,vZ,TT,ab,aa,Ty.eq,Rt,f77 hE hj _ x.1 hx.GK hx.name,Nat.beq_refl]
  cases ak (x.2.length:Int) 0<;>rfl
 simp only[TT,ab,aa,Ty.eq,f49 hE (show KK+2≤j by omega) _ _ hx.yd,GP,EX,vZ,Mk,Ru,K4,K6,K5,HR,Xx,eO,gZ,hZ,du,dv,eP,h9,ia,ib,ic,ig,ij,ik,il,im,iq,mq,mr,mu,mv,ir,mw,iu,iw,iy,eQ,iz,cP,eR,dw,dx,eT,eU,eV,iA,iB,dy,dz,iC,kz,eW,eX,dA,my,mz,eY,eZ]
 unfold aR
 generalize (ak (x.2.length:Int) 0&&nk ((Oj (aF x.1.op)).getD ET) x.1)=tl
 have hb:ja x.1=(x.1.name.data.toList==[]&&(ak x.1.m 0&&(ak x.1.ao.length 0&&cf x.1))):=rfl
 rw[hb]
 unfold cf
 generalize (x.1.fk.data.toList==[]&&(ak x.1.fi 0&&(ak x.1.ff 0&&(x.1.fr.data.toList==[]&&x.1.fo.data.toList==[]))))=f0
 generalize (cg (aF x.1.op) x.1.args.length).2.2.2=a4
 generalize ak (x.1.args.length:Int) (cg (aF x.1.op) x.1.args.length).1=a0
 cases a4
 ·rfl
 cases a0
 ·rfl
 generalize (x.1.name.data.toList==[])=b1
 generalize ak x.1.m 0=b2
 generalize ak (x.1.ao.length:Int) 0=b3
 generalize aF x.1.op=c
 cases Nat.beq c 43
 ·cases Nat.beq c 46
  ·cases Nat.beq c 44
   ·cases Nat.beq c 45
    ·cases Nat.beq c 39
     ·cases Nat.beq c 27
      ·cases b1<;>cases b2<;>cases b3<;>rfl
      ·cases au x.1.n 1<;>cases b1<;>cases b2<;>cases b3<;>rfl
     ·cases aj 2 x.1.n<;>cases aj x.1.n 8<;>cases b1<;>cases b2<;>cases b3<;>cases f0<;>rfl
    ·cases ak x.1.n 0<;>cases b1<;>cases b2<;>cases b3<;>cases f0<;>rfl
   ·cases ak x.1.n 0<;>cases b1<;>cases b2<;>cases b3<;>cases f0<;>rfl
  ·cases b1<;>cases b2<;>cases b3<;>cases f0<;>rfl
 ·cases b1<;>cases b2<;>cases b3<;>cases f0<;>rfl
end
end Go.V
namespace Go.V
open Go.Proofs
theorem Cu (t:Ty) (v:PV):fg (.pv t v)=v:=rfl
def bO (x:Node):Int×Int:=
 if aF x.1.op=43∨aF x.1.op=8∨aF x.1.op=32 then(0,0)
 else if aF x.1.op=44∨aF x.1.op=46 then(1,0)
 else if aF x.1.op=27∨aF x.1.op=45 then(3,2)
 else if aF x.1.op=28 then(4,2)
 else if aF x.1.op=31 then(2,2)
 else if aF x.1.op=30 then(5,2)
 else if aF x.1.op=33 then(2,1)
 else if aF x.1.op=39 then(match x.2 with | [m]=>(IntKind.i64.wrap (m.ins+2),2) | _=>(-1,0))
 else if aF x.1.op=0∨aF x.1.op=7 then(-1,0)
 else bif ax x.1 then((kU (aF x.1.op)).1,0)else(-1,0)
def aN (ins:Int) (x:Node):Bool:=
 (
  Nat.beq (aF x.1.op) 39|| !au 0 x.2.length)&&
  (
   bif Nat.beq (aF x.1.op) 43 then ja x.1&&(aj 0 x.1.n&&au x.1.n ins)
   else bif Nat.beq (aF x.1.op) 44|| Nat.beq (aF x.1.op) 45 then ja x.1&&ak x.1.n 0
   else bif Nat.beq (aF x.1.op) 39 then ja x.1&&(ak x.2.length 1&&(aj 2 x.1.n&&aj x.1.n 8))
   else bif Nat.beq (aF x.1.op) 46 then ja x.1
   else !(Nat.beq (aF x.1.op) 27&&au x.1.n 1)&&ax x.1)
section
variable {E:Nat→aw} {k k':Nat} {v0 v1 v2 v3 v4 v5 v6 v7 v8 v9 v10 v11 v12 v13 v14:PV}
theorem f80 (hE:mo E) (hk:KK+8≤k) (x:Node) (hx:nO x.1):E k 80 [j8 x]=some ([aI (bO x).1,aI (bO x).2],[]):=by
 obtain⟨j,hj,e⟩:=hE.at hk 80 [j8 x] rfl rfl
 rw[e,R80]
 simp only[TT,ab,aa,Ty.eq,Cu,Ah,f79 hE hj hx,Ly,Lz,Iw,Ix,eO,gZ,hZ,du,dv,eP,h9,ia,ib,ic,ig,ij,ik,il,im,iq,mq,mr,mu,mv,ir,mw,iu,iw,iy,eQ,iz,cP,eR,dw,dx,eT,eU,eV,iA,iB,dy,dz,iC,kz,eW,eX,dA,my,mz,eY,eZ]
 unfold bO
 by_cases pq:aF x.1.op=39
 ·rw[pq]
  rcases x with ⟨x,_ | ⟨m,_ | ⟨m2,ms⟩⟩⟩
  ·rfl
  ·simp only[List.map_cons,nth,Py,tI];rfl
  ·rw[eE (show(((m::m2::ms).length:Nat):Int)≠1 by simp;omega)];rfl
 ·cases fy:ax x.1
  ·rcases Ae (lO x.1.op)with h | h | h | h | h | h | h | h | h | h | h | h | h | h | h | h | h | h | h | h | h | h | h | h | h | h | h | h | h | h | h | h | h | h | h | h | h | h | h | h | h | h | h | h | h | h | h | h<;>rw[h]at pq ⊢ <;>first | rfl | exact absurd rfl pq
  ·rcases Ae (lO x.1.op)with h | h | h | h | h | h | h | h | h | h | h | h | h | h | h | h | h | h | h | h | h | h | h | h | h | h | h | h | h | h | h | h | h | h | h | h | h | h | h | h | h | h | h | h | h | h | h | h<;>rw[h]at pq ⊢ <;>first | rfl | exact absurd rfl pq
theorem f68 (hE:mo E) (hk:KK+8≤k) (n:Net) (x:Node) (hx:nO x.1):E k 68 [cn n,j8 x]=rB (aN n.ins x):=by
 obtain⟨j,hj,e⟩:=hE.at hk 68 [cn n,j8 x] rfl rfl
 rw[e,R68]
 simp only[TT,ab,aa,Ty.eq,Cu,Ah,f79 hE hj hx,Lv,Lu,Lt,Iu,eO,gZ,hZ,du,dv,eP,h9,ia,ib,ic,ig,ij,ik,il,im,iq,mq,mr,mu,mv,ir,mw,iu,iw,iy,eQ,iz,cP,eR,dw,dx,eT,eU,eV,iA,iB,dy,dz,iC,kz,eW,eX,dA,my,mz,eY,eZ]
 have hb:ja x.1=(x.1.name.data.toList==[]&&(ak x.1.m 0&&(ak x.1.ao.length 0&&cf x.1))):=rfl
 unfold aN
 rw[hb]
 unfold cf
 generalize (x.1.fk.data.toList==[]&&(ak x.1.fi 0&&(ak x.1.ff 0&&(x.1.fr.data.toList==[]&&x.1.fo.data.toList==[]))))=f0
 generalize (x.1.name.data.toList==[])=b1
 generalize ak x.1.m 0=b2
 generalize ak (x.1.ao.length:Int) 0=b3
 have hlf:(bif cc (List.map (ai Try.prog) #[3,3,29].toList) (bif ax x.1 then some ([aI (kU (aF x.1.op)).1,aI (kU (aF x.1.op)).2.1,aI 0],[])else some ([aI 0,aI 0,aI 2],[]))then
   some ([AO.pv Ty.bool (PV.bool (ak (bk 2 (bif ax x.1 then some ([aI (kU (aF x.1.op)).1,aI (kU (aF x.1.op)).2.1,aI 0],[])else some ([aI 0,aI 0,aI 2],[]))).toInt 0))],[])else none)=rB (ax x.1):=by
  cases ax x.1
  ·rw[cond_false,EW];rfl
  ·rw[cond_true,EW];rfl
 simp only[hlf]
 generalize ax x.1=lo
 generalize aF x.1.op=c
 cases Nat.beq c 39
 ·cases au 0 (x.2.length:Int)
  ·cases Nat.beq c 43
   ·cases Nat.beq c 44
    ·cases Nat.beq c 45
     ·cases Nat.beq c 46
      ·cases Nat.beq c 27
       ·cases b1<;>cases b2<;>cases b3<;>cases f0<;>rfl
       ·cases au x.1.n 1<;>cases b1<;>cases b2<;>cases b3<;>cases f0<;>rfl
      ·cases b1<;>cases b2<;>cases b3<;>cases f0<;>rfl
     ·cases b1<;>cases b2<;>cases b3<;>cases f0<;>rfl
    ·cases b1<;>cases b2<;>cases b3<;>cases f0<;>rfl
   ·cases aj 0 x.1.n<;>cases b1<;>cases b2<;>cases b3<;>cases f0<;>rfl
  ·rfl
 ·cases Nat.beq c 43
  ·cases Nat.beq c 44
   ·cases Nat.beq c 45
    ·cases ak (x.2.length:Int) 1<;>cases aj 2 x.1.n<;>cases b1<;>cases b2<;>cases b3<;>cases f0<;>rfl
    ·cases b1<;>cases b2<;>cases b3<;>cases f0<;>rfl
   ·cases b1<;>cases b2<;>cases b3<;>cases f0<;>rfl
  ·cases aj 0 x.1.n<;>cases b1<;>cases b2<;>cases b3<;>cases f0<;>rfl
end
end Go.V
namespace Go.V
open Go.Proofs
def tQ (ns:List Node) (a:Int):Bool:=match ns[a.toNat]? with | some y=>Nat.beq (aF y.1.op) 39 | none=>false
def wa (ns:List Node) (c:Nat) (lim:Int) (j:Nat) (a:Int):Bool:=
 !au a (-1)&&(!aj ns.length a&&(!(au a 0&&au j lim)&&(au a 0|| tQ ns a==Nat.beq c 46)))
def bI (ns:List Node) (c:Nat) (lim:Int):Nat→List Int→Bool
 | _,[]=>true
 | j,a::l=>wa ns c lim j a&&bI ns c lim (j+1) l
def nm (ns:List Node) (x:Nf):Bool:=
 match x.args with
 | a::_=>(match ns[a.toNat]? with
  | some u=>(match u.2 with | [m]=>aj 0 x.n&&au x.n m.outs.length | _=>false)
  | none=>false)
 | []=>false
def aG (ns:List Node) (x:Node):Bool:=
 ak x.1.args.length (bO x).1&&(bI ns (aF x.1.op) ((bO x).1- (bO x).2) 0 x.1.args&&(!Nat.beq (aF x.1.op) 46|| nm ns x.1))
theorem uq {ns:List Node} {a:Int} (h0:0≤a) (h:a<ns.length):∃(h':a.toNat<ns.length),tQ ns a=Nat.beq (aF (ns[a.toNat]).1.op) 39:=by
 have h':a.toNat<ns.length:=by omega
 refine⟨h', ?_⟩
 unfold tQ
 rw[List.getElem?_eq_getElem h']
theorem gT {a b:Int} (h:aj a b=true):a≤b:=of_decide_eq_true h
theorem jG {a b:Int} (h:aj a b=false):b<a:=by have:=of_decide_eq_false h;omega
theorem sG {a b:Int} (h:au a b=true):a<b:=of_decide_eq_true h
theorem cM {a b:Int} (h:au a b=false):b≤a:=by have:=of_decide_eq_false h;omega
theorem dW {a b:Int} (h:ak a b=true):a=b:=of_decide_eq_true h
theorem Ai {a b:Int} (h:ak a b=false):a≠b:=of_decide_eq_false h
section
variable {call:aw} {k k':Nat} {v0 v1 v2 v3 v4 v5 v6 v7 v8 v9 v10 v11 v12 v13 v14 v15 v16 v17 v18 v19 v20:PV}
theorem PL {ns:List Node} {x:Nf} {all free:Int} (cE:all=x.args.length) (nE:0≤free∧free≤2) (hl:x.args.length<bf) (hs:ns.length<bf) (Rv:aF x.op=46→all=1∧free=0):∀(n j:Nat),x.args.length-j<n→(0<j→∀a r,x.args=a::r→wa ns (aF x.op) (all-free) 0 a=true)→
  B3 call k n v0 (.sl (ns.map af)) v2 (.str x.op) v4 (iv x.n) v6 v7 v8 v9 v10 v11 v12 (bH x.args) v14 (iv all) (iv free) (bH x.args) (iv x.args.length) (iv j)=rB (bI ns (aF x.op) (all-free) j (x.args.drop j)&&(!Nat.beq (aF x.op) 46|| nm ns x))
 | 0,j,h,_=>by omega
 | n+1,j,h,hp=>by
  have jR:=hl
  unfold bf at jR
  rw[Ev]
  by_cases hj:j<x.args.length
  ·have hn:nth default (x.args.map iv) j=iv x.args[j]:=aK _ _ _ _ hj
   rw[bb hj,bI]
   have hw:IntKind.i64.wrap (all-free)=all-free:=bJ (by omega) (by omega)
   have step:wa ns (aF x.op) (all-free) j x.args[j]=true→B3 call k n v0 (.sl (ns.map af)) v2 (.str x.op) v4 (iv x.n) v6 v7 v8 v9 v10 v11 v12 (bH x.args) v14 (iv all) (iv free) (bH x.args) (iv x.args.length) (iv ((j+1:Nat):Int))=rB (bI ns (aF x.op) (all-free) (j+1) (x.args.drop (j+1))&&(!Nat.beq (aF x.op) 46|| nm ns x)):=by
    intro br
    refine PL cE nE hl hs Rv n (j+1) (by omega) (fun _ a r ha=> ?_)
    by_cases h0:j=0
    ·subst h0
     have:x.args[0]=a:=by simp[ha]
     rw[←this];exact br
    ·exact hp (by omega) a r ha
   simp only[TT,ab,aa,Ty.eq,hj,hn,Lw,Lx,Iv,aq (show j<4611686018427387904 by omega),hw,eO,gZ,hZ,du,dv,eP,h9,ia,ib,ic,ig,ij,ik,il,im,iq,mq,mr,mu,mv,ir,mw,iu,iw,iy,eQ,iz,cP,eR,dw,dx,eT,eU,eV,iA,iB,dy,dz,iC,kz,eW,eX,dA,my,mz,eY,eZ]
   generalize x.args[j]=a at*
   unfold wa at step ⊢
   cases h1:au a (-1)
   ·cases h2:aj ns.length a
    ·cases h3:au a 0
     ·have Jo:=cM h3
      have OP:=jG h2
      obtain⟨b6,Rw⟩:=uq (ns:=ns) Jo OP
      have DH:nth default (ns.map af) a.toNat=af ns[a.toNat]:=aK _ _ _ _ b6
      simp only[b7 Jo,dF OP,DH,R8,tS,kz, ←Rw,cond_true,cond_false,Bool.and_self]
      rw[h1,h2,h3]at step
      cases hu:(tQ ns a==Nat.beq (aF x.op) 46)
      ·simp
      ·rw[hu]at step
       simp only[Bool.not_true,cond_false]
       rw[step (by simp)]
       simp
     ·have Jo:=sG h3
      rw[ml Jo]
      rw[h1,h2,h3]at step
      cases h4:au (j:Int) (all-free)
      ·rw[h4]at step
       simp only[cond_true,cond_false]
       rw[step (by simp)]
       simp
      ·simp
    ·simp
   ·simp
  ·rw[aT (by omega),bI]
   simp only[TT,ab,aa,Ty.eq,hj,eO,gZ,hZ,du,dv,eP,h9,ia,ib,ic,ig,ij,ik,il,im,iq,mq,mr,mu,mv,ir,mw,iu,iw,iy,eQ,iz,cP,eR,dw,dx,eT,eU,eV,iA,iB,dy,dz,iC,kz,eW,eX,dA,my,mz,eY,eZ]
   cases h6:Nat.beq (aF x.op) 46
   ·rfl
   ·have Vn:=Nat.eq_of_beq_eq_true h6
    obtain⟨Xy,ha2⟩:=Rv Vn
    obtain⟨a,ha⟩:∃a,x.args=[a]:=List.length_eq_one_iff.1 (by omega)
    have br:=hp (by omega) a [] ha
    unfold wa at br
    simp only[Bool.and_eq_true,Bool.not_eq_true',Xy,ha2]at br
    obtain⟨_,c2,c3,_⟩:=br
    have h1:=jG c2
    have h0:0≤a:=by
     rw[dF (show((0:Nat):Int)<1-0 by decide),Bool.and_true]at c3
     exact cM c3
    have b6:a.toNat<ns.length:=by omega
    have DH:nth default (ns.map af) a.toNat=af ns[a.toNat]:=aK _ _ _ _ b6
    unfold nm
    rw[ha]
    simp only[List.getElem?_eq_getElem b6,TT,ab,aa,Ty.eq,List.map_cons,List.map_nil,nth,DH,List.length_cons,List.length_nil,b7 h0,dF h1]
    generalize (ns[a.toNat]).2=ms
    rcases ms with _ | ⟨m1,_ | ⟨m2,ms⟩⟩
    ·rfl
    ·simp only[List.map_cons,nth,Pz,tL,List.length_map]
     cases aj 0 x.n<;>rfl
    ·rw[eE (show(((m1::m2::ms).length:Nat):Int)≠1 by simp;omega)];rfl
end
theorem EY (x:Node):0≤(bO x).2∧(bO x).2≤2:=by
 unfold bO
 repeat' split
 all_goals first
  | (simp;done)
  | (cases ax x.1<;>simp)
theorem EZ {x:Node} (h:aF x.1.op=46):bO x=(1,0):=by
 unfold bO;rw[h];rfl
section
variable {E:Nat→aw} {k k':Nat}
theorem f69 (hE:mo E) (hk:KK+9≤k) (n:Net) (x:Node) (hx:nO x.1) (hn:n.nodes.length<bf):E k 69 [cn n,j8 x]=rB (aG n.nodes x):=by
 obtain⟨j,hj,e⟩:=hE.at hk 69 [cn n,j8 x] rfl rfl
 rw[e,R69]
 simp only[TT,ab,aa,Ty.eq,gH,f80 hE hj x hx,T4,EX,vZ]
 unfold aG
 cases hq:ak (x.1.args.length:Int) (bO x).1
 ·rfl
 ·refine(PL (dW hq).symm (EY x) hx.yd hn (fun h=> ?_) j 0 (by have:=j9 hx.yd hj;omega) (fun h=>by omega)).trans ?_
  ·rw[EZ h];exact⟨rfl,rfl⟩
  ·rw[List.drop_zero];rfl
end
end Go.V
namespace Go.V
open Go.Proofs
def lA (x:Nf):List Int:=
 bif Nat.beq (aF x.op) 27 then x.args.drop 2
 else bif Nat.beq (aF x.op) 28 then
  (bif au 0 x.n then [x.args.getD 1 0,x.args.getD 3 0]else [x.args.getD 0 0,x.args.getD 1 0,x.args.getD 3 0])
 else bif Nat.beq (aF x.op) 31 then x.args.drop 1
 else bif Nat.beq (aF x.op) 30 then [x.args.getD 2 0,x.args.getD 4 0]
 else x.args
def IsL (r:R) (l:List Int):Prop:=r=some ([aL l],[])∨r=some ([.arr 3 (l.map iv)],[])
def jH:List Qn→List Qn→Bool
 | [],[]=>true
 | a::l,b::m=>((ak a.n b.n&&ak a.d b.d)|| (!oT a&& !oT b))&&jH l m
 | _,_=>false
section
variable {E:Nat→aw} {k k':Nat} {v0 v1 v2 v3:PV}
theorem f81 (hE:mo E) (hk:KK+1≤k) (x:Node) (hx:x.1.args.length<bf) (ye:aF x.1.op=27→x.1.args.length=3) (I6:aF x.1.op=28→x.1.args.length=4) (Jw:aF x.1.op=31→x.1.args.length=2) (Jx:aF x.1.op=30→x.1.args.length=5):
  IsL (E k 81 [j8 x]) (lA x.1):=by
 obtain⟨j,hj,e⟩:=hE.at hk 81 [j8 x] rfl rfl
 rw[e,R81]
 simp only[TT,ab,aa,Ty.eq,eO,gZ,hZ,du,dv,eP,h9,ia,ib,ic,ig,ij,ik,il,im,iq,mq,mr,mu,mv,ir,mw,iu,iw,iy,eQ,iz,cP,eR,dw,dx,eT,eU,eV,iA,iB,dy,dz,iC,kz,eW,eX,dA,my,mz,eY,eZ]
 unfold lA
 cases U9:Nat.beq (aF x.1.op) 27
 ·cases Va:Nat.beq (aF x.1.op) 28
  ·cases Vc:Nat.beq (aF x.1.op) 31
   ·cases Vb:Nat.beq (aF x.1.op) 30
    ·left;rfl
    ·obtain⟨a,b,c,d,e,hl⟩:∃a b c d e,x.1.args=[a,b,c,d,e]:=by
      have:=Jx (Nat.eq_of_beq_eq_true Vb)
      match x.1.args,this with
      | [a,b,c,d,e],_=>exact⟨a,b,c,d,e,rfl⟩
     rw[hl];right;rfl
   ·have:=Jw (Nat.eq_of_beq_eq_true Vc)
    obtain⟨a,b,hl⟩:∃a b,x.1.args=[a,b]:=by
     match x.1.args,this with
     | [a,b],_=>exact⟨a,b,rfl⟩
    rw[hl];left;rfl
  ·obtain⟨a,b,c,d,hl⟩:∃a b c d,x.1.args=[a,b,c,d]:=by
    have:=I6 (Nat.eq_of_beq_eq_true Va)
    match x.1.args,this with
    | [a,b,c,d],_=>exact⟨a,b,c,d,rfl⟩
   rw[hl]
   cases au 0 x.1.n<;>(right;rfl)
 ·have:=ye (Nat.eq_of_beq_eq_true U9)
  obtain⟨a,b,c,hl⟩:∃a b c,x.1.args=[a,b,c]:=by
   match x.1.args,this with
   | [a,b,c],_=>exact⟨a,b,c,rfl⟩
  rw[hl];left;rfl
theorem Zo (hE:mo E) (hk:KK+2≤k) {l m:List Qn} (hl:l.length<bf) (hm:l.length=m.length):∀(n j:Nat),l.length-j<n→FZ (E k) k' n (.sl (l.map Qn.pv)) (.sl (m.map Qn.pv)) (iv j)=rB (jH (l.drop j) (m.drop j))
 | 0,j,h=>by omega
 | n+1,j,h=>by
  have jR:=hl
  unfold bf at jR
  rw[D2]
  by_cases hj:j<l.length
  ·have wM:j<m.length:=by omega
   have hn:nth default (l.map Qn.pv) j=l[j].pv:=aK _ _ _ _ hj
   have Rx:nth default (m.map Qn.pv) j=m[j].pv:=aK _ _ _ _ wM
   rw[bb hj,bb wM,jH]
   simp only[TT,ab,aa,Ty.eq,hj,wM,hn,Rx,K8,K7,f78 hE hk,aq (show j<4611686018427387904 by omega),Zo hE hk hl hm n (j+1) (by omega)]
   cases ak (l[j]).n (m[j]).n<;>cases ak (l[j]).d (m[j]).d<;>cases oT l[j]<;>cases oT m[j]<;>rfl
  ·rw[aT (by omega),aT (by omega)]
   simp only[TT,ab,aa,Ty.eq,hj];rfl
theorem wb:∀ {l m:List Qn},l.length≠m.length→jH l m=false
 | [],[],h=>absurd rfl h
 | [],_::_,_=>rfl
 | _::_,[],_=>rfl
 | a::l,b::m,h=>by
  rw[jH,wb (by simpa using h),Bool.and_false]
theorem f65 (hE:mo E) (hk:KK+3≤k) {l m:List Qn} (hl:l.length<bf):E k 65 [.pv (.sl 128) (.sl (l.map Qn.pv)), .pv (.sl 128) (.sl (m.map Qn.pv))]=rB (jH l m):=by
 obtain⟨j,hj,e⟩:=hE.at hk 65 [.pv (.sl 128) (.sl (l.map Qn.pv)), .pv (.sl 128) (.sl (m.map Qn.pv))] rfl rfl
 rw[e,R65]
 simp only[tL,List.length_map]
 by_cases h:l.length=m.length
 ·rw[lk (show(l.length:Int)=m.length by omega)]
  exact Zo hE hj hl h j 0 (by have:=j9 hl hj;omega)
 ·rw[eE (show(l.length:Int)≠m.length by omega),wb h];rfl
end
end Go.V
namespace Go.V
open Go.Proofs
def lP (d:List Bool) (x:Nf):Bool:=(cp x).all fun a=>d.getD a.toNat false
def mB (d:List Bool):Nat→List Node→Option Nat
 | _,[]=>none
 | i,x::r=>bif !d.getD i false&&lP d x.1 then some i else mB d (i+1) r
def oU (ns:List Node):Nat→List Bool→List Nat→List Nat
 | 0,_,out=>out
 | f+1,d,out=>match mB d 0 ns with
  | none=>out
  | some i=>oU ns f (d.set i true) (out++[i])
abbrev nv (l:List Nat):List PV:=l.map fun(i:Nat)=>iv ((i:Nat):Int)
theorem cN:∀ {p:Nat→Bool} {i:Nat} {l:List Int} {a:Int},a∈pick p i l→0≤a
 | p,i,[],a,h=>by cases h
 | p,i,b::l,a,h=>by
  rw[pick]at h
  cases hc:(p i&&aj 0 b)with
  | true=>
   rw[hc,cond_true]at h
   rcases List.mem_cons.1 h with rfl | h
   ·rw[Bool.and_eq_true]at hc;exact gT hc.2
   ·exact cN h
  | false=>rw[hc,cond_false]at h;exact cN h
theorem qq (d:List Bool) (i:Nat):nth default (d.map PV.bool) i= .bool (d.getD i false):=by
 induction d generalizing i with
 | nil=>cases i<;>rfl
 | cons b d ih=>
  cases i with
  | zero=>rfl
  | succ i=>simpa[nth]using ih i
theorem Ow {d:List Bool} {i:Nat} (h:d.length≤i):d.getD i false=false:=by
 rw[List.getD_eq_getElem?_getD,List.getElem?_eq_none h];rfl
theorem oV:∀ {d:List Bool} {i:Nat} {ns:List Node} {j:Nat},mB d i ns=some j→i≤j∧j<i+ns.length∧d.getD j false=false
 | d,i,[],j,h=>by cases h
 | d,i,x::r,j,h=>by
  rw[mB]at h
  cases hc:(!d.getD i false&&lP d x.1)with
  | true=>
   rw[hc,cond_true]at h
   cases h
   rw[Bool.and_eq_true,Bool.not_eq_true']at hc
   exact⟨Nat.le_refl _,by simp,hc.1⟩
  | false=>
   rw[hc,cond_false]at h
   obtain⟨h1,h2,h3⟩:=oV h
   exact⟨by omega,by simp;omega,h3⟩
def rz (d:List Bool):Nat:=d.count false
theorem Cv {d:List Bool} {i:Nat} (h:i<d.length) (hf:d.getD i false=false):rz (d.set i true)+1=rz d:=by
 unfold rz
 induction d generalizing i with
 | nil=>simp at h
 | cons b d ih=>
  cases i with
  | zero=>
   have:b=false:=by simpa using hf
   subst this
   simp
  | succ i=>
   have:=ih (i:=i) (by simpa using h) (by simpa using hf)
   simp only[List.set_cons_succ,List.count_cons]
   omega
section
variable {call:aw} {k m1 m2:Nat} {v0 v1 v2 v3 v4 v5 v6 v7 v8 v9 v10:PV} {w3 w4:List PV}
theorem PM {d:List Bool} {l:List Int} (hl:l.length≤1000) (h0:∀a∈l,0≤a):∀(n j:Nat) (b:Bool),l.length-j<n→
  uf call k m1 m2 n v0 v1 v2 (d.map PV.bool) w4 v5 v6 (.bool b) (l.map iv) (iv l.length) (iv j)=za call k m1 m2 v0 v1 v2 (d.map PV.bool) w4 v5 v6 (.bool (b&&(l.drop j).all fun a=>d.getD a.toNat false))
 | 0,j,b,h=>by omega
 | n+1,j,b,h=>by
  rw[zb]
  by_cases hj:j<l.length
  ·have hn:nth default (l.map iv) j=iv l[j]:=aK _ _ _ _ hj
   have ha:=h0 _ (bz hj)
   rw[bb hj,List.all_cons]
   simp only[TT,ab,aa,Ty.eq,hj,hn,BF,aq (show j<4611686018427387904 by omega),b7 ha,PM hl h0 n (j+1) _ (by omega),qq]
   generalize l[j]=a at*
   cases b
   ·rfl
   ·by_cases b6:a<d.length
    ·rw[dF b6];rfl
    ·rw[eg (by omega),Ow (d:=d) (i:=a.toNat) (by omega)];rfl
  ·rw[aT (by omega)]
   simp only[TT,ab,aa,Ty.eq,hj,List.all_nil]
end
section
variable {E:Nat→aw} {k m1:Nat} {v0 v1 v2 v3 v4 v5 v6 v7 v8 v9 v10:PV} {w3 w4:List PV}
theorem PN (hE:mo E) (hk:KK+3≤k) {ns:List Node} {d:List Bool} (hl:ns.length≤2000) (hd:d.length=ns.length) (ha:∀x∈ns,x.1.args.length≤1000):∀(n j:Nat),ns.length-j+1<n→
  Ga (E k) k m1 n v0 (.sl (ns.map af)) v2 (d.map PV.bool) w4 (iv (-1)) (iv j)=vo (E k) k m1 v0 (.sl (ns.map af)) v2 (d.map PV.bool) w4 (iv (match mB d j (ns.drop j)with | some i=>(i:Int) | none=> -1))
 | 0,j,h=>by omega
 | n+1,j,h=>by
  rw[vp]
  have kV:=bN
  by_cases hj:j<ns.length
  ·have hn:nth default (ns.map af) j=af ns[j]:=aK _ _ _ _ hj
   have T5:=ha _ (bz hj)
   have wM:j<d.length:=by omega
   have hlen:(cp ns[j].1).length≤1000:=by
    have:∀(p:Nat→Bool) (i:Nat) (l:List Int),(pick p i l).length≤l.length:=by
     intro p i l
     induction l generalizing i with
     | nil=>simp[pick]
     | cons b l ih=>
      rw[pick]
      have:=ih (i+1)
      cases (p i&&aj 0 b)<;>simp<;>omega
    exact Nat.le_trans (this _ _ _) T5
   rw[bb hj,mB]
   simp only[TT,ab,aa,Ty.eq,hj,wM,hn,f38 hE hk _ T5,fU,cB,qq,dF (show(-1:Int)<0 by decide)]
   refine(PM (d:=d) hlen (fun a h=>cN h) k 0 (!d.getD j false) (by omega)).trans ?_
   rw[HT,List.drop_zero]
   have WL:((cp ns[j].1).all fun a=>d.getD a.toNat false)=lP d ns[j].1:=rfl
   rw[WL]
   simp only[TT,ab,aa,Ty.eq,K9,aq (show j<4611686018427387904 by omega)]
   cases hc:(!d.getD j false&&lP d ns[j].1)
   ·simp only[cond_false]
    exact PN hE hk hl hd ha n (j+1) (by omega)
   ·simp only[cond_true]
    obtain⟨n',rfl⟩:∃n',n=n'+1:=⟨n-1,by omega⟩
    rw[vp]
    simp only[TT,ab,aa,Ty.eq]
    rw[eg (show(0:Int)≤(j:Int)by omega)]
    cases decide (j+1<ns.length)<;>rfl
  ·rw[aT (by omega),mB]
   simp only[TT,ab,aa,Ty.eq,hj]
theorem PO (hE:mo E) (hk:KK+3≤k) {ns:List Node} (hl:ns.length≤2000) (ha:∀x∈ns,x.1.args.length≤1000):∀(f n:Nat) (d:List Bool) (out:List Nat),rz d<f→f≤n→d.length=ns.length→out.length+rz d=ns.length→
  Gb (E k) k n v0 (.sl (ns.map af)) v2 (d.map PV.bool) (nv out)=some ([.arr 3 (nv (oU ns f d out))],[])
 | 0,n,d,out,h,_,_,_=>by omega
 | f+1,0,d,out,_,h,_,_=>by omega
 | f+1,n+1,d,out,hc,hf,hd,ho=>by
  have kV:=bN
  rw[D3]
  refine(PN hE hk hl hd ha k 0 (by omega)).trans ?_
  rw[HU,List.drop_zero,oU]
  cases hn:mB d 0 ns with
  | none=>
   simp only[tI]
   rw[dF (show(-1:Int)<0 by decide)];rfl
  | some i=>
   obtain⟨_,h2,h3⟩:=oV hn
   have hi:i<d.length:=by omega
   have jN:=Cv hi h3
   simp only[TT,ab,aa,Ty.eq,hi,List.reverse_singleton,List.length_singleton]
   rw[eg (show(0:Int)≤(i:Int)by omega),kQ (show(out.length+1)*8≤room by show _≤140737488355328;omega)]
   have:=PO hE hk hl ha f n (d.set i true) (out++[i]) (by omega) (by omega) (by rw[List.length_set];exact hd) (by simp;omega)
   simp only[List.map_append,List.map_cons,List.map_nil,List.map_set]at this ⊢
   exact this
theorem f66 (hE:mo E) (hk:KK+4≤k) (n:Net) (hl:n.nodes.length≤2000) (ha:∀x∈n.nodes,x.1.args.length≤1000):
  E k 66 [cn n]=some ([.arr 3 (nv (oU n.nodes (n.nodes.length+1) (List.replicate n.nodes.length false) []))],[]):=by
 obtain⟨j,hj,e⟩:=hE.at hk 66 [cn n] rfl rfl
 have kV:=bN
 rw[e,R66]
 simp only[TT,ab,aa,Ty.eq]
 rw[b7 (show(n.nodes.length:Int)≤140737488355328 by omega),b7 (show(n.nodes.length:Int)≤(n.nodes.length:Int)by omega),b7 (show((1:Nat):Int)* (n.nodes.length:Int)≤140737488355328 by omega)]
 have:=PO hE (v0:=iv n.ins) (v2:=bH n.outs) hj hl ha (n.nodes.length+1) j (List.replicate n.nodes.length false) [] (by unfold rz;rw[List.count_replicate_self];omega) (by omega) (by simp) (by unfold rz;rw[List.count_replicate_self];simp)
 rw[List.map_replicate]at this
 exact this
end
end Go.V
