/- What is shaped in the program, the collection of knobs and shows, fields of both told alike. Conditions: those that each theorem names. (Names are short so that the claim keeps to its size.) -/
import Derived.Test.YtmgjhnjiljmmkaaNC
set_option linter.unusedSimpArgs false
set_option linter.unusedVariables false
set_option maxRecDepth 100000
namespace Go.V
open Go.Proofs
def j5 (s t:ByteArray):Bool:=s.data.toList==t.data.toList
theorem kG (s:ByteArray):j5 s s=true:=by unfold j5;simp
theorem gC {s t:ByteArray}:j5 s t=true↔s=t:=by
 unfold j5
 rw[TS,decide_eq_true_iff]
section
variable {α:Type}
def e9 (s:ByteArray):List (ByteArray×α)→Option α
 | []=>none
 | (t,v)::r=>bif j5 s t then some v else e9 s r
def kB (s:ByteArray) (v:α):List (ByteArray×α)→List (ByteArray×α)
 | []=>[(s,v)]
 | (t,w)::r=>bif j5 s t then(s,v)::r else(t,w)::kB s v r
abbrev dT (A:List (ByteArray×α)):List PV:=A.map fun x=> .str x.1
abbrev fP (g:α→PV) (A:List (ByteArray×α)):List PV:=A.map fun x=>g x.2
theorem wg (g:α→PV) (s:ByteArray):∀A:List (ByteArray×α),cI .str (.str s) (dT A) (fP g A)=(e9 s A).map g
 | []=>rfl
 | (t,v)::r=>by
  have e:lT .str (.str s) (.str t)=j5 s t:=rfl
  simp only[dT,fP,List.map_cons,cI,e9,e]
  cases j5 s t
  ·exact wg g s r
  ·rfl
def GQ (s:ByteArray) (v:α) (A:List (ByteArray×α)) (i:Nat):Option Nat→Prop
 | some j=>i≤j∧(dT A).set (j-i) (.str s)=dT (kB s v A)∧(∀g:α→PV,(fP g A).set (j-i) (g v)=fP g (kB s v A))
 | none=>dT A++[.str s]=dT (kB s v A)∧(∀g:α→PV,fP g A++[g v]=fP g (kB s v A))
theorem wh (s:ByteArray) (v:α):∀(A:List (ByteArray×α)) (i:Nat),GQ s v A i (mapIdx .str (.str s) (dT A) i)
 | [],i=>⟨rfl,fun _=>rfl⟩
 | (t,w)::r,i=>by
  have e:lT .str (.str s) (.str t)=j5 s t:=rfl
  have ih:=wh s v r (i+1)
  simp only[dT,List.map_cons,mapIdx,e]at ih ⊢
  cases hb:j5 s t
  ·have ep:kB s v ((t,w)::r)=(t,w)::kB s v r:=by simp only[kB,hb,cond_false]
   simp only[cond_false]
   cases hj:mapIdx .str (.str s) (List.map (fun x=>PV.str x.1) r) (i+1)with
   | some j=>
    rw[hj]at ih
    obtain⟨h1,h2,h3⟩:=ih
    unfold GQ
    rw[ep]
    refine⟨by omega, ?_,fun g=> ?_⟩
    ·rw[show j-i=(j- (i+1))+1 by omega,dT,List.map_cons,List.set_cons_succ]
     exact congrArg _ h2
    ·have:=h3 g
     simp only[fP,List.map_cons]at this ⊢
     rw[show j-i=(j- (i+1))+1 by omega,List.set_cons_succ,this]
   | none=>
    rw[hj]at ih
    unfold GQ
    rw[ep]
    refine⟨?_,fun g=> ?_⟩
    ·rw[dT,List.map_cons,List.cons_append]
     exact congrArg _ ih.1
    ·have:=ih.2 g
     simp only[fP,List.map_cons]at this ⊢
     rw[List.cons_append,this]
  ·have ep:kB s v ((t,w)::r)=(s,v)::r:=by simp only[kB,hb,cond_true]
   simp only[cond_true]
   unfold GQ
   rw[ep]
   refine⟨Nat.le_refl _, ?_,fun g=> ?_⟩
   ·simp[dT]
   ·simp[fP]
theorem yh (s:ByteArray) (v:α) (A:List (ByteArray×α)):ke .str (.str s) (dT A)=dT (kB s v A):=by
 have:=wh s v A 0
 unfold ke
 cases hj:mapIdx .str (.str s) (dT A) 0 with
 | some j=>rw[hj]at this;exact this.2.1
 | none=>rw[hj]at this;exact this.1
theorem yi (g:α→PV) (s:ByteArray) (v:α) (A:List (ByteArray×α)):kf .str (.str s) (g v) (dT A) (fP g A)=fP g (kB s v A):=by
 have:=wh s v A 0
 unfold kf
 cases hj:mapIdx .str (.str s) (dT A) 0 with
 | some j=>rw[hj]at this;exact this.2.2 g
 | none=>rw[hj]at this;exact this.2 g
theorem mE (s t:ByteArray) (v:α):∀A:List (ByteArray×α),e9 t (kB s v A)=bif j5 t s then some v else e9 t A
 | []=>by
  simp only[kB,e9]
 | (u,w)::r=>by
  have ih:=mE s t v r
  simp only[kB,e9]
  cases hb:j5 s u
  ·simp only[cond_false,e9,ih]
   cases h1:j5 t u
   ·rfl
   ·cases h2:j5 t s
    ·rfl
    ·rw[gC]at h1 h2
     subst h1;subst h2
     rw[kG]at hb;cases hb
  ·simp only[cond_true,e9]
   cases h1:j5 t s
   ·cases h2:j5 t u
    ·rfl
    ·rw[gC]at hb h2
     subst hb;subst h2
     rw[kG]at h1;cases h1
   ·rfl
end
end Go.V
namespace Go.V
open Go.Proofs
structure Wk where
 knobs:List (ByteArray×Node)
 bx:List (ByteArray×Bool)
 bad:Bool
abbrev wi (w:Wk):AO:= .box 102 [.map 9 55 (dT w.knobs) (fP af w.knobs), .map 9 4 (dT w.bx) (fP PV.bool w.bx),aB w.bad]
def mF:List Qn→List Qn→Bool
 | a::l,b::m=> !(ak a.n b.n&&ak a.d b.d)|| mF l m
 | _,_=>false
def iD (x:Node) (w:Wk):Wk:=
 bif Nat.beq (aF x.1.op) 32 then⟨kB x.1.name x w.knobs,w.bx,w.bad|| (match e9 x.1.name w.knobs with | some y=>mF y.1.ao x.1.ao | none=>false)⟩
 else bif Nat.beq (aF x.1.op) 33 then⟨w.knobs,kB x.1.name true w.bx,w.bad|| (e9 x.1.name w.bx).getD false⟩
 else w
mutual
def jb:Net→Wk→Wk
 | .mk _ ns _,w=>e8 ns w
def e8:List (Nf×List Net)→Wk→Wk
 | [],w=>w
 | (x,ms)::r,w=>e8 r (dU ms (iD (x,ms) w))
def dU:List Net→Wk→Wk
 | [],w=>w
 | m::r,w=>dU r (jb m w)
end
theorem Ms (n:Net) (w:Wk):jb n w=e8 n.nodes w:=by cases n;rw[jb];rfl
theorem Cz (x:Node) (r:List Node) (w:Wk):e8 (x::r) w=e8 r (dU x.2 (iD x w)):=by cases x;rw[e8]
inductive pr:Net→Prop where
 | mk (i:Int) (ns:List Node) (os:List Int) (h1:∀x∈ns,aF x.1.op=32→x.1.ao.length=4) (h2:∀x∈ns,∀m∈x.2,pr m):pr (.mk i ns os)
theorem pr.nd {n:Net} (h:pr n):∀x∈n.nodes,aF x.1.op=32→x.1.ao.length=4:=by cases h;assumption
theorem pr.sub {n:Net} (h:pr n):∀x∈n.nodes,∀m∈x.2,pr m:=by cases h;assumption
def rE (w:Wk):Prop:=∀s y,e9 s w.knobs=some y→y.1.ao.length=4
theorem CA {x:Node} {w:Wk} (hw:rE w) (hx:aF x.1.op=32→x.1.ao.length=4):rE (iD x w):=by
 unfold iD
 cases h:Nat.beq (aF x.1.op) 32
 ·cases Nat.beq (aF x.1.op) 33
  ·exact hw
  ·exact hw
 ·intro s y hy
  have hy:e9 s (kB x.1.name x w.knobs)=some y:=hy
  rw[mE]at hy
  cases hb:j5 s x.1.name with
  | true=>rw[hb]at hy;cases hy;exact hx (Nat.eq_of_beq_eq_true h)
  | false=>rw[hb]at hy;exact hw s y hy
mutual
theorem CB:∀(n:Net) (w:Wk),pr n→rE w→rE (jb n w)
 | .mk i ns os,w,hn,hw=>by rw[jb];exact yj ns w hn.nd hn.sub hw
theorem yj:∀(ns:List (Nf×List Net)) (w:Wk),(∀x∈ns,aF x.1.op=32→x.1.ao.length=4)→(∀x∈ns,∀m∈x.2,pr m)→rE w→rE (e8 ns w)
 | [],w,_,_,hw=>by rw[e8];exact hw
 | (x,ms)::r,w,h1,h2,hw=>by
  rw[e8]
  exact yj r _ (fun y hy=>h1 y (List.mem_cons_of_mem _ hy)) (fun y hy=>h2 y (List.mem_cons_of_mem _ hy)) (sH ms _ (h2 _ List.mem_cons_self) (CA hw (h1 _ List.mem_cons_self)))
theorem sH:∀(ms:List Net) (w:Wk),(∀m∈ms,pr m)→rE w→rE (dU ms w)
 | [],w,_,hw=>by rw[dU];exact hw
 | m::r,w,h,hw=>by
  rw[dU]
  exact sH r _ (fun y hy=>h y (List.mem_cons_of_mem _ hy)) (CB m w (h _ List.mem_cons_self) hw)
end
section
variable {call:aw} {k m1:Nat} {v0 v1 v2 v3 v4 v5 v6 v7 v8 v9 v10 v11 v12 v13 v14 v15 v16 v17 v18 v19 v20 v21 v22 v23 v24 v25 v26 v27 v28 v29 v30 v31 v32:PV} {w21 w22 w23 w24 w33 w34 w35 w36:List PV}
theorem PT {l m:List Qn} (hl:l.length=4) (hm:m.length=4):∀(n j:Nat) (b:Bool),l.length-j<n→
  B7 call k m1 n v0 v1 v2 v3 v4 v5 v6 (.sl (m.map Qn.pv)) v8 v9 v10 v11 v12 v13 v14 v15 v16 v17 v18 (.sl (l.map Qn.pv)) v20 v21 v22 v23 v24 v25 v26 (.bool true) v28 v29 v30 (iv l.length) (iv j) w33 w34 w35 w36 (.bool b)=sx call k m1 v0 v1 v2 v3 v4 v5 v6 (.sl (m.map Qn.pv)) v8 v9 v10 v11 v12 v13 v14 v28 v29 v30 w33 w34 w35 w36 (.bool (b|| mF (l.drop j) (m.drop j)))
 | 0,j,b,h=>by omega
 | n+1,j,b,h=>by
  rw[vL]
  by_cases hj:j<l.length
  ·have wM:j<m.length:=by omega
   have hn:nth default (l.map Qn.pv) j=l[j].pv:=aK _ _ _ _ hj
   have Rx:nth default (m.map Qn.pv) j=m[j].pv:=aK _ _ _ _ wM
   rw[bb hj,bb wM,mF]
   simp only[TT,ab,aa,Ty.eq,hj,wM,hn,Rx,LI,IG,aq (show j<4611686018427387904 by omega),PT hl hm n (j+1) _ (by omega)]
   cases b
   ·simp only[cond_false,cond_true,Bool.false_or]
   ·rfl
  ·rw[aT (by omega),aT (by omega)]
   simp only[TT,ab,aa,Ty.eq,hj,mF,Bool.or_false]
theorem RB {b:Bool} {n:Nat} (hn:0<n):B7 call k m1 n v0 v1 v2 v3 v4 v5 v6 v7 v8 v9 v10 v11 v12 v13 v14 v15 v16 v17 v18 (.sl []) v20 v21 v22 v23 v24 v25 v26 v27 v28 v29 v30 (iv 0) (iv 0) w33 w34 w35 w36 (.bool b)=sx call k m1 v0 v1 v2 v3 v4 v5 v6 v7 v8 v9 v10 v11 v12 v13 v14 v28 v29 v30 w33 w34 w35 w36 (.bool b):=by
 obtain⟨m,rfl⟩:∃m,n=m+1:=⟨n-1,by omega⟩
 rw[vL];rfl
end
section
variable {E:Nat→aw} (hE:mo E) {k m1:Nat} {v0 v1 v2 v3 v4 v5 v6 v7 v8 v9 v10 v11 v12 v13 v14 v15 v16 v17 v18 v19:PV}
theorem Mt {call:aw} {ms:List Net} (hl:ms.length<bf) {i:Nat} (hi:i<4611686018427387904) (hk:∀m∈ms,pr m)
  (H:∀m∈ms,∀w,rE w→call 52 [wi w,cn m]=some ([],[wi (jb m w)])):∀(n j:Nat) (w:Wk),rE w→ms.length-j<n→
  zM call k m1 n v0 v1 v2 v3 v4 v5 v6 v7 v8 v9 v10 v11 v12 v13 v14 v15 v16 (iv i) (.sl (ms.map Net.pv)) (iv ms.length) (iv j) (dT w.knobs) (fP af w.knobs) (dT w.bx) (fP PV.bool w.bx) (.bool w.bad)=
   B8 call k m1 v0 v1 v2 v15 v16 (iv ((i+1:Nat):Int)) (dT (dU (ms.drop j) w).knobs) (fP af (dU (ms.drop j) w).knobs) (dT (dU (ms.drop j) w).bx) (fP PV.bool (dU (ms.drop j) w).bx) (.bool (dU (ms.drop j) w).bad)
 | 0,j,w,_,h=>by omega
 | n+1,j,w,hw,h=>by
  have jR:=hl
  unfold bf at jR
  rw[B9]
  by_cases hj:j<ms.length
  ·have hn:nth default (ms.map Net.pv) j=ms[j].pv:=aK _ _ _ _ hj
   have hm:=bz hj
   have ih:=Mt (call:=call) hl hi hk H n (j+1) (jb ms[j] w) (CB _ _ (hk _ hm) hw) (by omega)
   rw[bb hj,dU]
   simp only[TT,ab,aa,Ty.eq,hj,hn,eA,H _ hm w hw,aq (show j<4611686018427387904 by omega)]
   exact ih
  ·rw[aT (by omega),dU]
   simp only[TT,ab,aa,Ty.eq,hj,aq hi]
end
end Go.V
namespace Go.V
open Go.Proofs
theorem xp {α β:Type} (g:α→β) (y:α) (d:β):((some y).map g).getD d=g y:=rfl
theorem xq {α β:Type} (g:α→β) (d:β):((none:Option α).map g).getD d=d:=rfl
section
variable {E:Nat→aw} (hE:mo E) {k m1:Nat}
theorem PU {call:aw} {n:Net} (ho:cu n) (hk:pr n) (kV:1000000000000000<k)
  (H:∀x∈n.nodes,∀m∈x.2,∀w,rE w→call 52 [wi w,cn m]=some ([],[wi (jb m w)])):∀(f j:Nat) (w:Wk),rE w→n.nodes.length-j<f→
  B8 call k f (iv n.ins) (.sl (n.nodes.map af)) (bH n.outs) (.sl (n.nodes.map af)) (iv n.nodes.length) (iv j) (dT w.knobs) (fP af w.knobs) (dT w.bx) (fP PV.bool w.bx) (.bool w.bad)=
   some ([],[wi (e8 (n.nodes.drop j) w)])
 | 0,j,w,_,h=>by omega
 | f+1,j,w,hw,h=>by
  have hl:=ho.ln
  unfold bf at hl
  rw[EB]
  by_cases hj:j<n.nodes.length
  ·have hn:nth default (n.nodes.map af) j=af n.nodes[j]:=aK _ _ _ _ hj
   have hm:=bz hj
   have L1:=ho.EN _ hm
   have XA:=L1
   unfold bf at XA
   have SD:=hk.nd _ hm
   rw[bb hj,Cz]
   simp only[TT,ab,aa,Ty.eq,hj,hn,eO,gZ,hZ,du,dv,eP,h9,ia,ib,ic,ig,ij,ik,il,im,iq,mq,mr,mu,mv,ir,mw,iu,iw,iy,eQ,iz,cP,eR,dw,dx,eT,eU,eV,iA,iB,dy,dz,iC,kz,eW,eX,dA,my,mz,eY,eZ,wg]
   generalize hx:n.nodes[j]=x at*
   have Sc:=CA (x:=x) hw SD
   have ih:=PU ho hk kV H f (j+1) (dU x.2 (iD x w)) (sH _ _ (hk.sub _ hm) Sc) (by omega)
   have XB:∀w',w'=iD x w→sw call k f (iv n.ins) (.sl (n.nodes.map af)) (bH n.outs) (.str x.1.op) (.str x.1.name) (iv x.1.n) (iv x.1.m) (.sl (x.1.ao.map Qn.pv)) (.str x.1.fk) (iv x.1.fi) (iv x.1.ff) (.str x.1.fr) (.str x.1.fo) (bH x.1.args) (.sl (x.2.map Net.pv)) (.sl (n.nodes.map af)) (iv n.nodes.length) (iv j) (dT w'.knobs) (fP af w'.knobs) (dT w'.bx) (fP PV.bool w'.bx) (.bool w'.bad)=some ([],[wi (e8 (n.nodes.drop (j+1)) (dU x.2 (iD x w)))]):=by
    rintro w' rfl
    rw[II]
    simp only[tL,List.length_map]
    refine(Mt (call:=call) L1 (i:=j) (by omega) (hk.sub _ hm) (H _ hm) k 0 (iD x w) Sc (by omega)).trans ?_
    rw[List.drop_zero]
    exact ih
   cases Ou:Nat.beq (aF x.1.op) 32
   ·cases T2:Nat.beq (aF x.1.op) 33
    ·simp only[cond_false]
     exact XB w (by unfold iD;rw[Ou,T2];rfl)
    ·have hX:iD x w=⟨w.knobs,kB x.1.name true w.bx,w.bad|| (e9 x.1.name w.bx).getD false⟩:=by unfold iD;rw[Ou,T2];rfl
     simp only[cond_false,cond_true,IK,yh x.1.name true,yi PV.bool x.1.name true]
     have:=XB _ hX.symm
     cases hb:w.bad
     ·rw[hb]at this
      simp only[cond_false,Bool.false_or]at this ⊢
      cases hg:e9 x.1.name w.bx with
      | none=>rw[hg]at this;exact this
      | some b=>rw[hg]at this;exact this
     ·rw[hb]at this
      simp only[cond_true,Bool.true_or]at this ⊢
      exact this
   ·have e32:=Nat.eq_of_beq_eq_true Ou
    have h4:=SD e32
    have hX:iD x w=⟨kB x.1.name x w.knobs,w.bx,w.bad|| (match e9 x.1.name w.knobs with | some y=>mF y.1.ao x.1.ao | none=>false)⟩:=by unfold iD;rw[Ou];rfl
    have NU:=XB _ hX.symm
    simp only[cond_true]
    have Nq:∀b,b=(w.bad|| (match e9 x.1.name w.knobs with | some y=>mF y.1.ao x.1.ao | none=>false))→sx call k f (iv n.ins) (.sl (n.nodes.map af)) (bH n.outs) (.str x.1.op) (.str x.1.name) (iv x.1.n) (iv x.1.m) (.sl (x.1.ao.map Qn.pv)) (.str x.1.fk) (iv x.1.fi) (iv x.1.ff) (.str x.1.fr) (.str x.1.fo) (bH x.1.args) (.sl (x.2.map Net.pv)) (.sl (n.nodes.map af)) (iv n.nodes.length) (iv j) (dT w.knobs) (fP af w.knobs) (dT w.bx) (fP PV.bool w.bx) (.bool b)=some ([],[wi (e8 (n.nodes.drop (j+1)) (dU x.2 (iD x w)))]):=by
     rintro b rfl
     rw[IJ,gH,yh x.1.name x,yi af x.1.name x]
     exact NU
    cases hg:e9 x.1.name w.knobs with
    | none=>
     simp only[xq]
     exact(RB (n:=k) (b:=w.bad) (by omega)).trans (Nq w.bad (by rw[hg,Bool.or_false]))
    | some y=>
     simp only[xp,Option.getD_some,R8,Zb,Zc,Zd,Ze,Zf,Zg,Zh,Zi,Zj,TH,Rl,tL,List.length_map,Option.map_some,Option.isSome_some]
     have hy4:=hw _ _ hg
     refine(PT (l:=y.1.ao) (m:=x.1.ao) hy4 h4 k 0 w.bad (by omega)).trans ?_
     exact Nq _ (by rw[hg];simp)
  ·rw[aT (by omega),e8]
   simp only[TT,ab,aa,Ty.eq,hj]
theorem f52 (hE:mo E):∀(d:Nat) (n:Net),cu n→pr n→n.dp≤d→∀k,KK+d+1≤k→∀w,rE w→E k 52 [wi w,cn n]=some ([],[wi (jb n w)])
 | 0,n,ho,hk,h=>by rw[n.vU]at h;omega
 | d+1,n,ho,hk,h=>by
  intro k jz w hw
  have kV:=bN
  obtain⟨j,hj,e⟩:=hE.at (d:=d+1) (by omega) 52 [wi w,cn n] rfl rfl
  rw[e,R52]
  simp only[Py,R9,Pz,tL,List.length_map]
  have:=PU (call:=E j) (k:=j) ho hk (by omega) (fun x hx m hm w hw=>f52 hE d m (ho.sub x hx m hm) (hk.sub x hx m hm) (by have:=Net.sE hx hm;omega) j (by omega) w hw) j 0 w hw (by have:=j9 ho.ln hj;omega)
  rw[List.drop_zero]at this
  rw[Ms]
  exact this
end
end Go.V
namespace Go.V
open Go.Proofs
theorem Oy (l:PV) (b:Bool):cc (List.map (ai Try.prog) [23,4]) (some ([.pv (.sl 3) l,aB b],[]))=true:=by kernel_rfl
def E5 (ins deep:Int) (outs:List Int):Bool:=au ins 0|| (au 64 ins|| (au 64 outs.length|| au 60 deep))
mutual
def dC:Net→Int→Bool
 | .mk ins ns outs,deep=> !E5 ins deep outs&&(da ins deep ns&&(ns.all (aG ns)&&(outs.all (mD ns)&&lQ ns)))
def da (ins deep:Int):List (Nf×List Net)→Bool
 | []=>true
 | (x,ms)::r=>aN ins (x,ms)&&(ej (deep+1) ms&&da ins deep r)
def ej (deep:Int):List Net→Bool
 | []=>true
 | m::r=>dC m deep&&ej deep r
end
theorem qt (n:Net) (deep:Int):dC n deep=(!E5 n.ins deep n.outs&&(da n.ins deep n.nodes&&(n.nodes.all (aG n.nodes)&&(n.outs.all (mD n.nodes)&&lQ n.nodes)))):=by cases n;rw[dC];rfl
theorem pT (ins deep:Int) (x:Node) (r:List Node):da ins deep (x::r)=(aN ins x&&(ej (deep+1) x.2&&da ins deep r)):=by cases x;rw[da]
theorem oX {ins deep:Int}:∀ {ns:List Node},da ins deep ns=true→∀x∈ns,aN ins x=true
 | [],_,x,hx=>by cases hx
 | y::r,h,x,hx=>by
  rw[pT,Bool.and_eq_true,Bool.and_eq_true]at h
  rcases List.mem_cons.1 hx with rfl | hx
  ·exact h.1
  ·exact oX h.2.2 x hx
structure XC (n:Net):Prop where
 ok:cu n
 s:jU n
 l:n.nodes.length≤2000
 right:∀x∈n.nodes,aN n.ins x=true
 linked:∀x∈n.nodes,aG n.nodes x=true
section
variable {E:Nat→aw} {k m1:Nat} {v0 v1 v2 v3 v4 v5 v6 v7 v8 v9 v10 v11 v12 v13 v14 v15 v16 v17 v18:PV}
theorem PW {call:aw} {ms:List Net} {deep:Int} (hd:0≤deep∧deep≤60) (hl:ms.length<bf) {i:Nat} (hi:i<4611686018427387904)
  (H:∀m∈ms,call 51 [cn m,aI (deep+1)]=rB (dC m (deep+1))):∀(n j:Nat),ms.length-j<n→
  Gu call k m1 n (iv deep) v1 v2 v3 v4 v5 v6 v7 v8 v9 v10 v11 v12 v13 v14 v15 v16 v17 (iv i) (.sl (ms.map Net.pv)) (iv ms.length) (iv j)=(bif ej (deep+1) (ms.drop j)then BZ call k m1 (iv deep) v1 v2 v3 v16 v17 (iv ((i+1:Nat):Int))else rB false)
 | 0,j,h=>by omega
 | n+1,j,h=>by
  have jR:=hl
  unfold bf at jR
  rw[Et]
  by_cases hj:j<ms.length
  ·have hn:nth default (ms.map Net.pv) j=ms[j].pv:=aK _ _ _ _ hj
   have ih:=PW (call:=call) hd hl hi H n (j+1) (by omega)
   rw[bb hj,ej]
   simp only[TT,ab,aa,Ty.eq,hj,hn,eA,bJ (n:=deep+1) (by omega) (by omega),H _ (bz hj),aq (show j<4611686018427387904 by omega)]
   cases dC ms[j] (deep+1)
   ·rfl
   ·exact ih
  ·rw[aT (by omega),ej]
   simp only[TT,ab,aa,Ty.eq,hj,aq hi]
theorem Mu (hE:mo E) {n:Net} (ho:cu n) (yl:∃l,E k 70 [cn n]=some ([.pv (.sl 3) l,aB (lQ n.nodes)],[])):∀(f j:Nat),n.outs.length-j<f→
  zC (E k) k f (iv n.ins) (.sl (n.nodes.map af)) (bH n.outs) (bH n.outs) (iv n.outs.length) (iv j)=rB ((n.outs.drop j).all (mD n.nodes)&&lQ n.nodes)
 | 0,j,h=>by omega
 | f+1,j,h=>by
  have jR:=ho.lo
  unfold bf at jR
  rw[B0]
  by_cases hj:j<n.outs.length
  ·have hn:nth default (n.outs.map iv) j=iv n.outs[j]:=aK _ _ _ _ hj
   have ih:=Mu hE ho yl f (j+1) (by omega)
   rw[bb hj,List.all_cons]
   simp only[TT,ab,aa,Ty.eq,hj,hn,It,aq (show j<4611686018427387904 by omega),eO,gZ,hZ,du,dv,eP,h9,ia,ib,ic,ig,ij,ik,il,im,iq,mq,mr,mu,mv,ir,mw,iu,iw,iy,eQ,iz,cP,eR,dw,dx,eT,eU,eV,iA,iB,dy,dz,iC,kz,eW,eX,dA,my,mz,eY,eZ]
   generalize n.outs[j]=o at*
   have J8:mD n.nodes o=(!au o 0&&(!aj n.nodes.length o&& !tQ n.nodes o)):=rfl
   rw[J8]
   cases h1:au o 0
   ·cases h2:aj (n.nodes.length:Int) o
    ·obtain⟨b6,Rw⟩:=uq (cM h1) (jG h2)
     have DH:nth default (n.nodes.map af) o.toNat=af n.nodes[o.toNat]:=aK _ _ _ _ b6
     simp only[b7 (cM h1),dF (jG h2),DH,R8,tS,kz, ←Rw,cond_true,cond_false,Bool.and_self]
     cases tQ n.nodes o
     ·exact ih
     ·rfl
    ·rfl
   ·rfl
  ·rw[aT (by omega),List.all_nil]
   obtain⟨l,yl⟩:=yl
   simp only[TT,ab,aa,Ty.eq,hj,eA,yl,Oy,vZ]
theorem Mv (hE:mo E) (hk:KK+9≤k) {n:Net} (ho:cu n) (yl:(∀x∈n.nodes,aG n.nodes x=true)→∃l,E k 70 [cn n]=some ([.pv (.sl 3) l,aB (lQ n.nodes)],[])):∀(f j:Nat),n.nodes.length-j<f→(∀x∈n.nodes.take j,aG n.nodes x=true)→
  zD (E k) k f (iv n.ins) (.sl (n.nodes.map af)) (bH n.outs) (.sl (n.nodes.map af)) (iv n.nodes.length) (iv j)=rB ((n.nodes.drop j).all (aG n.nodes)&&(n.outs.all (mD n.nodes)&&lQ n.nodes))
 | 0,j,h,_=>by omega
 | f+1,j,h,ht=>by
  have jR:=ho.ln
  unfold bf at jR
  rw[B1]
  by_cases hj:j<n.nodes.length
  ·have hn:nth default (n.nodes.map af) j=af n.nodes[j]:=aK _ _ _ _ hj
   rw[bb hj,List.all_cons]
   simp only[TT,ab,aa,Ty.eq,hj,hn,gH,eA,f69 hE hk n _ (ho.nf _ (bz hj)) ho.ln,aq (show j<4611686018427387904 by omega)]
   cases hp:aG n.nodes n.nodes[j]
   ·rfl
   ·refine Mv hE hk ho yl f (j+1) (by omega) (fun x hm=> ?_)
    rw[List.take_add_one,List.mem_append]at hm
    rcases hm with hm | hm
    ·exact ht x hm
    ·rw[List.getElem?_eq_getElem hj]at hm
     simp at hm
     rw[hm];exact hp
  ·rw[aT (by omega),List.all_nil]
   rw[List.take_of_length_le (by omega)]at ht
   simp only[TT,ab,aa,Ty.eq,hj]
   have:=Mu hE ho (yl ht) k 0 (by have:=j9 ho.lo hk;omega)
   rw[List.drop_zero]at this
   exact this
theorem PX (hE:mo E) (hk:KK+9≤k) {n:Net} {deep:Int} (hd:0≤deep∧deep≤60) (ho:cu n) (yl:(∀x∈n.nodes,aN n.ins x=true)→(∀x∈n.nodes,aG n.nodes x=true)→∃l,E k 70 [cn n]=some ([.pv (.sl 3) l,aB (lQ n.nodes)],[]))
  (H:∀x∈n.nodes,∀m∈x.2,E k 51 [cn m,aI (deep+1)]=rB (dC m (deep+1))):∀(f j:Nat),n.nodes.length-j<f→(∀x∈n.nodes.take j,aN n.ins x=true)→
  BZ (E k) k f (iv deep) (iv n.ins) (.sl (n.nodes.map af)) (bH n.outs) (.sl (n.nodes.map af)) (iv n.nodes.length) (iv j)=rB (da n.ins deep (n.nodes.drop j)&&(n.nodes.all (aG n.nodes)&&(n.outs.all (mD n.nodes)&&lQ n.nodes)))
 | 0,j,h,_=>by omega
 | f+1,j,h,ht=>by
  have jR:=ho.ln
  unfold bf at jR
  rw[Eu]
  by_cases hj:j<n.nodes.length
  ·have hn:nth default (n.nodes.map af) j=af n.nodes[j]:=aK _ _ _ _ hj
   have hm:=bz hj
   rw[bb hj,pT]
   simp only[TT,ab,aa,Ty.eq,hj,hn,gH,eA,f68 hE (show KK+8≤k by omega) n _ (ho.nf _ hm)]
   cases hp:aN n.ins n.nodes[j]
   ·rfl
   ·simp only[Bool.not_true,cond_false,Bool.true_and]
    refine(PW (call:=E k) hd (ho.EN _ hm) (i:=j) (by omega) (H _ hm) k 0 (by have:=j9 (ho.EN _ hm) hk;omega)).trans ?_
    rw[List.drop_zero]
    cases ej (deep+1) n.nodes[j].2
    ·rfl
    ·refine PX hE hk hd ho yl H f (j+1) (by omega) (fun x hm=> ?_)
     rw[List.take_add_one,List.mem_append]at hm
     rcases hm with hm | hm
     ·exact ht x hm
     ·rw[List.getElem?_eq_getElem hj]at hm
      simp at hm
      rw[hm];exact hp
  ·rw[aT (by omega),da]
   rw[List.take_of_length_le (by omega)]at ht
   simp only[TT,ab,aa,Ty.eq,hj]
   have:=Mv hE hk ho (yl ht) k 0 (by have:=j9 ho.ln hk;omega) (by simp)
   rw[List.drop_zero]at this
   exact this
theorem f51 (hE:mo E) (yl:∀(n:Net) (k:Nat),KK+9≤k→XC n→∃l,E k 70 [cn n]=some ([.pv (.sl 3) l,aB (lQ n.nodes)],[])):∀(d:Nat) (n:Net),cu n→jU n→n.size≤2000→n.dp≤d→∀k,KK+d+10≤k→∀deep:Int,0≤deep→deep≤61→E k 51 [cn n,aI deep]=rB (dC n deep)
 | 0,n,ho,hs,hz,h=>by rw[n.vU]at h;omega
 | d+1,n,ho,hs,hz,h=>by
  intro k hk deep UN TZ
  have kV:=bN
  obtain⟨j,hj,e⟩:=hE.at (d:=d+10) (by omega) 51 [cn n,aI deep] rfl rfl
  have I9:n.nodes.length≤2000:=by have:=n.size_eq;omega
  rw[e,R51,qt]
  simp only[TT,ab,aa,Ty.eq,Ls]
  unfold E5
  cases h1:au n.ins 0
  ·cases h2:au 64 n.ins
   ·cases h3:au 64 (n.outs.length:Int)
    ·cases h4:au 60 deep
     ·have:=PX hE (k:=j) (by omega) (deep:=deep) ⟨UN,cM h4⟩ ho (fun a b=>yl n j (by omega) ⟨ho,hs,I9,a,b⟩) (fun x hx m hm=>f51 hE yl d m (ho.sub x hx m hm) (hs.sub x hx m hm) (by have:=Net.Mq hx hm;omega) (by have:=Net.sE hx hm;omega) j (by omega) (deep+1) (by omega) (by have:=cM h4;omega)) j 0 (by have:=j9 ho.ln hj;omega) (by simp)
      rw[List.drop_zero]at this
      exact this
     ·rfl
    ·rfl
   ·rfl
  ·rfl
end
end Go.V
namespace Go.V
open Go.Proofs
theorem lB {a b:Int}:ak a b=true↔a=b:=decide_eq_true_iff
theorem Oz {a b:Int}:au a b=true↔a<b:=decide_eq_true_iff
theorem ur {a b:Int}:aj a b=true↔a≤b:=decide_eq_true_iff
theorem T6 (n:Nat):(!au 0 (n:Int))=ak (n:Int) 0:=by
 rw[Bool.eq_iff_iff,Bool.not_eq_true',lB]
 constructor
 ·intro h;have:=cM h;omega
 ·intro h;exact eg (by omega)
theorem XD (n:Nat) (a b:Int):((!au (n:Int) a)&& !au b (n:Int))=(aj a n&&aj n b):=by
 rw[Bool.eq_iff_iff]
 simp only[Bool.and_eq_true,Bool.not_eq_true',ur]
 constructor
 ·rintro ⟨h1,h2⟩;exact⟨cM h1,cM h2⟩
 ·rintro ⟨h1,h2⟩;exact⟨eg h1,eg h2⟩
theorem leq (n:Nat) (a:Int):(aj a (n:Int)&&aj (n:Int) a)=ak (n:Int) a:=by
 rw[Bool.eq_iff_iff]
 simp only[Bool.and_eq_true,ur,lB]
 omega
theorem CC {l:List Qn} (h:cS l=true):ak (l.length:Int) 4=true:=by
 obtain⟨a,b,c,d,rfl⟩:=vY h;rfl
theorem bt {x:Nf} (h:aF x.op≤33):nk ((Oj (aF x.op)).getD ET) x=aJ x:=by
 have hk:cS x.ao=true→ak (x.ao.length:Int) 4=true:=CC
 have key:∀(a b c d e:Bool) (l h:Int),(a&&(b&&(c&&(d&&(!au (x.ao.length:Int) l&&(!au h (x.ao.length:Int)&&(x.ao.all eB&&e)))))))=(x.ao.all eB&&(b&&(c&&((aj l x.ao.length&&(aj x.ao.length h&&e))&&(a&&d))))):=by
  intro a b c d e l h
  rw[←Bool.and_assoc (!au (x.ao.length:Int) l),XD]
  cases a<;>cases b<;>cases c<;>cases d<;>cases e<;>cases x.ao.all eB<;>cases aj l (x.ao.length:Int)<;>cases aj (x.ao.length:Int) h<;>rfl
 unfold nk
 rw[key]
 have Vd:aF x.op=0∨aF x.op=1∨aF x.op=2∨aF x.op=3∨aF x.op=4∨aF x.op=5∨aF x.op=6∨aF x.op=7∨aF x.op=8∨aF x.op=9∨aF x.op=10∨aF x.op=11∨aF x.op=12∨aF x.op=13∨aF x.op=14∨aF x.op=15∨aF x.op=16∨aF x.op=17∨aF x.op=18∨aF x.op=19∨aF x.op=20∨aF x.op=21∨aF x.op=22∨aF x.op=23∨aF x.op=24∨aF x.op=25∨aF x.op=26∨aF x.op=27∨aF x.op=28∨aF x.op=29∨aF x.op=30∨aF x.op=31∨aF x.op=32∨aF x.op=33:=by omega
 have z0:∀e:Bool,(aj 0 (x.ao.length:Int)&&(aj (x.ao.length:Int) 0&&e))=(ak (x.ao.length:Int) 0&&e):=fun e=>by rw[←Bool.and_assoc,leq]
 have z1:∀e:Bool,(aj 1 (x.ao.length:Int)&&(aj (x.ao.length:Int) 1&&e))=(ak (x.ao.length:Int) 1&&e):=fun e=>by rw[←Bool.and_assoc,leq]
 have z4:(aj 4 (x.ao.length:Int)&&(aj (x.ao.length:Int) 4&&cS x.ao))=cS x.ao:=by
  rw[←Bool.and_assoc,leq]
  cases hb:cS x.ao
  ·simp
  ·rw[hk hb];rfl
 rcases Vd with h | h | h | h | h | h | h | h | h | h | h | h | h | h | h | h | h | h | h | h | h | h | h | h | h | h | h | h | h | h | h | h | h | h
 ·refine Eq.trans (b:=(x.ao.all eB&&(ak x.n 0&&(ak x.m 0&&((aj 0 (x.ao.length:Int)&&(aj (x.ao.length:Int) 0&&true))&&((x.name.data.toList==[])&&cf x)))))) (by rw[h];kernel_rfl) (Eq.trans (b:=(x.ao.all eB&&(ak x.n 0&&(ak x.m 0&&(ak (x.ao.length:Int) 0&&((x.name.data.toList==[])&&cf x)))))) ?_ (by unfold aJ;rw[h];kernel_rfl))
  rw[z0,Bool.and_true]
 ·refine Eq.trans (b:=(x.ao.all eB&&(ak x.n 0&&(ak x.m 0&&((aj 0 (x.ao.length:Int)&&(aj (x.ao.length:Int) 0&&true))&&((x.name.data.toList==[])&&cf x)))))) (by rw[h];kernel_rfl) (Eq.trans (b:=(x.ao.all eB&&(ak x.n 0&&(ak x.m 0&&(ak (x.ao.length:Int) 0&&((x.name.data.toList==[])&&cf x)))))) ?_ (by unfold aJ;rw[h];kernel_rfl))
  rw[z0,Bool.and_true]
 ·refine Eq.trans (b:=(x.ao.all eB&&(ak x.n 0&&(ak x.m 0&&((aj 0 (x.ao.length:Int)&&(aj (x.ao.length:Int) 0&&true))&&((x.name.data.toList==[])&&cf x)))))) (by rw[h];kernel_rfl) (Eq.trans (b:=(x.ao.all eB&&(ak x.n 0&&(ak x.m 0&&(ak (x.ao.length:Int) 0&&((x.name.data.toList==[])&&cf x)))))) ?_ (by unfold aJ;rw[h];kernel_rfl))
  rw[z0,Bool.and_true]
 ·refine Eq.trans (b:=(x.ao.all eB&&(ak x.n 0&&(ak x.m 0&&((aj 0 (x.ao.length:Int)&&(aj (x.ao.length:Int) 0&&true))&&((x.name.data.toList==[])&&cf x)))))) (by rw[h];kernel_rfl) (Eq.trans (b:=(x.ao.all eB&&(ak x.n 0&&(ak x.m 0&&(ak (x.ao.length:Int) 0&&((x.name.data.toList==[])&&cf x)))))) ?_ (by unfold aJ;rw[h];kernel_rfl))
  rw[z0,Bool.and_true]
 ·refine Eq.trans (b:=(x.ao.all eB&&(ak x.n 0&&(ak x.m 0&&((aj 0 (x.ao.length:Int)&&(aj (x.ao.length:Int) 0&&true))&&((x.name.data.toList==[])&&cf x)))))) (by rw[h];kernel_rfl) (Eq.trans (b:=(x.ao.all eB&&(ak x.n 0&&(ak x.m 0&&(ak (x.ao.length:Int) 0&&((x.name.data.toList==[])&&cf x)))))) ?_ (by unfold aJ;rw[h];kernel_rfl))
  rw[z0,Bool.and_true]
 ·refine Eq.trans (b:=(x.ao.all eB&&(ak x.n 0&&(ak x.m 0&&((aj 0 (x.ao.length:Int)&&(aj (x.ao.length:Int) 0&&true))&&((x.name.data.toList==[])&&cf x)))))) (by rw[h];kernel_rfl) (Eq.trans (b:=(x.ao.all eB&&(ak x.n 0&&(ak x.m 0&&(ak (x.ao.length:Int) 0&&((x.name.data.toList==[])&&cf x)))))) ?_ (by unfold aJ;rw[h];kernel_rfl))
  rw[z0,Bool.and_true]
 ·refine Eq.trans (b:=(x.ao.all eB&&(ak x.n 0&&(ak x.m 0&&((aj 0 (x.ao.length:Int)&&(aj (x.ao.length:Int) 0&&true))&&((x.name.data.toList==[])&&cf x)))))) (by rw[h];kernel_rfl) (Eq.trans (b:=(x.ao.all eB&&(ak x.n 0&&(ak x.m 0&&(ak (x.ao.length:Int) 0&&((x.name.data.toList==[])&&cf x)))))) ?_ (by unfold aJ;rw[h];kernel_rfl))
  rw[z0,Bool.and_true]
 ·refine Eq.trans (b:=(x.ao.all eB&&(ak x.n 0&&(ak x.m 0&&((aj 0 (x.ao.length:Int)&&(aj (x.ao.length:Int) 0&&true))&&((x.name.data.toList==[])&&cf x)))))) (by rw[h];kernel_rfl) (Eq.trans (b:=(x.ao.all eB&&(ak x.n 0&&(ak x.m 0&&(ak (x.ao.length:Int) 0&&((x.name.data.toList==[])&&cf x)))))) ?_ (by unfold aJ;rw[h];kernel_rfl))
  rw[z0,Bool.and_true]
 ·refine Eq.trans (b:=(x.ao.all eB&&(ak x.n 0&&(ak x.m 0&&((aj 1 (x.ao.length:Int)&&(aj (x.ao.length:Int) 1&&true))&&((x.name.data.toList==[])&&cf x)))))) (by rw[h];kernel_rfl) (Eq.trans (b:=(x.ao.all eB&&(ak x.n 0&&(ak x.m 0&&(ak (x.ao.length:Int) 1&&((x.name.data.toList==[])&&cf x)))))) ?_ (by unfold aJ;rw[h];kernel_rfl))
  rw[z1,Bool.and_true]
 ·refine Eq.trans (b:=(x.ao.all eB&&(ak x.n 0&&(ak x.m 0&&((aj 0 (x.ao.length:Int)&&(aj (x.ao.length:Int) 0&&true))&&((x.name.data.toList==[])&&cf x)))))) (by rw[h];kernel_rfl) (Eq.trans (b:=(x.ao.all eB&&(ak x.n 0&&(ak x.m 0&&(ak (x.ao.length:Int) 0&&((x.name.data.toList==[])&&cf x)))))) ?_ (by unfold aJ;rw[h];kernel_rfl))
  rw[z0,Bool.and_true]
 ·refine Eq.trans (b:=(x.ao.all eB&&(ak x.n 0&&(ak x.m 0&&((aj 0 (x.ao.length:Int)&&(aj (x.ao.length:Int) 0&&true))&&((x.name.data.toList==[])&&cf x)))))) (by rw[h];kernel_rfl) (Eq.trans (b:=(x.ao.all eB&&(ak x.n 0&&(ak x.m 0&&(ak (x.ao.length:Int) 0&&((x.name.data.toList==[])&&cf x)))))) ?_ (by unfold aJ;rw[h];kernel_rfl))
  rw[z0,Bool.and_true]
 ·refine Eq.trans (b:=(x.ao.all eB&&(ak x.n 0&&(ak x.m 0&&((aj 0 (x.ao.length:Int)&&(aj (x.ao.length:Int) 0&&true))&&((x.name.data.toList==[])&&cf x)))))) (by rw[h];kernel_rfl) (Eq.trans (b:=(x.ao.all eB&&(ak x.n 0&&(ak x.m 0&&(ak (x.ao.length:Int) 0&&((x.name.data.toList==[])&&cf x)))))) ?_ (by unfold aJ;rw[h];kernel_rfl))
  rw[z0,Bool.and_true]
 ·refine Eq.trans (b:=(x.ao.all eB&&(ak x.n 0&&(ak x.m 0&&((aj 0 (x.ao.length:Int)&&(aj (x.ao.length:Int) 0&&true))&&((x.name.data.toList==[])&&cf x)))))) (by rw[h];kernel_rfl) (Eq.trans (b:=(x.ao.all eB&&(ak x.n 0&&(ak x.m 0&&(ak (x.ao.length:Int) 0&&((x.name.data.toList==[])&&cf x)))))) ?_ (by unfold aJ;rw[h];kernel_rfl))
  rw[z0,Bool.and_true]
 ·refine Eq.trans (b:=(x.ao.all eB&&(ak x.n 0&&(ak x.m 0&&((aj 0 (x.ao.length:Int)&&(aj (x.ao.length:Int) 0&&true))&&((x.name.data.toList==[])&&cf x)))))) (by rw[h];kernel_rfl) (Eq.trans (b:=(x.ao.all eB&&(ak x.n 0&&(ak x.m 0&&(ak (x.ao.length:Int) 0&&((x.name.data.toList==[])&&cf x)))))) ?_ (by unfold aJ;rw[h];kernel_rfl))
  rw[z0,Bool.and_true]
 ·refine Eq.trans (b:=(x.ao.all eB&&(ak x.n 0&&(ak x.m 0&&((aj 0 (x.ao.length:Int)&&(aj (x.ao.length:Int) 0&&true))&&((x.name.data.toList==[])&&cf x)))))) (by rw[h];kernel_rfl) (Eq.trans (b:=(x.ao.all eB&&(ak x.n 0&&(ak x.m 0&&(ak (x.ao.length:Int) 0&&((x.name.data.toList==[])&&cf x)))))) ?_ (by unfold aJ;rw[h];kernel_rfl))
  rw[z0,Bool.and_true]
 ·refine Eq.trans (b:=(x.ao.all eB&&(ak x.n 0&&(ak x.m 0&&((aj 0 (x.ao.length:Int)&&(aj (x.ao.length:Int) 0&&true))&&((x.name.data.toList==[])&&cf x)))))) (by rw[h];kernel_rfl) (Eq.trans (b:=(x.ao.all eB&&(ak x.n 0&&(ak x.m 0&&(ak (x.ao.length:Int) 0&&((x.name.data.toList==[])&&cf x)))))) ?_ (by unfold aJ;rw[h];kernel_rfl))
  rw[z0,Bool.and_true]
 ·refine Eq.trans (b:=(x.ao.all eB&&(ak x.n 0&&(ak x.m 0&&((aj 0 (x.ao.length:Int)&&(aj (x.ao.length:Int) 0&&true))&&((x.name.data.toList==[])&&cf x)))))) (by rw[h];kernel_rfl) (Eq.trans (b:=(x.ao.all eB&&(ak x.n 0&&(ak x.m 0&&(ak (x.ao.length:Int) 0&&((x.name.data.toList==[])&&cf x)))))) ?_ (by unfold aJ;rw[h];kernel_rfl))
  rw[z0,Bool.and_true]
 ·refine Eq.trans (b:=(x.ao.all eB&&(ak x.n 0&&(ak x.m 0&&((aj 0 (x.ao.length:Int)&&(aj (x.ao.length:Int) 0&&true))&&((x.name.data.toList==[])&&cf x)))))) (by rw[h];kernel_rfl) (Eq.trans (b:=(x.ao.all eB&&(ak x.n 0&&(ak x.m 0&&(ak (x.ao.length:Int) 0&&((x.name.data.toList==[])&&cf x)))))) ?_ (by unfold aJ;rw[h];kernel_rfl))
  rw[z0,Bool.and_true]
 ·refine Eq.trans (b:=(x.ao.all eB&&(ak x.n 0&&(ak x.m 0&&((aj 0 (x.ao.length:Int)&&(aj (x.ao.length:Int) 0&&true))&&((x.name.data.toList==[])&&cf x)))))) (by rw[h];kernel_rfl) (Eq.trans (b:=(x.ao.all eB&&(ak x.n 0&&(ak x.m 0&&(ak (x.ao.length:Int) 0&&((x.name.data.toList==[])&&cf x)))))) ?_ (by unfold aJ;rw[h];kernel_rfl))
  rw[z0,Bool.and_true]
 ·refine Eq.trans (b:=(x.ao.all eB&&(ak x.n 0&&(ak x.m 0&&((aj 0 (x.ao.length:Int)&&(aj (x.ao.length:Int) 0&&true))&&((x.name.data.toList==[])&&cf x)))))) (by rw[h];kernel_rfl) (Eq.trans (b:=(x.ao.all eB&&(ak x.n 0&&(ak x.m 0&&(ak (x.ao.length:Int) 0&&((x.name.data.toList==[])&&cf x)))))) ?_ (by unfold aJ;rw[h];kernel_rfl))
  rw[z0,Bool.and_true]
 ·refine Eq.trans (b:=(x.ao.all eB&&(ak x.n 0&&(ak x.m 0&&((aj 0 (x.ao.length:Int)&&(aj (x.ao.length:Int) 0&&true))&&((x.name.data.toList==[])&&cf x)))))) (by rw[h];kernel_rfl) (Eq.trans (b:=(x.ao.all eB&&(ak x.n 0&&(ak x.m 0&&(ak (x.ao.length:Int) 0&&((x.name.data.toList==[])&&cf x)))))) ?_ (by unfold aJ;rw[h];kernel_rfl))
  rw[z0,Bool.and_true]
 ·refine Eq.trans (b:=(x.ao.all eB&&(ak x.n 0&&(ak x.m 0&&((aj 0 (x.ao.length:Int)&&(aj (x.ao.length:Int) 0&&true))&&((x.name.data.toList==[])&&cf x)))))) (by rw[h];kernel_rfl) (Eq.trans (b:=(x.ao.all eB&&(ak x.n 0&&(ak x.m 0&&(ak (x.ao.length:Int) 0&&((x.name.data.toList==[])&&cf x)))))) ?_ (by unfold aJ;rw[h];kernel_rfl))
  rw[z0,Bool.and_true]
 ·refine Eq.trans (b:=(x.ao.all eB&&(ak x.n 0&&(ak x.m 0&&((aj 0 (x.ao.length:Int)&&(aj (x.ao.length:Int) 0&&true))&&((x.name.data.toList==[])&&cf x)))))) (by rw[h];kernel_rfl) (Eq.trans (b:=(x.ao.all eB&&(ak x.n 0&&(ak x.m 0&&(ak (x.ao.length:Int) 0&&((x.name.data.toList==[])&&cf x)))))) ?_ (by unfold aJ;rw[h];kernel_rfl))
  rw[z0,Bool.and_true]
 ·refine Eq.trans (b:=(x.ao.all eB&&(ak x.n 0&&(ak x.m 0&&((aj 0 (x.ao.length:Int)&&(aj (x.ao.length:Int) 0&&true))&&((x.name.data.toList==[])&&cf x)))))) (by rw[h];kernel_rfl) (Eq.trans (b:=(x.ao.all eB&&(ak x.n 0&&(ak x.m 0&&(ak (x.ao.length:Int) 0&&((x.name.data.toList==[])&&cf x)))))) ?_ (by unfold aJ;rw[h];kernel_rfl))
  rw[z0,Bool.and_true]
 ·refine Eq.trans (b:=(x.ao.all eB&&(ak x.n 0&&(ak x.m 0&&((aj 0 (x.ao.length:Int)&&(aj (x.ao.length:Int) 0&&true))&&((x.name.data.toList==[])&&cf x)))))) (by rw[h];kernel_rfl) (Eq.trans (b:=(x.ao.all eB&&(ak x.n 0&&(ak x.m 0&&(ak (x.ao.length:Int) 0&&((x.name.data.toList==[])&&cf x)))))) ?_ (by unfold aJ;rw[h];kernel_rfl))
  rw[z0,Bool.and_true]
 ·refine Eq.trans (b:=(x.ao.all eB&&(ak x.n 0&&(ak x.m 0&&((aj 0 (x.ao.length:Int)&&(aj (x.ao.length:Int) 0&&true))&&((x.name.data.toList==[])&&cf x)))))) (by rw[h];kernel_rfl) (Eq.trans (b:=(x.ao.all eB&&(ak x.n 0&&(ak x.m 0&&(ak (x.ao.length:Int) 0&&((x.name.data.toList==[])&&cf x)))))) ?_ (by unfold aJ;rw[h];kernel_rfl))
  rw[z0,Bool.and_true]
 ·refine Eq.trans (b:=(x.ao.all eB&&(ak x.n 0&&(ak x.m 0&&((aj 0 (x.ao.length:Int)&&(aj (x.ao.length:Int) 0&&true))&&((x.name.data.toList==[])&&EV x)))))) (by rw[h];kernel_rfl) (Eq.trans (b:=(x.ao.all eB&&(ak x.n 0&&(ak x.m 0&&(ak (x.ao.length:Int) 0&&((x.name.data.toList==[])&&EV x)))))) ?_ (by unfold aJ;rw[h];kernel_rfl))
  rw[z0,Bool.and_true]
 ·refine Eq.trans (b:=(x.ao.all eB&&(true&&(ak x.m 0&&((aj 0 (x.ao.length:Int)&&(aj (x.ao.length:Int) 0&&(aj 0 x.n&&aj x.n 4096)))&&((x.name.data.toList==[])&&cf x)))))) (by rw[h];kernel_rfl) (Eq.trans (b:=(x.ao.all eB&&((aj 0 x.n&&aj x.n 4096)&&(ak x.m 0&&(ak (x.ao.length:Int) 0&&((x.name.data.toList==[])&&cf x)))))) ?_ (by unfold aJ;rw[h];kernel_rfl))
  rw[z0]
  cases x.ao.all eB<;>cases ak x.m 0<;>cases ak (x.ao.length:Int) 0<;>cases aj 0 x.n<;>cases aj x.n 4096<;>rfl
 ·refine Eq.trans (b:=(x.ao.all eB&&(true&&(true&&((aj 0 (x.ao.length:Int)&&(aj (x.ao.length:Int) 0&&(aj 0 x.n&&(aj x.n x.m&&aj x.m 4096))))&&((x.name.data.toList==[])&&cf x)))))) (by rw[h];kernel_rfl) (Eq.trans (b:=(x.ao.all eB&&((aj 0 x.n&&aj x.n x.m)&&(aj x.m 4096&&(ak (x.ao.length:Int) 0&&((x.name.data.toList==[])&&cf x)))))) ?_ (by unfold aJ;rw[h];kernel_rfl))
  rw[z0]
  cases x.ao.all eB<;>cases aj x.m 4096<;>cases ak (x.ao.length:Int) 0<;>cases aj 0 x.n<;>cases aj x.n x.m<;>rfl
 ·refine Eq.trans (b:=(x.ao.all eB&&(ak x.n 0&&(ak x.m 0&&((aj 1 (x.ao.length:Int)&&(aj (x.ao.length:Int) 256&&true))&&((x.name.data.toList==[])&&cf x)))))) (by rw[h];kernel_rfl) (Eq.trans (b:=(x.ao.all eB&&(ak x.n 0&&(ak x.m 0&&((aj 1 (x.ao.length:Int)&&aj (x.ao.length:Int) 256)&&((x.name.data.toList==[])&&cf x)))))) ?_ (by unfold aJ;rw[h];kernel_rfl))
  rw[Bool.and_true]
 ·refine Eq.trans (b:=(x.ao.all eB&&(ak x.n 0&&(ak x.m 0&&((aj 1 (x.ao.length:Int)&&(aj (x.ao.length:Int) 256&&true))&&((x.name.data.toList==[])&&cf x)))))) (by rw[h];kernel_rfl) (Eq.trans (b:=(x.ao.all eB&&(ak x.n 0&&(ak x.m 0&&((aj 1 (x.ao.length:Int)&&aj (x.ao.length:Int) 256)&&((x.name.data.toList==[])&&cf x)))))) ?_ (by unfold aJ;rw[h];kernel_rfl))
  rw[Bool.and_true]
 ·refine Eq.trans (b:=(x.ao.all eB&&(ak x.n 0&&(ak x.m 0&&((aj 1 (x.ao.length:Int)&&(aj (x.ao.length:Int) 256&&true))&&((x.name.data.toList==[])&&cf x)))))) (by rw[h];kernel_rfl) (Eq.trans (b:=(x.ao.all eB&&(ak x.n 0&&(ak x.m 0&&((aj 1 (x.ao.length:Int)&&aj (x.ao.length:Int) 256)&&((x.name.data.toList==[])&&cf x)))))) ?_ (by unfold aJ;rw[h];kernel_rfl))
  rw[Bool.and_true]
 ·refine Eq.trans (b:=(x.ao.all eB&&(ak x.n 0&&(ak x.m 0&&((aj 4 (x.ao.length:Int)&&(aj (x.ao.length:Int) 4&&cS x.ao))&&(pQ x.name&&cf x)))))) (by rw[h];kernel_rfl) (Eq.trans (b:=(x.ao.all eB&&(ak x.n 0&&(ak x.m 0&&(cS x.ao&&(pQ x.name&&cf x)))))) ?_ (by unfold aJ;rw[h];kernel_rfl))
  rw[z4]
 ·refine Eq.trans (b:=(x.ao.all eB&&(ak x.n 0&&(ak x.m 0&&((aj 0 (x.ao.length:Int)&&(aj (x.ao.length:Int) 0&&true))&&(pQ x.name&&cf x)))))) (by rw[h];kernel_rfl) (Eq.trans (b:=(x.ao.all eB&&(ak x.n 0&&(ak x.m 0&&(ak (x.ao.length:Int) 0&&(pQ x.name&&cf x)))))) ?_ (by unfold aJ;rw[h];kernel_rfl))
  rw[z0,Bool.and_true]
end Go.V
