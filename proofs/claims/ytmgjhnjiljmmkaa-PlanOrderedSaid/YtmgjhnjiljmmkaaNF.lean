/- Small nets, light plans, what nodes need in the program, rings of both. Conditions: those that each theorem names. (Names are short so that the claim keeps to its size.) -/
import Derived.Test.YtmgjhnjiljmmkaaNE
import Derived.Test.YtmgjhnjiljmmkaaVF
set_option linter.unusedSimpArgs false
set_option linter.unusedVariables false
set_option maxRecDepth 100000
namespace Go.V
open Go.Proofs
def wo (x:Nf) (l:Nat):Bool:= !au 100 x.name.size&&(!au 100 x.op.size&&(!au 100 x.args.length&&(!au 300 x.ao.length&& !au 4 l)))
mutual
def jI:Net→Bool
 | .mk ins ns outs=> !au 60 ns.length&&(!au 100 outs.length&&(!au 100 (IntKind.i64.wrap ((ns.length+ca ns:Nat):Int))&&gJ ns))
def gJ:List (Nf×List Net)→Bool
 | []=>true
 | (x,ms)::r=>wo x ms.length&&(jc ms&&gJ r)
def jc:List Net→Bool
 | []=>true
 | m::r=>jI m&&jc r
end
theorem Jf (n:Net):jI n=(!au 60 n.nodes.length&&(!au 100 n.outs.length&&(!au 100 (IntKind.i64.wrap (n.size:Int))&&gJ n.nodes))):=by
 cases n;rw[jI,Net.size_eq];rfl
theorem An (x:Node) (r:List Node):gJ (x::r)=(wo x.1 x.2.length&&(jc x.2&&gJ r)):=by cases x;rw[gJ]
section
variable {call:aw} {k m1:Nat} {v0 v1 v2 v3 v4 v5 v6 v7 v8 v9 v10 v11 v12 v13 v14 v15 v16 v17:PV}
theorem Ud {ms:List Net} (hl:ms.length<bf) {i:Nat} (hi:i<4611686018427387904) (H:∀m∈ms,call 5 [cn m]=rB (jI m)):∀(n j:Nat),ms.length-j<n→
  N7 call k m1 n v0 v1 v2 v3 v4 v5 v6 v7 v8 v9 v10 v11 v12 v13 v14 v15 v16 (iv i) (.sl (ms.map Net.pv)) (iv ms.length) (iv j)=(bif jc (ms.drop j)then Lo call k m1 v0 v1 v2 v15 v16 (iv ((i+1:Nat):Int))else rB false)
 | 0,j,h=>by omega
 | n+1,j,h=>by
  have jR:=hl
  unfold bf at jR
  rw[Ij]
  by_cases hj:j<ms.length
  ·have hn:nth default (ms.map Net.pv) j=ms[j].pv:=aK _ _ _ _ hj
   have ih:=Ud hl hi H n (j+1) (by omega)
   rw[bb hj,jc]
   simp only[TT,ab,aa,Ty.eq,hj,hn,eA,H _ (bz hj),aq (show j<4611686018427387904 by omega)]
   cases jI ms[j]
   ·rfl
   ·exact ih
  ·rw[aT (by omega),jc]
   simp only[TT,ab,aa,Ty.eq,hj,aq hi]
theorem Ue {ns:List Node} (hl:ns.length<bf) (L1:∀x∈ns,x.2.length<bf) (hk:KK≤k) (H:∀x∈ns,∀m∈x.2,call 5 [cn m]=rB (jI m)):∀(n j:Nat) {v0 v1 v2:PV},ns.length-j<n→
  Lo call k n v0 v1 v2 (.sl (ns.map af)) (iv ns.length) (iv j)=rB (gJ (ns.drop j))
 | 0,j,_,_,_,h=>by omega
 | n+1,j,v0,v1,v2,h=>by
  have jR:=hl
  unfold bf at jR
  have kV:=bN
  rw[Ik]
  by_cases hj:j<ns.length
  ·have hn:nth default (ns.map af) j=af ns[j]:=aK _ _ _ _ hj
   have hm:=bz hj
   have h2:=L1 _ hm
   have h3:=h2
   unfold bf at h3
   rw[bb hj,An]
   simp only[TT,ab,aa,Ty.eq,hj,hn,N9]
   unfold wo
   cases au 100 (ns[j].1.name.size:Int)
   ·cases au 100 (ns[j].1.op.size:Int)
    ·cases au 100 (ns[j].1.args.length:Int)
     ·cases au 300 (ns[j].1.ao.length:Int)
      ·cases au 4 (ns[j].2.length:Int)
       ·refine(Ud (call:=call) h2 (i:=j) (by omega) (H _ hm) k 0 (by omega)).trans ?_
        rw[List.drop_zero,Ue hl L1 hk H n (j+1) (by omega)]
        cases jc ns[j].2<;>rfl
       ·rfl
      ·rfl
     ·rfl
    ·rfl
   ·rfl
  ·rw[aT (by omega),gJ]
   simp only[TT,ab,aa,Ty.eq,hj]
end
section
variable {E:Nat→aw}
theorem f5 (hE:mo E):∀(d:Nat) (n:Net),cu n→n.dp≤d→∀k,KK+d+2≤k→E k 5 [cn n]=rB (jI n)
 | 0,n,ho,h=>by rw[n.vU]at h;omega
 | d+1,n,ho,h=>by
  intro k hk
  have kV:=bN
  obtain⟨j,hj,e⟩:=hE.at (d:=d+2) (by omega) 5 [cn n] rfl rfl
  rw[e,R5,Jf]
  simp only[TT,ab,aa,Ty.eq,eA,f17 hE n.dp n ho (Nat.le_refl _) j (by omega),N8]
  cases au 60 (n.nodes.length:Int)
  ·cases au 100 (n.outs.length:Int)
   ·cases au 100 (IntKind.i64.wrap (n.size:Int))
    ·have:=Ue (call:=E j) (k:=j) (v0:=iv n.ins) (v1:= .sl (n.nodes.map af)) (v2:=bH n.outs) ho.ln ho.EN (by omega) (fun x hx m hm=>f5 hE d m (ho.sub x hx m hm) (by have:=Net.sE hx hm;omega) j (by omega)) j 0 (by have:=j9 ho.ln (d:=0) (k:=j) (by omega);omega)
     rw[List.drop_zero]at this
     exact this
    ·rfl
   ·rfl
  ·rfl
end
structure Small (n:Net):Prop where
 s:jU n
 size:n.size≤100
mutual
theorem tF:∀(n:Net),jI n=true→n.size≤100
 | .mk i ns os,h=>by
  rw[jI,Bool.and_eq_true,Bool.and_eq_true,Bool.and_eq_true]at h
  obtain⟨h1,h2,h3,h4⟩:=h
  rw[Bool.not_eq_true']at h1 h3
  have a:=cM h1
  have b:=rH ns h4
  have c:=cM h3
  rw[bJ (by omega) (by omega)]at c
  rw[Net.size];omega
theorem rH:∀(ns:List (Nf×List Net)),gJ ns=true→ca ns≤400*ns.length
 | [],_=>by simp[ca]
 | (x,ms)::r,h=>by
  rw[gJ,Bool.and_eq_true,Bool.and_eq_true]at h
  obtain⟨h1,h2,h3⟩:=h
  have a:=rJ ms h2
  have b:=rH r h3
  unfold wo at h1
  simp only[Bool.and_eq_true,Bool.not_eq_true']at h1
  have c:=cM h1.2.2.2.2
  rw[ca,List.length_cons];omega
theorem rJ:∀(ms:List Net),jc ms=true→cx ms≤100*ms.length
 | [],_=>by simp[cx]
 | m::r,h=>by
  rw[jc,Bool.and_eq_true]at h
  have a:=tF m h.1
  have b:=rJ r h.2
  rw[cx,List.length_cons];omega
end
mutual
theorem CK:∀(n:Net),jI n=true→jU n
 | .mk i ns os,h=>by
  rw[jI,Bool.and_eq_true,Bool.and_eq_true,Bool.and_eq_true]at h
  obtain⟨a,b⟩:=yn ns h.2.2.2
  exact .mk i ns os a b
theorem yn:∀(ns:List (Nf×List Net)),gJ ns=true→(∀x∈ns,x.1.args.length≤1000∧x.1.ao.length≤1000)∧(∀x∈ns,∀m∈x.2,jU m)
 | [],_=>⟨fun x hx=>by(cases hx),fun x hx=>by(cases hx)⟩
 | (y,ms)::r,h=>by
  rw[gJ,Bool.and_eq_true,Bool.and_eq_true]at h
  obtain⟨h1,h2,h3⟩:=h
  obtain⟨a,b⟩:=yn r h3
  have c:=yo ms h2
  unfold wo at h1
  simp only[Bool.and_eq_true,Bool.not_eq_true']at h1
  have d:=cM h1.2.2.1
  have e:=cM h1.2.2.2.1
  refine⟨fun x hx=> ?_,fun x hx=> ?_⟩
  ·rcases List.mem_cons.1 hx with e0 | hx
   ·rw[e0];exact⟨by show y.args.length≤1000;omega,by show y.ao.length≤1000;omega⟩
   ·exact a x hx
  ·rcases List.mem_cons.1 hx with e0 | hx
   ·rw[e0];exact c
   ·exact b x hx
theorem yo:∀(ms:List Net),jc ms=true→∀m∈ms,jU m
 | [],_,m,hm=>by cases hm
 | y::r,h,m,hm=>by
  rw[jc,Bool.and_eq_true]at h
  rcases List.mem_cons.1 hm with e0 | hm
  ·rw[e0];exact CK y h.1
  ·exact yo r h.2 m hm
end
theorem MA {n:Net} (h:jI n=true):Small n:=⟨CK n h,tF n h⟩
end Go.V
namespace Go.V
open Go.Proofs
def oY (c:Nat) (n:Int) (j:Nat):Bool:=
 bif Nat.beq c 27 then ak j 2
 else bif Nat.beq c 28 then ak j 1|| (ak j 3|| (ak j 0&&ak n 0))
 else bif Nat.beq c 31 then ak j 1
 else bif Nat.beq c 30 then ak j 2|| ak j 4
 else true
def jV (x:Nf) (vec:Int):Bool:=Nat.beq (aF x.op) 27&&(au (x.args.getD 1 0) 0&&(au (x.args.getD 2 0) 0&&aj vec x.n))
def fM (x:Nf):List Int:=pick (oY (aF x.op) x.n) 0 x.args
def fe (x:Nf) (vec:Int):List Int:=bif jV x vec then []else pick (fun j=> !oY (aF x.op) x.n j) 0 x.args
theorem GU {α:Type} (x y:α):∀(l1 l2:List α),(l1++x::l2).set l1.length y=l1++y::l2
 | [],l2=>rfl
 | a::l1,l2=>by simp only[List.cons_append,List.length_cons,List.set_cons_succ,GU x y l1 l2]
section
variable {E:Nat→aw} {k m1:Nat} {v0 v1 v2 v3 v9 v22 v23:PV} {w4 w5:List PV}
theorem f41 (hE:mo E) (hk:KK+1≤k) (x:Node) (j:Nat):E k 41 [j8 x,aI j]=rB (oY (aF x.1.op) x.1.n j):=by
 obtain⟨i,hi,e⟩:=hE.at hk 41 [j8 x,aI j] rfl rfl
 rw[e,R41]
 simp only[TT,ab,aa,Ty.eq,eO,gZ,hZ,du,dv,eP,h9,ia,ib,ic,ig,ij,ik,il,im,iq,mq,mr,mu,mv,ir,mw,iu,iw,iy,eQ,iz,cP,eR,dw,dx,eT,eU,eV,iA,iB,dy,dz,iC,kz,eW,eX,dA,my,mz,eY,eZ]
 unfold oY
 generalize aF x.1.op=c
 cases Nat.beq c 27
 ·cases Nat.beq c 28
  ·cases Nat.beq c 31
   ·cases Nat.beq c 30
    ·rfl
    ·cases ak (j:Int) 2<;>rfl
   ·rfl
  ·cases ak (j:Int) 1<;>cases ak (j:Int) 3<;>cases ak (j:Int) 0<;>rfl
 ·rfl
theorem P1 (hE:mo E) (hk:KK+1≤k) {x:Node} {i:Nat} {W6 W7:List (List Int)} (XG:i<W6.length) (CL:i<W7.length) (Uf:i<1000000) (late:Bool) (hl:x.1.args.length≤1000):∀(n j:Nat) (a b:List Int),x.1.args.length-j<n→a.length≤j→b.length≤j→
  Gp (E k) k m1 n v0 v1 v2 v3 w4 w5 ((W6.set i a).map bH) ((W7.set i b).map bH) (iv i) (.str x.1.op) (.str x.1.name) (iv x.1.n) (iv x.1.m) (.sl (x.1.ao.map Qn.pv)) (.str x.1.fk) (iv x.1.fi) (iv x.1.ff) (.str x.1.fr) (.str x.1.fo) (bH x.1.args) (.sl (x.2.map Net.pv)) (.bool late) v22 v23 (iv i) (bH x.1.args) (iv x.1.args.length) (iv j)=
   BV (E k) k m1 v0 v1 v2 v3 w4 w5 ((W6.set i (a++pick (oY (aF x.1.op) x.1.n) j (x.1.args.drop j))).map bH) ((W7.set i (b++(bif late then []else pick (fun j=> !oY (aF x.1.op) x.1.n j) j (x.1.args.drop j)))).map bH) v22 v23 (iv ((i+1:Nat):Int))
 | 0,j,a,b,h,_,_=>by omega
 | n+1,j,a,b,h,ha,hb=>by
  rw[Ek]
  by_cases hj:j<x.1.args.length
  ·have hn:nth default (x.1.args.map iv) j=iv x.1.args[j]:=aK _ _ _ _ hj
   have n6:nth default ((W6.set i a).map bH) i=bH a:=by
    rw[aK _ _ _ _ (by rw[List.length_set];exact XG),List.getElem_set_self]
   have n7:nth default ((W7.set i b).map bH) i=bH b:=by
    rw[aK _ _ _ _ (by rw[List.length_set];exact CL),List.getElem_set_self]
   have s6:∀c:List Int,((W6.set i a).map bH).set i (PV.sl (c.map iv))=(W6.set i c).map bH:=fun c=>by
    rw[←List.map_set (f:=bH) (a:=c),List.set_set]
   have s7:∀c:List Int,((W7.set i b).map bH).set i (PV.sl (c.map iv))=(W7.set i c).map bH:=fun c=>by
    rw[←List.map_set (f:=bH) (a:=c),List.set_set]
   rw[bb hj,pick,pick]
   simp only[TT,ab,aa,Ty.eq,List.length_set,hj,hn,XG,CL,n6,n7,gH,f41 hE hk,Iq,aq (show j<4611686018427387904 by omega),List.reverse_singleton,List.length_singleton,jo]
   rw[kQ (show(a.length+1)*8≤room by show _≤140737488355328;omega),kQ (show(b.length+1)*8≤room by show _≤140737488355328;omega)]
   have e6:List.map iv a++[iv x.1.args[j]]=(a++[x.1.args[j]]).map iv:=by simp
   have e7:List.map iv b++[iv x.1.args[j]]=(b++[x.1.args[j]]).map iv:=by simp
   rw[e6,e7,s6,s7]
   have ih:=P1 hE hk XG CL Uf late hl n (j+1)
   generalize hA:x.1.args[j]=A at*
   cases b6:au A 0
   ·rw[b7 (cM b6)]
    cases hp:oY (aF x.1.op) x.1.n j
    ·simp only[Bool.false_and,Bool.not_false,Bool.and_true,cond_true,cond_false]
     cases late
     ·simp only[Bool.not_false,cond_true,cond_false]
      rw[ih a (b++[A]) (by omega) (by omega) (by simp;omega)]
      simp only[cond_false,List.append_assoc,List.singleton_append]
     ·simp only[Bool.not_true,cond_true,cond_false]
      rw[ih a b (by omega) (by omega) (by omega)]
      simp only[cond_true]
    ·simp only[Bool.true_and,Bool.not_true,Bool.false_and,Bool.and_self,cond_true,cond_false]
     rw[ih (a++[A]) b (by omega) (by simp;omega) (by omega)]
     simp only[List.append_assoc,List.singleton_append]
   ·rw[ml (sG b6)]
    simp only[Bool.and_false,cond_true,cond_false]
    rw[ih a b (by omega) (by omega) (by omega)]
  ·rw[aT (by omega),pick,pick]
   simp only[TT,ab,aa,Ty.eq,hj,aq (show i<4611686018427387904 by omega),List.append_nil]
   cases late<;>simp only[cond_true,cond_false,List.append_nil]
theorem P2 (hE:mo E) (hk:KK+1≤k) {n:Net} {vec:Int} (hl:n.nodes.length≤2000) (dE:∀x∈n.nodes,x.1.args.length≤1000) (ye:∀x∈n.nodes,aF x.1.op=27→x.1.args.length=3):∀(f j:Nat),n.nodes.length-j<f→
  BV (E k) k f (iv vec) (iv n.ins) (.sl (n.nodes.map af)) (bH n.outs) w4 w5 (((n.nodes.take j).map (fun(x:Node)=>fM x.1)++(n.nodes.drop j).map (fun _=>[])).map bH) (((n.nodes.take j).map (fun(x:Node)=>fe x.1 vec)++(n.nodes.drop j).map (fun _=>[])).map bH) (.sl (n.nodes.map af)) (iv n.nodes.length) (iv j)=
   some ([.pv (.st 65) (.agg [.sl ((n.nodes.map (fun(x:Node)=>fM x.1)).map bH), .sl ((n.nodes.map (fun(x:Node)=>fe x.1 vec)).map bH)])],[])
 | 0,j,h=>by omega
 | f+1,j,h=>by
  have kV:=bN
  rw[El]
  by_cases hj:j<n.nodes.length
  ·have hn:nth default (n.nodes.map af) j=af n.nodes[j]:=aK _ _ _ _ hj
   have hm:=bz hj
   have ha:=dE _ hm
   have hd3:=ye _ hm
   have ih:=P2 hE hk (vec:=vec) hl dE ye f (j+1) (by omega)
   have lt:∀(α:Type) (g:Node→α),((n.nodes.take j).map g).length=j:=fun α g=>by rw[List.length_map,List.length_take,Nat.min_eq_left (by omega)]
   have h6:j<((n.nodes.take j).map (fun(x:Node)=>fM x.1)++(n.nodes.drop j).map (fun _=>([]:List Int))).length:=by rw[List.length_append,lt,List.length_map,List.length_drop];omega
   have h7:j<((n.nodes.take j).map (fun(x:Node)=>fe x.1 vec)++(n.nodes.drop j).map (fun _=>([]:List Int))).length:=by rw[List.length_append,lt,List.length_map,List.length_drop];omega
   have tk:n.nodes.take (j+1)=n.nodes.take j++[n.nodes[j]]:=by rw[List.take_add_one,List.getElem?_eq_getElem hj];rfl
   have key:∀(g:Node→List Int) (c:List Int),((n.nodes.take j).map g++(n.nodes.drop j).map (fun _=>([]:List Int))).set j c=(n.nodes.take j).map g++c::(n.nodes.drop (j+1)).map (fun _=>([]:List Int)):=fun g c=>by
    rw[bb hj,List.map_cons]
    have:=GU ([]:List Int) c ((n.nodes.take j).map g) ((n.nodes.drop (j+1)).map (fun _=>[]))
    rw[lt]at this
    exact this
   have same:∀(g:Node→List Int),(n.nodes.take j).map g++(n.nodes.drop j).map (fun _=>([]:List Int))=((n.nodes.take j).map g++(n.nodes.drop j).map (fun _=>([]:List Int))).set j []:=fun g=>by
    rw[key,bb hj,List.map_cons]
   have Sd:∀late,late=jV n.nodes[j].1 vec→vB (E k) k f (iv vec) (iv n.ins) (.sl (n.nodes.map af)) (bH n.outs) w4 w5 (((n.nodes.take j).map (fun(x:Node)=>fM x.1)++(n.nodes.drop j).map (fun _=>[])).map bH) (((n.nodes.take j).map (fun(x:Node)=>fe x.1 vec)++(n.nodes.drop j).map (fun _=>[])).map bH) (iv j) (.str n.nodes[j].1.op) (.str n.nodes[j].1.name) (iv n.nodes[j].1.n) (iv n.nodes[j].1.m) (.sl (n.nodes[j].1.ao.map Qn.pv)) (.str n.nodes[j].1.fk) (iv n.nodes[j].1.fi) (iv n.nodes[j].1.ff) (.str n.nodes[j].1.fr) (.str n.nodes[j].1.fo) (bH n.nodes[j].1.args) (.sl (n.nodes[j].2.map Net.pv)) (.bool late) (.sl (n.nodes.map af)) (iv n.nodes.length) (iv j)=
     some ([.pv (.st 65) (.agg [.sl ((n.nodes.map (fun(x:Node)=>fM x.1)).map bH), .sl ((n.nodes.map (fun(x:Node)=>fe x.1 vec)).map bH)])],[]):=by
    rintro late yp
    rw[Lq,tL,List.length_map,same (fun(x:Node)=>fM x.1),same (fun(x:Node)=>fe x.1 vec)]
    refine(P1 hE hk h6 h7 (by omega) late ha k 0 [] [] (by omega) (by simp) (by simp)).trans ?_
    rw[key,key,List.nil_append,List.nil_append,List.drop_zero]
    have Zq:∀(g:Node→List Int) (R:List (List Int)),(n.nodes.take (j+1)).map g++R=(n.nodes.take j).map g++(g n.nodes[j]::R):=fun g R=>by
     rw[tk,List.map_append,List.append_assoc];rfl
    rw[Zq,Zq]at ih
    have e7:(bif late then []else pick (fun i=> !oY (aF n.nodes[j].1.op) n.nodes[j].1.n i) 0 n.nodes[j].1.args)=fe n.nodes[j].1 vec:=by rw[yp];rfl
    rw[e7]
    exact ih
   simp only[TT,ab,aa,Ty.eq,hj,hn,cP]
   cases hc:Nat.beq (aF n.nodes[j].1.op) 27
   ·exact Sd false (by unfold jV;rw[hc];rfl)
   ·have h3:=hd3 (Nat.eq_of_beq_eq_true hc)
    obtain⟨a,b,c,Ug⟩:∃a b c,n.nodes[j].1.args=[a,b,c]:=by
     match n.nodes[j].1.args,h3 with
     | [a,b,c],_=>exact⟨a,b,c,rfl⟩
    have XH:jV n.nodes[j].1 vec=(au b 0&&(au c 0&&aj vec n.nodes[j].1.n)):=by
     unfold jV;rw[hc,Ug];rfl
    rw[XH]at Sd
    rw[Ug]at Sd ⊢
    simp only[List.map_cons,List.map_nil,nth,tI,List.length_cons,List.length_nil,cond_true]
    rw[dF (show(1:Int)<((0+1+1+1:Nat):Int)by decide),dF (show(2:Int)<((0+1+1+1:Nat):Int)by decide)]
    cases hb:au b 0
    ·exact Sd false (by rw[hb];rfl)
    ·cases AB:au c 0
     ·exact Sd false (by rw[hb,AB];rfl)
     ·exact Sd (aj vec n.nodes[j].1.n) (by rw[hb,AB];rfl)
  ·rw[aT (by omega),List.take_of_length_le (by omega)]
   simp only[TT,ab,aa,Ty.eq,hj,List.map_nil,List.append_nil]
theorem f22 (hE:mo E) (hk:KK+2≤k) {n:Net} {vec:Int} (hl:n.nodes.length≤2000) (dE:∀x∈n.nodes,x.1.args.length≤1000) (ye:∀x∈n.nodes,aF x.1.op=27→x.1.args.length=3):
  E k 22 [cn n,aI vec]=some ([.pv (.st 65) (.agg [.sl ((n.nodes.map (fun(x:Node)=>fM x.1)).map bH), .sl ((n.nodes.map (fun(x:Node)=>fe x.1 vec)).map bH)])],[]):=by
 obtain⟨j,hj,e⟩:=hE.at hk 22 [cn n,aI vec] rfl rfl
 have kV:=bN
 rw[e,R22]
 simp only[TT,ab,aa,Ty.eq]
 rw[b7 (show(n.nodes.length:Int)≤(n.nodes.length:Int)by omega),b7 (show(n.nodes.length:Int)≤140737488355328 by omega),b7 (show((24:Nat):Int)* (n.nodes.length:Int)≤140737488355328 by omega)]
 have:=P2 hE hj (vec:=vec) (w4:=[]) (w5:=[]) hl dE ye j 0 (by omega)
 rw[List.take_zero,List.drop_zero,List.map_nil,List.map_nil,List.nil_append,List.map_map]at this
 have e0:List.map (bH ∘ fun _=>([]:List Int)) n.nodes=List.replicate n.nodes.length (PV.sl []):=by
  rw[List.eq_replicate_iff]
  refine⟨by simp,fun b hb=> ?_⟩
  obtain⟨_,_,rfl⟩:=List.mem_map.1 hb
  rfl
 rw[e0]at this
 exact this
end
end Go.V
namespace Go.V
open Go.Proofs
def P3:Nat→Int→Int→Int
 | 0,p,_=>p
 | f+1,p,s=>bif au p s then P3 f (p*2) s else p
def sI (vec:Int) (pw:Bool) (d:Int):Int:=bif pw then P3 20 1 (d+vec)else d+vec
def bV (vec:Int) (pw:Bool):Nat→List Node→List Ring
 | _,[]=>[]
 | i,x::r=>bif Nat.beq (aF x.1.op) 27 then⟨i,sI vec pw x.1.n⟩::bV vec pw (i+1) r else bV vec pw (i+1) r
theorem E7 (a b:PV):PV.agg (eo (PV.agg [PV.int .i64 0,PV.int .i64 0]).cells [(0,bif aO (Ty.int IntKind.i64)then bB a 0 1 else [a]),(1,bif aO (Ty.int IntKind.i64)then bB b 0 1 else [b])])= .agg [a,b]:=rfl
section
variable {call:aw} {k m1:Nat} {v0 v1 v2 v3 v4 v5 v6 v7 v8 v9 v10 v11:PV} {w5:List PV}
theorem P4 {s:Int}:∀(f n:Nat) (p:Int),f<n→1≤p→p*2 ^ f≤4294967296→s≤p*2 ^ f→Gc call k n (iv s) (iv p)=rI (P3 f p s)
 | f,0,p,h,_,_,_=>by omega
 | 0,n+1,p,h,h1,h2,h3=>by
  rw[vq]
  simp only[TT,ab,aa,Ty.eq,P3]
  rw[eg (by simpa using h3)];rfl
 | f+1,n+1,p,h,h1,h2,h3=>by
  rw[vq]
  have e:p*2 ^ (f+1)=p*2*2 ^ f:=by rw[Int.pow_succ,Int.mul_assoc,Int.mul_comm (2 ^ f) 2]
  have hp:p*2≤4294967296:=by
   have h5:(1:Int)≤2 ^ f:=(by have:(0:Int)<2 ^ f:=Int.pow_pos (by decide);omega)
   have:p*2*1≤p*2*2 ^ f:=Int.mul_le_mul_of_nonneg_left h5 (by omega)
   omega
  simp only[TT,ab,aa,Ty.eq,P3]
  cases hc:au p s
  ·rfl
  ·simp only[cond_true]
   rw[bJ (n:=p*2) (by omega) (by omega)]
   exact P4 f n (p*2) (by omega) (by omega) (by rw[←e];exact h2) (by rw[←e];exact h3)
theorem P5 {s:Int}:∀(f n:Nat) (p:Int),f<n→1≤p→p*2 ^ f≤4294967296→s≤p*2 ^ f→Gq call k m1 n v0 v1 v2 v3 v4 w5 v6 (iv s) (iv p) v9 v10 v11=sr call k m1 v0 v1 v2 v3 v4 w5 v6 (iv (P3 f p s)) v9 v10 v11
 | f,0,p,h,_,_,_=>by omega
 | 0,n+1,p,h,h1,h2,h3=>by
  rw[vC]
  simp only[TT,ab,aa,Ty.eq,P3]
  rw[eg (by simpa using h3)];rfl
 | f+1,n+1,p,h,h1,h2,h3=>by
  rw[vC]
  have e:p*2 ^ (f+1)=p*2*2 ^ f:=by rw[Int.pow_succ,Int.mul_assoc,Int.mul_comm (2 ^ f) 2]
  have hp:p*2≤4294967296:=by
   have h5:(1:Int)≤2 ^ f:=(by have:(0:Int)<2 ^ f:=Int.pow_pos (by decide);omega)
   have:p*2*1≤p*2*2 ^ f:=Int.mul_le_mul_of_nonneg_left h5 (by omega)
   omega
  simp only[TT,ab,aa,Ty.eq,P3]
  cases hc:au p s
  ·rfl
  ·simp only[cond_true]
   rw[bJ (n:=p*2) (by omega) (by omega)]
   exact P5 f n (p*2) (by omega) (by omega) (by rw[←e];exact h2) (by rw[←e];exact h3)
end
section
variable {E:Nat→aw} {k:Nat} {v0 v1 v2 v3 v4 v5 v6 v7 v8 v9 v10 v11:PV}
theorem f42 (hE:mo E) (hk:KK+1≤k) {d vec:Int} {pw:Bool} (hd:0≤d∧d≤4096) (hv:1≤vec∧vec≤64):E k 42 [aI d,aI vec,aB pw]=rI (sI vec pw d):=by
 obtain⟨j,hj,e⟩:=hE.at hk 42 [aI d,aI vec,aB pw] rfl rfl
 have kV:=bN
 rw[e,R42]
 simp only[TT,ab,aa,Ty.eq,bJ (n:=d+vec) (by omega) (by omega)]
 unfold sI
 cases pw
 ·rfl
 ·exact P4 20 j 1 (by omega) (by omega) (by decide) (by show d+vec≤1*1048576;omega)
theorem MB (hE:mo E) (hk:KK+1≤k) {n:Net} {vec:Int} {pw:Bool} (hv:1≤vec∧vec≤64) (hl:n.nodes.length≤2000) (hd:∀x∈n.nodes,aF x.1.op=27→0≤x.1.n∧x.1.n≤4096):∀(f j:Nat) (acc:List Ring),n.nodes.length-j<f→acc.length≤j→
  BW (E k) k f (iv vec) (.bool pw) v2 v3 v4 (acc.map Ring.pv) (.sl (n.nodes.map af)) (iv n.nodes.length) (iv j)=some ([.arr 57 ((acc++bV vec pw j (n.nodes.drop j)).map Ring.pv)],[])
 | 0,j,acc,h,_=>by omega
 | f+1,j,acc,h,ha=>by
  rw[En]
  by_cases hj:j<n.nodes.length
  ·have hn:nth default (n.nodes.map af) j=af n.nodes[j]:=aK _ _ _ _ hj
   have XI:=hd _ (bz hj)
   rw[bb hj,bV]
   simp only[TT,ab,aa,Ty.eq,hj,hn,cP,E7,List.reverse_singleton,List.length_singleton,aq (show j<4611686018427387904 by omega)]
   cases hc:Nat.beq (aF n.nodes[j].1.op) 27
   ·exact MB hE (pw:=pw) hk hv hl hd f (j+1) acc (by omega) (by omega)
   ·have ih:=MB hE (pw:=pw) hk hv hl hd f (j+1) (acc++[⟨j,sI vec pw n.nodes[j].1.n⟩]) (by omega) (by simp;omega)
    simp only[cond_true,f42 hE hk (XI (Nat.eq_of_beq_eq_true hc)) hv,ab,aa,Ty.eq,decide_true,tI]
    rw[kQ (show(acc.length+1)*16≤room by show _≤140737488355328;omega)]
    simp only[List.map_append,List.map_cons,List.map_nil,List.append_assoc,List.singleton_append]at ih ⊢
    exact ih
  ·rw[aT (by omega),bV]
   simp only[TT,ab,aa,Ty.eq,hj,List.append_nil]
theorem f25 (hE:mo E) (hk:KK+2≤k) {n:Net} {vec:Int} {pw:Bool} (hv:1≤vec∧vec≤64) (hl:n.nodes.length≤2000) (hd:∀x∈n.nodes,aF x.1.op=27→0≤x.1.n∧x.1.n≤4096):
  E k 25 [cn n,aI vec,aB pw]=some ([.arr 57 ((bV vec pw 0 n.nodes).map Ring.pv)],[]):=by
 obtain⟨j,hj,e⟩:=hE.at hk 25 [cn n,aI vec,aB pw] rfl rfl
 have kV:=bN
 rw[e,R25]
 simp only[Py,R9,Pz,tL,List.length_map]
 exact MB hE hj hv hl hd j 0 [] (by omega) (by simp)
theorem MC (hE:mo E) (hk:KK≤k) {n:Net} {vec:Int} {pw:Bool} (hv:1≤vec∧vec≤64) (hl:n.nodes.length≤2000) (hd:∀x∈n.nodes,aF x.1.op=27→0≤x.1.n∧x.1.n≤4096):∀(f j:Nat) (acc:List Ring),n.nodes.length-j<f→acc.length≤j→
  BX (E k) k f (iv vec) (.bool pw) v2 v3 v4 (acc.map Ring.pv) (.sl (n.nodes.map af)) (iv n.nodes.length) (iv j)=some ([.arr 57 ((acc++bV vec pw j (n.nodes.drop j)).map Ring.pv)],[])
 | 0,j,acc,h,_=>by omega
 | f+1,j,acc,h,ha=>by
  have kV:=bN
  rw[Eo]
  by_cases hj:j<n.nodes.length
  ·have hn:nth default (n.nodes.map af) j=af n.nodes[j]:=aK _ _ _ _ hj
   have XI:=hd _ (bz hj)
   have Nq:∀s,s=sI vec pw n.nodes[j].1.n→Nat.beq (aF n.nodes[j].1.op) 27=true→sr (E k) k f (iv vec) (.bool pw) v2 v3 v4 (acc.map Ring.pv) (iv j) (iv s) (.sl (n.nodes.map af)) (iv n.nodes.length) (iv j)=some ([.arr 57 ((acc++bV vec pw j (n.nodes.drop j)).map Ring.pv)],[]):=by
    rintro s rfl hc
    have ih:=MC hE (pw:=pw) hk hv hl hd f (j+1) (acc++[⟨j,sI vec pw n.nodes[j].1.n⟩]) (by omega) (by simp;omega)
    rw[Ir,bb hj,bV,hc]
    simp only[E7,List.reverse_singleton,List.length_singleton,List.length_map,tI,aq (show j<4611686018427387904 by omega),cond_true]
    rw[kQ (show(acc.length+1)*16≤room by show _≤140737488355328;omega)]
    simp only[List.map_append,List.map_cons,List.map_nil,List.append_assoc,List.singleton_append]at ih ⊢
    exact ih
   simp only[TT,ab,aa,Ty.eq,hj,hn,cP,aq (show j<4611686018427387904 by omega)]
   cases hc:Nat.beq (aF n.nodes[j].1.op) 27
   ·have ih:=MC hE (pw:=pw) hk hv hl hd f (j+1) acc (by omega) (by omega)
    rw[bb hj,bV,hc]
    exact ih
   ·have yP:=XI (Nat.eq_of_beq_eq_true hc)
    simp only[Bool.not_true,cond_false,bJ (n:=n.nodes[j].1.n+vec) (by omega) (by omega)]
    cases pw
    ·exact Nq _ rfl hc
    ·simp only[cond_true]
     refine(P5 20 k 1 (by omega) (by omega) (by decide) (by show n.nodes[j].1.n+vec≤1*1048576;omega)).trans ?_
     exact Nq _ rfl hc
  ·rw[aT (by omega),bV]
   simp only[TT,ab,aa,Ty.eq,hj,List.append_nil]
theorem f28 (hE:mo E) (hk:KK+1≤k) {n:Net} {vec:Int} {pw:Bool} (hv:1≤vec∧vec≤64) (hl:n.nodes.length≤2000) (hd:∀x∈n.nodes,aF x.1.op=27→0≤x.1.n∧x.1.n≤4096):
  E k 28 [cn n,aI vec,aB pw]=some ([.arr 57 ((bV vec pw 0 n.nodes).map Ring.pv)],[]):=by
 obtain⟨j,hj,e⟩:=hE.at hk 28 [cn n,aI vec,aB pw] rfl rfl
 have kV:=bN
 rw[e,R28]
 simp only[Py,R9,Pz,tL,List.length_map]
 exact MC hE hj hv hl hd j 0 [] (by omega) (by simp)
theorem P6 {call:aw} {l m:List Ring} (hl:l.length<bf) (hm:l.length=m.length):∀(n j:Nat),l.length-j<n→Gr call k n (.sl (l.map Ring.pv)) (.sl (m.map Ring.pv)) (iv l.length) (iv j)=rB (decide (l.drop j=m.drop j))
 | 0,j,h=>by omega
 | n+1,j,h=>by
  have jR:=hl
  unfold bf at jR
  rw[Ep]
  by_cases hj:j<l.length
  ·have wM:j<m.length:=by omega
   have hn:nth default (l.map Ring.pv) j=l[j].pv:=aK _ _ _ _ hj
   have Rx:nth default (m.map Ring.pv) j=m[j].pv:=aK _ _ _ _ wM
   have ih:=P6 (call:=call) hl hm n (j+1) (by omega)
   rw[bb hj,bb wM]
   simp only[TT,ab,aa,Ty.eq,hj,wM,hn,Rx,aq (show j<4611686018427387904 by omega),ih]
   generalize l[j]=a
   generalize m[j]=b
   obtain⟨a1,a2⟩:=a
   obtain⟨b1,b2⟩:=b
   by_cases h1:a1=b1
   ·by_cases h2:a2=b2
    ·rw[lk h1,lk h2];simp[h1,h2]
    ·rw[lk h1,eE h2];simp[h1,h2]
   ·rw[eE h1];simp[h1]
  ·rw[aT (by omega),aT (by omega)]
   simp only[TT,ab,aa,Ty.eq,hj]
theorem f35 (hE:mo E) (hk:KK+1≤k) {l m:List Ring} (hl:l.length<bf):E k 35 [.pv (.sl 57) (.sl (l.map Ring.pv)), .pv (.sl 57) (.sl (m.map Ring.pv))]=rB (decide (l=m)):=by
 obtain⟨j,hj,e⟩:=hE.at hk 35 [.pv (.sl 57) (.sl (l.map Ring.pv)), .pv (.sl 57) (.sl (m.map Ring.pv))] rfl rfl
 rw[e,R35]
 simp only[tL,List.length_map]
 by_cases h:l.length=m.length
 ·rw[lk (show(l.length:Int)=m.length by omega)]
  exact P6 hl h j 0 (by have:=j9 hl hj;omega)
 ·rw[eE (show(l.length:Int)≠m.length by omega)]
  have:¬l=m:=fun e=>h (by rw[e])
  simp[this]
end
end Go.V
namespace Go.V
open Go.Proofs
def E8 (p:eN):Bool:=aj (IntKind.i64.wrap ((p.rings.length+(p.loops.map fun l=>1+l.nodes.length).sum:Nat):Int)) 300
section
variable {call:aw} {k:Nat} {v0 v1 v2 v3:PV}
theorem P7 {ls:List Loop} (hl:ls.length<bf) (L1:∀l∈ls,l.nodes.length<bf):∀(n j:Nat) (t:Int),ls.length-j<n→
  Gm call k n v0 v1 v2 v3 (iv (IntKind.i64.wrap t)) (.sl (ls.map Loop.pv)) (iv ls.length) (iv j)=rB (aj (IntKind.i64.wrap (t+(((ls.drop j).map fun l=>1+l.nodes.length).sum:Nat))) 300)
 | 0,j,t,h=>by omega
 | n+1,j,t,h=>by
  have jR:=hl
  unfold bf at jR
  rw[Ej]
  by_cases hj:j<ls.length
  ·have hn:nth default (ls.map Loop.pv) j=ls[j].pv:=aK _ _ _ _ hj
   have hb:=L1 _ (bz hj)
   unfold bf at hb
   rw[bb hj,List.map_cons,List.sum_cons]
   simp only[TT,ab,aa,Ty.eq,hj,hn,wrap_add,aq (show j<4611686018427387904 by omega)]
   rw[P7 hl L1 n (j+1) _ (by omega)]
   generalize ((ls.drop (j+1)).map fun l=>1+l.nodes.length).sum=S
   rw[show t+(1+(ls[j].nodes.length:Int))+(S:Int)=t+((1+ls[j].nodes.length+S:Nat):Int)by omega]
  ·rw[aT (by omega)]
   simp only[TT,ab,aa,Ty.eq,hj,List.map_nil,List.sum_nil,Int.natCast_zero,Int.add_zero]
end
section
variable {E:Nat→aw} {k:Nat}
theorem f15 (hE:mo E) (hk:KK+1≤k) {p:eN} (hp:dH p):E k 15 [kT p]=rB (E8 p):=by
 obtain⟨j,hj,e⟩:=hE.at hk 15 [kT p] rfl rfl
 have hr:=hp.r1
 unfold bf at hr
 rw[e,R15]
 simp only[Xd,Xe,Xf,Xg,tL,List.length_map]
 have:=P7 (call:=E j) (k:=j) (v0:= .sl (p.loops.map Loop.pv)) (v1:= .sl (p.rings.map Ring.pv)) (v2:=iv p.ay) (v3:= .bool p.bG) hp.l1 hp.l2 j 0 (p.rings.length:Int) (by have:=j9 hp.l1 hj;omega)
 rw[bJ (n:=(p.rings.length:Int)) (by omega) (by omega)]at this
 refine this.trans ?_
 unfold E8
 rw[List.drop_zero,Int.natCast_add]
theorem f18 (hE:mo E) {n:Net} {v:Int} (ho:cu n) (hs:jU n) (eC:n.size≤1000000) (hk:KK+n.dp+9≤k):E k 18 [cn n,aI v]=rB (fL n&&(aj 1 v&&aj v 64)):=by
 obtain⟨j,hj,e⟩:=hE.at (d:=n.dp+8) (by omega) 18 [cn n,aI v] rfl rfl
 rw[e,R18]
 simp only[TT,ab,aa,Ty.eq,eA,f37 hE ho hs eC (show KK+n.dp+8≤j by omega)]
 cases fL n
 ·rfl
 ·cases aj 1 v<;>rfl
theorem f21 (hE:mo E) {n:Net} {v:Int} (hk:KK+1≤k) (h40:∀k,E k 40 [cn n]=rB (fL n)):E k 21 [cn n,aI v]=rB (aj 1 v&&(aj v 64&&fL n)):=by
 obtain⟨j,hj,e⟩:=hE.at hk 21 [cn n,aI v] rfl rfl
 rw[e,R21]
 simp only[TT,ab,aa,Ty.eq,eA,h40]
 cases aj 1 v
 ·rfl
 ·cases aj v 64<;>rfl
end
end Go.V
