/- places, plan.Check and plan.Waits of a right plan; its loops in another order are a right plan. Conditions: those that each theorem names. (Names are short so that the claim keeps to its size.) -/
import Derived.Test.YtmgjhnjiljmmkaaNH
import Derived.Test.YtmgjhnjiljmmkaaVJ
set_option linter.unusedSimpArgs false
set_option linter.unusedVariables false
set_option maxRecDepth 100000
namespace Go.V
open Go.Proofs
abbrev Wh:=Int×Int
def pz (q:Wh):PV:= .agg [iv q.1,iv q.2]
structure qw (p:eN) (N I K:Nat) (W:List Wh):Prop where
 lw:W.length=N
 fwd:∀i k x,Pr I K i k→At p i k x→W.getD x.toNat (0,0)=((i:Int),(k:Int))
 bwd:∀x:Nat,x<N→(W.getD x (0,0)).1= -1∨∃i k,Pr I K i k∧At p i k (x:Int)
section
variable {n:Net} {p:eN} {I K:Nat} {W:List Wh}
theorem qw.start {N:Nat} (hl:W.length=N) (h:∀x,x<N→(W.getD x (0,0)).1= -1):qw p N 0 0 W:=by
 refine⟨hl,fun i k x hP=> ?_,fun x hx=> .inl (h x hx)⟩
 rcases hP with h | ⟨_,h⟩<;>omega
theorem qw.next {N:Nat} {l:Loop} (h:qw p N I K W) (hl:p.loops[I]? =some l) (hK:l.nodes.length≤K):qw p N (I+1) 0 W:=by
 have key:∀i k x,Pr (I+1) 0 i k→At p i k x→Pr I K i k:=by
  intro i k x hP hA
  rcases hP with hP | ⟨_,hP⟩
  ·by_cases e:i=I
   ·subst e
    obtain⟨l',h1,h2⟩:=hA
    rw[hl]at h1
    cases h1
    have:=(List.getElem?_eq_some_iff.1 h2).1
    exact .inr ⟨rfl,by omega⟩
   ·exact .inl (by omega)
  ·omega
 refine⟨h.lw,fun i k x hP hA=>h.fwd i k x (key i k x hP hA) hA,fun x hx=> ?_⟩
 rcases h.bwd x hx with h1 | ⟨i,k,h1,h2⟩
 ·exact .inl h1
 ·refine .inr ⟨i,k, .inl ?_,h2⟩
  rcases h1 with h1 | ⟨h1,_⟩<;>omega
theorem qw.fresh {x:Int} (hR:gv n p) (h:qw p n.nodes.length I K W) (hA:At p I K x):(W.getD x.toNat (0,0)).1= -1:=by
 obtain⟨h0,h1⟩:=hR.Jz _ _ _ hA
 rcases h.bwd x.toNat (by omega)with h2 | ⟨i,k,h2,h3⟩
 ·exact h2
 ·rw[Int.toNat_of_nonneg h0]at h3
  obtain⟨e1,e2⟩:=hR.Us _ _ _ _ _ hA h3
  exfalso
  rcases h2 with h2 | ⟨_,h2⟩<;>omega
theorem qw.step {x:Int} (hR:gv n p) (h:qw p n.nodes.length I K W) (hA:At p I K x):qw p n.nodes.length I (K+1) (W.set x.toNat ((I:Int),(K:Int))):=by
 obtain⟨h0,h1⟩:=hR.Jz _ _ _ hA
 have Br:x.toNat<W.length:=by rw[h.lw];omega
 refine⟨by rw[List.length_set];exact h.lw,fun i k y hP hy=> ?_,fun y hy=> ?_⟩
 ·rw[gf]
  obtain⟨g0,g1⟩:=hR.Jz _ _ _ hy
  by_cases e:x.toNat=y.toNat
  ·have e:y=x:=by omega
   subst e
   obtain⟨e1,e2⟩:=hR.Us _ _ _ _ _ hA hy
   rw[if_pos ⟨rfl,Br⟩,e1,e2]
  ·rw[if_neg (fun hh=>e hh.1)]
   refine h.fwd i k y ?_ hy
   rcases hP with hP | ⟨e1,hP⟩
   ·exact .inl hP
   ·refine .inr ⟨e1, ?_⟩
    by_cases e2:k=K
    ·subst e1 e2
     obtain⟨l,a1,a2⟩:=hA
     obtain⟨l',b1,b2⟩:=hy
     rw[a1]at b1;cases b1
     rw[a2]at b2;cases b2
     exact absurd rfl e
    ·omega
 ·rw[gf]
  by_cases e:x.toNat=y
  ·refine .inr ⟨I,K, .inr ⟨rfl,by omega⟩, ?_⟩
   rw[show(y:Int)=x by omega];exact hA
  ·rw[if_neg (fun hh=>e hh.1)]
   rcases h.bwd y hy with h2 | ⟨i,k,h2,h3⟩
   ·exact .inl h2
   ·refine .inr ⟨i,k, ?_,h3⟩
    rcases h2 with h2 | ⟨h2,h4⟩
    ·exact .inl h2
    ·exact .inr ⟨h2,by omega⟩
end
theorem nw {l:List Wh} {i:Nat} (h:i<l.length):nth default (l.map pz) i=pz (l.getD i (0,0)):=by
 rw[aK _ _ _ _ h,List.getD_eq_getElem?_getD,List.getElem?_eq_getElem h];rfl
theorem Ha (l:List Wh) (i:Nat) (q:Wh):(l.map pz).set i (pz q)=(l.set i q).map pz:=(List.map_set (f:=pz)).symm
theorem Sh (q:Wh):(pz q).cell 0=iv q.1:=rfl
theorem X1 (q:Wh):(pz q).cell 1=iv q.2:=rfl
theorem OH (v:PV):fI Try.prog 3 v=[v]:=by kernel_rfl
theorem X2 (q:Wh) (a:Int):PV.agg (setCells (bB (pz q) 0 2) 0 (fI Try.prog 3 (iv a)))=pz (a,q.2):=by rw[OH];rfl
theorem pU {v:Int} {pw:Bool}:∀(l:List Node) (j:Nat),∀r∈bV v pw j l,(j:Int)≤r.node∧r.node<(j+l.length:Nat)
 | [],j,r,h=>by simp[bV]at h
 | x::l,j,r,h=>by
  rw[bV]at h
  have ih:=pU (v:=v) (pw:=pw) l (j+1)
  cases hc:Nat.beq (aF x.1.op) 27 with
  | true=>
   rw[hc,cond_true]at h
   rcases List.mem_cons.1 h with rfl | h
   ·simp;omega
   ·have:=ih r h;simp at this ⊢;omega
  | false=>
   rw[hc,cond_false]at h
   have:=ih r h;simp at this ⊢;omega
section
variable {call:aw} {n:Net} {p:eN} {k m1:Nat} {v0 v1 v2 v3 v5 v6 v7 v8 v9 v10 v11 v12 v13 v14:PV}
theorem MW (hN:n.nodes.length≤2000) {W:List Wh} (hl:W.length=n.nodes.length) (h0:∀x,x<n.nodes.length→0≤(W.getD x (0,0)).1):∀(f j:Nat),n.nodes.length-j<f→
  vM call k f (W.map pz) (.bool false) (iv n.nodes.length) (iv j)=some ([.pv (.sl 80) (.sl (W.map pz)),aI 0],[])
 | 0,j,h=>by omega
 | f+1,j,h=>by
  rw[Cd]
  by_cases hj:j<n.nodes.length
  ·have wK:j<W.length:=by omega
   have ih:=MW hN hl h0 f (j+1) (by omega)
   simp only[TT,ab,aa,Ty.eq,hj,wK,nw wK,Sh,IN,aq (show j<4611686018427387904 by omega)]
   rw[eg (h0 j hj)]
   exact ih
  ·simp only[TT,ab,aa,Ty.eq,hj]
theorem MX (hN:n.nodes.length≤2000) (hR:gv n p) {I:Nat} {l:Loop} (hI:p.loops[I]? =some l) (qd:l.nodes.length<bf) (Ut:I<1000000000000000):
  ∀(f K:Nat) (W:List Wh),l.nodes.length-K<f→qw p n.nodes.length I K W→
   ∃W',qw p n.nodes.length (I+1) 0 W'∧zP call k m1 f (.sl (p.loops.map Loop.pv)) (.sl (p.rings.map Ring.pv)) (iv p.ay) (.bool p.bG) (W.map pz) (.bool false) (iv I) v7 v8 v9 v10 (iv I) (bH l.nodes) (iv l.nodes.length) (iv K)=sA call k m1 (.sl (p.loops.map Loop.pv)) (.sl (p.rings.map Ring.pv)) (iv p.ay) (.bool p.bG) (W'.map pz) (.bool false) v9 v10 (iv ((I+1:Nat):Int))
 | 0,K,W,h,_=>by omega
 | f+1,K,W,h,fS=>by
  unfold bf at qd
  rw[Cc]
  by_cases hK:K<l.nodes.length
  ·have hn:nth default (l.nodes.map iv) K=iv l.nodes[K]:=aK _ _ _ _ hK
   have hA:At p I K l.nodes[K]:=⟨l,hI,List.getElem?_eq_getElem hK⟩
   obtain⟨h0,h1⟩:=hR.Jz _ _ _ hA
   have fT:=fS.fresh hR hA
   have jw:=fS.step hR hA
   simp only[TT,ab,aa,Ty.eq,hK,hn,aq (show K<4611686018427387904 by omega)]
   generalize l.nodes[K]=x at*
   obtain⟨a,rfl⟩:∃a:Nat,x=a:=⟨x.toNat,by omega⟩
   rw[Int.toNat_natCast]at fT jw
   have AD:a<W.length:=by rw[fS.lw];omega
   obtain⟨W',g1,g2⟩:=MX hN hR hI qd Ut f (K+1) _ (by omega) jw
   refine⟨W',g1, ?_⟩
   rw[eg (by omega),ml (show(a:Int)<(W.length:Int)by omega)]
   simp only[cond_false,TT,ab,aa,Ty.eq,AD,nw AD,Sh,fT,IM,E7,aq (show K<4611686018427387904 by omega)]
   rw[ml (show(-1:Int)<0 by decide)]
   rw[←Ha]at g2
   exact g2
  ·refine⟨W,fS.next hI (by omega), ?_⟩
   simp only[TT,ab,aa,Ty.eq,hK,aq (show I<4611686018427387904 by omega)]
theorem MY (hk:KK≤k) (hN:n.nodes.length≤2000) (hR:gv n p) (hp:dH p):
  ∀(f I:Nat) (W:List Wh),p.loops.length-I<f→I≤p.loops.length→qw p n.nodes.length I 0 W→
   ∃W',qw p n.nodes.length p.loops.length 0 W'∧sA call k f (.sl (p.loops.map Loop.pv)) (.sl (p.rings.map Ring.pv)) (iv p.ay) (.bool p.bG) (W.map pz) (.bool false) (.sl (p.loops.map Loop.pv)) (iv p.loops.length) (iv I)=vM call k k (W'.map pz) (.bool false) (iv W'.length) (iv (0:Nat))
 | 0,I,W,h,_,_=>by omega
 | f+1,I,W,h,hI0,fS=>by
  have KI:=hp.l1
  have kV:=bN
  unfold bf at KI
  rw[Ce]
  by_cases hI:I<p.loops.length
  ·have hn:nth default (p.loops.map Loop.pv) I=p.loops[I].pv:=aK _ _ _ _ hI
   have qd:=hp.l2 _ (bz hI)
   have RJ:=qd
   unfold bf at RJ
   obtain⟨W1,h1,h2⟩:=MX (call:=call) (k:=k) (m1:=f) (v7:=bH p.loops[I].nodes) (v8:= .bool p.loops[I].ni) (v9:= .sl (p.loops.map Loop.pv)) (v10:=iv p.loops.length) hN hR (List.getElem?_eq_getElem hI) qd (by omega) k 0 W (by omega) fS
   obtain⟨W',h3,h4⟩:=MY hk hN hR hp f (I+1) W1 (by omega) (by omega) h1
   refine⟨W',h3, ?_⟩
   simp only[TT,ab,aa,Ty.eq,hI,hn]
   exact h2.trans h4
  ·have:I=p.loops.length:=by omega
   subst this
   refine⟨W,fS, ?_⟩
   simp only[TT,ab,aa,Ty.eq,hI]
   rfl
theorem Qe (hk:KK≤k) (hN:n.nodes.length≤2000) (hR:gv n p) (hp:dH p) {W:List Wh} (hW:W.length=n.nodes.length):∀(f j:Nat),p.rings.length-j<f→
   GD call k f (.sl (p.loops.map Loop.pv)) (.sl (p.rings.map Ring.pv)) (iv p.ay) (.bool p.bG) (W.map pz) (.sl (p.rings.map Ring.pv)) (iv p.rings.length) (iv j)=sA call k k (.sl (p.loops.map Loop.pv)) (.sl (p.rings.map Ring.pv)) (iv p.ay) (.bool p.bG) (W.map pz) (.bool false) (.sl (p.loops.map Loop.pv)) (iv p.loops.length) (iv (0:Nat))
 | 0,j,h=>by omega
 | f+1,j,h=>by
  have KC:=hp.r1
  unfold bf at KC
  rw[EF]
  by_cases hj:j<p.rings.length
  ·have hn:nth default (p.rings.map Ring.pv) j=p.rings[j].pv:=aK _ _ _ _ hj
   have hm:p.rings[j]∈bV p.ay p.bG 0 n.nodes:=by rw[←hR.rings];exact bz hj
   obtain⟨h0,h1⟩:=pU _ _ _ hm
   have ih:=Qe hk hN hR hp hW f (j+1) (by omega)
   simp only[TT,ab,aa,Ty.eq,hj,hn,aq (show j<4611686018427387904 by omega)]
   rw[eg (by omega),ml (by omega)]
   exact ih
  ·simp only[TT,ab,aa,Ty.eq,hj]
   rfl
theorem Qf (hk:KK≤k) (hN:n.nodes.length≤2000) (hR:gv n p) (hp:dH p):∀(f j:Nat) (W:List Wh),n.nodes.length-j<f→W.length=n.nodes.length→(∀x,x<j→(W.getD x (0,0)).1= -1)→
  ∃W':List Wh,W'.length=n.nodes.length∧(∀i k x,At p i k x→W'.getD x.toNat (0,0)=((i:Int),(k:Int)))∧
   GF call k f (.sl (p.loops.map Loop.pv)) (.sl (p.rings.map Ring.pv)) (iv p.ay) (.bool p.bG) (W.map pz) (iv n.nodes.length) (iv j)=some ([.pv (.sl 80) (.sl (W'.map pz)),aI 0],[])
 | 0,j,W,h,_,_=>by omega
 | f+1,j,W,h,hW,hI=>by
  have kV:=bN
  have KI:=hp.l1
  have KC:=hp.r1
  unfold bf at KI KC
  rw[EG]
  by_cases hj:j<n.nodes.length
  ·have wK:j<W.length:=by omega
   obtain⟨W',h1,h2,h3⟩:=Qf hk hN hR hp f (j+1) (W.set j (-1,(W.getD j (0,0)).2)) (by omega) (by rw[List.length_set];exact hW) (fun x hx=>by
    rw[gf]
    by_cases e:j=x
    ·rw[if_pos ⟨e,by omega⟩]
    ·rw[if_neg (fun hh=>e hh.1)];exact hI x (by omega))
   refine⟨W',h1,h2, ?_⟩
   simp only[TT,ab,aa,Ty.eq,hj,wK,nw wK,X2,Ha,aq (show j<4611686018427387904 by omega)]
   exact h3
  ·obtain⟨W',h1,h2⟩:=MY (call:=call) hk hN hR hp k 0 W (by omega) (by omega) (qw.start hW (fun x hx=>hI x (by omega)))
   have cE:∀i k x,At p i k x→W'.getD x.toNat (0,0)=((i:Int),(k:Int)):=fun i k x hA=>h1.fwd i k x (by
    obtain⟨l,a1,_⟩:=hA
    exact .inl (List.getElem?_eq_some_iff.1 a1).1) hA
   refine⟨W',h1.lw,cE, ?_⟩
   simp only[TT,ab,aa,Ty.eq,hj]
   refine(Qe hk hN hR hp hW k 0 (by omega)).trans (h2.trans ?_)
   rw[h1.lw]
   refine MW hN h1.lw (fun x hx=> ?_) k 0 (by omega)
   obtain⟨i,k,hA⟩:=hR.all x hx
   have:=cE _ _ _ hA
   rw[Int.toNat_natCast]at this
   rw[this]
   show(0:Int)≤(i:Int)
   omega
end
section
variable {E:Nat→aw} {n:Net} {p:eN} {k:Nat}
theorem f34 (hE:mo E) (hk:KK+1≤k) (hN:n.nodes.length≤2000) (hR:gv n p) (hp:dH p):
  ∃W:List Wh,W.length=n.nodes.length∧(∀i k x,At p i k x→W.getD x.toNat (0,0)=((i:Int),(k:Int)))∧
   E k 34 [cn n,kT p]=some ([.pv (.sl 80) (.sl (W.map pz)),aI 0],[]):=by
 obtain⟨j,hj,e⟩:=hE.at hk 34 [cn n,kT p] rfl rfl
 have kV:=bN
 obtain⟨W,h1,h2,h3⟩:=Qf (call:=E j) (k:=j) (by omega) hN hR hp j 0 (List.replicate n.nodes.length (0,0)) (by omega) (by simp) (fun x hx=>by omega)
 refine⟨W,h1,h2, ?_⟩
 rw[e,R34]
 simp only[TT,ab,aa,Ty.eq,List.length_replicate]
 rw[b7 (show(n.nodes.length:Int)≤140737488355328 by omega),b7 (show(n.nodes.length:Int)≤(n.nodes.length:Int)by omega),b7 (show((16:Nat):Int)* (n.nodes.length:Int)≤140737488355328 by omega)]
 rw[List.map_replicate]at h3
 exact h3
end
end Go.V
namespace Go.V
open Go.Proofs
theorem Hb {ns:List Node} (f:Node→List Int) {i:Nat} (h:i<ns.length):nth default ((ns.map f).map bH) i=bH (f ns[i]):=by
 rw[aK _ _ _ _ (by rw[List.length_map];exact h),List.getElem_map]
theorem Qg (l:PV) (e:Int):cc (List.map (ai Try.prog) #[75,29].toList) (some ([.pv (.sl 80) l,aI e],[]))=true:=by kernel_rfl
theorem CS {x:Nf} {v:Int} {y:Int} (h:y∈fe x v):0≤y∧y∈x.args:=by
 unfold fe at h
 cases hl:jV x v with
 | true=>rw[hl]at h;cases h
 | false=>rw[hl,cond_false]at h;exact⟨cN h,gg h⟩
theorem wE (x:Nf) (v:Int):(fe x v).length≤x.args.length:=by
 have:∀(p:Nat→Bool) (i:Nat) (l:List Int),(pick p i l).length≤l.length:=by
  intro p i l
  induction l generalizing i with
  | nil=>simp[pick]
  | cons b l ih=>
   rw[pick]
   have:=ih (i+1)
   cases (p i&&aj 0 b)<;>simp<;>omega
 unfold fe
 cases jV x v
 ·exact this _ _ _
 ·simp
theorem wF (x:Nf):(fM x).length≤x.args.length:=by
 have:∀(p:Nat→Bool) (i:Nat) (l:List Int),(pick p i l).length≤l.length:=by
  intro p i l
  induction l generalizing i with
  | nil=>simp[pick]
  | cons b l ih=>
   rw[pick]
   have:=ih (i+1)
   cases (p i&&aj 0 b)<;>simp<;>omega
 exact this _ _ _
section
variable {call:aw} {n:Net} {p:eN} {W:List Wh} {k m1:Nat} {v7 v8 v9 v10 v11 v12 v13 v14 v15 v16 v17:PV}
theorem rL (hR:gv n p) (hW:∀i k x,At p i k x→W.getD x.toNat (0,0)=((i:Int),(k:Int))) {y:Int} (h0:0≤y) (h1:y<n.nodes.length):∃i k:Nat,At p i k y∧W.getD y.toNat (0,0)=((i:Int),(k:Int)):=by
 obtain⟨i,k,hA⟩:=hR.all y.toNat (by omega)
 rw[Int.toNat_of_nonneg h0]at hA
 exact⟨i,k,hA,hW _ _ _ hA⟩
theorem MZ (hg:Gd n) (hR:gv n p) (hp:dH p) (As:W.length=n.nodes.length) (hW:∀i k x,At p i k x→W.getD x.toNat (0,0)=((i:Int),(k:Int))) {x:Nat} (hx:x<n.nodes.length) {i kk:Nat} (hA:At p i kk (x:Int)):
  ∀(f j:Nat),(fe n.nodes[x].1 p.ay).length-j<f→
   zz call k m1 f (.sl (p.loops.map Loop.pv)) (.sl (p.rings.map Ring.pv)) (iv p.ay) (.bool p.bG) (.sl (W.map pz)) (.sl ((n.nodes.map (fun(x:Node)=>fM x.1)).map bH)) (.sl ((n.nodes.map (fun(x:Node)=>fe x.1 p.ay)).map bH)) (iv i) (iv kk) v9 v10 (iv x) v12 v13 (bH (fe n.nodes[x].1 p.ay)) (iv (fe n.nodes[x].1 p.ay).length) (iv j)=so call k m1 (.sl (p.loops.map Loop.pv)) (.sl (p.rings.map Ring.pv)) (iv p.ay) (.bool p.bG) (.sl (W.map pz)) (.sl ((n.nodes.map (fun(x:Node)=>fM x.1)).map bH)) (.sl ((n.nodes.map (fun(x:Node)=>fe x.1 p.ay)).map bH)) v9 v10 (iv ((x+1:Nat):Int))
 | 0,j,h=>by omega
 | f+1,j,h=>by
  have hN:=hg.l
  have AD:=hg.args _ (bz hx)
  have Dz:=hg.linked _ (bz hx)
  have Nh:=wE n.nodes[x].1 p.ay
  rw[BS]
  by_cases hj:j<(fe n.nodes[x].1 p.ay).length
  ·have hn:nth default ((fe n.nodes[x].1 p.ay).map iv) j=iv (fe n.nodes[x].1 p.ay)[j]:=aK _ _ _ _ hj
   have hm:(fe n.nodes[x].1 p.ay)[j]∈fe n.nodes[x].1 p.ay:=bz hj
   have ih:=MZ hg hR hp As hW hx hA f (j+1) (by omega)
   simp only[TT,ab,aa,Ty.eq,hj,hn,Io,Ip,aq (show j<4611686018427387904 by omega)]
   generalize (fe n.nodes[x].1 p.ay)[j]=y at*
   obtain⟨h0,RL⟩:=CS hm
   have h1:=(jJ Dz y RL).2
   obtain⟨i',k',qc,Qh⟩:=rL hR hW h0 h1
   have vc:=hR.fG x hx y i kk i' k' hm hA qc
   obtain⟨a,rfl⟩:∃a:Nat,y=a:=⟨y.toNat,by omega⟩
   rw[Int.toNat_natCast]at Qh
   have Qi:a<W.length:=by omega
   have FB:i<p.loops.length:=by
    obtain⟨l,a1,_⟩:=hA
    exact(List.getElem?_eq_some_iff.1 a1).1
   have Dv:nth default (p.loops.map Loop.pv) i=p.loops[i].pv:=aK _ _ _ _ FB
   simp only[TT,ab,aa,Ty.eq,Qi,nw Qi,Qh,Sh,X1,FB,Dv]
   rw[decide_eq_false (show¬i<i' by rcases vc with h | ⟨h,_⟩<;>omega)]
   cases he:ak (i':Int) (i:Int)
   ·exact ih
   ·have he:=dW he
    cases hle:aj (kk:Int) (k':Int)
    ·exact ih
    ·have hle:=gT hle
     have hs:p.loops[i].ni=true:=by
      rcases vc with h | ⟨_,h | h⟩
      ·omega
      ·omega
      ·unfold o3 at h
       rw[List.getElem?_eq_getElem FB]at h
       exact h
     rw[hs]
     exact ih
  ·simp only[TT,ab,aa,Ty.eq,hj,aq (show x<4611686018427387904 by omega)]
theorem M0 (hk:KK≤k) (hg:Gd n) (hR:gv n p) (hp:dH p) (As:W.length=n.nodes.length) (hW:∀i k x,At p i k x→W.getD x.toNat (0,0)=((i:Int),(k:Int))) {x:Nat} (hx:x<n.nodes.length) {i kk:Nat} (hA:At p i kk (x:Int)):
  ∀(f j:Nat),(fM n.nodes[x].1).length-j<f→
   zA call k m1 f (.sl (p.loops.map Loop.pv)) (.sl (p.rings.map Ring.pv)) (iv p.ay) (.bool p.bG) (.sl (W.map pz)) (.sl ((n.nodes.map (fun(x:Node)=>fM x.1)).map bH)) (.sl ((n.nodes.map (fun(x:Node)=>fe x.1 p.ay)).map bH)) (iv x) (iv i) (iv kk) v10 v11 (iv x) v13 v14 (bH (fM n.nodes[x].1)) (iv (fM n.nodes[x].1).length) (iv j)=so call k m1 (.sl (p.loops.map Loop.pv)) (.sl (p.rings.map Ring.pv)) (iv p.ay) (.bool p.bG) (.sl (W.map pz)) (.sl ((n.nodes.map (fun(x:Node)=>fM x.1)).map bH)) (.sl ((n.nodes.map (fun(x:Node)=>fe x.1 p.ay)).map bH)) v10 v11 (iv ((x+1:Nat):Int))
 | 0,j,h=>by omega
 | f+1,j,h=>by
  have kV:=bN
  have hN:=hg.l
  have AD:=hg.args _ (bz hx)
  have Dz:=hg.linked _ (bz hx)
  have Dv:=wF n.nodes[x].1
  have Nh:=wE n.nodes[x].1 p.ay
  rw[BT]
  by_cases hj:j<(fM n.nodes[x].1).length
  ·have hn:nth default ((fM n.nodes[x].1).map iv) j=iv (fM n.nodes[x].1)[j]:=aK _ _ _ _ hj
   have hm:(fM n.nodes[x].1)[j]∈fM n.nodes[x].1:=bz hj
   have ih:=M0 hk hg hR hp As hW hx hA f (j+1) (by omega)
   simp only[TT,ab,aa,Ty.eq,hj,hn,Il,Im,aq (show j<4611686018427387904 by omega)]
   generalize (fM n.nodes[x].1)[j]=y at*
   have h0:=cN hm
   have RL:=gg hm
   have h1:=(jJ Dz y RL).2
   obtain⟨i',k',qc,Qh⟩:=rL hR hW h0 h1
   have vc:=hR.now x hx y i kk i' k' hm hA qc
   obtain⟨a,rfl⟩:∃a:Nat,y=a:=⟨y.toNat,by omega⟩
   rw[Int.toNat_natCast]at Qh
   have Qi:a<W.length:=by omega
   simp only[TT,ab,aa,Ty.eq,Qi,nw Qi,Qh,Sh,X1]
   rw[decide_eq_false (show¬i<i' by rcases vc with h | ⟨h,_⟩<;>omega)]
   cases he:ak (i':Int) (i:Int)
   ·exact ih
   ·have he:=dW he
    rw[ml (show(k':Int)<(kk:Int)by rcases vc with h | ⟨_,h⟩<;>omega)]
    exact ih
  ·have XZ:x<(n.nodes.map (fun(x:Node)=>fe x.1 p.ay)).length:=by rw[List.length_map];exact hx
   simp only[TT,ab,aa,Ty.eq,hj,hx,Hb _ hx]
   exact MZ hg hR hp As hW hx hA k 0 (by omega)
theorem M1 (hk:KK≤k) (hg:Gd n) (hR:gv n p) (hp:dH p) (As:W.length=n.nodes.length) (hW:∀i k x,At p i k x→W.getD x.toNat (0,0)=((i:Int),(k:Int))):∀(f x:Nat),n.nodes.length-x<f→
   so call k f (.sl (p.loops.map Loop.pv)) (.sl (p.rings.map Ring.pv)) (iv p.ay) (.bool p.bG) (.sl (W.map pz)) (.sl ((n.nodes.map (fun(x:Node)=>fM x.1)).map bH)) (.sl ((n.nodes.map (fun(x:Node)=>fe x.1 p.ay)).map bH)) v7 (iv n.nodes.length) (iv x)=rI 0
 | 0,x,h=>by omega
 | f+1,x,h=>by
  have kV:=bN
  have hN:=hg.l
  rw[BU]
  by_cases hx:x<n.nodes.length
  ·have Zy:x<W.length:=by omega
   have AD:=hg.args _ (bz hx)
   have Dv:=wF n.nodes[x].1
   obtain⟨i,kk,hA,Zz⟩:=rL hR hW (y:=(x:Int)) (by omega) (by omega)
   rw[Int.toNat_natCast]at Zz
   have ih:=M1 hk hg hR hp As hW f (x+1) (by omega)
   simp only[TT,ab,aa,Ty.eq,hx,Zy,nw Zy,Zz,Sh,X1,Hb _ hx]
   exact(M0 hk hg hR hp As hW hx hA k 0 (by omega)).trans ih
  ·simp only[TT,ab,aa,Ty.eq,hx]
end
section
variable {E:Nat→aw} {n:Net} {p:eN} {k:Nat}
theorem f13 (hE:Fb E) (hk:KK+4≤k) (ho:cu n) (hs:jU n) (hz:n.size≤1000000) (hp:dH p) (hR:gv n p) (hv:fL n=true) (CT:1≤p.ay∧p.ay≤64):E k 13 [cn n,kT p]=rI 0:=by
 obtain⟨j,hj,e⟩:=hE.Ff.at (show KK+(3+1)≤k by omega) 13 [cn n,kT p] rfl rfl
 have kV:=bN
 have hg:=MP ho hs hz hv
 have hl:=hg.l
 obtain⟨W,As,hW,X3⟩:=f34 hE.Ff (show KK+1≤j by omega) hl hR hp
 have Ui:=f28 hE.Ff (show KK+1≤j by omega) (n:=n) (vec:=p.ay) (pw:=p.bG) CT hl hg.dl
 have ZA:=f21 hE.Ff (show KK+1≤j by omega) (n:=n) (v:=p.ay) (fun k=>hE.c40 k n ho hs hz)
 have X4:=f22 hE.Ff (show KK+2≤j by omega) (n:=n) (vec:=p.ay) hl hg.args hg.ye
 have ZB:=f35 hE.Ff (show KK+1≤j by omega) (l:=p.rings) (m:=bV p.ay p.bG 0 n.nodes) hp.r1
 have hb:(aj 1 p.ay&&(aj p.ay 64&&fL n))=true:=by rw[b7 CT.1,b7 CT.2,hv];rfl
 rw[hb]at ZA
 rw[decide_eq_true hR.rings]at ZB
 rw[e,R13]
 have Sa:∀(a:PV) (b:AO),bk 0 (some ([AO.pv (.sl 80) a,b],([]:List AO)))=a:=fun _ _=>rfl
 have X5:∀(a:AO) (z:Int),bk 1 (some ([a,aI z],([]:List AO)))=iv z:=fun _ _=>rfl
 have c0:∀a b:PV,(PV.agg [a,b]).cell 0=a:=fun _ _=>rfl
 have c1:∀a b:PV,(PV.agg [a,b]).cell 1=b:=fun _ _=>rfl
 simp only[TT,ab,aa,Ty.eq,eA,Ad,ZA,X3,Qg,Sa,X5,Ui,fU,cB,ZB,Lp,X4,c0,c1]
 have:=M1 (call:=E j) (k:=j) (v7:= .sl (W.map pz)) (by omega) hg hR hp As hW j 0 (by omega)
 exact this
end
end Go.V
namespace Go.V
open Go.Proofs
def Fh (n:Net) (v:Int) (x:Int):List Int:=match n.nodes[x.toNat]? with | some z=>fM z.1++fe z.1 v | none=>[]
structure Jk (p:eN) (I:Nat) (D r:List Int):Prop where
 lt:∀b∈r,0≤b∧b<(I:Int)
 mem:∀y∈D,∀b k,At p b k y→b≠I→(b:Int)∈r
 len:r.length≤D.length
structure Fi (n:Net) (p:eN) (I:Nat) (s:List Int):Prop where
 len:s.length≤9000000
 lt:∀b∈s,0≤b∧b<(I:Int)
 mem:∀k x y b k',At p I k x→y∈Fh n p.ay x→At p b k' y→b≠I→(b:Int)∈s
def RM (r:List Int) (b I:Int):List Int:=bif ak b I then r else bif decide (b∈r)then r else r++[b]
theorem Jk.step {p:eN} {I:Nat} {D r:List Int} (h:Jk p I D r) {y:Int} {b k:Nat} (hA:At p b k y) (hu:∀b' k',At p b' k' y→b'=b) (hb:b≤I):Jk p I (D++[y]) (RM r b I):=by
 unfold RM
 cases he:ak (b:Int) (I:Int)with
 | true=>
  have he:=dW he
  refine⟨h.lt,fun y' hy b' k' qc dc=> ?_,by have:=h.len;simp;omega⟩
  rcases List.mem_append.1 hy with hy | hy
  ·exact h.mem y' hy b' k' qc dc
  ·rw[List.mem_singleton]at hy
   subst hy
   have:=hu b' k' qc
   omega
 | false=>
  have he:=Ai he
  rw[cond_false]
  by_cases hm:(b:Int)∈r
  ·rw[decide_eq_true hm,cond_true]
   refine⟨h.lt,fun y' hy b' k' qc dc=> ?_,by have:=h.len;simp;omega⟩
   rcases List.mem_append.1 hy with hy | hy
   ·exact h.mem y' hy b' k' qc dc
   ·rw[List.mem_singleton]at hy
    subst hy
    rw[hu b' k' qc];exact hm
  ·rw[decide_eq_false hm,cond_false]
   refine⟨fun b' rN=> ?_,fun y' hy b' k' qc dc=> ?_,by have:=h.len;simp;omega⟩
   ·rcases List.mem_append.1 rN with rN | rN
    ·exact h.lt b' rN
    ·rw[List.mem_singleton]at rN
     subst rN
     omega
   ·rcases List.mem_append.1 hy with hy | hy
    ·exact List.mem_append_left _ (h.mem y' hy b' k' qc dc)
    ·rw[List.mem_singleton]at hy
     subst hy
     rw[hu b' k' qc];simp
theorem uu {O:List (List Int)} {i:Nat} (h:i<O.length):nth default (O.map bH) i=bH (O.getD i []):=by
 rw[aK _ _ _ _ h,List.getD_eq_getElem?_getD,List.getElem?_eq_getElem h];rfl
theorem Au (O:List (List Int)) (i:Nat) (r:List Int):(O.map bH).set i (.sl (r.map iv))=(O.set i r).map bH:=(List.map_set (f:=bH)).symm
theorem Jl {n:Net} {p:eN} (hR:gv n p) {I:Nat} {l:Loop} (hI:p.loops[I]? =some l):l.nodes.length≤n.nodes.length:=by
 have key:∀j,j≤l.nodes.length→nP ((l.nodes.take j).map Int.toNat) (List.range n.nodes.length)+j=n.nodes.length:=by
  intro j
  induction j with
  | zero=>intro _;rw[List.take_zero,List.map_nil,rK];simp
  | succ j ih=>
   intro hj
   have ih:=ih (by omega)
   have wK:j<l.nodes.length:=by omega
   have hA:At p I j l.nodes[j]:=⟨l,hI,List.getElem?_eq_getElem wK⟩
   obtain⟨h0,h1⟩:=hR.Jz _ _ _ hA
   have Dj:(l.nodes[j]).toNat∉ (l.nodes.take j).map Int.toNat:=by
    intro hm
    rw[List.mem_map]at hm
    obtain⟨z,hz,hzt⟩:=hm
    obtain⟨i,hi,e⟩:=List.mem_iff_getElem.1 hz
    rw[List.length_take]at hi
    rw[List.getElem_take]at e
    have ZC:At p I i z:=⟨l,hI,by rw[List.getElem?_eq_getElem (by omega),e]⟩
    obtain⟨g0,_⟩:=hR.Jz _ _ _ ZC
    have:z=l.nodes[j]:=by omega
    subst this
    have:=(hR.Us _ _ _ _ _ hA ZC).2
    omega
   rw[List.take_add_one,List.getElem?_eq_getElem wK,List.map_append]
   show nP (_++[(l.nodes[j]).toNat]) _+_=_
   rw[oZ Dj,count_range _ _ (by omega)]at ih
   omega
 have:=key l.nodes.length (Nat.le_refl _)
 omega
section
variable {E:Nat→aw} {n:Net} {p:eN} {W:List Wh} {k m1 m2:Nat} {v8 v9 v10 v11 v12 v13 v14 v15 v16 v17:PV}
theorem M3 (hE:mo E) (hk:KK+2≤k) (As:W.length=n.nodes.length) (hN:n.nodes.length≤2000) {O:List (List Int)} {I:Nat} (hI:I<O.length) {L:List Int} (hL:∀y∈L,0≤y∧y<n.nodes.length∧∃b k,At p b k y∧W.getD y.toNat (0,0)=((b:Int),(k:Int))∧b≤I∧∀b' k',At p b' k' y→b'=b) (hl:L.length≤2000):
  ∀(f j:Nat) (D r:List Int),L.length-j<f→Jk p I D r→D.length+(L.length-j)≤5000000→
   ∃r',Jk p I (D++L.drop j) r'∧ru (E k) k m1 m2 f (.sl (p.loops.map Loop.pv)) (.sl (p.rings.map Ring.pv)) (iv p.ay) (.bool p.bG) (.sl (W.map pz)) (.sl ((n.nodes.map (fun(x:Node)=>fM x.1)).map bH)) (.sl ((n.nodes.map (fun(x:Node)=>fe x.1 p.ay)).map bH)) ((O.set I r).map bH) (iv I) v9 v10 v11 v12 v13 v14 v15 v16 v17 (L.map iv) (iv L.length) (iv j)=Aa (E k) k m1 m2 (.sl (p.loops.map Loop.pv)) (.sl (p.rings.map Ring.pv)) (iv p.ay) (.bool p.bG) (.sl (W.map pz)) (.sl ((n.nodes.map (fun(x:Node)=>fM x.1)).map bH)) (.sl ((n.nodes.map (fun(x:Node)=>fe x.1 p.ay)).map bH)) ((O.set I r').map bH) (iv I) v9 v10 v11 v12 v13 v14 v15 v16 v17
 | 0,j,D,r,h,_,_=>by omega
 | f+1,j,D,r,h,fS,hB=>by
  rw[xm]
  by_cases hj:j<L.length
  ·have hn:nth default (L.map iv) j=iv L[j]:=aK _ _ _ _ hj
   obtain⟨h0,h1,b,kb,hA,Qh,hb,hu⟩:=hL _ (bz hj)
   have jw:=fS.step hA hu hb
   obtain⟨r',g1,g2⟩:=M3 hE hk As hN hI hL hl f (j+1) _ _ (by omega) jw (by simp;omega)
   refine⟨r', ?_, ?_⟩
   ·rw[bb hj]
    rw[List.append_assoc]at g1
    exact g1
   have hlen:=fS.len
   simp only[TT,ab,aa,Ty.eq,hj,hn,Cn,aq (show j<4611686018427387904 by omega)]
   generalize L[j]=y at*
   obtain⟨a,rfl⟩:∃a:Nat,y=a:=⟨y.toNat,by omega⟩
   rw[Int.toNat_natCast]at Qh
   have Qi:a<W.length:=by omega
   have Uw:I<(O.set I r).length:=by rw[List.length_set];exact hI
   have I9:Jv I O.length=true:=decide_eq_true hI
   simp only[TT,ab,aa,Ty.eq,Qi,nw Qi,Qh,Sh,hI,Uw,I9,List.length_set,uu Uw,cR hI]
   unfold RM at g2
   cases he:ak (b:Int) (I:Int)
   ·rw[he]at g2
    simp only[Bool.not_false,cond_true]
    rw[f32 hE hk (a:=(b:Int)) (l:=r) (by omega)]
    simp only[di,eG,gU,kI,bD,nth,cZ,ab,aa,Ty.eq,tB,Nat.beq_refl,decide_true,Bool.and_self,cond_true]
    rw[Au,List.set_set]
    have hI3:I<(O.set I r).length:=Uw
    cases hd:decide ((b:Int)∈r)
    ·rw[hd]at g2
     simp only[TT,ab,aa,Ty.eq,List.length_set,hI,uu hI3,cR hI,jo,List.reverse_singleton,List.length_singleton]
     rw[kQ (show(r.length+1)*8≤room by show _≤140737488355328;omega)]
     rw[show r.map iv++[PV.int .i64 (b:Int)]=(r++[(b:Int)]).map iv by simp,Au,List.set_set]
     exact g2
    ·rw[hd]at g2
     exact g2
   ·rw[he]at g2
    exact g2
  ·refine⟨r,by rw[aT (by omega),List.append_nil];exact fS, ?_⟩
   simp only[TT,ab,aa,Ty.eq,hj]
end
section
variable {E:Nat→aw} {n:Net} {p:eN} {W:List Wh} {k m1 m2:Nat} {v8 v9 v10 v11 v12 v13 v14 v15 v16 v17:PV}
theorem RN (r:List Int):q8 (r.map iv)=(r.mergeSort fun x y=>decide (x≤y)).map iv:=by
 unfold q8
 rw[List.map_map,show(PV.toInt ∘ iv)=id from rfl,List.map_id]
theorem M4 (hE:Fb E) (hk:KK+2≤k) (hg:Gd n) (hR:gv n p) (As:W.length=n.nodes.length) (hW:∀i k x,At p i k x→W.getD x.toNat (0,0)=((i:Int),(k:Int))) {O:List (List Int)} {I:Nat} (hI:I<O.length) {l:Loop} (Si:p.loops[I]? =some l) (Ut:I<1000000000000000) (qd:l.nodes.length≤2000):
  ∀(f K:Nat) (D r:List Int),l.nodes.length-K<f→Jk p I D r→D.length+(l.nodes.length-K)*2000≤5000000→(∀k' x,k'<K→l.nodes[k']? =some x→∀y∈Fh n p.ay x,y∈D)→
   ∃s,Fi n p I s∧Ab (E k) k m1 f (.sl (p.loops.map Loop.pv)) (.sl (p.rings.map Ring.pv)) (iv p.ay) (.bool p.bG) (.sl (W.map pz)) (.sl ((n.nodes.map (fun(x:Node)=>fM x.1)).map bH)) (.sl ((n.nodes.map (fun(x:Node)=>fe x.1 p.ay)).map bH)) ((O.set I r).map bH) (iv I) v9 v10 v11 v12 v13 (iv I) (bH l.nodes) (iv l.nodes.length) (iv K)=Cm (E k) k m1 (.sl (p.loops.map Loop.pv)) (.sl (p.rings.map Ring.pv)) (iv p.ay) (.bool p.bG) (.sl (W.map pz)) (.sl ((n.nodes.map (fun(x:Node)=>fM x.1)).map bH)) (.sl ((n.nodes.map (fun(x:Node)=>fe x.1 p.ay)).map bH)) ((O.set I s).map bH) v11 v12 v13 (iv ((I+1:Nat):Int))
 | 0,K,D,r,h,_,_,_=>by omega
 | f+1,K,D,r,h,fS,hB,hD=>by
  have kV:=bN
  have hN:=hg.l
  rw[Co]
  by_cases hK:K<l.nodes.length
  ·have hn:nth default (l.nodes.map iv) K=iv l.nodes[K]:=aK _ _ _ _ hK
   have ZD:l.nodes[K]? =some l.nodes[K]:=List.getElem?_eq_getElem hK
   have hA:At p I K l.nodes[K]:=⟨l,Si,ZD⟩
   obtain⟨h0,h1⟩:=hR.Jz _ _ _ hA
   simp only[TT,ab,aa,Ty.eq,hK,hn]
   generalize l.nodes[K]=x at*
   obtain⟨a,rfl⟩:∃a:Nat,x=a:=⟨x.toNat,by omega⟩
   have ha:a<n.nodes.length:=by omega
   have haa:=hg.args _ (bz ha)
   have Dz:=hg.linked _ (bz ha)
   have ln:=wF n.nodes[a].1
   have lb:=wE n.nodes[a].1 p.ay
   have gd:∀(g:Node→List Int),(n.nodes.map g).getD a []=g n.nodes[a]:=fun g=>by
    rw[List.getD_eq_getElem?_getD,List.getElem?_map,List.getElem?_eq_getElem ha];rfl
   have Se:=f31 hE (k:=k) (show KK+1≤k by omega) (ws:=n.nodes.map (fun(x:Node)=>fM x.1)) (bs:=n.nodes.map (fun(x:Node)=>fe x.1 p.ay)) (i:=a) (by rw[List.length_map];exact ha) (by rw[List.length_map];exact ha) (by rw[gd];omega) (by rw[gd];omega)
   rw[gd,gd]at Se
   have cE:Fh n p.ay (a:Int)=fM n.nodes[a].1++fe n.nodes[a].1 p.ay:=by
    unfold Fh
    rw[Int.toNat_natCast,List.getElem?_eq_getElem ha]
   generalize ZE:fM n.nodes[a].1++fe n.nodes[a].1 p.ay=L at*
   have hLl:L.length≤2000:=by rw[←ZE,List.length_append];omega
   have hL:∀y∈L,0≤y∧y<n.nodes.length∧∃b k,At p b k y∧W.getD y.toNat (0,0)=((b:Int),(k:Int))∧b≤I∧∀b' k',At p b' k' y→b'=b:=by
    intro y hy
    rw[←ZE]at hy
    have RL:0≤y∧y∈n.nodes[a].1.args:=by
     rcases List.mem_append.1 hy with hy | hy
     ·exact⟨cN hy,gg hy⟩
     ·exact CS hy
    have RS:=(jJ Dz y RL.2).2
    obtain⟨b,kb,Sj,hWb⟩:=rL hR hW RL.1 RS
    refine⟨RL.1,RS,b,kb,Sj,hWb, ?_,fun b' k' h'=>(hR.Us _ _ _ _ _ h' Sj).1⟩
    rcases List.mem_append.1 hy with hy | hy
    ·rcases hR.now a ha y I K b kb hy hA Sj with h | ⟨h,_⟩<;>omega
    ·rcases hR.fG a ha y I K b kb hy hA Sj with h | ⟨h,_⟩<;>omega
   obtain⟨r',g1,g2⟩:=M3 hE.Ff (m1:=m1) (m2:=f) (v9:=v9) (v10:=v10) (v11:=v11) (v12:=v12) (v13:=v13) (v14:=iv I) (v15:=bH l.nodes) (v16:=iv l.nodes.length) (v17:=iv K) hk As hN hI hL hLl k 0 D r (by omega) fS (by omega)
   rw[List.drop_zero]at g1
   obtain⟨s,g3,g4⟩:=M4 hE hk hg hR As hW hI Si Ut qd f (K+1) (D++L) r' (by omega) g1 (by rw[List.length_append];omega) (fun k' x jz hx y hy=>by
    by_cases e:k'=K
    ·subst e
     rw[ZD]at hx
     cases hx
     rw[cE]at hy
     exact List.mem_append_right _ hy
    ·exact List.mem_append_left _ (hD k' x (by omega) hx y hy))
   refine⟨s,g3, ?_⟩
   simp only[Se,ab,fU,cB,Nat.beq_refl,cond_true,cond_false,List.length_map]
   refine g2.trans ?_
   rw[I3,tI,aq (show K<4611686018427387904 by omega)]
   exact g4
  ·have hlen:=fS.len
   refine⟨r.mergeSort fun x y=>decide (x≤y),⟨by rw[List.length_mergeSort];omega,fun b hb=>fS.lt b (List.mem_mergeSort.1 hb),fun k' x y b kb hA hy Sj dc=> ?_⟩, ?_⟩
   ·obtain⟨l',a1,a2⟩:=hA
    rw[Si]at a1
    cases a1
    have:=(List.getElem?_eq_some_iff.1 a2).1
    exact List.mem_mergeSort.2 (fS.mem y (hD k' x (by omega) a2 y hy) b kb Sj dc)
   ·have Uw:I<(O.set I r).length:=by rw[List.length_set];exact hI
    have I9:Jv I O.length=true:=decide_eq_true hI
    simp only[TT,ab,aa,Ty.eq,hK,List.length_set,hI,I9,uu Uw,cR hI,aq (show I<4611686018427387904 by omega)]
    rw[hE.c36 k _ (by rw[List.length_map];show _≤140737488355328;omega),RN]
    simp only[di,eG,gU,kI,bD,nth,cZ,cc,Nat.beq_refl,List.length_map,List.length_mergeSort,decide_true,Bool.and_self,cond_true]
    rw[Au,List.set_set]
    rfl
theorem Qj (hE:Fb E) (hk:KK+2≤k) (hg:Gd n) (hR:gv n p) (hp:dH p) (As:W.length=n.nodes.length) (hW:∀i k x,At p i k x→W.getD x.toNat (0,0)=((i:Int),(k:Int))):
  ∀(f I:Nat) (O:List (List Int)),p.loops.length-I<f→O.length=p.loops.length→(∀i,i<I→Fi n p i (O.getD i []))→(∀i,I≤i→O.getD i []=[])→
   ∃O':List (List Int),O'.length=p.loops.length∧(∀i,i<p.loops.length→Fi n p i (O'.getD i []))∧Cm (E k) k f (.sl (p.loops.map Loop.pv)) (.sl (p.rings.map Ring.pv)) (iv p.ay) (.bool p.bG) (.sl (W.map pz)) (.sl ((n.nodes.map (fun(x:Node)=>fM x.1)).map bH)) (.sl ((n.nodes.map (fun(x:Node)=>fe x.1 p.ay)).map bH)) (O.map bH) v8 (.sl (p.loops.map Loop.pv)) (iv p.loops.length) (iv I)=some ([.pv (.sl 23) (.sl (O'.map bH)),aI 0],[])
 | 0,I,O,h,_,_,_=>by omega
 | f+1,I,O,h,hO,hF,ZF=>by
  have kV:=bN
  have hN:=hg.l
  have KI:=hp.l1
  unfold bf at KI
  rw[EL]
  by_cases hI:I<p.loops.length
  ·have hn:nth default (p.loops.map Loop.pv) I=p.loops[I].pv:=aK _ _ _ _ hI
   have Si:p.loops[I]? =some p.loops[I]:=List.getElem?_eq_getElem hI
   have qd:=Jl hR Si
   have Ux:I<O.length:=by omega
   have hO0:O=O.set I []:=by
    refine List.ext_getElem? (fun i=> ?_)
    rw[List.getElem?_set]
    by_cases e:I=i
    ·subst e
     rw[if_pos rfl,if_pos Ux]
     have:=ZF I (Nat.le_refl _)
     rw[List.getD_eq_getElem?_getD,List.getElem?_eq_getElem Ux]at this
     rw[List.getElem?_eq_getElem Ux]
     exact congrArg some this
    ·rw[if_neg e]
   obtain⟨s,g1,g2⟩:=M4 hE (m1:=f) (v9:=bH p.loops[I].nodes) (v10:= .bool p.loops[I].ni) (v11:=v8) (v12:= .sl (p.loops.map Loop.pv)) (v13:=iv p.loops.length) hk hg hR As hW Ux Si (by omega) (by omega) k 0 [] [] (by omega) ⟨fun b hb=>(by cases hb),fun y hy=>(by cases hy),Nat.le_refl _⟩ (by rw[List.length_nil];omega) (fun k' x jz=>by omega)
   obtain⟨O',g3,g4,g5⟩:=Qj hE hk hg hR hp As hW f (I+1) (O.set I s) (by omega) (by rw[List.length_set];exact hO) (fun i hi=>by
    rw[gf]
    by_cases e:I=i
    ·subst e;rw[if_pos ⟨rfl,Ux⟩];exact g1
    ·rw[if_neg (fun hh=>e hh.1)];exact hF i (by omega)) (fun i hi=>by
    rw[gf,if_neg (fun hh=>by have:=hh.1;omega)];exact ZF i (by omega))
   refine⟨O',g3,g4, ?_⟩
   simp only[TT,ab,aa,Ty.eq,hI,hn]
   rw[←hO0]at g2
   exact g2.trans g5
  ·refine⟨O,hO,fun i hi=>hF i (by omega), ?_⟩
   simp only[TT,ab,aa,Ty.eq,hI]
theorem f16 (hE:Fb E) (hk:KK+5≤k) (ho:cu n) (hs:jU n) (hz:n.size≤1000000) (hp:dH p) (hp2:p.loops.length*24≤140737488355328) (hR:gv n p) (hv:fL n=true) (CT:1≤p.ay∧p.ay≤64):
  ∃O:List (List Int),O.length=p.loops.length∧(∀i,i<p.loops.length→Fi n p i (O.getD i []))∧E k 16 [cn n,kT p]=some ([.pv (.sl 23) (.sl (O.map bH)),aI 0],[]):=by
 obtain⟨j,hj,e⟩:=hE.Ff.at (show KK+(4+1)≤k by omega) 16 [cn n,kT p] rfl rfl
 have kV:=bN
 have hg:=MP ho hs hz hv
 have hl:=hg.l
 have KI:=hp.l1
 unfold bf at KI
 obtain⟨W,As,hW,X3⟩:=f34 hE.Ff (show KK+1≤j by omega) hl hR hp
 have e13:=f13 hE (show KK+4≤j by omega) ho hs hz hp hR hv CT
 have X4:=f22 hE.Ff (show KK+2≤j by omega) (n:=n) (vec:=p.ay) hl hg.args hg.ye
 obtain⟨O,h1,h2,h3⟩:=Qj hE (v8:= .sl (W.map pz)) (show KK+2≤j by omega) hg hR hp As hW j 0 (List.replicate p.loops.length []) (by omega) (by simp) (fun i hi=>by omega) (fun i _=>by
  rw[List.getD_eq_getElem?_getD,List.getElem?_replicate];split<;>rfl)
 refine⟨O,h1,h2, ?_⟩
 rw[e,R16]
 have Sa:∀(a:PV) (b:AO),bk 0 (some ([AO.pv (.sl 80) a,b],([]:List AO)))=a:=fun _ _=>rfl
 have c0:∀a b:PV,(PV.agg [a,b]).cell 0=a:=fun _ _=>rfl
 have c1:∀a b:PV,(PV.agg [a,b]).cell 1=b:=fun _ _=>rfl
 simp only[TT,ab,aa,Ty.eq,eA,Ad,e13,X3,Qg,Sa,X4,c0,c1]
 rw[b7 (show(p.loops.length:Int)≤140737488355328 by omega),b7 (show(p.loops.length:Int)≤(p.loops.length:Int)by omega),b7 (show((24:Nat):Int)* (p.loops.length:Int)≤140737488355328 by omega)]
 rw[List.map_replicate]at h3
 exact h3
end
end Go.V
namespace Go.V
open Go.Proofs
def cY (p:eN) (i:Nat):Loop:=p.loops.getD i ⟨[],false⟩
def perm (p:eN) (σ:List Nat):eN:= {p with loops:=σ.map (cY p)}
structure wG (p:eN) (O:List (List Int)) (σ:List Nat) (d:List Bool):Prop where
 ld:d.length=p.loops.length
 dn:∀i,i<p.loops.length→(d.getD i false=true↔i∈σ)
 lt:∀i∈σ,i<p.loops.length
 inj:∀j j' i:Nat,σ[j]? =some i→σ[j']? =some i→j=j'
 ti:σ.length+nP σ (List.range p.loops.length)=p.loops.length
 ord:∀j i:Nat,σ[j]? =some i→∀b∈O.getD i [],b.toNat∈σ.take j
section
variable {n:Net} {p:eN} {O:List (List Int)} {σ:List Nat} {d:List Bool}
theorem wG.start:wG p O [] (List.replicate p.loops.length false):=by
 refine⟨by simp,fun i hi=> ?_,fun i hi=>(by cases hi),fun j j' i h=>by simp at h,by rw[rK];simp,fun j i h=>by simp at h⟩
 rw[List.getD_eq_getElem?_getD,List.getElem?_replicate,if_pos hi]
 simp
theorem wG.step (h:wG p O σ d) {i:Nat} (hi:i<p.loops.length) (hn:i∉σ) (hb:∀b∈O.getD i [],b.toNat∈σ):wG p O (σ++[i]) (d.set i true):=by
 have JJ:i<d.length:=by rw[h.ld];exact hi
 refine⟨by rw[List.length_set];exact h.ld,fun j hj=> ?_,fun j hj=> ?_,fun a a' x ha O1=> ?_, ?_,fun j x hx b UP=> ?_⟩
 ·rw[gf]
  by_cases e:i=j
  ·subst e;rw[if_pos ⟨rfl,JJ⟩];simp
  ·rw[if_neg (fun hh=>e hh.1),h.dn j hj]
   simp only[List.mem_append,List.mem_singleton]
   constructor
   ·exact .inl
   ·rintro (hh | hh)
    ·exact hh
    ·exact absurd hh.symm e
 ·rcases List.mem_append.1 hj with hj | hj
  ·exact h.lt j hj
  ·rw[List.mem_singleton]at hj;omega
 ·have key:∀a,(σ++[i])[a]? =some x→(a<σ.length∧σ[a]? =some x)∨(a=σ.length∧x=i):=by
   intro a ha
   by_cases hl:a<σ.length
   ·rw[List.getElem?_append_left hl]at ha;exact .inl ⟨hl,ha⟩
   ·rw[List.getElem?_append_right (by omega)]at ha
    by_cases e:a-σ.length=0
    ·rw[e]at ha
     simp at ha
     exact .inr ⟨by omega,ha.symm⟩
    ·rw[List.getElem?_eq_none (by simp;omega)]at ha;cases ha
  rcases key a ha with ⟨h1,h2⟩ | ⟨h1,h2⟩<;>rcases key a' O1 with ⟨h3,h4⟩ | ⟨h3,h4⟩
  ·exact h.inj a a' x h2 h4
  ·subst h4;exact absurd (List.mem_of_getElem? h2) hn
  ·subst h2;exact absurd (List.mem_of_getElem? h4) hn
  ·omega
 ·have:=h.ti
  rw[oZ hn,count_range _ i hi]at this
  simp;omega
 ·by_cases hl:j<σ.length
  ·rw[List.getElem?_append_left hl]at hx
   rw[List.take_append_of_le_length (by omega)]
   exact h.ord j x hx b UP
  ·rw[List.getElem?_append_right (by omega)]at hx
   by_cases e:j-σ.length=0
   ·rw[e]at hx
    simp at hx
    subst hx
    rw[show j=σ.length by omega,List.take_left]
    exact hb b UP
   ·rw[List.getElem?_eq_none (by simp;omega)]at hx;cases hx
theorem lD {j k:Nat} {x:Int}:At (perm p σ) j k x↔ ∃i,σ[j]? =some i∧At p i k x:=by
 unfold At perm
 simp only[List.getElem?_map]
 constructor
 ·rintro ⟨l,h1,h2⟩
  rw[Option.map_eq_some_iff]at h1
  obtain⟨i,h1,rfl⟩:=h1
  refine⟨i,h1,cY p i, ?_,h2⟩
  by_cases hi:i<p.loops.length
  ·unfold cY
   rw[List.getD_eq_getElem?_getD,List.getElem?_eq_getElem hi];rfl
  ·have e:cY p i=⟨[],false⟩:=by
    unfold cY
    rw[List.getD_eq_getElem?_getD,List.getElem?_eq_none (by omega)];rfl
   rw[e]at h2
   cases h2
 ·rintro ⟨i,h1,l,h2,h3⟩
  refine⟨l, ?_,h3⟩
  rw[h1]
  show some (cY p i)=some l
  unfold cY
  rw[List.getD_eq_getElem?_getD,h2];rfl
theorem Fk (hR:gv n p) (hF:∀i,i<p.loops.length→Fi n p i (O.getD i [])) (h:wG p O σ d) (vb:σ.length=p.loops.length):gv n (perm p σ):=by
 have je:∀i,i<p.loops.length→i∈σ:=by
  have:nP σ (List.range p.loops.length)=0:=by have:=h.ti;omega
  rw[mG]at this
  exact fun i hi=>this i (List.mem_range.2 hi)
 have X6:∀ {i k x},At p i k x→i<p.loops.length:=by
  rintro i k x ⟨l,h1,_⟩
  exact(List.getElem?_eq_some_iff.1 h1).1
 have key:∀(x:Nat) (hx:x<n.nodes.length) (y:Int) (i k i' k' j j':Nat),y∈Fh n p.ay (x:Int)→σ[j]? =some i→σ[j']? =some i'→At p i k (x:Int)→At p i' k' y→i'≠i→j'<j:=by
  intro x hx y i k i' k' j j' hy hj Hd hA qc dc
  have hm:=(hF i (X6 hA)).mem k x y i' k' hA hy qc dc
  have:=h.ord j i hj _ hm
  rw[Int.toNat_natCast]at this
  obtain⟨a,ha,e⟩:=List.mem_iff_getElem.1 this
  rw[List.length_take]at ha
  rw[List.getElem_take]at e
  have:=h.inj a j' i' (by rw[List.getElem?_eq_getElem (by omega),e]) Hd
  omega
 have cE:∀(x:Nat) (hx:x<n.nodes.length),Fh n p.ay (x:Int)=fM n.nodes[x].1++fe n.nodes[x].1 p.ay:=by
  intro x hx
  unfold Fh
  rw[Int.toNat_natCast,List.getElem?_eq_getElem hx]
 refine⟨fun j k x hA=> ?_,fun j k j' k' x hA qc=> ?_,fun x hx=> ?_,hR.rings,fun x hx y j k j' k' hy hA qc=> ?_,fun x hx y j k j' k' hy hA qc=> ?_⟩
 ·obtain⟨i,_,h2⟩:=lD.1 hA
  exact hR.Jz _ _ _ h2
 ·obtain⟨i,h1,h2⟩:=lD.1 hA
  obtain⟨i',h3,h4⟩:=lD.1 qc
  obtain⟨e1,e2⟩:=hR.Us _ _ _ _ _ h2 h4
  subst e1
  exact⟨h.inj _ _ _ h1 h3,e2⟩
 ·obtain⟨i,k,hA⟩:=hR.all x hx
  obtain⟨j,hj,e⟩:=List.mem_iff_getElem.1 (je i (X6 hA))
  exact⟨j,k,lD.2 ⟨i,by rw[List.getElem?_eq_getElem hj,e],hA⟩⟩
 ·obtain⟨i,h1,h2⟩:=lD.1 hA
  obtain⟨i',h3,h4⟩:=lD.1 qc
  by_cases e:i'=i
  ·subst e
   have:=h.inj _ _ _ h3 h1
   rcases hR.now x hx y i' k i' k' hy h2 h4 with h5 | ⟨_,h5⟩
   ·omega
   ·exact .inr ⟨this,h5⟩
  ·exact .inl (key x hx y i k i' k' j j' (by rw[cE x hx];exact List.mem_append_left _ hy) h1 h3 h2 h4 e)
 ·obtain⟨i,h1,h2⟩:=lD.1 hA
  obtain⟨i',h3,h4⟩:=lD.1 qc
  by_cases e:i'=i
  ·subst e
   have:=h.inj _ _ _ h3 h1
   rcases hR.fG x hx y i' k i' k' hy h2 h4 with h5 | ⟨_,h5⟩
   ·omega
   ·refine .inr ⟨this, ?_⟩
    rcases h5 with h5 | h5
    ·exact .inl h5
    ·right
     unfold o3 perm at*
     simp only[List.getElem?_map,h1,Option.map_some]
     unfold cY
     have hi:=X6 h2
     rw[List.getElem?_eq_getElem hi]at h5
     rw[List.getD_eq_getElem?_getD,List.getElem?_eq_getElem hi]
     exact h5
  ·exact .inl (key x hx y i k i' k' j j' (by rw[cE x hx];exact List.mem_append_right _ hy) h1 h3 h2 h4 e)
theorem OI (hp:dH p) (h:wG p O σ d):dH (perm p σ):=by
 have hl:σ.length≤p.loops.length:=by have:=h.ti;omega
 have hm:∀l∈σ.map (cY p),l∈p.loops:=by
  intro l hl
  obtain⟨i,hi,rfl⟩:=List.mem_map.1 hl
  have:=h.lt i hi
  unfold cY
  rw[List.getD_eq_getElem?_getD,List.getElem?_eq_getElem this]
  exact List.getElem_mem this
 refine⟨?_,fun l hl=>hp.l2 l (hm l hl),fun l hl=>hp.l3 l (hm l hl),hp.r1,hp.r2,hp.v, ?_⟩
 ·show(σ.map _).length<_
  rw[List.length_map]
  have:=hp.l1;omega
 ·show(σ.map _).length*32≤_
  rw[List.length_map]
  have:=hp.l0
  omega
theorem M5 (hF:∀i,i<p.loops.length→Fi n p i (O.getD i [])) (h:wG p O σ d) (b6:σ.length<p.loops.length):∃i,i<p.loops.length∧i∉σ∧∀b∈O.getD i [],b.toNat∈σ:=by
 have hex:∃i,i<p.loops.length∧i∉σ:=by
  apply Classical.byContradiction
  intro hn
  have:nP σ (List.range p.loops.length)=0:=by
   rw[mG]
   intro a ha
   apply Classical.byContradiction
   intro US
   exact hn ⟨a,List.mem_range.1 ha,US⟩
  have:=h.ti
  omega
 obtain⟨i,hi,X7⟩:=hex
 induction i using Nat.strongRecOn with
 | _ i ih=>
  by_cases hb:∀b∈O.getD i [],b.toNat∈σ
  ·exact⟨i,hi,X7,hb⟩
  ·obtain⟨b,hb⟩:=Classical.not_forall.1 hb
   obtain⟨U7,hbn⟩:=Classical.not_imp.1 hb
   have:=(hF i hi).lt b U7
   exact ih b.toNat (by omega) (by omega) hbn
end
end Go.V
