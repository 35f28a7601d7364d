/- The base calls joined; all, Contains, twice, need told; a right plan in plain words; what the reference's Check calls right is right. Conditions: those that each theorem names. (Names are short so that the claim keeps to its size.) -/
import Derived.Test.YtmgjhnjiljmmkaaNF
import Derived.Test.YtmgjhnjiljmmkaaNG
import Derived.Test.YtmgjhnjiljmmkaaVL
import Derived.Test.YtmgjhnjiljmmkaaVJ
set_option linter.unusedSimpArgs false
set_option linter.unusedVariables false
set_option maxRecDepth 100000
namespace Go.V
open Go.Proofs
structure Fb (E:Nat→aw):Prop where
 Ff:mo E
 c43:∀(k:Nat) (l:List PV),l.length*8≤room→E k 43 [.pv (.sl 3) (.sl l)]=some ([.arr 3 l],[])
 c36:∀(k:Nat) (l:List PV),l.length≤room→E k 36 [.arr 3 l]=some ([],[.arr 3 (q8 l)])
 c40:∀(k:Nat) (n:Net),cu n→jU n→n.size≤1000000→E k 40 [cn n]=rB (fL n)
noncomputable abbrev qB:aw:=WY (kS H0) HL
theorem wC {base:aw} {f:FuncId} {az:List AO} {r:List AO×List AO} (h:base f az=some r):∀k,KL Try.prog H0 base k f az=some r
 | 0=>h
 | k+1=>by rw[KL,h]
theorem CQ {f:FuncId} (h:Nat.beq f 40=false) (az:List AO):kS H0 f az=none:=by
 unfold kS
 rw[h];rfl
theorem Up:ct Try.prog qB:=Q9 (HK H0) N6
def tb (o A:Nat):Bool:=au 0 (o:Int)&&au (o:Int) (A:Int)
def tw (x:Nf) (a:Int):Bool:=tb ((cp x).count a) (x.args.count a)
section
variable {E:Nat→aw} {k m1:Nat} {v0 v1 v2 v3 v4 v5 v6 v7 v8 v9 v10 v11 v12 v13 v14 v15 v16 v17:PV}
theorem MK {call:aw} {a:Int} {A:Nat} {l:List Int} (hl:l.length≤1000):∀(n j c:Nat),l.length-j<n→c≤j→
  uj call k n (iv a) (iv A) (iv c) (l.map iv) (iv l.length) (iv j)=rB (tb (c+(l.drop j).count a) A)
 | 0,j,c,h,_=>by omega
 | n+1,j,c,h,hc=>by
  rw[zB]
  by_cases hj:j<l.length
  ·have hn:nth default (l.map iv) j=iv l[j]:=aK _ _ _ _ hj
   rw[bb hj]
   simp only[TT,ab,aa,Ty.eq,hj,hn,BY,aq (show j<4611686018427387904 by omega),aq (show c<4611686018427387904 by omega)]
   cases he:ak l[j] a
   ·rw[MK hl n (j+1) c (by omega) (by omega),List.count_cons_of_ne (fun hh=>Ai he hh)];rfl
   ·have:l[j]=a:=dW he
    rw[MK hl n (j+1) (c+1) (by omega) (by omega),this,List.count_cons_self,show c+1+(l.drop (j+1)).count a=c+((l.drop (j+1)).count a+1)by omega];rfl
  ·rw[aT (by omega),List.count_nil]
   simp only[tI,tL,List.length_map,eg (show(l.length:Int)≤(j:Int)by omega),cond_false,Is,Nat.add_zero]
   unfold tb
   cases au 0 (c:Int)<;>rfl
theorem ML (hE:mo E) (hk:KK+3≤k) {x:Node} {a:Int} (hl:x.1.args.length≤1000):∀(n j c:Nat),x.1.args.length-j<n→c≤j→
  Gt (E k) k n (iv a) (.str x.1.op) (.str x.1.name) (iv x.1.n) (iv x.1.m) (.sl (x.1.ao.map Qn.pv)) (.str x.1.fk) (iv x.1.fi) (iv x.1.ff) (.str x.1.fr) (.str x.1.fo) (bH x.1.args) (.sl (x.2.map Net.pv)) (iv c) (iv (0:Nat)) (bH x.1.args) (iv x.1.args.length) (iv j)=
   rB (tb ((cp x.1).count a) (c+(x.1.args.drop j).count a))
 | 0,j,c,h,_=>by omega
 | n+1,j,c,h,hc=>by
  have kV:=bN
  rw[Es]
  by_cases hj:j<x.1.args.length
  ·have hn:nth default (x.1.args.map iv) j=iv x.1.args[j]:=aK _ _ _ _ hj
   rw[bb hj]
   simp only[TT,ab,aa,Ty.eq,hj,hn,Lr,aq (show j<4611686018427387904 by omega),aq (show c<4611686018427387904 by omega)]
   cases he:ak x.1.args[j] a
   ·have:=ML hE hk (a:=a) hl n (j+1) c (by omega) (by omega)
    rw[List.count_cons_of_ne (fun hh=>Ai he hh)]
    simp only[cond_false]
    exact this
   ·have e:x.1.args[j]=a:=dW he
    have:=ML hE hk (a:=a) hl n (j+1) (c+1) (by omega) (by omega)
    rw[e,List.count_cons_self,show c+((x.1.args.drop (j+1)).count a+1)=c+1+(x.1.args.drop (j+1)).count a by omega]
    simp only[cond_true]
    exact this
  ·rw[aT (by omega),List.count_nil]
   have hlen:(cp x.1).length≤1000:=by
    have:∀(p:Nat→Bool) (i:Nat) (l:List Int),(pick p i l).length≤l.length:=by
     intro p i l
     induction l generalizing i with
     | nil=>simp[pick]
     | cons b l ih=>
      rw[pick]
      have:=ih (i+1)
      cases (p i&&aj 0 b)<;>simp<;>omega
    exact Nat.le_trans (this _ _ _) hl
   simp only[TT,ab,aa,Ty.eq,hj,gH,f38 hE hk x hl,fU,cB,Nat.add_zero]
   have:=MK (call:=E k) (k:=k) (a:=a) (A:=c) hlen k 0 0 (by omega) (by omega)
   rw[List.drop_zero,Nat.zero_add]at this
   exact this
theorem f39 (hE:mo E) (hk:KK+4≤k) (x:Node) (a:Int) (hl:x.1.args.length≤1000):E k 39 [j8 x,aI a]=rB (tw x.1 a):=by
 obtain⟨j,hj,e⟩:=hE.at hk 39 [j8 x,aI a] rfl rfl
 have kV:=bN
 rw[e,R39]
 simp only[TT,ab,aa,Ty.eq]
 have:=ML hE hj (a:=a) hl j 0 0 (by omega) (by omega)
 rw[List.drop_zero,Nat.zero_add]at this
 exact this
theorem P9 {call:aw} {a:Int} {l:List Int} (hl:l.length≤9000000):∀(n j:Nat),l.length-j<n→
  ∃r:Int,(aj 0 r=true↔a∈l.drop j)∧GJ call k n (iv a) (iv l.length) (iv j) (l.map iv)=some ([aI r],[.arr 3 (l.map iv)])
 | 0,j,h=>by omega
 | n+1,j,h=>by
  rw[EM]
  by_cases hj:j<l.length
  ·have hn:nth default (l.map iv) j=iv l[j]:=aK _ _ _ _ hj
   rw[bb hj]
   simp only[TT,ab,aa,Ty.eq,hj,hn,LW,LV,aq (show j<4611686018427387904 by omega)]
   cases he:ak a l[j]
   ·obtain⟨r,h1,h2⟩:=P9 hl n (j+1) (by omega)
    refine⟨r, ?_,h2⟩
    rw[h1,List.mem_cons]
    constructor
    ·exact .inr
    ·rintro (hh | hh)
     ·exact absurd hh (Ai he)
     ·exact hh
   ·refine⟨j,⟨fun _=> ?_,fun _=>TR j⟩,rfl⟩
    rw[dW he];exact List.mem_cons_self
  ·refine⟨-1, ?_, ?_⟩
   ·rw[aT (by omega)]
    constructor
    ·intro hh;cases hh
    ·intro hh;cases hh
   ·simp only[TT,ab,aa,Ty.eq,hj,LX]
theorem f44 (hE:mo E) (hk:KK+1≤k) {a:Int} {l:List Int} (hl:l.length≤9000000):∃r:Int,(aj 0 r=true↔a∈l)∧E k 44 [.arr 3 (l.map iv),aI a]=some ([aI r],[.arr 3 (l.map iv)]):=by
 obtain⟨j,hj,e⟩:=hE.at hk 44 [.arr 3 (l.map iv),aI a] rfl rfl
 have kV:=bN
 rw[e,R44,List.length_map]
 exact P9 (call:=E j) (k:=j) (a:=a) hl j 0 (by omega)
theorem f32 (hE:mo E) (hk:KK+2≤k) {a:Int} {l:List Int} (hl:l.length≤9000000):E k 32 [.arr 3 (l.map iv),aI a]=some ([aB (decide (a∈l))],[.arr 3 (l.map iv)]):=by
 obtain⟨j,hj,e⟩:=hE.at hk 32 [.arr 3 (l.map iv),aI a] rfl rfl
 obtain⟨r,h1,h2⟩:=f44 hE hj (a:=a) hl
 rw[e,R32,h2]
 have hb:aj 0 r=decide (a∈l):=by
  rw[Bool.eq_iff_iff,h1,decide_eq_true_iff]
 rw[←hb]
 simp only[di,eG,gU,kI,bD,nth,cZ,ab,aa,Ty.eq,tI,decide_true,Bool.and_self,cond_true]
 rfl
end
section
variable {E:Nat→aw} {k:Nat}
theorem f31 (hE:Fb E) (hk:KK+1≤k) {ws bs:List (List Int)} {i:Nat} (h1:i<ws.length) (h2:i<bs.length) (hw:(ws.getD i []).length≤1000) (hb:(bs.getD i []).length≤1000):
  E k 31 [.pv (.st 65) (.agg [.sl (ws.map bH), .sl (bs.map bH)]),aI i]=some ([.arr 3 ((ws.getD i []++bs.getD i []).map iv)],[]):=by
 obtain⟨j,hj,e⟩:=hE.Ff.at hk 31 [.pv (.st 65) (.agg [.sl (ws.map bH), .sl (bs.map bH)]),aI i] rfl rfl
 rw[e,R31]
 have e1:nth default (ws.map bH) i=bH (ws.getD i []):=by
  rw[aK _ _ _ _ h1,List.getD_eq_getElem?_getD,List.getElem?_eq_getElem h1];rfl
 have e2:nth default (bs.map bH) i=bH (bs.getD i []):=by
  rw[aK _ _ _ _ h2,List.getD_eq_getElem?_getD,List.getElem?_eq_getElem h2];rfl
 have c0:(PV.agg [.sl (ws.map bH), .sl (bs.map bH)]).cell 0= .sl (ws.map bH):=rfl
 have c1:(PV.agg [.sl (ws.map bH), .sl (bs.map bH)]).cell 1= .sl (bs.map bH):=rfl
 simp only[c0,c1,TT,ab,aa,Ty.eq,h1,h2,e1,e2]
 rw[hE.c43 _ _ (by rw[List.length_map];show _≤140737488355328;omega)]
 simp only[ab,fU,cB,Nat.beq_refl,cond_true,cond_false,List.length_map]
 rw[kQ (show((ws.getD i []).length+(bs.getD i []).length)*8≤room by show _≤140737488355328;omega), ←List.map_append]
 rfl
end
end Go.V
namespace Go.V
open Go.Proofs
abbrev bl (r:List Bool):PV:= .sl (r.map PV.bool)
def dL (p:Int→Bool) (b:Bool):List Int→List Bool→List Bool
 | [],r=>r
 | a::l,r=>dL p b l (bif p a then r.set a.toNat b else r)
def p2 (late:Bool) (a:Int):Bool:=aj 0 a&& !late
def p4 (rn:List Bool) (x:Nf) (late:Bool) (a:Int):Bool:=aj 0 a&&(!late&&(rn.getD a.toNat false&&tw x a))
section
variable {p:Int→Bool} {b:Bool}
theorem iE:∀(l:List Int) (r:List Bool),(dL p b l r).length=r.length
 | [],r=>rfl
 | a::l,r=>by
  rw[dL,iE l]
  cases p a
  ·rfl
  ·simp
theorem tG {y:Nat}:∀(l:List Int) (r:List Bool),(∀a∈l,p a=true→a.toNat≠y)→(dL p b l r).getD y false=r.getD y false
 | [],r,_=>rfl
 | a::l,r,h=>by
  rw[dL,tG l _ (fun c hc=>h c (List.mem_cons_of_mem _ hc))]
  cases hp:p a
  ·rfl
  ·rw[cond_true,gf,if_neg (fun hh=>h a (by simp) hp hh.1)]
theorem qu {y:Nat}:∀(l:List Int) (r:List Bool),r.getD y false=true→(dL p true l r).getD y false=true
 | [],r,h=>h
 | a::l,r,h=>by
  rw[dL]
  refine qu l _ ?_
  cases hp:p a
  ·exact h
  ·rw[cond_true,gf]
   split
   ·rfl
   ·exact h
theorem pk {y:Int}:∀(l:List Int) (r:List Bool),y∈l→p y=true→y.toNat<r.length→(dL p true l r).getD y.toNat false=true
 | [],r,h,_,_=>by cases h
 | a::l,r,h,hp,hy=>by
  rw[dL]
  rcases List.mem_cons.1 h with rfl | h
  ·refine qu l _ ?_
   rw[hp,cond_true,gf,if_pos ⟨rfl,hy⟩]
  ·refine pk l _ h hp ?_
   cases p a
   ·exact hy
   ·simpa using hy
end
theorem qv {rd:List (List Bool)} {i:Nat} (h:i<rd.length):nth default (rd.map bl) i=bl (rd.getD i []):=by
 rw[aK _ _ _ _ h,List.getD_eq_getElem?_getD,List.getElem?_eq_getElem h];rfl
theorem sL (rd:List (List Bool)) (i:Nat) (r:List Bool):(rd.map bl).set i (.sl (r.map PV.bool))=(rd.set i r).map bl:=(List.map_set (f:=bl)).symm
theorem cR {α:Type} {d:α} {l:List α} {i:Nat} {b:α} (h:i<l.length):(l.set i b).getD i d=b:=by rw[gf,if_pos ⟨rfl,h⟩]
section
variable {call:aw} {k m1:Nat} {v0 v1 v2 v3 v6 v9 v10 v11 v12 v13 v14 v15 v16 v17 v18 v19 v20 v21 v22 v23 v24 v25 v26 v27 v28:PV} {w4 w5 w7 w8:List PV}
theorem Qa {now:List (List Bool)} {i:Nat} (hi:i<now.length) {L:List Int} (hl:L.length≤1000):∀(n j:Nat) (r:List Bool),L.length-j<n→(∀a∈L,0≤a∧a<r.length)→
  uk call k m1 n v0 v1 v2 v3 w4 w5 v6 ((now.set i r).map bl) w8 (iv i) v10 v11 v12 v13 v14 v15 v16 v17 v18 v19 v20 v21 v22 v23 v24 (L.map iv) (iv L.length) (iv j)=zU call k m1 v0 v1 v2 v3 w4 w5 v6 ((now.set i (dL (fun _=>true) true (L.drop j) r)).map bl) w8 (iv i) v10 v11 v12 v13 v14 v15 v16 v17 v18 v19 v20 v21 v22 v23 v24
 | 0,j,r,h,_=>by omega
 | n+1,j,r,h,hL=>by
  rw[zV]
  by_cases hj:j<L.length
  ·have hn:nth default (L.map iv) j=iv L[j]:=aK _ _ _ _ hj
   obtain⟨h0,hr⟩:=hL _ (bz hj)
   have yB:i<(now.set i r).length:=by rw[List.length_set];exact hi
   rw[bb hj,dL]
   simp only[TT,ab,aa,Ty.eq,hj,hn,hi,yB,List.length_set,qv yB,cR hi,b7 h0,dF hr,aq (show j<4611686018427387904 by omega),Bool.not_true]
   rw[←List.map_set,sL,List.set_set]
   have I9:Jv i now.length=true:=decide_eq_true hi
   rw[I9]
   exact Qa hi hl n (j+1) (r.set L[j].toNat true) (by omega) (by simpa using hL)
  ·rw[aT (by omega),dL]
   simp only[TT,ab,aa,Ty.eq,hj]
theorem MM {fG:List (List Bool)} {i:Nat} (hi:i<fG.length) {L:List Int} (hl:L.length≤1000):∀(n j:Nat) (r:List Bool),L.length-j<n→(∀a∈L,0≤a∧a<r.length)→
  rk call k m1 n v0 v1 v2 v3 w4 w5 v6 w7 ((fG.set i r).map bl) (iv i) v10 v11 v12 v13 v14 v15 v16 v17 v18 v19 v20 v21 v22 v23 v24 v25 (L.map iv) (iv L.length) (iv j)=zS call k m1 v0 v1 v2 v3 w4 w5 v6 w7 ((fG.set i (dL (fun _=>true) false (L.drop j) r)).map bl) (iv i) v10 v11 v12 v13 v14 v15 v16 v17 v18 v19 v20 v21 v22 v23 v24 v25
 | 0,j,r,h,_=>by omega
 | n+1,j,r,h,hL=>by
  rw[xk]
  by_cases hj:j<L.length
  ·have hn:nth default (L.map iv) j=iv L[j]:=aK _ _ _ _ hj
   obtain⟨h0,hr⟩:=hL _ (bz hj)
   have yB:i<(fG.set i r).length:=by rw[List.length_set];exact hi
   rw[bb hj,dL]
   simp only[TT,ab,aa,Ty.eq,hj,hn,hi,yB,List.length_set,qv yB,cR hi,b7 h0,dF hr,aq (show j<4611686018427387904 by omega),Bool.not_true]
   rw[←List.map_set,sL,List.set_set]
   have I9:Jv i fG.length=true:=decide_eq_true hi
   rw[I9]
   exact MM hi hl n (j+1) (r.set L[j].toNat false) (by omega) (by simpa using hL)
  ·rw[aT (by omega),dL]
   simp only[TT,ab,aa,Ty.eq,hj]
end
section
variable {E:Nat→aw} {k m1:Nat} {v0 v1 v2 v3 v6 v9 v10 v11 v12 v13 v14 v15 v16 v17 v18 v19 v20 v21 v22 v23 v24 v25 v26 v27 v28:PV} {w4 w5 w7 w8:List PV}
theorem GY (x:Nf):(cp x).length≤x.args.length:=by
 have:∀(p:Nat→Bool) (i:Nat) (l:List Int),(pick p i l).length≤l.length:=by
  intro p i l
  induction l generalizing i with
  | nil=>simp[pick]
  | cons b l ih=>
   rw[pick]
   have:=ih (i+1)
   cases (p i&&aj 0 b)<;>simp<;>omega
 exact this _ _ _
theorem sM (hE:mo E) (hk:KK+4≤k) {now fG:List (List Bool)} {i:Nat} (hi:i<fG.length) (CL:i<now.length) {x:Node} {late:Bool} (hl:x.1.args.length≤1000):∀(n j:Nat) (r:List Bool),x.1.args.length-j<n→(∀a∈x.1.args,0≤a→a<r.length∧a<(now.getD i []).length)→
  zR (E k) k m1 n v0 v1 v2 v3 w4 w5 v6 (now.map bl) ((fG.set i r).map bl) (iv i) (.str x.1.op) (.str x.1.name) (iv x.1.n) (iv x.1.m) (.sl (x.1.ao.map Qn.pv)) (.str x.1.fk) (iv x.1.fi) (iv x.1.ff) (.str x.1.fr) (.str x.1.fo) (bH x.1.args) (.sl (x.2.map Net.pv)) (.bool late) v23 v24 v25 (bH x.1.args) (iv x.1.args.length) (iv j)=
   ya (E k) k m1 v0 v1 v2 v3 w4 w5 v6 (now.map bl) ((fG.set i (dL (p4 (now.getD i []) x.1 late) true (x.1.args.drop j) r)).map bl) v23 v24 (iv (IntKind.i64.wrap (v25.toInt+1)))
 | 0,j,r,h,_=>by omega
 | n+1,j,r,h,hL=>by
  rw[Cf]
  by_cases hj:j<x.1.args.length
  ·have hn:nth default (x.1.args.map iv) j=iv x.1.args[j]:=aK _ _ _ _ hj
   have XV:=hL _ (bz hj)
   have yB:i<(fG.set i r).length:=by rw[List.length_set];exact hi
   have I9:Jv i fG.length=true:=decide_eq_true hi
   rw[bb hj,dL,show p4 (now.getD i []) x.1 late x.1.args[j]=(aj 0 x.1.args[j]&&(!late&&((now.getD i []).getD (x.1.args[j]).toNat false&&tw x.1 x.1.args[j])))from rfl]
   simp only[TT,ab,aa,Ty.eq,hj,hn,hi,CL,yB,I9,List.length_set,qv yB,qv CL,cR hi,IQ,gH,f39 hE hk x _ hl,qq,aq (show j<4611686018427387904 by omega)]
   cases h0:aj 0 x.1.args[j]
   ·simp only[cond_false,Bool.false_and]
    exact sM hE hk hi CL hl n (j+1) r (by omega) hL
   ·obtain⟨hr,Zt⟩:=XV (gT h0)
    cases late
    ·simp only[Bool.not_false,Bool.true_and,cond_true,dF hr,dF Zt]
     cases Zk:(now.getD i []).getD (x.1.args[j]).toNat false
     ·simp only[Bool.false_and,cond_false]
      exact sM hE hk hi CL hl n (j+1) r (by omega) hL
     ·simp only[Bool.true_and,cond_true]
      cases tw x.1 x.1.args[j]
      ·simp only[cond_false]
       exact sM hE hk hi CL hl n (j+1) r (by omega) hL
      ·simp only[cond_true,Bool.not_true,cond_false]
       rw[←List.map_set,sL,List.set_set]
       exact sM hE hk hi CL hl n (j+1) _ (by omega) (by simpa using hL)
    ·simp only[Bool.not_true,Bool.false_and,Bool.and_false,cond_false]
     exact sM hE hk hi CL hl n (j+1) r (by omega) hL
  ·rw[aT (by omega),dL]
   simp only[TT,ab,aa,Ty.eq,hj]
theorem Aq (hE:mo E) (hk:KK+4≤k) {now fG:List (List Bool)} {i:Nat} (hi:i<fG.length) (CL:i<now.length) {x:Node} {late:Bool} (hl:x.1.args.length≤1000) (Uf:i<1000000):∀(n j:Nat) (r:List Bool),x.1.args.length-j<n→(∀a∈x.1.args,0≤a→a<r.length∧a<(now.getD i []).length)→
  zT (E k) k m1 n v0 v1 v2 v3 w4 w5 v6 (now.map bl) ((fG.set i r).map bl) (iv i) (.str x.1.op) (.str x.1.name) (iv x.1.n) (iv x.1.m) (.sl (x.1.ao.map Qn.pv)) (.str x.1.fk) (iv x.1.fi) (iv x.1.ff) (.str x.1.fr) (.str x.1.fo) (bH x.1.args) (.sl (x.2.map Net.pv)) (.bool late) v23 v24 (iv i) (bH x.1.args) (iv x.1.args.length) (iv j)=
   ya (E k) k m1 v0 v1 v2 v3 w4 w5 v6 (now.map bl) ((fG.set i (dL (p4 (now.getD i []) x.1 late) true x.1.args (dL (fun _=>true) false (cp x.1) (dL (p2 late) true (x.1.args.drop j) r)))).map bl) v23 v24 (iv ((i+1:Nat):Int))
 | 0,j,r,h,_=>by omega
 | n+1,j,r,h,hL=>by
  have kV:=bN
  rw[Cg]
  by_cases hj:j<x.1.args.length
  ·have hn:nth default (x.1.args.map iv) j=iv x.1.args[j]:=aK _ _ _ _ hj
   have XV:=hL _ (bz hj)
   have yB:i<(fG.set i r).length:=by rw[List.length_set];exact hi
   have I9:Jv i fG.length=true:=decide_eq_true hi
   rw[bb hj,dL,show p2 late x.1.args[j]=(aj 0 x.1.args[j]&& !late)from rfl]
   simp only[TT,ab,aa,Ty.eq,hj,hn,hi,CL,yB,I9,List.length_set,qv yB,cR hi,IP,aq (show j<4611686018427387904 by omega)]
   cases h0:aj 0 x.1.args[j]
   ·simp only[cond_false,Bool.false_and]
    exact Aq hE hk hi CL hl Uf n (j+1) r (by omega) hL
   ·obtain⟨hr,Zt⟩:=XV (gT h0)
    cases late
    ·simp only[Bool.not_false,Bool.true_and,Bool.and_true,cond_true,dF hr,Bool.not_true,cond_false]
     rw[←List.map_set,sL,List.set_set]
     exact Aq hE hk hi CL hl Uf n (j+1) _ (by omega) (by simpa using hL)
    ·simp only[Bool.not_true,Bool.and_false,cond_false]
     exact Aq hE hk hi CL hl Uf n (j+1) r (by omega) hL
  ·rw[aT (by omega),dL]
   have AD:=GY x.1
   have RG:∀a∈cp x.1,0≤a∧a<(r.length:Int):=fun a ha=>⟨cN ha,(hL a (gg ha) (cN ha)).1⟩
   simp only[TT,ab,aa,Ty.eq,hj,gH,f38 hE (show KK+3≤k by omega) x hl,fU,cB]
   have e1:=MM (call:=E k) (k:=k) (m1:=m1) (v0:=v0) (v1:=v1) (v2:=v2) (v3:=v3) (v6:=v6) (w4:=w4) (w5:=w5) (w7:=now.map bl) (v10:= .str x.1.op) (v11:= .str x.1.name) (v12:=iv x.1.n) (v13:=iv x.1.m) (v14:= .sl (x.1.ao.map Qn.pv)) (v15:= .str x.1.fk) (v16:=iv x.1.fi) (v17:=iv x.1.ff) (v18:= .str x.1.fr) (v19:= .str x.1.fo) (v20:=bH x.1.args) (v21:= .sl (x.2.map Net.pv)) (v22:= .bool late) (v23:=v23) (v24:=v24) (v25:=iv i) hi (L:=cp x.1) (by omega) k 0 r (by omega) RG
   rw[List.drop_zero]at e1
   refine e1.trans ?_
   rw[IS]
   have e2:=sM hE hk (m1:=m1) (v0:=v0) (v1:=v1) (v2:=v2) (v3:=v3) (v6:=v6) (w4:=w4) (w5:=w5) (v23:=v23) (v24:=v24) (v25:=iv i) (fG:=fG) (now:=now) (i:=i) hi CL (x:=x) (late:=late) hl k 0 (dL (fun _=>true) false (cp x.1) r) (by omega) (by rw[iE];exact hL)
   rw[List.drop_zero,tI,aq (show i<4611686018427387904 by omega)]at e2
   simp only[tL,List.length_map]
   exact e2
end
theorem MN {ns:List Node} {x:Node} (hl:aG ns x=true) (j:Nat):oY (aF x.1.op) x.1.n j=tP (aF x.1.op) x.1.n (cg (aF x.1.op) x.1.args.length).2.1 (cg (aF x.1.op) x.1.args.length).2.2.1 j:=by
 obtain⟨_,_,_,_,n0,n7⟩:=o0 hl
 by_cases ye:aF x.1.op=27
 ·rw[ye];rfl
 by_cases I6:aF x.1.op=28
 ·rw[I6]
  show(ak j 1|| _)=(ak j 1|| _)
  rfl
 by_cases Jw:aF x.1.op=31
 ·rw[Jw];rfl
 by_cases Jx:aF x.1.op=30
 ·rw[Jx];rfl
 rw[CN (lO _) n0 n7 ye I6 Jx Jw]
 have XP:Nat.beq (aF x.1.op) 27=false:=by rw[Bool.eq_false_iff];exact fun h=>ye (Nat.eq_of_beq_eq_true h)
 have Ui:Nat.beq (aF x.1.op) 28=false:=by rw[Bool.eq_false_iff];exact fun h=>I6 (Nat.eq_of_beq_eq_true h)
 have Se:Nat.beq (aF x.1.op) 31=false:=by rw[Bool.eq_false_iff];exact fun h=>Jw (Nat.eq_of_beq_eq_true h)
 have XQ:Nat.beq (aF x.1.op) 30=false:=by rw[Bool.eq_false_iff];exact fun h=>Jx (Nat.eq_of_beq_eq_true h)
 unfold oY
 rw[XP,Ui,Se,XQ];rfl
theorem GZ {ns:List Node} {x:Node} (hl:aG ns x=true):fM x.1=cp x.1:=by
 unfold fM cp
 congr 1
 funext j
 exact MN hl j
theorem wD {p:Nat→Bool} {y:Int}:∀ {l:List Int} {i:Nat},(pick p i l).count y≤l.count y∧(y∈pick (fun j=> !p j) i l→(pick p i l).count y<l.count y)
 | [],i=>⟨Nat.le_refl _,fun h=>by cases h⟩
 | a::l,i=>by
  obtain⟨h1,h2⟩:=wD (p:=p) (y:=y) (l:=l) (i:=i+1)
  rw[pick,pick,List.count_cons]
  cases hp:p i
  ·simp only[Bool.false_and,cond_false,Bool.not_false,Bool.true_and]
   refine⟨by omega,fun h=> ?_⟩
   cases h0:aj 0 a
   ·rw[h0,cond_false]at h
    have:=h2 h;omega
   ·rw[h0,cond_true]at h
    rcases List.mem_cons.1 h with rfl | h
    ·simp;omega
    ·have:=h2 h;omega
  ·simp only[Bool.true_and,Bool.not_true,Bool.false_and,cond_false]
   cases h0:aj 0 a
   ·simp only[cond_false]
    exact⟨by omega,fun h=>by have:=h2 h;omega⟩
   ·simp only[cond_true,List.count_cons]
    exact⟨by omega,fun h=>by have:=h2 h;omega⟩
structure CR (N:Nat) (x:Node) (vec:Int) (rn rb:List Bool):Prop where
 ln:rn.length=N
 lb:rb.length=N
 now:∀y∈fM x.1,rn.getD y.toNat false=true
 fG:∀y∈fe x.1 vec,rb.getD y.toNat false=true
theorem RH {N:Nat} {ns:List Node} {x:Node} {vec:Int} (hl:aG ns x=true) (hN:ns.length=N) (rn:List Bool) (Zu:rn=dL (fun _=>true) true (cp x.1) (List.replicate N false)):
  CR N x vec rn (dL (p4 rn x.1 (jV x.1 vec)) true x.1.args (dL (fun _=>true) false (cp x.1) (dL (p2 (jV x.1 vec)) true x.1.args (List.replicate N false)))):=by
 have b6:=jJ hl
 have Uq:∀y∈cp x.1,rn.getD y.toNat false=true:=by
  intro y hy
  rw[Zu]
  have h0:=cN hy
  have h1:=(b6 y (gg hy)).2
  exact pk _ _ hy rfl (by rw[List.length_replicate];omega)
 refine⟨by rw[Zu,iE,List.length_replicate],by rw[iE,iE,iE,List.length_replicate],fun y hy=>Uq y (by rw[←GZ hl];exact hy),fun y hy=> ?_⟩
 unfold fe at hy
 cases yp:jV x.1 vec with
 | true=>rw[yp,cond_true]at hy;cases hy
 | false=>
  rw[yp,cond_false]at hy
  have h0:=cN hy
  have hm:=gg hy
  have h1:=(b6 y hm).2
  by_cases CY:y∈cp x.1
  ·refine pk _ _ hm ?_ (by rw[iE,iE,List.length_replicate];omega)
   have hc:=(wD (p:=oY (aF x.1.op) x.1.n) (y:=y) (l:=x.1.args) (i:=0)).2 hy
   have hc:(fM x.1).count y<x.1.args.count y:=hc
   rw[GZ hl]at hc
   have wS:0<(cp x.1).count y:=List.count_pos_iff.2 CY
   unfold p4 tw tb
   rw[b7 h0,Uq y CY]
   rw[dF (show(0:Int)<(((cp x.1).count y:Nat):Int)by omega),dF (by omega)]
   rfl
  ·refine qu _ _ ?_
   rw[tG _ _ (fun a ha _ he=> ?_)]
   ·refine pk _ _ hm ?_ (by rw[List.length_replicate];omega)
    unfold p2;rw[b7 h0];rfl
   ·have:=cN ha
    have:a=y:=by omega
    exact CY (this▸ha)
section
variable {E:Nat→aw} {k:Nat} {v0 v1 v2 v3:PV} {w4 w5:List PV}
theorem Qb (hE:mo E) (hk:KK+4≤k) {n:Net} {vec:Int} (hl:n.nodes.length≤2000) (dE:∀x∈n.nodes,x.1.args.length≤1000) (Dz:∀x∈n.nodes,aG n.nodes x=true):∀(f j:Nat) (now fG:List (List Bool)),n.nodes.length-j<f→j≤n.nodes.length→now.length=n.nodes.length→fG.length=n.nodes.length→
  (∀i (hi:i<n.nodes.length),i<j→CR n.nodes.length n.nodes[i] vec (now.getD i []) (fG.getD i []))→
  ∃Ji Jj:List (List Bool),Ji.length=n.nodes.length∧Jj.length=n.nodes.length∧(∀i (hi:i<n.nodes.length),CR n.nodes.length n.nodes[i] vec (Ji.getD i []) (Jj.getD i []))∧
   ya (E k) k f (iv vec) v1 v2 v3 w4 w5 (iv n.nodes.length) (now.map bl) (fG.map bl) (.sl (n.nodes.map af)) (iv n.nodes.length) (iv j)=some ([.pv (.st 62) (.agg [.sl (Ji.map bl), .sl (Jj.map bl)])],[])
 | 0,j,now,fG,h,_,_,_,_=>by omega
 | f+1,j,now,fG,h,Dd,Zv,JL,hI=>by
  have kV:=bN
  rw[EH]
  by_cases hj:j<n.nodes.length
  ·have hn:nth default (n.nodes.map af) j=af n.nodes[j]:=aK _ _ _ _ hj
   have hm:=bz hj
   have XW:=Dz _ hm
   have T5:=dE _ hm
   have b6:=jJ XW
   have Ur:j<now.length:=by omega
   have XX:j<fG.length:=by omega
   have AD:=GY n.nodes[j].1
   have RG:∀(r:List Bool),r.length=n.nodes.length→∀a∈cp n.nodes[j].1,0≤a∧a<(r.length:Int):=fun r hr a ha=>⟨cN ha,by rw[hr];exact(b6 a (gg ha)).2⟩
   obtain⟨Uh,_⟩:=o0 XW
   generalize hx:n.nodes[j]=x at*
   let r0:=List.replicate n.nodes.length false
   let rn:=dL (fun _=>true) true (cp x.1) r0
   have tN:=RH (vec:=vec) XW rfl rn rfl
   have XY:rn.length=n.nodes.length:=tN.ln
   have Tg:(now.set j rn).getD j []=rn:=cR Ur
   obtain⟨Ji,Jj,h1,h2,h3,h4⟩:=Qb hE hk hl dE Dz f (j+1) (now.set j rn) (fG.set j (dL (p4 rn x.1 (jV x.1 vec)) true x.1.args (dL (fun _=>true) false (cp x.1) (dL (p2 (jV x.1 vec)) true x.1.args r0)))) (by omega) (by omega) (by rw[List.length_set];exact Zv) (by rw[List.length_set];exact JL) (fun i hi Ay=>by
    by_cases e:i=j
    ·subst e
     rw[cR Ur,cR XX,hx]
     exact tN
    ·rw[gf,gf,if_neg (fun hh=>e hh.1.symm),if_neg (fun hh=>e hh.1.symm)]
     exact hI i hi (by omega))
   refine⟨Ji,Jj,h1,h2,h3, ?_⟩
   simp only[TT,ab,aa,Ty.eq,hj,hn,Ur,XX,gH,f38 hE (show KK+3≤k by omega) x T5,fU,cB]
   rw[b7 (show(n.nodes.length:Int)≤140737488355328 by omega),b7 (show(n.nodes.length:Int)≤(n.nodes.length:Int)by omega),b7 (show((1:Nat):Int)* (n.nodes.length:Int)≤140737488355328 by omega)]
   simp only[Bool.and_self,cond_true]
   rw[←List.map_replicate,sL,sL]
   have e1:=Qa (call:=E k) (k:=k) (m1:=f) (v0:=iv vec) (v1:=v1) (v2:=v2) (v3:=v3) (v6:=iv n.nodes.length) (w4:=w4) (w5:=w5) (w8:=(fG.set j r0).map bl) (v10:= .str x.1.op) (v11:= .str x.1.name) (v12:=iv x.1.n) (v13:=iv x.1.m) (v14:= .sl (x.1.ao.map Qn.pv)) (v15:= .str x.1.fk) (v16:=iv x.1.fi) (v17:=iv x.1.ff) (v18:= .str x.1.fr) (v19:= .str x.1.fo) (v20:=bH x.1.args) (v21:= .sl (x.2.map Net.pv)) (v22:= .sl (n.nodes.map af)) (v23:=iv n.nodes.length) (v24:=iv j) Ur (L:=cp x.1) (by omega) k 0 r0 (by omega) (RG r0 (by simp[r0]))
   rw[List.drop_zero]at e1
   refine e1.trans ?_
   have cE:∀late,late=jV x.1 vec→qp (E k) k f (iv vec) v1 v2 v3 w4 w5 (iv n.nodes.length) ((now.set j rn).map bl) ((fG.set j r0).map bl) (iv j) (.str x.1.op) (.str x.1.name) (iv x.1.n) (iv x.1.m) (.sl (x.1.ao.map Qn.pv)) (.str x.1.fk) (iv x.1.fi) (iv x.1.ff) (.str x.1.fr) (.str x.1.fo) (bH x.1.args) (.sl (x.2.map Net.pv)) (.bool late) (.sl (n.nodes.map af)) (iv n.nodes.length) (iv j)=some ([.pv (.st 62) (.agg [.sl (Ji.map bl), .sl (Jj.map bl)])],[]):=by
    intro late yp
    subst yp
    rw[IT]
    have e2:=Aq hE hk (m1:=f) (v0:=iv vec) (v1:=v1) (v2:=v2) (v3:=v3) (v6:=iv n.nodes.length) (w4:=w4) (w5:=w5) (v23:= .sl (n.nodes.map af)) (v24:=iv n.nodes.length) (now:=now.set j rn) (fG:=fG) (i:=j) XX (by rw[List.length_set];exact Ur) (x:=x) (late:=jV x.1 vec) T5 (by omega) k 0 r0 (by omega) (fun a ha h0=>by
     rw[Tg,XY]
     have:=(b6 a ha).2
     exact⟨by simp only[r0,List.length_replicate];omega,this⟩)
    rw[List.drop_zero,Tg]at e2
    simp only[tL,List.length_map]
    exact e2.trans h4
   rw[IU,tS,cP]
   cases hc:Nat.beq (aF x.1.op) 27
   ·exact cE false (by unfold jV;rw[hc];rfl)
   ·obtain⟨a,b,c,Ug⟩:∃a b c,x.1.args=[a,b,c]:=by
     match x.1.args,Uh (Nat.eq_of_beq_eq_true hc)with
     | [a,b,c],_=>exact⟨a,b,c,rfl⟩
    have XH:jV x.1 vec=(au b 0&&(au c 0&&aj vec x.1.n)):=by
     unfold jV;rw[hc,Ug];rfl
    rw[XH]at cE
    rw[Ug]at cE ⊢
    simp only[tL,List.map_cons,List.map_nil,nth,tI,List.length_cons,List.length_nil,cond_true]
    rw[dF (show(1:Int)<((0+1+1+1:Nat):Int)by decide),dF (show(2:Int)<((0+1+1+1:Nat):Int)by decide)]
    cases hb:au b 0
    ·exact cE false (by rw[hb];rfl)
    ·cases AB:au c 0
     ·exact cE false (by rw[hb,AB];rfl)
     ·exact cE (aj vec x.1.n) (by rw[hb,AB];rfl)
  ·have:j=n.nodes.length:=by omega
   subst this
   refine⟨now,fG,Zv,JL,fun i hi=>hI i hi hi, ?_⟩
   simp only[TT,ab,aa,Ty.eq,hj]
theorem f20 (hE:mo E) (hk:KK+5≤k) {n:Net} {vec:Int} (hl:n.nodes.length≤2000) (dE:∀x∈n.nodes,x.1.args.length≤1000) (Dz:∀x∈n.nodes,aG n.nodes x=true):
  ∃now fG:List (List Bool),now.length=n.nodes.length∧fG.length=n.nodes.length∧(∀i (hi:i<n.nodes.length),CR n.nodes.length n.nodes[i] vec (now.getD i []) (fG.getD i []))∧
   E k 20 [cn n,aI vec]=some ([.pv (.st 62) (.agg [.sl (now.map bl), .sl (fG.map bl)])],[]):=by
 obtain⟨j,hj,e⟩:=hE.at hk 20 [cn n,aI vec] rfl rfl
 have kV:=bN
 obtain⟨now,fG,h1,h2,h3,h4⟩:=Qb hE (v1:=iv n.ins) (v2:= .sl (n.nodes.map af)) (v3:=bH n.outs) (w4:=[]) (w5:=[]) hj (vec:=vec) hl dE Dz j 0 (List.replicate n.nodes.length []) (List.replicate n.nodes.length []) (by omega) (by omega) (by simp) (by simp) (fun i hi hh=>by omega)
 refine⟨now,fG,h1,h2,h3, ?_⟩
 rw[e,R20]
 simp only[TT,ab,aa,Ty.eq]
 rw[b7 (show(n.nodes.length:Int)≤140737488355328 by omega),b7 (show(n.nodes.length:Int)≤(n.nodes.length:Int)by omega),b7 (show((24:Nat):Int)* (n.nodes.length:Int)≤140737488355328 by omega)]
 rw[List.map_replicate]at h4
 exact h4
end
end Go.V
namespace Go.V
open Go.Proofs
def At (p:eN) (i k:Nat) (x:Int):Prop:=∃l,p.loops[i]? =some l∧l.nodes[k]? =some x
def o3 (p:eN) (i:Nat):Bool:=match p.loops[i]? with | some l=>l.ni | none=>false
structure gv (n:Net) (p:eN):Prop where
 Jz:∀i k x,At p i k x→0≤x∧x<n.nodes.length
 Us:∀i k i' k' x,At p i k x→At p i' k' x→i=i'∧k=k'
 all:∀x:Nat,x<n.nodes.length→∃i k,At p i k (x:Int)
 rings:p.rings=bV p.ay p.bG 0 n.nodes
 now:∀(x:Nat) (hx:x<n.nodes.length) (y:Int) (i k i' k':Nat),y∈fM n.nodes[x].1→At p i k (x:Int)→At p i' k' y→i'<i∨(i'=i∧k'<k)
 fG:∀(x:Nat) (hx:x<n.nodes.length) (y:Int) (i k i' k':Nat),y∈fe n.nodes[x].1 p.ay→At p i k (x:Int)→At p i' k' y→i'<i∨(i'=i∧(k'<k∨o3 p i=true))
def Pr (I K i k:Nat):Prop:=i<I∨(i=I∧k<K)
structure py (p:eN) (N I K:Nat) (lo pl:List Int) (tw:Bool):Prop where
 ll:lo.length=N
 lp:pl.length=N
 Jz:∀i k x,Pr I K i k→At p i k x→0≤x∧x<N
 fwd:tw=false→∀i k x,Pr I K i k→At p i k x→lo.getD x.toNat 0=i∧pl.getD x.toNat 0=k
 bwd:∀x:Nat,x<N→lo.getD x 0= -1∨∃i k,At p i k (x:Int)∧lo.getD x 0=i∧pl.getD x 0=k
section
variable {p:eN} {N I K:Nat} {lo pl:List Int} {tw:Bool}
theorem py.start (hl:lo.length=N) (hp:pl.length=N) (h:∀x,x<N→lo.getD x 0= -1):py p N 0 0 lo pl false:=by
 refine⟨hl,hp,fun i k x hP=> ?_,fun _ i k x hP=> ?_,fun x hx=> .inl (h x hx)⟩<;>(rcases hP with h | ⟨_,h⟩<;>omega)
theorem py.next {l:Loop} (h:py p N I K lo pl tw) (hl:p.loops[I]? =some l) (hK:l.nodes.length≤K):py p N (I+1) 0 lo pl tw:=by
 have key:∀i k x,Pr (I+1) 0 i k→At p i k x→Pr I K i k:=by
  intro i k x hP hA
  rcases hP with hP | ⟨_,hP⟩
  ·by_cases e:i=I
   ·subst e
    obtain⟨l',h1,h2⟩:=hA
    rw[hl]at h1
    cases h1
    have:=(List.getElem?_eq_some_iff.1 h2).1
    exact .inr ⟨rfl,by omega⟩
   ·exact .inl (by omega)
  ·omega
 exact⟨h.ll,h.lp,fun i k x hP hA=>h.Jz i k x (key i k x hP hA) hA,fun ht i k x hP hA=>h.fwd ht i k x (key i k x hP hA) hA,h.bwd⟩
theorem py.step {x:Int} (h:py p N I K lo pl tw) (hA:At p I K x) (h0:0≤x) (h1:x<N):py p N I (K+1) (lo.set x.toNat I) (pl.set x.toNat K) (tw|| aj 0 (lo.getD x.toNat 0)):=by
 have Br:x.toNat<lo.length:=by rw[h.ll];omega
 have qO:x.toNat<pl.length:=by rw[h.lp];omega
 have key:∀i k,Pr I (K+1) i k→Pr I K i k∨(i=I∧k=K):=by
  intro i k hP
  rcases hP with hP | ⟨e,hP⟩
  ·exact .inl (.inl hP)
  ·by_cases e2:k=K
   ·exact .inr ⟨e,e2⟩
   ·exact .inl (.inr ⟨e,by omega⟩)
 have same:∀y,At p I K y→y=x:=by
  intro y hy
  obtain⟨l,e1,e2⟩:=hA
  obtain⟨l',e3,e4⟩:=hy
  rw[e1]at e3;cases e3
  rw[e2]at e4;cases e4;rfl
 refine⟨by rw[List.length_set];exact h.ll,by rw[List.length_set];exact h.lp,fun i k y hP hy=> ?_,fun ht i k y hP hy=> ?_,fun y hy=> ?_⟩
 ·rcases key i k hP with hP | ⟨rfl,rfl⟩
  ·exact h.Jz i k y hP hy
  ·rw[same y hy];exact⟨h0,h1⟩
 ·rw[Bool.or_eq_false_iff]at ht
  rw[gf,gf]
  rcases key i k hP with hP | ⟨rfl,rfl⟩
  ·obtain⟨f1,f2⟩:=h.fwd ht.1 i k y hP hy
   have dc:¬x.toNat=y.toNat:=by
    intro he
    rw[he,f1]at ht
    have:=ht.2
    rw[b7 (show(0:Int)≤(i:Int)by omega)]at this
    cases this
   rw[if_neg (fun hh=>dc hh.1),if_neg (fun hh=>dc hh.1)]
   exact⟨f1,f2⟩
  ·rw[same y hy,if_pos ⟨rfl,Br⟩,if_pos ⟨rfl,qO⟩]
   exact⟨rfl,rfl⟩
 ·rw[gf,gf]
  by_cases e:x.toNat=y
  ·right
   refine⟨I,K, ?_, ?_, ?_⟩
   ·rw[show(y:Int)=x by omega];exact hA
   ·rw[if_pos ⟨e,by omega⟩]
   ·rw[if_pos ⟨e,by omega⟩]
  ·rw[if_neg (fun hh=>e hh.1),if_neg (fun hh=>e hh.1)]
   exact h.bwd y hy
end
def Qc (lo pl:List Int) (x y:Nat):Bool:=aj 0 (lo.getD y 0)&&(au (lo.getD y 0) (lo.getD x 0)|| (ak (lo.getD y 0) (lo.getD x 0)&&au (pl.getD y 0) (pl.getD x 0)))
def OF (p:eN) (i:Int):Bool:=o3 p i.toNat
def okB (p:eN) (now fG:List (List Bool)) (lo pl:List Int) (x y:Nat):Bool:=
 (!(now.getD x []).getD y false|| Qc lo pl x y)&&(!(fG.getD x []).getD y false|| (Qc lo pl x y|| (ak (lo.getD y 0) (lo.getD x 0)&&OF p (lo.getD x 0))))
theorem MO {n:Net} {p:eN} {now fG:List (List Bool)} {lo pl:List Int} (h:py p n.nodes.length p.loops.length 0 lo pl false) (hr:p.rings=bV p.ay p.bG 0 n.nodes)
  (tN:∀i (hi:i<n.nodes.length),CR n.nodes.length n.nodes[i] p.ay (now.getD i []) (fG.getD i [])) (Dz:∀x∈n.nodes,aG n.nodes x=true)
  (fy:∀x,x<n.nodes.length→0≤lo.getD x 0) (br:∀x y,x<n.nodes.length→y<n.nodes.length→okB p now fG lo pl x y=true):gv n p:=by
 have Zw:∀i k x,At p i k x→Pr p.loops.length 0 i k:=by
  rintro i k x ⟨l,h1,_⟩
  exact .inl (List.getElem?_eq_some_iff.1 h1).1
 have hf:∀i k x,At p i k x→lo.getD x.toNat 0=i∧pl.getD x.toNat 0=k:=fun i k x hA=>h.fwd rfl i k x (Zw i k x hA) hA
 have RI:∀i k x,At p i k x→0≤x∧x<n.nodes.length:=fun i k x hA=>h.Jz i k x (Zw i k x hA) hA
 have ah:∀(x:Nat) (y:Int) (i k i' k':Nat),At p i k (x:Int)→At p i' k' y→Qc lo pl x y.toNat=true→i'<i∨(i'=i∧k'<k):=by
  intro x y i k i' k' hx hy ha
  obtain⟨a1,a2⟩:=hf _ _ _ hx
  obtain⟨b1,b2⟩:=hf _ _ _ hy
  rw[Int.toNat_natCast]at a1 a2
  unfold Qc at ha
  rw[a1,a2,b1,b2]at ha
  simp only[Bool.and_eq_true,Bool.or_eq_true]at ha
  rcases ha.2 with h1 | ⟨h1,h2⟩
  ·have:=sG h1;left;omega
  ·have:=dW h1;have:=sG h2;right;omega
 refine⟨RI,fun i k i' k' x hA qc=> ?_,fun x hx=> ?_,hr,fun x hx y i k i' k' hy hA qc=> ?_,fun x hx y i k i' k' hy hA qc=> ?_⟩
 ·obtain⟨a1,a2⟩:=hf _ _ _ hA
  obtain⟨b1,b2⟩:=hf _ _ _ qc
  rw[a1]at b1;rw[a2]at b2
  omega
 ·rcases h.bwd x hx with h1 | ⟨i,k,h1,_⟩
  ·have:=fy x hx;omega
  ·exact⟨i,k,h1⟩
 ·have hyr:=RI _ _ _ qc
  have hk:=br x y.toNat hx (by omega)
  unfold okB at hk
  rw[(tN x hx).now y hy]at hk
  simp only[Bool.not_true,Bool.false_or,Bool.and_eq_true]at hk
  exact ah x y i k i' k' hA qc hk.1
 ·have hyr:=RI _ _ _ qc
  have hk:=br x y.toNat hx (by omega)
  unfold okB at hk
  rw[(tN x hx).fG y hy]at hk
  simp only[Bool.not_true,Bool.false_or,Bool.and_eq_true,Bool.or_eq_true]at hk
  rcases hk.2 with h1 | ⟨h1,h2⟩
  ·rcases ah x y i k i' k' hA qc h1 with h3 | ⟨h3,h4⟩
   ·exact .inl h3
   ·exact .inr ⟨h3, .inl h4⟩
  ·obtain⟨a1,a2⟩:=hf _ _ _ hA
   obtain⟨b1,b2⟩:=hf _ _ _ qc
   rw[Int.toNat_natCast]at a1
   have e:=dW h1
   rw[a1,b1]at e
   unfold OF at h2
   rw[a1,Int.toNat_natCast]at h2
   exact .inr ⟨by omega, .inr h2⟩
end Go.V
namespace Go.V
open Go.Proofs
structure Gd (n:Net):Prop where
 l:n.nodes.length≤2000
 args:∀x∈n.nodes,x.1.args.length≤1000
 linked:∀x∈n.nodes,aG n.nodes x=true
 dl:∀x∈n.nodes,aF x.1.op=27→0≤x.1.n∧x.1.n≤4096
 ye:∀x∈n.nodes,aF x.1.op=27→x.1.args.length=3
theorem OG {ins:Int} {x:Node} (h:aN ins x=true) (hc:aF x.1.op=27):0≤x.1.n∧x.1.n≤4096:=by
 unfold aN ax aJ at h
 rw[hc]at h
 rw[Bool.and_eq_true]at h
 have h2:(!au x.1.n 1&&((ak (Ct 27) 0)&&(x.1.ao.all eB&&((aj 0 x.1.n&&aj x.1.n 4096)&&_))))=true:=h.2
 simp only[Bool.and_eq_true]at h2
 exact⟨gT h2.2.2.2.1.1,gT h2.2.2.2.1.2⟩
theorem MP {n:Net} (ho:cu n) (hs:jU n) (hz:n.size≤1000000) (hv:fL n=true):Gd n:=by
 rw[CJ ho hz]at hv
 unfold wk at hv
 rw[bJ (n:=(n.size:Int)) (by omega) (by omega)]at hv
 simp only[Bool.and_eq_true,Bool.not_eq_true']at hv
 have eC:=cM hv.1
 have P0:=hv.2.1
 rw[qt]at P0
 simp only[Bool.and_eq_true]at P0
 have hr:=oX P0.2.1
 have hl:=P0.2.2.1
 rw[List.all_eq_true]at hl
 have:=n.size_eq
 exact⟨by omega,fun x hx=>(hs.nd x hx).1,hl,fun x hx hc=>OG (hr x hx) hc,fun x hx=>(o0 (hl x hx)).1⟩
theorem lC {l:List Int} {i:Nat} (h:i<l.length):nth default (l.map iv) i=iv (l.getD i 0):=by
 rw[aK _ _ _ _ h,List.getD_eq_getElem?_getD,List.getElem?_eq_getElem h];rfl
theorem Fg (l:List Int) (i:Nat) (a:Int):(l.map iv).set i (iv a)=(l.set i a).map iv:=(List.map_set (f:=iv)).symm
def Ar (G:Prop) (r:R):Prop:=∃e:Int,r=rI e∧(e=0→G)
theorem Ar.bad {G:Prop} {r:R} {e:Int} (h:r=rI e) (he:e≠0):Ar G r:=⟨e,h,fun hh=>absurd hh he⟩
section
variable {call:aw} {n:Net} {p:eN} {G:Prop} {k m1:Nat} {v0 v1 v2 v3 v4 v5 v6 v9 v10 v11 v12 v13 v14 v15 v16 v17 v18:PV}
theorem MQ (hN:n.nodes.length≤2000) {I:Nat} {l:Loop} (hI:p.loops[I]? =some l) (qd:l.nodes.length<bf) (Ut:I<1000000000000000)
  (jj:∀(lo pl:List Int) (tw:Bool),py p n.nodes.length (I+1) 0 lo pl tw→Ar G (sB call k m1 (iv n.ins) (.sl (n.nodes.map af)) (bH n.outs) (.sl (p.loops.map Loop.pv)) (.sl (p.rings.map Ring.pv)) (iv p.ay) (.bool p.bG) (lo.map iv) (pl.map iv) (.bool tw) v13 v14 (iv ((I+1:Nat):Int)))):
  ∀(f K:Nat) (lo pl:List Int) (tw:Bool),l.nodes.length-K<f→py p n.nodes.length I K lo pl tw→
   Ar G (zY call k m1 f (iv n.ins) (.sl (n.nodes.map af)) (bH n.outs) (.sl (p.loops.map Loop.pv)) (.sl (p.rings.map Ring.pv)) (iv p.ay) (.bool p.bG) (lo.map iv) (pl.map iv) (.bool tw) (iv I) v11 v12 v13 v14 (iv I) (bH l.nodes) (iv l.nodes.length) (iv K))
 | 0,K,lo,pl,tw,h,_=>by omega
 | f+1,K,lo,pl,tw,h,fS=>by
  unfold bf at qd
  rw[Ch]
  by_cases hK:K<l.nodes.length
  ·have hn:nth default (l.nodes.map iv) K=iv l.nodes[K]:=aK _ _ _ _ hK
   have hA:At p I K l.nodes[K]:=⟨l,hI,List.getElem?_eq_getElem hK⟩
   simp only[TT,ab,aa,Ty.eq,hK,hn]
   generalize l.nodes[K]=x at*
   cases h0:au x 0
   ·cases h1:aj n.nodes.length x
    ·have Nx:=cM h0
     have xt:=jG h1
     obtain⟨a,rfl⟩:∃a:Nat,x=a:=⟨x.toNat,by omega⟩
     have jw:=fS.step hA Nx xt
     rw[Int.toNat_natCast]at jw
     have AD:a<lo.length:=by rw[fS.ll];omega
     have UU:a<pl.length:=by rw[fS.lp];omega
     have ih:=MQ hN hI qd Ut jj f (K+1) _ _ _ (by omega) jw
     simp only[cond_false,TT,ab,aa,Ty.eq,AD,UU,lC AD,IV,aq (show K<4611686018427387904 by omega)]
     rw[Fg,Fg]
     cases tw
     ·exact ih
     ·exact ih
    ·exact .bad (by simp only[cond_true,cond_false,yb]) (show(2:Int)≠0 by decide)
   ·exact .bad (by simp only[cond_true,yb]) (show(2:Int)≠0 by decide)
  ·have:=jj lo pl tw (fS.next hI (by omega))
   simp only[TT,ab,aa,Ty.eq,hK,aq (show I<4611686018427387904 by omega)]
   exact this
theorem MR (hk:KK≤k) (hN:n.nodes.length≤2000) (hp:dH p)
  (jj:∀(lo pl:List Int) (tw:Bool),py p n.nodes.length p.loops.length 0 lo pl tw→Ar G (vS call k k (iv n.ins) (.sl (n.nodes.map af)) (bH n.outs) (.sl (p.loops.map Loop.pv)) (.sl (p.rings.map Ring.pv)) (iv p.ay) (.bool p.bG) (lo.map iv) (pl.map iv) (.bool tw) (.sl (p.rings.map Ring.pv)) (iv p.rings.length) (iv (0:Nat)))):
  ∀(f I:Nat) (lo pl:List Int) (tw:Bool),p.loops.length-I<f→I≤p.loops.length→py p n.nodes.length I 0 lo pl tw→
   Ar G (sB call k f (iv n.ins) (.sl (n.nodes.map af)) (bH n.outs) (.sl (p.loops.map Loop.pv)) (.sl (p.rings.map Ring.pv)) (iv p.ay) (.bool p.bG) (lo.map iv) (pl.map iv) (.bool tw) (.sl (p.loops.map Loop.pv)) (iv p.loops.length) (iv I))
 | 0,I,lo,pl,tw,h,_,_=>by omega
 | f+1,I,lo,pl,tw,h,hI0,fS=>by
  have KI:=hp.l1
  have kV:=bN
  unfold bf at KI
  rw[Cl]
  by_cases hI:I<p.loops.length
  ·have hn:nth default (p.loops.map Loop.pv) I=p.loops[I].pv:=aK _ _ _ _ hI
   have qd:=hp.l2 _ (bz hI)
   have RJ:=qd
   unfold bf at RJ
   simp only[TT,ab,aa,Ty.eq,hI,hn]
   exact MQ hN (List.getElem?_eq_getElem hI) qd (by omega) (fun lo pl tw h'=>MR hk hN hp jj f (I+1) lo pl tw (by omega) (by omega) h') k 0 lo pl tw (by omega) fS
  ·have:I=p.loops.length:=by omega
   subst this
   have:=jj lo pl tw fS
   simp only[TT,ab,aa,Ty.eq,hI]
   exact this
theorem MS {lo pl:List Int} {want:List Ring} (hlen:want.length=p.rings.length) (hw:want.length≤100000)
  (jj:p.rings=want→Ar G (z7 call k (iv n.ins) (.sl (n.nodes.map af)) (bH n.outs) (.sl (p.loops.map Loop.pv)) (.sl (p.rings.map Ring.pv)) (iv p.ay) (.bool p.bG) (lo.map iv) (pl.map iv) v9 v10)):
  ∀(f j:Nat),want.length-j<f→want.take j=p.rings.take j→
   Ar G (rp call k f (iv n.ins) (.sl (n.nodes.map af)) (bH n.outs) (.sl (p.loops.map Loop.pv)) (.sl (p.rings.map Ring.pv)) (iv p.ay) (.bool p.bG) (lo.map iv) (pl.map iv) v9 v10 (want.map Ring.pv) (iv want.length) (iv j))
 | 0,j,h,_=>by omega
 | f+1,j,h,ht=>by
  rw[xl]
  by_cases hj:j<want.length
  ·have wM:j<p.rings.length:=by omega
   have hn:nth default (want.map Ring.pv) j=want[j].pv:=aK _ _ _ _ hj
   have Rx:nth default (p.rings.map Ring.pv) j=p.rings[j].pv:=aK _ _ _ _ wM
   simp only[TT,ab,aa,Ty.eq,hj,wM,hn,Rx,aq (show j<4611686018427387904 by omega)]
   cases he:(ak want[j].node p.rings[j].node&&ak want[j].size p.rings[j].size)
   ·exact .bad (by simp only[Bool.not_false,cond_true]) (show(150:Int)≠0 by decide)
   ·rw[Bool.and_eq_true]at he
    have e1:=dW he.1
    have e2:=dW he.2
    have e:want[j]=p.rings[j]:=by
     generalize want[j]=a at*
     generalize p.rings[j]=b at*
     cases a;cases b
     simp only at e1 e2
     rw[e1,e2]
    simp only[Bool.not_true,cond_false]
    refine MS hlen hw jj f (j+1) (by omega) ?_
    rw[List.take_add_one,List.take_add_one,ht,List.getElem?_eq_getElem hj,List.getElem?_eq_getElem wM,e]
  ·have:p.rings=want:=by
    rw[List.take_of_length_le (by omega),List.take_of_length_le (by omega)]at ht
    exact ht.symm
   simp only[TT,ab,aa,Ty.eq,hj]
   exact jj this
end
section
variable {call:aw} {n:Net} {p:eN} {G:Prop} {k m1:Nat} {now fG:List (List Bool)} {lo pl:List Int}
theorem RK (hp:dH p) {x y:Nat} (hx:x<n.nodes.length) (hy:y<n.nodes.length) (h1:now.length=n.nodes.length) (h2:fG.length=n.nodes.length) (h3:(now.getD x []).length=n.nodes.length) (h4:(fG.getD x []).length=n.nodes.length)
  (qd:lo.length=n.nodes.length) (Uu:0≤lo.getD x 0∧lo.getD x 0<p.loops.length) {f:Nat}
  (jj:okB p now fG lo pl x y=true→Ar G (lN call k m1 f (iv n.ins) (.sl (n.nodes.map af)) (bH n.outs) (.sl (p.loops.map Loop.pv)) (.sl (p.rings.map Ring.pv)) (iv p.ay) (.bool p.bG) (lo.map iv) (pl.map iv) (.sl (now.map bl)) (.sl (fG.map bl)) (iv x) (iv n.nodes.length) (iv x) (iv n.nodes.length) (iv y))):
  Ar G (fx call k m1 f (iv n.ins) (.sl (n.nodes.map af)) (bH n.outs) (.sl (p.loops.map Loop.pv)) (.sl (p.rings.map Ring.pv)) (iv p.ay) (.bool p.bG) (lo.map iv) (pl.map iv) (.sl (now.map bl)) (.sl (fG.map bl)) (iv x) (iv y) (.bool (Qc lo pl x y)) (iv n.nodes.length) (iv x) (iv n.nodes.length) (iv y)):=by
 have Zx:x<now.length:=by omega
 have XZ:x<fG.length:=by omega
 have SS:y<(now.getD x []).length:=by omega
 have hyb:y<(fG.getD x []).length:=by omega
 have Br:x<lo.length:=by omega
 have Uv:y<lo.length:=by omega
 obtain⟨i,hi⟩:∃i:Nat,lo.getD x 0=i:=⟨(lo.getD x 0).toNat,by omega⟩
 have FB:i<p.loops.length:=by omega
 have hn:nth default (p.loops.map Loop.pv) i=p.loops[i].pv:=aK _ _ _ _ FB
 have X0:OF p (lo.getD x 0)=p.loops[i].ni:=by
  unfold OF o3
  rw[hi,Int.toNat_natCast,List.getElem?_eq_getElem FB]
 unfold okB at jj
 rw[X0,hi]at jj
 rw[I0]
 simp only[TT,ab,aa,Ty.eq,Zx,XZ,SS,hyb,Br,Uv,FB,qv Zx,qv XZ,qq,lC Br,lC Uv,hi,hn,IZ,IX]
 generalize (now.getD x []).getD y false=b1 at*
 generalize (fG.getD x []).getD y false=b2 at*
 generalize Qc lo pl x y=b3 at*
 generalize ak (lo.getD y 0) (i:Int)=b4 at*
 generalize p.loops[i].ni=b5 at*
 cases b1<;>cases b2<;>cases b3<;>cases b4<;>cases b5<;>first
  | exact .bad rfl (show(150:Int)≠0 by decide)
  | exact jj rfl
theorem MT (hp:dH p) {x:Nat} (hN:n.nodes.length≤2000) (hx:x<n.nodes.length) (h1:now.length=n.nodes.length) (h2:fG.length=n.nodes.length) (h3:(now.getD x []).length=n.nodes.length) (h4:(fG.getD x []).length=n.nodes.length)
  (qd:lo.length=n.nodes.length) (OS:pl.length=n.nodes.length) (Uu:0≤lo.getD x 0∧lo.getD x 0<p.loops.length)
  (jj:(∀y,y<n.nodes.length→okB p now fG lo pl x y=true)→Ar G (vR call k m1 (iv n.ins) (.sl (n.nodes.map af)) (bH n.outs) (.sl (p.loops.map Loop.pv)) (.sl (p.rings.map Ring.pv)) (iv p.ay) (.bool p.bG) (lo.map iv) (pl.map iv) (.sl (now.map bl)) (.sl (fG.map bl)) (iv n.nodes.length) (iv ((x+1:Nat):Int)))):
  ∀(f y:Nat),n.nodes.length-y<f→(∀y',y'<y→okB p now fG lo pl x y'=true)→
   Ar G (vQ call k m1 f (iv n.ins) (.sl (n.nodes.map af)) (bH n.outs) (.sl (p.loops.map Loop.pv)) (.sl (p.rings.map Ring.pv)) (iv p.ay) (.bool p.bG) (lo.map iv) (pl.map iv) (.sl (now.map bl)) (.sl (fG.map bl)) (iv x) (iv n.nodes.length) (iv x) (iv n.nodes.length) (iv y))
 | 0,y,h,_=>by omega
 | f+1,y,h,br=>by
  rw[Ci]
  by_cases hy:y<n.nodes.length
  ·have Br:x<lo.length:=by omega
   have Uv:y<lo.length:=by omega
   have qO:x<pl.length:=by omega
   have hyp:y<pl.length:=by omega
   have ih:okB p now fG lo pl x y=true→Ar G (vQ call k m1 f (iv n.ins) (.sl (n.nodes.map af)) (bH n.outs) (.sl (p.loops.map Loop.pv)) (.sl (p.rings.map Ring.pv)) (iv p.ay) (.bool p.bG) (lo.map iv) (pl.map iv) (.sl (now.map bl)) (.sl (fG.map bl)) (iv x) (iv n.nodes.length) (iv x) (iv n.nodes.length) (iv ((y+1:Nat):Int))):=fun hk=>
    MT hp hN hx h1 h2 h3 h4 qd OS Uu jj f (y+1) (by omega) (fun y' rM=>by
     by_cases e:y'=y
     ·subst e;exact hk
     ·exact br y' (by omega))
   have hJ:∀b,b=Qc lo pl x y→Ar G (fx call k m1 f (iv n.ins) (.sl (n.nodes.map af)) (bH n.outs) (.sl (p.loops.map Loop.pv)) (.sl (p.rings.map Ring.pv)) (iv p.ay) (.bool p.bG) (lo.map iv) (pl.map iv) (.sl (now.map bl)) (.sl (fG.map bl)) (iv x) (iv y) (.bool b) (iv n.nodes.length) (iv x) (iv n.nodes.length) (iv y)):=by
    rintro b rfl
    refine RK hp hx hy h1 h2 h3 h4 qd Uu (fun hk=> ?_)
    rw[IY,tI,aq (show y<4611686018427387904 by omega)]
    exact ih hk
   unfold Qc at hJ
   simp only[TT,ab,aa,Ty.eq,hy,Br,Uv,qO,hyp,lC Br,lC Uv,lC qO,lC hyp]
   generalize au (pl.getD y 0) (pl.getD x 0)=b4 at*
   cases g1:aj 0 (lo.getD y 0)<;>cases g2:au (lo.getD y 0) (lo.getD x 0)<;>cases g3:ak (lo.getD y 0) (lo.getD x 0)<;>rw[g1,g2,g3]at hJ<;>exact hJ _ rfl
  ·have:=jj (fun y' rM=>br y' (by omega))
   simp only[TT,ab,aa,Ty.eq,hy,aq (show x<4611686018427387904 by omega)]
   exact this
theorem MU (hk:KK≤k) (hp:dH p) (hN:n.nodes.length≤2000) (h1:now.length=n.nodes.length) (h2:fG.length=n.nodes.length) (h3:∀x,x<n.nodes.length→(now.getD x []).length=n.nodes.length∧(fG.getD x []).length=n.nodes.length)
  (fS:py p n.nodes.length p.loops.length 0 lo pl false)
  (hG:(∀x,x<n.nodes.length→0≤lo.getD x 0)→(∀x y,x<n.nodes.length→y<n.nodes.length→okB p now fG lo pl x y=true)→G):
  ∀(f x:Nat),n.nodes.length-x<f→(∀x',x'<x→0≤lo.getD x' 0)→(∀x' y,x'<x→y<n.nodes.length→okB p now fG lo pl x' y=true)→
   Ar G (vR call k f (iv n.ins) (.sl (n.nodes.map af)) (bH n.outs) (.sl (p.loops.map Loop.pv)) (.sl (p.rings.map Ring.pv)) (iv p.ay) (.bool p.bG) (lo.map iv) (pl.map iv) (.sl (now.map bl)) (.sl (fG.map bl)) (iv n.nodes.length) (iv x))
 | 0,x,h,_,_=>by omega
 | f+1,x,h,Ho,br=>by
  have kV:=bN
  rw[Cj]
  by_cases hx:x<n.nodes.length
  ·have Br:x<lo.length:=by rw[fS.ll];exact hx
   simp only[TT,ab,aa,Ty.eq,hx,Br,lC Br]
   cases g:au (lo.getD x 0) 0
   ·have g':=cM g
    have Uu:0≤lo.getD x 0∧lo.getD x 0<p.loops.length:=by
     refine⟨g', ?_⟩
     rcases fS.bwd x hx with h5 | ⟨i,k,⟨l,h5,_⟩,h6,_⟩
     ·omega
     ·have:=(List.getElem?_eq_some_iff.1 h5).1
      omega
    obtain⟨h3a,h3b⟩:=h3 x hx
    exact MT hp hN hx h1 h2 h3a h3b fS.ll fS.lp Uu (fun hy=>MU hk hp hN h1 h2 h3 fS hG f (x+1) (by omega) (fun x' tZ=>by
     by_cases e:x'=x
     ·subst e;exact g'
     ·exact Ho x' (by omega)) (fun x' y tZ rM=>by
     by_cases e:x'=x
     ·subst e;exact hy y rM
     ·exact br x' y (by omega) rM)) k 0 (by omega) (fun y' rM=>by omega)
   ·exact .bad rfl (show(150:Int)≠0 by decide)
  ·refine⟨0, ?_,fun _=>hG (fun x' tZ=>Ho x' (by omega)) (fun x' y tZ rM=>br x' y (by omega) rM)⟩
   simp only[TT,ab,aa,Ty.eq,hx]
end
section
variable {E:Nat→aw} {n:Net} {p:eN} {k:Nat}
theorem MV (hE:mo E) (hk:KK+5≤k) (hg:Gd n) (hp:dH p) (hv:1≤p.ay∧p.ay≤64) {lo pl:List Int} {tw:Bool} (fS:py p n.nodes.length p.loops.length 0 lo pl tw):
  ∀(f j:Nat),p.rings.length-j<f→Ar (gv n p) (vS (E k) k f (iv n.ins) (.sl (n.nodes.map af)) (bH n.outs) (.sl (p.loops.map Loop.pv)) (.sl (p.rings.map Ring.pv)) (iv p.ay) (.bool p.bG) (lo.map iv) (pl.map iv) (.bool tw) (.sl (p.rings.map Ring.pv)) (iv p.rings.length) (iv j))
 | 0,j,h=>by omega
 | f+1,j,h=>by
  have kV:=bN
  have KC:=hp.r1
  unfold bf at KC
  rw[Ck]
  by_cases hj:j<p.rings.length
  ·have hn:nth default (p.rings.map Ring.pv) j=p.rings[j].pv:=aK _ _ _ _ hj
   have ih:=MV hE hk hg hp hv fS f (j+1) (by omega)
   simp only[TT,ab,aa,Ty.eq,hj,hn,IW,aq (show j<4611686018427387904 by omega)]
   cases au p.rings[j].node 0
   ·cases aj n.nodes.length p.rings[j].node
    ·exact ih
    ·exact .bad rfl (show(2:Int)≠0 by decide)
   ·exact .bad rfl (show(2:Int)≠0 by decide)
  ·obtain⟨now,fG,h1,h2,h3,h4⟩:=f20 hE hk (n:=n) (vec:=p.ay) hg.l hg.args hg.linked
   have e25:=f25 hE (show KK+2≤k by omega) (n:=n) (vec:=p.ay) (pw:=p.bG) hv hg.l hg.dl
   have c0:(PV.agg [.sl (now.map bl), .sl (fG.map bl)]).cell 0= .sl (now.map bl):=rfl
   have c1:(PV.agg [.sl (now.map bl), .sl (fG.map bl)]).cell 1= .sl (fG.map bl):=rfl
   have hwl:(bV p.ay p.bG 0 n.nodes).length≤n.nodes.length:=by
    have:∀(l:List Node) (j:Nat),(bV p.ay p.bG j l).length≤l.length:=by
     intro l
     induction l with
     | nil=>intro j;simp[bV]
     | cons x l ih=>
      intro j
      rw[bV]
      have:=ih (j+1)
      cases Nat.beq (aF x.1.op) 27<;>simp<;>omega
    exact this _ _
   have hl:=hg.l
   simp only[tI,tL,List.length_map,ER,hj,decide_false,cond_false,eA,h4,e25,ab,fU,cB,aa,Ty.eq,Nat.beq_refl,cond_true,c0,c1]
   cases tw
   ·simp only[tB,cond_false]
    cases he:ak (((bV p.ay p.bG 0 n.nodes).length:Nat):Int) ((p.rings.length:Nat):Int)
    ·exact .bad (by rw[tu];rfl) (show(150:Int)≠0 by decide)
    ·have he:=dW he
     simp only[Bool.not_true,cond_false]
     refine MS (by omega) (by omega) (fun hr=> ?_) k 0 (by omega) rfl
     rw[I1,tL,List.length_map]
     exact MU (by omega) hp hg.l h1 h2 (fun x hx=>⟨(h3 x hx).ln,(h3 x hx).lb⟩) fS (fun h5 h6=>MO fS hr h3 hg.linked h5 h6) k 0 (by omega) (fun x' tZ=>by omega) (fun x' y tZ=>by omega)
   ·exact .bad (by simp only[tB,cond_true,tu]) (show(150:Int)≠0 by decide)
theorem Qd {call:aw} {pl:List Int} {G:Prop} (hN:n.nodes.length≤2000)
  (jj:∀lo:List Int,lo.length=n.nodes.length→(∀x,x<n.nodes.length→lo.getD x 0= -1)→Ar G (sB call k k (iv n.ins) (.sl (n.nodes.map af)) (bH n.outs) (.sl (p.loops.map Loop.pv)) (.sl (p.rings.map Ring.pv)) (iv p.ay) (.bool p.bG) (lo.map iv) (pl.map iv) (.bool false) (.sl (p.loops.map Loop.pv)) (iv p.loops.length) (iv (0:Nat)))):
  ∀(f j:Nat) (lo:List Int),n.nodes.length-j<f→lo.length=n.nodes.length→(∀x,x<j→lo.getD x 0= -1)→Ar G (GG call k f (iv n.ins) (.sl (n.nodes.map af)) (bH n.outs) (.sl (p.loops.map Loop.pv)) (.sl (p.rings.map Ring.pv)) (iv p.ay) (.bool p.bG) (lo.map iv) (pl.map iv) (iv n.nodes.length) (iv j))
 | 0,j,lo,h,_,_=>by omega
 | f+1,j,lo,h,hl,hI=>by
  rw[EI]
  by_cases hj:j<n.nodes.length
  ·have wK:j<lo.length:=by omega
   have ih:=Qd hN jj f (j+1) (lo.set j (-1)) (by omega) (by rw[List.length_set];exact hl) (fun x hx=>by
    rw[gf]
    by_cases e:j=x
    ·rw[if_pos ⟨e,by omega⟩]
    ·rw[if_neg (fun hh=>e hh.1)];exact hI x (by omega))
   simp only[TT,ab,aa,Ty.eq,hj,wK,aq (show j<4611686018427387904 by omega)]
   rw[Fg]
   exact ih
  ·have:=jj lo hl (fun x hx=>hI x (by omega))
   simp only[TT,ab,aa,Ty.eq,hj]
   exact this
theorem f14 (hE:mo E) (hk:KK+n.dp+20≤k) (ho:cu n) (hs:jU n) (hz:n.size≤1000000) (hp:dH p):Ar (gv n p∧fL n=true∧1≤p.ay∧p.ay≤64) (E k 14 [cn n,kT p]):=by
 obtain⟨j,hj,e⟩:=hE.at (d:=n.dp+19) (by omega) 14 [cn n,kT p] rfl rfl
 have kV:=bN
 rw[e,R14]
 simp only[TT,ab,aa,Ty.eq,eA,f18 hE ho hs hz (show KK+n.dp+9≤j by omega)]
 cases hv:(fL n&&(aj 1 p.ay&&aj p.ay 64))
 ·exact .bad (by simp only[Bool.not_false,cond_true]) (show(2:Int)≠0 by decide)
 ·simp only[Bool.and_eq_true]at hv
  obtain⟨UJ,SC,hv3⟩:=hv
  have hg:=MP ho hs hz UJ
  have hl:=hg.l
  rw[b7 (show(n.nodes.length:Int)≤140737488355328 by omega),b7 (show(n.nodes.length:Int)≤(n.nodes.length:Int)by omega),b7 (show((8:Nat):Int)* (n.nodes.length:Int)≤140737488355328 by omega)]
  simp only[Bool.not_true,cond_false,Bool.and_self,cond_true,List.length_replicate]
  have qH:1≤p.ay∧p.ay≤64:=⟨gT SC,gT hv3⟩
  have:=Qd (call:=E j) (k:=j) (n:=n) (p:=p) (pl:=List.replicate n.nodes.length 0) (G:=gv n p∧fL n=true∧1≤p.ay∧p.ay≤64) hl (fun lo fy hm=>by
   refine MR (by omega) hl hp (fun lo pl tw fS=> ?_) j 0 lo (List.replicate n.nodes.length 0) false (by have:=hp.l1;unfold bf at this;omega) (by omega) (py.start fy (by simp) hm)
   obtain⟨e,h1,h2⟩:=MV hE (show KK+5≤j by omega) hg hp qH fS j 0 (by have:=hp.r1;unfold bf at this;omega)
   exact⟨e,h1,fun he=>⟨h2 he,UJ,qH⟩⟩) j 0 (List.replicate n.nodes.length 0) (by omega) (by simp) (fun x hx=>by omega)
  rw[List.map_replicate]at this
  exact this
end
end Go.V
