/- The law's loop, and awake: PlanOrdered's function gives true for any net, plan and choice. Conditions: those that each theorem names. (Names are short so that the claim keeps to its size.) -/
import Derived.Test.YtmgjhnjiljmmkaaNI
set_option linter.unusedSimpArgs false
set_option linter.unusedVariables false
set_option maxRecDepth 100000
namespace Go.V
open Go.Proofs
abbrev u8 (h:Int):PV:= .int .u8 h
def tR (d:List Bool) (l:List Int):Bool:=l.all fun b=>d.getD b.toNat false
section
variable {call:aw} {n:Net} {p:eN} {O:List (List Int)} {σ:List Nat} {d:List Bool} {jf:List Int} {k m1 m2:Nat} {v14 v15 v16 v17 v18 v19 v20 v21 v22 v23 v24:PV}
theorem Qk {i:Nat} (hi:i<1000000000000000) {row:List Int} (tN:∀b∈row,0≤b∧b<(d.length:Int)) (Np:row.length<1000000000000000) {nu:List Nat} (X8:(nu.length+1)*8≤140737488355328):
  ∀(f j:Nat) (b:Bool),row.length-j<f→
   GI call k m1 m2 f (.sl (jf.map u8)) (iv n.ins) (.sl (n.nodes.map af)) (bH n.outs) (.sl (p.loops.map Loop.pv)) (.sl (p.rings.map Ring.pv)) (iv p.ay) (.bool p.bG) (.sl (O.map bH)) ((σ.map (cY p)).map Loop.pv) (.sl (p.rings.map Ring.pv)) (iv p.ay) (.bool p.bG) (d.map PV.bool) (nv nu) (iv i) (.bool b) v17 v18 (iv i) v20 v21 (bH row) (iv row.length) (iv j)=
    (bif b&&tR d (row.drop j)then rq call k m1 m2 (.sl (jf.map u8)) (iv n.ins) (.sl (n.nodes.map af)) (bH n.outs) (.sl (p.loops.map Loop.pv)) (.sl (p.rings.map Ring.pv)) (iv p.ay) (.bool p.bG) (.sl (O.map bH)) ((σ.map (cY p)).map Loop.pv) (.sl (p.rings.map Ring.pv)) (iv p.ay) (.bool p.bG) (d.map PV.bool) (nv (nu++[i])) v17 v18 (iv ((i+1:Nat):Int))else rq call k m1 m2 (.sl (jf.map u8)) (iv n.ins) (.sl (n.nodes.map af)) (bH n.outs) (.sl (p.loops.map Loop.pv)) (.sl (p.rings.map Ring.pv)) (iv p.ay) (.bool p.bG) (.sl (O.map bH)) ((σ.map (cY p)).map Loop.pv) (.sl (p.rings.map Ring.pv)) (iv p.ay) (.bool p.bG) (d.map PV.bool) (nv nu) v17 v18 (iv ((i+1:Nat):Int)))
 | 0,j,b,h=>by omega
 | f+1,j,b,h=>by
  rw[EJ]
  by_cases hj:j<row.length
  ·have hn:nth default (row.map iv) j=iv row[j]:=aK _ _ _ _ hj
   obtain⟨h0,h1⟩:=tN _ (bz hj)
   have ih:=fun b=>Qk hi tN Np X8 f (j+1) b (by omega)
   rw[bb hj]
   unfold tR
   rw[List.all_cons]
   simp only[TT,ab,aa,Ty.eq,hj,hn,aq (show j<4611686018427387904 by omega),LP]
   generalize row[j]=y at*
   obtain⟨a,rfl⟩:∃a:Nat,y=a:=⟨y.toNat,by omega⟩
   have ha:a<d.length:=by omega
   rw[eg (by omega),ml (by omega)]
   simp only[TT,ab,aa,Ty.eq,ha,qq]
   unfold tR at ih
   cases b
   ·have:=ih false
    simp only[Bool.false_and,cond_false]at this ⊢
    exact this
   ·have:=ih (d.getD a false)
    simp only[Bool.true_and,cond_true,cond_false]at this ⊢
    exact this
  ·rw[aT (by omega)]
   simp only[TT,ab,aa,Ty.eq,hj,aq (show i<4611686018427387904 by omega),List.reverse_singleton,List.length_singleton]
   rw[kQ (show(nu.length+1)*8≤room by show _≤140737488355328;omega),show tR d []=true from rfl,Bool.and_true]
   simp only[nv,List.map_append,List.map_cons,List.map_nil,cond_true]
theorem M6 (hk:KK≤k) (hp:dH p) (hd:d.length=p.loops.length) (hO:O.length=p.loops.length) (hF:∀i,i<p.loops.length→(∀b∈O.getD i [],0≤b∧b<(p.loops.length:Int))∧(O.getD i []).length<1000000000000000) (xr:∀h∈jf,0≤h∧h<256) (hσ:σ.length<1000000000000000)
  (hex:∃i,i<p.loops.length∧d.getD i false=false∧tR d (O.getD i [])=true):
  ∀(f i:Nat) (nu:List Nat),p.loops.length-i<f→i≤p.loops.length→nu.length≤i→(∀r∈nu,r<p.loops.length∧d.getD r false=false∧tR d (O.getD r [])=true)→(∀r,r<i→d.getD r false=false→tR d (O.getD r [])=true→r∈nu)→
   ∃(Av:List Nat) (c:Nat),(∀r∈Av,r<p.loops.length∧d.getD r false=false∧tR d (O.getD r [])=true)∧c<Av.length∧
    rq call k m1 f (.sl (jf.map u8)) (iv n.ins) (.sl (n.nodes.map af)) (bH n.outs) (.sl (p.loops.map Loop.pv)) (.sl (p.rings.map Ring.pv)) (iv p.ay) (.bool p.bG) (.sl (O.map bH)) ((σ.map (cY p)).map Loop.pv) (.sl (p.rings.map Ring.pv)) (iv p.ay) (.bool p.bG) (d.map PV.bool) (nv nu) v15 (iv p.loops.length) (iv i)=yc call k m1 (.sl (jf.map u8)) (iv n.ins) (.sl (n.nodes.map af)) (bH n.outs) (.sl (p.loops.map Loop.pv)) (.sl (p.rings.map Ring.pv)) (iv p.ay) (.bool p.bG) (.sl (O.map bH)) ((σ.map (cY p)).map Loop.pv) (.sl (p.rings.map Ring.pv)) (iv p.ay) (.bool p.bG) (d.map PV.bool) (nv Av) (iv c) v15
 | 0,i,nu,h,_,_,_,_=>by omega
 | f+1,i,nu,h,We,Np,hr,cE=>by
  have kV:=bN
  have Ho:=hp.l0
  rw[EK]
  by_cases hi:i<p.loops.length
  ·have JJ:i<d.length:=by omega
   have ZG:i<O.length:=by omega
   obtain⟨hFl,Vr⟩:=hF i hi
   have Kq:∀b,b=(!d.getD i false&&tR d (O.getD i []))→∃(Av:List Nat) (c:Nat),(∀r∈Av,r<p.loops.length∧d.getD r false=false∧tR d (O.getD r [])=true)∧c<Av.length∧
     (bif b then rq call k m1 f (.sl (jf.map u8)) (iv n.ins) (.sl (n.nodes.map af)) (bH n.outs) (.sl (p.loops.map Loop.pv)) (.sl (p.rings.map Ring.pv)) (iv p.ay) (.bool p.bG) (.sl (O.map bH)) ((σ.map (cY p)).map Loop.pv) (.sl (p.rings.map Ring.pv)) (iv p.ay) (.bool p.bG) (d.map PV.bool) (nv (nu++[i])) v15 (iv p.loops.length) (iv ((i+1:Nat):Int))else rq call k m1 f (.sl (jf.map u8)) (iv n.ins) (.sl (n.nodes.map af)) (bH n.outs) (.sl (p.loops.map Loop.pv)) (.sl (p.rings.map Ring.pv)) (iv p.ay) (.bool p.bG) (.sl (O.map bH)) ((σ.map (cY p)).map Loop.pv) (.sl (p.rings.map Ring.pv)) (iv p.ay) (.bool p.bG) (d.map PV.bool) (nv nu) v15 (iv p.loops.length) (iv ((i+1:Nat):Int)))=yc call k m1 (.sl (jf.map u8)) (iv n.ins) (.sl (n.nodes.map af)) (bH n.outs) (.sl (p.loops.map Loop.pv)) (.sl (p.rings.map Ring.pv)) (iv p.ay) (.bool p.bG) (.sl (O.map bH)) ((σ.map (cY p)).map Loop.pv) (.sl (p.rings.map Ring.pv)) (iv p.ay) (.bool p.bG) (d.map PV.bool) (nv Av) (iv c) v15:=by
    intro b hb
    cases b
    ·refine M6 hk hp hd hO hF xr hσ hex f (i+1) nu (by omega) (by omega) (by omega) hr (fun r xA h1 h2=> ?_)
     by_cases e:r=i
     ·subst e
      rw[h1,h2]at hb;cases hb
     ·exact cE r (by omega) h1 h2
    ·rw[eq_comm,Bool.and_eq_true,Bool.not_eq_true']at hb
     refine M6 hk hp hd hO hF xr hσ hex f (i+1) (nu++[i]) (by omega) (by omega) (by simp;omega) (fun r Sk=> ?_) (fun r xA h1 h2=> ?_)
     ·rcases List.mem_append.1 Sk with Sk | Sk
      ·exact hr r Sk
      ·rw[List.mem_singleton]at Sk
       subst Sk
       exact⟨hi,hb.1,hb.2⟩
     ·by_cases e:r=i
      ·subst e;simp
      ·exact List.mem_append_left _ (cE r (by omega) h1 h2)
   obtain⟨Av,c,g1,g2,g3⟩:=Kq _ rfl
   refine⟨Av,c,g1,g2, ?_⟩
   simp only[TT,ab,aa,Ty.eq,hi,JJ,ZG,qq,uu ZG]
   have e1:=Qk (call:=call) (k:=k) (m1:=m1) (m2:=f) (n:=n) (p:=p) (O:=O) (σ:=σ) (d:=d) (jf:=jf) (v17:=v15) (v18:=iv p.loops.length) (v20:= .sl (O.map bH)) (v21:=bH (O.getD i [])) (i:=i) (by omega) (row:=O.getD i []) (by rw[hd];exact hFl) Vr (nu:=nu) (by omega) k 0 (!d.getD i false) (by omega)
   rw[List.drop_zero]at e1
   exact e1.trans g3
  ·have dc:0<nu.length:=by
    obtain⟨r,h1,h2,h3⟩:=hex
    exact List.length_pos_of_mem (cE r (by omega) h2 h3)
   simp only[TT,ab,aa,Ty.eq,hi,List.length_map]
   rw[eE (show((nu.length:Nat):Int)≠0 by omega)]
   by_cases hh:σ.length<jf.length
   ·have SP:nth default (jf.map u8) σ.length=u8 jf[σ.length]:=aK _ _ _ _ hh
    obtain⟨h0,h1⟩:=xr _ (bz hh)
    refine⟨nu,(jf[σ.length].tmod nu.length).toNat,hr, ?_, ?_⟩
    ·have a1:=Int.tmod_nonneg (nu.length:Int) h0
     have a2:=Int.tmod_lt_of_pos jf[σ.length] (b:=(nu.length:Int)) (by omega)
     omega
    ·simp only[hh,decide_true,cond_true,cond_false,SP,tI,bJ (show(-9223372036854775808:Int)≤jf[σ.length]by omega) (show jf[σ.length]<9223372036854775808 by omega)]
     rw[Int.toNat_of_nonneg (Int.tmod_nonneg (nu.length:Int) h0)]
   ·refine⟨nu,0,hr,dc, ?_⟩
    simp only[hh,decide_false,cond_false]
    rfl
theorem Uy (hk:KK≤k) (hp:dH p) (hO:O.length=p.loops.length) (hF:∀i,i<p.loops.length→Fi n p i (O.getD i [])) (Vr:∀i,i<p.loops.length→(O.getD i []).length<1000000000000000) (xr:∀h∈jf,0≤h∧h<256)
  (ZH:∀σ d,wG p O σ d→σ.length=p.loops.length→call 13 [cn n,kT (perm p σ)]=rI 0) (h6:call 6 []=rB true):
  ∀(f:Nat) (σ:List Nat) (d:List Bool),p.loops.length-σ.length<f→wG p O σ d→Oa call k f (.sl (jf.map u8)) (iv n.ins) (.sl (n.nodes.map af)) (bH n.outs) (.sl (p.loops.map Loop.pv)) (.sl (p.rings.map Ring.pv)) (iv p.ay) (.bool p.bG) (.sl (O.map bH)) ((σ.map (cY p)).map Loop.pv) (.sl (p.rings.map Ring.pv)) (iv p.ay) (.bool p.bG) (d.map PV.bool) (.sl (O.map bH))=rB true
 | 0,σ,d,h,_=>by omega
 | f+1,σ,d,h,hI=>by
  have kV:=bN
  have Ho:=hp.l0
  rw[I2]
  have hle:σ.length≤p.loops.length:=by have:=hI.ti;omega
  by_cases b6:σ.length<p.loops.length
  ·have cE:∀i,i<p.loops.length→(tR d (O.getD i [])=true↔ ∀b∈O.getD i [],b.toNat∈σ):=by
    intro i hi
    unfold tR
    rw[List.all_eq_true]
    constructor
    ·intro hh b hb
     have:=(hF i hi).lt b hb
     exact(hI.dn b.toNat (by omega)).1 (hh b hb)
    ·intro hh b hb
     have:=(hF i hi).lt b hb
     exact(hI.dn b.toNat (by omega)).2 (hh b hb)
   have Nl:∀i,i<p.loops.length→(d.getD i false=false↔i∉σ):=by
    intro i hi
    rw[←hI.dn i hi];simp
   obtain⟨i,hi,X7,hbi⟩:=M5 hF hI b6
   obtain⟨nu,c,g1,g2,g3⟩:=M6 (call:=call) (k:=k) (m1:=f) (n:=n) (p:=p) (O:=O) (σ:=σ) (d:=d) (jf:=jf) (v15:= .sl (O.map bH)) hk hp hI.ld hO (fun i hi=>⟨fun b hb=>by have:=(hF i hi).lt b hb;omega,Vr i hi⟩) xr (by omega) ⟨i,hi,(Nl i hi).2 X7,(cE i hi).2 hbi⟩ k 0 [] (by omega) (by omega) (by simp) (fun r hr=>by cases hr) (fun r hr=>by omega)
   have hr:=g1 _ (bz g2)
   generalize Zs:nu[c]=r at*
   obtain⟨r1,r2,r3⟩:=hr
   have jw:=hI.step r1 ((Nl r r1).1 r2) ((cE r r1).1 r3)
   have ih:=Uy hk hp hO hF Vr xr ZH h6 f (σ++[r]) (d.set r true) (by simp;omega) jw
   have C0:nth default (nv nu) c=iv (r:Int):=by
    rw[sJ g2,List.getD_eq_getElem?_getD,List.getElem?_eq_getElem g2, ←Zs];rfl
   have Dv:nth default (p.loops.map Loop.pv) r=(cY p r).pv:=by
    rw[aK _ _ _ _ r1]
    unfold cY
    rw[List.getD_eq_getElem?_getD,List.getElem?_eq_getElem r1];rfl
   have lH:r<d.length:=by rw[hI.ld];exact r1
   simp only[tL,List.length_map,ER,b6,decide_true,cond_true]
   refine Eq.trans g3 ?_
   rw[LQ]
   simp only[TT,ab,aa,Ty.eq,g2,C0,lH,Dv,r1,List.reverse_singleton,List.length_singleton]
   rw[kQ (show(σ.length+1)*32≤room by show _≤140737488355328;omega)]
   rw[List.map_append,List.map_append,List.map_set]at ih
   exact ih
  ·have vb:σ.length=p.loops.length:=by omega
   have:=ZH σ d hI vb
   have e:kT (perm p σ)= .pv (.st 36) (.agg [.sl ((σ.map (cY p)).map Loop.pv), .sl (p.rings.map Ring.pv),iv p.ay, .bool p.bG]):=rfl
   rw[e]at this
   simp only[tL,List.length_map,ER,b6,decide_false,cond_false,eA,this,h6,ab,aa,Ty.eq,tI,decide_true,cond_true]
   rfl
end
section
variable {E:Nat→aw} {n:Net} {p:eN} {jf:List Int} {k:Nat}
theorem f4 (hE:Fb E) (hk:KK+n.dp+40≤k) (ho:cu n) (hp:dH p) (xr:∀h∈jf,0≤h∧h<256) (h6:∀k,KK+10≤k→E k 6 []=rB true):E k 4 [cn n,kT p, .pv (.sl 5) (.sl (jf.map u8))]=rB true:=by
 obtain⟨j,hj,e⟩:=hE.Ff.at (d:=n.dp+39) (by omega) 4 [cn n,kT p, .pv (.sl 5) (.sl (jf.map u8))] rfl rfl
 have kV:=bN
 have Vs:=h6 j (by omega)
 rw[e,R4]
 simp only[Py,R9,Pz,Xd,Xe,Xf,Xg,eA,Ad,f5 hE.Ff n.dp n ho (Nat.le_refl _) j (by omega),ab,aa,Ty.eq,tB,cond_true]
 cases Vp:jI n
 ·simp only[Bool.not_false,cond_true,z8,Vs,ab,aa,Ty.eq]
 ·simp only[Bool.not_true,cond_false,f15 hE.Ff (show KK+1≤j by omega) hp,ab,aa,Ty.eq,tB,cond_true]
  cases b6:E8 p
  ·simp only[Bool.not_false,cond_true,z8,Vs,ab,aa,Ty.eq]
  ·obtain⟨hs,hz⟩:=MA Vp
   have JS:n.size≤1000000:=by omega
   obtain⟨e14,TY,hR⟩:=f14 hE.Ff (show KK+n.dp+20≤j by omega) ho hs JS hp
   simp only[Bool.not_true,cond_false,TY,ab,aa,Ty.eq,Nat.beq_refl,tI,cond_true]
   cases he:ak e14 0
   ·simp only[Bool.not_false,cond_true,z8,Vs,ab,aa,Ty.eq]
    rfl
   ·obtain⟨hR,hv,CT⟩:=hR (dW he)
    have Ho:=hp.l0
    obtain⟨O,hO,hF,e16⟩:=f16 hE (show KK+5≤j by omega) ho hs JS hp (by omega) hR hv CT
    have okm:cc (List.map (ai Try.prog) #[28,29].toList) (some ([.pv (.sl 23) (.sl (O.map bH)),aI 0],[]))=true:=by kernel_rfl
    have Sa:∀(a:PV) (b:AO),bk 0 (some ([AO.pv (.sl 23) a,b],([]:List AO)))=a:=fun _ _=>rfl
    have X5:∀(a:AO) (z:Int),bk 1 (some ([a,aI z],([]:List AO)))=iv z:=fun _ _=>rfl
    simp only[Bool.not_true,cond_false,e16,okm,Sa,X5,tI,tL,List.length_map,hO,cond_true]
    rw[lk rfl,lk rfl]
    rw[b7 (show(p.loops.length:Int)≤140737488355328 by omega),b7 (show(p.loops.length:Int)≤(p.loops.length:Int)by omega),b7 (show((1:Nat):Int)* (p.loops.length:Int)≤140737488355328 by omega)]
    have Uz:∀i,i<p.loops.length→(O.getD i []).length<1000000000000000:=fun i hi=>by have:=(hF i hi).len;omega
    have:=Uy (call:=E j) (k:=j) (n:=n) (p:=p) (O:=O) (jf:=jf) (by omega) hp hO hF Uz xr (fun σ d hI vb=>f13 hE (show KK+4≤j by omega) ho hs JS (OI hp hI) (Fk hR hF hI vb) hv CT) Vs j [] (List.replicate p.loops.length false) (by simp;omega) wG.start
    rw[List.map_replicate]at this
    exact this
end
end Go.V
namespace Go.V
open Go.Proofs
mutual
def Vt:PV→PV→Bool
 | .int k n, .int k' m=>(Ty.int k).eq (.int k')&&decide (n=m)
 | .bool a, .bool b=>a==b
 | .str s, .str t=>s.data.toList==t.data.toList
 | .sl l, .sl m=>Fl l m
 | .agg l, .agg m=>Fl l m
 | _,_=>false
def Fl:List PV→List PV→Bool
 | [],[]=>true
 | a::l,b::m=>Vt a b&&Fl l m
 | _,_=>false
end
mutual
theorem Fm:∀ {a b:PV},Vt a b=true→a=b:=by
 intro a b h
 cases a<;>cases b<;>simp only[Vt,Bool.and_eq_true]at h<;>first
  | (cases h;done)
  | skip
 ·have:=Ty.iH h.1
  cases this
  rw[of_decide_eq_true h.2]
 ·rw[eq_of_beq h]
 ·rw[TS]at h
  rw[of_decide_eq_true h]
 ·rw[Aw h]
 ·rw[Aw h]
theorem Aw:∀ {a b:List PV},Fl a b=true→a=b
 | [],[],_=>rfl
 | x::a,y::b,h=>by
  simp only[Fl,Bool.and_eq_true]at h
  rw[Fm h.1,Aw h.2]
 | [],_::_,h=>by simp[Fl]at h
 | _::_,[],h=>by simp[Fl]at h
end
def eS:ByteArray:=⟨#[]⟩
def X9 (op:ByteArray) (n:Int) (az:List Int):Node:=(⟨op,eS,n,0,[],eS,0,0,eS,eS,az⟩,[])
def n0:Net:= .mk 1 [X9 ⟨#[97,100,100]⟩ 0 [2,1],X9 ⟨#[100,101,108,97,121]⟩ 1 [0, -1, -1],X9 ⟨#[105,110]⟩ 0 []] [0]
theorem M7:fL n0=true:=by kernel_rfl
instance Ya (n:Int):Decidable (pj n):=by unfold pj;infer_instance
theorem UA:cu n0:=by
 refine .mk _ _ _ (by decide) (fun x hx=> ?_) (fun x hx=> ?_) (fun x hx=> ?_) (by unfold bf;decide) (by unfold bf;decide) (fun o ho=> ?_)
 ·rcases List.mem_cons.1 hx with rfl | hx
  ·refine⟨by decide,by decide,fun q hq=>(by cases hq),by unfold bf;decide,by decide,by decide,fun a ha=> ?_,by unfold bf;decide,by unfold bf;decide,by unfold bf;decide,by unfold bf;decide,by unfold bf;decide,by unfold bf;decide⟩
   have:∀a∈([2,1]:List Int),pj a:=by decide
   exact this a ha
  rcases List.mem_cons.1 hx with rfl | hx
  ·refine⟨by decide,by decide,fun q hq=>(by cases hq),by unfold bf;decide,by decide,by decide,fun a ha=> ?_,by unfold bf;decide,by unfold bf;decide,by unfold bf;decide,by unfold bf;decide,by unfold bf;decide,by unfold bf;decide⟩
   have:∀a∈([0, -1, -1]:List Int),pj a:=by decide
   exact this a ha
  rcases List.mem_cons.1 hx with rfl | hx
  ·refine⟨by decide,by decide,fun q hq=>(by cases hq),by unfold bf;decide,by decide,by decide,fun a ha=>(by cases ha),by unfold bf;decide,by unfold bf;decide,by unfold bf;decide,by unfold bf;decide,by unfold bf;decide,by unfold bf;decide⟩
  cases hx
 ·intro m hm
  rcases List.mem_cons.1 hx with rfl | hx
  ·cases hm
  rcases List.mem_cons.1 hx with rfl | hx
  ·cases hm
  rcases List.mem_cons.1 hx with rfl | hx
  ·cases hm
  cases hx
 ·rcases List.mem_cons.1 hx with rfl | hx
  ·exact(by unfold bf;decide:(0:Nat)<bf)
  rcases List.mem_cons.1 hx with rfl | hx
  ·exact(by unfold bf;decide:(0:Nat)<bf)
  rcases List.mem_cons.1 hx with rfl | hx
  ·exact(by unfold bf;decide:(0:Nat)<bf)
  cases hx
 ·have:∀o∈([0]:List Int),pj o:=by decide
  exact this o ho
theorem Yb:jU n0:=by
 refine .mk _ _ _ (fun x hx=> ?_) (fun x hx m hm=> ?_)
 ·rcases List.mem_cons.1 hx with rfl | hx
  ·exact⟨by decide,by decide⟩
  rcases List.mem_cons.1 hx with rfl | hx
  ·exact⟨by decide,by decide⟩
  rcases List.mem_cons.1 hx with rfl | hx
  ·exact⟨by decide,by decide⟩
  cases hx
 ·rcases List.mem_cons.1 hx with rfl | hx
  ·cases hm
  rcases List.mem_cons.1 hx with rfl | hx
  ·cases hm
  rcases List.mem_cons.1 hx with rfl | hx
  ·cases hm
  cases hx
theorem Hc:kS H0 40 [cn n0]=rB true:=by
 rw[GS yl UA Yb (by decide),M7]
def Jm:List AO→Bool
 | [.pv t n]=>t.eq (.st 25)&&Vt n n0.pv
 | _=>false
noncomputable def qA:aw:=fun f az=>bif Nat.beq f 40 then(bif Jm az then some ([.pv .bool (.bool true)],[])else kS H0 40 az)else HL f az
theorem RO {f:FuncId} {az:List AO} {r:List AO×List AO} (h:qA f az=some r):qB f az=some r:=by
 unfold qA at h
 show(match kS H0 f az with | some r=>some r | none=>HL f az)=_
 cases hf:Nat.beq f 40 with
 | true=>
  have:=Nat.eq_of_beq_eq_true hf
  subst this
  rw[hf,cond_true]at h
  cases hn:Jm az with
  | true=>
   rw[hn,cond_true]at h
   cases h
   unfold Jm at hn
   split at hn
   ·rw[Bool.and_eq_true]at hn
    rw[Ty.iH hn.1,Fm hn.2]
    have:=Hc
    rw[this]
   ·cases hn
  | false=>
   rw[hn,cond_false]at h
   rw[h]
 | false=>
  rw[hf,cond_false]at h
  rw[CQ hf,h]
theorem UB:ct Try.prog qA:=⟨fun f az res back h=>Up.ok f az res back (RO h)⟩
theorem OJ:∀f az,Nat.beq f 40=false→(Nat.beq f 36|| Nat.beq f 43)=false→qA f az=none:=by
 intro f az h1 h2
 rw[Bool.or_eq_false_iff]at h2
 unfold qA HL
 rw[h1,h2.1,h2.2];rfl
theorem UC:Fb (KL Try.prog H0 qA):=by
 refine⟨Oi OJ,fun k l hl=>wC ?_ k,fun k l hl=>wC ?_ k,fun k n ho hs hz=>wC ?_ k⟩
 ·show(bif true&&decide (l.length*8≤room)then _ else none)=_
  rw[decide_eq_true hl];rfl
 ·show(bif true&&decide (l.length≤room)then _ else none)=_
  rw[decide_eq_true hl];rfl
 ·have hv:=GS yl ho hs hz
  show(bif Jm [cn n]then _ else kS H0 40 [cn n])=_
  cases hn:Jm [cn n]with
  | true=>
   unfold Jm at hn
   simp only[Bool.and_eq_true]at hn
   have e:n.pv=n0.pv:=Fm hn.2
   have e2:cn n=cn n0:=by show AO.pv _ n.pv=AO.pv _ n0.pv;rw[e]
   rw[e2,Hc]at hv
   exact hv
  | false=>exact hv
theorem OK (k:Nat):KL Try.prog H0 qA (k+60) 6 []=some ([.pv .bool (.bool true)],[]):=by kernel_rfl
theorem RP {n:Net} {p:eN} {jf:List Int} (ho:cu n) (hp:dH p) (xr:∀h∈jf,0≤h∧h<256):
  KL Try.prog H0 qA (KK+n.dp+100) 4 [cn n,kT p, .pv (.sl 5) (.sl (jf.map u8))]=rB true:=
 f4 UC (by omega) ho hp xr (fun k hk=>by
  have:=bN
  obtain⟨j,rfl⟩:∃j,k=j+60:=⟨k-60,by omega⟩
  exact OK j)
end Go.V
