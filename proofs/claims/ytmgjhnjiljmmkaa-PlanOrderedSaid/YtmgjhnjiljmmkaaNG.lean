/- Both orders of a net find whatever can stand behind all that it hangs on; mesh.order told: so mesh.Valid is r10.Valid. Conditions: those that each theorem names. (Names are short so that the claim keeps to its size.) -/
import Derived.Test.YtmgjhnjiljmmkaaNC
import Derived.Test.YtmgjhnjiljmmkaaND
import Derived.Test.YtmgjhnjiljmmkaaNE
import Derived.Test.YtmgjhnjiljmmkaaVF
set_option linter.unusedSimpArgs false
set_option linter.unusedVariables false
set_option maxRecDepth 100000
namespace Go.V
open Go.Proofs
inductive wq (D:Nat→List Nat):Nat→Prop where
 | mk (i:Nat) (h:∀a∈D i,wq D a):wq D i
theorem wu {d:List Bool}:∀ {ns:List Node} {j:Nat},mB d j ns=none→∀(i:Nat) (x:Node),ns[i]? =some x→d.getD (j+i) false=true∨lP d x.1=false
 | [],j,_,i,x,hx=>by simp at hx
 | y::r,j,h,i,x,hx=>by
  rw[mB]at h
  cases hc:(!d.getD j false&&lP d y.1)with
  | true=>rw[hc]at h;cases h
  | false=>
   rw[hc,cond_false]at h
   cases i with
   | zero=>
    simp only[List.getElem?_cons_zero,Option.some.injEq]at hx
    subst hx
    rw[Nat.add_zero]
    cases h1:d.getD j false
    ·right
     rw[h1]at hc;simpa using hc
    ·left;rfl
   | succ i=>
    have:=wu h i x (by simpa using hx)
    rw[show j+1+i=j+(i+1)by omega]at this
    exact this
theorem wv {d:List Bool}:∀ {ns:List Node} {j i:Nat},mB d j ns=some i→∃x,ns[i-j]? =some x∧lP d x.1=true
 | [],j,i,h=>by cases h
 | y::r,j,i,h=>by
  have b6:=oV h
  rw[mB]at h
  cases hc:(!d.getD j false&&lP d y.1)with
  | true=>
   rw[hc,cond_true]at h
   cases h
   rw[Bool.and_eq_true]at hc
   exact⟨y,by simp,hc.2⟩
  | false=>
   rw[hc,cond_false]at h
   have h2:=oV h
   obtain⟨x,hx,hr⟩:=wv h
   refine⟨x, ?_,hr⟩
   rw[show i-j=(i- (j+1))+1 by omega]
   simpa using hx
def jd (ns:List Node) (i:Nat):List Nat:=match ns[i]? with | some x=>(cp x.1).map Int.toNat | none=>[]
theorem wx {d:List Bool} {ns:List Node} {i:Nat} {x:Node} (hx:ns[i]? =some x):lP d x.1=true↔ ∀a∈jd ns i,d.getD a false=true:=by
 unfold lP jd
 rw[hx,List.all_eq_true]
 simp only[List.mem_map]
 constructor
 ·rintro h a ⟨b,hb,rfl⟩;exact h b hb
 ·intro h b hb;exact h _ ⟨b,hb,rfl⟩
theorem Jg {d:List Bool}:rz d=0↔ ∀i,i<d.length→d.getD i false=true:=by
 unfold rz
 rw[List.count_eq_zero]
 constructor
 ·intro h i hi
  rw[List.getD_eq_getElem?_getD,List.getElem?_eq_getElem hi]
  cases hb:d[i]with
  | true=>rfl
  | false=>exact absurd (hb▸List.getElem_mem hi) h
 ·intro h hm
  obtain⟨i,hi,e⟩:=List.mem_iff_getElem.1 hm
  have:=h i hi
  rw[List.getD_eq_getElem?_getD,List.getElem?_eq_getElem hi,e]at this
  cases this
theorem nt {d:List Bool} {i j:Nat} {b:Bool}:(d.set i b).getD j false=if i=j∧j<d.length then b else d.getD j false:=by
 rw[List.getD_eq_getElem?_getD,List.getD_eq_getElem?_getD,List.getElem?_set]
 by_cases h:i=j
 ·subst h
  by_cases h2:i<d.length
  ·simp[h2]
  ·simp[h2]
 ·simp[h]
theorem wy {ns:List Node} (hD:∀i,i<ns.length→∀a∈jd ns i,a<ns.length):∀(f:Nat) (d:List Bool) (out:List Nat),rz d<f→d.length=ns.length→out.length+rz d=ns.length→
  (∀i,d.getD i false=true→wq (jd ns) i)→((oU ns f d out).length=ns.length↔ ∀i,i<ns.length→wq (jd ns) i)
 | 0,d,out,h,_,_,_=>by omega
 | f+1,d,out,hf,hd,ho,XJ=>by
  rw[oU]
  cases hn:mB d 0 ns with
  | none=>
   have h1:out.length=ns.length↔rz d=0:=by omega
   simp only[]
   rw[h1,Jg]
   constructor
   ·intro h i hi
    exact XJ i (h i (by omega))
   ·intro h i hi
    have key:∀i,wq (jd ns) i→i<ns.length→d.getD i false=true:=by
     intro i UO
     induction UO with
     | mk i _ ih=>
      intro hi
      have hx:ns[i]? =some ns[i]:=List.getElem?_eq_getElem hi
      rcases wu hn i _ hx with h1 | h1
      ·rw[Nat.zero_add]at h1;exact h1
      ·exfalso
       rw[(wx hx).2 (fun a ha=>ih a ha (hD i hi a ha))]at h1
       cases h1
    exact key i (h i (by omega)) (by omega)
  | some i=>
   obtain⟨_,h2,h3⟩:=oV hn
   obtain⟨x,hx,hr⟩:=wv hn
   rw[Nat.sub_zero]at hx
   have hi:i<d.length:=by omega
   have jN:=Cv hi h3
   refine wy hD f (d.set i true) (out++[i]) (by omega) (by rw[List.length_set];exact hd) (by simp;omega) (fun j hj=> ?_)
   rw[nt]at hj
   by_cases Ay:i=j
   ·subst Ay
    exact .mk _ (fun a ha=>XJ a ((wx hx).1 hr a ha))
   ·rw[if_neg (fun h=>Ay h.1)]at hj
    exact XJ j hj
theorem MD {ns:List Node} (hD:∀i,i<ns.length→∀a∈jd ns i,a<ns.length):lQ ns=true↔ ∀i,i<ns.length→wq (jd ns) i:=by
 unfold lQ
 rw[decide_eq_true_iff]
 refine wy hD _ _ _ ?_ ?_ ?_ (fun i h=> ?_)
 ·unfold rz;rw[List.count_replicate_self];omega
 ·simp
 ·unfold rz;rw[List.count_replicate_self];simp
 ·exfalso
  rw[List.getD_eq_getElem?_getD,List.getElem?_replicate]at h
  split at h<;>cases h
def nP (od l:List Nat):Nat:=l.countP fun a=> !od.contains a
theorem rK (l:List Nat):nP [] l=l.length:=by
 unfold nP
 induction l with
 | nil=>rfl
 | cons a l ih=>rw[List.countP_cons,ih];simp
theorem mG {od l:List Nat}:nP od l=0↔ ∀a∈l,a∈od:=by
 unfold nP
 rw[List.countP_eq_zero]
 simp
theorem oZ {od:List Nat} {a:Nat} (ha:a∉od):∀l,nP od l=nP (od++[a]) l+l.count a
 | []=>rfl
 | b::l=>by
  have ih:=oZ ha l
  unfold nP at ih ⊢
  rw[List.countP_cons,List.countP_cons,List.count_cons,ih]
  by_cases hb:b=a
  ·subst hb
   have h1:od.contains b=false:=by simpa using ha
   have h2:(od++[b]).contains b=true:=by simp
   rw[h1,h2];simp;omega
  ·have h2:(od++[a]).contains b=od.contains b:=by
    rw[Bool.eq_iff_iff];simp[hb]
   rw[h2]
   have:(b==a)=false:=by simpa using hb
   rw[this];simp;omega
theorem count_range (N a:Nat) (h:a<N):(List.range N).count a=1:=by
 induction N with
 | zero=>omega
 | succ N ih=>
  rw[List.range_succ,List.count_append]
  by_cases ha:a=N
  ·subst ha
   rw[List.count_eq_zero.2 (by simp)];simp
  ·rw[ih (by omega),List.count_eq_zero.2 (by simpa using ha)]
structure px (D:Nat→List Nat) (N:Nat) (w:List Nat) (re:List Bool) (od:List Nat) (nx:Nat):Prop where
 lw:w.length=N
 lr:re.length=N
 wait:∀i,i<N→w.getD i 0=nP od (D i)
 nu:∀i,i<N→(re.getD i false=true↔ (i∉od∧w.getD i 0=0))
 low:∀i,i<nx→re.getD i false=false
 dn:∀o∈od,wq D o
 wN:∀o∈od,∀a∈D o,a∈od
 ti:od.length+nP od (List.range N)=N
structure wA (D:Nat→List Nat) (N:Nat) (w:List Nat) (re:List Bool) (od:List Nat) (nx:Nat) (rest:List Nat):Prop where
 lw:w.length=N
 lr:re.length=N
 wait:∀i,i<N→w.getD i 0=nP od (D i)+rest.count i
 nu:∀i,i<N→(re.getD i false=true↔ (i∉od∧w.getD i 0=0))
 low:∀i,i<nx→re.getD i false=false
 dn:∀o∈od,wq D o
 wN:∀o∈od,∀a∈D o,a∈od
 ti:od.length+nP od (List.range N)=N
 XK:∀r∈rest,r<N∧r∉od
section
variable {D:Nat→List Nat} {N:Nat} {w:List Nat} {re:List Bool} {od rest:List Nat} {nx:Nat}
theorem px.skip (h:px D N w re od nx) (hr:re.getD nx false=false):px D N w re od (nx+1):=
 ⟨h.lw,h.lr,h.wait,h.nu,fun i hi=>(by
   by_cases e:i=nx
   ·subst e;exact hr
   ·exact h.low i (by omega)),h.dn,h.wN,h.ti⟩
theorem px.take (h:px D N w re od nx) (hr:re.getD nx false=true) (hN:nx<N) {rd:List Nat} (hc:∀i,i<N→rd.count i=(D i).count nx) (hl:∀r∈rd,r<N):
  wA D N w (re.set nx false) (od++[nx]) (nx+1) rd:=by
 obtain⟨h1,h2⟩:=(h.nu nx hN).1 hr
 have h3:=h2
 rw[h.wait nx hN,mG]at h3
 have Pj:∀i,(re.set nx false).getD i false=if nx=i∧i<re.length then false else re.getD i false:=fun i=>nt
 refine⟨h.lw,by rw[List.length_set,h.lr],fun i hi=> ?_,fun i hi=> ?_,fun i hi=> ?_,fun o ho=> ?_,fun o ho a ha=> ?_, ?_,fun r hr=> ?_⟩
 ·rw[h.wait i hi,oZ h1,hc i hi]
 ·rw[Pj]
  by_cases e:nx=i
  ·subst e
   rw[if_pos ⟨rfl,by rw[h.lr];exact hN⟩]
   simp
  ·rw[if_neg (fun hh=>e hh.1),h.nu i hi]
   simp only[List.mem_append,List.mem_singleton,not_or]
   constructor
   ·rintro ⟨a,b⟩;exact⟨⟨a,fun hh=>e hh.symm⟩,b⟩
   ·rintro ⟨⟨a,_⟩,b⟩;exact⟨a,b⟩
 ·rw[Pj]
  by_cases e:nx=i
  ·rw[if_pos ⟨e,by rw[h.lr];omega⟩]
  ·rw[if_neg (fun hh=>e hh.1)]
   exact h.low i (by omega)
 ·rcases List.mem_append.1 ho with ho | ho
  ·exact h.dn o ho
  ·rw[List.mem_singleton]at ho
   subst ho
   exact .mk _ (fun a ha=>h.dn a (h3 a ha))
 ·rcases List.mem_append.1 ho with ho | ho
  ·exact List.mem_append_left _ (h.wN o ho a ha)
  ·rw[List.mem_singleton]at ho
   subst ho
   exact List.mem_append_left _ (h3 a ha)
 ·have:=h.ti
  rw[oZ h1,count_range N nx hN]at this
  simp;omega
 ·have P8:=hl r hr
  refine⟨P8,fun hm=> ?_⟩
  have RW:0<rd.count r:=List.count_pos_iff.2 hr
  rw[hc r P8]at RW
  have je:nx∈D r:=List.count_pos_iff.1 RW
  rcases List.mem_append.1 hm with hm | hm
  ·exact h1 (h.wN r hm _ je)
  ·rw[List.mem_singleton]at hm
   subst hm
   exact h1 (h3 _ je)
theorem wA.pos {r:Nat} (h:wA D N w re od nx (r::rest)):r<N∧0<w.getD r 0:=by
 obtain⟨h1,h2⟩:=h.XK r (by simp)
 refine⟨h1, ?_⟩
 rw[h.wait r h1,List.count_cons_self];omega
theorem E9 {d:List Nat} {i j:Nat} {b:Nat}:(d.set i b).getD j 0=if i=j∧j<d.length then b else d.getD j 0:=by
 rw[List.getD_eq_getElem?_getD,List.getD_eq_getElem?_getD,List.getElem?_set]
 by_cases h:i=j
 ·subst h
  by_cases h2:i<d.length
  ·simp[h2]
  ·simp[h2]
 ·simp[h]
theorem wA.rel {r:Nat} (h:wA D N w re od nx (r::rest)):
  wA D N (w.set r (w.getD r 0-1)) (bif Nat.beq (w.getD r 0-1) 0 then re.set r true else re) od (bif Nat.beq (w.getD r 0-1) 0 then min nx r else nx) rest:=by
 obtain⟨P8,wS⟩:=h.pos
 have Dj:=(h.XK r (by simp)).2
 have hw:∀i,i<N→(w.set r (w.getD r 0-1)).getD i 0=if r=i then w.getD r 0-1 else w.getD i 0:=by
  intro i hi
  rw[E9]
  by_cases e:r=i
  ·rw[if_pos ⟨e,by rw[h.lw];exact hi⟩,if_pos e]
  ·rw[if_neg (fun hh=>e hh.1),if_neg e]
 refine⟨by rw[List.length_set,h.lw], ?_,fun i hi=> ?_,fun i hi=> ?_,fun i hi=> ?_,h.dn,h.wN,h.ti,fun q hq=>h.XK q (List.mem_cons_of_mem _ hq)⟩
 ·cases Nat.beq (w.getD r 0-1) 0
  ·exact h.lr
  ·rw[cond_true,List.length_set];exact h.lr
 ·rw[hw i hi]
  have:=h.wait i hi
  rw[List.count_cons]at this
  by_cases e:r=i
  ·subst e
   rw[if_pos rfl]
   rw[show(r==r)=true by simp,if_pos rfl]at this
   omega
  ·rw[if_neg e]
   rw[show(r==i)=false by simpa using e]at this
   simpa using this
 ·rw[hw i hi]
  cases hz:Nat.beq (w.getD r 0-1) 0 with
  | true=>
   have JS:w.getD r 0-1=0:=Nat.eq_of_beq_eq_true hz
   rw[cond_true,nt]
   by_cases e:r=i
   ·subst e
    rw[if_pos ⟨rfl,by rw[h.lr];exact hi⟩,if_pos rfl]
    exact⟨fun _=>⟨Dj,JS⟩,fun _=>rfl⟩
   ·rw[if_neg (fun hh=>e hh.1),if_neg e]
    exact h.nu i hi
  | false=>
   rw[cond_false]
   by_cases e:r=i
   ·subst e
    rw[if_pos rfl]
    constructor
    ·intro hh
     have:=((h.nu r hi).1 hh).2
     omega
    ·rintro ⟨_,hh⟩
     rw[hh]at hz;cases hz
   ·rw[if_neg e]
    exact h.nu i hi
 ·cases hz:Nat.beq (w.getD r 0-1) 0 with
  | true=>
   rw[hz,cond_true]at hi
   rw[cond_true,nt,if_neg (fun hh=>by have:=hh.1;omega)]
   exact h.low i (by omega)
  | false=>
   rw[hz,cond_false]at hi
   rw[cond_false]
   exact h.low i hi
theorem wA.fin (h:wA D N w re od nx []):px D N w re od nx:=
 ⟨h.lw,h.lr,fun i hi=>by rw[h.wait i hi];simp,h.nu,h.low,h.dn,h.wN,h.ti⟩
theorem px.len (h:px D N w re od nx):od.length≤N:=by have:=h.ti;omega
theorem wA.len (h:wA D N w re od nx rest):od.length≤N:=by have:=h.ti;omega
theorem px.out (h:px D N w re od nx) (hN:N≤nx) (hD:∀i,i<N→∀a∈D i,a<N):od.length=N↔ ∀i,i<N→wq D i:=by
 have hc:=h.ti
 have e:od.length=N↔nP od (List.range N)=0:=by omega
 rw[e,mG]
 constructor
 ·intro hh i hi
  exact h.dn i (hh i (List.mem_range.2 hi))
 ·intro hh i hi
  have key:∀i,wq D i→i<N→i∈od:=by
   intro i hd
   induction hd with
   | mk i _ ih=>
    intro hi
    apply Classical.byContradiction
    intro hn
    have h0:w.getD i 0=0:=by
     rw[h.wait i hi,mG]
     exact fun a ha=>ih a ha (hD i hi a ha)
    have:=(h.nu i hi).2 ⟨hn,h0⟩
    rw[h.low i (by omega)]at this
    cases this
  exact key i (hh i (List.mem_range.1 hi)) (List.mem_range.1 hi)
theorem px.start (hw:w.length=N) (hd:∀i,i<N→w.getD i 0=(D i).length) (hr:re.length=N) (Pj:∀i,i<N→re.getD i false=Nat.beq (w.getD i 0) 0):px D N w re [] 0:=
 ⟨hw,hr,fun i hi=>by rw[rK,hd i hi],fun i hi=>by
  rw[Pj i hi]
  constructor
  ·intro hh;exact⟨by simp,Nat.eq_of_beq_eq_true hh⟩
  ·rintro ⟨_,hh⟩;rw[hh];rfl,fun i hi=>by omega,fun o ho=>by(cases ho),fun o ho=>by(cases ho),by rw[rK];simp⟩
end
end Go.V
namespace Go.V
open Go.Proofs
theorem CM {p:Nat→Bool}:∀ {l:List Int} {i:Nat},(∀j,p j=true)→pick p i l=l.filter (aj 0)
 | [],i,h=>rfl
 | a::l,i,h=>by
  rw[pick,h i,Bool.true_and,List.filter_cons,CM (i:=i+1) h]
  cases aj 0 a<;>rfl
theorem XL (j:Nat):(!ak (j:Int) (-1))=true:=by
 rw[eE (by omega)];rfl
theorem CN {c:Nat} (hc:c≤47) (h0:c≠0) (h7:c≠7) (ye:c≠27) (I6:c≠28) (Jx:c≠30) (Jw:c≠31) (n m:Int) (j:Nat):tP c m (cg c n).2.1 (cg c n).2.2.1 j=true:=by
 rcases Ae hc with h | h | h | h | h | h | h | h | h | h | h | h | h | h | h | h | h | h | h | h | h | h | h | h | h | h | h | h | h | h | h | h | h | h | h | h | h | h | h | h | h | h | h | h | h | h | h | h<;>subst h<;>first
  | exact absurd rfl h0
  | exact absurd rfl h7
  | exact absurd rfl ye
  | exact absurd rfl I6
  | exact absurd rfl Jx
  | exact absurd rfl Jw
  | rfl
  | exact XL j
theorem Fa {ns:List Node} {x:Node} (h:aG ns x=true):(x.1.args.length:Int)=(bO x).1:=by
 unfold aG at h
 rw[Bool.and_eq_true]at h
 exact dW h.1
theorem OE {x:Node}:(aF x.1.op=27→(bO x).1=3)∧(aF x.1.op=28→(bO x).1=4)∧(aF x.1.op=30→(bO x).1=5)∧(aF x.1.op=31→(bO x).1=2)∧(aF x.1.op=0→(bO x).1= -1)∧(aF x.1.op=7→(bO x).1= -1):=by
 unfold bO
 refine⟨fun h=> ?_,fun h=> ?_,fun h=> ?_,fun h=> ?_,fun h=> ?_,fun h=> ?_⟩<;>rw[h]<;>rfl
theorem o0 {ns:List Node} {x:Node} (h:aG ns x=true):(aF x.1.op=27→x.1.args.length=3)∧(aF x.1.op=28→x.1.args.length=4)∧(aF x.1.op=31→x.1.args.length=2)∧(aF x.1.op=30→x.1.args.length=5)∧aF x.1.op≠0∧aF x.1.op≠7:=by
 have hl:=Fa h
 have hp:=OE (x:=x)
 refine⟨fun hh=> ?_,fun hh=> ?_,fun hh=> ?_,fun hh=> ?_,fun hh=> ?_,fun hh=> ?_⟩
 ·rw[hp.1 hh]at hl;omega
 ·rw[hp.2.1 hh]at hl;omega
 ·rw[hp.2.2.2.1 hh]at hl;omega
 ·rw[hp.2.2.1 hh]at hl;omega
 ·rw[hp.2.2.2.2.1 hh]at hl;omega
 ·rw[hp.2.2.2.2.2 hh]at hl;omega
theorem RD {ins:Int} {x:Node} (h:aN ins x=true) (hc:aF x.1.op=28):0≤x.1.n:=by
 unfold aN ax aJ at h
 rw[hc]at h
 rw[Bool.and_eq_true]at h
 have h2:(true&&((ak (Ct 28) 0)&&(x.1.ao.all eB&&((aj 0 x.1.n&&aj x.1.n x.1.m)&&_))))=true:=h.2
 simp only[Bool.and_eq_true]at h2
 exact gT h2.2.2.2.1.1
theorem Jh {ins:Int} {ns:List Node} {x:Node} (hr:aN ins x=true) (hl:aG ns x=true):cp x.1=(lA x.1).filter (aj 0):=by
 obtain⟨Uh,XM,XN,XO,n0,n7⟩:=o0 hl
 unfold cp lA
 by_cases ye:aF x.1.op=27
 ·obtain⟨a,b,c,e⟩:∃a b c,x.1.args=[a,b,c]:=by
   match x.1.args,Uh ye with
   | [a,b,c],_=>exact⟨a,b,c,rfl⟩
  rw[ye,e]
  show pick (tP 27 x.1.n _ 2) 0 [a,b,c]=List.filter (aj 0) [c]
  simp only[pick,List.filter_cons,List.filter_nil]
  cases aj 0 a<;>cases aj 0 b<;>cases aj 0 c<;>rfl
 by_cases I6:aF x.1.op=28
 ·obtain⟨a,b,c,d,e⟩:∃a b c d,x.1.args=[a,b,c,d]:=by
   match x.1.args,XM I6 with
   | [a,b,c,d],_=>exact⟨a,b,c,d,rfl⟩
  have hn:=RD hr I6
  rw[I6,e]
  show pick (tP 28 x.1.n _ 3) 0 [a,b,c,d]=List.filter (aj 0) (bif au 0 x.1.n then [b,d]else [a,b,d])
  simp only[pick]
  by_cases hz:x.1.n=0
  ·rw[hz]
   show _=List.filter (aj 0) [a,b,d]
   simp only[List.filter_cons,List.filter_nil]
   cases aj 0 a<;>cases aj 0 b<;>cases aj 0 c<;>cases aj 0 d<;>rfl
  ·rw[dF (show(0:Int)<x.1.n by omega)]
   have hf:ak x.1.n 0=false:=eE hz
   simp only[tP,hf,cond_true,List.filter_cons,List.filter_nil]
   cases aj 0 a<;>cases aj 0 b<;>cases aj 0 c<;>cases aj 0 d<;>rfl
 by_cases Jw:aF x.1.op=31
 ·obtain⟨a,b,e⟩:∃a b,x.1.args=[a,b]:=by
   match x.1.args,XN Jw with
   | [a,b],_=>exact⟨a,b,rfl⟩
  rw[Jw,e]
  show pick (tP 31 x.1.n _ 1) 0 [a,b]=List.filter (aj 0) [b]
  simp only[pick,List.filter_cons,List.filter_nil]
  cases aj 0 a<;>cases aj 0 b<;>rfl
 by_cases Jx:aF x.1.op=30
 ·obtain⟨a,b,c,d,e',e⟩:∃a b c d e,x.1.args=[a,b,c,d,e]:=by
   match x.1.args,XO Jx with
   | [a,b,c,d,e],_=>exact⟨a,b,c,d,e,rfl⟩
  rw[Jx,e]
  show pick (tP 30 x.1.n _ 4) 0 [a,b,c,d,e']=List.filter (aj 0) [c,e']
  simp only[pick,List.filter_cons,List.filter_nil]
  cases aj 0 a<;>cases aj 0 b<;>cases aj 0 c<;>cases aj 0 d<;>cases aj 0 e'<;>rfl
 rw[CM (CN (lO _) n0 n7 ye I6 Jx Jw _ _)]
 have XP:Nat.beq (aF x.1.op) 27=false:=by rw[Bool.eq_false_iff];exact fun h=>ye (Nat.eq_of_beq_eq_true h)
 have Ui:Nat.beq (aF x.1.op) 28=false:=by rw[Bool.eq_false_iff];exact fun h=>I6 (Nat.eq_of_beq_eq_true h)
 have Se:Nat.beq (aF x.1.op) 31=false:=by rw[Bool.eq_false_iff];exact fun h=>Jw (Nat.eq_of_beq_eq_true h)
 have XQ:Nat.beq (aF x.1.op) 30=false:=by rw[Bool.eq_false_iff];exact fun h=>Jx (Nat.eq_of_beq_eq_true h)
 rw[XP,Ui,Se,XQ]
 rfl
end Go.V
namespace Go.V
open Go.Proofs
abbrev rl (l:List Nat):PV:= .sl (nv l)
abbrev Uj (l:List Int):PV:=bH l
abbrev CO (l:List Int):List PV:=l.map iv
def AK (l:List Int):List Nat:=(l.filter (aj 0)).map Int.toNat
def fh (F:Nat→List Nat) (i:Nat) (l:List Nat):Nat→List Nat:=fun i'=>if i'=i then F i'++l else F i'
theorem gf {α:Type} {d:α} {l:List α} {i j:Nat} {b:α}:(l.set i b).getD j d=if i=j∧j<l.length then b else l.getD j d:=by
 rw[List.getD_eq_getElem?_getD,List.getD_eq_getElem?_getD,List.getElem?_set]
 by_cases h:i=j
 ·subst h
  by_cases h2:i<l.length
  ·simp[h2]
  ·simp[h2]
 ·simp[h]
theorem sJ {w:List Nat} {i:Nat} (h:i<w.length):nth default (nv w) i=iv ((w.getD i 0:Nat):Int):=by
 rw[show nv w=w.map (fun(i:Nat)=>iv ((i:Nat):Int))from rfl,aK _ _ _ _ h,List.getD_eq_getElem?_getD,List.getElem?_eq_getElem h];rfl
theorem Ao {rd:List (List Nat)} {i:Nat} (h:i<rd.length):nth default (rd.map rl) i=rl (rd.getD i []):=by
 rw[aK _ _ _ _ h,List.getD_eq_getElem?_getD,List.getElem?_eq_getElem h];rfl
theorem yq {x y:Nat} (h:x≠y):[x].count y=0:=List.count_eq_zero.2 (by simpa using fun hh=>h hh.symm)
theorem Fc (w:List Nat) (i a:Nat):nv (w.set i a)=(nv w).set i (iv (a:Int)):=List.map_set
theorem ME (rd:List (List Nat)) (i:Nat) (l:List Nat):(rd.set i l).map rl=(rd.map rl).set i (rl l):=List.map_set
theorem MF (l:List Nat) (i:Nat):rl (l++[i])= .sl (nv l++[iv (i:Int)]):=by simp[rl,nv]
structure sK (N:Nat) (F:Nat→List Nat) (w:List Nat) (rd:List (List Nat)) (T:Nat):Prop where
 lw:w.length=N
 lr:rd.length=N
 w:∀i,i<N→w.getD i 0=(F i).length
 c:∀a,a<N→∀i,i<N→(rd.getD a []).count i=(F i).count a
 r:∀a,a<N→∀r∈rd.getD a [],r<N
 t:∀a,a<N→(rd.getD a []).length≤T
 wt:∀i,i<N→(F i).length≤T
theorem sK.mono {N:Nat} {F:Nat→List Nat} {w:List Nat} {rd:List (List Nat)} {T T':Nat} (h:sK N F w rd T) (ht:T≤T'):sK N F w rd T':=
 {h with t:=fun a ha=>Nat.le_trans (h.t a ha) ht,wt:=fun a ha=>Nat.le_trans (h.wt a ha) ht}
theorem sK.step {N:Nat} {F:Nat→List Nat} {w:List Nat} {rd:List (List Nat)} {T:Nat} (h:sK N F w rd T) {i a:Nat} (hi:i<N) (ha:a<N):
  sK N (fh F i [a]) (w.set i (w.getD i 0+1)) (rd.set a (rd.getD a []++[i])) (T+1):=by
 refine⟨by rw[List.length_set,h.lw],by rw[List.length_set,h.lr],fun j hj=> ?_,fun b hb j hj=> ?_,fun b hb r hr=> ?_,fun b hb=> ?_,fun j hj=> ?_⟩
 ·rw[gf,fh]
  by_cases e:i=j
  ·subst e
   rw[if_pos ⟨rfl,by rw[h.lw];exact hj⟩,if_pos rfl,h.w i hi];simp
  ·rw[if_neg (fun hh=>e hh.1),if_neg (fun hh=>e hh.symm),h.w j hj]
 ·rw[gf,fh]
  have hc:=h.c b hb j hj
  by_cases e:a=b
  ·subst e
   rw[if_pos ⟨rfl,by rw[h.lr];exact hb⟩,List.count_append,hc]
   by_cases e2:j=i
   ·subst e2;rw[if_pos rfl,List.count_append];simp
   ·rw[if_neg e2,yq (fun hh=>e2 hh.symm)];rfl
  ·rw[if_neg (fun hh=>e hh.1),hc]
   by_cases e2:j=i
   ·subst e2
    rw[if_pos rfl,List.count_append,yq e];rfl
   ·rw[if_neg e2]
 ·rw[gf]at hr
  split at hr
  ·rcases List.mem_append.1 hr with hr | hr
   ·exact h.r a ha r hr
   ·rw[List.mem_singleton]at hr;omega
  ·exact h.r b hb r hr
 ·rw[gf]
  split
  ·have:=h.t a ha;rw[List.length_append,List.length_singleton];omega
  ·have:=h.t b hb;omega
 ·rw[fh]
  have:=h.wt j hj
  split
  ·simp;omega
  ·omega
theorem GV (F:Nat→List Nat) (i:Nat) (l m:List Nat):fh (fh F i l) i m=fh F i (l++m):=by
 funext j
 unfold fh
 split<;>simp
theorem GW (F:Nat→List Nat) (i:Nat):fh F i []=F:=by
 funext j
 unfold fh
 split<;>simp
section
variable {call:aw} {k m1:Nat} {v0 v1 v2 v3 v4 v5 v6 v7 v8 v9 v10 v11:PV}
theorem MG {N:Nat} {l:List Int} (hl:l.length≤1000) (hN:∀a∈l,0≤a→a<N) {i:Nat} (hi:i<N):∀(n j:Nat) (F:Nat→List Nat) (w:List Nat) (rd:List (List Nat)) (T:Nat),l.length-j<n→sK N F w rd T→T+(l.length-j)≤4000000→
  ∃w' yr,sK N (fh F i (AK (l.drop j))) w' yr (T+(l.length-j))∧
   Gk call k m1 n v0 v1 v2 (nv w) (rd.map rl) (iv i) v6 v7 v8 (Uj l) (iv l.length) (iv j)=sn call k m1 v0 v1 v2 (nv w') (yr.map rl) v6 v7 v8
 | 0,j,F,w,rd,T,h,_,_=>by omega
 | n+1,j,F,w,rd,T,h,hB,hT=>by
  rw[Eg]
  by_cases hj:j<l.length
  ·have hn:nth default (l.map iv) j=iv l[j]:=aK _ _ _ _ hj
   have Uk:=hN _ (bz hj)
   have hlw:=hB.lw
   have hlr:=hB.lr
   have Ul:i<w.length:=by omega
   simp only[TT,ab,aa,Ty.eq,hj,hn,Uj,CO,xW,tq,aq (show j<4611686018427387904 by omega)]
   rw[bb hj]
   generalize hA:l[j]=A at*
   cases h0:aj 0 A
   ·obtain⟨w',yr,h1,h2⟩:=MG hl hN hi n (j+1) F w rd T (by omega) hB (by omega)
    refine⟨w',yr, ?_, ?_⟩
    ·rw[show AK (A::l.drop (j+1))=AK (l.drop (j+1))by unfold AK;rw[List.filter_cons,h0];rfl]
     exact h1.mono (by omega)
    ·simp only[cond_false]
     exact h2
   ·have Uk:=Uk (gT h0)
    obtain⟨a,rfl⟩:∃a:Nat,A=a:=⟨A.toNat,by have:=gT h0;omega⟩
    have ha:a<N:=by omega
    have RE:a<rd.length:=by omega
    have XR:=hB.step hi ha
    obtain⟨w',yr,h1,h2⟩:=MG hl hN hi n (j+1) _ _ _ (T+1) (by omega) XR (by omega)
    refine⟨w',yr, ?_, ?_⟩
    ·rw[GV]at h1
     rw[show AK ((a:Int)::l.drop (j+1))=[a]++AK (l.drop (j+1))by unfold AK;rw[List.filter_cons,h0];rfl]
     rw[show T+(l.length-j)=T+1+(l.length- (j+1))by omega]
     exact h1
    ·have ht:=hB.t a ha
     have Tv:=hB.w i hi
     have Sc:=hB.wt i hi
     simp only[TT,ab,aa,Ty.eq,List.length_map,Ul,RE,Ao RE,sJ Ul,tL,aq (show w.getD i 0<4611686018427387904 by omega),List.reverse_singleton,List.length_singleton,jo]
     rw[kQ (show((rd.getD a []).length+1)*8≤room by show _≤140737488355328;omega)]
     rw[Fc,ME,MF]at h2
     exact h2
  ·refine⟨w,rd, ?_, ?_⟩
   ·rw[aT (by omega),show AK []=[]from rfl,GW]
    exact hB.mono (by omega)
   ·simp only[TT,ab,aa,Ty.eq,hj,Uj,CO]
end
section
variable {call:aw} {k m1:Nat} {v0 v1 v2 v3 v4 v5 v6 v7 v8 v9 v10 v11:PV}
theorem Ap {N:Nat} {l:List Int} (hl:l.length≤1000) (hN:∀a∈l,0≤a→a<N) {i:Nat} (hi:i<N):∀(n j:Nat) (F:Nat→List Nat) (w:List Nat) (rd:List (List Nat)) (T:Nat),l.length-j<n→sK N F w rd T→T+(l.length-j)≤4000000→
  ∃w' yr,sK N (fh F i (AK (l.drop j))) w' yr (T+(l.length-j))∧
   ui call k m1 n v0 v1 v2 (nv w) (rd.map rl) (iv i) v6 v7 v8 (CO l) (iv l.length) (iv j)=sn call k m1 v0 v1 v2 (nv w') (yr.map rl) v6 v7 v8
 | 0,j,F,w,rd,T,h,_,_=>by omega
 | n+1,j,F,w,rd,T,h,hB,hT=>by
  rw[zu]
  by_cases hj:j<l.length
  ·have hn:nth default (l.map iv) j=iv l[j]:=aK _ _ _ _ hj
   have Uk:=hN _ (bz hj)
   have hlw:=hB.lw
   have hlr:=hB.lr
   have Ul:i<w.length:=by omega
   simp only[TT,ab,aa,Ty.eq,hj,hn,Uj,CO,xW,tq,aq (show j<4611686018427387904 by omega)]
   rw[bb hj]
   generalize hA:l[j]=A at*
   cases h0:aj 0 A
   ·obtain⟨w',yr,h1,h2⟩:=Ap hl hN hi n (j+1) F w rd T (by omega) hB (by omega)
    refine⟨w',yr, ?_, ?_⟩
    ·rw[show AK (A::l.drop (j+1))=AK (l.drop (j+1))by unfold AK;rw[List.filter_cons,h0];rfl]
     exact h1.mono (by omega)
    ·simp only[cond_false]
     exact h2
   ·have Uk:=Uk (gT h0)
    obtain⟨a,rfl⟩:∃a:Nat,A=a:=⟨A.toNat,by have:=gT h0;omega⟩
    have ha:a<N:=by omega
    have RE:a<rd.length:=by omega
    have XR:=hB.step hi ha
    obtain⟨w',yr,h1,h2⟩:=Ap hl hN hi n (j+1) _ _ _ (T+1) (by omega) XR (by omega)
    refine⟨w',yr, ?_, ?_⟩
    ·rw[GV]at h1
     rw[show AK ((a:Int)::l.drop (j+1))=[a]++AK (l.drop (j+1))by unfold AK;rw[List.filter_cons,h0];rfl]
     rw[show T+(l.length-j)=T+1+(l.length- (j+1))by omega]
     exact h1
    ·have ht:=hB.t a ha
     have Tv:=hB.w i hi
     have Sc:=hB.wt i hi
     simp only[TT,ab,aa,Ty.eq,List.length_map,Ul,RE,Ao RE,sJ Ul,tL,aq (show w.getD i 0<4611686018427387904 by omega),List.reverse_singleton,List.length_singleton,jo]
     rw[kQ (show((rd.getD a []).length+1)*8≤room by show _≤140737488355328;omega)]
     rw[Fc,ME,MF]at h2
     exact h2
  ·refine⟨w,rd, ?_, ?_⟩
   ·rw[aT (by omega),show AK []=[]from rfl,GW]
    exact hB.mono (by omega)
   ·simp only[TT,ab,aa,Ty.eq,hj,Uj,CO]
end
end Go.V
namespace Go.V
open Go.Proofs
theorem gg:∀ {p:Nat→Bool} {i:Nat} {l:List Int} {a:Int},a∈pick p i l→a∈l
 | p,i,[],a,h=>by cases h
 | p,i,b::l,a,h=>by
  rw[pick]at h
  cases hc:(p i&&aj 0 b)with
  | true=>
   rw[hc,cond_true]at h
   rcases List.mem_cons.1 h with rfl | h
   ·simp
   ·exact List.mem_cons_of_mem _ (gg h)
  | false=>rw[hc,cond_false]at h;exact List.mem_cons_of_mem _ (gg h)
theorem wB {ns:List Node} {c:Nat} {lim:Int}:∀ {l:List Int} {j:Nat},bI ns c lim j l=true→∀a∈l, -1≤a∧a<ns.length
 | [],j,_,a,h=>by cases h
 | b::l,j,h,a,ha=>by
  rw[bI,Bool.and_eq_true]at h
  rcases List.mem_cons.1 ha with rfl | ha
  ·have h1:=h.1
   unfold wa at h1
   simp only[Bool.and_eq_true,Bool.not_eq_true']at h1
   exact⟨cM h1.1,jG h1.2.1⟩
  ·exact wB h.2 a ha
theorem jJ {ns:List Node} {x:Node} (h:aG ns x=true):∀a∈x.1.args, -1≤a∧a<ns.length:=by
 unfold aG at h
 simp only[Bool.and_eq_true]at h
 exact wB h.2.1
theorem CP (a:Nat):ak ((a:Nat):Int) 0=Nat.beq a 0:=by
 cases a with
 | zero=>rfl
 | succ a=>rw[eE (by omega)];rfl
def Fj (D:Nat→List Nat) (j:Nat):Nat→List Nat:=fun i=>if i<j then D i else []
theorem GX (D:Nat→List Nat) (j:Nat):fh (Fj D j) j (D j)=Fj D (j+1):=by
 funext i
 unfold fh Fj
 by_cases h:i=j
 ·subst h;simp
 ·rw[if_neg h]
  by_cases h2:i<j
  ·rw[if_pos h2,if_pos (by omega)]
  ·rw[if_neg h2,if_neg (by omega)]
section
variable {E:Nat→aw} {k m1:Nat} {v0 v1 v2 v3 v4 v5 v6 v7 v8 v9 v10 v11:PV}
theorem MH (hE:mo E) (hk:KK+1≤k) {n:Net} (hc:XC n):∀(f j:Nat) (w:List Nat) (rd:List (List Nat)) (T:Nat),n.nodes.length-j<f→j≤n.nodes.length→sK n.nodes.length (Fj (jd n.nodes) j) w rd T→T+(n.nodes.length-j)*1000≤3000000→
  ∃w' yr T',sK n.nodes.length (Fj (jd n.nodes) n.nodes.length) w' yr T'∧T'≤3000000∧
   Gl (E k) k f v0 (.sl (n.nodes.map af)) v2 (nv w) (rd.map rl) (.sl (n.nodes.map af)) (iv n.nodes.length) (iv j)=
   vz (E k) k k v0 (.sl (n.nodes.map af)) v2 (nv w') (yr.map rl) ((List.replicate n.nodes.length false).map PV.bool) (iv n.nodes.length) (iv (0:Nat))
 | 0,j,w,rd,T,h,_,_,_=>by omega
 | f+1,j,w,rd,T,h,Dd,hB,hT=>by
  have kV:=bN
  have hl:=hc.l
  rw[Eh]
  by_cases hj:j<n.nodes.length
  ·have hn:nth default (n.nodes.map af) j=af n.nodes[j]:=aK _ _ _ _ hj
   have hm:=bz hj
   have hr:=hc.right _ hm
   have Tm:=hc.linked _ hm
   obtain⟨Uh,XM,XN,XO,_,_⟩:=o0 Tm
   have AD:=(hc.ok.nf _ hm).yd
   have Xy:=(hc.s.nd _ hm).1
   have heq:=Jh hr Tm
   have b6:=jJ Tm
   have hx:n.nodes[j]? =some n.nodes[j]:=List.getElem?_eq_getElem hj
   have hD:jd n.nodes j=AK (lA n.nodes[j].1):=by
    unfold jd AK
    rw[hx, ←heq]
   have OS:(lA n.nodes[j].1).length≤1000:=by
    unfold lA
    cases Nat.beq (aF n.nodes[j].1.op) 27
    ·cases Nat.beq (aF n.nodes[j].1.op) 28
     ·cases Nat.beq (aF n.nodes[j].1.op) 31
      ·cases Nat.beq (aF n.nodes[j].1.op) 30
       ·exact Xy
       ·simp
      ·simp;omega
     ·cases au 0 n.nodes[j].1.n<;>simp
    ·simp;omega
   have hN:∀a∈lA n.nodes[j].1,0≤a→a<(n.nodes.length:Int):=by
    intro a ha h0
    have:a∈cp n.nodes[j].1:=by
     rw[heq,List.mem_filter];exact⟨ha,b7 h0⟩
    exact(b6 a (gg this)).2
   simp only[TT,ab,aa,Ty.eq,hj,hn,gH]
   rcases f81 hE hk n.nodes[j] AD Uh XM XN XO with h | h
   ·rw[h]
    obtain⟨w1,XS,h1,h2⟩:=MG (call:=E k) (k:=k) (m1:=f) (v0:=v0) (v1:= .sl (n.nodes.map af)) (v2:=v2) (v6:= .sl (n.nodes.map af)) (v7:=iv n.nodes.length) (v8:=iv j) OS hN hj k 0 _ _ _ T (by omega) hB (by omega)
    rw[List.drop_zero, ←hD,GX]at h1
    obtain⟨w',yr,T',h3,h4,h5⟩:=MH hE hk hc f (j+1) w1 XS _ (by omega) (by omega) h1 (by omega)
    refine⟨w',yr,T',h3,h4, ?_⟩
    simp only[ab,aa,Ty.eq,Nat.beq_refl,cond_true,tL,List.length_map]
    refine h2.trans ?_
    rw[xX,tI,aq (show j<4611686018427387904 by omega)]
    exact h5
   ·rw[h]
    obtain⟨w1,XS,h1,h2⟩:=Ap (call:=E k) (k:=k) (m1:=f) (v0:=v0) (v1:= .sl (n.nodes.map af)) (v2:=v2) (v6:= .sl (n.nodes.map af)) (v7:=iv n.nodes.length) (v8:=iv j) OS hN hj k 0 _ _ _ T (by omega) hB (by omega)
    rw[List.drop_zero, ←hD,GX]at h1
    obtain⟨w',yr,T',h3,h4,h5⟩:=MH hE hk hc f (j+1) w1 XS _ (by omega) (by omega) h1 (by omega)
    refine⟨w',yr,T',h3,h4, ?_⟩
    simp only[ab,fU,cB,Ty.eq,Nat.beq_refl,cond_true,cond_false,List.length_map]
    refine h2.trans ?_
    rw[xX,tI,aq (show j<4611686018427387904 by omega)]
    exact h5
  ·have:j=n.nodes.length:=by omega
   subst this
   refine⟨w,rd,T,hB,by omega, ?_⟩
   simp only[TT,ab,aa,Ty.eq,hj,List.map_replicate,List.length_replicate]
   rw[b7 (show(n.nodes.length:Int)≤140737488355328 by omega),b7 (show(n.nodes.length:Int)≤(n.nodes.length:Int)by omega),b7 (show((1:Nat):Int)* (n.nodes.length:Int)≤140737488355328 by omega)]
   rfl
end
section
variable {call:aw} {k m1:Nat} {v0 v1 v2 v3 v4 v5 v6 v7 v8 v9 v10 v11:PV} {w4:List PV}
theorem MI {N:Nat} {w:List Nat} (hN:N≤2000) (hw:w.length=N):∀(f j:Nat) (re:List Bool),N-j<f→re.length=N→(∀i,i<j→re.getD i false=Nat.beq (w.getD i 0) 0)→
  ∃Jy:List Bool,Jy.length=N∧(∀i,i<N→Jy.getD i false=Nat.beq (w.getD i 0) 0)∧
   vz call k f v0 v1 v2 (nv w) w4 (re.map PV.bool) (iv N) (iv j)=qj call k k v0 v1 v2 (nv w) w4 (Jy.map PV.bool) (nv []) (iv (0:Nat))
 | 0,j,re,h,_,_=>by omega
 | f+1,j,re,h,hr,hi=>by
  rw[BR]
  by_cases hj:j<N
  ·have Zr:j<w.length:=by omega
   have Sf:j<re.length:=by omega
   obtain⟨Jy,h1,h2,h3⟩:=MI hN hw f (j+1) (re.set j (Nat.beq (w.getD j 0) 0)) (by omega) (by rw[List.length_set];exact hr) (fun i Ay=>by
    rw[gf]
    by_cases e:j=i
    ·subst e;rw[if_pos ⟨rfl,Sf⟩]
    ·rw[if_neg (fun hh=>e hh.1)];exact hi i (by omega))
   refine⟨Jy,h1,h2, ?_⟩
   simp only[TT,ab,aa,Ty.eq,hj,Zr,Sf,sJ Zr,CP,aq (show j<4611686018427387904 by omega)]
   rw[List.map_set]at h3
   exact h3
  ·refine⟨re,hr,fun i Hh=>hi i (by omega), ?_⟩
   simp only[TT,ab,aa,Ty.eq,hj]
   rfl
theorem Um (a b:Nat):(if(b:Int)<(a:Int)then(b:Int)else(a:Int))=((min a b:Nat):Int):=by
 by_cases h:b<a
 ·rw[if_pos (by omega)];omega
 ·rw[if_neg (by omega)];omega
theorem MJ {D:Nat→List Nat} {N at_:Nat} {rd:List (List Nat)} {od:List Nat} (CY:at_<N) (lH:rd.length=N) (hD:∀i,i<N→(D i).length≤3000000) (hR:(rd.getD at_ []).length≤3000000):
  ∀(n j:Nat) (w:List Nat) (re:List Bool) (nx:Nat),(rd.getD at_ []).length-j<n→wA D N w re od nx ((rd.getD at_ []).drop j)→
  ∃w' Jy Sg,px D N w' Jy od Sg∧zt call k m1 n v0 v1 v2 (nv w) (rd.map rl) (re.map PV.bool) (nv od) (iv nx) at_ at_ (iv (rd.getD at_ []).length) (iv j)=
   qj call k m1 v0 v1 v2 (nv w') (rd.map rl) (Jy.map PV.bool) (nv od) (iv Sg)
 | 0,j,w,re,nx,h,_=>by omega
 | n+1,j,w,re,nx,h,hI=>by
  rw[BP]
  have RE:at_<rd.length:=by omega
  by_cases hj:j<(rd.getD at_ []).length
  ·have hn:nth default (nv (rd.getD at_ [])) j=iv (((rd.getD at_ [])[j]:Nat):Int):=aK _ (fun(i:Nat)=>iv ((i:Nat):Int)) _ _ hj
   rw[bb hj]at hI
   generalize Zs:(rd.getD at_ [])[j]=r at*
   obtain⟨P8,wS⟩:=hI.pos
   have XT:=hI.rel
   have Vq:r<w.length:=by rw[hI.lw];exact P8
   have XU:r<re.length:=by rw[hI.lr];exact P8
   have hwb:w.getD r 0≤9000000:=by
    have h1:=hI.wait r P8
    have h2:=hD r P8
    have h3:nP od (D r)≤(D r).length:=List.countP_le_length
    have h4:(r::(rd.getD at_ []).drop (j+1)).count r≤(r::(rd.getD at_ []).drop (j+1)).length:=List.count_le_length
    rw[List.length_cons,List.length_drop]at h4
    omega
   have hwr:IntKind.i64.wrap ((w.getD r 0:Nat)- (1:Int))=((w.getD r 0-1:Nat):Int):=by
    rw[bJ (by omega) (by omega)];omega
   obtain⟨w',Jy,Sg,h1,h2⟩:=MJ CY lH hD hR n (j+1) _ _ _ (by omega) XT
   refine⟨w',Jy,Sg,h1, ?_⟩
   have yM:(w.set r (w.getD r 0-1)).getD r 0=w.getD r 0-1:=by rw[gf,if_pos ⟨rfl,Vq⟩]
   have Un:r<(w.set r (w.getD r 0-1)).length:=by rw[List.length_set];exact Vq
   simp only[TT,ab,aa,Ty.eq,hj,Ao RE,hn,Vq,XU,sJ Vq,hwr, ←Fc,sJ Un,yM,Un,CP,Ii,Um,aq (show j<4611686018427387904 by omega)]
   cases hz:Nat.beq (w.getD r 0-1) 0 with
   | true=>
    simp only[hz,cond_true]at h2 ⊢
    rw[List.map_set]at h2
    exact h2
   | false=>
    simp only[hz,cond_false]at h2 ⊢
    exact h2
  ·rw[aT (by omega)]at hI
   refine⟨w,re,nx,hI.fin, ?_⟩
   simp only[TT,ab,aa,Ty.eq,hj]
theorem Fe {D:Nat→List Nat} {N:Nat} {ns:List Node} {rd:List (List Nat)} (hk:KK≤k) (hN:N≤2000) (wL:ns.length=N) (lH:rd.length=N) (hD:∀i,i<N→(D i).length≤3000000) (hR:∀a,a<N→(rd.getD a []).length≤3000000)
  (hc:∀a,a<N→∀i,i<N→(rd.getD a []).count i=(D i).count a) (hr:∀a,a<N→∀r∈rd.getD a [],r<N) (b6:∀i,i<N→∀a∈D i,a<N):
  ∀(f:Nat) (w:List Nat) (re:List Bool) (od:List Nat) (nx:Nat),(N-od.length)* (N+1)+(N-nx)<f→px D N w re od nx→
  ∃l b,(b=true↔ ∀i,i<N→wq D i)∧qj call k f v0 (.sl (ns.map af)) v2 (nv w) (rd.map rl) (re.map PV.bool) (nv od) (iv nx)=some ([.pv (.sl 3) l,aB b],[])
 | 0,w,re,od,nx,h,_=>by omega
 | f+1,w,re,od,nx,h,hA=>by
  have kV:=bN
  rw[BQ]
  by_cases hj:nx<N
  ·have Sf:nx<re.length:=by rw[hA.lr];exact hj
   have UM:nx<rd.length:=by omega
   simp only[TT,ab,aa,Ty.eq,Sf,UM,qq,Ao UM,aq (show nx<4611686018427387904 by omega),List.reverse_singleton,List.length_singleton]
   cases hb:re.getD nx false with
   | false=>
    simp only[Bool.not_false,cond_true]
    exact Fe hk hN wL lH hD hR hc hr b6 f w re od (nx+1) (by omega) (hA.skip hb)
   | true=>
    have hT:=hA.take hb hj (rd:=rd.getD nx []) (hc nx hj) (hr nx hj)
    have hlen:=hT.len
    rw[List.length_append,List.length_singleton]at hlen
    obtain⟨w',Jy,Sg,h1,h2⟩:=MJ (call:=call) (k:=k) (m1:=f) (v0:=v0) (v1:= .sl (ns.map af)) (v2:=v2) hj lH hD (hR nx hj) k 0 w _ _ (by have:=hR nx hj;omega) (by rw[List.drop_zero];exact hT)
    obtain⟨m,hm⟩:∃m,N-od.length=m+1:=⟨N-od.length-1,by omega⟩
    rw[hm,Nat.succ_mul]at h
    obtain⟨l,b,h3,h4⟩:=Fe hk hN wL lH hD hR hc hr b6 f w' Jy _ Sg (by rw[List.length_append,List.length_singleton,show N- (od.length+1)=m by omega];omega) h1
    refine⟨l,b,h3, ?_⟩
    rw[←h4, ←h2]
    rw[kQ (show(od.length+1)*8≤room by show _≤140737488355328;omega)]
    simp only[Bool.not_true,cond_true,cond_false,List.map_set,nv,List.map_append,List.map_cons,List.map_nil]
    rfl
  ·have Sf:¬nx<re.length:=by rw[hA.lr];exact hj
   refine⟨.sl (nv od),ak (od.length:Int) (N:Int), ?_, ?_⟩
   ·rw[←hA.out (by omega) b6]
    constructor
    ·intro hh;have:=dW hh;omega
    ·intro hh;rw[hh];exact lk rfl
   ·simp only[TT,ab,aa,Ty.eq,Sf,wL]
end
theorem yl:XF:=by
 intro E hE n k hk hc
 obtain⟨j,hj,e⟩:=hE.at (show KK+(8+1)≤k by omega) 70 [cn n] rfl rfl
 have kV:=bN
 have hl:=hc.l
 rw[e,R70]
 simp only[TT,ab,aa,Ty.eq]
 rw[b7 (show(n.nodes.length:Int)≤140737488355328 by omega),b7 (show(n.nodes.length:Int)≤(n.nodes.length:Int)by omega),b7 (show((8:Nat):Int)* (n.nodes.length:Int)≤140737488355328 by omega),b7 (show((24:Nat):Int)* (n.nodes.length:Int)≤140737488355328 by omega)]
 have gr:∀ {α:Type} (d x:α) (i N:Nat),i<N→(List.replicate N x).getD i d=x:=by
  intro α d x i N h
  rw[List.getD_eq_getElem?_getD,List.getElem?_replicate,if_pos h];rfl
 have hB0:sK n.nodes.length (Fj (jd n.nodes) 0) (List.replicate n.nodes.length 0) (List.replicate n.nodes.length []) 0:=by
  refine⟨by simp,by simp,fun i hi=> ?_,fun a ha i hi=> ?_,fun a ha r hr=> ?_,fun a ha=> ?_,fun i hi=> ?_⟩
  ·rw[gr _ _ _ _ hi];rfl
  ·rw[gr _ _ _ _ ha];rfl
  ·rw[gr _ _ _ _ ha]at hr;cases hr
  ·rw[gr _ _ _ _ ha];simp
  ·exact Nat.zero_le _
 obtain⟨w,rd,T,h1,h2,h3⟩:=MH hE (v0:=iv n.ins) (v2:=bH n.outs) (show KK+1≤j by omega) hc j 0 _ _ 0 (by omega) (by omega) hB0 (by omega)
 obtain⟨re,h4,h5,h6⟩:=MI (call:=E j) (k:=j) (v0:=iv n.ins) (v1:= .sl (n.nodes.map af)) (v2:=bH n.outs) (w4:=rd.map rl) (N:=n.nodes.length) hl h1.lw j 0 (List.replicate n.nodes.length false) (by omega) (by simp) (fun i hi=>by omega)
 have hF:∀i,i<n.nodes.length→Fj (jd n.nodes) n.nodes.length i=jd n.nodes i:=fun i hi=>if_pos hi
 have Uo:∀i,i<n.nodes.length→∀a∈jd n.nodes i,a<n.nodes.length:=by
  intro i hi a ha
  unfold jd at ha
  rw[List.getElem?_eq_getElem hi]at ha
  simp only[List.mem_map]at ha
  obtain⟨b,hb,rfl⟩:=ha
  have h0:=cN hb
  have h1:=(jJ (hc.linked _ (bz hi)) b (gg hb)).2
  omega
 have hA:px (jd n.nodes) n.nodes.length w re [] 0:=px.start h1.lw (fun i hi=>by rw[h1.w i hi,hF i hi]) h4 h5
 obtain⟨l,b,h7,h8⟩:=Fe (call:=E j) (k:=j) (v0:=iv n.ins) (v2:=bH n.outs) (ns:=n.nodes) (D:=jd n.nodes) (show KK≤j by omega) hl rfl h1.lr (fun i hi=>by rw[←hF i hi];exact Nat.le_trans (h1.wt i hi) h2) (fun a ha=>Nat.le_trans (h1.t a ha) h2)
  (fun a ha i hi=>by rw[h1.c a ha i hi,hF i hi]) h1.r Uo j w re [] 0 (by
   have:(n.nodes.length-0)* (n.nodes.length+1)≤2000*2001:=Nat.mul_le_mul (by omega) (by omega)
   rw[List.length_nil];omega) hA
 refine⟨l, ?_⟩
 rw[show lQ n.nodes=b by rw[Bool.eq_iff_iff,MD Uo,h7]]
 rw[←h8, ←h6]
 rw[List.map_replicate,show nv (List.replicate n.nodes.length 0)=List.replicate n.nodes.length (iv ((0:Nat):Int))from List.map_replicate]at h3
 exact h3
end Go.V
