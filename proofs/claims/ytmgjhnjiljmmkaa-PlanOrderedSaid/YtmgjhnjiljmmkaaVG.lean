/- What a row's reading of plain data says of pure values, and how a law follows from what the evaluator tells. Conditions: those that each theorem names. (Names are short so that the claim keeps to its size.) -/
import Derived.Test.YtmgjhnjiljmmkaaVC
import Derived.ChangeArms
import Derived.ChangeSame
import Derived.SizedLaws
import Derived.WideKeyArgs
import Derived.Deep.OwnRows
import Derived.RowKit
import Derived.JoinedCond
import Derived.Deep.CondSized
set_option linter.unusedSimpArgs false
set_option linter.unusedVariables false
namespace Go.V
inductive WT (P:Program):Ty→PV→Prop
 | int (k:IntKind) (n:Int) (h:(Lit.int k n).wf=true):WT P (.int k) (.int k n)
 | bool (b:Bool):WT P .bool (.bool b)
 | str (s:ByteArray) (h:s.size≤reachBytes):WT P .str (.str s)
 | sl (e:TypeId) (l:List PV) (h:∀(i:Nat) (x:PV),l[i]? =some x→WT P (ai P e) x) (hl:l.length*P.bytesOf e≤reachBytes):WT P (.sl e) (.sl l)
 | st (t:TypeId) (xs:List PV) (hx:xs.length=(ae P deep t).length)
   (h:∀(i:Nat) (ty:Ty) (x:PV),(ae P deep t)[i]? =some ty→xs[i]? =some x→WT P ty x):WT P (.st t) (.agg xs)
mutual
def PV.sz:PV→Nat
 | .str s=>s.size+1
 | .sl l=>pd l+1
 | .agg l=>pd l+1
 | .int _ _=>1
 | .bool _=>1
 | .M9 _=>1
 | .Ql _ v=>v.sz+1
 | .ref _ v=>v.sz+1
 | .wN _ l=>pd l+1
 | .mp ks vs=>pd ks+pd vs+1
def pd:List PV→Nat
 | []=>0
 | x::r=>x.sz+pd r
end
mutual
def nN {H:Type}:DataW H→Nat
 | .lit (.string bytes)=>bytes.length+1
 | .lit _=>1
 | .nil=>1
 | .ptr d=>nN d+1
 | .slice elems spare=>oN elems+oN spare+1
 | .agg parts=>oN parts+1
 | .iface _ d=>nN d+1
 | .map entries=>KN entries+1
 | .held _=>1
def oN {H:Type}:List (DataW H)→Nat
 | []=>0
 | d::r=>nN d+oN r
def KN {H:Type}:List (Lit×DataW H)→Nat
 | []=>0
 | x::r=>Tj x+KN r
def Tj {H:Type}:Lit×DataW H→Nat
 | (.string bytes,d)=>bytes.length+nN d+1
 | (_,d)=>nN d+1
end
def KO (P:Program):Nat→List Field→Option Nat
 | o,[]=>some o
 | o,f::r=>bif Nat.beq f.offset o then KO P (o+P.cellsOf f.type) r else none
def ky (P:Program) (S:List TypeId) (t:TypeId):Bool:=
 match P.underlying t with
 | some .bool=>Nat.beq (P.cellsOf t) 1
 | some (.int _)=>Nat.beq (P.cellsOf t) 1
 | some .string=>Nat.beq (P.cellsOf t) 1
 | some (.slice e)=>Nat.beq (P.cellsOf t) 1&&(S.contains e&&decide (1≤P.cellsOf e))
 | some (.struct fs)=>fs.toList.all (fun f=>S.contains f.type)&&(decide (KO P 0 fs.toList=some (P.cellsOf t))&&decide (ae P deep t=fs.toList.flatMap fun f=>ae P deep f.type))
 | _=>false
def mY (P:Program) (t:TypeId):Bool:=match P.underlying t with | some (.struct _)=>true | _=>false
section
variable {H:Type} {enc:TypeId×Value→H} {P:Program} {w:World} {g:G} {base:Nat} {spare:Nat→Bool} {held:Bool} {S:List TypeId}
structure Cells (P:Program) (w:World) (g:G) (Wx:List Ty) (xs:List PV) (cs:List Value):Prop where
 lx:xs.length=Wx.length
 lc:cs.length=Wx.length
 h:∀(i:Nat) (ty:Ty) (x:PV) (c:Value),Wx[i]? =some ty→xs[i]? =some x→cs[i]? =some c→aV P w g ty x c∧WT P ty x
theorem Cells.append {t1 t2:List Ty} {x1 x2:List PV} {c1 c2:List Value} (a:Cells P w g t1 x1 c1) (b:Cells P w g t2 x2 c2):Cells P w g (t1++t2) (x1++x2) (c1++c2):=by
 refine⟨by simp[a.lx,b.lx],by simp[a.lc,b.lc],fun i ty x c ht hx hc=> ?_⟩
 by_cases hi:i<t1.length
 ·rw[List.getElem?_append_left hi]at ht
  rw[List.getElem?_append_left (by rw[a.lx];exact hi)]at hx
  rw[List.getElem?_append_left (by rw[a.lc];exact hi)]at hc
  exact a.h i ty x c ht hx hc
 ·rw[List.getElem?_append_right (by omega)]at ht
  rw[List.getElem?_append_right (by rw[a.lx];omega),a.lx]at hx
  rw[List.getElem?_append_right (by rw[a.lc];omega),a.lc]at hc
  exact b.h _ ty x c ht hx hc
theorem Cells.one {t:Ty} {x:PV} {c:Value} (h:aV P w g t x c) (k:WT P t x):Cells P w g [t] [x] [c]:=by
 refine⟨rfl,rfl,fun i ty x' c' ht hx hc=> ?_⟩
 cases i with
 | zero=>simp at ht hx hc;subst ht hx hc;exact⟨h,k⟩
 | succ i=>simp at ht
theorem vg:∀(a b:List PV),pd (a++b)=pd a+pd b
 | [],b=>by simp[pd]
 | x::a,b=>by simp[pd,vg a b,Nat.add_assoc]
theorem cG {t:TypeId} (h:∀fs,P.underlying t≠some (.struct fs)) (h':∀n e,P.underlying t≠some (.array n e)):ae P deep t=[ai P t]:=by
 unfold deep
 rw[ae]
 split
 ·rename_i fs hf;exact absurd hf (h fs)
 ·rename_i n e hf;exact absurd hf (h' n e)
 ·rfl
theorem FM {R:Nat→PV→Prop}:∀(ys:List (DataW H)) (o:Nat),(∀(i:Nat) (y:DataW H),ys[i]? =some y→∃x,R (o+i) x∧x.sz≤nN y)→
  ∃l:List PV,l.length=ys.length∧(∀(i:Nat) (x:PV),l[i]? =some x→R (o+i) x)∧pd l≤oN ys
 | [],o,_=>⟨[],rfl,fun i x hx=>by simp at hx,by simp[pd]⟩
 | y::ys,o,h=>by
  obtain⟨x,hx,hs⟩:=h 0 y rfl
  obtain⟨l,l1,l2,l3⟩:=FM (R:=R) ys (o+1) (fun i y' hy=>by
   have:=h (i+1) y' (by simpa using hy)
   rw[show o+1+i=o+(i+1)by omega];exact this)
  refine⟨x::l,by simp[l1],fun i z hz=> ?_,by simp only[pd,oN];omega⟩
  cases i with
  | zero=>simp at hz;subst hz;exact hx
  | succ i=>rw[show o+(i+1)=o+1+i by omega];exact l2 i z (by simpa using hz)
theorem nH {e:TypeId}:∀ {ds:List (DataW H)} {i:Nat} {d:DataW H},ds[i]? =some d→(∀n∈DataW.weightsAll P e ds,n≤reachBytes)→∀n∈d.weights P e,n≤reachBytes
 | d0::ds,0,d,hd,h,n,hn=>by
  simp at hd;subst hd
  exact h n (by simp only[DataW.weightsAll,List.mem_append];exact .inl hn)
 | d0::ds,i+1,d,hd,h,n,hn=>
  nH (ds:=ds) (i:=i) (by simpa using hd) (fun m hm=>h m (by simp only[DataW.weightsAll,List.mem_append];exact .inr hm)) n hn
theorem xP {n:Nat} {cs:List Value} (IH:∀t,S.contains t=true→∀cs d ps,DataW.trod enc P w base spare held n t cs=some (d,ps)→(∀n∈d.weights P t,n≤reachBytes)→
   ∃xs,Cells P w g (ae P deep t) xs cs∧pd xs+(if mY P t=true then 1 else 0)≤nN d):
  ∀(fs:List Field) (ys:List (DataW H×List MemPlace)) (o e:Nat),KO P o fs=some e→(∀f∈fs,S.contains f.type=true)→ys.length=fs.length→
   (∀(i:Nat) (f:Field),fs[i]? =some f→DataW.trod enc P w base spare held n f.type ((cs.drop f.offset).take (P.cellsOf f.type))=ys[i]?)→
   (∀n∈DataW.weightsEach P (fs.map (·.type)) (ys.map (·.1)),n≤reachBytes)→
   o≤e∧∃xs,Cells P w g (fs.flatMap fun f=>ae P deep f.type) xs ((cs.drop o).take (e-o))∧pd xs≤oN (ys.map (·.1))
 | [],ys,o,e,hl,_,hy,_,_=>by
  simp only[KO,Option.some.injEq]at hl
  subst hl
  exact⟨Nat.le_refl _,[],⟨rfl,by simp,fun i ty x c ht=>by simp at ht⟩,by simp[pd]⟩
 | f::fs,[],o,e,hl,_,hy,_,_=>by simp at hy
 | f::fs,y::ys,o,e,hl,hS,hy,hf,hw=>by
  simp only[KO]at hl
  cases ho:Nat.beq f.offset o with
  | false=>simp[ho]at hl
  | true=>
   simp only[ho,cond_true]at hl
   have ho:=Nat.eq_of_beq_eq_true ho
   have h0:=hf 0 f rfl
   simp only[List.getElem?_cons_zero]at h0
   obtain⟨x1,c1,s1⟩:=IH f.type (hS f (by simp)) _ y.1 y.2 h0 (fun n hn=>hw n (by simp only[List.map_cons,DataW.weightsEach,List.mem_append];exact .inl hn))
   obtain⟨le,x2,c2,s2⟩:=xP IH fs ys (o+P.cellsOf f.type) e hl (fun f' Wy=>hS f' (by simp[Wy])) (by simpa using hy) (fun i f' Wy=>hf (i+1) f' (by simpa using Wy))
    (fun n hn=>hw n (by simp only[List.map_cons,DataW.weightsEach,List.mem_append];exact .inr hn))
   refine⟨by omega,x1++x2, ?_, ?_⟩
   ·have e1:(cs.drop o).take (e-o)=((cs.drop f.offset).take (P.cellsOf f.type))++((cs.drop (o+P.cellsOf f.type)).take (e- (o+P.cellsOf f.type))):=by
     rw[show e-o=P.cellsOf f.type+(e- (o+P.cellsOf f.type))by omega,List.take_add,ho,List.drop_drop]
    rw[e1]
    exact c1.append c2
   ·rw[vg]
    simp only[List.map_cons,oN]
    split at s1<;>omega
theorem xi {t:Ty} {x:PV} {c:Value} (h:aV P w g t x c) (jw:∀u,t≠ .st u):c.cells= #[c]:=by
 cases h with
 | st t=>exact absurd rfl (jw t)
 | _=>rfl
theorem KP {H:Type} (s:ByteArray):nN (.lit (.string s.data.toList):DataW H)=s.size+1:=by
 simp only[nN]
 rw[Array.length_toList];rfl
theorem vh (hS:∀t,S.contains t=true→ky P S t=true) (AF:∀b,spare b=true) (nE:∀b,b<w.heap.size→g.tag b= .free):
  ∀(n:Nat) (t:TypeId),S.contains t=true→∀(cs:List Value) (d:DataW H) (ps:List MemPlace),DataW.trod enc P w base spare held n t cs=some (d,ps)→(∀n∈d.weights P t,n≤reachBytes)→
   ∃xs,Cells P w g (ae P deep t) xs cs∧pd xs+(if mY P t=true then 1 else 0)≤nN d
 | 0,t,_,cs,d,ps,h,_=>by simp[DataW.trod]at h
 | n+1,t,ht,cs,d,ps,h,hw=>by
  have hp:=hS t ht
  have IH:=vh hS AF nE n
  unfold ky at hp
  split at hp
  ·rename_i hu
   obtain⟨b,rfl,hx⟩:=DataW.trod_bool hu h
   simp only[Prod.mk.injEq]at hx
   obtain⟨rfl,rfl⟩:=hx
   rw[cG (by simp[hu]) (by simp[hu])]
   refine⟨[.bool b],Cells.one (by simp only[ai,hu];exact .bool b) (by simp only[ai,hu];exact .bool b),by simp[pd,PV.sz,mY,hu,nN]⟩
  ·rename_i k hu
   obtain⟨m,rfl,hx,YG⟩:=DataW.trod_int hu h
   simp only[Prod.mk.injEq]at hx
   obtain⟨rfl,rfl⟩:=hx
   rw[cG (by simp[hu]) (by simp[hu])]
   refine⟨[.int k m],Cells.one (by simp only[ai,hu];exact .int k m) (by simp only[ai,hu];exact .int k m YG),by simp[pd,PV.sz,mY,hu,nN]⟩
  ·rename_i hu
   obtain⟨s,rfl,hx,YG⟩:=DataW.trod_string hu h
   simp only[Prod.mk.injEq]at hx
   obtain⟨rfl,rfl⟩:=hx
   rw[cG (by simp[hu]) (by simp[hu])]
   have hlen:s.size≤reachBytes:=by
    have:=hw s.data.toList.length (by simp[DataW.weights])
    rw[Array.length_toList]at this;exact this
   refine⟨[.str s],Cells.one (by simp only[ai,hu];exact .str s) (by simp only[ai,hu];exact .str s hlen),by rw[KP];simp[pd,PV.sz,mY,hu]⟩
  ·rename_i e hu
   simp only[Bool.and_eq_true,decide_eq_true_eq]at hp
   obtain⟨_,Pb,jQ⟩:=hp
   have iK:ai P t= .sl e:=by simp[ai,hu]
   rw[cG (by simp[hu]) (by simp[hu]),iK]
   have wL:mY P t=false:=by simp[mY,hu]
   rcases DataW.trod_slice hu h with ⟨rfl,hx⟩ | ⟨a,len,cap,elems,rest,m,hm,rfl,hx,hb,hlc,UX,hlen,Jr,Tk,_⟩
   ·simp only[Prod.mk.injEq]at hx
    obtain⟨rfl,rfl⟩:=hx
    exact⟨[.sl []],Cells.one (.Jn e) (.sl e [] (fun i x hx=>by simp at hx) (by simp)),by simp[pd,PV.sz,wL,nN]⟩
   ·simp only[Prod.mk.injEq]at hx
    obtain⟨rfl,rfl⟩:=hx
    obtain rfl:n=m:=by omega
    obtain⟨Np,Pj⟩:=Tk (AF _)
    by_cases cU:cap=0
    ·have Ho:len=0:=by omega
     subst cU;subst Ho
     have he0:elems=[]:=List.eq_nil_of_length_eq_zero hlen
     subst he0
     exact⟨[.sl []],Cells.one (.ON e a) (.sl e [] (fun i x hx=>by simp at hx) (by simp)),by simp[pd,PV.sz,wL,nN]⟩
    ·
     have U3:∃OZ,w.cells? base a (P.cellsOf e)=some OZ:=by
      by_cases hl:0<len
      ·have h0:=Jr 0 hl
       rw[List.getElem?_eq_getElem (by omega)]at h0
       simp only[Nat.zero_mul,Addr.add,if_true,Option.bind_eq_some_iff]at h0
       obtain⟨OZ,h0,_⟩:=h0
       exact⟨OZ,h0⟩
      ·have h0:=Pj 0 (by omega)
       rw[List.getElem?_eq_getElem (by omega)]at h0
       have Ho:len=0:=by omega
       simp only[Ho,Nat.zero_add,Nat.zero_mul,Addr.add,if_true,Option.bind_eq_some_iff]at h0
       obtain⟨OZ,h0,_⟩:=h0
       exact⟨OZ,h0⟩
     obtain⟨OZ,U3⟩:=U3
     have N1:=World.cells?_block U3 jQ
     obtain⟨_,Ho,Q4⟩:=World.cells?_some U3
     have Tl:a.spot=none:=by
      have:=Q4 0 (by omega)
      simp only[Addr.add,if_true]at this
      rw[List.getElem?_eq_getElem (by omega)]at this
      exact World.cell?_spot this
     obtain⟨b,off,sp⟩:=a
     simp only at Tl
     subst Tl
     have jN:∀i,i<len→∃KQ y,w.cells? base ⟨b,off+i*P.cellsOf e,none⟩ (P.cellsOf e)=some KQ∧DataW.trod enc P w base spare held n e KQ=some y∧elems[i]? =some y:=by
      intro i hi
      have h0:=Jr i hi
      rw[List.getElem?_eq_getElem (by omega)]at h0
      rw[Option.bind_eq_some_iff]at h0
      obtain⟨KQ,h1,h2⟩:=h0
      rw[Addr.add_lit]at h1
      exact⟨KQ,_,h1,h2,List.getElem?_eq_getElem (by omega)⟩
     let R7:Nat→List Value:=fun i=>(w.cells? base ⟨b,off+i*P.cellsOf e,none⟩ (P.cellsOf e)).getD []
     let f:Nat→Value:=fun i=>if mY P e=true then .agg ⟨R7 i⟩else(R7 i).headD undef
     obtain⟨l,l1,l2,l3⟩:=FM (R:=fun i x=>aV P w g (ai P e) x (f i)∧WT P (ai P e) x∧(f i).cells=⟨R7 i⟩) (elems.map (·.1)) 0 (fun i y hy=>by
      rw[List.getElem?_map,Option.map_eq_some_iff]at hy
      obtain⟨y',rM,rfl⟩:=hy
      have hi:i<len:=by rw[←hlen];exact(List.getElem?_eq_some_iff.1 rM).1
      obtain⟨KQ,y2,h1,h2,h3⟩:=jN i hi
      rw[rM]at h3
      obtain rfl:=Option.some.inj h3
      have vi:∀n∈y'.1.weights P e,n≤reachBytes:=by
       refine nH (ds:=elems.map (·.1)) (i:=i) (by rw[List.getElem?_map,rM];rfl) (fun k hk=>hw k ?_)
       simp only[DataW.weights,hu,List.mem_cons,List.mem_append]
       exact .inr (.inl hk)
      obtain⟨xs,hx,hs⟩:=IH e Pb KQ y'.1 y'.2 h2 vi
      have Q5:R7 i=KQ:=by simp only[R7,h1,Option.getD_some]
      rw[Nat.zero_add]
      cases jw:mY P e with
      | true=>
       rw[jw]at hs
       simp only[if_true]at hs
       have wO:ai P e= .st e:=by
        unfold mY at jw
        split at jw
        ·rename_i fs Wz;simp[ai,Wz]
        ·cases jw
       refine⟨.agg xs,⟨?_, ?_, ?_⟩,by simpa[PV.sz]using hs⟩
       ·simp only[f,jw,if_true,wO,Q5]
        exact .st e xs KQ hx.lx hx.lc (fun j ty x c h1 h2 h3=>(hx.h j ty x c h1 h2 h3).1)
       ·rw[wO]
        refine .st e xs hx.lx (fun j ty x h1 h2=> ?_)
        have hj:j<KQ.length:=by rw[hx.lc];exact(List.getElem?_eq_some_iff.1 h1).1
        exact(hx.h j ty x _ h1 h2 (List.getElem?_eq_getElem hj)).2
       ·simp only[f,jw,if_true];rfl
      | false=>
       rw[jw]at hs
       have QN:=hS e Pb
       have Pk:ae P deep e=[ai P e]∧∀u,ai P e≠ .st u:=by
        unfold ky at QN
        unfold mY at jw
        split at QN
        ·rename_i wP;exact⟨cG (by simp[wP]) (by simp[wP]),by simp[ai,wP]⟩
        ·rename_i wP;exact⟨cG (by simp[wP]) (by simp[wP]),by simp[ai,wP]⟩
        ·rename_i wP;exact⟨cG (by simp[wP]) (by simp[wP]),by simp[ai,wP]⟩
        ·rename_i wP;exact⟨cG (by simp[wP]) (by simp[wP]),by simp[ai,wP]⟩
        ·rename_i wP;rw[wP]at jw;simp at jw
        ·cases QN
       rw[Pk.1]at hx
       obtain⟨x,rfl⟩:∃x,xs=[x]:=List.length_eq_one_iff.1 hx.lx
       obtain⟨c,rfl⟩:∃c,KQ=[c]:=List.length_eq_one_iff.1 hx.lc
       obtain⟨q1,q2⟩:=hx.h 0 _ x c rfl rfl rfl
       have hf:f i=c:=by simp[f,jw,Q5]
       refine⟨x,⟨by rw[hf];exact q1,q2, ?_⟩,by simpa[pd]using hs⟩
       rw[hf,Q5]
       exact xi q1 Pk.2)
     have qd:l.length=len:=by rw[l1,List.length_map,hlen]
     refine⟨[.sl l],Cells.one (qd▸ .sl e l b off cap f (fun i x hx=> ?_) (fun i hi j hj=> ?_) (nE _ N1) N1 (by omega)) (.sl e l (fun i x hx=> ?_) ?_), ?_⟩
     ·have:=(l2 i x hx).1;simpa using this
     ·have hx:=List.getElem?_eq_getElem hi
      have h3:=(l2 i _ hx).2.2
      rw[Nat.zero_add]at h3
      obtain⟨KQ,y2,h1,h2,Jo⟩:=jN i (by omega)
      obtain⟨_,Tm,CV⟩:=World.cells?_some h1
      have:=CV j (by omega)
      rw[Addr.add_lit]at this
      rw[this,h3]
      simp only[R7,h1,Option.getD_some]
      simp
     ·have:=(l2 i x hx).2.1;simpa using this
     ·have:=hw ((elems.map (·.1)).length*P.bytesOf e+(rest.map (·.1)).length*P.bytesOf e) (by
       simp only[DataW.weights,hu,List.mem_cons]
       left;rw[Nat.add_mul])
      rw[l1];omega
     ·simp only[pd,PV.sz,wL,nN]
      simp;omega
  ·rename_i fs hu
   simp only[Bool.and_eq_true,decide_eq_true_eq,List.all_eq_true]at hp
   obtain⟨hf,WA,VE⟩:=hp
   obtain⟨xs,m,hm,hx,hl,Br,Wz⟩:=DataW.trod_struct hu h
   obtain rfl:n=m:=by omega
   simp only[Prod.mk.injEq]at hx
   obtain⟨rfl,rfl⟩:=hx
   obtain⟨_,ys,c1,s1⟩:=xP (g:=g) (cs:=cs) IH fs.toList xs 0 _ WA hf (by simpa using Br) (fun i f hf=>Wz i f (by simpa using hf))
    (fun n hn=>hw n (by simp only[DataW.weights,hu];exact hn))
   rw[VE]
   refine⟨ys, ?_, ?_⟩
   ·rw[Nat.sub_zero,List.drop_zero, ←hl,List.take_length]at c1
    exact c1
   ·simp only[mY,hu,if_true,nN];omega
  ·cases hp
end
end Go.V
namespace Go.V
open Go.ChangeShapes Go.WideShapes Go.ChangeAt Go.RowKit
def sj (P:Program):List TypeId→List PV→List AO
 | t::ts,x::xs=> .pv (ai P t) x::sj P ts xs
 | _,_=>[]
def U4 (P:Program):List TypeId→List PV→Prop
 | [],[]=>True
 | t::ts,x::xs=>WT P (ai P t) x∧U4 P ts xs
 | _,_=>False
def FN:G:= {tag:=fun _=> .free,val:=fun _ _=>undef}
section
variable {H:Type} {enc:TypeId×Value→H} {P:Program} {w:World} {g:G} {base:Nat} {spare:Nat→Bool} {held:Bool} {S:List TypeId}
theorem N2 (hS:∀t,S.contains t=true→ky P S t=true) (AF:∀b,spare b=true) (nE:∀b,b<w.heap.size→g.tag b= .free) {t:TypeId} (ht:S.contains t=true) {v:Value} {d:DataW H} {ps:List MemPlace} {b0:Nat}
  (h:DataW.Trod enc P w base spare held t v d ps) (hv:Value.okWide P w .any b0 t v) (hw:∀n∈d.weights P t,n≤reachBytes):
  ∃x,aV P w g (ai P t) x v∧WT P (ai P t) x∧x.sz≤nN d:=by
 obtain⟨n,h⟩:=h
 obtain⟨xs,hx,hs⟩:=vh (g:=g) hS AF nE n t ht _ d ps h hw
 have hp:=hS t ht
 have leaf:ae P deep t=[ai P t]→mY P t=false→v.cells= #[v]→∃x,aV P w g (ai P t) x v∧WT P (ai P t) x∧x.sz≤nN d:=by
  intro h1 h2 h3
  rw[h1,h3]at hx
  rw[h2]at hs
  obtain⟨x,rfl⟩:∃x,xs=[x]:=List.length_eq_one_iff.1 hx.lx
  obtain⟨q1,q2⟩:=hx.h 0 _ x v rfl rfl rfl
  exact⟨x,q1,q2,by simpa[pd]using hs⟩
 unfold ky at hp
 split at hp
 ·rename_i hu
  refine leaf (cG (by simp[hu]) (by simp[hu])) (by simp[mY,hu]) ?_
  simp only[Value.okWide,hu,Cell.okWide,Cell.ok]at hv
  cases v<;>first | rfl | (exfalso;exact hv)
 ·rename_i k hu
  refine leaf (cG (by simp[hu]) (by simp[hu])) (by simp[mY,hu]) ?_
  simp only[Value.okWide,hu,Cell.okWide,Cell.ok]at hv
  cases v<;>first | rfl | (exfalso;exact hv)
 ·rename_i hu
  refine leaf (cG (by simp[hu]) (by simp[hu])) (by simp[mY,hu]) ?_
  simp only[Value.okWide,hu,Cell.okWide,Cell.ok]at hv
  cases v<;>first | rfl | (exfalso;exact hv)
 ·rename_i e hu
  refine leaf (cG (by simp[hu]) (by simp[hu])) (by simp[mY,hu]) ?_
  simp only[Value.okWide,hu,Cell.okWide,Cell.ok]at hv
  cases v<;>first | rfl | (exfalso;exact hv)
 ·rename_i fs hu
  simp only[Value.okWide,hu]at hv
  obtain⟨cs,rfl,_,_⟩:=hv
  have wO:ai P t= .st t:=by simp[ai,hu]
  have jw:mY P t=true:=by simp[mY,hu]
  rw[jw]at hs
  refine⟨.agg xs, ?_, ?_,by simpa[PV.sz]using hs⟩
  ·rw[wO]
   exact .st t xs cs.toList hx.lx hx.lc (fun j ty x c h1 h2 h3=>(hx.h j ty x c h1 h2 h3).1)
  ·rw[wO]
   refine .st t xs hx.lx (fun j ty x h1 h2=> ?_)
   have hj:j<cs.toList.length:=by
    have:=hx.lc
    have xt:=(List.getElem?_eq_some_iff.1 h1).1
    simp only[Value.cells]at this
    omega
   exact(hx.h j ty x _ h1 h2 (by show cs.toList[j]? =_;exact List.getElem?_eq_getElem hj)).2
 ·cases hp
theorem Bt (hS:∀t,S.contains t=true→ky P S t=true) (AF:∀b,spare b=true) (nE:∀b,b<w.heap.size→g.tag b= .free) {b0:Nat}:
  ∀ {ts:List TypeId} {vs:List Value} {ds:List (DataW H)} {ps:List MemPlace},(∀t∈ts,S.contains t=true)→DataW.TrodAll enc P w base spare held ts vs ds ps→
   (∀(j:Nat) t v,ts[j]? =some t→vs[j]? =some v→Value.okWide P w .any b0 t v)→(∀n∈DataW.weightsEach P ts ds,n≤reachBytes)→
   ∃xs,U4 P ts xs∧fO P w g 0 (sj P ts xs) vs∧pd xs≤oN ds∧cr (sj P ts xs)=0
 | [],vs,ds,ps,_,h,_,_=>by
  cases vs with
  | nil=>exact⟨[],trivial,trivial,by simp[pd],rfl⟩
  | cons v vs=>cases ds<;>simp[DataW.TrodAll]at h
 | t::ts,vs,ds,ps,lJ,h,hv,hw=>by
  obtain⟨v,vs,d,ds,p,q,rfl,rfl,rfl,h1,h2⟩:=trodAll_cons h
  obtain⟨x,r1,r2,r3⟩:=N2 (g:=g) hS AF nE (lJ t (by simp)) h1 (hv 0 t v rfl rfl) (fun n hn=>hw n (by simp only[DataW.weightsEach,List.mem_append];exact .inl hn))
  obtain⟨xs,s1,s2,s3,s4⟩:=Bt hS AF nE (fun t' h'=>lJ t' (by simp[h'])) h2 (fun j t' v' a b=>hv (j+1) t' v' (by simpa using a) (by simpa using b))
   (fun n hn=>hw n (by simp only[DataW.weightsEach,List.mem_append];exact .inr hn))
  exact⟨x::xs,⟨r2,s1⟩,⟨r1,s2⟩,by simp only[pd,oN];omega,s4⟩
theorem pM (hl:laidOutB P=true) {W W':World} {YH:Nat→Bool}:
  ∀ {ts:List TypeId} {vs:List Value} {ds:List (DataW H)} {ps:List MemPlace},(∀t∈ts,P.readableRec t=true∧t<P.types.size)→
   DataW.TrodAll enc P W base (fun _=>true) true ts vs ds ps→(∀p∈ps,W.sameAt W' p)→(∀p∈ps,YH p.block=true)→DataW.TrodAll enc P W' base YH true ts vs ds ps
 | [],vs,ds,ps,_,h,_,_=>by
  cases vs<;>cases ds<;>simp[DataW.TrodAll]at h ⊢
  exact h
 | t::ts,vs,ds,ps,lJ,h,uM,hs=>by
  obtain⟨v,vs,d,ds,p,q,rfl,rfl,rfl,h1,h2⟩:=trodAll_cons h
  exact⟨p,q,WideElems.Trod_stays hl (lJ t (by simp)).1 (lJ t (by simp)).2 h1 (fun x hx=>uM x (by simp[hx])) (fun x hx=>hs x (by simp[hx])),
   pM hl (fun t' h'=>lJ t' (by simp[h'])) h2 (fun x hx=>uM x (by simp[hx])) (fun x hx=>hs x (by simp[hx])),rfl⟩
theorem HD {f:Func} {s:ChangeSpec} {apart fresh handsOn again:Bool} {W W':World} {args:Array Value} {v:Value} {ds gs:List (DataW H)} {before pa pv:List MemPlace}
  (hW:DataW.Whole enc P f.params.toList s.vars apart W args.toList ds gs before)
  (iG:∀(b:Nat) (sp:Nat→Bool) (hd:Bool),DataW.TrodAll enc P W' b sp hd f.resultTypes.toList (v.resultList f.resultTypes.size) (s.fn H (ds++gs)).results [])
  (dE:∀sp:Nat→Bool,(∀p∈before,sp p.block=true)→DataW.TrodAll enc P W' 0 sp true f.params.toList args.toList (s.fn H (ds++gs)).args pa)
  (Pl:∀sp:Nat→Bool,(∀p∈before,sp p.block=true)→DataW.TrodVars enc P W' sp s.vars (s.fn H (ds++gs)).vars pv)
  (xG:before=pa++pv) (hs:W.Since W.heap.size W')
  (br:∀(j:Nat) (t:TypeId) (r:Value),f.resultTypes[j]? =some t→(v.resultList f.resultTypes.size)[j]? =some r→Value.okWide P W' .any 0 t r):
  s.post enc P f apart fresh handsOn again W args v W':=by
 have b6:=hW.lt
 have hold:∀p∈before,(fun b=>decide (b<W.heap.size)) p.block=true:=fun p hp=>by simpa using b6 p hp
 refine⟨ds,gs,before,[],pa,pv,hW,iG _ _ _,dE _ hold,Pl _ hold,hs.frame _,fun _=> ?_⟩
 obtain⟨_,_,_,_,_,hz,hn⟩:=hW
 refine⟨br,_,_,([]++pa)++pv,⟨[]++pa,pv,trodAll_append (dE _ (fun _ _=>rfl)) (iG _ _ _),Pl _ (fun _ _=>rfl),rfl,fun b off hp=> ?_,fun ha=> ?_⟩,fun p hp _=> ?_⟩
 ·have Su:MemPlace.cell b off∈before:=by rw[xG];simpa using hp
  rw[hs.frozen (b6 _ Su)]
  exact hz b off Su
 ·have:=hn ha
  rw[xG]at this
  simpa using this
 ·rw[xG]
  simpa using hp
theorem l8.enter {f:FuncId} {fn:Func} (h1:P.funcs[f]? =some fn) (h2:fn.body.isSome=true) (h3:fn.name≠ "runtime.NumGoroutine") {args:Array Value} {R:Ending→World→Prop}
  (h:l8 P f args w R):Calls P f args w R:=by
 rcases h with ⟨_,_,_,_,h⟩ | ⟨v,w',ba,_⟩
 ·exact h
 ·exfalso
  have hn:(fn.name== "runtime.NumGoroutine")=false:=by simpa using h3
  have hb:fn.body.isNone=false:=by cases SB:fn.body<;>simp[SB]at h2 ⊢
  simp only[callFunc,Sem.run_bind,run_program,Result.andThen_ok,h1,hn,hb,Bool.false_eq_true,if_false,Sem.run_pure]at ba
  cases ba
theorem y5 {f:FuncId} {fn:Func} {s:ChangeSpec} {apart fresh handsOn again:Bool} {tb:TypeId}
  (hS:∀t,S.contains t=true→ky P S t=true) (lJ:∀t∈fn.params.toList,S.contains t=true∧P.readableRec t=true∧t<P.types.size) (hl:laidOutB P=true)
  (hr:fn.resultTypes= #[tb]) (CW:P.underlying tb=some .bool) (hv:s.vars=[])
  (hs:∀ds:List (DataW H),ds.length=fn.params.size→s.fn H ds= {results:=[.lit (.bool true)],args:=ds,vars:=[]})
  {W:World} {args:Array Value} {ds gs:List (DataW H)} {before:List MemPlace} {b0:Nat}
  (eL:∀(j:Nat) t v,fn.params[j]? =some t→args[j]? =some v→Value.okWide P W .any b0 t v)
  (hW:DataW.Whole enc P fn.params.toList s.vars apart W args.toList ds gs before)
  (hw:(DataW.weightsEach P (fn.params.toList++s.plain.varTypes P) (ds++gs)).all (· ≤reachBytes)=true)
  (dV:∀xs,U4 P fn.params.toList xs→pd xs≤oN ds→∃call,ct P call∧call f (sj P fn.params.toList xs)=some ([.pv .bool (.bool true)],[])) (OW:P.funcs[f]? =some fn) (Tn:fn.body.isSome=true) (To:fn.name≠ "runtime.NumGoroutine") (NG:mN P W FN):
  Calls P f args W fun e W'=>∃v,e= .returned v∧s.post enc P fn apart fresh handsOn again W args v W':=by
 have YI:=hW
 obtain⟨p,q,hA,hV,rfl,SF,Nl⟩:=hW
 have hV0:DataW.TrodVars enc P W (fun _=>true) [] gs q:=hv▸hV
 obtain⟨rfl,rfl⟩:=trodVars_none hV0
 have hvt:s.plain.varTypes P=[]:=by simp[DataSpec.varTypes,ChangeSpec.plain,hv]
 rw[hvt,List.append_nil,List.append_nil]at hw
 have vi:∀n∈DataW.weightsEach P fn.params.toList ds,n≤reachBytes:=fun n hn=>by
  have:=List.all_eq_true.1 hw n hn
  simpa using this
 obtain⟨xs,x1,x2,x3,x4⟩:=Bt (g:=FN) hS (fun _=>rfl) (fun _ _=>rfl) (fun t ht=>(lJ t ht).1) hA (b0:=b0) (fun j t v h1 h2=>eL j t v (by simpa using h1) (by simpa using h2)) vi
 obtain⟨call,bu,hk⟩:=dV xs x1 x3
 have hc:=(bu.ok f _ _ _ hk args.toList W FN x2 (fun _ _=>rfl) NG (fun b s' p' h=>by cases h)).enter OW Tn To
 refine hc.mono fun e W' h=> ?_
 obtain⟨v,g',rfl,fT,iG,_,_,_⟩:=h
 have qH:v= .bool true:=by
  obtain⟨h1,h2⟩:=iG
  rw[h2 (by simp)]
  rw[x4]at h1 ⊢
  obtain⟨b,e1,e2⟩:=h1.eK.dR
  simp only[PV.bool.injEq]at e1
  rw[e2, ←e1]
 subst qH
 have KR:W.Since W.heap.size W':=⟨fT.os,fT.tape,fT.output,fT.size,fun b hb=>(fT.free b hb rfl).2⟩
 have hlen:ds.length=fn.params.size:=by
  have:∀ {ts:List TypeId} {vs:List Value} {ds:List (DataW H)} {ps:List MemPlace},DataW.TrodAll enc P W 0 (fun _=>true) true ts vs ds ps→ds.length=ts.length:=by
   intro ts
   induction ts with
   | nil=>intro vs ds ps h;cases vs<;>cases ds<;>simp[DataW.TrodAll]at h ⊢
   | cons t ts ih=>
    intro vs ds ps h
    obtain⟨v,vs,d,ds,p,q,rfl,rfl,rfl,h1,h2⟩:=trodAll_cons h
    simp[ih h2]
  simpa using this hA
 have WB:s.fn H (ds++[])= {results:=[.lit (.bool true)],args:=ds,vars:=[]}:=by rw[List.append_nil];exact hs ds hlen
 have b6:=YI.lt
 refine⟨_,rfl,HD (pa:=p) (pv:=[]) YI (fun b sp hd=> ?_) (fun sp AF=> ?_) (fun sp _=> ?_) rfl KR ?_⟩
 ·rw[WB,hr]
  exact trodAll_mk1 (shut_bool CW true)
 ·rw[WB]
  exact pM hl (fun t ht=>(lJ t ht).2) hA (fun x hx=>KR.sameAt (b6 x (by simp[hx]))) (fun x hx=>AF x (by simp[hx]))
 ·rw[WB,hv]
  rfl
 ·exact ok_one hr rfl (okWide_bool_mk CW true)
end
end Go.V
