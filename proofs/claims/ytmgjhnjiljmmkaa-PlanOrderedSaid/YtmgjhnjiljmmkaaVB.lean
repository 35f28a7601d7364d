/- The evaluator's soundness, second part: calls, builtins, appends, boxes and the memory that a call owns. Conditions: those that each theorem names. (Names are short so that the claim keeps to its size.) -/
import Derived.Test.YtmgjhnjiljmmkaaVA
import Derived.Laws.CopyRow
import Derived.Deep.AppendSrc
set_option linter.unusedSimpArgs false
set_option linter.unusedVariables false
namespace Go.V
section
variable {P:Program} {N:Nat} {st:St} {a:Act} {hv:List Value} {w:World} {g:G} {K:AV→R} {r:List AO×List AO} {o:Oper} {next:Act→World→Prop} {Q:Exit→Act→World→Prop} {call:aw}
theorem wU (h:Good P N st a hv w g) {T:TypeId} {n c:Operand} (aM:o.op= .makeSlice T n c) (br:ey N o) (hk:dX P call o st K=some r) (ag:fR P st a w g K r o next):o.wp P a w next Q:=by
 simp only[dX,aM]at hk
 have hn:=br n (by simp[aM,Op.operands])
 have hc:=br c (by simp[aM,Op.operands])
 split at hk
 ·rename_i E A B hT hA hB
  obtain⟨kl,l,rfl,hl⟩:=h.ck hn hA
  obtain⟨kc,m,rfl,hm⟩:=h.ck hc hB
  split at hk
  ·rename_i z hz
   obtain⟨C9,hk⟩:=aH hk
   simp only[Bool.and_eq_true]at C9
   obtain⟨⟨RV,c0⟩,c1,c2,c3⟩:=C9
   have c0:0≤l:=of_decide_eq_true c0
   have c1:l≤m:=of_decide_eq_true c1
   have c2:m≤140737488355328:=of_decide_eq_true c2
   have c3:(P.bytesOf E:Int)*m≤140737488355328:=of_decide_eq_true c3
   obtain⟨zv,Nc,Hk,i,hi,Sz⟩:=iO (w:=w) (g:=g) hz
   simp only[pV,hi,Sz]at RV
   have VG:=Nat.eq_of_beq_eq_true RV
   have eC:P.cellsOf E=i.size:=by simp[Program.cellsOf,hi]
   have SA:P.bytesOf E=i.bytes:=by simp[Program.bytesOf,hi]
   rw[SA]at c3
   have ba:=run_make (P:=P) w T E i zv (ec hT) hi Sz kl kc l m c0 c1 (by omega) (by omega)
   have sQ:(execOp a.eval o).run P w= .ok (.value (.slice (some ⟨w.heap.size,0,none⟩) l.toNat m.toNat)) (w.alloc (.cells (madeCells zv.cells (m.toNat*i.size)) E)):=by
    have:execOp a.eval o=(do pure (Next.value (←Instr.makeSlice T (a.eval n) (a.eval c)))):=by simp only[execOp,aM]
    rw[this,hl,hm,Sem.run_bind,ba];rfl
   simp only[PV.toInt]at hk
   have cellOf:∀j q,j<l.toNat→q<i.size→(madeCells zv.cells (m.toNat*i.size)).toList[j*i.size+q]? =zv.cells[q]? :=by
    intro j q hj hq
    have b6:j*i.size+q<m.toNat*i.size:=by
     have h1:(j+1)*i.size≤m.toNat*i.size:=Nat.mul_le_mul_right _ (by omega)
     rw[Nat.add_mul,Nat.one_mul]at h1;omega
    have QD:(j*i.size+q) % i.size=q:=by rw[Nat.mul_comm,Nat.mul_add_mod];exact Nat.mod_eq_of_lt hq
    have:(madeCells zv.cells (m.toNat*i.size)).toList[j*i.size+q]? =(madeCells zv.cells (m.toNat*i.size))[j*i.size+q]? :=by simp
    rw[this]
    simp only[madeCells,Array.getElem?_map]
    have hr:(Array.range (m.toNat*i.size))[j*i.size+q]? =some (j*i.size+q):=by
     rw[Array.getElem?_range,if_pos b6]
    rw[hr]
    simp only[Option.map_some,VG,QD]
    rw[getElem!_pos zv.cells q (by omega),Array.getElem?_eq_getElem (by omega)]
   split at hk
   ·rename_i E' AZ
    obtain⟨h1,hk⟩:=aH hk
    have h1:=Nat.eq_of_beq_eq_true h1
    have ZV:zv= .slice none 0 0∧z= .sl []:=by
     unfold kH at hz
     rw[hi]at hz
     simp only[Sz]at hz
     unfold mJ at hz
     rw[AZ]at hz
     exact jv hz
    obtain⟨ZW,JY⟩:=ZV
    subst JY
    have JT:∀k,(nth default (List.replicate l.toNat (PV.sl [])) k).toList=[]:=by
     intro k
     rw[bZ,List.getElem?_replicate]
     split<;>rfl
    refine gQ h (x:= .own E E' (List.replicate l.toNat (.sl [])) none) (fun p=>match p with | []=> .slice (some ⟨w.heap.size,0,none⟩) l.toNat m.toNat | _=> .slice none 0 0) sQ rfl (fun d=> ?_) hk ag
    have eL:∀(k:Nat),(g.newAt w.heap.size (some d) (fun p=>match p with | []=>Value.slice (some ⟨w.heap.size,0,none⟩) l.toNat m.toNat | _=> .slice none 0 0)).val d ([]++[k])= .slice none 0 0:=fun k=>by simp[G.newAt,G.bP]
    refine bY.own (P:=P) [] E E' (List.replicate l.toNat (.sl [])) none w.heap.size 0 m.toNat (madeCells zv.cells (m.toNat*i.size)).toList E (by simp[G.newAt,G.bP]) (heap_alloc_new w _) (by simp[G.newAt]) (by simp;omega) (by simp[size_madeCells,eC]) h1 AZ
     (fun j y hj=> ?_) (fun j hj _=> ?_) (fun j _=> ?_)
    ·rw[List.getElem?_replicate]at hj
     split at hj
     ·cases hj;rfl
     ·cases hj
    ·simp only[List.length_replicate]at hj
     rw[eL]
     have:=cellOf j 0 hj (by omega)
     rw[←eC,h1]at this
     rw[←eC,h1]
     simp only[Nat.mul_one,Nat.add_zero]at this ⊢
     rw[Nat.zero_add,this,ZW];rfl
    ·rw[JT]
     exact .jt _ E' (eL j)
   refine gQ h (x:= .arr E (List.replicate l.toNat z)) (fun _=> .slice (some ⟨w.heap.size,0,none⟩) l.toNat m.toNat) sQ rfl (fun d=> ?_) hk ag
   have:=bY.arr (P:=P) (w:=w.alloc (.cells (madeCells zv.cells (m.toNat*i.size)) E)) (g:=g.newAt w.heap.size (some d) fun _=> .slice (some ⟨w.heap.size,0,none⟩) l.toNat m.toNat) (s:=d) [] E (List.replicate l.toNat z)
    w.heap.size 0 m.toNat (madeCells zv.cells (m.toNat*i.size)).toList (fun _=>zv) E (by simp[G.newAt,G.bP]) (heap_alloc_new w _) (by simp[G.newAt]) (by simp;omega) (by simp[size_madeCells,eC])
    (fun j y hj=> ?_) (fun j hj q hq=> ?_)
   ·exact this
   ·rw[List.getElem?_replicate]at hj
    split at hj
    ·cases hj;exact Hk.alloc _ _ _
    ·cases hj
   ·simp only[List.length_replicate]at hj
    rw[eC]at hq ⊢
    rw[Nat.zero_add]
    exact cellOf j q hj hq
  ·cases hk
 ·cases hk
theorem uK (h:Good P N st a hv w g) {T:TypeId} {n:Nat} {ps:Array (Nat×Operand)} (aM:o.op= .buildSlice T n ps) (br:ey N o) (hk:dX P call o st K=some r) (ag:fR P st a w g K r o next):o.wp P a w next Q:=by
 simp only[dX,aM]at hk
 have hx:∀p∈ps.toList,bL N p.2=true:=fun p hp=>br p.2 (by
  simp only[aM,Op.operands,List.mem_toArray,List.mem_map];exact⟨p,hp,rfl⟩)
 split at hk
 ·rename_i E hT
  split at hk
  ·rename_i vs nz
   obtain⟨C9,hk⟩:=aH hk
   simp only[Bool.and_eq_true]at C9
   obtain⟨⟨c1,c2⟩,c3,c4,c5,c6,c7⟩:=C9
   have c1:=Nat.eq_of_beq_eq_true c1
   have c2:=Nat.eq_of_beq_eq_true c2
   have c4:=of_decide_eq_true c4
   have c5:=of_decide_eq_true c5
   have c6:=of_decide_eq_true c6
   obtain⟨m1,m2⟩:=mapM_some nz
   unfold pV at c7
   split at c7
   ·rename_i ie hi
    split at c7
    ·rename_i zv Sz
     have RV:=Nat.eq_of_beq_eq_true c7
     have eC:P.cellsOf E=ie.size:=by simp[Program.cellsOf,hi]
     have hlen:ps.toList.length=n:=by omega
     have fZ:∀(i:Nat) (p:Nat×Operand),ps.toList[i]? =some p→∃y,vs[i]? =some y∧aV P w g (ai P E) y (a.eval p.2):=by
      intro i p hp
      obtain⟨y,hy,lH⟩:=m2 i p hp
      exact⟨y,hy,h.rd (hx p (List.mem_of_getElem? hp)) lH⟩
     have jN:∀v∈ps.toList.map (fun p=>a.eval p.2),v.cells.size=ie.size:=by
      intro v hv
      obtain⟨p,hp,rfl⟩:=List.mem_map.1 hv
      obtain⟨i,Hh⟩:=List.getElem?_of_mem hp
      obtain⟨y,_,hy⟩:=fZ i p Hh
      rw[(dI hy c3).2.1, ←c2,eC]
     have Df:(ps.map fun x=>(x.1,a.eval x.2)).toList=((ps.toList.map fun p=>a.eval p.2).zipIdx 0).map fun x=>(x.2,x.1):=by
      apply List.ext_getElem?
      intro i
      simp only[Array.toList_map,List.getElem?_map,List.getElem?_zipIdx]
      cases hp:ps.toList[i]? with
      | none=>simp
      | some p=>
       have:(ps.toList.map (·.1))[i]? =(List.range n)[i]? :=by rw[c4]
       have b6:=(List.getElem?_eq_some_iff.1 hp).1
       rw[List.getElem?_map,hp,List.getElem?_range (by omega)]at this
       simp only[Option.map_some,Option.some.injEq]at this
       simp[this]
     obtain⟨rr,hf,Hl,VD⟩:=Great.fill_dense (s:=ie.size) (by omega) (ps.toList.map fun p=>a.eval p.2) 0 ((Array.range (n*ie.size)).map ((if n*ie.size=0 then #[]else zv.cells)[· % (if n*ie.size=0 then #[]else zv.cells).size]!)) jN (by simp[hlen])
     have ba:(execOp a.eval o).run P w= .ok (.value (.slice (some ⟨w.heap.size,0,none⟩) n n)) (w.alloc (.cells rr E)):=by
      have hz:(zeroValue E).run P w= .ok zv w:=by simp[zeroValue,typeInfo,hi,Sz]
      have Sw:(sizeOf E).run P w= .ok ie.size w:=by simp[sizeOf,typeInfo,hi]
      have:(Instr.buildSlice T n (ps.map fun(i,x)=>(i,a.eval x))).run P w= .ok (.slice (some ⟨w.heap.size,0,none⟩) n n) (w.alloc (.cells rr E)):=by
       have ZX:¬(n*ie.size > 2 ^ 24):=by rw[←eC];omega
       simp only[Instr.buildSlice,Sem.run_bind,run_underlying (ec hT),Result.andThen_ok,Sw,if_neg ZX,Df]
       by_cases h0:n*ie.size=0
       ·simp only[h0,if_true]at hf ⊢
        simp only[Sem.run_pure,Result.andThen_ok,hf,newRow,Sem.run_bind,run_newObj];rfl
       ·simp only[h0,if_false]at hf ⊢
        simp only[Sem.run_bind,hz,Sem.run_pure,Result.andThen_ok,hf,newRow,run_newObj];rfl
      have e:execOp a.eval o=(do pure (Next.value (←Instr.buildSlice T n (ps.map fun(i,x)=>(i,a.eval x))))):=by simp only[execOp,aM]
      rw[e,Sem.run_bind,this];rfl
     refine gQ h (x:= .arr E vs) (fun _=> .slice (some ⟨w.heap.size,0,none⟩) n n) ba rfl (fun d=> ?_) hk ag
     have hn:vs.length=n:=by omega
     have:=bY.arr (P:=P) (w:=w.alloc (.cells ⟨rr.toList⟩ E)) (g:=g.newAt w.heap.size (some d) fun _=> .slice (some ⟨w.heap.size,0,none⟩) n n) (s:=d) [] E vs
      w.heap.size 0 n rr.toList (fun i=>(ps.toList.map fun p=>a.eval p.2).getD i undef) E (by simp[G.newAt,G.bP,hn]) (heap_alloc_new w _) (by simp[G.newAt]) (by omega) (by simp[Hl,eC])
      (fun j y hj=> ?_) (fun j hj q hq=> ?_)
     ·exact this
     ·have b6:=(List.getElem?_eq_some_iff.1 hj).1
      have hp:=List.getElem?_eq_getElem (show j<ps.toList.length by omega)
      obtain⟨y',rM,JU⟩:=fZ j _ hp
      rw[hj]at rM;cases rM
      have:(ps.toList.map fun p=>a.eval p.2).getD j undef=a.eval ps.toList[j].2:=by simp only[List.getD,List.getElem?_map,hp];rfl
      rw[this]
      exact JU.alloc _ _ _
     ·rw[eC]at hq ⊢
      have hp:=List.getElem?_eq_getElem (show j<ps.toList.length by omega)
      have e:rr.toList[0+j*ie.size+q]? =rr[0+j*ie.size+q]? :=by simp
      have hdiv:(0+j*ie.size+q) / ie.size-0=j:=by
       rw[Nat.zero_add,Nat.sub_zero,Nat.mul_comm,Nat.mul_add_div (by omega),Nat.div_eq_of_lt hq];rfl
      have QD:(0+j*ie.size+q) % ie.size=q:=by rw[Nat.zero_add,Nat.mul_comm,Nat.mul_add_mod];exact Nat.mod_eq_of_lt hq
      have b6:j*ie.size+q<n*ie.size:=by
       have h1:(j+1)*ie.size≤n*ie.size:=Nat.mul_le_mul_right _ (by omega)
       rw[Nat.add_mul,Nat.one_mul]at h1;omega
      rw[e,VD,hdiv,QD,if_pos (by simp[hlen];omega)]
      simp only[List.getElem?_map,List.getD,hp,Option.map_some,Option.bind_some,Option.getD_some]
    ·cases c7
   ·cases c7
  ·cases hk
 ·cases hk
end
end Go.V
namespace Go.V
def cr:List AO→Nat
 | []=>0
 | .pv _ _::r=>cr r
 | _::r=>cr r+1
def fO (P:Program) (w:World) (g:G):Nat→List AO→List Value→Prop
 | _,[],[]=>True
 | k, .pv t x::as,v::vs=>aV P w g t x v∧fO P w g k as vs
 | k,x::as,v::vs=>x≠ .dead∧bY P w g k [] x∧v=g.val k []∧fO P w g (k+1) as vs
 | _,_,_=>False
def Dg (P:Program) (w:World) (g:G) (L:Nat):List AO→Value→Prop
 | [x],v=>bY P w g L [] x∧(x≠ .dead→v=g.val L [])
 | xs,v=>∃vs,v= .tuple ⟨vs⟩∧vs.length=xs.length∧∀(i:Nat) (x:AO) (v:Value),xs[i]? =some x→vs[i]? =some v→∃t y,x= .pv t y∧aV P w g t y v
def l7 (P:Program) (w:World) (g:G) (as res back:List AO) (e:Ending) (w':World):Prop:=
 ∃v g',e= .returned v∧Fr w g w' g'∧Dg P w' g' (cr as) res v∧(∀b s p,g'.tag b= .own s p→s≤cr as)∧
  back.length=cr as∧∀(i:Nat) (y:AO),back[i]? =some y→bY P w' g' i [] y∧(y≠ .dead→g'.val i []=g.val i [])
def l8 (P:Program) (f:FuncId) (args:Array Value) (w:World) (R:Ending→World→Prop):Prop:=
 (∃fn,P.funcs[f]? =some fn∧fn.body.isSome=true∧fn.name≠ "runtime.NumGoroutine" ∧Calls P f args w R)∨
  ∃v w',(callFunc f args).run P w= .ok (.value v) w'∧R (.returned v) w'
structure ct (P:Program) (call:aw):Prop where
 ok:∀f as res back,call f as=some (res,back)→∀bw w g,fO P w g 0 as bw→(∀b,w.heap.size≤b→g.tag b= .free)→mN P w g→(∀b s p,g.tag b= .own s p→s<cr as)→
  l8 P f ⟨bw⟩ w (l7 P w g as res back)
section
variable {P:Program} {N:Nat} {st:St} {a:Act} {hv:List Value} {w:World} {g:G} {K:AV→R} {r:List AO×List AO} {o:Oper} {next:Act→World→Prop} {Q:Exit→Act→World→Prop} {call:aw}
theorem ga {c:Call} (aM:o.op= .call c) {b:Builtin} (hb:c.callee= .builtin b) {v:Value} (ba:∀cs,(builtin b c.argTypes o.type cs (c.args.map a.eval)).run P w= .ok (.value v) w):
  (execOp a.eval o).run P w= .ok (.value v) w:=by
 have e:execOp a.eval o=(do let d←resolve a.eval c o.type;invoke d.target d.args):=by simp only[execOp,aM]
 rw[e,Sem.run_bind]
 have:(resolve a.eval c o.type).run P w= .ok {target:= .builtin b c.argTypes o.type (c.args.map fun | .const _=>true | _=>false),args:=c.args.map a.eval} w:=by
  simp only[resolve,hb,Sem.run_pure];rfl
 rw[this,Result.andThen_ok]
 exact ba _
theorem run_getObj_map {b:Nat} {es:Array MapEntry} {clock:Nat} (hh:w.heap[b]? =some (.map es clock)):(getObj b).run P w= .ok (.map es clock) w:=by
 simp[getObj,Sem.run,hh]
inductive A4 (P:Program) (w:World) (g:G) (k e:TypeId):List PV→List PV→Value→Prop
 | nil:A4 P w g k e [] [] (.map none)
 | «at» (ks vs:List PV) (b:Nat) (es:Array MapEntry) (clock:Nat) (hh:w.heap[b]? =some (.map es clock)) (hk:ks.length=es.size) (hv:vs.length=es.size)
   (h1:∀(i:Nat) (en:MapEntry) (x:PV),es[i]? =some en→ks[i]? =some x→aV P w g (ai P k) x en.key)
   (h2:∀(i:Nat) (en:MapEntry) (x:PV),es[i]? =some en→vs[i]? =some x→aV P w g (ai P e) x en.val):A4 P w g k e ks vs (.map (some b))
theorem sV (h:Good P N st a hv w g) {k e:TypeId} {x:Operand} (hx:bL N x=true) {ks vs:List PV} (hm:nU st k e x=some (ks,vs)):
  A4 P w g k e ks vs (a.eval x):=by
 have pure:∀ {v:PV} {u:Value},aV P w g (.mp k e) v u→(v.keys,v.bw)=(ks,vs)→A4 P w g k e ks vs u:=by
  intro v u hp he
  cases hp with
  | UF=>cases he;exact .nil
  | mp _ _ OT rU b es clock hh ht hk hv h1 h2=>
   simp only[PV.keys,PV.bw,Prod.mk.injEq]at he
   obtain⟨rfl,rfl⟩:=he
   exact .«at» _ _ b es clock hh hk.1 hv h1 h2
 have own:∀ {s:Nat} {p:List Nat} {u:Value},bY P w g s p (.map k e ks vs)→u=g.val s p→A4 P w g k e ks vs u:=by
  intro s p u ho hu
  cases ho with
  | map _ _ _ _ _ b es clock bh hh ht hk nz h1 h2=>rw[hu,bh];exact .«at» _ _ b es clock hh hk.1 nz h1 h2
 cases x with
 | tmp i=>
  simp only[nU]at hm
  have hi:i<N:=by simpa[bL]using hx
  have hs:=h.slot hi
  generalize hg:get st i=z at hs hm
  generalize a.eval (.tmp i)=u at hs ⊢
  split at hm
  ·obtain⟨hc,JZ⟩:=bg hm
   clear hm
   simp only[Bool.and_eq_true]at hc
   have e1:=Nat.eq_of_beq_eq_true hc.1
   have e2:=Nat.eq_of_beq_eq_true hc.2
   subst e1;subst e2
   cases JZ
   cases hs with
   | o _ _ eD ho=>exact own ho (eD (by simp))
  ·rename_i k' e' v
   obtain⟨hc,JZ⟩:=bg hm
   clear hm
   simp only[Bool.and_eq_true]at hc
   have e1:=Nat.eq_of_beq_eq_true hc.1
   have e2:=Nat.eq_of_beq_eq_true hc.2
   subst e1;subst e2
   cases hs with
   | o _ _ eD ho=>
    have hp:=ho.eK
    rw[←eD (by simp)]at hp
    exact pure hp (Option.some.inj JZ)
  ·rename_i s p
   split at hm
   ·rename_i bq
    obtain⟨hc,JZ⟩:=bg hm
    clear hm
    simp only[Bool.and_eq_true]at hc
    have e1:=Nat.eq_of_beq_eq_true hc.1
    have e2:=Nat.eq_of_beq_eq_true hc.2
    subst e1;subst e2
    cases JZ
    have ho:=h.obj s p
    rw[bq]at ho
    cases hs with
    | al _ _ _ eD=>exact own ho (eD (by rw[bq];simp))
   ·rename_i k' e' v bq
    obtain⟨hc,JZ⟩:=bg hm
    clear hm
    simp only[Bool.and_eq_true]at hc
    have e1:=Nat.eq_of_beq_eq_true hc.1
    have e2:=Nat.eq_of_beq_eq_true hc.2
    subst e1;subst e2
    have ho:=h.obj s p
    rw[bq]at ho
    cases hs with
    | al _ _ _ eD=>
     have hp:=ho.eK
     rw[←eD (by rw[bq];simp)]at hp
     exact pure hp (Option.some.inj JZ)
   ·cases hm
  ·cases hm
 | _=>simp[nU]at hm
theorem Nz (h:Good P N st a hv w g) {c:Call} (aM:o.op= .call c) (hb:c.callee= .builtin .len) (br:ey N o) (hk:dX P call o st K=some r) (ag:fR P st a w g K r o next):o.wp P a w next Q:=by
 simp only[dX,aM,hb]at hk
 split at hk
 ·rename_i T x hT hx
  have JX:bL N x=true:=br x (by
   simp only[aM,Op.operands,Call.operands,hb]
   simp only[List.append_toArray,Array.mem_append]
   exact .inr (Array.mem_of_getElem? hx))
  have OQ:(c.args.map a.eval)[0]? =some (a.eval x):=by simp[hx]
  split at hk
  ·rename_i OU
   split at hk
   ·rename_i v bh
    obtain⟨s,rfl,hs⟩:=(OU▸h.rd JX bh).dm
    refine aY h (ga aM hb fun cs=> ?_) (.int .i64 _) hk ag
    simp only[builtin,Sem.run_bind,Builtin.len_,hT,OQ,run_underlying (gz OU),Result.andThen_ok,hs,Sem.run_pure,goInt];rfl
   ·cases hk
  ·rename_i E OU
   split at hk
   ·rename_i l hl
    have:∃ad cap,a.eval x= .slice ad l.length cap:=by
     rcases mP h JX hl with ⟨rfl,ad,bh⟩ | ⟨b,off,cap,f,bh,_⟩
     ·exact⟨ad,0,bh⟩
     ·exact⟨_,_,bh⟩
    obtain⟨ad,cap,hs⟩:=this
    refine aY h (ga aM hb fun cs=> ?_) (.int .i64 _) hk ag
    simp only[builtin,Sem.run_bind,Builtin.len_,hT,OQ,run_underlying (ec OU),Result.andThen_ok,hs,Sem.run_pure,goInt]
   ·split at hk
    ·rename_i s p nM
     split at hk
     ·rename_i E' D l hh bq
      obtain⟨_,hk⟩:=bg hk
      obtain⟨dV,_⟩:=ef h JX nM
      have:∃ad cap,a.eval x= .slice ad l.length cap:=by
       have ho:=h.obj s p
       rw[bq]at ho
       cases ho with
       | og _ _ _ _ bh=>exact⟨none,0,by rw[dV,bh];rfl⟩
       | own _ _ _ _ _ b off cap vs T bh=>exact⟨_,cap,by rw[dV,bh]⟩
      obtain⟨ad,cap,hs⟩:=this
      refine aY h (ga aM hb fun cs=> ?_) (.int .i64 _) hk ag
      simp only[builtin,Sem.run_bind,Builtin.len_,hT,OQ,run_underlying (ec OU),Result.andThen_ok,hs,Sem.run_pure,goInt]
     ·cases hk
    ·cases hk
  ·rename_i kt et OU
   split at hk
   ·rename_i ks vs hm
    have:a.eval x= .map none∧ks.length=0∨∃b es clock,a.eval x= .map (some b)∧w.heap[b]? =some (.map es clock)∧ks.length=es.size:=by
     have NA:=sV h JX hm
     generalize a.eval x=u at NA
     cases NA with
     | nil=>exact .inl ⟨rfl,rfl⟩
     | «at» _ _ b es clock h2 h3=>exact .inr ⟨b,es,clock,rfl,h2,h3⟩
    rcases this with ⟨hs,h0⟩ | ⟨b,es,clock,hs,hh,h0⟩
    ·refine aY h (ga aM hb fun cs=> ?_) (.int .i64 _) hk ag
     simp only[builtin,Sem.run_bind,Builtin.len_,hT,OQ,run_underlying (tY OU),Result.andThen_ok,hs,Sem.run_pure,goInt,h0];rfl
    ·refine aY h (ga aM hb fun cs=> ?_) (.int .i64 _) hk ag
     simp only[builtin,Sem.run_bind,Builtin.len_,hT,OQ,run_underlying (tY OU),Result.andThen_ok,hs,run_getObj_map hh,Sem.run_pure,goInt,h0]
   ·cases hk
  ·cases hk
 ·cases hk
theorem A5 {c:Call} {x y:Operand} (hc:c.args.toList=[x,y]):c.args.map a.eval= #[a.eval x,a.eval y]:=by
 apply Array.ext';simp[hc]
theorem NB (h:Good P N st a hv w g) {c:Call} (aM:o.op= .call c) (hb:c.callee= .builtin .max) (br:ey N o) (hk:dX P call o st K=some r) (ag:fR P st a w g K r o next):o.wp P a w next Q:=by
 simp only[dX,aM,hb]at hk
 have je:∀x∈c.args.toList,bL N x=true:=fun x hx=>br x (by
  simp only[aM,Op.operands,Call.operands,hb,Array.mem_append];exact .inr (Array.mem_toList_iff.1 hx))
 split at hk
 ·rename_i x y hc
  have hx:=je x (by simp[hc])
  have hy:=je y (by simp[hc])
  split at hk
  ·rename_i k A B hT hA hB
   obtain⟨m,rfl,hm⟩:=(hT▸h.rd hx hA).cO
   obtain⟨n,rfl,hn⟩:=(hT▸h.rd hy hB).cO
   refine aY h (ga aM hb fun cs=> ?_) (.int k _) hk ag
   rw[A5 hc,hm,hn]
   simp only[builtin,Sem.run_bind,run_max_int2,Result.andThen_ok,Sem.run_pure];rfl
  ·cases hk
 ·cases hk
theorem NC (h:Good P N st a hv w g) {c:Call} (aM:o.op= .call c) (hb:c.callee= .builtin .min) (br:ey N o) (hk:dX P call o st K=some r) (ag:fR P st a w g K r o next):o.wp P a w next Q:=by
 simp only[dX,aM,hb]at hk
 have je:∀x∈c.args.toList,bL N x=true:=fun x hx=>br x (by
  simp only[aM,Op.operands,Call.operands,hb,Array.mem_append];exact .inr (Array.mem_toList_iff.1 hx))
 split at hk
 ·rename_i x y hc
  have hx:=je x (by simp[hc])
  have hy:=je y (by simp[hc])
  split at hk
  ·rename_i k A B hT hA hB
   obtain⟨m,rfl,hm⟩:=(hT▸h.rd hx hA).cO
   obtain⟨n,rfl,hn⟩:=(hT▸h.rd hy hB).cO
   refine aY h (ga aM hb fun cs=> ?_) (.int k _) hk ag
   rw[A5 hc,hm,hn]
   simp only[builtin,Sem.run_bind,run_min_int2,Result.andThen_ok,Sem.run_pure];rfl
  ·cases hk
 ·cases hk
theorem qL {c:Call} {f:FuncId} (hf:c.callee= .value (.func f)):(resolve a.eval c o.type).run P w= .ok {target:= .fn (.func f) #[],args:=c.args.map a.eval} w:=by
 simp only[resolve,hf,Act.eval,Deferred.ofValue,Sem.run_pure,Array.empty_append]
theorem A6 {c:Call} {f:FuncId} {cd:Array Value} {t:Tmp} (hf:c.callee= .value (.tmp t)) (hv:a.eval (.tmp t)= .func (.func f) #[] cd):(resolve a.eval c o.type).run P w= .ok {target:= .fn (.func f) cd,args:=c.args.map a.eval} w:=by
 simp only[resolve,hf,hv,Deferred.ofValue,Sem.run_pure,Array.empty_append]
theorem yH {c:Call} (aM:o.op= .call c) {f:FuncId} {cd:Array Value} (hf:(resolve a.eval c o.type).run P w= .ok {target:= .fn (.func f) cd,args:=c.args.map a.eval} w) {fn:Func} (h1:P.funcs[f]? =some fn) (h2:fn.body.isSome=true) (h3:fn.name≠ "runtime.NumGoroutine"):
  (execOp a.eval o).run P w= .ok (.enter f (c.args.map a.eval++cd)) w:=by
 have e:execOp a.eval o=(do let d←resolve a.eval c o.type;invoke d.target d.args):=by simp only[execOp,aM]
 rw[e,Sem.run_bind]
 rw[hf,Result.andThen_ok]
 have hn:(fn.name== "runtime.NumGoroutine")=false:=by simpa using h3
 have hb:fn.body.isNone=false:=by cases SB:fn.body<;>simp[SB]at h2 ⊢
 simp only[invoke,callFunc,Sem.run_bind,run_program,Result.andThen_ok,h1,hn,hb,Bool.false_eq_true,if_false,Sem.run_pure]
theorem A7 {c:Call} (aM:o.op= .call c) {f:FuncId} {cd:Array Value} (hf:(resolve a.eval c o.type).run P w= .ok {target:= .fn (.func f) cd,args:=c.args.map a.eval} w) {v:Value} {w':World} (h:(callFunc f (c.args.map a.eval++cd)).run P w= .ok (.value v) w'):
  (execOp a.eval o).run P w= .ok (.value v) w':=by
 have e:execOp a.eval o=(do let d←resolve a.eval c o.type;invoke d.target d.args):=by simp only[execOp,aM]
 rw[e,Sem.run_bind]
 rw[hf,Result.andThen_ok]
 simp only[invoke]
 exact h
theorem FA {c:Call} (aM:o.op= .call c) {f:FuncId} {cd:Array Value} (hf:(resolve a.eval c o.type).run P w= .ok {target:= .fn (.func f) cd,args:=c.args.map a.eval} w) {R:Ending→World→Prop} (hc:l8 P f (c.args.map a.eval++cd) w R)
  (hr:∀e w',R e w'→∃v,e= .returned v∧next (a.put o.dst v) w'):o.wp P a w next Q:=by
 unfold Oper.wp
 rcases hc with ⟨fn,f1,f2,f3,hc⟩ | ⟨v,w',ba,hR⟩
 ·rw[yH aM hf f1 f2 f3,Oper.upon_enter]
  refine hc.mono ?_
  intro e w' h
  obtain⟨v,rfl,hn⟩:=hr e w' h
  exact hn
 ·rw[A7 aM hf ba,Oper.upon_value]
  obtain⟨v',hv,hn⟩:=hr _ _ hR
  cases hv
  exact hn
theorem qM {P:Program} {w:World} {g:G} {T:TypeId→Ty}:∀ {l:List (Operand×TypeId)} {as:List AO} {k:Nat} {ev:Operand→Value},(∀(i:Nat) (p:Operand×TypeId),l[i]? =some p→∃v,as[i]? =some (.pv (T p.2) v)∧aV P w g (T p.2) v (ev p.1))→as.length=l.length→
  fO P w g k as (l.map fun p=>ev p.1)∧cr as=0
 | [],[],k,ev,_,_=>⟨trivial,rfl⟩
 | [],_::_,_,_,_,hl=>by simp at hl
 | _::_,[],_,_,_,hl=>by simp at hl
 | p::l,x::as,k,ev,h,hl=>by
  obtain⟨v,hv,hp⟩:=h 0 p rfl
  simp at hv;subst hv
  obtain⟨h1,h2⟩:=qM (l:=l) (as:=as) (k:=k) (ev:=ev) (T:=T) (fun i q hq=>by simpa using h (i+1) q (by simpa using hq)) (by simpa using hl)
  exact⟨⟨hp,h1⟩,by simpa[cr]using h2⟩
theorem yI {P:Program} {w:World} {g:G} {gw:List PV} {cv:List Value} (hl:cv.length=gw.length) (h:∀(i:Nat) (x:PV) (v:Value),gw[i]? =some x→cv[i]? =some v→aV P w g .ptr x v):
  ∀ {as:List AO} {bw:List Value} {k:Nat},fO P w g k as bw→cr as=0→fO P w g k (as++gw.map (AO.pv .ptr)) (bw++cv)∧cr (as++gw.map (AO.pv .ptr))=0:=by
 have base:∀(gw:List PV) (cv:List Value) (k:Nat),cv.length=gw.length→(∀(i:Nat) (x:PV) (v:Value),gw[i]? =some x→cv[i]? =some v→aV P w g .ptr x v)→fO P w g k (gw.map (AO.pv .ptr)) cv∧cr (gw.map (AO.pv .ptr))=0:=by
  intro gw
  induction gw with
  | nil=>intro cv k hl _;cases cv with
   | nil=>exact⟨trivial,rfl⟩
   | cons=>simp at hl
  | cons x gw ih=>intro cv k hl h;cases cv with
   | nil=>simp at hl
   | cons v cv=>
    obtain⟨i1,i2⟩:=ih cv k (by simpa using hl) (fun i x v hx hv=>h (i+1) x v (by simpa using hx) (by simpa using hv))
    exact⟨⟨h 0 x v rfl rfl,i1⟩,by simpa[cr]using i2⟩
 intro as
 induction as with
 | nil=>
  intro bw k ha _
  cases bw with
  | nil=>exact base gw cv k hl h
  | cons=>exact ha.elim
 | cons x as ih=>
  intro bw k ha hn
  cases x with
  | pv t y=>
   cases bw with
   | nil=>exact ha.elim
   | cons v bw=>
    obtain⟨h1,h2⟩:=ha
    obtain⟨i1,i2⟩:=ih h2 (by simpa[cr]using hn)
    exact⟨⟨h1,i1⟩,by simpa[cr]using i2⟩
  | _=>simp[cr]at hn
def G.eF (g:G):G:= {g with tag:=fun b=>match g.tag b with | .own _ _=> .out | t=>t}
def G.back (g g':G) (n:Nat) (d:Option Nat):G:=
 {
  tag:=fun b=>if b<n then g.tag b else match g'.tag b with | .own _ p=>(match d with | some d=> .own d p | none=> .free) | t=>t,
  val:=(g.bP d fun p=>g'.val 0 p).val}
theorem uL:∀ {ts:List Ty} {xs:List AO} {c:Option (List AO×List AO)} {k:Nat},nV ts xs=true→(∀i,nth .dead xs i=(match c with | some (ys,_)=>nth .dead ys (k+i) | none=> .dead))→Fq c ts k=xs
 | [],[],c,k,_,_=>rfl
 | [],_::_,c,k,h,_=>by simp[nV]at h
 | t::ts,[],c,k,h,_=>by simp[nV]at h
 | t::ts,x::xs,c,k,h,hx=>by
  cases x with
  | pv u v=>
   simp only[nV,Bool.and_eq_true]at h
   have hu:=Ty.iH h.1
   subst hu
   have h0:=hx 0
   simp only[Fq]
   have ih:=uL (c:=c) (k:=k+1) h.2 (fun i=>by
    have:=hx (i+1)
    rw[show k+1+i=k+(i+1)by omega];exact this)
   rw[ih]
   congr 2
   cases c with
   | none=>simp[nth]at h0
   | some r=>
    obtain⟨ys,b⟩:=r
    simp only[Nat.add_zero]at h0
    simp only[bk, ←h0,nth,ux]
  | _=>simp[nV]at h
theorem qN {α:Type} {P:Program} {T:TypeId} {c:Option (List AO×List AO)} {K:AV→Option α} {r:α} (h:yt P T c K=some r):
  ∃res back av,c=some (res,back)∧K av=some r∧((∃x,res=[x]∧av= .o x)∨(av= .jg res∧res.length≠1)):=by
 have one:∀t,ab t c=true→∃b,c=some ([.pv t (aa c)],b):=by
  intro t ho
  unfold ab at ho
  split at ho
  ·rename_i u v b
   have:=Ty.iH ho
   subst this
   exact⟨b,rfl⟩
  ·cases ho
 unfold yt at h
 split at h
 ·rename_i ts hT
  cases hc:(!Nat.beq ts.size 1&&cc (ts.toList.map (ai P)) c)with
  | false=>rw[hc]at h;cases h
  | true=>
   rw[hc]at h
   simp only[Bool.and_eq_true,Bool.not_eq_true',cQ,decide_eq_false_iff_not]at hc
   cases c with
   | none=>simp[cc]at hc
   | some r'=>
    obtain⟨xs,b⟩:=r'
    have:=uL (c:=some (xs,b)) (k:=0) hc.2 (fun i=>by simp)
    rw[this]at h
    refine⟨xs,b,_,rfl,h, .inr ⟨rfl, ?_⟩⟩
    have hl:∀ {ts:List Ty} {xs:List AO},nV ts xs=true→xs.length=ts.length:=by
     intro ts
     induction ts with
     | nil=>intro xs hx;cases xs with
      | nil=>rfl
      | cons=>simp[nV]at hx
     | cons t ts ih=>intro xs hx;cases xs with
      | nil=>simp[nV]at hx
      | cons x xs=>cases x<;>simp[nV]at hx;simp[ih hx.2]
    have:=hl hc.2
    simp at this
    omega
 ·rename_i E hT
  cases hc:ab (.sl E) c with
  | true=>
   rw[hc]at h
   obtain⟨b,hb⟩:=one _ hc
   exact⟨_,b,_,hb,h, .inl ⟨_,rfl,rfl⟩⟩
  | false=>
   rw[hc]at h
   cases yJ:fU E c with
   | false=>rw[yJ]at h;cases h
   | true=>
    rw[yJ]at h
    unfold fU at yJ
    split at yJ
    ·rename_i E' l b
     have:=Nat.eq_of_beq_eq_true yJ
     subst this
     exact⟨_,b,_,rfl,h, .inl ⟨_,rfl,rfl⟩⟩
    ·cases yJ
 ·simp only[Option.bind_eq_some_iff]at h
  obtain⟨⟨xs,b⟩,hc,h⟩:=h
  split at h
  ·rename_i x hx
   simp only at hx
   exact⟨xs,b,_,hc,h, .inl ⟨x,hx,rfl⟩⟩
  ·cases h
 ·cases hc:ab (ai P T) c with
  | false=>rw[hc]at h;cases h
  | true=>
   rw[hc]at h
   obtain⟨b,hb⟩:=one _ hc
   exact⟨_,b,_,hb,h, .inl ⟨_,rfl,rfl⟩⟩
theorem xw (bu:ct P call) (h:Good P N st a hv w g) {c:Call} (aM:o.op= .call c) {f:FuncId} {cd:Array Value} (hf:(resolve a.eval c o.type).run P w= .ok {target:= .fn (.func f) cd,args:=c.args.map a.eval} w)
  {gw:List PV} (jW:cd.toList.length=gw.length) (RW:∀(i:Nat) (x:PV) (v:Value),gw[i]? =some x→cd.toList[i]? =some v→aV P w g .ptr x v)
  (je:∀x∈c.args.toList,bL N x=true) (hk:(match(c.args.toList.zip c.argTypes.toList).mapM (fun p=>(rd P st p.2 p.1).map fun v=>AO.pv (ai P p.2) v)with
   | some as=>bif Nat.beq as.length c.args.size then yt P o.type (call f (as++gw.map (AO.pv .ptr))) K else none
   | none=>none)=some r) (ag:fR P st a w g K r o next):o.wp P a w next Q:=by
 split at hk
 ·rename_i VH has
  cases hlen:Nat.beq VH.length c.args.size with
  | false=>simp[hlen]at hk
  | true=>
   simp only[hlen,cond_true]at hk
   have Yh:=Nat.eq_of_beq_eq_true hlen
   obtain⟨res,back,av,OV,hk,ND⟩:=qN hk
   obtain⟨m1,m2⟩:=mapM_some has
   have JY:(c.args.toList.zip c.argTypes.toList).map (fun p=>a.eval p.1)=(c.args.map a.eval).toList:=by
    simp only[List.length_zip,Array.length_toList]at m1
    have h1:(c.args.toList.zip c.argTypes.toList).map Prod.fst=c.args.toList:=List.map_fst_zip (by simp;omega)
    rw[Array.toList_map, ←h1,List.map_map,h1];rfl
   have JU:∀b,b<w.heap.size→g.tag b= .free→g.eF.tag b= .free∧w.heap[b]? =w.heap[b]? :=fun b _ hb=>⟨by simp[G.eF,hb],rfl⟩
   obtain⟨J0,VI⟩:=qM (P:=P) (w:=w) (g:=g.eF) (T:=ai P) (l:=c.args.toList.zip c.argTypes.toList) (as:=VH) (k:=0) (ev:=a.eval) (fun i p hp=>by
    obtain⟨y,hy,Nw⟩:=m2 i p hp
    simp only[Option.map_eq_some_iff]at Nw
    obtain⟨v,bh,rfl⟩:=Nw
    refine⟨v,hy,(h.rd (je p.1 ?_) bh).ext (Nat.le_refl _) JU⟩
    exact(List.of_mem_zip (List.mem_of_getElem? hp)).1) m1
   rw[JY]at J0
   obtain⟨dE,Ho⟩:=yI (P:=P) (w:=w) (g:=g.eF) jW (fun i x v hx hv=>(RW i x v hx hv).ext (Nat.le_refl _) JU) J0 VI
   generalize VH++gw.map (AO.pv .ptr)=as at dE Ho OV
   have Dh:∀b,w.heap.size≤b→g.eF.tag b= .free:=fun b hb=>by simp[G.eF,h.inv.fresh b hb]
   have p5:∀b s p,g.eF.tag b≠ .own s p:=by
    intro b s p;simp only[G.eF];cases g.tag b<;>simp
   have VJ:(⟨(c.args.map a.eval).toList++cd.toList⟩:Array Value)=c.args.map a.eval++cd:=by apply Array.ext';simp
   refine FA aM hf (VJ▸bu.ok f as res back OV _ w g.eF dE Dh (h.inv.vars.db (Nat.le_refl _) JU) (fun b s p hb=>absurd hb (p5 b s p))) ?_
   rintro e w' ⟨v,g',rfl,fr,iG,tH,_,_⟩
   refine⟨v,rfl, ?_⟩
   have hold:∀b,b<w.heap.size→w'.heap[b]? =w.heap[b]? ∧(g'.tag b= .free→g.tag b= .free):=by
    intro b hb
    cases ht:g.tag b with
    | free=>exact⟨(fr.free b hb (by simp[G.eF,ht])).2,fun _=>rfl⟩
    | out=>obtain⟨h1,h2⟩:=fr.out b hb (by simp[G.eF,ht]);exact⟨h2,fun h=>by rw[h1]at h;cases h⟩
    | own s p=>obtain⟨h1,h2⟩:=fr.out b hb (by simp[G.eF,ht]);exact⟨h2,fun h=>by rw[h1]at h;cases h⟩
   have hq:uB w g w' (g.back g' w.heap.size o.dst) o.dst:=by
    refine⟨fr.os,fr.tape,fr.output,fr.size,fun b hb=>⟨by simp[G.back,hb],(hold b hb).1⟩,fun s p hd=>by simp[G.back,G.bP,hd],fun b hb=> ?_,fun b hb=> ?_⟩
    ·simp only[G.back]
     rw[if_neg (by omega)]
     cases ht:g'.tag b with
     | free=>simp
     | out=>have:=(fr.lU b ht).2;omega
     | own s p=>cases o.dst<;>simp
    ·have:=fr.size
     simp only[G.back]
     rw[if_neg (by omega),fr.fresh b hb]
   have gh:∀b,b<w'.heap.size→g'.tag b= .free→(g.back g' w.heap.size o.dst).tag b= .free∧w'.heap[b]? =w'.heap[b]? :=by
    intro b hb ht
    refine⟨?_,rfl⟩
    simp only[G.back]
    by_cases b6:b<w.heap.size
    ·rw[if_pos b6];exact(hold b b6).2 ht
    ·rw[if_neg b6,ht]
   rw[Ho]at iG tH
   have yK:∀xs:List AO,(∃vs,v= .tuple ⟨vs⟩∧vs.length=xs.length∧∀(i:Nat) (x:AO) (v:Value),xs[i]? =some x→vs[i]? =some v→∃t y,x= .pv t y∧aV P w' g' t y v)→
     ∀i,fm P w' (g.back g' w.heap.size o.dst) st i (.jg xs) v:=by
    rintro xs ⟨vs,rfl,h1,h2⟩ i
    refine .jg xs vs h1 (fun j x u hx hu=> ?_)
    obtain⟨t,y,e1,e2⟩:=h2 j x u hx hu
    exact⟨t,y,e1,e2.ext (Nat.le_refl _) gh⟩
   rcases ND with ⟨x,rfl,rfl⟩ | ⟨rfl,dc⟩
   ·obtain⟨ho,bh⟩:=iG
    refine ag (.o x) v w' _ hq (fun i hi=> ?_) hk
    refine .o x v (fun hd=>by simp[G.back,G.bP,hi,bh hd]) ?_
    refine ho.ext (s':=i) (p':=[]) (Nat.le_refl _) gh (fun q=>by simp[G.back,G.bP,hi]) (fun b q hb ht=>⟨?_,rfl⟩)
    have RX:¬b<w.heap.size:=by
     intro b6
     cases CW:g.tag b with
     | free=>have:=(fr.free b b6 (by simp[G.eF,CW])).1;rw[this]at ht;cases ht
     | out=>have:=(fr.out b b6 (by simp[G.eF,CW])).1;rw[this]at ht;cases ht
     | own s p=>have:=(fr.out b b6 (by simp[G.eF,CW])).1;rw[this]at ht;cases ht
    simp only[List.nil_append]at ht ⊢
    simp[G.back,RX,ht,hi]
   ·refine ag _ v w' _ hq (fun i hi=>yK res ?_ i) hk
    match res,dc,iG with
    | [],_,iG=>exact iG
    | [x],dc,_=>exact absurd rfl dc
    | x::y::zs,_,iG=>exact iG
 ·cases hk
theorem J1 (bu:ct P call) (h:Good P N st a hv w g) {c:Call} (aM:o.op= .call c) {f:FuncId} (hf:c.callee= .value (.func f)) (br:ey N o) (hk:dX P call o st K=some r) (ag:fR P st a w g K r o next):o.wp P a w next Q:=by
 simp only[dX,aM,hf,qC]at hk
 exact xw bu h aM (gw:=[]) (qL hf) rfl (fun i x v hx=>by simp at hx) (fun x hx=>br x (by
  simp only[aM,Op.operands,Call.operands,hf,Array.mem_append];exact .inr (Array.mem_toList_iff.1 hx))) (by simp only[List.map_nil,List.append_nil];exact hk) ag
theorem NF (bu:ct P call) (h:Good P N st a hv w g) {c:Call} (aM:o.op= .call c) {t:Tmp} (hf:c.callee= .value (.tmp t)) (br:ey N o) (hk:dX P call o st K=some r) (ag:fR P st a w g K r o next):o.wp P a w next Q:=by
 simp only[dX,aM,hf,qC]at hk
 have ht:bL N (.tmp t)=true:=br _ (by
  simp only[aM,Op.operands,Call.operands,hf,Array.mem_append];exact .inl (by simp))
 split at hk
 ·rename_i x hx
  cases OW:x.Sl with
  | false=>simp[OW]at hk
  | true=>
   simp only[OW,cond_true]at hk
   have bh:=h.gK (of_decide_eq_true ht) hx
   rcases bh.Qw with ⟨rfl,_⟩ | ⟨f,gw,bw,rfl,SC,hl,RW⟩
   ·cases OW
   ·exact xw bu h aM (A6 hf SC) hl RW (fun x hx=>br x (by
     simp only[aM,Op.operands,Call.operands,hf,Array.mem_append];exact .inr (Array.mem_toList_iff.1 hx))) hk ag
 ·cases hk
theorem A8 (h:Good P N st a hv w g) {T:TypeId} {rs:Option Operand} (aM:o.op= .makeMap T rs) (hk:dX P call o st K=some r) (ag:fR P st a w g K r o next):o.wp P a w next Q:=by
 simp only[dX,aM]at hk
 split at hk
 ·rename_i k e hT
  have ba:(execOp a.eval o).run P w= .ok (.value (.map (some w.heap.size))) (w.alloc (.map #[] 0)):=by
   simp only[execOp,aM,Option.map_none,Sem.run_bind,Instr.makeMap,run_newObj,Result.andThen_ok,Sem.run_pure];rfl
  refine gQ h (x:= .map k e [] []) (fun _=> .map (some w.heap.size)) ba rfl (fun d=> ?_) hk ag
  exact .map [] k e [] [] w.heap.size #[] 0 (by simp[G.newAt,G.bP]) (heap_alloc_new w _) (by simp[G.newAt]) ⟨rfl,by simp[mM]⟩ rfl (fun i en x gL=>by simp at gL) (fun i en x gL=>by simp at gL)
 ·cases hk
theorem bytes_beq (m n:ByteArray):(m==n)=(m.data==n.data):=rfl
theorem run_checkKey {kt:TypeId} (hk:sN (ai P kt)=true) (emp:Bool) (n:Nat) (v:Value):(Instr.checkKey emp (n+1) kt v).run P w= .ok () w:=by
 cases ht:ai P kt with
 | int k=>simp[Instr.checkKey,run_underlying (lW ht)]
 | bool=>simp[Instr.checkKey,run_underlying (rT ht)]
 | str=>simp[Instr.checkKey,run_underlying (gz ht)]
 | _=>simp[ht,sN]at hk
theorem lI {kt:TypeId} {d:TypeDesc} (hd:P.underlying kt=some d) (hk:sN (ai P kt)=true) {kx:PV} {kv:Value} (J2:aV P w g (ai P kt) kx kv):
  ∀ {es:List MapEntry} {ks vs:List PV} {i0:Nat},ks.length=es.length→vs.length=es.length→(∀(i:Nat) (en:MapEntry) (x:PV),es[i]? =some en→ks[i]? =some x→aV P w g (ai P kt) x en.key)→
   (Instr.findNow d kv es i0=some none∧mapIdx (ai P kt) kx ks i0=none∧cI (ai P kt) kx ks vs=none)∨
   ∃(j:Nat) (en:MapEntry) (v:PV) (y:PV),es[j]? =some en∧vs[j]? =some v∧ks[j]? =some y∧lT (ai P kt) kx y=true∧Instr.findNow d kv es i0=some (some (i0+j,en.val))∧mapIdx (ai P kt) kx ks i0=some (i0+j)∧cI (ai P kt) kx ks vs=some v
 | [],[],[],i0,_,_,_=> .inl ⟨rfl,rfl,rfl⟩
 | [],_::_,_,i0,h,_,_=>by simp at h
 | [],[],_::_,i0,_,h,_=>by simp at h
 | _::_,[],_,i0,h,_,_=>by simp at h
 | _::_,_::_,[],i0,_,h,_=>by simp at h
 | en::es,y::ks,v::vs,i0,h1,h2,hr=>by
  have hy:=hr 0 en y rfl rfl
  have uM:Instr.sameNow d kv en.key=some (lT (ai P kt) kx y):=by
   cases ht:ai P kt with
   | int k=>
    rw[ht]at J2 hy
    obtain⟨m,rfl,rfl⟩:=J2.cO
    obtain⟨n,rfl,hn⟩:=hy.cO
    have:=lW ht
    rw[hd]at this;cases this
    rw[hn]
    simp[Instr.sameNow,lT,PV.toInt];rfl
   | bool=>
    rw[ht]at J2 hy
    obtain⟨m,rfl,rfl⟩:=J2.dR
    obtain⟨n,rfl,hn⟩:=hy.dR
    have:=rT ht
    rw[hd]at this;cases this
    rw[hn]
    simp[Instr.sameNow,lT,PV.toBool]
   | str=>
    rw[ht]at J2 hy
    obtain⟨m,rfl,rfl⟩:=J2.dm
    obtain⟨n,rfl,hn⟩:=hy.dm
    have:=gz ht
    rw[hd]at this;cases this
    rw[hn]
    simp[Instr.sameNow,lT,PV.toStr]
    exact bytes_beq m n
   | _=>simp[ht,sN]at hk
  simp only[Instr.findNow,uM,mapIdx,cI]
  cases he:lT (ai P kt) kx y with
  | true=>exact .inr ⟨0,en,v,y,rfl,rfl,rfl,he,rfl,rfl,rfl⟩
  | false=>
   rcases lI hd hk J2 (es:=es) (ks:=ks) (vs:=vs) (i0:=i0+1) (by simpa using h1) (by simpa using h2) (fun i en x gL hx=>hr (i+1) en x (by simpa using gL) (by simpa using hx))with ⟨e1,e2,e3⟩ | ⟨j,Nd,v',y',e1,e2,e3,e4,e5,e6,e7⟩
   ·exact .inl ⟨e1,e2,e3⟩
   ·refine .inr ⟨j+1,Nd,v',y',by simpa using e1,by simpa using e2,by simpa using e3,e4, ?_, ?_,e7⟩
    ·simp only[];rw[e5];congr 3;omega
    ·simp only[cond_false];rw[e6];congr 1;omega
theorem Di (h:Good P N st a hv w g) {T:TypeId} {x ix:Operand} {ok:Bool} (aM:o.op= .lookup T x ix ok) (br:ey N o) (hk:dX P call o st K=some r) (ag:fR P st a w g K r o next):o.wp P a w next Q:=by
 simp only[dX,aM]at hk
 have hx:=br x (by simp[aM,Op.operands])
 have RT:=br ix (by simp[aM,Op.operands])
 split at hk
 ·rename_i k e hT
  split at hk
  ·rename_i ks vs kx z hm J2 hz
   obtain⟨OX,hk⟩:=bg hk
   have hu:=tY hT
   have hp:=h.rd RT J2
   obtain⟨zv,Nc,Hk,_⟩:=iO (w:=w) (g:=g) hz
   obtain⟨d,hd⟩:=gA hp
   have NA:=sV h hx hm
   have key:∃v b,(Instr.lookup T (a.eval x) (a.eval ix) ok).run P w= .ok (if ok then .tuple #[v, .bool b]else v) w∧aV P w g (ai P e) ((cI (ai P k) kx ks vs).getD z) v∧b=(cI (ai P k) kx ks vs).isSome:=by
    generalize a.eval x=u at NA
    cases NA with
    | nil=>
     refine⟨zv,false, ?_,by simpa[cI]using Hk,rfl⟩
     simp only[Instr.lookup,Sem.run_bind,run_underlying hu,Result.andThen_ok,Sem.run_pure,Array.isEmpty_empty,run_checkKey OX,Instr.findKey,run_underlying hd,Instr.findNow,Nc]
    | «at» _ _ b es clock hh sW UJ h1 h2=>
     have VK:ks.length=es.toList.length:=by simpa using sW
     have VL:vs.length=es.toList.length:=by simpa using UJ
     rcases lI (i0:=0) hd OX hp VK VL (fun i en x gL hx=>h1 i en x (by simpa using gL) hx)with ⟨e1,_,e3⟩ | ⟨j,en,v,y,e1,e2,_,_,e5,_,e7⟩
     ·refine⟨zv,false, ?_,by rw[e3];simpa using Hk,by rw[e3];rfl⟩
      simp only[Instr.lookup,Sem.run_bind,run_underlying hu,Result.andThen_ok,Sem.run_pure,run_getObj_map hh,run_checkKey OX,Instr.findKey,run_underlying hd,e1,Nc]
     ·refine⟨en.val,true, ?_,by rw[e7];exact h2 j en v (by simpa using e1) e2,by rw[e7];rfl⟩
      simp only[Instr.lookup,Sem.run_bind,run_underlying hu,Result.andThen_ok,Sem.run_pure,run_getObj_map hh,run_checkKey OX,Instr.findKey,run_underlying hd,e5]
   obtain⟨v,b,ba,Qz,hb⟩:=key
   have sQ:(execOp a.eval o).run P w= .ok (.value (if ok then .tuple #[v, .bool b]else v)) w:=by
    simp only[execOp,aM,Sem.run_bind,ba,Result.andThen_ok,Sem.run_pure]
   cases ok with
   | true=>
    simp only[cond_true]at hk
    simp only[if_true]at sQ
    refine bo h sQ (fun _=> .jg _ [v, .bool b] rfl (fun i x u hx hu=> ?_)) hk ag
    match i with
    | 0=>simp at hx hu;subst hx hu;exact⟨_,_,rfl,Qz⟩
    | 1=>simp at hx hu;subst hx hu;exact⟨_,_,rfl,by rw[hb];exact .bool _⟩
    | i+2=>simp at hx
   | false=>
    simp only[cond_false]at hk
    exact aY h sQ Qz hk ag
  ·cases hk
 ·cases hk
theorem yL (h:Good P N st a hv w g) {fn:Fn} {first cap:Array Operand} (aM:o.op= .makeFunc fn first cap) (br:ey N o) (hk:dX P call o st K=some r) (ag:fR P st a w g K r o next):o.wp P a w next Q:=by
 cases fn with
 | func f=>
  simp only[dX,aM]at hk
  obtain⟨hc,hk⟩:=bg hk
  simp only[Array.isEmpty_iff]at hc
  subst hc
  split at hk
  ·rename_i cs jN
   obtain⟨m1,m2⟩:=mapM_some jN
   refine aY h (v:= .func (.func f) #[] ⟨(cap.map a.eval).toList⟩) ?_ (.wN f cs _ (by simpa using m1.symm) (fun i x v hx hv=> ?_)) hk ag
   ·simp only[execOp,aM,Instr.makeFunc,Sem.run_bind,Sem.run_pure,Result.andThen_ok,List.map_toArray,List.map_nil]
   ·simp only[Array.toList_map,List.getElem?_map,Option.map_eq_some_iff]at hv
    obtain⟨y,hy,rfl⟩:=hv
    obtain⟨x',tZ,UK⟩:=m2 i y hy
    rw[hx]at tZ
    cases tZ
    have Sv:bL N y=true:=br y (by
     simp only[aM,Op.operands,Array.mem_append];exact .inr (Array.mem_toList_iff.1 (List.mem_of_getElem? hy)))
    cases y with
    | tmp t=>exact h.gK (by simpa[bL]using Sv) UK
    | _=>simp[Ft]at UK
  ·cases hk
 | _=>simp[dX,aM]at hk
end
end Go.V
namespace Go.V
section
variable {P:Program} {N:Nat} {st:St} {a:Act} {hv:List Value} {w:World} {g:G} {K:AV→R} {r:List AO×List AO} {o:Oper} {next:Act→World→Prop} {Q:Exit→Act→World→Prop} {call:aw}
theorem l9 (bu:ct P call) (h:Good P N st a hv w g) (br:ey N o) (hk:dX P call o st K=some r) (ag:fR P st a w g K r o next):o.wp P a w next Q:=by
 have UL:=hk
 cases aM:o.op with
 | move x=>exact JO h aM br hk ag
 | assign x=>exact Da h aM br hk ag
 | pick c x y=>exact JP h aM br hk ag
 | alloc E=>exact Hn h aM hk ag
 | box E x=>exact Ny h aM br hk ag
 | build T ps=>exact Hm h aM br hk ag
 | buildSlice T n ps=>exact uK h aM br hk ag
 | load T x=>exact JN h aM br hk ag
 | nilCheck x=>exact yD h aM br hk ag
 | binOp op t x y ty=>exact He h aM br hk ag
 | unOp op t x=>exact JQ h aM br hk ag
 | convert s d x=>exact AY h aM br hk ag
 | makeInterface t x=>exact qJ h aM br hk ag
 | makeSlice T n c=>exact wU h aM br hk ag
 | slice T x lo hi mx=>exact Hj h aM br hk ag
 | fieldAddr T x f=>exact wQ h aM br hk ag
 | field T x f=>exact Hf h aM br hk ag
 | indexAddr T x i=>exact wR h aM br hk ag
 | index T x i=>exact Hi h aM br hk ag
 | extract x i=>exact A0 h aM br hk ag
 | makeFunc fn first cap=>exact yL h aM br hk ag
 | makeMap T r=>exact A8 h aM hk ag
 | lookup T x ix ok=>exact Di h aM br hk ag
 | call c=>
  cases hc:c.callee with
  | builtin b=>
   cases b with
   | len=>exact Nz h aM hc br hk ag
   | max=>exact NB h aM hc br hk ag
   | min=>exact NC h aM hc br hk ag
   | _=>simp[dX,aM,hc]at UL
  | value f=>
   cases f with
   | func f=>exact J1 bu h aM hc br hk ag
   | tmp t=>exact NF bu h aM hc br hk ag
   | _=>simp[dX,aM,hc,qC]at UL
  | invoke _ _=>simp[dX,aM,hc]at UL
 | _=>simp[dX,aM]at UL
end
end Go.V
namespace Go.V
structure Compat (x' x:AO):Prop where
 live:x'≠ .dead→x≠ .dead
 box:∀E mH,x'= .box E mH→∃E0 cs,x= .box E0 cs
 arr:∀E m,x'.iF=some (E,m)→x.iF=some (E,m)
theorem Compat.refl (x:AO):Compat x x:=⟨id,fun E cs h=>⟨E,cs,h⟩,fun _ _ h=>h⟩
theorem Compat.dead (x:AO):Compat .dead x:=⟨fun h=>absurd rfl h,(fun _ _ h=>by cases h),fun _ _ h=>by simp[AO.iF]at h⟩
theorem iQ (p:List Nat):AO.at .dead p= .dead:=by cases p<;>rfl
theorem ma:∀(x:AO) (p q:List Nat),x.at (p++q)=(x.at p).at q
 | x,[],q=>by simp[AO.at]
 | x,i::p,q=>by
  cases x with
  | box E cs=>simp only[List.cons_append,AO.at];exact ma _ p q
  | own E D l h=>
   simp only[List.cons_append,AO.at]
   cases isHole h i with
   | true=>simp[iQ]
   | false=>simp only[cond_false];exact ma _ p q
  | _=>simp[AO.at,iQ]
theorem kj {α:Type} (d:α) (l:List α) (i j:Nat) (x:α):nth d (l.set i x) j=if j=i∧i<l.length then x else nth d l j:=by
 simp only[bZ,List.getElem?_set]
 by_cases h:i=j
 ·subst h
  by_cases hl:i<l.length
  ·simp[hl]
  ·simp[hl]
 ·simp[h,Ne.symm h]
theorem kn (y:AO) (E:TypeId) (l:List PV) (i:Nat) (p:List Nat):AO.fh y (.arr E l) (i::p)= .arr E l:=rfl
theorem gl (E D:TypeId) (l:List PV) (h:Option Nat) (i:Nat) (y:AO):
  (∃l',y= .arr D l'∧uw E D l h i y= .own E D (l.set i (.sl l')) h)∨(y= .dead∧h=none∧uw E D l h i y= .own E D l (some i))∨uw E D l h i y= .dead:=by
 unfold uw
 split
 ·rename_i E' l'
  cases hb:Nat.beq E' D with
  | true=>exact .inl ⟨l',by rw[Nat.eq_of_beq_eq_true hb],rfl⟩
  | false=>exact .inr (.inr rfl)
 ·split
  ·exact .inr (.inl ⟨rfl,rfl,rfl⟩)
  ·exact .inr (.inr rfl)
 ·exact .inr (.inr rfl)
theorem mS (y:AO):∀(p:List Nat) (x:AO) (q:List Nat),x.at p≠ .dead→(y≠ .dead→x.CU p=true)→(AO.fh y x p).at (p++q)=y.at q∨(AO.fh y x p).at (p++q)= .dead
 | [],x,q,_,_=>by simp[AO.fh]
 | i::p,x,q,h,hk=>by
  cases x with
  | own E D l hh=>
   simp only[AO.at]at h
   cases hi:isHole hh i with
   | true=>simp[hi]at h
   | false=>
    simp only[hi,cond_false]at h
    cases p with
    | cons j p=>simp[AO.at]at h
    | nil=>
     simp only[AO.fh,hi,cond_false,List.cons_append,List.nil_append]
     rcases gl E D l hh i y with ⟨l',rfl,e⟩ | ⟨rfl,rfl,e⟩ | e
     ·rw[e]
      have b6:=hk (by simp)
      simp only[AO.CU,Bool.and_true,decide_eq_true_eq]at b6
      simp[AO.at,hi,kj,b6,PV.toList]
     ·rw[e];right
      simp[AO.at,isHole]
     ·rw[e];exact .inr rfl
  | box E cs=>
   simp only[AO.at]at h
   have hi:i<cs.length:=by
    rcases Nat.lt_or_ge i cs.length with h' | h'
    ·exact h'
    ·exfalso;apply h;rw[bZ,List.getElem?_eq_none h'];exact iQ p
   simp only[AO.fh,List.cons_append,AO.at,kj,hi,and_self,if_true]
   exact mS y p _ q h (fun hd=>by simpa[AO.CU]using hk hd)
  | pv t v=>simp[AO.at]at h
  | arr E l=>simp[AO.at]at h
  | map k e ks vs=>simp[AO.at]at h
  | dead=>simp[AO.at]at h
theorem jx (y:AO):∀(p:List Nat) (x:AO) (q:List Nat),pre p q=false→Compat ((AO.fh y x p).at q) (x.at q)
 | [],x,q,h=>by simp[eJ]at h
 | i::p,x,[],_=>by
  cases x with
  | box E cs=>exact⟨by simp[AO.fh,AO.at],fun E' mH h=>by simp[AO.fh,AO.at]at h;exact⟨E,cs,by simp[AO.at]⟩,fun _ _ h=>by simp[AO.fh,AO.at,AO.iF]at h⟩
  | own E D l hh=>
   simp only[AO.fh,AO.at]
   cases hi:isHole hh i with
   | true=>exact Compat.refl _
   | false=>
    simp only[cond_false]
    rcases gl E D l hh i (AO.fh y (.arr D (nth default l i).toList) p)with ⟨l',_,e⟩ | ⟨_,_,e⟩ | e
    ·rw[e];exact⟨fun _=>by simp,fun _ _ h=>by simp at h,fun E' m h=>by simpa[AO.iF]using h⟩
    ·rw[e];exact⟨fun _=>by simp,fun _ _ h=>by simp at h,fun E' m h=>by simpa[AO.iF]using h⟩
    ·rw[e];exact Compat.dead _
  | pv t v=>exact Compat.refl _
  | arr E l=>exact Compat.refl _
  | map k e ks vs=>exact Compat.refl _
  | dead=>exact Compat.refl _
 | i::p,x,j::q,h=>by
  cases x with
  | box E cs=>
   simp only[AO.fh,AO.at,kj]
   by_cases hj:j=i∧i<cs.length
   ·rw[if_pos hj]
    obtain⟨rfl,_⟩:=hj
    refine jx y p _ q ?_
    simpa[pre]using h
   ·rw[if_neg hj];exact Compat.refl _
  | own E D l hh=>
   simp only[AO.fh]
   cases hi:isHole hh i with
   | true=>exact Compat.refl _
   | false=>
    simp only[cond_false]
    cases q with
    | cons k q=>
     rcases gl E D l hh i (AO.fh y (.arr D (nth default l i).toList) p)with ⟨l',_,e⟩ | ⟨_,_,e⟩ | e
     ·rw[e];simp only[AO.at];cases isHole hh j<;>exact Compat.refl _
     ·rw[e];simp only[AO.at];cases isHole (some i) j<;>cases isHole hh j<;>first | exact Compat.refl _ | exact Compat.dead _
     ·rw[e];rw[iQ];exact Compat.dead _
    | nil=>
     have Ay:p=[]→j≠i:=by
      rintro rfl rfl
      simp[pre,cQ]at h
     have inner:∀l',AO.fh y (.arr D (nth default l i).toList) p= .arr D l'→j=i→l'=(nth default l i).toList:=by
      intro l' e Hp
      cases p with
      | nil=>exact absurd Hp (Ay rfl)
      | cons k p=>rw[kn]at e;simp at e;exact e.symm
     rcases gl E D l hh i (AO.fh y (.arr D (nth default l i).toList) p)with ⟨l',e0,e⟩ | ⟨e0,_,e⟩ | e
     ·rw[e]
      simp only[AO.at]
      cases isHole hh j with
      | true=>exact Compat.refl _
      | false=>
       simp only[cond_false,kj]
       by_cases hj:j=i∧i<l.length
       ·rw[if_pos hj]
        simp only[PV.toList]
        rw[inner l' e0 hj.1,hj.1];exact Compat.refl _
       ·rw[if_neg hj];exact Compat.refl _
     ·rw[e]
      simp only[AO.at]
      have Hp:j≠i:=by
       intro Hp
       cases p with
       | nil=>exact Ay rfl Hp
       | cons k p=>rw[kn]at e0;cases e0
      have:isHole (some i) j=false:=by simp[isHole,cQ];exact Ne.symm Hp
      rw[this]
      rename_i hn
      subst hn
      exact Compat.refl _
     ·rw[e];rw[iQ];exact Compat.dead _
  | pv t v=>exact Compat.refl _
  | arr E l=>exact Compat.refl _
  | map k e ks vs=>exact Compat.refl _
  | dead=>exact Compat.refl _
theorem bX:∀(p q:List Nat),pre p q=true↔ ∃r,q=p++r
 | [],q=>by simp[eJ]
 | x::p,[]=>by simp[pre]
 | x::p,y::q=>by
  simp only[pre,Bool.and_eq_true,cQ,decide_eq_true_eq,bX p q,List.cons_append,List.cons.injEq]
  constructor
  ·rintro ⟨rfl,r,rfl⟩;exact⟨r,rfl,rfl⟩
  ·rintro ⟨r,rfl,rfl⟩;exact⟨rfl,r,rfl⟩
section
variable {P:Program} {N:Nat} {st aZ:St} {a:Act} {hv:List Value} {w w':World} {g g':G}
theorem bY.fh {s:Nat} {y:AO} (hs:w.heap.size≤w'.heap.size) (hf:∀b,b<w.heap.size→g.tag b= .free→g'.tag b= .free∧w'.heap[b]? =w.heap[b]?):
  ∀(p r:List Nat) (x:AO),bY P w g s r x→bY P w' g' s (r++p) y→(∀q,pre (r++p) q=false→g'.val s q=g.val s q)→
  (∀b q,b<w.heap.size→g.tag b= .own s q→pre (r++p) q=false→g'.tag b= .own s q∧w'.heap[b]? =w.heap[b]?)→
  (y≠ .dead→x.at p≠ .dead∧g'.val s (r++p)=g.val s (r++p))→(y≠ .dead→x.CU p=true)→bY P w' g' s r (AO.fh y x p)
 | [],r,x,_,hy,_,_,_,_=>by simpa[AO.fh]using hy
 | i::p,r,x,hx,hy,hv,ho,hd,xx=>by
  have Dj:∀q,pre (r++i::p) (r++q)=true→∃q',q=i::q'∧pre p q'=true:=by
   intro q hq
   obtain⟨z,hz⟩:=(bX _ _).1 hq
   simp only[List.append_assoc,List.cons_append,List.append_cancel_left_eq]at hz
   exact⟨p++z,hz,(bX _ _).2 ⟨z,rfl⟩⟩
  have nL:∀q,(∀q',q≠i::q')→pre (r++i::p) (r++q)=false:=by
   intro q hq
   cases h:pre (r++i::p) (r++q)with
   | false=>rfl
   | true=>obtain⟨q',h1,_⟩:=Dj q h;exact absurd h1 (hq q')
  have Az:pre (r++i::p) r=false:=by have:=nL [] (by simp);simpa using this
  cases hx with
  | pv _ t z h=>
   show bY P w' g' s r (.pv t z)
   refine .pv r t z ?_
   rw[hv r Az];exact h.ext hs hf
  | dead _=>exact .dead r
  | jt _ E bh=>
   show bY P w' g' s r (.arr E [])
   exact .jt r E (by rw[hv r Az];exact bh)
  | arr _ E l b off cap vs f T bh hh ht hl cU he hc=>
   show bY P w' g' s r (.arr E l)
   have hb:b<w.heap.size:=by
    rcases Nat.lt_or_ge b w.heap.size with h | h
    ·exact h
    ·rw[Array.getElem?_eq_none h]at hh;cases hh
   obtain⟨t1,t2⟩:=ho b r hb ht Az
   exact .arr r E l b off cap vs f T (by rw[hv r Az];exact bh) (by rw[t2];exact hh) t1 hl cU (fun i x hx=>(he i x hx).ext hs hf) hc
  | map _ k e ks vs b es clock bh hh ht hk nz h1 h2=>
   show bY P w' g' s r (.map k e ks vs)
   obtain⟨t1,t2⟩:=ho b r (bT hh) ht Az
   exact .map r k e ks vs b es clock (by rw[hv r Az];exact bh) (by rw[t2];exact hh) t1 hk nz (fun i en x gL hx=>(h1 i en x gL hx).ext hs hf) (fun i en x gL hx=>(h2 i en x gL hx).ext hs hf)
  | og _ E D h bh fQ=>
   have db:∀k,k≠i→isHole h k=false→bY P w' g' s (r++[k]) (.arr D []):=fun k hk hh=>
    (fQ k hh).ext hs hf (fun q=>hv _ (by rw[List.append_assoc];exact nL _ (by intro q';simp;intro h;exact absurd h hk)))
     (fun b q hb ht=>ho b _ hb ht (by rw[List.append_assoc];exact nL _ (by intro q';simp;intro h;exact absurd h hk)))
   simp only[AO.fh]
   cases hi:isHole h i with
   | true=>
    simp only[cond_true]
    exact .og r E D h (by rw[hv r Az];exact bh) (fun k hk=>db k (by rintro rfl;rw[hi]at hk;cases hk) hk)
   | false=>
    simp only[cond_false]
    have ih:=bY.fh hs hf p (r++[i]) (.arr D (nth (default:PV) [] i).toList) (by simpa[nth,PV.toList,default,instInhabitedPV]using fQ i hi) (by simpa using hy) (fun q hq=>hv q (by simpa using hq)) (fun b q hb ht hq=>ho b q hb ht (by simpa using hq)) (fun AA=>by
     obtain⟨d1,d2⟩:=hd AA
     simp only[AO.at,hi,cond_false]at d1
     exact⟨d1,by simpa using d2⟩) (fun AA=>by
     have:=xx AA
     simp[AO.CU]at this)
    rcases gl E D [] h i (AO.fh y (.arr D (nth (default:PV) [] i).toList) p)with ⟨l',e0,e⟩ | ⟨e0,hn,e⟩ | e
    ·rw[e]
     rw[e0]at ih
     have jR:l'=[]:=by
      cases p with
      | nil=>
       simp only[AO.fh]at e0
       have:=xx (by rw[e0];simp)
       simp[AO.CU]at this
      | cons k p=>rw[kn]at e0;simp[nth,PV.toList,default,instInhabitedPV]at e0;exact e0
     subst jR
     exact .og r E D h (by rw[hv r Az];exact bh) (fun k hk=>by
      by_cases mI:k=i
      ·subst mI;exact ih
      ·exact db k mI hk)
    ·rw[e]
     subst hn
     exact .og r E D (some i) (by rw[hv r Az];exact bh) (fun k hk=>db k (by rintro rfl;simp[isHole]at hk) rfl)
    ·rw[e];exact .dead r
  | own _ E D l h b off cap vs T bh hh ht hl cU h1 iK kW hc fQ=>
   obtain⟨t1,t2⟩:=ho b r (bT hh) ht Az
   have RY:∀k,k≠i→g'.val s (r++[k])=g.val s (r++[k]):=fun k hk=>hv _ (nL [k] (by intro q';simp;intro h;exact absurd h hk))
   have db:∀k,k≠i→isHole h k=false→bY P w' g' s (r++[k]) (.arr D (nth default l k).toList):=fun k hk hh=>
    (fQ k hh).ext hs hf (fun q=>hv _ (by rw[List.append_assoc];exact nL _ (by intro q';simp;intro h;exact absurd h hk)))
     (fun b q hb ht=>ho b _ hb ht (by rw[List.append_assoc];exact nL _ (by intro q';simp;intro h;exact absurd h hk)))
   simp only[AO.fh]
   cases hi:isHole h i with
   | true=>
    simp only[cond_true]
    have dc:∀k,isHole h k=false→k≠i:=by rintro k hk rfl;rw[hi]at hk;cases hk
    exact .own r E D l h b off cap vs T (by rw[hv r Az];exact bh) (by rw[t2];exact hh) t1 hl cU h1 iK kW (fun k hk kK=>by rw[RY k (dc k kK)];exact hc k hk kK) (fun k hk=>db k (dc k hk) hk)
   | false=>
    simp only[cond_false]
    have ih:=bY.fh hs hf p (r++[i]) (.arr D (nth default l i).toList) (fQ i hi) (by simpa using hy) (fun q hq=>hv q (by simpa using hq)) (fun b q hb ht hq=>ho b q hb ht (by simpa using hq)) (fun AA=>by
     obtain⟨d1,d2⟩:=hd AA
     simp only[AO.at,hi,cond_false]at d1
     exact⟨d1,by simpa using d2⟩) (fun AA=>by
     have:=xx AA
     simp only[AO.CU,Bool.and_eq_true]at this
     exact this.2)
    rcases gl E D l h i (AO.fh y (.arr D (nth default l i).toList) p)with ⟨l',e0,e⟩ | ⟨e0,hn,e⟩ | e
    ·rw[e]
     rw[e0]at ih
     have uI:g'.val s (r++[i])=g.val s (r++[i]):=by
      cases p with
      | nil=>
       simp only[AO.fh]at e0
       exact(hd (by rw[e0];simp)).2
      | cons k p=>
       refine hv _ ?_
       cases hq:pre (r++i::k::p) (r++[i])with
       | false=>rfl
       | true=>
        obtain⟨q',q1,q2⟩:=Dj _ hq
        simp at q1;subst q1;simp[pre]at q2
     have yM:∀k,(nth default (l.set i (PV.sl l')) k).toList=if k=i then l' else(nth default l k).toList:=by
      intro k
      rw[kj]
      by_cases mI:k=i
      ·subst mI
       rw[if_pos rfl]
       by_cases b6:k<l.length
       ·rw[if_pos ⟨rfl,b6⟩];rfl
       ·rw[if_neg (fun hh=>b6 hh.2)]
        cases p with
        | nil=>
         simp only[AO.fh]at e0
         have:=xx (by rw[e0];simp)
         simp only[AO.CU,Bool.and_eq_true,decide_eq_true_eq]at this
         exact absurd this.1 b6
        | cons k' p=>rw[kn]at e0;simp at e0;exact e0
      ·rw[if_neg mI,if_neg (fun hh=>mI hh.1)]
     refine .own r E D _ h b off cap vs T (by rw[hv r Az,List.length_set];exact bh) (by rw[t2];exact hh) t1 (by simpa using hl) cU h1 iK (fun k x hx=> ?_) (fun k hk kK=> ?_) (fun k hk=> ?_)
     ·rw[List.getElem?_set]at hx
      split at hx
      ·split at hx
       ·cases hx;rfl
       ·cases hx
      ·exact kW k x hx
     ·rw[List.length_set]at hk
      by_cases mI:k=i
      ·subst mI;rw[uI];exact hc k hk kK
      ·rw[RY k mI];exact hc k hk kK
     ·rw[yM]
      by_cases mI:k=i
      ·subst mI;rw[if_pos rfl];exact ih
      ·rw[if_neg mI];exact db k mI hk
    ·rw[e]
     subst hn
     have dc:∀k,isHole (some i) k=false→k≠i:=by rintro k hk rfl;simp[isHole]at hk
     exact .own r E D l (some i) b off cap vs T (by rw[hv r Az];exact bh) (by rw[t2];exact hh) t1 hl cU h1 iK kW (fun k hk kK=>by rw[RY k (dc k kK)];exact hc k hk rfl) (fun k hk=>db k (dc k hk) rfl)
    ·rw[e];exact .dead r
  | box _ E cs b vs bh hh ht hl hc nQ=>
   have hb:b<w.heap.size:=by
    rcases Nat.lt_or_ge b w.heap.size with h | h
    ·exact h
    ·rw[Array.getElem?_eq_none h]at hh;cases hh
   obtain⟨t1,t2⟩:=ho b r hb ht Az
   simp only[AO.fh]
   refine .box r E _ b vs (by rw[hv r Az];exact bh) (by rw[t2];exact hh) t1 (by simp[hl]) (fun j z hj=> ?_) (fun j z hj hz=> ?_)
   ·rw[List.getElem?_set]at hj
    split at hj
    ·rename_i Ay
     subst Ay
     split at hj
     ·rename_i hi
      cases hj
      have CV:=List.getElem?_eq_getElem hi
      have hn:nth .dead cs i=cs[i]:=by rw[bZ,CV];rfl
      rw[hn]
      refine bY.fh hs hf p (r++[i]) cs[i] (hc i _ CV) (by simpa using hy) (fun q hq=>hv q (by simpa using hq)) (fun b q hb ht hq=>ho b q hb ht (by simpa using hq)) (fun AA=>by
      obtain⟨d1,d2⟩:=hd AA
      simp only[AO.at,hn]at d1
      exact⟨d1,by simpa using d2⟩) (fun AA=>by
      have:=xx AA
      simpa[AO.CU,hn]using this)
     ·cases hj
    ·rename_i Ay
     refine(hc j z hj).ext hs hf (fun q=> ?_) (fun b q hb ht=> ?_)
     ·refine hv _ ?_
      rw[List.append_assoc];exact nL _ (by intro q';simp;intro h;exact absurd h.symm Ay)
     ·refine ho b _ hb ht ?_
      rw[List.append_assoc];exact nL _ (by intro q';simp;intro h;exact absurd h.symm Ay)
   ·rw[List.getElem?_set]at hj
    split at hj
    ·rename_i Ay
     subst Ay
     split at hj
     ·rename_i hi
      cases hj
      have CV:=List.getElem?_eq_getElem hi
      have hn:nth .dead cs i=cs[i]:=by rw[bZ,CV];rfl
      rw[hn]at hz
      cases p with
      | nil=>
       simp only[AO.fh]at hz
       obtain⟨d1,d2⟩:=hd hz
       simp only[AO.at,hn]at d1
       rw[nQ i _ CV d1,d2]
      | cons k p=>
       have dc:cs[i]≠ .dead:=by intro h0;rw[h0]at hz;exact hz rfl
       rw[nQ i _ CV dc,hv]
       cases hq:pre (r++i::k::p) (r++[i])with
       | false=>rfl
       | true=>
        obtain⟨q',h1,h2⟩:=Dj _ hq
        simp at h1;subst h1;simp[pre]at h2
     ·cases hj
    ·rename_i Ay
     rw[nQ j z hj hz,hv]
     exact nL [j] (by intro q';simp;intro h;exact absurd h.symm Ay)
theorem fm.J3 {s:Nat} {x:AV} {v:Value} (h:fm P w g st s x v) (hs:w.heap.size≤w'.heap.size)
  (hf:∀b,b<w.heap.size→g.tag b= .free→g'.tag b= .free∧w'.heap[b]? =w.heap[b]?)
  (hx:∀y,x≠ .o y)
  (hr:∀r p,x.names r p→(obj aZ r p= .dead)∨(Compat (obj aZ r p) (obj st r p)∧g'.val r p=g.val r p)):
  fm P w' g' aZ s x v:=by
 cases h with
 | o x v hv h=>exact absurd rfl (hx x)
 | al r p v h=>
  refine .al r p v (fun hd=> ?_)
  rcases hr r p (uC r p)with h1 | ⟨h1,h2⟩
  ·exact absurd h1 hd
  ·rw[h2];exact h (h1.live hd)
 | ptr r p off v h=>
  refine .ptr r p off v (fun E cs he=> ?_)
  rcases hr r p (rR r p off)with h1 | ⟨h1,h2⟩
  ·rw[h1]at he;cases he
  ·rw[h2];obtain⟨E0,mH,hc⟩:=h1.box E cs he;exact h E0 mH hc
 | el r p i off v h=>
  refine .el r p i off v (fun E l he=> ?_)
  rcases hr r p (uD r p i off)with h1 | ⟨h1,h2⟩
  ·rw[h1]at he;simp[AO.iF]at he
  ·rw[h2];exact h E l (h1.arr E l he)
 | lE T cs vs hl h3 h4 h5 h1 h2=>
  refine .lE T cs vs hl h3 h4 h5 (fun i t x v hx hv=>(h1 i t x v hx hv).ext hs hf) (fun i r p v hx hv hd=> ?_)
  rcases hr r p (rS hx)with e1 | ⟨e1,e2⟩
  ·exact absurd e1 hd
  ·rw[e2];exact h2 i r p v hx hv (e1.live hd)
 | clip E l a h=>exact .clip E l a (h.ext hs hf)
 | fix v=>exact .fix v
 | ip E x off b o f h hc ht hb=>
  obtain⟨h1,h2⟩:=hf b hb ht
  exact .ip E x off b o f (h.ext hs hf) (fun j hj=>by rw[World.cell?_of_block (w:=w) h2];exact hc j hj) h1 (Nat.lt_of_lt_of_le hb hs)
 | jg xs vs hl h=>
  refine .jg xs vs hl (fun i x v hx hv=> ?_)
  obtain⟨t,y,h1,h2⟩:=h i x v hx hv
  exact⟨t,y,h1,h2.ext hs hf⟩
 | dead v=>exact .dead v
theorem Good.jy (h:Good P N st a hv w g) {s:Nat} (hs:s<st.length) {v:Value} (bh:(a.tmps.toList++hv)[s]? =some v):fm P w g st s (get st s) v:=by
 refine h.inv.slot s _ v ?_ bh
 rw[get,bZ,List.getElem?_eq_getElem hs];rfl
theorem Good.mk' (h:Good P N st a hv w g) (hlen:aZ.length=st.length) (fT:∀b,w'.heap.size≤b→g'.tag b= .free) (NG:mN P w' g')
  (hs:∀s v,s<st.length→(a.tmps.toList++hv)[s]? =some v→fm P w' g' aZ s (get aZ s) v):Good P N aZ a hv w' g':=by
 refine⟨⟨by rw[hlen];exact h.inv.len,fun s x v hx bh=> ?_,fT,NG⟩,h.sz,h.OO⟩
 have b6:=(List.getElem?_eq_some_iff.1 hx).1
 have:=hs s v (by omega) bh
 rw[gE hx]at this;exact this
theorem Good.kill (h:Good P N st a hv w g) (s:Nat) (p:List Nat):Good P N (V.kill s p st) a hv w g:=by
 refine h.mk' (bC _ _ _) h.inv.fresh h.inv.vars (fun t v ht bh=> ?_)
 have hs:=h.jy ht bh
 rw[cj]
 cases hr:(get st t).ar s p with
 | true=>exact .dead v
 | false=>
  exact hs.db (Nat.le_refl _) (fun _ _ hb=>⟨hb,rfl⟩) (fun _ _ _=>⟨fun _=>rfl,fun _ _ _ ht=>⟨ht,rfl⟩⟩) (fun r q _=> .inr ⟨fX s p st r q,rfl⟩)
theorem gY (h:Good P N st a hv w g) {s:Nat} {p:List Nat} {y:AO} (fA:obj st s p≠ .dead) (xx:y≠ .dead→gx st s p=true) (hs:w.heap.size≤w'.heap.size) (hf:∀b,b<w.heap.size→g.tag b= .free→g'.tag b= .free∧w'.heap[b]? =w.heap[b]?)
  (fT:∀b,w'.heap.size≤b→g'.tag b= .free) (hy:bY P w' g' s p y)
  (eL:∀t q,(t≠s∨pre p q=false)→g'.val t q=g.val t q) (Yi:y≠ .dead→g'.val s p=g.val s p)
  (ho:∀b t q,b<w.heap.size→g.tag b= .own t q→(t≠s∨pre p q=false)→g'.tag b= .own t q∧w'.heap[b]? =w.heap[b]?)
  (hr:∀q t,(get st t).names s (p++q)→y.at q= .dead∨(Compat (y.at q) ((obj st s p).at q)∧g'.val s (p++q)=g.val s (p++q))):
  Good P N (setObj st s p y) a hv w' g':=by
 have ko:∃x,get st s= .o x:=by
  unfold obj at fA
  split at fA
  ·exact⟨_,by assumption⟩
  ·exact absurd rfl fA
 obtain⟨x,hx⟩:=ko
 have qO:x.at p=obj st s p:=by unfold obj;rw[hx]
 have SD:y≠ .dead→x.CU p=true:=fun hd=>by have:=xx hd;unfold gx at this;rw[hx]at this;exact this
 have jw:setObj st s p y=st.set s (.o (AO.fh y x p)):=by unfold setObj;rw[hx]
 have SE:s<st.length:=by
  rcases Nat.lt_or_ge s st.length with h' | h'
  ·exact h'
  ·rw[get,bZ,List.getElem?_eq_none h']at hx;cases hx
 have AQ:∀t q,obj (setObj st s p y) t q=if t=s then(AO.fh y x p).at q else obj st t q:=by
  intro t q
  by_cases lJ:t=s
  ·subst lJ
   rw[if_pos rfl,jw]
   unfold obj;rw[bU];simp[SE]
  ·rw[if_neg lJ,jw,yC _ lJ]
 refine h.mk' (by rw[jw];simp) fT (h.inv.vars.db hs hf) (fun t v ht bh=> ?_)
 have kD:=h.jy ht bh
 by_cases lJ:t=s
 ·subst lJ
  have hg:get (setObj st t p y) t= .o (AO.fh y x p):=by rw[jw,bU];simp[SE]
  rw[hg]
  rw[hx]at kD
  cases kD with
  | o _ _ eD fq=>
   refine .o _ v (fun hd=> ?_) (fq.fh hs hf p [] x (by simpa using hy) (fun q hq=>eL t q (.inr (by simpa using hq))) (fun b q hb ht hq=>ho b t q hb ht (.inr (by simpa using hq))) (fun AA=>⟨by rw[qO];exact fA,by simpa using Yi AA⟩) SD)
   cases p with
   | nil=>
    simp only[AO.fh]at hd
    have:x≠ .dead:=by intro h0;apply fA;rw[←qO,h0];rfl
    rw[eD this,Yi hd]
   | cons i p=>
    have:x≠ .dead:=by intro h0;apply fA;rw[←qO,h0];rfl
    rw[eD this,eL t [] (.inr rfl)]
 ·have hg:get (setObj st s p y) t=get st t:=by rw[jw,bU];simp[lJ]
  rw[hg]
  by_cases A9:∃z,get st t= .o z
  ·obtain⟨z,hz⟩:=A9
   rw[hz]at kD ⊢
   cases kD with
   | o _ _ eD fq=>
    exact .o z v (fun hd=>by rw[eD hd,eL t [] (.inl lJ)]) (fq.ext hs hf (fun q=>by simpa using eL t q (.inl lJ)) (fun b q hb ht=>by simpa using ho b t q hb (by simpa using ht) (.inl lJ)))
  ·refine kD.J3 hs hf (fun z hz=>A9 ⟨z,hz⟩) (fun r q VM=> ?_)
   rw[AQ]
   by_cases Hl:r=s
   ·subst Hl
    rw[if_pos rfl]
    have bq:obj st r q=x.at q:=by unfold obj;rw[hx]
    cases CX:pre p q with
    | true=>
     obtain⟨z,rfl⟩:=(bX p q).1 CX
     rcases mS y p x z (by rw[qO];exact fA) SD with he | he
     ·rw[he,bq,ma,qO]
      exact hr z t VM
     ·exact .inl he
    | false=>
     rw[bq]
     exact .inr ⟨jx y p x q CX,eL r q (.inr CX)⟩
   ·rw[if_neg Hl]
    exact .inr ⟨Compat.refl _,eL r q (.inl Hl)⟩
end
end Go.V
namespace Go.V
def fB (P:Program) (N:Nat) (hv:List Value) (w:World) (g:G) (K:St→R) (r:List AO×List AO) (next:Act→World→Prop):Prop:=
 ∀aZ a' w' g',Good P N aZ a' hv w' g'→Fr w g w' g'→K aZ=some r→next a' w'
section
variable {P:Program} {N:Nat} {st:St} {a:Act} {hv:List Value} {w:World} {g:G} {K:St→R} {r:List AO×List AO} {o:Oper} {next:Act→World→Prop} {Q:Exit→Act→World→Prop} {call:aw}
theorem o9 (h:Good P N st a hv w g) (hd:∀i,o.dst=some i→i<N) (hp:fB P N hv w g K r next):fR P st a w g (fun v=>K (gy o.dst v st)) r o next:=
 fun _ _ _ _ hq hs hk=>hp _ _ _ _ (h.gy hd hq hs) hq.fr hk
def G.lK (g:G) (s:Nat) (p:List Nat):G:=
 {tag:=fun c=>match g.tag c with | .own t q=>if t=s∧pre p q=true then .free else .own t q | x=>x,val:=g.val}
theorem G.mb {s:Nat} {p:List Nat} {b:Nat} (h:g.tag b= .free):(g.lK s p).tag b= .free:=by simp[G.lK,h]
theorem G.ot {s:Nat} {p q:List Nat} {b:Nat} (h:g.tag b= .own s (p++q)):(g.lK s p).tag b= .free:=by
 have:pre p (p++q)=true:=(bX _ _).2 ⟨q,rfl⟩
 simp[G.lK,h,this]
theorem G.uN {s t:Nat} {p q:List Nat} {b:Nat} (h:g.tag b= .own t q) (hn:t≠s∨pre p q=false):(g.lK s p).tag b= .own t q:=by
 simp only[G.lK,h]
 rw[if_neg]
 rintro ⟨h1,h2⟩
 rcases hn with hn | hn
 ·exact hn h1
 ·rw[h2]at hn;cases hn
theorem Ba {s:Nat} {p:List Nat} {E:TypeId} {l:List PV} (h:bY P w g s p (.arr E l)) {g':G} (hf:∀b,b<w.heap.size→g.tag b= .free→g'.tag b= .free∧w.heap[b]? =w.heap[b]?)
  (ho:∀b,b<w.heap.size→g.tag b= .own s p→g'.tag b= .free):aV P w g' (.sl E) (.sl l) (g.val s p):=by
 cases h with
 | jt _ _ bh=>rw[bh];exact .Jn E
 | arr _ _ _ b off cap vs f T bh hh ht hl cU he hc=>
  rw[bh]
  refine .sl E l b off cap f (fun i x hx=>(he i x hx).ext (Nat.le_refl _) hf) (fun i hi j hj=> ?_) (ho b (bT hh) ht) (bT hh) hl
  rw[cell_of_row w b _ ⟨vs⟩ T (0,0) hh, ←hc i hi j hj];simp
theorem Dk {s:Nat} {p:List Nat} {E:TypeId} {l:List PV} (h:bY P w g s p (.arr E l)):(g.val s p).cells= #[g.val s p]:=by
 cases h with
 | jt _ _ bh=>rw[bh];rfl
 | arr _ _ _ b off cap vs f T bh=>rw[bh];rfl
theorem yN:∀ {p:List Nat} {x:AO},(∀E l,x.at p≠ .arr E l)→x.at p≠ .dead→x.CU p=true
 | [],x,_,_=>rfl
 | i::p,x,h1,h2=>by
  cases x with
  | box E cs=>
   simp only[AO.at]at h1 h2
   exact yN (p:=p) h1 h2
  | own E D l h=>
   simp only[AO.at]at h1 h2
   cases hi:isHole h i with
   | true=>simp[hi]at h2
   | false=>
    simp only[hi,cond_false]at h1 h2
    cases p with
    | nil=>exact absurd rfl (h1 _ _)
    | cons j p=>simp[AO.at]at h2
  | _=>rfl
theorem kM (y:AO):∀(p:List Nat) (x:AO) (q:List Nat),(∀E l,x.at p≠ .arr E l)→x.at p≠ .dead→(AO.fh y x p).at (p++q)=y.at q
 | [],x,q,_,_=>by simp[AO.fh]
 | i::p,x,q,h1,h2=>by
  cases x with
  | box E cs=>
   simp only[AO.at]at h1 h2
   have hi:i<cs.length:=by
    rcases Nat.lt_or_ge i cs.length with h' | h'
    ·exact h'
    ·exfalso;apply h2;rw[bZ,List.getElem?_eq_none h'];exact iQ p
   simp only[AO.fh,List.cons_append,AO.at,kj,hi,and_self,if_true]
   exact kM y p _ q h1 h2
  | own E D l h=>
   simp only[AO.at]at h1 h2
   cases hi:isHole h i with
   | true=>simp[hi]at h2
   | false=>
    simp only[hi,cond_false]at h1 h2
    cases p with
    | nil=>exact absurd rfl (h1 _ _)
    | cons j p=>simp[AO.at]at h2
  | _=>simp[AO.at]at h2
theorem ua {s:Nat} {p:List Nat} (h1:∀E l,obj st s p≠ .arr E l) (h2:obj st s p≠ .dead):gx st s p=true:=by
 unfold gx
 unfold obj at h1 h2
 split
 ·rename_i x hx
  rw[hx]at h1 h2
  exact yN h1 h2
 ·rfl
theorem Bb {s:Nat} {p:List Nat} {E:TypeId} {cs:List AO} (h:obj st s p= .box E cs):gx st s p=true:=ua (by rw[h];simp) (by rw[h];simp)
theorem rW (s:Nat):gx st s []=true:=by
 unfold gx;split
 ·cases ‹AO› <;>rfl
 ·rfl
theorem sX {s:Nat} {p:List Nat} {x:AO} (h:bY P w g s p x) (hx:x.jh=true∨x.pA=true) (fT:∀b,w.heap.size≤b→g.tag b= .free):
  ∃t v,x.frozen= .pv t v∧aV P w (g.lK s p) t v (g.val s p):=by
 have gh:∀b,b<w.heap.size→g.tag b= .free→(g.lK s p).tag b= .free∧w.heap[b]? =w.heap[b]? :=fun b _ hb=>⟨G.mb hb,rfl⟩
 cases h with
 | jt _ E bh=>exact⟨_,_,rfl,by rw[bh];exact .Jn E⟩
 | arr _ E l b off cap vs f T bh hh ht hl cU he hc=>
  exact⟨_,_,rfl,Ba (.arr p E l b off cap vs f T bh hh ht hl cU he hc) gh (fun b _ hb=>G.ot (q:=[]) (by simpa using hb))⟩
 | map _ k e ks vs b es clock bh hh ht hk nz h1 h2=>
  refine⟨_,_,rfl, ?_⟩
  rw[bh]
  exact .mp k e ks vs b es clock hh (G.ot (q:=[]) (by simpa using ht)) hk nz (fun i en x gL hx=>(h1 i en x gL hx).ext (Nat.le_refl _) gh) (fun i en x gL hx=>(h2 i en x gL hx).ext (Nat.le_refl _) gh)
 | og _ E D hh bh fQ=>
  cases hh with
  | none=>exact⟨_,_,rfl,by rw[bh];exact .Jn E⟩
  | some j=>simp[AO.jh,AO.pA]at hx
 | own _ E D l hh b off cap vs T bh uF ht hl cU h1 iK kW hc fQ=>
  cases hh with
  | some j=>simp[AO.jh,AO.pA]at hx
  | none=>
   refine⟨_,_,rfl, ?_⟩
   rw[bh]
   refine .sl E l b off cap (fun i=>g.val s (p++[i])) (fun i x hx=> ?_) (fun i hi j hj=> ?_) (G.ot (q:=[]) (by simpa using ht)) (bT uF) hl
   ·rw[iK,kW i x hx]
    have:=fQ i rfl
    rw[bZ,hx]at this
    exact Ba this gh (fun b _ hb=>G.ot (q:=[i]) hb)
   ·have Dd:j=0:=by omega
    subst Dd
    rw[cell_of_row w b _ ⟨vs⟩ T (0,0) uF,h1,Nat.mul_one,Nat.add_zero]
    have:=hc i hi rfl
    have ho:=fQ i rfl
    rw[Dk ho];simpa using this
 | _=>simp[AO.jh,AO.pA]at hx
theorem kZ (h:Good P N st a hv w g) {s:Nat} {p:List Nat} (bq:(obj st s p).jh=true∨(obj st s p).pA=true) (xx:gx st s p=true):
  Good P N (bR st s p) a hv w (g.lK s p)∧Fr w g w (g.lK s p):=by
 obtain⟨t,v,VN,hp⟩:=sX (h.obj s p) bq h.inv.fresh
 have SF:bR st s p=setObj st s p (.pv t v):=by unfold bR;rw[VN]
 rw[SF]
 have fA:obj st s p≠ .dead:=by intro hd;rw[hd]at bq;simp[AO.jh,AO.pA]at bq
 have gh:∀c,c<w.heap.size→g.tag c= .free→(g.lK s p).tag c= .free∧w.heap[c]? =w.heap[c]? :=fun c _ hc=>⟨G.mb hc,rfl⟩
 have Dl:∀c,w.heap.size≤c→(g.lK s p).tag c= .free:=fun c hc=>G.mb (h.inv.fresh c hc)
 refine⟨gY h fA (fun _=>xx) (Nat.le_refl _) gh Dl (.pv p _ _ hp) (fun _ _ _=>rfl) (fun _=>rfl) (fun c t q jW dJ hq=>⟨G.uN dJ hq,rfl⟩) (fun q t' _=> ?_), ?_⟩
 ·cases q with
  | nil=>exact .inr ⟨⟨fun _=>by simpa[AO.at]using fA,fun _ _ h=>by simp[AO.at]at h,fun _ _ h=>by simp[AO.at,AO.iF]at h⟩,rfl⟩
  | cons i q=>exact .inl rfl
 ·refine⟨rfl,rfl,rfl,Nat.le_refl _,gh,fun c jW dJ=>⟨by simp[G.lK,dJ],rfl⟩,fun c dJ=> ?_,Dl⟩
  have mT:g.tag c= .out:=by
   simp only[G.lK]at dJ
   cases hg:g.tag c with
   | free=>rw[hg]at dJ;cases dJ
   | out=>rfl
   | own t q=>rw[hg]at dJ;simp only at dJ;split at dJ<;>cases dJ
  refine⟨mT, ?_⟩
  rcases Nat.lt_or_ge c w.heap.size with h' | h'
  ·exact h'
  ·rw[h.inv.fresh c h']at mT;cases mT
theorem iR (h:Good P N st a hv w g):∀(l:List Operand) (st:St) (g:G),Good P N st a hv w g→∃g',Good P N (bS l st) a hv w g'∧Fr w g w g'
 | [],st,g,h=>⟨g,h,Fr.refl w g h.inv.fresh⟩
 | x::l,st,g,h'=>by
  simp only[bS]
  split
  ·rename_i s p _
   cases hc:((obj st s p).jh&&gx st s p)with
   | true=>
    simp only[Bool.and_eq_true]at hc
    obtain⟨h1,f1⟩:=kZ h' (.inl hc.1) hc.2
    obtain⟨g2,h2,f2⟩:=iR h l _ _ h1
    exact⟨g2,h2,f1.trans f2⟩
   | false=>exact iR h l _ g h'
  ·exact iR h l _ g h'
theorem gG (h:Good P N st a hv w g) (M:Nat):∀(l:List Operand) (st:St) (g:G),Good P N st a hv w g→∃g',Good P N (fj M l st) a hv w g'∧Fr w g w g'
 | [],st,g,h=>⟨g,h,Fr.refl w g h.inv.fresh⟩
 | x::l,st,g,h'=>by
  simp only[fj]
  split
  ·rename_i s p _
   cases hc:(((obj st s p).jh&&(!Fu st s p&&decide (s<M)))&&gx st s p)with
   | true=>
    simp only[Bool.and_eq_true]at hc
    obtain⟨h1,f1⟩:=kZ h' (.inl hc.1.1) hc.2
    obtain⟨g2,h2,f2⟩:=gG h M l _ _ h1
    exact⟨g2,h2,f1.trans f2⟩
   | false=>exact gG h M l _ g h'
  ·exact gG h M l _ g h'
theorem p6 (bu:ct P call) (h:Good P N st a hv w g) (br:ey N o) (hd:∀i,o.dst=some i→i<N) (l:List Operand)
  (hk:dX P call o (bS l st) (fun v=>K (gy o.dst v (bS l st)))=some r) (ag:fB P N hv w g K r next):o.wp P a w next Q:=by
 obtain⟨g1,h1,f1⟩:=iR h l st g h
 exact l9 bu h1 br hk (o9 h1 hd fun aZ a' w' g' hg hf hk=>ag aZ a' w' g' hg (f1.trans hf) hk)
end
end Go.V
namespace Go.V
theorem bj (w:World) (b k:Nat) (cs:Array Value) (h:k≠b):(w.setRow b cs).heap[k]? =w.heap[k]? :=by
 simp[World.setRow,Array.getElem?_modify,Ne.symm h]
theorem size_setRow (w:World) (b:Nat) (cs:Array Value):(w.setRow b cs).heap.size=w.heap.size:=by simp[World.setRow]
theorem p7:∀(vs cs:List AO) (off:Nat),(dh cs off vs).length=cs.length∧
  ∀k,(dh cs off vs)[k]? =if off≤k∧k<off+vs.length∧k<cs.length then vs[k-off]? else cs[k]?
 | [],cs,off=>by
  refine⟨rfl,fun k=> ?_⟩
  simp only[dh,List.length_nil,Nat.add_zero]
  rw[if_neg (by omega)]
 | v::vs,cs,off=>by
  obtain⟨h1,h2⟩:=p7 vs (cs.set off v) (off+1)
  simp only[dh]
  refine⟨by rw[h1];simp,fun k=> ?_⟩
  rw[h2 k]
  simp only[List.length_set,List.length_cons,List.getElem?_set]
  by_cases hk:off=k
  ·subst hk
   rw[if_neg (by omega),if_pos rfl]
   by_cases hs:off<cs.length
   ·rw[if_pos hs,if_pos ⟨Nat.le_refl _,by omega,hs⟩,Nat.sub_self];rfl
   ·rw[if_neg hs,if_neg (by omega),List.getElem?_eq_none (by omega)]
  ·by_cases fQ:off+1≤k∧k<off+1+vs.length∧k<cs.length
   ·rw[if_pos fQ,if_pos (by omega)]
    have e:k-off=(k- (off+1))+1:=by omega
    rw[e,List.getElem?_cons_succ]
   ·rw[if_neg fQ,if_neg hk,if_neg (by omega)]
def G.cells (g:G) (s:Nat) (p:List Nat) (off:Nat) (bw:List Value):G:=
 {tag:=g.tag,val:=fun t q=>if t=s∧pre p q=true then(match q.drop p.length with
   | [k]=>if off≤k∧k<off+bw.length then bw.getD (k-off) undef else g.val t q
   | _=>g.val t q)else g.val t q}
theorem G.Bc (g:G) (s:Nat) (p:List Nat) (off:Nat) (bw:List Value) (k:Nat) (h:off≤k∧k<off+bw.length):(g.cells s p off bw).val s (p++[k])=bw.getD (k-off) undef:=by
 have:pre p (p++[k])=true:=(bX _ _).2 ⟨_,rfl⟩
 simp[G.cells,this,h]
theorem G.eM (g:G) (s:Nat) (p:List Nat) (off:Nat) (bw:List Value) (t:Nat) (q:List Nat) (h:t=s→∀k,q=p++[k]→¬(off≤k∧k<off+bw.length)):(g.cells s p off bw).val t q=g.val t q:=by
 simp only[G.cells]
 split
 ·rename_i hc
  obtain⟨rfl,hp⟩:=hc
  obtain⟨z,rfl⟩:=(bX _ _).1 hp
  rw[List.drop_left]
  split
  ·rename_i k
   rw[if_neg (h rfl k rfl)]
  ·rfl
 ·rfl
section
variable {P:Program} {N:Nat} {st:St} {a:Act} {hv:List Value} {w:World} {g:G} {K:St→R} {r:List AO×List AO} {o:Oper} {next:Act→World→Prop} {Q:Exit→Act→World→Prop} {call:aw}
theorem ou (h:Good P N st a hv w g) {s:Nat} {p:List Nat} {E:TypeId} {cs:List AO} (bq:obj st s p= .box E cs) {b off:Nat} {vs:List Value} (qH:g.val s p= .pointer (some ⟨b,0,none⟩))
  (hh:w.heap[b]? =some (.cells ⟨vs⟩ E (0,0))) (ht:g.tag b= .own s p) (hl:vs.length=cs.length)
  (hc:∀(i:Nat) (y:AO),cs[i]? =some y→bY P w g s (p++[i]) y) (nQ:∀(i:Nat) (y:AO),cs[i]? =some y→y≠ .dead→vs[i]? =some (g.val s (p++[i])))
  {ys:List AO} {bw:List Value} (hn:ys.length=bw.length) (hle:off+bw.length≤vs.length)
  (fZ:∀(i:Nat) (y:AO) (v:Value),ys[i]? =some y→bw[i]? =some v→mR P w g y v)
  (SG:∀(t k:Nat),off≤k→k<off+bw.length→(get st t).ar s (p++[k])=false):
  Good P N (setObj st s p (.box E (dh cs off ys))) a hv (w.setRow b (vs.take off++bw++vs.drop (off+bw.length)).toArray) (g.cells s p off bw)∧
   Fr w g (w.setRow b (vs.take off++bw++vs.drop (off+bw.length)).toArray) (g.cells s p off bw):=by
 have gh:∀c,c<w.heap.size→g.tag c= .free→(g.cells s p off bw).tag c= .free∧(w.setRow b (vs.take off++bw++vs.drop (off+bw.length)).toArray).heap[c]? =w.heap[c]? :=by
  intro c _ hc
  refine⟨hc,bj w b c _ ?_⟩
  rintro rfl;rw[ht]at hc;cases hc
 have eC:=size_setRow w b (vs.take off++bw++vs.drop (off+bw.length)).toArray
 have J4:pre p p=true:=(bX p p).2 ⟨[],by simp⟩
 obtain⟨sl,sg⟩:=p7 ys cs off
 have VO:∀k,(vs.take off++bw++vs.drop (off+bw.length))[k]? =if off≤k∧k<off+bw.length then bw[k-off]? else vs[k]? :=by
  intro k
  by_cases h1:k<off
  ·rw[List.append_assoc,List.getElem?_append_left (by simp;omega),List.getElem?_take,if_pos h1,if_neg (by omega)]
  ·rw[List.append_assoc,List.getElem?_append_right (by simp;omega)]
   have e:k- (vs.take off).length=k-off:=by simp;omega
   rw[e]
   by_cases h2:k<off+bw.length
   ·rw[List.getElem?_append_left (by omega),if_pos ⟨by omega,h2⟩]
   ·rw[List.getElem?_append_right (by omega),List.getElem?_drop,if_neg (by omega)]
    congr 1;omega
 have J5:(vs.take off++bw++vs.drop (off+bw.length)).length=vs.length:=by simp;omega
 refine⟨gY h (by rw[bq];simp) (fun _=>Bb bq) (by omega) gh (fun c hc=>h.inv.fresh c (by omega)) ?_ ?_ ?_ ?_ ?_, ?_⟩
 ·refine .box p E _ b _ (by rw[G.eM _ _ _ _ _ _ _ (fun _ k hk=>by simp at hk)];exact qH) (setRow_heap w b ⟨vs⟩ _ E (0,0) hh) ht (by rw[J5,sl,hl]) (fun i y hy=> ?_) (fun i y hy hd=> ?_)
  ·rw[sg i,hn]at hy
   split at hy
   ·rename_i fQ
    obtain⟨v,uI⟩:∃v,bw[i-off]? =some v:=⟨_,List.getElem?_eq_getElem (by omega)⟩
    have eL:(g.cells s p off bw).val s (p++[i])=v:=by rw[G.Bc _ _ _ _ _ _ ⟨fQ.1,fQ.2.1⟩,List.getD,uI];rfl
    rcases fZ _ y v hy uI with rfl | ⟨t,z,rfl,hp⟩ | ⟨E',rfl,rfl⟩
    ·exact .dead _
    ·refine .pv _ t z ?_
     rw[eL];exact hp.ext (by omega) gh
    ·exact .jt _ E' eL
   ·rename_i fQ
    refine(hc i y hy).ext (by omega) gh (fun q=> ?_) (fun c q jW dJ=>⟨dJ,bj w b c _ ?_⟩)
    ·refine G.eM _ _ _ _ _ _ _ (fun _ k hk=> ?_)
     simp only[List.append_assoc,List.append_cancel_left_eq,List.singleton_append,List.cons.injEq]at hk
     have:=(List.getElem?_eq_some_iff.1 hy).1
     omega
    ·rintro rfl
     rw[ht]at dJ
     injection dJ with h1 h2
     have:=congrArg List.length h2
     simp at this
  ·rw[sg i,hn]at hy
   rw[VO i]
   split at hy
   ·rename_i fQ
    rw[if_pos ⟨fQ.1,fQ.2.1⟩,G.Bc _ _ _ _ _ _ ⟨fQ.1,fQ.2.1⟩,List.getD,List.getElem?_eq_getElem (by omega)];rfl
   ·rename_i fQ
    have:=(List.getElem?_eq_some_iff.1 hy).1
    rw[if_neg (by omega),nQ i y hy hd,G.eM _ _ _ _ _ _ _ (fun _ k hk=> ?_)]
    simp only[List.append_cancel_left_eq,List.cons.injEq,and_true]at hk
    omega
 ·intro t q xy
  refine G.eM _ _ _ _ _ _ _ (fun lJ k hk=> ?_)
  rcases xy with xy | xy
  ·exact absurd lJ xy
  ·have:=(bX p q).2 ⟨[k],hk⟩
   rw[this]at xy;cases xy
 ·intro _
  exact G.eM _ _ _ _ _ _ _ (fun _ k hk=>by simp at hk)
 ·intro c t q jW dJ xy
  refine⟨dJ,bj w b c _ ?_⟩
  rintro rfl
  rw[ht]at dJ
  injection dJ with h1 h2
  subst h1;subst h2
  rcases xy with xy | xy
  ·exact xy rfl
  ·rw[J4]at xy;cases xy
 ·intro q t hq
  cases q with
  | nil=>exact .inr ⟨⟨fun _=>by rw[bq];simp[AO.at],fun E' mH he=>by exact⟨E,cs,by rw[bq];simp[AO.at]⟩,fun _ _ he=>by simp[AO.at,AO.iF]at he⟩,G.eM _ _ _ _ _ _ _ (fun _ k hk=>by simp at hk)⟩
  | cons k q=>
   have ZY:¬(off≤k∧k<off+bw.length):=by
    rintro ⟨h1,h2⟩
    have mc:=SG t k h1 h2
    have xz:pre (p++[k]) (p++k::q)=true:=(bX _ _).2 ⟨q,by simp⟩
    have:=iL hq mc
    simp[xz]at this
   refine .inr ⟨?_,G.eM _ _ _ _ _ _ _ (fun _ k' hk=> ?_)⟩
   ·rw[bq]
    simp only[AO.at]
    have:nth .dead (dh cs off ys) k=nth .dead cs k:=by rw[bZ,bZ,sg k,hn,if_neg (by omega)]
    rw[this];exact Compat.refl _
   ·simp only[List.append_cancel_left_eq,List.cons.injEq]at hk
    rw[←hk.1];exact ZY
 ·refine⟨rfl,rfl,rfl,by omega,gh,fun c jW dJ=>⟨dJ,bj w b c _ ?_⟩,fun c dJ=>⟨dJ, ?_⟩,fun c hc=>h.inv.fresh c (by omega)⟩
  ·rintro rfl;rw[ht]at dJ;cases dJ
  ·rcases Nat.lt_or_ge c w.heap.size with h' | h'
   ·exact h'
   ·have:=h.inv.fresh c h'
    rw[show g.tag c= .out from dJ]at this;cases this
end
end Go.V
namespace Go.V
section
variable {P:Program} {N:Nat} {st:St} {a:Act} {hv:List Value} {w:World} {g:G} {K:St→R} {r:List AO×List AO} {o:Oper} {next:Act→World→Prop} {Q:Exit→Act→World→Prop} {call:aw}
theorem iS {T:TypeId} {b off:Nat} {v:Value} {vs:List Value} {E:TypeId} (eC:v.cells.size=P.cellsOf T) (hT:P.cellsOf T≠0∨(P.info? T).isSome=true) (hh:w.heap[b]? =some (.cells ⟨vs⟩ E (0,0))) (hle:off+v.cells.size≤vs.length) (h1:∀u∈v.cells.toList,u.oneCell'=true):
  (storeVar T ⟨b,off,none⟩ v).run P w= .ok () (w.setRow b (vs.take off++v.cells.toList++vs.drop (off+v.cells.toList.length)).toArray):=by
 have hs:(sizeOf T).run P w= .ok (P.cellsOf T) w:=by
  rcases hT with h | h
  ·exact sR h
  ·exact dY h
 have:=run_storeCells_at (P:=P) b off E v.cells.toList 0 ⟨vs⟩ w hh (by simpa using hle) h1
 simp only[storeVar,Sem.run_bind,hs,Result.andThen_ok,eC,ne_eq,not_true_eq_false,if_false]
 simpa using this
theorem iT {T:TypeId} {addr x:Operand} (aM:o.op= .store T addr x) {ad:Addr} (ha:a.eval addr= .pointer (some ad)) {w':World} (hr:(storeVar T ad (a.eval x)).run P w= .ok () w'):(execOp a.eval o).run P w= .ok .skip w':=by
 have e:execOp a.eval o=(do Instr.storeAt T (a.eval addr) (a.eval x);pure Next.skip):=by simp only[execOp,aM]
 rw[e,Sem.run_bind]
 have:(Instr.storeAt T (a.eval addr) (a.eval x)).run P w= .ok () w':=by
  simp only[Instr.storeAt,ha,Instr.sureAddr,Sem.run_bind,Sem.run_pure,Result.andThen_ok,hr]
 rw[this];rfl
theorem la (s:Nat) (p:List Nat) (st:St) (t:Nat) (s':Nat) (p':List Nat):(get (kill s p st) t).ar s' p'=((get st t).ar s' p'&& !(get st t).ar s p):=by
 rw[cj]
 cases (get st t).ar s p<;>simp[AV.ar]
theorem iU (s:Nat) (p:List Nat):∀(n off:Nat) (st:St),Good P N st a hv w g→Good P N (bc s p off n st) a hv w g∧(∀r q,obj (bc s p off n st) r q=obj st r q)∧
  (∀t k,off≤k→k<off+n→(get (bc s p off n st) t).ar s (p++[k])=false)∧(∀t s' p',(get st t).ar s' p'=false→(get (bc s p off n st) t).ar s' p'=false)∧
  (∀t x,get (bc s p off n st) t= .o x↔get st t= .o x)
 | 0,off,st,h=>⟨h,fun _ _=>rfl,fun _ _ _ _=>by omega,fun _ _ _ h=>h,fun _ _=>Iff.rfl⟩
 | n+1,off,st,h=>by
  obtain⟨h1,h2,h3,h4,h5⟩:=iU s p n (off+1) (kill s (p++[off]) st) (h.kill s (p++[off]))
  refine⟨h1,fun r q=>by simp only[bc];rw[h2,fX],fun t k sW kK=> ?_,fun t s' p' ht=> ?_,fun t x=> ?_⟩
  ·simp only[bc]
   by_cases hk:k=off
   ·subst hk
    refine h4 t s (p++[k]) ?_
    rw[la];cases (get st t).ar s (p++[k])<;>rfl
   ·exact h3 t k (by omega) (by omega)
  ·simp only[bc]
   refine h4 t s' p' ?_
   rw[la,ht];rfl
  ·simp only[bc]
   rw[h5, ←gN]
theorem me (v:Value) (hd:o.dst=none):a.put o.dst v=a:=by rw[hd];rfl
theorem mU (h:Good P N st a hv w g) {T:TypeId} {addr x:Operand} (aM:o.op= .store T addr x) (br:ey N o) (hd:o.dst=none) {s:Nat} {p:List Nat} {off:Nat} (hp:de st addr=some (s,p,off)) {E:TypeId} {cs:List AO} (bq:obj st s p= .box E cs)
  {ys:List AO} (eC:(a.eval x).cells.size=P.cellsOf T) (hT:P.cellsOf T≠0∨(P.info? T).isSome=true) (hn:ys.length=(a.eval x).cells.size) (hle:off+ys.length≤cs.length)
  (h1:∀u∈(a.eval x).cells.toList,u.oneCell'=true) (fZ:∀(i:Nat) (y:AO) (v:Value),ys[i]? =some y→(a.eval x).cells.toList[i]? =some v→mR P w g y v)
  (hk:K (setObj (bc s p off ys.length st) s p (.box E (dh cs off ys)))=some r) (ag:fB P N hv w g K r next):o.wp P a w next Q:=by
 obtain⟨b,vs,dV,qH,hh,ht,hl,hc,nQ⟩:=ee h (br addr (by simp[aM,Op.operands])) hp bq
 obtain⟨k1,k2,k3,_,_⟩:=iU s p ys.length off st h
 obtain⟨g1,f1⟩:=ou k1 (s:=s) (p:=p) (E:=E) (cs:=cs) (by rw[k2];exact bq) (off:=off) qH hh ht hl hc nQ (ys:=ys) (bw:=(a.eval x).cells.toList) (by simpa using hn) (by simp;omega) fZ (fun t k sW kK=>k3 t k sW (by simp at kK;omega))
 unfold Oper.wp
 rw[iT aM dV (iS eC hT hh (by omega) h1)]
 show next (a.put o.dst undef) _
 rw[me _ hd]
 exact ag _ _ _ _ g1 f1 hk
theorem sY (h:Good P N st a hv w g) {T:TypeId} {x:Operand} {i:Nat} (aM:o.op= .store T (.tmp i) x) (br:ey N o) (hd:o.dst=none) {s:Nat} {p:List Nat} {j off:Nat} (hg:get st i= .el s p j off) {E:TypeId} {l:List PV} (bq:obj st s p= .arr E l) (xx:gx st s p=true)
  {v:PV} (bh:rd P st T x=some v) {z:PV} (wS:0<P.cellsOf T) (hT:(aO (ai P T)|| bA (ai P T))=true) (hsT:P.cellsOf T=(ae P deep T).length)
  (hz:(off=0∧T=E∧z=v)∨(aO (ai P E)=true∧P.cellsOf E=(ae P deep E).length∧lF (ae P deep T) ((ae P deep E).drop off)=true∧
       z= .agg (setCells (bB (nth default l j) 0 (ae P deep E).length) off (fI P T v))))
  (hk:K (setObj st s p (.arr E (l.set j z)))=some r) (ag:fB P N hv w g K r next):o.wp P a w next Q:=by
 have hi:i<N:=by have:=br (.tmp i) (by simp[aM,Op.operands]);simpa[bL]using this
 have hx:bL N x=true:=br x (by simp[aM,Op.operands])
 obtain⟨b,q,cap,vs,T',f,hj,dV,qH,hh,ht,hl,cU,he,hc⟩:=Fy h hi hg bq
 have fZ:=h.rd hx bh
 have Vz:l[j]? =some (nth default l j):=by rw[bZ,List.getElem?_eq_getElem hj];rfl
 have Yj:=he j _ Vz
 obtain⟨c1,c2,c3⟩:=dI fZ hT
 have jQ:=l6 fZ hT
 have key:∃f',aV P w g (ai P E) z f'∧off+(a.eval x).cells.size≤P.cellsOf E∧
   ∀k,k<P.cellsOf E→f'.cells[k]? =if off≤k∧k<off+(a.eval x).cells.size then(a.eval x).cells[k-off]? else(f j).cells[k]? :=by
  rcases hz with ⟨rfl,rfl,rfl⟩ | ⟨hE,hsE,nL,rfl⟩
  ·refine⟨a.eval x,fZ,by omega,fun k hk=> ?_⟩
   rw[if_pos ⟨Nat.zero_le _,by omega⟩];rfl
  ·have UI:=dD hE
   have hle:∀k,k<(ae P deep T).length→off+k<(ae P deep E).length:=by
    intro k hk
    have:=gO nL (List.getElem?_eq_getElem hk)
    rw[List.getElem?_drop]at this
    exact(List.getElem?_eq_some_iff.1 this).1
   have VC:off+(ae P deep T).length≤(ae P deep E).length:=by
    have:=hle ((ae P deep T).length-1) (by omega);omega
   rw[UI]at Yj
   obtain⟨xs,cs,OR,jN,e1,e2,e3⟩:=Yj.eu
   obtain⟨s1,s2⟩:=mQ (fI P T v) (bB (nth default l j) 0 (ae P deep E).length) off
   have OV:(bB (nth default l j) 0 (ae P deep E).length).length=(ae P deep E).length:=by simp[bB]
   have Yk:∀k,(cs.take off++(a.eval x).cells.toList++cs.drop (off+(a.eval x).cells.size))[k]? =if off≤k∧k<off+(a.eval x).cells.size then(a.eval x).cells.toList[k-off]? else cs[k]? :=by
    intro k
    by_cases h1:k<off
    ·rw[List.append_assoc,List.getElem?_append_left (by simp;omega),List.getElem?_take,if_pos h1,if_neg (by omega)]
    ·rw[List.append_assoc,List.getElem?_append_right (by simp;omega)]
     have e:k- (cs.take off).length=k-off:=by simp;omega
     rw[e]
     by_cases h2:k<off+(a.eval x).cells.size
     ·rw[List.getElem?_append_left (by simp;omega),if_pos ⟨by omega,h2⟩]
     ·rw[List.getElem?_append_right (by simp;omega),List.getElem?_drop,if_neg (by omega)]
      congr 1;simp;omega
   refine⟨.agg ⟨cs.take off++(a.eval x).cells.toList++cs.drop (off+(a.eval x).cells.size)⟩, ?_,by omega,fun k hk=> ?_⟩
   ·rw[UI]
    refine .st E _ _ (by rw[s1,OV]) (by simp;omega) (fun k ty y c iK hy AB=> ?_)
    have hk:=(List.getElem?_eq_some_iff.1 iK).1
    rw[s2 k,OV,c1]at hy
    rw[Yk k,c2]at AB
    by_cases fQ:off≤k∧k<off+(ae P deep T).length
    ·rw[if_pos ⟨fQ.1,fQ.2,hk⟩]at hy
     rw[if_pos fQ]at AB
     obtain⟨m,rfl⟩:∃m,k=off+m:=⟨k-off,by omega⟩
     rw[Nat.add_sub_cancel_left]at hy AB
     have hm:=List.getElem?_eq_getElem (show m<(ae P deep T).length by omega)
     have:=gO nL hm
     rw[List.getElem?_drop,iK]at this
     cases this
     exact c3 m _ y c hm hy (by simpa using AB)
    ·rw[if_neg (by omega)]at hy
     rw[if_neg fQ]at AB
     simp only[bB,List.getElem?_map,List.getElem?_range hk,Option.map_some,Option.some.injEq]at hy
     refine e3 k ty y c iK ?_ AB
     rw[←hy,OR,lY,Nat.zero_add,List.getElem?_eq_getElem (by omega)];rfl
   ·rw[jN]
    show(cs.take off++(a.eval x).cells.toList++cs.drop (off+(a.eval x).cells.size)).toArray[k]? =if off≤k∧k<off+(a.eval x).cells.size then(a.eval x).cells[k-off]? else cs.toArray[k]?
    simp only[List.getElem?_toArray,Yk k,Array.getElem?_toList]
 obtain⟨f',J6,hf2,ZZ⟩:=key
 have fQ:q+j*P.cellsOf E+off+(a.eval x).cells.size≤vs.length:=by
  have h1:(j+1)*P.cellsOf E≤cap*P.cellsOf E:=Nat.mul_le_mul_right _ (by omega)
  rw[Nat.add_mul,Nat.one_mul]at h1;omega
 have ba:=iT aM dV (iS (P:=P) (T:=T) (w:=w) (b:=b) (off:=q+j*P.cellsOf E+off) (v:=a.eval x) (vs:=vs) (E:=T') (by omega) (.inl (by omega)) hh fQ jQ)
 obtain⟨A,hA⟩:∃A,q+j*P.cellsOf E+off=A:=⟨_,rfl⟩
 rw[hA]at ba fQ
 have VO:∀k,(vs.take A++(a.eval x).cells.toList++vs.drop (A+(a.eval x).cells.toList.length))[k]? =if A≤k∧k<A+(a.eval x).cells.size then(a.eval x).cells[k-A]? else vs[k]? :=by
  intro k
  by_cases h1:k<A
  ·rw[List.append_assoc,List.getElem?_append_left (by simp;omega),List.getElem?_take,if_pos h1,if_neg (by omega)]
  ·rw[List.append_assoc,List.getElem?_append_right (by simp;omega)]
   have e:k- (vs.take A).length=k-A:=by simp;omega
   rw[e]
   by_cases h2:k<A+(a.eval x).cells.size
   ·rw[List.getElem?_append_left (by simp;omega),if_pos ⟨by omega,h2⟩];simp
   ·rw[List.getElem?_append_right (by simp;omega),List.getElem?_drop,if_neg (by omega)]
    congr 1;simp;omega
 have J5:(vs.take A++(a.eval x).cells.toList++vs.drop (A+(a.eval x).cells.toList.length)).length=vs.length:=by simp;omega
 have gh:∀c,c<w.heap.size→g.tag c= .free→g.tag c= .free∧(w.setRow b (vs.take A++(a.eval x).cells.toList++vs.drop (A+(a.eval x).cells.toList.length)).toArray).heap[c]? =w.heap[c]? :=by
  intro c _ hc
  refine⟨hc,bj w b c _ ?_⟩
  rintro rfl;rw[ht]at hc;cases hc
 have eC:=size_setRow w b (vs.take A++(a.eval x).cells.toList++vs.drop (A+(a.eval x).cells.toList.length)).toArray
 have J4:pre p p=true:=(bX p p).2 ⟨[],by simp⟩
 unfold Oper.wp
 rw[ba]
 show next (a.put o.dst undef) _
 rw[me _ hd]
 refine ag _ _ _ g (gY h (by rw[bq];simp) (fun _=>xx) (by omega) gh (fun c hc=>h.inv.fresh c (by omega)) ?_ (fun _ _ _=>rfl) (fun _=>rfl) ?_ ?_) ?_ hk
 ·refine .arr p E (l.set j z) b q cap _ (fun m=>if m=j then f' else f m) T' (by rw[List.length_set];exact qH) (setRow_heap w b ⟨vs⟩ _ T' (0,0) hh) ht (by simpa using hl) (by rw[J5];exact cU) (fun m y hm=> ?_) (fun m hm k VP=> ?_)
  ·rw[List.getElem?_set]at hm
   split at hm
   ·rename_i VQ
    subst VQ
    have VR:z=y:=by simpa[hj]using hm
    rw[←VR,if_pos rfl];exact J6.ext (by omega) gh
   ·rename_i VQ
    simp only[if_neg (Ne.symm VQ)]
    exact(he m y hm).ext (by omega) gh
  ·simp only[List.length_set]at hm
   rw[VO]
   by_cases VS:m=j
   ·subst VS
    simp only[if_pos]
    rw[ZZ k VP]
    by_cases h1:off≤k∧k<off+(a.eval x).cells.size
    ·rw[if_pos h1,if_pos (by omega)]
     congr 1;omega
    ·rw[if_neg h1,if_neg (by omega)]
     exact hc m hm k VP
   ·simp only[if_neg VS]
    rw[if_neg]
    ·exact hc m hm k VP
    ·rintro ⟨h1,h2⟩
     rcases Nat.lt_or_gt_of_ne VS with b6 | tJ
     ·have h3:(m+1)*P.cellsOf E≤j*P.cellsOf E:=Nat.mul_le_mul_right _ b6
      rw[Nat.add_mul,Nat.one_mul]at h3;omega
     ·have h3:(j+1)*P.cellsOf E≤m*P.cellsOf E:=Nat.mul_le_mul_right _ tJ
      rw[Nat.add_mul,Nat.one_mul]at h3;omega
 ·intro c t y jW dJ xy
  refine⟨dJ,bj w b c _ ?_⟩
  rintro rfl
  rw[ht]at dJ
  injection dJ with h1 h2
  subst h1;subst h2
  rcases xy with xy | xy
  ·exact xy rfl
  ·rw[J4]at xy;cases xy
 ·intro y t hy
  cases y with
  | nil=>exact .inr ⟨⟨fun _=>by rw[bq];simp[AO.at],fun _ _ he=>by simp[AO.at]at he,fun E' l' he=>by
    rw[bq]
    simpa[AO.at,AO.iF]using he⟩,rfl⟩
  | cons k y=>exact .inl rfl
 ·refine⟨rfl,rfl,rfl,by omega,gh,fun c jW dJ=>⟨dJ,bj w b c _ ?_⟩,fun c dJ=>⟨dJ, ?_⟩,fun c hc=>h.inv.fresh c (by omega)⟩
  ·rintro rfl;rw[ht]at dJ;cases dJ
  ·rcases Nat.lt_or_ge c w.heap.size with h' | h'
   ·exact h'
   ·have:=h.inv.fresh c h'
    rw[dJ]at this;cases this
end
end Go.V
namespace Go.V
theorem nA (i:Nat) (p:List Nat) (d:Nat) (q:List Nat):∀(ts:List Ty) (cs:List ek),cw ts (cs.map (ek.bQ i p d q))=cw ts cs
 | [],[]=>rfl
 | [],_::_=>rfl
 | _::_,[]=>rfl
 | t::ts,c::cs=>by
  have ih:=nA i p d q ts cs
  cases c with
  | pv u x=>simp only[List.map_cons,ek.bQ,cw,ih]
  | nil E=>simp only[List.map_cons,ek.bQ,cw,ih]
  | al u z=>
   simp only[List.map_cons,ek.bQ,cw]
   cases Nat.beq i u&&pre p z<;>simp only[cond_true,cond_false,cw,ih]
section
variable {P:Program} {N:Nat} {st aZ:St} {a:Act} {hv:List Value} {w w':World} {g g':G} {K:St→R} {r:List AO×List AO} {o:Oper} {next:Act→World→Prop} {Q:Exit→Act→World→Prop} {call:aw}
theorem fm.p8 {i d t:Nat} {q0:List Nat} {x:AV} {v:Value} (h:fm P w g st t x v) (hx:∀y,x≠ .o y) (hs:w.heap.size≤w'.heap.size)
  (hf:∀b,b<w.heap.size→g.tag b= .free→g'.tag b= .free∧w'.heap[b]? =w.heap[b]?)
  (hi:∀z,Compat (obj aZ d (q0++z)) (obj st i z)∧g'.val d (q0++z)=g.val i z)
  (hr:∀s p,s≠i→x.names s p→(obj aZ s p= .dead)∨(Compat (obj aZ s p) (obj st s p)∧g'.val s p=g.val s p)):
  fm P w' g' aZ t (x.bQ i [] d q0) v:=by
 cases h with
 | o y v hv h=>exact absurd rfl (hx y)
 | al r p v h=>
  by_cases xA:i=r
  ·subst xA
   simp only[AV.bQ,eJ,cQ,decide_true,Bool.and_true,cond_true,List.length_nil,List.drop_zero]
   obtain⟨h1,h2⟩:=hi p
   exact .al d _ v (fun hd=>by rw[h2];exact h (h1.live hd))
  ·simp only[AV.bQ,eJ,cQ,xA,decide_false,Bool.false_and,cond_false]
   refine .al r p v (fun hd=> ?_)
   rcases hr r p (Ne.symm xA) (uC r p)with h1 | ⟨h1,h2⟩
   ·exact absurd h1 hd
   ·rw[h2];exact h (h1.live hd)
 | ptr r p off v h=>
  by_cases xA:i=r
  ·subst xA
   simp only[AV.bQ,eJ,cQ,decide_true,Bool.and_true,cond_true,List.length_nil,List.drop_zero]
   obtain⟨h1,h2⟩:=hi p
   exact .ptr d _ off v (fun E cs he=>by rw[h2];obtain⟨E0,mH,hc⟩:=h1.box E cs he;exact h E0 mH hc)
  ·simp only[AV.bQ,eJ,cQ,xA,decide_false,Bool.false_and,cond_false]
   refine .ptr r p off v (fun E cs he=> ?_)
   rcases hr r p (Ne.symm xA) (rR r p off)with h1 | ⟨h1,h2⟩
   ·rw[h1]at he;cases he
   ·rw[h2];obtain⟨E0,mH,hc⟩:=h1.box E cs he;exact h E0 mH hc
 | el r p j off v h=>
  by_cases xA:i=r
  ·subst xA
   simp only[AV.bQ,eJ,cQ,decide_true,Bool.and_true,cond_true,List.length_nil,List.drop_zero]
   obtain⟨h1,h2⟩:=hi p
   exact .el d _ j off v (fun E m he=>by rw[h2];exact h E m (h1.arr E m he))
  ·simp only[AV.bQ,eJ,cQ,xA,decide_false,Bool.false_and,cond_false]
   refine .el r p j off v (fun E m he=> ?_)
   rcases hr r p (Ne.symm xA) (uD r p j off)with h1 | ⟨h1,h2⟩
   ·rw[h1]at he;simp[AO.iF]at he
   ·rw[h2];exact h E m (h1.arr E m he)
 | lE T cs vs hl h3 h4 h5 h1 h2=>
  simp only[AV.bQ]
  refine .lE T _ vs (by simpa using hl) h3 (fun k E v hx hv=> ?_) (by rw[nA];exact h5) (fun k ty x v hx hv=> ?_) (fun k r p v hx hv hd=> ?_)
  ·rw[List.getElem?_map]at hx
   cases hc:cs[k]? with
   | none=>rw[hc]at hx;cases hx
   | some c=>
    rw[hc]at hx
    cases c with
    | pv t' x'=>simp[ek.bQ]at hx
    | nil E'=>simp[ek.bQ]at hx;subst hx;exact h4 k _ v hc hv
    | al u z=>
     simp only[ek.bQ,Option.map_some,Option.some.injEq]at hx
     revert hx
     cases Nat.beq i u&&pre [] z<;>(intro hx;cases hx)
  ·rw[List.getElem?_map]at hx
   cases hc:cs[k]? with
   | none=>rw[hc]at hx;cases hx
   | some c=>
    rw[hc]at hx
    cases c with
    | nil E'=>simp[ek.bQ]at hx
    | pv t' x'=>simp[ek.bQ]at hx;obtain⟨rfl,rfl⟩:=hx;exact(h1 k _ _ v hc hv).ext hs hf
    | al u z=>
     simp only[ek.bQ,Option.map_some,Option.some.injEq]at hx
     revert hx
     cases Nat.beq i u&&pre [] z<;>(intro hx;cases hx)
  ·rw[List.getElem?_map]at hx
   cases hc:cs[k]? with
   | none=>rw[hc]at hx;cases hx
   | some c=>
    rw[hc]at hx
    cases c with
    | pv t' x'=>simp[ek.bQ]at hx
    | nil E'=>simp[ek.bQ]at hx
    | al s' r'=>
     simp only[ek.bQ,Option.map_some,Option.some.injEq]at hx
     by_cases xA:i=s'
     ·subst xA
      simp only[eJ,cQ,decide_true,Bool.and_true,cond_true,List.length_nil,List.drop_zero]at hx
      cases hx
      obtain⟨e1,e2⟩:=hi r'
      rw[e2];exact h2 k i r' v hc hv (e1.live hd)
     ·simp only[eJ,cQ,xA,decide_false,Bool.false_and,cond_false]at hx
      cases hx
      rcases hr _ _ (Ne.symm xA) (rS hc)with e1 | ⟨e1,e2⟩
      ·exact absurd e1 hd
      ·rw[e2];exact h2 k _ _ v hc hv (e1.live hd)
 | ip E x off b o f h hc ht hb=>
  obtain⟨h1,h2⟩:=hf b hb ht
  exact .ip E x off b o f (h.ext hs hf) (fun j hj=>by rw[World.cell?_of_block (w:=w) h2];exact hc j hj) h1 (Nat.lt_of_lt_of_le hb hs)
 | jg xs vs hl h=>
  refine .jg xs vs hl (fun i x v hx hv=> ?_)
  obtain⟨t,y,h1,h2⟩:=h i x v hx hv
  exact⟨t,y,h1,h2.ext hs hf⟩
 | clip E l a h=>exact .clip E l a (h.ext hs hf)
 | fix v=>exact .fix v
 | dead v=>exact .dead v
theorem ub (i:Nat) (d:Nat) (q:List Nat) (x:AV) (y:AO):x.bQ i [] d q= .o y↔x= .o y:=by
 cases x with
 | al s p=>simp only[AV.bQ];cases (Nat.beq i s&&pre [] p)<;>simp
 | ptr s p off=>simp only[AV.bQ];cases (Nat.beq i s&&pre [] p)<;>simp
 | el s p j off=>simp only[AV.bQ];cases (Nat.beq i s&&pre [] p)<;>simp
 | o z=>simp[AV.bQ]
 | ip=>simp[AV.bQ]
 | jg=>simp[AV.bQ]
 | lE=>simp[AV.bQ]
 | clip=>simp[AV.bQ]
 | fix=>simp[AV.bQ]
 | dead=>simp[AV.bQ]
theorem dK (i s:Nat) (p:List Nat) (st:St):(cJ i s p st).length=st.length:=by simp[cJ]
theorem cL (i s:Nat) (p:List Nat) (st:St) (t:Nat):get (cJ i s p st) t=if t=i∧i<st.length then .al s p else(get st t).bQ i [] s p:=by
 unfold cJ
 rw[bU,List.length_map,get_map _ (by rfl)]
theorem iV {st:St} {s:Nat} {x:AO} (h:get st s= .o x):s<st.length:=by
 rcases Nat.lt_or_ge s st.length with h' | h'
 ·exact h'
 ·rw[get,bZ,List.getElem?_eq_none h']at h;cases h
def G.move (g:G) (i d:Nat) (q:List Nat):G:=
 {
  tag:=fun b=>match g.tag b with | .own t z=>if t=i then .own d (q++z)else .own t z | x=>x,
  val:=fun t z=>if t=d∧pre q z=true then g.val i (z.drop q.length)else g.val t z}
theorem G.kE {i d:Nat} {q:List Nat} {b:Nat} (h:g.tag b= .free):(g.move i d q).tag b= .free:=by simp[G.move,h]
theorem G.uO {i d:Nat} {q:List Nat} {b:Nat} (h:g.tag b= .out):(g.move i d q).tag b= .out:=by simp[G.move,h]
theorem G.uP {i d:Nat} {q:List Nat} {b:Nat} {z:List Nat} (h:g.tag b= .own i z):(g.move i d q).tag b= .own d (q++z):=by simp[G.move,h]
theorem G.ft {i d:Nat} {q:List Nat} {b t:Nat} {z:List Nat} (h:g.tag b= .own t z) (ht:t≠i):(g.move i d q).tag b= .own t z:=by simp[G.move,h,ht]
theorem G.fC (g:G) (i d:Nat) (q z:List Nat):(g.move i d q).val d (q++z)=g.val i z:=by
 have:pre q (q++z)=true:=(bX _ _).2 ⟨z,rfl⟩
 simp[G.move,this]
theorem G.aX (g:G) (i d:Nat) (q:List Nat) (t:Nat) (z:List Nat) (h:t≠d∨pre q z=false):(g.move i d q).val t z=g.val t z:=by
 simp only[G.move]
 rw[if_neg]
 rintro ⟨h1,h2⟩
 rcases h with h | h
 ·exact h h1
 ·rw[h]at h2;cases h2
theorem G.p9 {i d:Nat} {q:List Nat} {b:Nat} (h:(g.move i d q).tag b= .out):g.tag b= .out:=by
 simp only[G.move]at h
 cases ht:g.tag b with
 | free=>rw[ht]at h;cases h
 | out=>rfl
 | own t z=>rw[ht]at h;simp only at h;split at h<;>cases h
theorem uQ (h:Good P N st a hv w g) {i d:Nat} (aM:o.op= .assign (.tmp i)) (hd:o.dst=some d) (hi:i<N) (gi:d<N) (AD:get st i= .al d []) {z:AO} (hz:get st d= .o z) (Bd:z≠ .dead)
  (hk:K st=some r) (ag:fB P N hv w g K r next):o.wp P a w next Q:=by
 have ba:(execOp a.eval o).run P w= .ok (.value (a.eval (.tmp i))) w:=by simp[execOp,aM]
 have Dm:=h.cb hi AD
 have wI:=h.cb gi hz
 have Z0:a.eval (.tmp d)=g.val d []:=by
  cases wI with
  | o _ _ eD _=>exact eD Bd
 have bq:obj st d []=z:=by unfold obj;rw[hz];cases z<;>rfl
 have uI:a.eval (.tmp i)=g.val d []:=by
  cases Dm with
  | al _ _ _ hh=>exact hh (by rw[bq];exact Bd)
 have eC:=h.sz
 have he:a.put (some d) (a.eval (.tmp i))=a:=by
  rw[uI, ←Z0]
  have b6:d<a.tmps.size:=by omega
  have:a.tmps.setIfInBounds d (a.eval (.tmp d))=a.tmps:=by
   apply Array.ext_getElem?
   intro j
   rw[Array.getElem?_setIfInBounds]
   split
   ·rename_i UM
    subst UM
    simp[b6,Act.eval]
   ·rfl
  show({a with tmps:=a.tmps.setIfInBounds d (a.eval (.tmp d))}:Act)=a
  rw[this]
 unfold Oper.wp
 rw[ba]
 show next (a.put o.dst _) w
 rw[hd,he]
 exact ag st a w g h (Fr.refl w g h.inv.fresh) hk
theorem Dn (h:Good P N st a hv w g) {i d:Nat} (aM:o.op= .assign (.tmp i)) (hd:o.dst=some d) (hi:i<N) (gi:d<N) (dc:d≠i) {z:AO} (hz:get st i= .o z) (Bd:z≠ .dead)
  (hk:K ((cJ i d [] (kill d [] st)).set d (.o z))=some r) (ag:fB P N hv w g K r next):o.wp P a w next Q:=by
 have ba:(execOp a.eval o).run P w= .ok (.value (a.eval (.tmp i))) w:=by simp[execOp,aM]
 have Dm:=h.cb hi hz
 have uI:a.eval (.tmp i)=g.val i []:=by
  cases Dm with
  | o _ _ eD _=>exact eD Bd
 have hlen:=h.len
 have eC:=h.sz
 have VT:=h.kill d []
 have gh:∀b,b<w.heap.size→g.tag b= .free→(g.move i d []).tag b= .free∧w.heap[b]? =w.heap[b]? :=fun b _ hb=>⟨G.kE hb,rfl⟩
 have fT:∀b,w.heap.size≤b→(g.move i d []).tag b= .free:=fun b hb=>G.kE (h.inv.fresh b hb)
 have hgz:get (kill d [] st) i= .o z:=(gN d [] st i z).1 hz
 have ko:∀t,get ((cJ i d [] (kill d [] st)).set d (.o z)) t=if t=d then .o z else if t=i then .al d []else(get (kill d [] st) t).bQ i [] d []:=by
  intro t
  rw[bU,dK,bC,cL,bC]
  by_cases h1:t=d
  ·rw[if_pos ⟨h1,by omega⟩,if_pos h1]
  ·rw[if_neg (fun hh=>h1 hh.1),if_neg h1]
   by_cases h2:t=i
   ·rw[if_pos ⟨h2,by omega⟩,if_pos h2]
   ·rw[if_neg (fun hh=>h2 hh.1),if_neg h2]
 have AQ:∀t q,t≠d→t≠i→obj ((cJ i d [] (kill d [] st)).set d (.o z)) t q=obj st t q:=by
  intro t q h1 h2
  refine ju (fun x=> ?_) q
  rw[ko,if_neg h1,if_neg h2,ub, ←gN]
 have VU:∀q,obj ((cJ i d [] (kill d [] st)).set d (.o z)) d q=z.at q:=by
  intro q;unfold obj;rw[ko,if_pos rfl]
 have VV:∀q,obj st i q=z.at q:=by intro q;unfold obj;rw[hz]
 unfold Oper.wp
 rw[ba]
 show next (a.put o.dst _) w
 rw[hd]
 refine ag _ _ w (g.move i d []) ⟨⟨?_, ?_,fT,h.inv.vars.db (Nat.le_refl _) gh⟩,by simp[Act.put,eC],by simpa[Act.put]using h.OO⟩ ?_ hk
 ·have:=h.inv.len
  rw[List.length_set,dK,bC];simp[Act.put]at this ⊢;exact this
 ·intro t x u hx hu
  have mO:=gE hx
  have VW:t<st.length:=by
   have:=(List.getElem?_eq_some_iff.1 hx).1
   rw[List.length_set,dK,bC]at this;exact this
  rw[ko]at mO
  by_cases tK:t=d
  ·subst tK
   rw[if_pos rfl]at mO
   subst mO
   have NH:u=a.eval (.tmp i):=by
    rw[List.getElem?_append_left (by simp[Act.put];omega)]at hu
    simp[Act.put,eC,gi]at hu;exact hu.symm
   refine .o z u (fun _=>by rw[NH,uI];exact(G.fC g i t [] []).symm) ?_
   cases Dm with
   | o _ _ _ fq=>
    refine fq.ext (s':=t) (p':=[]) (Nat.le_refl _) gh (fun q=> ?_) (fun b q hb ht=>⟨?_,rfl⟩)
    ·simpa using G.fC g i t [] q
    ·simpa using G.uP (d:=t) (q:=[]) (by simpa using ht)
  ·rw[if_neg tK]at mO
   have Na:(a.tmps.toList++hv)[t]? =some u:=by
    rw[←hu]
    by_cases ZL:t<N
    ·rw[List.getElem?_append_left (by simp;omega),List.getElem?_append_left (by simp[Act.put];omega)]
     simp[Act.put,Ne.symm tK]
    ·rw[List.getElem?_append_right (by simp;omega),List.getElem?_append_right (by simp[Act.put];omega)]
     simp[Act.put]
   by_cases AE:t=i
   ·subst AE
    rw[if_pos rfl]at mO
    subst mO
    refine .al d [] u (fun _=> ?_)
    have:u=a.eval (.tmp t):=by
     rw[List.getElem?_append_left (by simp;omega)]at Na
     rw[Nu a (by omega)]at Na;exact(Option.some.inj Na).symm
    rw[this,uI];exact(G.fC g t d [] []).symm
   ·rw[if_neg AE]at mO
    have kD:=VT.jy (by rw[bC];exact VW) Na
    by_cases A9:∃y,get (kill d [] st) t= .o y
    ·obtain⟨y,hy⟩:=A9
     rw[hy]at mO kD
     subst mO
     simp only[AV.bQ]
     cases kD with
     | o _ _ eD fq=>
      exact .o y u (fun hd=>by rw[eD hd,G.aX _ _ _ _ _ _ (.inl tK)]) (fq.ext (Nat.le_refl _) gh (fun q=>by simpa using G.aX g i d [] t q (.inl tK)) (fun b q hb ht=>⟨by simpa using G.ft (d:=d) (q:=[]) (by simpa using ht) AE,rfl⟩))
    ·subst mO
     refine kD.p8 (fun y hy=>A9 ⟨y,hy⟩) (Nat.le_refl _) gh (fun q=> ?_) (fun s p J7 AF=> ?_)
     ·rw[List.nil_append,VU,fX,VV]
      exact⟨Compat.refl _,G.fC g i d [] q⟩
     ·have wI:s≠d:=by
       rintro rfl
       have mc:(get (kill s [] st) t).ar s []=false:=by rw[la];cases (get st t).ar s []<;>rfl
       have:=iL AF mc
       simp[eJ]at this
      rw[AQ s p wI J7,fX]
      exact .inr ⟨Compat.refl _,G.aX _ _ _ _ _ _ (.inl wI)⟩
 ·refine⟨rfl,rfl,rfl,Nat.le_refl _,gh,fun c _ dJ=>⟨G.uO dJ,rfl⟩,fun c dJ=> ?_,fT⟩
  have mT:=G.p9 dJ
  refine⟨mT, ?_⟩
  rcases Nat.lt_or_ge c w.heap.size with h' | h'
  ·exact h'
  ·rw[h.inv.fresh c h']at mT;cases mT
end
end Go.V
namespace Go.V
section
variable {P:Program} {N:Nat} {st aZ:St} {a:Act} {hv:List Value} {w w':World} {g g':G} {K:St→R} {r:List AO×List AO} {o:Oper} {next:Act→World→Prop} {Q:Exit→Act→World→Prop} {call:aw}
theorem mf {p q z:List Nat} (h:pre p z=false):pre (p++q) z=false:=by
 cases hq:pre (p++q) z with
 | false=>rfl
 | true=>
  obtain⟨y,rfl⟩:=(bX _ _).1 hq
  rw[(bX p _).2 ⟨q++y,by simp⟩]at h;cases h
theorem mV {i s off:Nat} {p:List Nat} {z:AO} {E:TypeId} {cs:List AO} {x:AO} (dc:i≠s) (hx:get st s= .o x) (hz:i<st.length) (bq:obj st s p= .box E cs) (t:Nat):
  get (dg i s p off z st) t=if t=s then .o (AO.fh (.box E (cs.set off z)) x p)else if t=i then .al s (p++[off])else(get st t).bQ i [] s (p++[off]):=by
 have QE:dg i s p off z st=setObj (cJ i s (p++[off]) st) s p (.box E (cs.set off z)):=by unfold dg;rw[bq]
 have kW:=iV hx
 have QF:get (cJ i s (p++[off]) st) s= .o x:=by
  rw[cL,if_neg (fun hh=>dc hh.1.symm),hx];rfl
 have Dp:dg i s p off z st=(cJ i s (p++[off]) st).set s (.o (AO.fh (.box E (cs.set off z)) x p)):=by
  rw[QE];unfold setObj;rw[QF]
 rw[Dp,bU,dK,cL]
 by_cases h1:t=s
 ·rw[if_pos ⟨h1,kW⟩,if_pos h1]
 ·rw[if_neg (fun hh=>h1 hh.1),if_neg h1]
  by_cases h2:t=i
  ·rw[if_pos ⟨h2,hz⟩,if_pos h2]
  ·rw[if_neg (fun hh=>h2 hh.1),if_neg h2]
theorem Dq {i s off:Nat} {p:List Nat} {z:AO} {E:TypeId} {cs:List AO} (dc:i≠s) (hz:i<st.length) (bq:obj st s p= .box E cs):obj (dg i s p off z st) s p= .box E (cs.set off z):=by
 obtain⟨x,hx⟩:∃x,get st s= .o x:=by
  have hl:obj st s p≠ .dead:=by rw[bq];simp
  unfold obj at hl
  split at hl
  ·exact⟨_,by assumption⟩
  ·exact absurd rfl hl
 have qO:x.at p= .box E cs:=by have:=bq;unfold obj at this;rw[hx]at this;exact this
 unfold obj
 rw[mV dc hx hz bq,if_pos rfl]
 have:=kM (.box E (cs.set off z)) p x [] (by rw[qO];simp) (by rw[qO];simp)
 simpa[AO.at]using this
theorem mg {p:List Nat} {k off:Nat} (h:k≠off) (r:List Nat):pre (p++[k]) (p++off::r)=false:=by
 cases hq:pre (p++[k]) (p++off::r)with
 | false=>rfl
 | true=>obtain⟨y,hy⟩:=(bX _ _).1 hq;simp at hy;exact absurd hy.1.symm h
theorem yO {i s:Nat} {q r:List Nat} {v:AV} (h:v.ar s r=false) (hr:∀z,pre r (q++z)=false):(v.bQ i [] s q).ar s r=false:=by
 have one:∀(u:Nat) (z:List Nat),(Nat.beq s u&&pre r z)=false→∀(u':Nat) (z':List Nat),(u',z')=(if i=u then(s,q++z)else(u,z))→(Nat.beq s u'&&pre r z')=false:=by
  intro u z h u' z' he
  split at he
  ·cases he;simp[hr]
  ·cases he;exact h
 cases v with
 | al u z=>
  simp only[AV.bQ,eJ,Bool.and_true,List.length_nil,List.drop_zero,cQ]
  by_cases hu:i=u
  ·simp only[hu,decide_true,cond_true,AV.ar];simp[hr]
  ·simp only[hu,decide_false,cond_false];exact h
 | ptr u z off=>
  simp only[AV.bQ,eJ,Bool.and_true,List.length_nil,List.drop_zero,cQ]
  by_cases hu:i=u
  ·simp only[hu,decide_true,cond_true,AV.ar];simp[hr]
  ·simp only[hu,decide_false,cond_false];exact h
 | el u z j off=>
  simp only[AV.bQ,eJ,Bool.and_true,List.length_nil,List.drop_zero,cQ]
  by_cases hu:i=u
  ·simp only[hu,decide_true,cond_true,AV.ar];simp[hr]
  ·simp only[hu,decide_false,cond_false];exact h
 | lE T cs=>
  simp only[AV.bQ,AV.ar,List.any_map,List.any_eq_false]at h ⊢
  intro c hc
  have:=h c hc
  simp only[Function.comp]
  cases c with
  | pv t x=>simp[ek.bQ,ek.ar]
  | nil E=>simp[ek.bQ,ek.ar]
  | al u z=>
   simp only[ek.bQ,eJ,Bool.and_true,List.length_nil,List.drop_zero,cQ]
   by_cases hu:i=u
   ·simp only[hu,decide_true,cond_true,ek.ar];simp[hr]
   ·simp only[hu,decide_false,cond_false];exact this
 | _=>simp[AV.bQ,AV.ar]
theorem ow (h:Good P N st a hv w g) {i s off:Nat} {p:List Nat} {z:AO} {E:TypeId} {cs:List AO} (hz:get st i= .o z) (Bd:z≠ .dead) (dc:i≠s) (bq:obj st s p= .box E cs) (VX:cs[off]? =some .dead)
  (eL:∀b vs T,g.val s p= .pointer (some ⟨b,0,none⟩)→w.heap[b]? =some (.cells ⟨vs⟩ T (0,0))→vs[off]? =some (g.val i []))
  (VY:∀t,(get st t).ar s (p++[off])=false):
  Good P N (dg i s p off z st) a hv w (g.move i s (p++[off]))∧Fr w g w (g.move i s (p++[off])):=by
 have QE:dg i s p off z st=setObj (cJ i s (p++[off]) st) s p (.box E (cs.set off z)):=by unfold dg;rw[bq]
 have hlen:=h.len
 have gh:∀b,b<w.heap.size→g.tag b= .free→(g.move i s (p++[off])).tag b= .free∧w.heap[b]? =w.heap[b]? :=fun b _ hb=>⟨G.kE hb,rfl⟩
 have fT:∀b,w.heap.size≤b→(g.move i s (p++[off])).tag b= .free:=fun b hb=>G.kE (h.inv.fresh b hb)
 have ko:∃x,get st s= .o x:=by
  have hl:obj st s p≠ .dead:=by rw[bq];simp
  unfold obj at hl
  split at hl
  ·exact⟨_,by assumption⟩
  ·exact absurd rfl hl
 obtain⟨x,hx⟩:=ko
 have qO:x.at p= .box E cs:=by have:=bq;unfold obj at this;rw[hx]at this;exact this
 have FB:=iV hz
 have kW:=iV hx
 have QF:get (cJ i s (p++[off]) st) s= .o x:=by
  rw[cL,if_neg (fun hh=>dc hh.1.symm),hx];rfl
 have Dp:dg i s p off z st=(cJ i s (p++[off]) st).set s (.o (AO.fh (.box E (cs.set off z)) x p)):=by
  rw[QE];unfold setObj;rw[QF]
 have hg:∀t,get (dg i s p off z st) t=if t=s then .o (AO.fh (.box E (cs.set off z)) x p)else if t=i then .al s (p++[off])else(get st t).bQ i [] s (p++[off]):=by
  intro t
  rw[Dp,bU,dK,cL]
  by_cases h1:t=s
  ·rw[if_pos ⟨h1,kW⟩,if_pos h1]
  ·rw[if_neg (fun hh=>h1 hh.1),if_neg h1]
   by_cases h2:t=i
   ·rw[if_pos ⟨h2,FB⟩,if_pos h2]
   ·rw[if_neg (fun hh=>h2 hh.1),if_neg h2]
 have b6:off<cs.length:=(List.getElem?_eq_some_iff.1 VX).1
 have Z1:∀q,obj st i q=z.at q:=by intro q;unfold obj;rw[hz]
 have FC:∀q,obj (dg i s p off z st) s q=(AO.fh (.box E (cs.set off z)) x p).at q:=by intro q;unfold obj;rw[hg,if_pos rfl]
 have J8:∀t q,t≠s→t≠i→obj (dg i s p off z st) t q=obj st t q:=by
  intro t q h1 h2
  refine ju (fun y=> ?_) q
  rw[hg,if_neg h1,if_neg h2,ub]
 have fA:x.at p≠ .dead:=by rw[qO];simp
 have Be:∀q,(AO.fh (.box E (cs.set off z)) x p).at (p++q)=(AO.box E (cs.set off z)).at q:=fun q=>kM _ p x q (by rw[qO];simp) fA
 have NI:x.CU p=true:=yN (by rw[qO];simp) fA
 have NJ:pre (p++[off]) p=false:=by
  cases hq:pre (p++[off]) p with
  | false=>rfl
  | true=>obtain⟨y,hy⟩:=(bX _ _).1 hq;have:=congrArg List.length hy;simp at this
 refine⟨h.mk' (by rw[Dp,List.length_set,dK]) fT (h.inv.vars.db (Nat.le_refl _) gh) (fun t u ht hu=> ?_), ?_⟩
 ·have kD:=h.jy ht hu
  rw[hg]
  by_cases lJ:t=s
  ·subst lJ
   rw[if_pos rfl]
   rw[hx]at kD
   cases kD with
   | o _ _ eD fq=>
    have RZ:x≠ .dead:=by rintro rfl;exact fA (iQ p)
    have SH:=fq.at p
    rw[qO,List.nil_append]at SH
    refine .o _ u (fun _=> ?_) (fq.fh (Nat.le_refl _) gh p [] x ?_ (fun q hq=>G.aX _ _ _ _ _ _ (.inr (mf (by simpa using hq)))) (fun b q hb CW hq=>⟨G.ft CW (fun hh=>dc hh.symm),rfl⟩) (fun _=>⟨fA, ?_⟩) (fun _=>NI))
    ·rw[eD RZ]
     refine(G.aX _ _ _ _ _ _ (.inr ?_)).symm
     cases p<;>rfl
    ·rw[List.nil_append]
     cases SH with
     | box _ _ _ b vs bh hh J9 hl hc nQ=>
      refine .box p E _ b vs (by rw[G.aX _ _ _ _ _ _ (.inr NJ)];exact bh) hh (G.ft J9 (fun hh=>dc hh.symm)) (by rw[List.length_set];exact hl) (fun k y hk=> ?_) (fun k y hk hd=> ?_)
      ·rw[List.getElem?_set]at hk
       split at hk
       ·rename_i br
        subst br
        have VR:z=y:=by simpa[b6]using hk
        subst VR
        refine(h.owner hz).ext (Nat.le_refl _) gh (fun q=>by rw[List.nil_append];exact G.fC _ _ _ _ _) (fun c q jW dJ=>⟨?_,rfl⟩)
        exact G.uP (by simpa using dJ)
       ·rename_i br
        refine(hc k y hk).ext (Nat.le_refl _) gh (fun q=>G.aX _ _ _ _ _ _ (.inr ?_)) (fun c q jW dJ=>⟨G.ft dJ (fun hh=>dc hh.symm),rfl⟩)
        cases hq:pre (p++[off]) (p++[k]++q)with
        | false=>rfl
        | true=>obtain⟨y',hy⟩:=(bX _ _).1 hq;simp at hy;exact absurd hy.1.symm br
      ·rw[List.getElem?_set]at hk
       split at hk
       ·rename_i br
        subst br
        have:=G.fC g i t (p++[off]) []
        rw[List.append_nil]at this
        rw[this]
        exact eL b vs E bh hh
       ·rename_i br
        rw[nQ k y hk hd,G.aX _ _ _ _ _ _ (.inr ?_)]
        cases hq:pre (p++[off]) (p++[k])with
        | false=>rfl
        | true=>obtain⟨y',hy⟩:=(bX _ _).1 hq;simp at hy;exact absurd hy.1.symm br
    ·rw[List.nil_append];exact G.aX _ _ _ _ _ _ (.inr NJ)
  ·rw[if_neg lJ]
   by_cases AE:t=i
   ·subst AE
    rw[if_pos rfl]
    rw[hz]at kD
    cases kD with
    | o _ _ eD _=>
     refine .al s _ u (fun _=> ?_)
     have:=G.fC g t s (p++[off]) []
     rw[List.append_nil]at this
     rw[this,eD Bd]
   ·rw[if_neg AE]
    by_cases A9:∃y,get st t= .o y
    ·obtain⟨y,hy⟩:=A9
     rw[hy]at kD ⊢
     simp only[AV.bQ]
     cases kD with
     | o _ _ eD fq=>
      exact .o y u (fun hd=>by rw[eD hd,G.aX _ _ _ _ _ _ (.inl lJ)]) (fq.ext (Nat.le_refl _) gh (fun q=>by simpa using G.aX g i s (p++[off]) t q (.inl lJ)) (fun b q hb CW=>⟨by simpa using G.ft (d:=s) (q:=p++[off]) (by simpa using CW) AE,rfl⟩))
    ·refine kD.p8 (fun y hy=>A9 ⟨y,hy⟩) (Nat.le_refl _) gh (fun q=> ?_) (fun s' p' J7 AF=> ?_)
     ·rw[FC,List.append_assoc,Be,Z1]
      have:(AO.box E (cs.set off z)).at ([off]++q)=z.at q:=by
       simp only[List.singleton_append,AO.at,kj,b6,and_self,if_true]
      rw[this]
      refine⟨Compat.refl _, ?_⟩
      have:=G.fC g i s (p++[off]) q
      rw[List.append_assoc]at this;exact this
     ·by_cases AG:s'=s
      ·subst AG
       rw[FC]
       have QG:obj st s' p'=x.at p':=by unfold obj;rw[hx]
       rw[QG]
       cases J4:pre p p' with
       | false=>exact .inr ⟨jx _ p x p' J4,G.aX _ _ _ _ _ _ (.inr (mf J4))⟩
       | true=>
        obtain⟨q,rfl⟩:=(bX _ _).1 J4
        rw[Be,ma,qO]
        have Js:=VY t
        cases q with
        | nil=>
         simp only[AO.at,List.append_nil]
         exact .inr ⟨⟨fun _=>by simp,fun E' mH he=>⟨E,cs,rfl⟩,fun _ _ he=>by simp[AO.iF]at he⟩,G.aX _ _ _ _ _ _ (.inr NJ)⟩
        | cons k q=>
         have hk:k≠off:=by
          rintro rfl
          have xz:pre (p++[k]) (p++k::q)=true:=(bX _ _).2 ⟨q,by simp⟩
          have:=iL AF Js
          simp[xz]at this
         have:(AO.box E (cs.set off z)).at (k::q)=(AO.box E cs).at (k::q):=by
          simp only[AO.at,kj,hk,false_and,if_false]
         rw[this]
         refine .inr ⟨Compat.refl _,G.aX _ _ _ _ _ _ (.inr ?_)⟩
         cases hq:pre (p++[off]) (p++k::q)with
         | false=>rfl
         | true=>obtain⟨y',hy⟩:=(bX _ _).1 hq;simp at hy;exact absurd hy.1 hk
      ·rw[J8 s' p' AG J7]
       exact .inr ⟨Compat.refl _,G.aX _ _ _ _ _ _ (.inl AG)⟩
 ·refine⟨rfl,rfl,rfl,Nat.le_refl _,gh,fun c _ dJ=>⟨G.uO dJ,rfl⟩,fun c dJ=> ?_,fT⟩
  have mT:=G.p9 dJ
  refine⟨mT, ?_⟩
  rcases Nat.lt_or_ge c w.heap.size with h' | h'
  ·exact h'
  ·rw[h.inv.fresh c h']at mT;cases mT
end
end Go.V
namespace Go.V
section
variable {P:Program} {N:Nat} {st aZ:St} {a:Act} {hv:List Value} {w w':World} {g g':G} {K:St→R} {r:List AO×List AO} {o:Oper} {next:Act→World→Prop} {Q:Exit→Act→World→Prop} {call:aw}
theorem bY.NK {s:Nat} {p:List Nat} {x:AO} (h:bY P w g s p x) (hs:w.heap.size≤w'.heap.size)
  (hf:∀b,b<w.heap.size→g.tag b= .free→g'.tag b= .free∧w'.heap[b]? =w.heap[b]?):
  (∀q,x.at q≠ .dead→g'.val s (p++q)=g.val s (p++q))→
  (∀b q,b<w.heap.size→g.tag b= .own s (p++q)→x.at q≠ .dead→g'.tag b= .own s (p++q)∧w'.heap[b]? =w.heap[b]?)→bY P w' g' s p x:=by
 induction h with
 | pv p t x h=>
  intro hv _
  refine .pv p t x ?_
  have:=hv [] (by simp[AO.at]);rw[List.append_nil]at this
  rw[this];exact h.ext hs hf
 | dead p=>intro _ _;exact .dead p
 | box p E cs b vs hv hh ht hl _ nQ ih=>
  intro bh ho
  have h0:=bh [] (by simp[AO.at]);rw[List.append_nil]at h0
  have hb:b<w.heap.size:=by
   rcases Nat.lt_or_ge b w.heap.size with h | h
   ·exact h
   ·rw[Array.getElem?_eq_none h]at hh;cases hh
  obtain⟨t1,t2⟩:=ho b [] hb (by simpa using ht) (by simp[AO.at])
  have CY:∀(i:Nat) (x:AO) (q:List Nat),cs[i]? =some x→(AO.box E cs).at (i::q)=x.at q:=by
   intro i x q hx;simp only[AO.at,bZ,hx,Option.getD_some]
  refine .box p E cs b vs (by rw[h0];exact hv) (by rw[t2];exact hh) (by simpa using t1) hl (fun i x hx=> ?_) (fun i x hx hd=> ?_)
  ·refine ih i x hx (fun q hq=> ?_) (fun b q hb JI hq=> ?_)
   ·have:=bh (i::q) (by rw[CY i x q hx];exact hq);simpa using this
   ·have:=ho b (i::q) hb (by simpa using JI) (by rw[CY i x q hx];exact hq);simpa using this
  ·rw[nQ i x hx hd]
   have:=bh [i] (by rw[CY i x [] hx];simpa[AO.at]using hd)
   rw[this]
 | jt p E hv=>
  intro bh ho
  have h0:=bh [] (by simp[AO.at]);rw[List.append_nil]at h0
  exact .jt p E (by rw[h0];exact hv)
 | arr p E l b off cap vs f T hv hh ht hl cU he hc=>
  intro bh ho
  have h0:=bh [] (by simp[AO.at]);rw[List.append_nil]at h0
  have hb:b<w.heap.size:=by
   rcases Nat.lt_or_ge b w.heap.size with h | h
   ·exact h
   ·rw[Array.getElem?_eq_none h]at hh;cases hh
  obtain⟨t1,t2⟩:=ho b [] hb (by simpa using ht) (by simp[AO.at])
  exact .arr p E l b off cap vs f T (by rw[h0];exact hv) (by rw[t2];exact hh) (by simpa using t1) hl cU (fun i x hx=>(he i x hx).ext hs hf) hc
 | map p k e ks vs b es clock hv hh ht hk nz h1 h2=>
  intro bh ho
  have h0:=bh [] (by simp[AO.at]);rw[List.append_nil]at h0
  obtain⟨t1,t2⟩:=ho b [] (bT hh) (by simpa using ht) (by simp[AO.at])
  exact .map p k e ks vs b es clock (by rw[h0];exact hv) (by rw[t2];exact hh) (by simpa using t1) hk nz (fun i en x gL hx=>(h1 i en x gL hx).ext hs hf) (fun i en x gL hx=>(h2 i en x gL hx).ext hs hf)
 | og p E D h hv fQ ih=>
  intro bh ho
  have h0:=bh [] (by simp[AO.at]);rw[List.append_nil]at h0
  have CY:∀i q,isHole h i=false→(AO.own E D [] h).at (i::q)=(AO.arr D []).at q:=by
   intro i q hi;simp[AO.at,hi,nth,PV.toList,default,instInhabitedPV]
  refine .og p E D h (by rw[h0];exact hv) (fun i hi=>ih i hi (fun q hq=> ?_) (fun b q hb JI hq=> ?_))
  ·have:=bh (i::q) (by rw[CY i q hi];exact hq);simpa using this
  ·have:=ho b (i::q) hb (by simpa using JI) (by rw[CY i q hi];exact hq);simpa using this
 | own p E D l h b off cap vs T hv hh ht hl cU h1 iK kW hc fQ ih=>
  intro bh ho
  have h0:=bh [] (by simp[AO.at]);rw[List.append_nil]at h0
  obtain⟨t1,t2⟩:=ho b [] (bT hh) (by simpa using ht) (by simp[AO.at])
  have CY:∀i q,isHole h i=false→(AO.own E D l h).at (i::q)=(AO.arr D (nth default l i).toList).at q:=by
   intro i q hi;simp[AO.at,hi]
  refine .own p E D l h b off cap vs T (by rw[h0];exact hv) (by rw[t2];exact hh) (by simpa using t1) hl cU h1 iK kW (fun i hi yB=> ?_) (fun i hi=>ih i hi (fun q hq=> ?_) (fun b q hb JI hq=> ?_))
  ·rw[hc i hi yB];have:=bh [i] (by rw[CY i [] yB];simp[AO.at]);rw[this]
  ·have:=bh (i::q) (by rw[CY i q hi];exact hq);simpa using this
  ·have:=ho b (i::q) hb (by simpa using JI) (by rw[CY i q hi];exact hq);simpa using this
theorem kN (h:Good P N st a hv w g) (hs:w.heap.size≤w'.heap.size) (hf:∀b,b<w.heap.size→g.tag b= .free→g'.tag b= .free∧w'.heap[b]? =w.heap[b]?)
  (fT:∀b,w'.heap.size≤b→g'.tag b= .free) (eL:∀t q,obj st t q≠ .dead→g'.val t q=g.val t q)
  (ho:∀b t q,b<w.heap.size→g.tag b= .own t q→obj st t q≠ .dead→g'.tag b= .own t q∧w'.heap[b]? =w.heap[b]?):Good P N st a hv w' g':=by
 refine h.mk' rfl fT (h.inv.vars.db hs hf) (fun t u ht hu=> ?_)
 have kD:=h.jy ht hu
 by_cases A9:∃y,get st t= .o y
 ·obtain⟨y,hy⟩:=A9
  have bq:∀q,obj st t q=y.at q:=by intro q;unfold obj;rw[hy]
  rw[hy]at kD ⊢
  cases kD with
  | o _ _ eD fq=>
   refine .o y u (fun hd=> ?_) (fq.NK hs hf (fun q hq=> ?_) (fun b q hb CW hq=> ?_))
   ·rw[eD hd,eL t [] (by rw[bq];exact hd)]
   ·simpa using eL t q (by rw[bq];exact hq)
   ·simpa using ho b t q hb (by simpa using CW) (by rw[bq];exact hq)
 ·refine kD.J3 hs hf (fun y hy=>A9 ⟨y,hy⟩) (fun s p AF=> ?_)
  by_cases hd:obj st s p= .dead
  ·exact .inl hd
  ·exact .inr ⟨Compat.refl _,eL s p hd⟩
theorem Hq (d:Nat) (p:List Nat) (st:St):kill d p (kill d p st)=kill d p st:=by
 unfold kill
 rw[List.map_map]
 apply List.map_congr_left
 intro v _
 simp only[Function.comp]
 cases hr:v.ar d p
 ·simp only[cond_false,hr]
 ·rfl
theorem wV (d i:Nat) (p:List Nat) (st:St):kill d p (st.set i .dead)=(kill d p st).set i .dead:=by
 unfold kill;rw[List.map_set];rfl
theorem NL (d:Nat) (v:AV) (st:St):put d v (put d .dead st)=put d v st:=by
 unfold put
 rw[wV,Hq,List.set_set]
theorem sZ (a:Act) (d:Nat) (u v:Value):(a.put (some d) u).put (some d) v=a.put (some d) v:=by
 simp[Act.put]
theorem qa (h:Good P N st a hv w g) {d:Nat} (hd:d<N) {x:AO} {v:Value} (hs:w.heap.size≤w'.heap.size) (hf:∀b,b<w.heap.size→g.tag b= .free→g'.tag b= .free∧w'.heap[b]? =w.heap[b]?)
  (fT:∀b,w'.heap.size≤b→g'.tag b= .free) (eL:∀t q,t≠d→obj st t q≠ .dead→g'.val t q=g.val t q)
  (ho:∀b t q,b<w.heap.size→g.tag b= .own t q→t≠d→obj st t q≠ .dead→g'.tag b= .own t q∧w'.heap[b]? =w.heap[b]?)
  (hx:bY P w' g' d [] x) (bh:x≠ .dead→v=g'.val d []):Good P N (put d (.o x) st) (a.put (some d) v) hv w' g':=by
 have h1:Good P N (put d .dead st) (a.put (some d) v) hv w g:=h.put hd (uB.refl w g _ h.inv.fresh) (.dead v)
 have QH:∀q,obj (put d .dead st) d q= .dead:=by
  intro q;unfold obj;rw[cX]
  have:=h.len
  rw[if_pos ⟨rfl,by omega⟩]
 have h2:Good P N (put d .dead st) (a.put (some d) v) hv w' g':=by
  refine kN h1 hs hf fT (fun t q hl=> ?_) (fun b t q hb ht hl=> ?_)
  ·by_cases tK:t=d
   ·subst tK;exact absurd (QH q) hl
   ·exact eL t q tK (by rw[←ki .dead tK q];exact hl)
  ·by_cases tK:t=d
   ·subst tK;exact absurd (QH q) hl
   ·exact ho b t q hb ht tK (by rw[←ki .dead tK q];exact hl)
 have h3:=h2.put hd (uB.refl w' g' (some d) fT) (av:= .o x) (v:=v) (.o x v bh hx)
 rw[NL,sZ]at h3
 exact h3
theorem xB (h:Good P N st a hv w g) (s:Nat) (p:List Nat) (hl:obj st s p≠ .dead):Good P N (kill s p (setObj st s p .dead)) a hv w g∧(∀q,obj (kill s p (setObj st s p .dead)) s (p++q)= .dead)∧
  (∀t q,(t≠s∨pre p q=false)→Compat (obj (kill s p (setObj st s p .dead)) t q) (obj st t q)):=by
 have ko:∃x,get st s= .o x:=by
  unfold obj at hl
  split at hl
  ·exact⟨_,by assumption⟩
  ·exact absurd rfl hl
 obtain⟨x,hx⟩:=ko
 have kW:=iV hx
 have jw:setObj st s p .dead=st.set s (.o (AO.fh .dead x p)):=by unfold setObj;rw[hx]
 have qO:x.at p=obj st s p:=by unfold obj;rw[hx]
 have FC:∀q,obj (setObj st s p .dead) s q=(AO.fh .dead x p).at q:=by
  intro q;unfold obj;rw[jw,bU,if_pos ⟨rfl,kW⟩]
 refine⟨(gY h hl (fun hd=>absurd rfl hd) (Nat.le_refl _) (fun _ _ hb=>⟨hb,rfl⟩) h.inv.fresh (.dead p) (fun _ _ _=>rfl) (fun hd=>absurd rfl hd) (fun _ _ _ _ ht _=>⟨ht,rfl⟩) (fun q _ _=> .inl (iQ q))).kill s p,fun q=> ?_,fun t q hq=> ?_⟩
 ·rw[fX,FC]
  rcases mS .dead p x q (by rw[qO];exact hl) (fun hd=>absurd rfl hd)with he | he
  ·rw[he,iQ]
  ·exact he
 ·rw[fX]
  by_cases lJ:t=s
  ·subst lJ
   rcases hq with hq | hq
   ·exact absurd rfl hq
   ·rw[FC]
    have:obj st t q=x.at q:=by unfold obj;rw[hx]
    rw[this];exact jx .dead p x q hq
  ·rw[jw,yC _ lJ];exact Compat.refl _
end
end Go.V
namespace Go.V
section
variable {P:Program} {N:Nat} {st:St} {a:Act} {hv:List Value} {w w':World} {g g':G} {K:St→R} {r:List AO×List AO} {o:Oper} {next:Act→World→Prop} {Q:Exit→Act→World→Prop} {call:aw}
theorem append_eq {A:Array TypeId} {vs:Array Value} {T U ty:TypeId} {x y:Value} (h0:A[0]? =some T) (h1:A[1]? =some U) (h2:vs[0]? =some x) (h3:vs[1]? =some y):
  Builtin.append_ A ty vs=Builtin.append_ #[T,U] ty #[x,y]:=by
 unfold Builtin.append_
 simp only[h0,h1,h2,h3]
 rfl
theorem mW (w:World) (t tx ty e:TypeId) (i:TypeInfo) (ht:P.underlying t=some (.slice e)) (hi:P.info? e=some i) (x:Value) (hs:Src P i.size tx x 0 [] w):
  (Builtin.append_ #[t,tx] ty #[.slice none 0 0,x]).run P w= .ok (.slice none 0 0) w:=by
 rcases hs.kind with ⟨e',hk⟩ | hk<;>simp[Builtin.append_,run_underlying ht,run_underlying hk,sizeOf,typeInfo,hi,hs.len,hs.cells,storeCells]
theorem mX (w:World) (t tx ty e:TypeId) (i:TypeInfo) (ht:P.underlying t=some (.slice e)) (hi:P.info? e=some i) (base:Option Addr) (QI QJ:Nat) (hle:QI≤QJ) (x:Value) (hs:Src P i.size tx x 0 [] w):
  (Builtin.append_ #[t,tx] ty #[.slice base QI QJ,x]).run P w= .ok (.slice base QI QJ) w:=by
 rcases hs.kind with ⟨e',hk⟩ | hk<;>cases base<;>simp[Builtin.append_,run_underlying ht,run_underlying hk,sizeOf,typeInfo,hi,hs.len,hle,hs.cells,storeCells]
theorem Hr (vs news:List Value) (k:Nat) (h:k+news.length≤vs.length):
  (vs.take k++news++vs.drop (k+news.length)).length=vs.length∧(∀i,i<k→(vs.take k++news++vs.drop (k+news.length))[i]? =vs[i]?)∧
  ∀i,i<news.length→(vs.take k++news++vs.drop (k+news.length))[k+i]? =news[i]? :=by
 refine⟨by simp;omega,fun i hi=> ?_,fun i hi=> ?_⟩
 ·rw[List.append_assoc,List.getElem?_append_left (by simp;omega),List.getElem?_take,if_pos hi]
 ·rw[List.append_assoc,List.getElem?_append_right (by simp;omega)]
  have e:k+i- (vs.take k).length=i:=by simp;omega
  rw[e,List.getElem?_append_left hi]
theorem wW (t tx ty e:TypeId) (i:TypeInfo) (ht:P.underlying t=some (.slice e)) (hi:P.info? e=some i) {b off n0 cap:Nat} {vs:List Value} {T:TypeId} (hh:w.heap[b]? =some (.cells ⟨vs⟩ T (0,0)))
  {x:Value} {n:Nat} {news:List Value} (hs:Src P i.size tx x n news w) (lg:n0+n≤cap) (SI:off+n0*i.size+news.length≤vs.length):
  (Builtin.append_ #[t,tx] ty #[.slice (some ⟨b,off,none⟩) n0 cap,x]).run P w= .ok (.slice (some ⟨b,off,none⟩) (n0+n) cap)
   (w.setRow b (vs.take (off+n0*i.size)++news++vs.drop (off+n0*i.size+news.length)).toArray):=by
 have jw:=run_storeCells_at P b (off+n0*i.size) T news 0 ⟨vs⟩ w hh (by simpa using SI) hs.one
 simp only[Nat.add_zero]at jw
 rcases hs.kind with ⟨e',hk⟩ | hk<;>simp[Builtin.append_,run_underlying ht,run_underlying hk,sizeOf,typeInfo,hi,hs.len,lg,hs.cells,Addr.add_lit,jw]
structure Hs (P:Program) (w:World) (g:G) (E:TypeId) (l:List PV) (f:Nat→Value) (cs:List Value):Prop where
 len:cs.length=l.length*P.cellsOf E
 rep:∀(i:Nat) (x:PV),l[i]? =some x→aV P w g (ai P E) x (f i)
 cell:∀i,i<l.length→∀j,j<P.cellsOf E→cs[i*P.cellsOf E+j]? =(f i).cells[j]?
theorem rX {i n s j:Nat} (hi:i<n) (hj:j<s):i*s+j<n*s:=by
 have h1:(i+1)*s≤n*s:=Nat.mul_le_mul_right _ hi
 rw[Nat.add_mul,Nat.one_mul]at h1;omega
theorem NM {i s j:Nat} (hj:j<s):(i*s+j) / s=i∧(i*s+j) % s=j:=by
 refine⟨?_, ?_⟩
 ·rw[Nat.mul_comm,Nat.mul_add_div (by omega),Nat.div_eq_of_lt hj];rfl
 ·rw[Nat.mul_comm,Nat.mul_add_mod];exact Nat.mod_eq_of_lt hj
def qP (f:Nat→Value) (n s:Nat):List Value:=(List.range (n*s)).map fun k=>(f (k / s)).cells.toList.getD (k % s) undef
theorem Bf {f:Nat→Value} {n s:Nat} (hs:∀i,i<n→(f i).cells.size=s) {i j:Nat} (hi:i<n) (hj:j<s):(qP f n s)[i*s+j]? =(f i).cells[j]? :=by
 have b6:=rX hi hj
 obtain⟨h1,h2⟩:=NM (i:=i) hj
 have:=hs i hi
 simp only[qP,List.getElem?_map,List.getElem?_range b6,Option.map_some,h1,h2,List.getD,Array.getElem?_toList]
 rw[Array.getElem?_eq_getElem (by omega)];rfl
theorem Dr {E:TypeId} {l:List PV} {f:Nat→Value} (hE:mK P E=true) (fZ:∀(i:Nat) (x:PV),l[i]? =some x→aV P w g (ai P E) x (f i)):
  Hs P w g E l f (qP f l.length (P.cellsOf E))∧(∀u∈qP f l.length (P.cellsOf E),u.oneCell'=true)∧∀i,i<l.length→(f i).cells.size=P.cellsOf E:=by
 simp only[mK,Bool.and_eq_true]at hE
 obtain⟨c1,c2,_⟩:=hE
 have c1:=Nat.eq_of_beq_eq_true c1
 have eC:∀i,i<l.length→(f i).cells.size=P.cellsOf E:=by
  intro i hi
  rw[(dI (fZ i _ (List.getElem?_eq_getElem hi)) c2).2.1,c1]
 refine⟨⟨by simp[qP],fZ,fun i hi j hj=>Bf eC hi hj⟩,fun u hu=> ?_,eC⟩
 obtain⟨k,hk,rfl⟩:=List.mem_map.1 hu
 simp only[List.mem_range]at hk
 have SJ:0<P.cellsOf E:=by
  rcases Nat.eq_zero_or_pos (P.cellsOf E)with h0 | h0
  ·rw[h0]at hk;simp at hk
  ·exact h0
 have hd:k / P.cellsOf E<l.length:=by rw[Nat.div_lt_iff_lt_mul SJ];exact hk
 have hm:k % P.cellsOf E<(f (k / P.cellsOf E)).cells.size:=by rw[eC _ hd];exact Nat.mod_lt _ SJ
 refine l6 (fZ _ _ (List.getElem?_eq_getElem hd)) c2 _ ?_
 simp only[List.getD,Array.getElem?_toList,Array.getElem?_eq_getElem hm,Option.getD_some]
 exact Array.mem_toList_iff.2 (Array.getElem_mem hm)
theorem wX (h:Good P N st a hv w g) {E U:TypeId} {y:Operand} {ys:List PV} (hE:mK P E=true) (br:bL N y=true) (hs:jL P st E U y=some ys):
  ∃news f,Src P (P.cellsOf E) U (a.eval y) ys.length news w∧Hs P w g E ys f news:=by
 unfold jL at hs
 split at hs
 ·rename_i hU
  split at hs
  ·rename_i v hT bh
   cases hs
   obtain⟨s,rfl,hs⟩:=(hU▸h.rd br bh).dm
   have AZ:=hE
   simp only[mK,Bool.and_eq_true]at AZ
   have Dc:P.cellsOf E=1:=by
    rw[Nat.eq_of_beq_eq_true AZ.1,oi (by rw[hT];rfl)];rfl
   refine⟨byteCells s,fun i=>(byteCells s).getD i undef, ?_,⟨?_,fun i x hx=> ?_,fun i hi j hj=> ?_⟩⟩
   ·rw[hs,Dc]
    have:=Src.ofString (P:=P) w (gz hU) s
    simp only[PV.toStr,List.length_map,Array.length_toList]
    exact this
   ·rw[byteCells_length,Dc];simp only[PV.toStr,List.length_map,Array.length_toList];simp only[Nat.mul_one];rfl
   ·rw[hT]
    simp only[PV.toStr,List.getElem?_map,Option.map_eq_some_iff]at hx
    obtain⟨b,hb,rfl⟩:=hx
    simp only[List.getD,byteCells,List.getElem?_map,hb,Option.map_some,Option.getD_some]
    exact .int _ _
   ·have Dd:j=0:=by omega
    subst Dd
    simp only[PV.toStr,List.length_map,Array.length_toList]at hi
    simp only[Dc,Nat.mul_one,Nat.add_zero,List.getD,byteCells,List.getElem?_map,List.getElem?_eq_getElem (show i<s.data.toList.length by simpa using hi),Option.map_some,Option.getD_some]
    rfl
  ·cases hs
 ·rename_i E' hU
  cases he:Nat.beq E E' with
  | false=>simp[he]at hs
  | true=>
   simp only[he,cond_true]at hs
   have he:=Nat.eq_of_beq_eq_true he
   subst he
   rcases mP h br hs with ⟨rfl,ad,bh⟩ | ⟨b,off,cap,f,bh,fZ,hc⟩
   ·exact⟨[],fun _=>undef,by
     rw[bh]
     cases ad with
     | none=>exact Src.ofNil w (ec hU) 0
     | some a0=>exact Src.ofSlice w (ec hU) a0 0 0 [] (by simp) (fun j u hj=>by simp at hj) (fun u hu=>by cases hu),⟨by simp,fun i x hx=>by simp at hx,fun i hi=>by simp at hi⟩⟩
   ·obtain⟨e1,e2,e3⟩:=Dr (w:=w) (g:=g) hE fZ
    refine⟨_,f, ?_,e1⟩
    rw[bh]
    refine Src.ofSlice w (ec hU) _ _ _ _ e1.len (fun k u hk=> ?_) e2
    have pD:=(List.getElem?_eq_some_iff.1 hk).1
    rw[e1.len]at pD
    have SJ:0<P.cellsOf E:=by
     rcases Nat.eq_zero_or_pos (P.cellsOf E)with h0 | h0
     ·rw[h0]at pD;simp at pD
     ·exact h0
    have hd:k / P.cellsOf E<ys.length:=by rw[Nat.div_lt_iff_lt_mul SJ];exact pD
    have hm:=Nat.mod_lt k SJ
    have jz:k=k / P.cellsOf E*P.cellsOf E+k % P.cellsOf E:=by rw[Nat.mul_comm];exact(Nat.div_add_mod _ _).symm
    have:=hc _ hd _ hm
    have kK:=e1.cell _ hd _ hm
    rw[←jz,hk]at kK
    rw[←kK]at this
    rw[←this,Addr.add_lit]
    congr 2
    omega
 ·cases hs
theorem Hs.append {E:TypeId} {l m:List PV} {f h:Nat→Value} {cs ds:List Value} (x:Hs P w g E l f cs) (y:Hs P w g E m h ds):Hs P w g E (l++m) (fun i=>if i<l.length then f i else h (i-l.length)) (cs++ds):=by
 refine⟨by rw[List.length_append,List.length_append,x.len,y.len,Nat.add_mul],fun i v hi=> ?_,fun i hi j hj=> ?_⟩
 ·by_cases hl:i<l.length
  ·rw[List.getElem?_append_left hl]at hi
   simp only[hl,if_true];exact x.rep i v hi
  ·rw[List.getElem?_append_right (by omega)]at hi
   simp only[hl,if_false];exact y.rep _ v hi
 ·by_cases hl:i<l.length
  ·simp only[hl,if_true]
   rw[List.getElem?_append_left (by rw[x.len];exact rX hl hj)]
   exact x.cell i hl j hj
  ·simp only[hl,if_false]
   simp only[List.length_append]at hi
   have hle:l.length*P.cellsOf E≤i*P.cellsOf E:=Nat.mul_le_mul_right _ (by omega)
   rw[List.getElem?_append_right (by rw[x.len];omega),x.len]
   have:i*P.cellsOf E+j-l.length*P.cellsOf E=(i-l.length)*P.cellsOf E+j:=by rw[Nat.sub_mul];omega
   rw[this]
   exact y.cell _ (by omega) j hj
theorem Hs.ext {E:TypeId} {l:List PV} {f:Nat→Value} {cs:List Value} (x:Hs P w g E l f cs) (hs:w.heap.size≤w'.heap.size) (hf:∀b,b<w.heap.size→g.tag b= .free→g'.tag b= .free∧w'.heap[b]? =w.heap[b]?):Hs P w' g' E l f cs:=
 ⟨x.len,fun i v hi=>(x.rep i v hi).ext hs hf,x.cell⟩
def VZ (P:Program) (w:World) (g:G) (st:St) (E:TypeId) (l:List PV) (v:Value):Prop:=
 (l=[]∧v= .slice none 0 0)∨∃(b off cap:Nat) (vs:List Value) (f:Nat→Value) (T:TypeId) (s:Nat) (p:List Nat),v= .slice (some ⟨b,off,none⟩) l.length cap∧w.heap[b]? =some (.cells ⟨vs⟩ T (0,0))∧
  g.tag b= .own s p∧obj st s p= .dead∧l.length≤cap∧off+cap*P.cellsOf E≤vs.length∧(∀(i:Nat) (x:PV),l[i]? =some x→aV P w g (ai P E) x (f i))∧
  ∀i,i<l.length→∀j,j<P.cellsOf E→vs[off+i*P.cellsOf E+j]? =(f i).cells[j]?
theorem Bg (h:Good P N st a hv w g) {d:Nat} (hd:d<N) {ob:Obj} {w0:World} (V0:w0.heap=w.heap) (FC:w0.os=w.os) (Z2:w0.tape=w.tape) (QK:w0.output=w.output) {x:AO} {v:Value}
  (hx:bY P (w0.alloc ob) (g.newAt w.heap.size (some d) fun _=>v) d [] x):
  Good P N (put d (.o x) st) (a.put (some d) v) hv (w0.alloc ob) (g.newAt w.heap.size (some d) fun _=>v)∧Fr w g (w0.alloc ob) (g.newAt w.heap.size (some d) fun _=>v):=by
 have eC:(w0.alloc ob).heap.size=w.heap.size+1:=by simp[V0]
 have hold:∀b,b<w.heap.size→(w0.alloc ob).heap[b]? =w.heap[b]? :=by
  intro b hb;rw[heap_alloc_old w0 ob b (by rw[V0];exact hb),V0]
 have hf:∀b,b<w.heap.size→g.tag b= .free→(g.newAt w.heap.size (some d) fun _=>v).tag b= .free∧(w0.alloc ob).heap[b]? =w.heap[b]? :=
  fun b hb ht=>⟨by simp[G.newAt,Nat.ne_of_lt hb,ht],hold b hb⟩
 have fT:∀b,(w0.alloc ob).heap.size≤b→(g.newAt w.heap.size (some d) fun _=>v).tag b= .free:=by
  intro b hb
  rw[eC]at hb
  simp only[G.newAt]
  rw[if_neg (by omega)]
  exact h.inv.fresh b (by omega)
 refine⟨qa h hd (by omega) hf fT (fun t q tK _=>by simp[G.newAt,G.bP,Ne.symm tK]) (fun b t q hb ht _ _=>⟨by simp[G.newAt,Nat.ne_of_lt hb,ht],hold b hb⟩) hx (fun _=>by simp[G.newAt,G.bP]), ?_⟩
 refine⟨FC,Z2,QK,by omega,hf,fun b hb ht=>⟨by simp[G.newAt,Nat.ne_of_lt hb,ht],hold b hb⟩,fun b hb=> ?_,fT⟩
 simp only[G.newAt]at hb
 split at hb
 ·cases hb
 ·refine⟨hb, ?_⟩
  rcases Nat.lt_or_ge b w.heap.size with h' | h'
  ·exact h'
  ·rw[h.inv.fresh b h']at hb;cases hb
theorem ta (h:Good P N st a hv w g) {d:Nat} (hd:o.dst=some d) (gi:d<N) {E T U ty:TypeId} (hT:P.underlying T=some (.slice E)) (hE:mK P E=true) {l ys:List PV} {bv xv:Value} (hb:VZ P w g st E l bv)
  {news:List Value} {h2:Nat→Value} (Ds:Src P (P.cellsOf E) U xv ys.length news w) (tM:Hs P w g E ys h2 news) (lg:(l.length+ys.length)*P.bytesOf E≤room)
  (hex:∀v w',(Builtin.append_ #[T,U] ty #[bv,xv]).run P w= .ok v w'→(execOp a.eval o).run P w= .ok (.value v) w')
  (hk:K (put d (.o (.arr E (l++ys))) st)=some r) (ag:fB P N hv w g K r next):o.wp P a w next Q:=by
 have AZ:=hE
 simp only[mK,Bool.and_eq_true]at AZ
 obtain⟨c1,c2,c3,c4,c5⟩:=AZ
 have c3:=of_decide_eq_true c3
 have c5:=of_decide_eq_true c5
 unfold pV at c4
 split at c4
 ·rename_i i hi
  split at c4
  ·rename_i z hz
   have RV:=Nat.eq_of_beq_eq_true c4
   have eC:P.cellsOf E=i.size:=by simp[Program.cellsOf,hi]
   have SA:P.bytesOf E=i.bytes:=by simp[Program.bytesOf,hi]
   rw[SA]at lg c5
   have Dt:(l.length+ys.length)*i.bytes≤140737488355328:=lg
   have QL:l.length+ys.length≤140737488355328:=by
    have:(l.length+ys.length)*1≤(l.length+ys.length)*i.bytes:=Nat.mul_le_mul_left _ c5
    omega
   have tc:=Ds
   rw[eC]at tc
   have grow:∀(base:Option Addr) (cap:Nat) (ox:List Value) (f:Nat→Value),bv= .slice base l.length cap→cap<l.length+ys.length→Hs P w g E l f ox→
     (Builtin.firstCells i.size l.length (.slice base l.length cap)).run P w.drew= .ok ox.toArray w.drew→o.wp P a w next Q:=by
    intro base cap ox f Ng b6 hold Du
    have ba:=run_append_grow_src (P:=P) w T U ty E i z hT hi hz base l.length cap ox Du xv ys.length news tc b6 (by omega) (growslice_fits b6 Dt)
    rw[←Ng]at ba
    have RX:=grownCap_ge w (l.length+ys.length) cap E
    unfold Oper.wp
    rw[hex _ _ ba]
    show next (a.put o.dst _) _
    rw[hd]
    have cE:=hold.append tM
    obtain⟨g1,f1⟩:=Bg h gi (ob:= .cells ⟨(ox++news)++(Builtin.zeroCells z.cells (grownCap w (l.length+ys.length) cap E- (l.length+ys.length))).toList⟩ E) (w0:=w.drew) rfl rfl rfl rfl
     (x:= .arr E (l++ys)) (v:= .slice (some ⟨w.heap.size,0,none⟩) (l.length+ys.length) (grownCap w (l.length+ys.length) cap E)) (by
      refine .arr [] E _ w.heap.size 0 (grownCap w (l.length+ys.length) cap E) _ (fun i=>if i<l.length then f i else h2 (i-l.length)) E (by simp[G.newAt,G.bP]) (heap_alloc_new w.drew _) (by simp[G.newAt]) (by simpa using RX) ?_ (fun k y hy=> ?_) (fun k pD j hj=> ?_)
      ·have JY:(Builtin.zeroCells z.cells (grownCap w (l.length+ys.length) cap E- (l.length+ys.length))).toList.length=(grownCap w (l.length+ys.length) cap E- (l.length+ys.length))*P.cellsOf E:=by
        simp only[Array.length_toList,size_zeroCells,RV,eC]
       rw[List.length_append,cE.len,JY,List.length_append, ←Nat.add_mul,Nat.zero_add]
       exact Nat.mul_le_mul_right _ (by omega)
      ·exact(cE.rep k y hy).ext (by simp) (fun b hb ht=>⟨by simp[G.newAt,Nat.ne_of_lt hb,ht],heap_alloc_old w.drew _ b hb⟩)
      ·rw[Nat.zero_add,List.getElem?_append_left (by rw[cE.len];exact rX pD hj)]
       exact cE.cell k pD j hj)
    have QM:(ox++news).toArray++Builtin.zeroCells z.cells (grownCap w (l.length+ys.length) cap E- (l.length+ys.length))=⟨(ox++news)++(Builtin.zeroCells z.cells (grownCap w (l.length+ys.length) cap E- (l.length+ys.length))).toList⟩:=by
     apply Array.ext';simp
    rw[QM]
    exact ag _ _ _ _ g1 f1 hk
   rcases hb with ⟨rfl,Ng⟩ | ⟨b,off,cap,vs,f,T',s,p,Ng,hh,tH,uR,cU,SI,fZ,cW⟩
   ·by_cases hy:ys.length=0
    ·have A2:ys=[]:=List.eq_nil_of_length_eq_zero hy
     subst A2
     have hn:news=[]:=List.eq_nil_of_length_eq_zero (by rw[tM.len];simp)
     subst hn
     have ba:=mW (P:=P) w T U ty E i hT hi xv tc
     rw[←Ng]at ba
     unfold Oper.wp
     rw[hex _ _ ba]
     show next (a.put o.dst _) _
     rw[hd]
     refine ag _ _ w (g.bP (some d) fun _=>bv) (h.put gi (fY h.inv.fresh (some d) _) (.o _ _ (fun _=>(G.cC g d (fun _=>bv) []).symm) (.jt [] E (by rw[G.cC];exact Ng)))) (fY h.inv.fresh (some d) _).fr hk
    ·exact grow none 0 [] (fun _=>undef) Ng (by simp;omega) ⟨by simp,fun _ _ hx=>by simp at hx,fun _ hx=>by simp at hx⟩ (run_firstCells_none w.drew i.size 0 0 0)
   ·by_cases Ka:l.length+ys.length≤cap
    ·have Dv:=tM.len
     have hmul:l.length*P.cellsOf E+ys.length*P.cellsOf E≤cap*P.cellsOf E:=by rw[←Nat.add_mul];exact Nat.mul_le_mul_right _ Ka
     have ba:=wW (P:=P) (w:=w) T U ty E i hT hi (b:=b) (off:=off) (n0:=l.length) (cap:=cap) hh tc Ka (by rw[Dv, ←eC];omega)
     rw[←Ng]at ba
     unfold Oper.wp
     rw[hex _ _ ba]
     show next (a.put o.dst _) _
     rw[hd]
     have Nh:b<w.heap.size:=by
      rcases Nat.lt_or_ge b w.heap.size with h' | h'
      ·exact h'
      ·rw[Array.getElem?_eq_none h']at hh;cases hh
     have dc:∀c,g.tag c= .free→c≠b:=by rintro c hc rfl;rw[tH]at hc;cases hc
     have NN:∀c,g.tag c= .out→c≠b:=by rintro c hc rfl;rw[tH]at hc;cases hc
     have SK:=Hr vs news (off+l.length*i.size) (by rw[Dv, ←eC];omega)
     generalize tN:(vs.take (off+l.length*i.size)++news++vs.drop (off+l.length*i.size+news.length))=row at SK ⊢
     obtain⟨Yl,JZ,Z3⟩:=SK
     have gh:∀c,c<w.heap.size→g.tag c= .free→(if c=b then Tag.own d []else g.tag c)= .free∧(w.setRow b row.toArray).heap[c]? =w.heap[c]? :=
      fun c _ hc=>⟨by rw[if_neg (dc c hc)];exact hc,bj w b c _ (dc c hc)⟩
     have fT:∀c,w.heap.size≤c→(if c=b then Tag.own d []else g.tag c)= .free:=fun c hc=>by rw[if_neg (by omega)];exact h.inv.fresh c hc
     have kD:=size_setRow w b row.toArray
     refine ag _ _ _ {tag:=fun c=>if c=b then .own d []else g.tag c,val:=(g.bP (some d) fun _=> .slice (some ⟨b,off,none⟩) (l.length+ys.length) cap).val}
      (qa h gi (by omega) gh (fun c hc=>fT c (by omega)) (fun t q tK _=>by simp[G.bP,Ne.symm tK]) (fun c t q hc ht tK hl=> ?_) ?_ (fun _=>by simp[G.bP])) ?_ hk
     ·have:c≠b:=by
       rintro rfl
       rw[tH]at ht;cases ht
       exact hl uR
      exact⟨by show(if c=b then Tag.own d []else g.tag c)=_;rw[if_neg this];exact ht,bj w b c _ this⟩
     ·refine .arr [] E (l++ys) b off cap row (fun k=>if k<l.length then f k else h2 (k-l.length)) T' (by simp[G.bP]) (setRow_heap w b ⟨vs⟩ _ T' (0,0) hh) (by simp) (by simpa using Ka) (by omega) (fun k y hy=> ?_) (fun k pD j hj=> ?_)
      ·by_cases hl:k<l.length
       ·rw[List.getElem?_append_left hl]at hy
        simp only[hl,if_true];exact(fZ k y hy).ext (by omega) gh
       ·rw[List.getElem?_append_right (by omega)]at hy
        simp only[hl,if_false];exact(tM.rep _ y hy).ext (by omega) gh
      ·by_cases hl:k<l.length
       ·simp only[hl,if_true]
        have:=rX hl hj
        rw[JZ _ (by rw[←eC];omega)]
        exact cW k hl j hj
       ·simp only[hl,if_false]
        simp only[List.length_append]at pD
        have hle:l.length*P.cellsOf E≤k*P.cellsOf E:=Nat.mul_le_mul_right _ (by omega)
        have e:off+k*P.cellsOf E+j=off+l.length*i.size+((k-l.length)*P.cellsOf E+j):=by rw[←eC,Nat.sub_mul];omega
        rw[e,Z3 _ (by rw[Dv];exact rX (by omega) hj)]
        exact tM.cell _ (by omega) j hj
     ·refine⟨rfl,rfl,rfl,by omega,gh,fun c hc ht=>⟨by show(if c=b then Tag.own d []else g.tag c)=_;rw[if_neg (NN c ht)];exact ht,bj w b c _ (NN c ht)⟩,fun c hc=> ?_,fun c hc=>fT c (by omega)⟩
      simp only at hc
      split at hc
      ·cases hc
      ·refine⟨hc, ?_⟩
       rcases Nat.lt_or_ge c w.heap.size with h' | h'
       ·exact h'
       ·rw[h.inv.fresh c h']at hc;cases hc
    ·obtain⟨e1,e2,e3⟩:=Dr (w:=w) (g:=g) hE fZ
     refine grow _ cap _ f Ng (by omega) e1 ?_
     refine run_firstCells_some w.drew i.size l.length _ _ _ _ (by rw[e1.len,eC]) (fun k u hk=> ?_)
     have pD:=(List.getElem?_eq_some_iff.1 hk).1
     rw[e1.len]at pD
     have hd:k / P.cellsOf E<l.length:=by rw[Nat.div_lt_iff_lt_mul c3];exact pD
     have hm:=Nat.mod_lt k c3
     have jz:k=k / P.cellsOf E*P.cellsOf E+k % P.cellsOf E:=by rw[Nat.mul_comm];exact(Nat.div_add_mod _ _).symm
     have h1:=cW _ hd _ hm
     have h2:=e1.cell _ hd _ hm
     rw[←jz,hk]at h2
     rw[←h2]at h1
     have:w.drew.cell? (Addr.add ⟨b,off,none⟩ k)=w.cell? ⟨b,off+k,none⟩:=by rw[Addr.add_lit];rfl
     rw[this,cell_of_row w b _ ⟨vs⟩ T' (0,0) hh]
     have e:off+k=off+k / P.cellsOf E*P.cellsOf E+k % P.cellsOf E:=by omega
     rw[e, ←h1];simp
  ·cases c4
 ·cases c4
theorem Bh (h:Good P N st a hv w g) {d:Nat} (hd:o.dst=some d) (gi:d<N) {E T U ty:TypeId} (hT:P.underlying T=some (.slice E)) (hE:mK P E=true) {l ys:List PV} {ad:Option Addr} {xv:Value} (hb:aV P w g (.sl E) (.sl l) (.slice ad l.length l.length))
  {news:List Value} {h2:Nat→Value} (Ds:Src P (P.cellsOf E) U xv ys.length news w) (tM:Hs P w g E ys h2 news) (lg:(l.length+ys.length)*P.bytesOf E≤room)
  (hex:∀v w',(Builtin.append_ #[T,U] ty #[.slice ad l.length l.length,xv]).run P w= .ok v w'→(execOp a.eval o).run P w= .ok (.value v) w')
  (hk:K (put d (.o (.pv (.sl E) (.sl (l++ys)))) st)=some r) (ag:fB P N hv w g K r next):o.wp P a w next Q:=by
 have AZ:=hE
 simp only[mK,Bool.and_eq_true]at AZ
 obtain⟨c1,c2,c3,c4,c5⟩:=AZ
 have c3:=of_decide_eq_true c3
 have c5:=of_decide_eq_true c5
 unfold pV at c4
 split at c4
 ·rename_i i hi
  split at c4
  ·rename_i z hz
   have RV:=Nat.eq_of_beq_eq_true c4
   have eC:P.cellsOf E=i.size:=by simp[Program.cellsOf,hi]
   have SA:P.bytesOf E=i.bytes:=by simp[Program.bytesOf,hi]
   rw[SA]at lg c5
   have Dt:(l.length+ys.length)*i.bytes≤140737488355328:=lg
   have QL:l.length+ys.length≤140737488355328:=by
    have:(l.length+ys.length)*1≤(l.length+ys.length)*i.bytes:=Nat.mul_le_mul_left _ c5
    omega
   have tc:=Ds
   rw[eC]at tc
   by_cases hy:ys.length=0
   ·have A2:ys=[]:=List.eq_nil_of_length_eq_zero hy
    subst A2
    have hn:news=[]:=List.eq_nil_of_length_eq_zero (by rw[tM.len];simp)
    subst hn
    have ba:=mX (P:=P) w T U ty E i hT hi ad l.length l.length (Nat.le_refl _) xv tc
    unfold Oper.wp
    rw[hex _ _ ba]
    show next (a.put o.dst _) _
    rw[hd]
    refine ag _ _ w (g.bP (some d) fun _=> .slice ad l.length l.length) (h.put gi (fY h.inv.fresh (some d) _) (.o _ _ (fun _=>(G.cC g d (fun _=> .slice ad l.length l.length) []).symm) (.pv [] _ _ ?_))) (fY h.inv.fresh (some d) _).fr hk
    rw[G.cC,List.append_nil]
    exact hb.tags rfl
   ·have b6:l.length<l.length+ys.length:=by omega
    have grow:∀(ox:List Value) (f:Nat→Value),Hs P w g E l f ox→(Builtin.firstCells i.size l.length (.slice ad l.length l.length)).run P w.drew= .ok ox.toArray w.drew→o.wp P a w next Q:=by
     intro ox f hold Du
     have ba:=run_append_grow_src (P:=P) w T U ty E i z hT hi hz ad l.length l.length ox Du xv ys.length news tc b6 (by omega) (growslice_fits b6 Dt)
     have RX:=grownCap_ge w (l.length+ys.length) l.length E
     unfold Oper.wp
     rw[hex _ _ ba]
     show next (a.put o.dst _) _
     rw[hd]
     have cE:=hold.append tM
     have QM:(ox++news).toArray++Builtin.zeroCells z.cells (grownCap w (l.length+ys.length) l.length E- (l.length+ys.length))=⟨(ox++news)++(Builtin.zeroCells z.cells (grownCap w (l.length+ys.length) l.length E- (l.length+ys.length))).toList⟩:=by
      apply Array.ext';simp
     rw[QM]
     generalize bq:(⟨(ox++news)++(Builtin.zeroCells z.cells (grownCap w (l.length+ys.length) l.length E- (l.length+ys.length))).toList⟩:Array Value)=row
     have hq:uB w g (w.drew.alloc (.cells row E)) (g.bP (some d) fun _=> .slice (some ⟨w.heap.size,0,none⟩) (l.length+ys.length) (grownCap w (l.length+ys.length) l.length E)) (some d):=by
      refine⟨rfl,rfl,rfl,by simp,fun b hb=>⟨rfl,heap_alloc_old w.drew _ b hb⟩,fun s p h=>by simp only[G.bP];rw[if_neg h],fun b hb=> ?_,fun b hb=> ?_⟩
      ·show g.tag b≠ .out
       rw[h.inv.fresh b hb];simp
      ·exact h.inv.fresh b (by simp at hb;omega)
     refine ag _ _ _ _ (h.put gi hq (.o _ _ (fun _=>(G.cC g d (fun _=> .slice (some ⟨w.heap.size,0,none⟩) (l.length+ys.length) (grownCap w (l.length+ys.length) l.length E)) []).symm) (.pv [] _ _ ?_))) hq.fr hk
     rw[G.cC]
     have:=aV.sl (P:=P) (w:=w.drew.alloc (.cells row E)) (g:=g.bP (some d) fun _=> .slice (some ⟨w.heap.size,0,none⟩) (l.length+ys.length) (grownCap w (l.length+ys.length) l.length E)) E (l++ys) w.heap.size 0 (grownCap w (l.length+ys.length) l.length E) (fun i=>if i<l.length then f i else h2 (i-l.length)) (fun k y hy=> ?_) (fun k pD j hj=> ?_) (h.inv.fresh _ (Nat.le_refl _)) (by simp) (by simpa using RX)
     ·rw[List.length_append]at this;exact this
     ·exact(cE.rep k y hy).ext (by simp) (fun b hb ht=>⟨ht,heap_alloc_old w.drew _ b hb⟩)
     ·rw[cell_of_row _ w.heap.size _ row E (0,0) (heap_alloc_new w.drew _), ←bq]
      have:(⟨(ox++news)++(Builtin.zeroCells z.cells (grownCap w (l.length+ys.length) l.length E- (l.length+ys.length))).toList⟩:Array Value)[0+k*P.cellsOf E+j]? =((ox++news)++(Builtin.zeroCells z.cells (grownCap w (l.length+ys.length) l.length E- (l.length+ys.length))).toList)[0+k*P.cellsOf E+j]? :=by simp
      rw[this,Nat.zero_add,List.getElem?_append_left (by rw[cE.len];exact rX pD hj)]
      exact cE.cell k pD j hj
    rcases iN hb with ⟨qK,_,ZR,bh⟩ | ⟨l',b,off,cap,f,jR,bh,he,cW,_,_,_⟩
    ·simp only[PV.toList]at qK
     subst qK
     refine grow [] (fun _=>undef) ⟨by simp,fun _ _ hx=>by simp at hx,fun _ hx=>by simp at hx⟩ ?_
     cases ad with
     | none=>exact run_firstCells_none w.drew i.size 0 0 0
     | some a0=>exact run_firstCells_some w.drew i.size 0 _ _ _ _ (by simp) (fun k u hk=>by simp at hk)
    ·cases jR
     simp only[Value.slice.injEq]at bh
     obtain⟨rfl,_,_⟩:=bh
     obtain⟨e1,e2,e3⟩:=Dr (w:=w) (g:=g) hE he
     refine grow _ f e1 ?_
     refine run_firstCells_some w.drew i.size l.length _ _ _ _ (by rw[e1.len,eC]) (fun k u hk=> ?_)
     have pD:=(List.getElem?_eq_some_iff.1 hk).1
     rw[e1.len]at pD
     have hd:k / P.cellsOf E<l.length:=by rw[Nat.div_lt_iff_lt_mul c3];exact pD
     have hm:=Nat.mod_lt k c3
     have jz:k=k / P.cellsOf E*P.cellsOf E+k % P.cellsOf E:=by rw[Nat.mul_comm];exact(Nat.div_add_mod _ _).symm
     have h1:=cW _ hd _ hm
     have h2:=e1.cell _ hd _ hm
     rw[←jz,hk]at h2
     rw[←h2]at h1
     have:w.drew.cell? (Addr.add ⟨b,off,none⟩ k)=w.cell? ⟨b,off+k,none⟩:=by rw[Addr.add_lit];rfl
     rw[this]
     have e:off+k=off+k / P.cellsOf E*P.cellsOf E+k % P.cellsOf E:=by omega
     rw[e, ←h1]
  ·cases c4
 ·cases c4
theorem qb {st aZ:St} (hl:st.length=aZ.length) (h:∀s,s<st.length→get st s=get aZ s):st=aZ:=by
 apply List.ext_getElem?
 intro i
 by_cases hi:i<st.length
 ·have:=h i hi
  rw[get,get,bZ,bZ,List.getElem?_eq_getElem hi,List.getElem?_eq_getElem (hl▸hi)]at this
  rw[List.getElem?_eq_getElem hi,List.getElem?_eq_getElem (hl▸hi)]
  simpa using this
 ·rw[List.getElem?_eq_none (by omega),List.getElem?_eq_none (by omega)]
theorem Ht {x:Operand} {s:Nat} {p:List Nat} (hl:cV st x=some (s,p)):V.kill s p (setObj (fN x st) s p .dead)=V.kill s p (setObj st s p .dead):=by
 cases x with
 | tmp i=>
  cases hg:get st i with
  | al s' p'=>
   simp only[cV,hg]at hl
   have AF:s'=s∧p'=p∧obj st s p≠ .dead:=by
    split at hl
    all_goals first
     | (rename_i bq;simp only[Option.some.injEq,Prod.mk.injEq]at hl;obtain⟨rfl,rfl⟩:=hl;exact⟨rfl,rfl,by rw[bq];simp⟩)
     | cases hl
   obtain⟨rfl,rfl,bq⟩:=AF
   have Dm:s'≠i:=by
    rintro rfl
    apply bq
    unfold obj;rw[hg]
   simp only[fN,hg]
   have Ni:get (st.set i .dead) s'=get st s':=by rw[bU,if_neg (fun hh=>Dm hh.1)]
   have Sw:∀t,t≠i→get (setObj (st.set i .dead) s' p' .dead) t=get (setObj st s' p' .dead) t:=by
    intro t ht
    unfold setObj;rw[Ni]
    split
    ·simp only[bU,List.length_set,ht,false_and,if_false]
    ·rw[bU,if_neg (fun hh=>ht hh.1)]
   refine qb (by rw[bC,bC];unfold setObj;rw[Ni];split<;>simp) (fun t _=> ?_)
   rw[cj,cj]
   by_cases ht:t=i
   ·subst ht
    have h1:(get (setObj (st.set t .dead) s' p' .dead) t).ar s' p'=true∨get (setObj (st.set t .dead) s' p' .dead) t= .dead:=by
     right
     unfold setObj;rw[Ni]
     have hd:get (st.set t .dead) t= .dead:=by
      rw[bU];split
      ·rfl
      ·rename_i hh
       rw[get,bZ,List.getElem?_eq_none (by simp at hh;omega)];rfl
     split
     ·rw[bU,if_neg (fun hh=>Dm hh.1.symm),hd]
     ·exact hd
    have h2:get (setObj st s' p' .dead) t= .al s' p':=by
     unfold setObj
     split
     ·rw[bU,if_neg (fun hh=>Dm hh.1.symm),hg]
     ·exact hg
    rw[h2]
    have h3:(AV.al s' p').ar s' p'=true:=by
     have:∀p:List Nat,pre p p=true:=by
      intro p;induction p with
      | nil=>rfl
      | cons x p ih=>simp[pre,ih]
     simp[AV.ar,this]
    rw[h3,cond_true]
    rcases h1 with h1 | h1
    ·rw[h1];rfl
    ·rw[h1];simp[AV.ar]
   ·rw[Sw t ht]
  | _=>simp only[fN,hg]
 | _=>simp[cV]at hl
theorem Dw (h:Good P N st a hv w g) {c:Call} (aM:o.op= .call c) (hb:c.callee= .builtin .append) (br:ey N o) (gi:∀i,o.dst=some i→i<N) (hk:j7 P call N o st K=some r) (ag:fB P N hv w g K r next):o.wp P a w next Q:=by
 have je:∀x∈c.args.toList,bL N x=true:=fun x hx=>br x (by
  simp only[aM,Op.operands,Call.operands,hb,Array.mem_append];exact .inr (Array.mem_toList_iff.1 hx))
 cases yP:o.dst with
 | none=>simp[j7,aM,hb,yP]at hk
 | some d=>
 have gi:=gi d yP
 simp only[j7,aM,hb,yP]at hk
 split at hk
 ·rename_i T x y U h0 h1 h2 h3
  have JX:=je x (Array.mem_toList_iff.2 (Array.mem_of_getElem? h1))
  have Sv:=je y (Array.mem_toList_iff.2 (Array.mem_of_getElem? h2))
  have hex:∀v w',(Builtin.append_ #[T,U] o.type #[a.eval x,a.eval y]).run P w= .ok v w'→(execOp a.eval o).run P w= .ok (.value v) w':=by
   intro v w' hr
   have e:execOp a.eval o=(do let d←resolve a.eval c o.type;invoke d.target d.args):=by simp only[execOp,aM]
   rw[e,Sem.run_bind]
   have:(resolve a.eval c o.type).run P w= .ok {target:= .builtin .append c.argTypes o.type (c.args.map fun | .const _=>true | _=>false),args:=c.args.map a.eval} w:=by
    simp only[resolve,hb,Sem.run_pure];rfl
   rw[this,Result.andThen_ok]
   have e2:=append_eq (ty:=o.type) (A:=c.argTypes) (vs:=c.args.map a.eval) h0 h3 (by simp[h1]:(c.args.map a.eval)[0]? =some (a.eval x)) (by simp[h2]:(c.args.map a.eval)[1]? =some (a.eval y))
   simp only[invoke,builtin,e2,Sem.run_bind,hr,Result.andThen_ok,Sem.run_pure]
  split at hk
  ·rename_i E hT
   obtain⟨hE,hk⟩:=aH hk
   split at hk
   ·rename_i ys A2
    obtain⟨news,f,Ds,tM⟩:=wX h hE Sv A2
    split at hk
    ·rename_i v
     split at hk
     ·rename_i x' tZ
      obtain⟨hr,hk⟩:=aH hk
      have hr:=of_decide_eq_true hr
      have hv:=(jv tZ).1
      exact ta h yP gi (ec hT) hE (l:=[]) (.inl ⟨rfl,hv⟩) Ds tM (by simpa using hr) hex (by simpa using hk) ag
     ·cases hk
    ·split at hk
     ·rename_i E' l jW
      obtain⟨hr,jz⟩:=aH hk
      simp only[Bool.and_eq_true]at hr
      have he:=Nat.eq_of_beq_eq_true hr.1
      have V1:=of_decide_eq_true hr.2
      subst he
      cases x with
      | tmp t=>
       simp only[mL]at jW
       split at jW
       ·rename_i E0 l0 hg
        cases jW
        have hs:=h.cb (show t<N by simpa[bL]using JX) hg
        generalize dV:a.eval (.tmp t)=u at hs hex
        cases hs with
        | clip _ _ ad hp=>exact Bh h yP gi (ec hT) hE hp Ds tM V1 hex jz ag
       ·cases jW
      | _=>simp[mL]at jW
     ·split at hk
      ·rename_i s p nM
       split at hk
       ·rename_i E' l bq
        obtain⟨hr,jz⟩:=aH hk
        simp only[Bool.and_eq_true]at hr
        have he:=Nat.eq_of_beq_eq_true hr.1
        have V1:=of_decide_eq_true hr.2
        subst he
        rw[Ht nM]at jz
        have hv:=(ef h JX nM).1
        have fq:=h.obj s p
        rw[bq]at fq
        obtain⟨g1,uR,_⟩:=xB h s p (by rw[bq];simp)
        refine ta g1 yP gi (ec hT) hE (l:=l) ?_ Ds tM V1 hex jz ag
        cases fq with
        | jt _ _ bh=>exact .inl ⟨rfl,by rw[hv];exact bh⟩
        | arr _ _ _ b off cap vs f T bh hh ht hl cU he hc=>
         exact .inr ⟨b,off,cap,vs,f,T,s,p,by rw[hv];exact bh,hh,ht,by simpa using uR [],hl,cU,he,hc⟩
       ·cases hk
      ·cases hk
   ·cases hk
  ·cases hk
 ·cases hk
end
end Go.V
namespace Go.V
section
variable {P:Program} {N:Nat} {st:St} {a:Act} {hv:List Value} {w w':World} {g g':G} {K:St→R} {r:List AO×List AO} {o:Oper} {next:Act→World→Prop} {Q:Exit→Act→World→Prop} {call:aw}
def G.take (g:G) (b d:Nat) (v:Value):G:= {tag:=fun c=>if c=b then .own d []else g.tag c,val:=(g.bP (some d) fun _=>v).val}
theorem Hu (h:Good P N st a hv w g) {d:Nat} (gi:d<N) {b s:Nat} {p:List Nat} (tH:g.tag b= .own s p) (uR:obj st s p= .dead) (Nh:b<w.heap.size) {x:AO} {v:Value}
  (hx:bY P w (g.take b d v) d [] x):Good P N (put d (.o x) st) (a.put (some d) v) hv w (g.take b d v)∧Fr w g w (g.take b d v):=by
 have dc:∀c,g.tag c= .free→c≠b:=by rintro c hc rfl;rw[tH]at hc;cases hc
 have NN:∀c,g.tag c= .out→c≠b:=by rintro c hc rfl;rw[tH]at hc;cases hc
 have gh:∀c,c<w.heap.size→g.tag c= .free→(g.take b d v).tag c= .free∧w.heap[c]? =w.heap[c]? :=
  fun c _ hc=>⟨by show(if c=b then Tag.own d []else g.tag c)= .free;rw[if_neg (dc c hc)];exact hc,rfl⟩
 have fT:∀c,w.heap.size≤c→(g.take b d v).tag c= .free:=fun c hc=>by show(if c=b then Tag.own d []else g.tag c)= .free;rw[if_neg (by omega)];exact h.inv.fresh c hc
 refine⟨qa h gi (Nat.le_refl _) gh fT (fun t q tK _=>by simp[G.take,G.bP,Ne.symm tK]) (fun c t q hc ht tK hl=> ?_) hx (fun _=>by simp[G.take,G.bP]), ?_⟩
 ·have:c≠b:=by
   rintro rfl
   rw[tH]at ht;cases ht
   exact hl uR
  exact⟨by show(if c=b then Tag.own d []else g.tag c)=_;rw[if_neg this];exact ht,rfl⟩
 ·refine⟨rfl,rfl,rfl,Nat.le_refl _,gh,fun c hc ht=>⟨by show(if c=b then Tag.own d []else g.tag c)=_;rw[if_neg (NN c ht)];exact ht,rfl⟩,fun c hc=> ?_,fT⟩
  have Fx:(if c=b then Tag.own d []else g.tag c)= .out:=hc
  split at Fx
  ·cases Fx
  ·refine⟨Fx, ?_⟩
   rcases Nat.lt_or_ge c w.heap.size with h' | h'
   ·exact h'
   ·rw[h.inv.fresh c h']at Fx;cases Fx
theorem Hv (h:Good P N st a hv w g) {T:TypeId} {x:Operand} {lo hi:Option Operand} (aM:o.op= .slice T x lo hi none) (br:ey N o) (gi:∀i,o.dst=some i→i<N) (hk:j7 P call N o st K=some r) (ag:fB P N hv w g K r next):o.wp P a w next Q:=by
 have hx:bL N x=true:=br x (by simp[aM,Op.operands])
 have fy:∀z,lo=some z→bL N z=true:=fun z hz=>br z (by simp[aM,Op.operands,hz])
 have Jq:∀z,hi=some z→bL N z=true:=fun z hz=>br z (by simp[aM,Op.operands,hz])
 simp only[j7,aM]at hk
 split at hk
 ·rename_i d E s p hd hT nM
  split at hk
  ·rename_i E' l A bq hA
   have qc:=gX h fy (v:=A) (d:=0) (by cases lo<;>exact hA)
   split at hk
   ·rename_i H hH
    have QA:=gX h Jq (v:=H) (d:=l.length) (by cases hi<;>exact hH)
    obtain⟨hc,jz⟩:=aH hk
    simp only[Bool.and_eq_true]at hc
    obtain⟨ce,ci,c0,c1,c2⟩:=hc
    have c0:0≤A.toInt:=of_decide_eq_true c0
    have c1:A.toInt≤H.toInt:=of_decide_eq_true c1
    have c2:H.toInt≤l.length:=of_decide_eq_true c2
    have ce:=Nat.eq_of_beq_eq_true ce
    subst ce
    have dV:=(ef h hx nM).1
    have Dx:=gi d hd
    have hu:=ec hT
    have Jr:P.elem T=E:=by simp[Program.elem,hu]
    have ba:∀ad n cap,n=l.length→n≤cap→a.eval x= .slice ad n cap→
      (execOp a.eval o).run P w= .ok (.value (.slice (if cap=A.toInt.toNat then ad else ad.map (·.add (A.toInt.toNat*P.cellsOf E))) (H.toInt.toNat-A.toInt.toNat) (cap-A.toInt.toNat))) w:=by
     intro ad n cap hn cU dV
     have hb:=jY (P:=P) (w:=w) (isSlice:=true) (len:=n) (cap:=cap) qc (by rw[hn];exact QA) c0 c1 (by rw[hn];exact c2) cU
     have:(Instr.sliceAt T (.slice ad n cap) (lo.map a.eval) (hi.map a.eval) none).run P w= .ok (.slice (if cap=A.toInt.toNat then ad else ad.map (·.add (A.toInt.toNat*P.cellsOf E))) (H.toInt.toNat-A.toInt.toNat) (cap-A.toInt.toNat)) w:=by
      rw[run_sliceAt_slice w T _ _ _ _ (by rw[Jr];exact hu)]
      simp only[Instr.slice,Sem.run_bind,run_underlying hu,Result.andThen_ok,hb,dY ci,Sem.run_pure]
     simp only[execOp,aM,dV,Option.map_none,Sem.run_bind,this,Result.andThen_ok,Sem.run_pure]
    have fq:=h.obj s p
    rw[bq]at fq
    obtain⟨g1,uR,_⟩:=xB h s p (by rw[bq];simp)
    have hlen:((l.take H.toInt.toNat).drop A.toInt.toNat).length=H.toInt.toNat-A.toInt.toNat:=by simp;omega
    cases fq with
    | jt _ _ bh=>
     simp only[List.length_nil]at c2
     have e1:A.toInt.toNat=0:=by omega
     have e2:H.toInt.toNat=0:=by omega
     have hr:=ba none 0 0 rfl (Nat.le_refl _) (by rw[dV,bh])
     simp only[e1,e2,if_true,Nat.sub_self]at hr
     simp only[e1,e2]at jz
     unfold Oper.wp
     rw[hr]
     show next (a.put o.dst _) _
     rw[hd]
     exact ag _ _ w (g.bP (some d) fun _=> .slice none 0 0) (g1.put Dx (fY h.inv.fresh (some d) _) (.o _ _ (fun _=>(G.cC g d (fun _=> .slice none 0 0) []).symm) (.jt [] E (G.cC _ _ _ _)))) (fY h.inv.fresh (some d) _).fr jz
    | arr _ _ _ b off cap vs f T' bh hh ht hl cU he cW=>
     have Nh:b<w.heap.size:=by
      rcases Nat.lt_or_ge b w.heap.size with h' | h'
      ·exact h'
      ·rw[Array.getElem?_eq_none h']at hh;cases hh
     have hr:=ba _ _ cap rfl hl (by rw[dV,bh])
     unfold Oper.wp
     rw[hr]
     show next (a.put o.dst _) _
     rw[hd]
     have UN:obj (kill s p (setObj st s p .dead)) s p= .dead:=by simpa using uR []
     have Z4:∀c,g.tag c= .free→c≠b:=by rintro c hc rfl;rw[ht]at hc;cases hc
     have gh:∀v,∀c,c<w.heap.size→g.tag c= .free→(g.take b d v).tag c= .free∧w.heap[c]? =w.heap[c]? :=
      fun v c _ hc=>⟨by show(if c=b then Tag.own d []else g.tag c)= .free;rw[if_neg (Z4 c hc)];exact hc,rfl⟩
     obtain⟨G1,F1⟩:=Hu g1 Dx (x:= .arr E ((l.take H.toInt.toNat).drop A.toInt.toNat)) (v:= .slice (if cap=A.toInt.toNat then some ⟨b,off,none⟩else(some (⟨b,off,none⟩:Addr)).map (·.add (A.toInt.toNat*P.cellsOf E))) (H.toInt.toNat-A.toInt.toNat) (cap-A.toInt.toNat)) ht UN Nh (by
      by_cases jW:cap=A.toInt.toNat
      ·have qK:(l.take H.toInt.toNat).drop A.toInt.toNat=[]:=List.eq_nil_of_length_eq_zero (by omega)
       have h0:H.toInt.toNat-A.toInt.toNat=0:=by omega
       rw[if_pos jW,qK,h0]
       refine .arr [] E [] b off (cap-A.toInt.toNat) vs f T' (by simp[G.take,G.bP]) hh (by simp[G.take]) (Nat.zero_le _) ?_ (fun i x hx=>by simp at hx) (fun i hi=>by simp at hi)
       have:(cap-A.toInt.toNat)*P.cellsOf E≤cap*P.cellsOf E:=Nat.mul_le_mul_right _ (by omega)
       omega
      ·rw[if_neg jW]
       simp only[Option.map_some,iM]
       refine .arr [] E _ b (off+A.toInt.toNat*P.cellsOf E) (cap-A.toInt.toNat) vs (fun i=>f (A.toInt.toNat+i)) T' (by simp only[G.take,G.bP,if_true];rw[hlen]) hh (by simp[G.take]) (by rw[hlen];omega) ?_ (fun i x hx=> ?_) (fun i hi j hj=> ?_)
       ·have:(cap-A.toInt.toNat)*P.cellsOf E+A.toInt.toNat*P.cellsOf E=cap*P.cellsOf E:=by rw[←Nat.add_mul];congr 1;omega
        omega
       ·rw[List.getElem?_drop,List.getElem?_take]at hx
        split at hx
        ·exact(he _ x hx).ext (Nat.le_refl _) (gh _)
        ·cases hx
       ·rw[hlen]at hi
        rw[←cW (A.toInt.toNat+i) (by omega) j hj,Nat.add_mul]
        congr 1;omega)
     exact ag _ _ w _ G1 F1 jz
   ·cases hk
  ·cases hk
 ·cases hk
theorem dN (s:Nat) (p:List Nat):∀(n off:Nat) (st:St) (g:G),Good P N st a hv w g→∃g',Good P N (dk s p off n st) a hv w g'∧Fr w g w g'
 | 0,_,st,g,h=>⟨g,h,Fr.refl w g h.inv.fresh⟩
 | n+1,off,st,g,h=>by
  simp only[dk]
  cases hc:(((obj st s (p++[off])).jh|| (obj st s (p++[off])).pA)&&gx st s (p++[off]))with
  | true=>
   simp only[Bool.and_eq_true,Bool.or_eq_true]at hc
   obtain⟨h1,f1⟩:=kZ h hc.1 hc.2
   obtain⟨g2,h2,f2⟩:=dN s p n (off+1) _ _ h1
   exact⟨g2,h2,f1.trans f2⟩
  | false=>exact dN s p n (off+1) st g h
theorem Kb (bu:ct P call) (h:Good P N st a hv w g) {T:TypeId} {addr:Operand} (aM:o.op= .load T addr) (br:ey N o) (gi:∀i,o.dst=some i→i<N) (hk:j7 P call N o st K=some r) (ag:fB P N hv w g K r next):o.wp P a w next Q:=by
 simp only[j7,aM]at hk
 split at hk
 ·rename_i s p off hp
  obtain⟨g1,h1,f1⟩:=dN s p (ae P deep T).length off st g h
  exact l9 bu h1 br hk (o9 h1 gi fun aZ a' w' g' hg hf hk=>ag aZ a' w' g' hg (f1.trans hf) hk)
 ·cases hk
theorem uS {s:Nat} {p q:List Nat} {v:AV} (h:v.ar s p=false):v.ar s (p++q)=false:=by
 have one:∀u z,(Nat.beq s u&&pre p z)=false→(Nat.beq s u&&pre (p++q) z)=false:=by
  intro u z h
  simp only[Bool.and_eq_false_iff]at h ⊢
  rcases h with h | h
  ·exact .inl h
  ·exact .inr (mf h)
 cases v with
 | al u z=>exact one u z h
 | ptr u z off=>exact one u z h
 | el u z j off=>exact one u z h
 | lE T cs=>
  simp only[AV.ar,List.any_eq_false]at h ⊢
  intro c hc
  have:=h c hc
  cases c with
  | pv t x=>simp[ek.ar]
  | nil E=>simp[ek.ar]
  | al u z=>simp only[ek.ar,Bool.not_eq_true]at this ⊢;exact one u z this
 | _=>rfl
theorem iW {s:Nat} {p:List Nat} {E:TypeId}:∀(er:List ek) (off:Nat) (st aZ:St) (g:G) (cs:List AO),Good P N st a hv w g→iI s p off er st=some aZ→obj st s p= .box E cs→
  (∀(k r:Nat) (q:List Nat),er[k]? =some (.al r q)→cs[off+k]? =some .dead)→
  (∀(k r:Nat) (q:List Nat),er[k]? =some (.al r q)→r≠s→∀b vs T,g.val s p= .pointer (some ⟨b,0,none⟩)→w.heap[b]? =some (.cells ⟨vs⟩ T (0,0))→obj st r q≠ .dead→vs[off+k]? =some (g.val r q))→
  (∀t k,off≤k→k<off+er.length→(get st t).ar s (p++[k])=false)→∃g',Good P N aZ a hv w g'∧Fr w g w g'
 | [],off,st,aZ,g,cs,h,hf,_,_,_,_=>by
  simp[iI]at hf;subst hf
  exact⟨g,h,Fr.refl w g h.inv.fresh⟩
 | .pv t x::r,off,st,aZ,g,cs,h,hf,bq,hd,bh,hr=>by
  simp only[iI]at hf
  exact iW r (off+1) st aZ g cs h hf bq (fun k r' q hk=>by
   have:=hd (k+1) r' q (by simpa using hk)
   rw[show off+1+k=off+(k+1)by omega];exact this) (fun k r' q hk dc b vs T hb hh hl=>by
   have:=bh (k+1) r' q (by simpa using hk) dc b vs T hb hh hl
   rw[show off+1+k=off+(k+1)by omega];exact this) (fun t k hk kK=>hr t k (by omega) (by simp;omega))
 | .nil E'::r,off,st,aZ,g,cs,h,hf,bq,hd,bh,hr=>by
  simp only[iI]at hf
  exact iW r (off+1) st aZ g cs h hf bq (fun k r' q hk=>by
   have:=hd (k+1) r' q (by simpa using hk)
   rw[show off+1+k=off+(k+1)by omega];exact this) (fun k r' q hk dc b vs T hb hh hl=>by
   have:=bh (k+1) r' q (by simpa using hk) dc b vs T hb hh hl
   rw[show off+1+k=off+(k+1)by omega];exact this) (fun t k hk kK=>hr t k (by omega) (by simp;omega))
 | .al i (j::q)::r,off,st,aZ,g,cs,h,hf,bq,hd,bh,hr=>by simp[iI]at hf
 | .al i []::r,off,st,aZ,g,cs,h,hf,bq,hd,bh,hr=>by
  have step:∀z,get st i= .o z→z≠ .dead→i≠s→iI s p (off+1) r (dg i s p off z st)=some aZ→∃g',Good P N aZ a hv w g'∧Fr w g w g':=by
   intro z hz Bd dc hf
   have b6:=iV hz
   have Z5:obj st i []=z:=by unfold obj;rw[hz];rfl
   obtain⟨x,hx⟩:∃x,get st s= .o x:=by
    have hl:obj st s p≠ .dead:=by rw[bq];simp
    unfold obj at hl
    split at hl
    ·exact⟨_,by assumption⟩
    ·exact absurd rfl hl
   obtain⟨G1,F1⟩:=ow h (off:=off) hz Bd dc bq (by simpa using hd 0 i [] rfl) (fun b vs T hb hh=>by simpa using bh 0 i [] rfl dc b vs T hb hh (by rw[Z5];exact Bd)) (fun t=>hr t off (Nat.le_refl _) (by simp))
   obtain⟨g2,G2,F2⟩:=iW r (off+1) _ aZ _ (cs.set off z) G1 hf (Dq dc b6 bq) (fun k r' q hk=>by
    have:=hd (k+1) r' q (by simpa using hk)
    rw[List.getElem?_set,if_neg (by omega),show off+1+k=off+(k+1)by omega];exact this) (fun k r' q hk NO b vs T hb hh hl=>by
    have NJ:pre (p++[off]) p=false:=by
     cases hq:pre (p++[off]) p with
     | false=>rfl
     | true=>obtain⟨y,hy⟩:=(bX _ _).1 hq;have:=congrArg List.length hy;simp at this
    rw[G.aX _ _ _ _ _ _ (.inr NJ)]at hb
    rw[G.aX _ _ _ _ _ _ (.inl NO)]
    have jR:obj st r' q≠ .dead:=by
     intro h0
     apply hl
     by_cases xA:r'=i
     ·subst xA
      unfold obj
      rw[mV dc hx b6 bq,if_neg NO,if_pos rfl]
     ·unfold obj at h0 ⊢
      rw[mV dc hx b6 bq,if_neg NO,if_neg xA]
      cases hg:get st r' with
      | o y=>rw[hg]at h0;simpa[AV.bQ]using h0
      | _=>
       split
       ·rename_i y hy
        have:=(ub _ _ _ _ _).1 hy
        cases this
       ·rfl
    have:=bh (k+1) r' q (by simpa using hk) NO b vs T hb hh jR
    rw[show off+1+k=off+(k+1)by omega];exact this) (fun t k hk kK=>by
    rw[mV dc hx b6 bq]
    split
    ·rfl
    ·split
     ·simp only[AV.ar,cQ,decide_true,Bool.true_and]
      exact mg (by omega) []
     ·exact yO (hr t k (by omega) (by simp;omega)) (fun z=>by rw[List.append_assoc];exact mg (by omega) _))
   exact⟨g2,G2,F1.trans F2⟩
  simp only[iI]at hf
  split at hf
  ·rename_i E' D l hg
   obtain⟨hc,hf⟩:=bg hf
   simp only[Bool.not_eq_true',cQ,decide_eq_false_iff_not]at hc
   exact step _ hg (by simp) hc hf
  ·rename_i k e ks vs hg
   obtain⟨hc,hf⟩:=bg hf
   simp only[Bool.not_eq_true',cQ,decide_eq_false_iff_not]at hc
   exact step _ hg (by simp) hc hf
  ·cases hf
theorem NP (h:Good P N st a hv w g) {E:TypeId} {x:Operand} (aM:o.op= .box E x) (br:ey N o) (gi:∀i,o.dst=some i→i<N) (hk:j7 P call N o st K=some r) (ag:fB P N hv w g K r next):o.wp P a w next Q:=by
 have hx:=br x (by simp[aM,Op.operands])
 have ba:(execOp a.eval o).run P w= .ok (.value (.pointer (some ⟨w.heap.size,0,none⟩))) (w.alloc (.cells ⟨(a.eval x).cells.toList⟩ E)):=by
  simp only[execOp,aM,Sem.run_bind,Instr.box,newVar,newRow,run_newObj,Result.andThen_ok,Sem.run_pure];rfl
 simp only[j7,aM]at hk
 split at hk
 ·rename_i d i hd
  have Dx:=gi d hd
  have hi:i<N:=by simpa[bL]using hx
  have key:∀z,get st i= .o z→z≠ .dead→d≠i→(a.eval (.tmp i)).cells= #[a.eval (.tmp i)]→K (dg i d [] 0 z (put d (.o (.box E [.dead])) st))=some r→o.wp P a w next Q:=by
   intro z hz Bd dc jN hk
   have uI:a.eval (.tmp i)=g.val i []:=by
    have:=h.cb hi hz
    cases this with
    | o _ _ eD _=>exact eD Bd
   rw[jN]at ba
   obtain⟨G1,F1⟩:=Bg h Dx (ob:= .cells ⟨[a.eval (.tmp i)]⟩ E) (w0:=w) rfl rfl rfl rfl (x:= .box E [.dead]) (v:= .pointer (some ⟨w.heap.size,0,none⟩)) (by
    refine .box [] E [.dead] w.heap.size [a.eval (.tmp i)] (by simp[G.newAt,G.bP]) (heap_alloc_new w _) (by simp[G.newAt]) rfl (fun k y hy=> ?_) (fun k y hy hd=> ?_)
    ·cases k with
     | zero=>simp at hy;subst hy;exact .dead _
     | succ k=>simp at hy
    ·cases k with
     | zero=>simp at hy;exact absurd hy.symm hd
     | succ k=>simp at hy)
   have hlen:=h.len
   have AH:get (put d (.o (.box E [.dead])) st) i= .o z:=by
    rw[cX,if_neg (fun hh=>dc hh.1.symm),hz];rfl
   have nR:obj (put d (.o (.box E [.dead])) st) d []= .box E [.dead]:=by
    have b6:d<st.length:=Nat.lt_of_lt_of_le Dx (by rw[hlen];exact Nat.le_add_right _ _)
    unfold obj;rw[cX,if_pos ⟨rfl,b6⟩];rfl
   obtain⟨G2,F2⟩:=ow G1 (i:=i) (s:=d) (off:=0) (p:=[]) AH Bd (Ne.symm dc) nR rfl (fun b vs T hb hh=>by
     have rN:b=w.heap.size:=by
      simp[G.newAt,G.bP]at hb;exact hb.symm
     subst rN
     have wY:=heap_alloc_new w (.cells ⟨[a.eval (.tmp i)]⟩ E)
     rw[wY]at hh
     cases hh
     simp[G.newAt,G.bP,dc,uI]) (fun t=>by
     rw[cX]
     split
     ·rfl
     ·cases hr:(get st t).ar d []with
      | true=>rfl
      | false=>simpa using uS (q:=[0]) hr)
   unfold Oper.wp
   rw[ba]
   show next (a.put o.dst _) _
   rw[hd]
   exact ag _ _ _ _ G2 (F1.trans F2) hk
  split at hk
  ·rename_i T er hg
   obtain⟨hc,hk⟩:=bg hk
   simp only[Bool.and_eq_true,Bool.not_eq_true',cQ,decide_eq_false_iff_not,decide_eq_true_eq]at hc
   obtain⟨hTE,UO,jW,hA⟩:=hc
   split at hk
   ·rename_i OY NQ
    have hs:=h.cb hi hg
    generalize dV:a.eval (.tmp i)=u at hs ba
    cases hs with
    | lE _ _ vs hl h3 h4 _ h1 h2=>
     have ba:(execOp a.eval o).run P w= .ok (.value (.pointer (some ⟨w.heap.size,0,none⟩))) (w.alloc (.cells ⟨vs⟩ E)):=by simpa[Value.cells]using ba
     have hlen:=h.len
     have b6:d<st.length:=Nat.lt_of_lt_of_le Dx (by rw[hlen];exact Nat.le_add_right _ _)
     have Ym:∀q,(g.newAt w.heap.size (some d) (iP w.heap.size vs)).val d q=iP w.heap.size vs q:=fun q=>by simp[G.newAt,G.bP]
     have Bi:∀(k:Nat) (y:AO) (v:Value),(er.map ji)[k]? =some y→vs[k]? =some v→mR P w g y v:=by
      intro k y v hy hv
      rw[List.getElem?_map]at hy
      cases hc:er[k]? with
      | none=>rw[hc]at hy;cases hy
      | some c=>
       rw[hc]at hy
       cases c with
       | pv t x=>simp[ji]at hy;subst hy;exact .inr (.inl ⟨t,x,rfl,h1 k t x v hc hv⟩)
       | al r q=>simp[ji]at hy;subst hy;exact .inl rfl
       | nil E'=>simp[ji]at hy;subst hy;exact sU (h4 k E' v hc hv)
     have UP:=yG (P:=P) (E:=E) (xs:=er.map ji) (vs:=vs) (by simpa using hl) Bi d
     have hq:uB w g (w.alloc (.cells ⟨vs⟩ E)) (g.newAt w.heap.size (some d) (iP w.heap.size vs)) (some d):=by
      refine⟨rfl,rfl,rfl,by simp,fun b hb=>⟨by simp[G.newAt,Nat.ne_of_lt hb],heap_alloc_old w _ b hb⟩,fun s p hs=>by simp only[G.newAt,G.bP];rw[if_neg hs],fun b hb=> ?_,fun b hb=> ?_⟩
      ·simp only[G.newAt]
       split
       ·simp
       ·rw[h.inv.fresh b hb];simp
      ·simp at hb
       simp only[G.newAt]
       rw[if_neg (by omega)];exact h.inv.fresh b (by omega)
     have G1:=h.put Dx hq (.o _ (.pointer (some ⟨w.heap.size,0,none⟩)) (fun _=>by rw[Ym];rfl) UP)
     have nR:obj (put d (.o (.box E (er.map ji))) st) d []= .box E (er.map ji):=by
      unfold obj;rw[cX,if_pos ⟨rfl,b6⟩];rfl
     obtain⟨g2,G2,F2⟩:=iW er 0 _ OY _ _ G1 NQ nR (fun k r q hk=>by rw[Nat.zero_add,List.getElem?_map,hk];rfl) (fun k r q hk dc b rU T' hb hh jR=>by
      rw[Ym]at hb
      have rN:b=w.heap.size:=by simp[iP]at hb;exact hb.symm
      subst rN
      have wY:=heap_alloc_new w (.cells ⟨vs⟩ E)
      rw[wY]at hh
      have qH:vs=rU:=by
       have:=Option.some.inj hh
       injection this with e1 _ _
       injection e1
      rw[←qH,Nat.zero_add]
      have pD:k<vs.length:=by rw[hl];exact(List.getElem?_eq_some_iff.1 hk).1
      have RY:=List.getElem?_eq_getElem pD
      rw[ki _ dc]at jR
      rw[RY,h2 k r q _ hk RY jR]
      simp only[G.newAt,G.bP]
      rw[if_neg (by simpa using Ne.symm dc)]) (fun t k _ _=>by
      rw[cX]
      split
      ·rfl
      ·cases hr:(get st t).ar d []with
       | true=>rfl
       | false=>simpa using uS (q:=[k]) hr)
     unfold Oper.wp
     rw[ba]
     show next (a.put o.dst _) _
     rw[hd]
     exact ag _ _ _ g2 G2 (hq.fr.trans F2) hk
   ·cases hk
  ·rename_i E' D l Nb hg
   obtain⟨hc,jz⟩:=aH hk
   simp only[Bool.and_eq_true,Bool.not_eq_true',cQ,decide_eq_false_iff_not]at hc
   refine key _ hg (by simp) hc.1 ?_ jz
   have:=h.cb hi hg
   cases this with
   | o _ _ eD fq=>
    rw[eD (by simp)]
    cases fq with
    | og _ _ _ _ bh=>rw[bh];rfl
    | own _ _ _ _ _ b off cap vs T' bh=>rw[bh];rfl
  ·rename_i k e ks vs hg
   obtain⟨hc,jz⟩:=aH hk
   simp only[Bool.and_eq_true,Bool.not_eq_true',cQ,decide_eq_false_iff_not]at hc
   refine key _ hg (by simp) hc.1 ?_ jz
   have:=h.cb hi hg
   cases this with
   | o _ _ eD fq=>
    rw[eD (by simp)]
    cases fq with
    | map _ _ _ _ _ b es clock bh=>rw[bh];rfl
  ·rename_i E' l hg
   obtain⟨hc,jz⟩:=aH hk
   simp only[Bool.and_eq_true,Bool.not_eq_true',cQ,decide_eq_false_iff_not]at hc
   refine key _ hg (by simp) hc.1 ?_ jz
   have:=h.cb hi hg
   cases this with
   | o _ _ eD fq=>
    rw[eD (by simp)]
    cases fq with
    | jt _ _ bh=>rw[bh];rfl
    | arr _ _ _ b off cap vs f T' bh=>rw[bh];rfl
  ·rename_i E' cs hg
   obtain⟨hc,jz⟩:=aH hk
   simp only[Bool.not_eq_true',cQ,decide_eq_false_iff_not]at hc
   refine key _ hg (by simp) hc ?_ jz
   have:=h.cb hi hg
   cases this with
   | o _ _ eD fq=>
    rw[eD (by simp)]
    cases fq with
    | box _ _ _ b vs bh=>rw[bh];rfl
  ·cases hk
 ·cases hk
end
end Go.V
