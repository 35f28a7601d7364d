/- The evaluator's soundness, third part: stores, regions that draw their order, loops, codes, results; at the end: what the evaluator tells of a call, the call does, for any program, hints, base and fuel. Conditions: those that each theorem names. (Names are short so that the claim keeps to its size.) -/
import Derived.Test.YtmgjhnjiljmmkaaVB
import Derived.Scope
set_option linter.unusedSimpArgs false
set_option linter.unusedVariables false
namespace Go.V
section
variable {P:Program} {N:Nat} {st:St} {a:Act} {hv:List Value} {w w':World} {g g':G} {K:St→R} {r:List AO×List AO} {o:Oper} {next:Act→World→Prop} {Q:Exit→Act→World→Prop} {call:aw}
theorem ez {s:Nat} {p:List Nat} {y:AO} {t:Nat} (h:t≠s):get (setObj st s p y) t=get st t:=by
 unfold setObj
 split
 ·rw[bU,if_neg (fun hh=>h hh.1)]
 ·rfl
theorem pE {s:Nat} {p:List Nat} {y:AO} {t s':Nat} {p':List Nat} (h:(get st t).ar s' p'=false):(get (setObj st s p y) t).ar s' p'=false:=by
 unfold setObj
 split
 ·rw[bU]
  split
  ·rfl
  ·exact h
 ·exact h
theorem nB {s:Nat} {p:List Nat} {y:AO} (h0:(∃E cs,obj st s p= .box E cs)∨(obj st s p≠ .dead∧∀E l,obj st s p≠ .arr E l)):obj (setObj st s p y) s p=y:=by
 have h:obj st s p≠ .dead:=by
  rcases h0 with ⟨E,cs,h0⟩ | h0
  ·rw[h0];simp
  ·exact h0.1
 have ha:∀E l,obj st s p≠ .arr E l:=by
  rcases h0 with ⟨E,cs,h0⟩ | h0
  ·rw[h0];simp
  ·exact h0.2
 have ko:∃x,get st s= .o x:=by
  unfold obj at h
  split at h
  ·exact⟨_,by assumption⟩
  ·exact absurd rfl h
 obtain⟨x,hx⟩:=ko
 have kW:=iV hx
 have qO:x.at p=obj st s p:=by unfold obj;rw[hx]
 have jw:setObj st s p y=st.set s (.o (AO.fh y x p)):=by unfold setObj;rw[hx]
 rw[jw]
 unfold obj
 rw[bU,if_pos ⟨rfl,kW⟩]
 have:=kM y p x [] (by rw[qO];exact ha) (by rw[qO];exact h)
 simpa[AO.at]using this
theorem gB (h:Good P N st a hv w g) {T:TypeId} {addr x:Operand} (aM:o.op= .store T addr x) (br:ey N o) (hd:o.dst=none) {s:Nat} {p:List Nat} {off:Nat} (hp:de st addr=some (s,p,off)) {E:TypeId} {cs:List AO} (bq:obj st s p= .box E cs)
  (eC:P.cellsOf T=1) (b6:off<cs.length) {i:Nat} {z:AO} (hz:get st i= .o z) (Bd:z≠ .dead) (dc:s≠i) (dV:a.eval x=g.val i []) (jQ:(a.eval x).cells= #[a.eval x]∧(a.eval x).oneCell'=true)
  (hk:K (dg i s p off z (setObj (bc s p off 1 st) s p (.box E (dh cs off [.dead]))))=some r) (ag:fB P N hv w g K r next):o.wp P a w next Q:=by
 obtain⟨b,vs,QN,qH,hh,ht,hl,hc,nQ⟩:=ee h (br addr (by simp[aM,Op.operands])) hp bq
 obtain⟨k1,k2,k3,_,k5⟩:=iU s p 1 off st h
 obtain⟨g1,f1⟩:=ou k1 (s:=s) (p:=p) (E:=E) (cs:=cs) (by rw[k2];exact bq) (off:=off) qH hh ht hl hc nQ (ys:=[.dead]) (bw:=[a.eval x]) rfl (by simp;omega)
  (fun k y v hy hv=>by
   cases k with
   | zero=>simp at hy;subst hy;exact .inl rfl
   | succ k=>simp at hy) (fun t k sW kK=>k3 t k sW (by simpa using kK))
 have ba:=iT aM QN (iS (P:=P) (T:=T) (w:=w) (b:=b) (off:=off) (v:=a.eval x) (vs:=vs) (E:=E) (by rw[jQ.1,eC];rfl) (.inl (by omega)) hh (by rw[jQ.1];simp;omega) (fun u hu=>by rw[jQ.1]at hu;simp at hu;rw[hu];exact jQ.2))
 rw[jQ.1]at ba
 have SL:(∃E cs,obj (bc s p off 1 st) s p= .box E cs)∨(obj (bc s p off 1 st) s p≠ .dead∧∀E l,obj (bc s p off 1 st) s p≠ .arr E l):= .inl ⟨E,cs,by rw[k2];exact bq⟩
 have jN:(dh cs off [.dead])[off]? =some .dead:=by
  simp only[dh,List.getElem?_set,b6];simp
 obtain⟨G2,F2⟩:=ow g1 (i:=i) (s:=s) (off:=off) (p:=p) (z:=z) (E:=E) (cs:=dh cs off [.dead]) (by rw[ez (Ne.symm dc)];exact(k5 i z).2 hz) Bd (Ne.symm dc) (nB SL) jN (fun b' rU T' hb Nb=>by
   rw[G.eM _ _ _ _ _ _ _ (fun _ k hk=>by simp at hk),qH]at hb
   have rN:b=b':=by simpa using hb
   subst rN
   rw[setRow_heap w b ⟨vs⟩ _ E (0,0) hh]at Nb
   have:=Option.some.inj Nb
   have nz:(vs.take off++[a.eval x]++vs.drop (off+[a.eval x].length))=rU:=by injection this with h1 _ _;injection h1
   rw[←nz,G.eM _ _ _ _ _ _ _ (fun hs=>absurd hs (Ne.symm dc)), ←dV]
   rw[List.append_assoc,List.getElem?_append_right (by simp;omega)]
   have e:off- (vs.take off).length=0:=by simp;omega
   rw[e];rfl) (fun t=>pE (k3 t off (Nat.le_refl _) (by omega)))
 unfold Oper.wp
 rw[ba]
 show next (a.put o.dst undef) _
 rw[me _ hd]
 exact ag _ _ _ _ G2 (f1.trans F2) hk
theorem kF {s:Nat} {x:AO} (h:bY P w g s [] x) (hx:x≠ .dead∧∀t v,x≠ .pv t v):(g.val s []).cells= #[g.val s []]∧(g.val s []).oneCell'=true:=by
 cases h with
 | box _ _ _ b vs bh=>rw[bh];exact⟨rfl,rfl⟩
 | jt _ _ bh=>rw[bh];exact⟨rfl,rfl⟩
 | arr _ _ _ b off cap vs f T' bh=>rw[bh];exact⟨rfl,rfl⟩
 | og _ _ _ _ bh=>rw[bh];exact⟨rfl,rfl⟩
 | own _ _ _ _ _ b off cap vs T' bh=>rw[bh];exact⟨rfl,rfl⟩
 | map _ _ _ _ _ b es clock bh=>rw[bh];exact⟨rfl,rfl⟩
 | pv _ t v=>exact absurd rfl (hx.2 t v)
 | dead=>exact absurd rfl hx.1
theorem yQ (h:Good P N st a hv w g) {T:TypeId} {addr x:Operand} (aM:o.op= .store T addr x) (br:ey N o) (hd:o.dst=none) {s:Nat} {p:List Nat} {off:Nat} (hp:de st addr=some (s,p,off)) {E:TypeId} {cs:List AO} (bq:obj st s p= .box E cs)
  {T':TypeId} {er:List ek} (hr:nY st x=some (T',er)) (hx:bL N x=true) (eC:P.cellsOf T=er.length) (wS:0<P.cellsOf T) (hle:off+er.length≤cs.length) {OY:St}
  (hf:iI s p off er (setObj (bc s p off er.length st) s p (.box E (dh cs off (er.map ji))))=some OY) (hk:K OY=some r) (ag:fB P N hv w g K r next):o.wp P a w next Q:=by
 obtain⟨b,vs,QN,qH,hh,ht,hl,hc,nQ⟩:=ee h (br addr (by simp[aM,Op.operands])) hp bq
 obtain⟨k1,k2,k3,_,k5⟩:=iU s p er.length off st h
 have eL:∃us,a.eval x= .agg ⟨us⟩∧us.length=er.length∧(∀u∈us,u.oneCell'=true)∧(∀(i:Nat) (t:Ty) (y:PV) (u:Value),er[i]? =some (.pv t y)→us[i]? =some u→aV P w g t y u)∧
   (∀(i r:Nat) (q:List Nat) (u:Value),er[i]? =some (.al r q)→us[i]? =some u→obj st r q≠ .dead→u=g.val r q)∧
   (∀(i:Nat) (E:TypeId) (v:Value),er[i]? =some (.nil E)→us[i]? =some v→v= .slice none 0 0):=by
  cases x with
  | tmp t=>
   simp only[nY]at hr
   split at hr
   ·rename_i T0 OZ hg
    cases hr
    have hs:=h.cb (by simpa[bL]using hx) hg
    generalize a.eval (.tmp t)=u at hs
    cases hs with
    | lE _ _ us hl h3 h4 _ h1 h2=>exact⟨us,rfl,hl,h3,h1,h2,h4⟩
   ·cases hr
  | _=>simp[nY]at hr
 obtain⟨us,dV,Yn,h3,h1,h2,h4⟩:=eL
 have Kc:(a.eval x).cells.toList=us:=by rw[dV];rfl
 have O0:(a.eval x).cells.size=us.length:=by rw[dV];rfl
 obtain⟨G1,f1⟩:=ou k1 (s:=s) (p:=p) (E:=E) (cs:=cs) (by rw[k2];exact bq) (off:=off) qH hh ht hl hc nQ (ys:=er.map ji) (bw:=us) (by simp[Yn]) (by omega)
  (fun k y v hy hv=>by
   rw[List.getElem?_map]at hy
   cases R0:er[k]? with
   | none=>rw[R0]at hy;cases hy
   | some c=>
    rw[R0]at hy
    cases c with
    | pv t z=>simp[ji]at hy;subst hy;exact .inr (.inl ⟨t,z,rfl,h1 k t z v R0 hv⟩)
    | nil E'=>simp[ji]at hy;subst hy;exact sU (h4 k E' v R0 hv)
    | al r q=>simp[ji]at hy;subst hy;exact .inl rfl) (fun t k sW kK=>k3 t k sW (by omega))
 have ba:=iT aM QN (iS (P:=P) (T:=T) (w:=w) (b:=b) (off:=off) (v:=a.eval x) (vs:=vs) (E:=E) (by rw[O0,Yn,eC]) (.inl (by omega)) hh (by rw[O0];omega) (by rw[Kc];exact h3))
 rw[Kc]at ba
 have SL:obj (bc s p off er.length st) s p≠ .dead:=by rw[k2,bq];simp
 obtain⟨sl,sg⟩:=p7 (er.map ji) cs off
 obtain⟨g2,G2,F2⟩:=iW er off _ OY _ (dh cs off (er.map ji)) G1 hf (nB (.inl ⟨E,cs,by rw[k2];exact bq⟩)) (fun k r q hk=>by
  have pD:=(List.getElem?_eq_some_iff.1 hk).1
  rw[sg,List.length_map,if_pos ⟨by omega,by omega,by omega⟩,Nat.add_sub_cancel_left,List.getElem?_map,hk];rfl) (fun k r q hk dc b' rU T' hb Nb jR=>by
  rw[G.eM _ _ _ _ _ _ _ (fun _ k hk=>by simp at hk),qH]at hb
  have rN:b=b':=by simpa using hb
  subst rN
  rw[setRow_heap w b ⟨vs⟩ _ E (0,0) hh]at Nb
  have nz:(vs.take off++us++vs.drop (off+us.length))=rU:=by
   have:=Option.some.inj Nb
   injection this with e1 _ _
   injection e1
  have pD:=(List.getElem?_eq_some_iff.1 hk).1
  have R1:obj st r q≠ .dead:=by
   intro h0
   apply jR
   have:obj (setObj (bc s p off er.length st) s p (.box E (dh cs off (er.map ji)))) r q=obj (bc s p off er.length st) r q:=by
    unfold obj;rw[ez dc]
   rw[this,k2];exact h0
  have Yo:=List.getElem?_eq_getElem (show k<us.length by omega)
  rw[←nz,G.eM _ _ _ _ _ _ _ (fun hs=>absurd hs dc),List.append_assoc,List.getElem?_append_right (by simp;omega)]
  have e:off+k- (vs.take off).length=k:=by simp;omega
  rw[e,List.getElem?_append_left (by omega),Yo,h2 k r q _ hk Yo R1]) (fun t k sW kK=>pE (k3 t k sW kK))
 unfold Oper.wp
 rw[ba]
 show next (a.put o.dst undef) _
 rw[me _ hd]
 exact ag _ _ _ g2 G2 (f1.trans F2) hk
theorem yR (h:Good P N st a hv w g) {x:Operand} (hx:bL N x=true) {i:Nat} {F:TypeId} {l:List PV} (ho:jr st x=some (i,F,l)):get st i= .o (.arr F l)∧a.eval x=g.val i []:=by
 cases x with
 | tmp t=>
  simp only[jr]at ho
  have ht:t<N:=by simpa[bL]using hx
  split at ho
  ·rename_i E l0 hg
   cases ho
   have hs:=h.cb ht hg
   cases hs with
   | o _ _ eD _=>exact⟨hg,eD (by simp)⟩
  ·rename_i s hg
   split at ho
   ·rename_i E l0 Ni
    cases ho
    have hs:=h.cb ht hg
    cases hs with
    | al _ _ _ eD=>exact⟨Ni,eD (by unfold obj;rw[Ni];simp[AO.at])⟩
   ·cases ho
  ·cases ho
 | _=>simp[jr]at ho
theorem yS (h:Good P N st a hv w g) {E:TypeId} {x:Operand} {t0:Nat} (aM:o.op= .store E (.tmp t0) x) (br:ey N o) (hd:o.dst=none) {s:Nat} {p:List Nat} {j:Nat} (hg:get st t0= .el s p j 0) {D:TypeId} {l:List PV} {hh:Option Nat} (bq:obj st s p= .own E D l hh)
  (hx:bL N x=true) {i:Nat} {l':List PV} (UQ:jr st x=some (i,D,l')) (dc:i≠s) (SM:hh=none∨hh=some j)
  (hk:K (jq i s p j l' (kill s (p++[j]) st))=some r) (ag:fB P N hv w g K r next):o.wp P a w next Q:=by
 have Z6:t0<N:=by have:=br (.tmp t0) (by simp[aM,Op.operands]);simpa[bL]using this
 obtain⟨b,q,cap,vs,T',hj,dV,qH,uF,ht,hl,cU,h1,iK,kW,hc,fQ⟩:=uE h Z6 hg bq
 obtain⟨AH,uI⟩:=yR h hx UQ
 have Yp:=h.owner AH
 have jQ:=kF Yp (by simp)
 rw[←uI]at jQ
 have ba:=iT aM (by simpa[h1]using dV) (iS (P:=P) (T:=E) (w:=w) (b:=b) (off:=q+j) (v:=a.eval x) (vs:=vs) (E:=T') (by rw[jQ.1,h1];rfl) (.inl (by omega)) uF (by rw[jQ.1];simp;rw[h1]at cU;omega) (fun u hu=>by rw[jQ.1]at hu;simp at hu;rw[hu];exact jQ.2))
 rw[jQ.1]at ba
 have b6:q+j<vs.length:=by rw[h1]at cU;omega
 generalize tN:(vs.take (q+j)++[a.eval x]++vs.drop (q+j+[a.eval x].length))=row at ba
 have SN:∀k,row[k]? =if k=q+j then some (a.eval x)else vs[k]? :=by
  intro k
  rw[←tN]
  by_cases h1:k<q+j
  ·rw[List.append_assoc,List.getElem?_append_left (by simp;omega),List.getElem?_take,if_pos h1,if_neg (by omega)]
  ·rw[List.append_assoc,List.getElem?_append_right (by simp;omega)]
   have e:k- (vs.take (q+j)).length=k- (q+j):=by simp;omega
   rw[e]
   by_cases h2:k=q+j
   ·subst h2;rw[if_pos rfl,Nat.sub_self];rfl
   ·rw[if_neg h2,List.getElem?_append_right (by simp;omega),List.getElem?_drop]
    congr 1;simp;omega
 have SO:row.length=vs.length:=by rw[←tN];simp;omega
 have xt:=h.kill s (p++[j])
 have eC:=size_setRow w b row.toArray
 have R2:∀c,g.tag c≠ .own s p→c≠b:=by rintro c hc rfl;exact hc ht
 have gh:∀c,c<w.heap.size→g.tag c= .free→(g.move i s (p++[j])).tag c= .free∧(w.setRow b row.toArray).heap[c]? =w.heap[c]? :=fun c _ hc=>
  ⟨G.kE hc,bj w b c _ (R2 c (by rw[hc];simp))⟩
 have fT:∀c,(w.setRow b row.toArray).heap.size≤c→(g.move i s (p++[j])).tag c= .free:=fun c hc=>G.kE (h.inv.fresh c (by omega))
 obtain⟨X,hX⟩:∃X,get st s= .o X:=by
  have hl:obj st s p≠ .dead:=by rw[bq];simp
  unfold obj at hl
  split at hl
  ·exact⟨_,by assumption⟩
  ·exact absurd rfl hl
 have V2:X.at p= .own E D l hh:=by have:=bq;unfold obj at this;rw[hX]at this;exact this
 have Nj:get (kill s (p++[j]) st) s= .o X:=(gN _ _ st s X).1 hX
 have UR:get (kill s (p++[j]) st) i= .o (.arr D l'):=(gN _ _ st i _).1 AH
 have V3:obj (kill s (p++[j]) st) s p= .own E D l hh:=by rw[fX];exact bq
 have FB:=iV UR
 have V4:=iV Nj
 have QF:get (cJ i s (p++[j]) (kill s (p++[j]) st)) s= .o X:=by
  rw[cL,if_neg (fun hh=>dc hh.1.symm),Nj];rfl
 have Dp:jq i s p j l' (kill s (p++[j]) st)=(cJ i s (p++[j]) (kill s (p++[j]) st)).set s (.o (AO.fh (.own E D (l.set j (.sl l')) none) X p)):=by
  unfold jq;rw[V3];unfold setObj;rw[QF]
 have tJ:∀t,get (jq i s p j l' (kill s (p++[j]) st)) t=if t=s then .o (AO.fh (.own E D (l.set j (.sl l')) none) X p)else if t=i then .al s (p++[j])else(get (kill s (p++[j]) st) t).bQ i [] s (p++[j]):=by
  intro t
  rw[Dp,bU,dK,cL]
  by_cases h1:t=s
  ·rw[if_pos ⟨h1,V4⟩,if_pos h1]
  ·rw[if_neg (fun hh=>h1 hh.1),if_neg h1]
   by_cases h2:t=i
   ·rw[if_pos ⟨h2,FB⟩,if_pos h2]
   ·rw[if_neg (fun hh=>h2 hh.1),if_neg h2]
 have fA:X.at p≠ .dead:=by rw[V2];simp
 have US:∀E l,X.at p≠ .arr E l:=by rw[V2];simp
 have Be:∀z,(AO.fh (.own E D (l.set j (.sl l')) none) X p).at (p++z)=(AO.own E D (l.set j (.sl l')) none).at z:=fun z=>kM _ p X z US fA
 have FC:∀z,obj (jq i s p j l' (kill s (p++[j]) st)) s z=(AO.fh (.own E D (l.set j (.sl l')) none) X p).at z:=by intro z;unfold obj;rw[tJ,if_pos rfl]
 have J8:∀t z,t≠s→t≠i→obj (jq i s p j l' (kill s (p++[j]) st)) t z=obj st t z:=by
  intro t z h1 h2
  refine ju (fun y=> ?_) z
  rw[tJ,if_neg h1,if_neg h2,ub, ←gN]
 have NJ:pre (p++[j]) p=false:=by
  cases hq:pre (p++[j]) p with
  | false=>rfl
  | true=>obtain⟨y,hy⟩:=(bX _ _).1 hq;have:=congrArg List.length hy;simp at this
 have J4:pre p p=true:=(bX p p).2 ⟨[],by simp⟩
 have SP:∀k,k≠j→isHole hh k=false:=by
  intro k hk
  rcases SM with rfl | rfl
  ·rfl
  ·simp[isHole,cQ];exact Ne.symm hk
 have yM:∀k,(nth default (l.set j (PV.sl l')) k).toList=if k=j then l' else(nth default l k).toList:=by
  intro k
  rw[kj]
  by_cases CZ:k=j
  ·subst CZ;rw[if_pos ⟨rfl,hj⟩,if_pos rfl];rfl
  ·rw[if_neg (fun hh=>CZ hh.1),if_neg CZ]
 have wY:bY P (w.setRow b row.toArray) (g.move i s (p++[j])) s p (.own E D (l.set j (.sl l')) none):=by
  refine .own p E D _ none b q cap row T' (by rw[G.aX _ _ _ _ _ _ (.inr NJ),List.length_set];exact qH) (setRow_heap w b ⟨vs⟩ _ T' (0,0) uF) (G.ft ht (fun hh=>dc hh.symm)) (by simpa using hl) (by rw[SO];exact cU) h1 iK (fun k y hy=> ?_) (fun k hk _=> ?_) (fun k _=> ?_)
  ·rw[List.getElem?_set]at hy
   split at hy
   ·rename_i Z7
    subst Z7
    have:PV.sl l'=y:=by simpa[hj]using hy
    rw[←this];rfl
   ·exact kW k y hy
  ·rw[List.length_set]at hk
   rw[SN]
   by_cases CZ:k=j
   ·subst CZ
    rw[if_pos rfl]
    have:=G.fC g i s (p++[k]) []
    rw[List.append_nil]at this
    rw[this,uI]
   ·rw[if_neg (by omega),hc k hk (SP k CZ),G.aX _ _ _ _ _ _ (.inr (by simpa using mg (Ne.symm CZ) []))]
  ·rw[yM]
   by_cases CZ:k=j
   ·subst CZ
    rw[if_pos rfl]
    refine Yp.ext (by omega) gh (fun z=>by rw[List.nil_append];exact G.fC _ _ _ _ _) (fun c z jW dJ=>⟨G.uP (by simpa using dJ),bj w b c _ (R2 c ?_)⟩)
    rw[dJ];simp;intro h;exact absurd h dc
   ·rw[if_neg CZ]
    refine(fQ k (SP k CZ)).ext (by omega) gh (fun z=>G.aX _ _ _ _ _ _ (.inr ?_)) (fun c z jW dJ=>⟨G.ft dJ (fun hh=>dc hh.symm),bj w b c _ (R2 c ?_)⟩)
    ·rw[List.append_assoc];exact mg (Ne.symm CZ) _
    ·rw[dJ]
     intro he
     injection he with _ h2
     have:=congrArg List.length h2
     simp at this
 unfold Oper.wp
 rw[ba]
 show next (a.put o.dst undef) _
 rw[me _ hd]
 refine ag _ _ _ (g.move i s (p++[j])) (xt.mk' (by rw[Dp,List.length_set,dK]) fT (h.inv.vars.db (by omega) gh) (fun t u VW hu=> ?_)) ?_ hk
 ·have kD:=xt.jy VW hu
  rw[tJ]
  by_cases lJ:t=s
  ·subst lJ
   rw[if_pos rfl]
   rw[Nj]at kD
   cases kD with
   | o _ _ eD fq=>
    have RZ:X≠ .dead:=by rintro rfl;exact fA (iQ p)
    refine .o _ u (fun _=> ?_) (fq.fh (by omega) gh p [] X (by rw[List.nil_append];exact wY) (fun z hz=>G.aX _ _ _ _ _ _ (.inr (mf (by simpa using hz)))) (fun c z jW dJ hz=>⟨G.ft dJ (fun hh=>dc hh.symm),bj w b c _ (R2 c ?_)⟩) (fun _=>⟨fA, ?_⟩) (fun _=>yN US fA))
    ·rw[eD RZ]
     refine(G.aX _ _ _ _ _ _ (.inr ?_)).symm
     cases p<;>rfl
    ·rw[dJ]
     intro he
     injection he with _ h2
     subst h2
     rw[List.nil_append,J4]at hz;cases hz
    ·rw[List.nil_append];exact G.aX _ _ _ _ _ _ (.inr NJ)
  ·rw[if_neg lJ]
   by_cases AE:t=i
   ·subst AE
    rw[if_pos rfl]
    rw[UR]at kD
    cases kD with
    | o _ _ eD _=>
     refine .al s _ u (fun _=> ?_)
     have:=G.fC g t s (p++[j]) []
     rw[List.append_nil]at this
     rw[this,eD (by simp)]
   ·rw[if_neg AE]
    by_cases A9:∃y,get (kill s (p++[j]) st) t= .o y
    ·obtain⟨y,hy⟩:=A9
     rw[hy]at kD ⊢
     simp only[AV.bQ]
     cases kD with
     | o _ _ eD fq=>
      exact .o y u (fun hd=>by rw[eD hd,G.aX _ _ _ _ _ _ (.inl lJ)]) (fq.ext (by omega) gh (fun z=>by simpa using G.aX g i s (p++[j]) t z (.inl lJ)) (fun c z jW dJ=>⟨by simpa using G.ft (d:=s) (q:=p++[j]) (by simpa using dJ) AE,bj w b c _ (R2 c (by rw[dJ];intro he;injection he with h1 _;exact lJ h1))⟩))
    ·refine kD.p8 (fun y hy=>A9 ⟨y,hy⟩) (by omega) gh (fun z=> ?_) (fun s' p' J7 AF=> ?_)
     ·rw[FC,List.append_assoc,Be,fX]
      have e1:obj st i z=(AO.arr D l').at z:=by unfold obj;rw[AH]
      have e2:(AO.own E D (l.set j (.sl l')) none).at ([j]++z)=(AO.arr D l').at z:=by
       simp only[List.singleton_append,AO.at,isHole,cond_false,yM,if_true]
      rw[e1,e2]
      refine⟨Compat.refl _, ?_⟩
      have:=G.fC g i s (p++[j]) z
      rw[List.append_assoc]at this;exact this
     ·by_cases AG:s'=s
      ·subst AG
       rw[FC,fX]
       have QG:obj st s' p'=X.at p':=by unfold obj;rw[hX]
       rw[QG]
       cases QO:pre p p' with
       | false=>exact .inr ⟨jx _ p X p' QO,G.aX _ _ _ _ _ _ (.inr (mf QO))⟩
       | true=>
        obtain⟨z,rfl⟩:=(bX _ _).1 QO
        rw[Be,ma,V2]
        have Js:(get (kill s' (p++[j]) st) t).ar s' (p++[j])=false:=by
         rw[la];cases (get st t).ar s' (p++[j])<;>rfl
        have C0:=iL AF Js
        cases z with
        | nil=>
         simp only[AO.at,List.append_nil]
         exact .inr ⟨⟨fun _=>by simp,fun _ _ he=>by simp at he,fun E' m he=>by simpa[AO.iF]using he⟩,G.aX _ _ _ _ _ _ (.inr NJ)⟩
        | cons k z=>
         have CZ:k≠j:=by
          rintro rfl
          have xz:pre (p++[k]) (p++k::z)=true:=(bX _ _).2 ⟨z,by simp⟩
          simp[xz]at C0
         simp only[AO.at,SP k CZ]
         have e0:isHole none k=false:=rfl
         rw[e0]
         simp only[cond_false,yM,if_neg CZ]
         exact .inr ⟨Compat.refl _,G.aX _ _ _ _ _ _ (.inr (mg (Ne.symm CZ) z))⟩
      ·rw[J8 s' p' AG J7,fX]
       exact .inr ⟨Compat.refl _,G.aX _ _ _ _ _ _ (.inl AG)⟩
 ·refine⟨rfl,rfl,rfl,by omega,gh,fun c _ dJ=>⟨G.uO dJ,bj w b c _ (R2 c (by rw[dJ];simp))⟩,fun c dJ=> ?_,fT⟩
  have mT:=G.p9 dJ
  refine⟨mT, ?_⟩
  rcases Nat.lt_or_ge c w.heap.size with h' | h'
  ·exact h'
  ·rw[h.inv.fresh c h']at mT;cases mT
theorem Hw (h:Good P N st a hv w g) {T:TypeId} {addr x:Operand} (aM:o.op= .store T addr x) (br:ey N o) (hk:j7 P call N o st K=some r) (ag:fB P N hv w g K r next):o.wp P a w next Q:=by
 have hx:bL N x=true:=br x (by simp[aM,Op.operands])
 simp only[j7,aM]at hk
 split at hk
 ·cases hk
 ·rename_i hd
  split at hk
  ·rename_i s p off hp
   split at hk
   ·rename_i E cs bq
    cases hA:aO (ai P T)with
    | true=>
     simp only[hA,cond_true]at hk
     split at hk
     ·rename_i T' er hr
      obtain⟨hc,hk⟩:=bg hk
      simp only[Bool.and_eq_true]at hc
      obtain⟨_,e1,_,e3,e4⟩:=hc
      split at hk
      ·rename_i OY hf
       exact yQ h aM br hd hp bq hr hx (Nat.eq_of_beq_eq_true e1) (of_decide_eq_true e3) (of_decide_eq_true e4) hf hk ag
      ·cases hk
     split at hk
     ·rename_i v bh
      obtain⟨hc,jz⟩:=aH hk
      simp only[Bool.and_eq_true]at hc
      have c1:=Nat.eq_of_beq_eq_true hc.1
      have c0:=of_decide_eq_true hc.2.1
      have c2:=of_decide_eq_true hc.2.2
      have fZ:=h.rd hx bh
      have UT:(aO (ai P T)|| bA (ai P T))=true:=by rw[hA];rfl
      obtain⟨e1,e2,e3⟩:=dI fZ UT
      obtain⟨p1,p2⟩:=oo (ae P deep T) 0 v
      have wJ:=dD hA
      rw[wJ]at fZ
      obtain⟨xs,vs,rfl,nz,h1,h2,h3⟩:=fZ.eu
      refine mU h aM br hd hp bq (ys:=jK (ae P deep T) 0 (.agg xs)) (by rw[e2,c1]) (.inl (by omega)) (by rw[p1,e2]) (by rw[p1];exact c2) (l6 (by rw[wJ];exact fZ) UT) (fun j y u hy hu=> ?_) (by rw[p1];exact jz) ag
      have hj:j<(ae P deep T).length:=by rw[←p1];exact(List.getElem?_eq_some_iff.1 hy).1
      have ht:=List.getElem?_eq_getElem hj
      rw[p2 j _ ht]at hy
      cases hy
      rw[nz]at hu
      refine .inr (.inl ⟨_,_,rfl,h3 j _ _ _ ht ?_ (by simpa[Value.cells]using hu)⟩)
      rw[Nat.zero_add,lY,List.getElem?_eq_getElem (by omega)];rfl
     ·cases hk
    | false=>
     simp only[hA,cond_false]at hk
     obtain⟨hc,jz⟩:=aH hk
     simp only[Bool.and_eq_true]at hc
     obtain⟨hs,Dc,yJ⟩:=hc
     have Dc:=Nat.eq_of_beq_eq_true Dc
     have yJ:=of_decide_eq_true yJ
     split at jz
     ·rename_i v
      split at jz
      ·rename_i y hy
       have Bi:mR P w g y v∧v.cells= #[v]∧v.oneCell'=true:=by
        unfold qy at hy
        split at hy
        ·rename_i E' AZ
         split at hy
         ·rename_i x' tZ
          cases hy
          obtain⟨rfl,rfl⟩:=jv tZ
          exact⟨.inr (.inr ⟨E',rfl,rfl⟩),rfl,rfl⟩
         ·cases hy
        ·split at hy
         ·rename_i x' tZ
          cases hy
          have:=jM (P:=P) (w:=w) (g:=g) tZ
          exact⟨.inr (.inl ⟨_,_,rfl,this⟩),fp hs this⟩
         ·cases hy
       obtain⟨r1,r2,r3⟩:=Bi
       refine mU h aM br hd hp bq (ys:=[y]) (by show v.cells.size=_;rw[r2,Dc];rfl) (.inl (by omega)) (by show _=v.cells.size;rw[r2];rfl) (by simp;omega) (fun u hu=> ?_) (fun j y' u rM hu=> ?_) jz ag
       ·have NH:u∈v.cells.toList:=hu
        rw[r2]at NH;simp at NH;rw[NH];exact r3
       ·have NH:v.cells.toList[j]? =some u:=hu
        rw[r2]at NH
        cases j with
        | zero=>simp at rM NH;subst rM NH;exact r1
        | succ j=>simp at rM
      ·cases jz
     ·rename_i i
      have hi:i<N:=by simpa[bL]using hx
      split at jz
      ·rename_i v bh
       have fZ:=h.gK hi bh
       obtain⟨r2,r3⟩:=fp hs fZ
       refine mU h aM br hd hp bq (ys:=[.pv (ai P T) v]) (by rw[r2,Dc];rfl) (.inl (by omega)) (by rw[r2];rfl) (by simp;omega) (fun u hu=> ?_) (fun j y' u rM hu=> ?_) jz ag
       ·rw[r2]at hu;simp at hu;rw[hu];exact r3
       ·rw[r2]at hu
        cases j with
        | zero=>simp at rM hu;subst rM hu;exact .inr (.inl ⟨_,_,rfl,fZ⟩)
        | succ j=>simp at rM
      ·split at jz
       ·rename_i E' l hg
        obtain⟨hc,kK⟩:=aH jz
        simp only[Bool.and_eq_true,Bool.not_eq_true',cQ,decide_eq_false_iff_not]at hc
        have kW:=h.cb hi hg
        cases kW with
        | o _ _ eD fq=>
         have he:=eD (by simp)
         exact gB h aM br hd hp bq Dc yJ hg (by simp) hc.1 he (by rw[he];exact kF fq (by simp)) kK ag
       ·rename_i E' D' l Nb hg
        obtain⟨hc,kK⟩:=aH jz
        simp only[Bool.and_eq_true,Bool.not_eq_true',cQ,decide_eq_false_iff_not]at hc
        have kW:=h.cb hi hg
        cases kW with
        | o _ _ eD fq=>
         have he:=eD (by simp)
         exact gB h aM br hd hp bq Dc yJ hg (by simp) hc.1 he (by rw[he];exact kF fq (by simp)) kK ag
       ·rename_i k e ks vs hg
        obtain⟨hc,kK⟩:=aH jz
        simp only[Bool.and_eq_true,Bool.not_eq_true',cQ,decide_eq_false_iff_not]at hc
        have kW:=h.cb hi hg
        cases kW with
        | o _ _ eD fq=>
         have he:=eD (by simp)
         exact gB h aM br hd hp bq Dc yJ hg (by simp) hc.1 he (by rw[he];exact kF fq (by simp)) kK ag
       ·rename_i E' mH hg
        obtain⟨hc,kK⟩:=aH jz
        simp only[Bool.not_eq_true',cQ,decide_eq_false_iff_not]at hc
        have kW:=h.cb hi hg
        cases kW with
        | o _ _ eD fq=>
         have he:=eD (by simp)
         exact gB h aM br hd hp bq Dc yJ hg (by simp) hc he (by rw[he];exact kF fq (by simp)) kK ag
       ·rename_i s' p' hg
        split at jz
        ·split at jz
         ·rename_i E' l Bj
          obtain⟨hc,kK⟩:=aH jz
          simp only[Bool.and_eq_true,Bool.not_eq_true',cQ,decide_eq_false_iff_not]at hc
          have kW:=h.cb hi hg
          cases kW with
          | al _ _ _ eD=>
           have he:=eD (by rw[Bj];simp)
           have Ni:get st s'= .o (.arr E' l):=by
            unfold obj at Bj
            split at Bj
            ·rename_i x' tZ;rw[tZ];simp only[AO.at]at Bj;rw[Bj]
            ·cases Bj
           exact gB h aM br hd hp bq Dc yJ Ni (by simp) hc.1 he (by rw[he];exact kF (h.owner Ni) (by simp)) kK ag
         ·cases jz
        ·cases jz
       ·cases jz
     ·cases jz
   ·cases hk
  ·split at hk
   ·rename_i i
    split at hk
    ·rename_i s p j off hg
     split at hk
     ·rename_i E D l Nb bq
      split at hk
      ·rename_i i2 F l' UQ
       obtain⟨J8,V5⟩:=bg UQ
       clear UQ
       simp only[Bool.and_eq_true]at J8
       have e0:=Nat.eq_of_beq_eq_true J8.1
       have e1:=Nat.eq_of_beq_eq_true J8.2
       subst e0;subst e1
       obtain⟨hc,kK⟩:=bg hk
       clear hk
       simp only[Bool.and_eq_true,Bool.not_eq_true',cQ,decide_eq_false_iff_not,decide_eq_true_eq]at hc
       obtain⟨c1,c2,c3,c4⟩:=hc
       subst c4
       exact yS h aM br hd hg bq hx V5 c1 (by cases Nb with
        | none=>exact .inl rfl
        | some j0=>simp[jo]at c2;exact .inr (by rw[c2])) kK ag
      ·cases hk
     ·rename_i E l bq
      split at hk
      case h_2=>cases hk
      rename_i v bh
      cases xx:gx st s p with
      | false=>simp[xx]at hk
      | true=>
      simp only[xx,Bool.not_true,cond_false]at hk
      cases FD:(decide (0<P.cellsOf T)&&(Nat.beq off 0&&(Nat.beq T E&&((aO (ai P T)|| bA (ai P T))&&Nat.beq (P.cellsOf T) (ae P deep T).length))))with
      | true=>
       simp only[FD,cond_true]at hk
       simp only[Bool.and_eq_true]at FD
       obtain⟨c1,c2,c3,c4,c5⟩:=FD
       exact sY h aM br hd hg bq xx bh (of_decide_eq_true c1) c4 (Nat.eq_of_beq_eq_true c5) (.inl ⟨Nat.eq_of_beq_eq_true c2,Nat.eq_of_beq_eq_true c3,rfl⟩) hk ag
      | false=>
       simp only[FD,cond_false]at hk
       obtain⟨hc,jz⟩:=aH hk
       simp only[Bool.and_eq_true]at hc
       obtain⟨c1,c2,c3,c4,c5,c6⟩:=hc
       exact sY h aM br hd hg bq xx bh (of_decide_eq_true c1) c4 (Nat.eq_of_beq_eq_true c5) (.inr ⟨c2,Nat.eq_of_beq_eq_true c3,c6,rfl⟩) jz ag
     ·cases hk
    ·cases hk
   ·cases hk
end
end Go.V
namespace Go.V
section
variable {P:Program} {N:Nat} {st aZ:St} {a:Act} {hv:List Value} {w w':World} {g g':G} {K:St→R} {r:List AO×List AO} {o:Oper} {next:Act→World→Prop} {Q:Exit→Act→World→Prop} {call:aw}
theorem pF (s:Nat) (p:List Nat) (st:St) (r:Nat):get (jk s p st) r=bif (get st r).below s p then .dead else get st r:=by
 unfold jk;rw[get_map _ (by simp[AV.below])]
theorem fE (s:Nat) (p:List Nat) (y:AO) (st:St):(setObj st s p y).length=st.length:=by
 unfold setObj;split<;>simp
theorem nC:∀(ls:List (Nat×List Nat)) (ys:List AO) (st:St),(dj ls ys st).length=st.length
 | [],_,st=>by simp[dj]
 | _::_,[],st=>by simp[dj]
 | (s,p)::ls,y::ys,st=>by
  simp only[dj]
  rw[nC ls ys]
  simp[jk,fE]
theorem uT:∀ {ls:List (Nat×List Nat)},gk ls=true→∀ {k k' s:Nat} {p p':List Nat},ls[k]? =some (s,p)→ls[k']? =some (s,p')→k=k'
 | [],_,k,k',s,p,p',h,_=>by simp at h
 | (s0,p0)::ls,ha,k,k',s,p,p',h,h'=>by
  simp only[gk,Bool.and_eq_true,List.all_eq_true,Bool.not_eq_true',cQ,decide_eq_false_iff_not]at ha
  obtain⟨h1,h2⟩:=ha
  cases k with
  | zero=>
   cases k' with
   | zero=>rfl
   | succ k'=>
    simp at h h'
    exact absurd h.1 (h1 (s,p') (List.mem_of_getElem? h'))
  | succ k=>
   cases k' with
   | zero=>
    simp at h h'
    exact absurd h'.1 (h1 (s,p) (List.mem_of_getElem? h))
   | succ k'=>
    simp at h h'
    rw[uT h2 h h']
theorem pG:∀ {ls:List (Nat×List Nat)} {back:List AO} {st:St},gk ls=true→back.length=ls.length→(∀(k s:Nat) (p:List Nat),ls[k]? =some (s,p)→∃x,get st s= .o x)→∀t,
  (∃(k:Nat) (p:List Nat) (y x:AO),ls[k]? =some (t,p)∧back[k]? =some y∧get st t= .o x∧get (dj ls back st) t= .o (AO.fh y x p))∨
  ((∀(k:Nat) (p:List Nat),ls[k]? ≠some (t,p))∧((get (dj ls back st) t=get st t∧∀(k s:Nat) (p:List Nat),ls[k]? =some (s,p)→(get st t).below s p=false)∨(get (dj ls back st) t= .dead∧∀x,get st t≠ .o x)))
 | [],back,st,_,_,_,t=> .inr ⟨fun k p h=>by simp at h, .inl ⟨by simp[dj],fun k s p h=>by simp at h⟩⟩
 | (s0,p0)::ls,[],st,_,hl,_,t=>by simp at hl
 | (s0,p0)::ls,y::ys,st,ha,hl,hx,t=>by
  have O1:=ha
  simp only[gk,Bool.and_eq_true,List.all_eq_true,Bool.not_eq_true',cQ,decide_eq_false_iff_not]at ha
  obtain⟨h1,h2⟩:=ha
  obtain⟨x0,OR⟩:=hx 0 s0 p0 rfl
  have kW:=iV OR
  have yM:setObj st s0 p0 y=st.set s0 (.o (AO.fh y x0 p0)):=by unfold setObj;rw[OR]
  have Dy:get (jk s0 p0 (setObj st s0 p0 y)) s0= .o (AO.fh y x0 p0):=by
   rw[pF,yM,bU,if_pos ⟨rfl,kW⟩];rfl
  have hg:∀r,r≠s0→get (jk s0 p0 (setObj st s0 p0 y)) r=bif (get st r).below s0 p0 then .dead else get st r:=by
   intro r hr;rw[pF,ez hr]
  have ih:=pG (ls:=ls) (back:=ys) (st:=jk s0 p0 (setObj st s0 p0 y)) h2 (by simpa using hl) (fun k s p hk=>by
   have dc:s≠s0:=fun he=>h1 (s,p) (List.mem_of_getElem? hk) he.symm
   obtain⟨x,hx⟩:=hx (k+1) s p (by simpa using hk)
   exact⟨x,by rw[hg s dc,hx];rfl⟩) t
  simp only[dj]
  by_cases lJ:t=s0
  ·subst lJ
   rcases ih with ⟨k,p,_,_,hk,_⟩ | ⟨C1,⟨ko,_⟩ | ⟨_,Kd⟩⟩
   ·exact absurd rfl (h1 (t,p) (List.mem_of_getElem? hk))
   ·exact .inl ⟨0,p0,y,x0,rfl,rfl,OR,by rw[ko,Dy]⟩
   ·exact absurd Dy (Kd _)
  ·rcases ih with ⟨k,p,y',x,hk,hy,mO,SQ⟩ | ⟨C1,qQ⟩
   ·refine .inl ⟨k+1,p,y',x,by simpa using hk,by simpa using hy, ?_,SQ⟩
    rw[hg t lJ]at mO
    cases hb:(get st t).below s0 p0 with
    | true=>rw[hb]at mO;cases mO
    | false=>rw[hb]at mO;exact mO
   ·refine .inr ⟨fun k p hk=> ?_, ?_⟩
    ·cases k with
     | zero=>simp at hk;exact lJ hk.1.symm
     | succ k=>exact C1 k p (by simpa using hk)
    ·rcases qQ with ⟨ko,Ke⟩ | ⟨hd,Kd⟩
     ·rw[hg t lJ]at ko Ke
      cases hb:(get st t).below s0 p0 with
      | true=>
       rw[hb]at ko
       refine .inr ⟨ko,fun x hx=> ?_⟩
       rw[hx]at hb;cases hb
      | false=>
       rw[hb]at ko Ke
       refine .inl ⟨ko,fun k s p hk=> ?_⟩
       cases k with
       | zero=>simp at hk;rw[←hk.1, ←hk.2];exact hb
       | succ k=>exact Ke k s p (by simpa using hk)
     ·refine .inr ⟨hd,fun x hx=> ?_⟩
      refine Kd x ?_
      rw[hg t lJ,hx];rfl
theorem qR {p q:List Nat} (h1:pre p q=true) (h2:pre q p=true):q=p:=by
 obtain⟨r,rfl⟩:=(bX _ _).1 h1
 obtain⟨z,hz⟩:=(bX _ _).1 h2
 have:=congrArg List.length hz
 simp only[List.length_append]at this
 have:r=[]:=List.eq_nil_of_length_eq_zero (by omega)
 simp[this]
theorem Bk {x:AV} {r:Nat} {p q:List Nat} (h:x.names r q) (hb:x.below r p=false) (CX:pre p q=true):q=p:=by
 rcases h with rfl | ⟨off,rfl⟩ | ⟨i,off,rfl⟩ | ⟨T,cs,rfl,hm⟩
 ·simp[AV.below,CX,cQ]at hb;exact qR CX hb
 ·simp[AV.below,CX,cQ]at hb;exact qR CX hb
 ·simp[AV.below,CX,cQ]at hb
 ·simp only[AV.below,List.any_eq_false]at hb
  have:=hb _ hm
  simp[ek.ar,CX,cQ]at this
theorem wZ (h:Good P N st a hv w g) {ls:List (Nat×List Nat)} {back:List AO} (UU:gk ls=true) (hlen:back.length=ls.length)
  (NR:∀(k s:Nat) (p:List Nat),ls[k]? =some (s,p)→obj st s p≠ .dead∧gx st s p=true)
  (br:∀(k s:Nat) (p:List Nat) (y:AO),ls[k]? =some (s,p)→back[k]? =some y→Compat y (obj st s p))
  (hs:w.heap.size≤w'.heap.size) (hf:∀b,b<w.heap.size→g.tag b= .free→g'.tag b= .free∧w'.heap[b]? =w.heap[b]?) (fT:∀b,w'.heap.size≤b→g'.tag b= .free)
  (eL:∀t q x,get st t= .o x→(∀(k:Nat) (p:List Nat),ls[k]? =some (t,p)→pre p q=false)→g'.val t q=g.val t q)
  (ho:∀b t q x,get st t= .o x→b<w.heap.size→g.tag b= .own t q→(∀(k:Nat) (p:List Nat),ls[k]? =some (t,p)→pre p q=false)→g'.tag b= .own t q∧w'.heap[b]? =w.heap[b]?)
  (hy:∀(k s:Nat) (p:List Nat) (y:AO),ls[k]? =some (s,p)→back[k]? =some y→bY P w' g' s p y∧(y≠ .dead→g'.val s p=g.val s p)):Good P N (dj ls back st) a hv w' g':=by
 have AR:∀(k s:Nat) (p:List Nat),ls[k]? =some (s,p)→∃x,get st s= .o x:=by
  intro k s p hk
  have hl:=(NR k s p hk).1
  unfold obj at hl
  split at hl
  ·exact⟨_,by assumption⟩
  ·exact absurd rfl hl
 have NI:∀(k s:Nat) (p:List Nat) (x:AO),ls[k]? =some (s,p)→get st s= .o x→x.CU p=true:=by
  intro k s p x hk hx
  have:=(NR k s p hk).2
  unfold gx at this
  rw[hx]at this;exact this
 have O2:=pG UU hlen AR
 have FE:∀ {k t:Nat} {p q:List Nat},ls[k]? =some (t,p)→pre p q=false→∀(k':Nat) (p':List Nat),ls[k']? =some (t,p')→pre p' q=false:=by
  intro k t p q hk CX k' p' jz
  have:=uT UU hk jz
  subst this
  rw[hk]at jz
  cases jz
  exact CX
 refine h.mk' (nC _ _ _) fT (h.inv.vars.db hs hf) (fun t v ht bh=> ?_)
 have kD:=h.jy ht bh
 rcases O2 t with ⟨k,p,y,x,hk,Kf,mO,SQ⟩ | ⟨C1,⟨ko,Ke⟩ | ⟨hd,_⟩⟩
 ·rw[SQ]
  rw[mO]at kD
  have qO:obj st t p=x.at p:=by unfold obj;rw[mO]
  have fA:x.at p≠ .dead:=by rw[←qO];exact(NR k t p hk).1
  obtain⟨y1,y2⟩:=hy k t p y hk Kf
  have RZ:x≠ .dead:=by rintro rfl;exact fA (iQ p)
  cases kD with
  | o _ _ eD fq=>
   refine .o _ v (fun hd=> ?_) (fq.fh hs hf p [] x (by simpa using y1) (fun q hq=>eL t q x mO (FE hk (by simpa using hq))) (fun b q hb CW hq=>ho b t q x mO hb CW (FE hk (by simpa using hq))) (fun hd=>⟨fA,by simpa using y2 hd⟩) (fun _=>NI k t p x hk mO))
   rw[eD RZ]
   cases p with
   | nil=>simp only[AO.fh]at hd;exact(y2 hd).symm
   | cons i p=>exact(eL t [] x mO (FE hk rfl)).symm
 ·rw[ko]
  by_cases A9:∃z,get st t= .o z
  ·obtain⟨z,hz⟩:=A9
   rw[hz]at kD ⊢
   cases kD with
   | o _ _ eD fq=>
    exact .o z v (fun hd=>by rw[eD hd,eL t [] z hz (fun k p hk=>absurd hk (C1 k p))]) (fq.ext hs hf (fun q=>by simpa using eL t q z hz (fun k p hk=>absurd hk (C1 k p))) (fun b q hb CW=>by simpa using ho b t q z hz hb (by simpa using CW) (fun k p hk=>absurd hk (C1 k p))))
  ·refine kD.J3 hs hf (fun z hz=>A9 ⟨z,hz⟩) (fun r q VM=> ?_)
   rcases O2 r with ⟨k,p,y,x,hk,Kf,mO,SQ⟩ | ⟨Kd,⟨O3,_⟩ | ⟨AI,_⟩⟩
   ·have bq:obj st r q=x.at q:=by unfold obj;rw[mO]
    have QP:obj (dj ls back st) r q=(AO.fh y x p).at q:=by unfold obj;rw[SQ]
    have O4:=br k r p y hk Kf
    have qO:obj st r p=x.at p:=by unfold obj;rw[mO]
    rw[qO]at O4
    have fA:x.at p≠ .dead:=by rw[←qO];exact(NR k r p hk).1
    rw[bq,QP]
    cases CX:pre p q with
    | false=>exact .inr ⟨jx y p x q CX,eL r q x mO (FE hk CX)⟩
    | true=>
     have Z8:q=p:=Bk VM (Ke k r p hk) CX
     subst Z8
     have:=mS y q x [] fA (fun _=>NI k r q x hk mO)
     simp only[List.append_nil,AO.at]at this
     obtain⟨_,y2⟩:=hy k r q y hk Kf
     rcases this with e1 | e1
     ·rw[e1]
      by_cases AA:y= .dead
      ·exact .inl AA
      ·exact .inr ⟨O4,y2 AA⟩
     ·exact .inl e1
   ·by_cases Yq:∃z,get st r= .o z
    ·obtain⟨z,hz⟩:=Yq
     have bq:obj (dj ls back st) r q=obj st r q:=by unfold obj;rw[O3]
     rw[bq]
     exact .inr ⟨Compat.refl _,eL r q z hz (fun k p hk=>absurd hk (Kd k p))⟩
    ·left
     unfold obj;rw[O3]
     split
     ·rename_i z hz;exact absurd ⟨z,hz⟩ Yq
     ·rfl
   ·left
    unfold obj;rw[AI]
 ·rw[hd];exact .dead v
end
end Go.V
namespace Go.V
def jA:List (Nat×List Nat)→Nat→List Nat→Option (Nat×List Nat)
 | [],_,_=>none
 | (s',p')::ls,s,p=>if s'=s then(if pre p' p=true then some (0,p.drop p'.length)else none)else(jA ls s p).map fun x=>(x.1+1,x.2)
theorem oy:∀ {ls:List (Nat×List Nat)} {s:Nat} {q:List Nat} {k:Nat} {z:List Nat},jA ls s q=some (k,z)→∃p,ls[k]? =some (s,p)∧q=p++z
 | [],_,_,_,_,h=>by simp[jA]at h
 | (s',p')::ls,s,q,k,z,h=>by
  simp only[jA]at h
  split at h
  ·rename_i hs
   subst hs
   split at h
   ·rename_i hp
    simp at h
    obtain⟨rfl,rfl⟩:=h
    obtain⟨r,rfl⟩:=(bX _ _).1 hp
    exact⟨p',rfl,by simp⟩
   ·cases h
  ·cases hl:jA ls s q with
   | none=>rw[hl]at h;cases h
   | some x=>
    rw[hl]at h
    simp at h
    obtain⟨rfl,rfl⟩:=h
    obtain⟨p,h1,h2⟩:=oy (k:=x.1) (z:=x.2) hl
    exact⟨p,by simpa using h1,h2⟩
theorem rY:∀ {ls:List (Nat×List Nat)},gk ls=true→∀ {k s:Nat} {p z:List Nat},ls[k]? =some (s,p)→jA ls s (p++z)=some (k,z)
 | [],_,_,_,_,_,h=>by simp at h
 | (s',p')::ls,ha,k,s,p,z,h=>by
  simp only[gk,Bool.and_eq_true,List.all_eq_true,Bool.not_eq_true',cQ,decide_eq_false_iff_not]at ha
  obtain⟨h1,h2⟩:=ha
  cases k with
  | zero=>
   simp at h
   obtain⟨rfl,rfl⟩:=h
   have:pre p' (p'++z)=true:=(bX _ _).2 ⟨z,rfl⟩
   simp[jA,this]
  | succ k=>
   simp at h
   have dc:s'≠s:=h1 (s,p) (List.mem_of_getElem? h)
   simp[jA,dc,rY h2 h]
theorem td {ls:List (Nat×List Nat)} {s:Nat} {q:List Nat} (h:∀(k:Nat) (p:List Nat),ls[k]? =some (s,p)→pre p q=false):jA ls s q=none:=by
 cases hl:jA ls s q with
 | none=>rfl
 | some x=>
  obtain⟨p,h1,rfl⟩:=oy (k:=x.1) (z:=x.2) hl
  have:=h _ p h1
  rw[(bX _ _).2 ⟨x.2,rfl⟩]at this;cases this
def G.oz (g:G) (ls:List (Nat×List Nat)):G:=
 {
  tag:=fun b=>match g.tag b with
   | .own s p=>(match jA ls s p with | some (k,q)=> .own k q | none=> .out)
   | t=>t,
  val:=fun k q=>match ls[k]? with | some (s,p)=>g.val s (p++q) | none=>undef}
def G.lL (g g':G) (ls:List (Nat×List Nat)) (d:Nat):G:=
 {
  tag:=fun b=>match g'.tag b with
   | .free=> .free
   | .out=>g.tag b
   | .own k q=>if k=ls.length then .own d q else(match ls[k]? with | some (s,p)=> .own s (p++q) | none=> .free),
  val:=fun s q=>if s=d then g'.val ls.length q else match jA ls s q with | some (k,z)=>g'.val k z | none=>g.val s q}
section
variable {P:Program} {N:Nat} {st aZ:St} {a:Act} {hv:List Value} {w w':World} {g g':G} {K:St→R} {r:List AO×List AO} {o:Oper} {next:Act→World→Prop} {Q:Exit→Act→World→Prop} {call:aw}
theorem xa (h:Good P N st a hv w g) {T:TypeId} {x:Operand} (hx:bL N x=true) {y:AO} {l:Option (Nat×List Nat)} (ht:yu P T st x=some (y,l)):
  (∃v,y= .pv (ai P T) v∧l=none∧aV P w g (ai P T) v (a.eval x))∨∃s p,((∃E cs,y= .box E cs)∨(∃k e ks vs,y= .map k e ks vs)∨∃E l,y= .arr E l)∧l=some (s,p)∧obj st s p=y∧a.eval x=g.val s p:=by
 unfold yu at ht
 cases hp:JA st x with
 | true=>
  simp only[hp,cond_true]at ht
  split at ht
  ·rename_i v bh
   cases ht
   exact .inl ⟨v,rfl,rfl,h.rd hx bh⟩
  ·cases ht
 | false=>
  simp only[hp,cond_false]at ht
  split at ht
  ·rename_i s p hl
   split at ht
   ·rename_i E cs bq
    cases ht
    exact .inr ⟨s,p, .inl ⟨E,cs,rfl⟩,rfl,bq,(ef h hx hl).1⟩
   ·rename_i k e ks vs bq
    cases ht
    exact .inr ⟨s,p, .inr (.inl ⟨k,e,ks,vs,rfl⟩),rfl,bq,(ef h hx hl).1⟩
   ·rename_i E l' bq
    cases ht
    exact .inr ⟨s,p, .inr (.inr ⟨E,l',rfl⟩),rfl,bq,(ef h hx hl).1⟩
   ·cases ht
  ·cases ht
theorem oA (h:Good P N st a hv w g):∀ {l:List (Operand×TypeId)} {as:List AO} {ls:List (Nat×List Nat)},nW P st l=some (as,ls)→(∀p∈l,bL N p.1=true)→
  as.length=l.length∧cr as=ls.length∧(∀(k s:Nat) (p:List Nat),ls[k]? =some (s,p)→((∃E cs,obj st s p= .box E cs)∨(∃k e ks vs,obj st s p= .map k e ks vs)∨∃E l,obj st s p= .arr E l)∧(di as)[k]? =some (obj st s p))∧
  ∀(gc:G) (k0:Nat),(∀b,b<w.heap.size→g.tag b= .free→gc.tag b= .free∧w.heap[b]? =w.heap[b]?)→(∀(j s:Nat) (p:List Nat),ls[j]? =some (s,p)→bY P w gc (k0+j) [] (obj st s p)∧gc.val (k0+j) []=g.val s p)→
   fO P w gc k0 as (l.map fun p=>a.eval p.1)
 | [],as,ls,ht,_=>by
  simp[nW]at ht
  obtain⟨rfl,rfl⟩:=ht
  exact⟨rfl,rfl,fun _ _ _ hk=>by simp at hk,fun _ _ _ _=>trivial⟩
 | (x,T)::l,as,ls,ht,br=>by
  simp only[nW]at ht
  split at ht
  ·rename_i y lo hy
   split at ht
   ·rename_i ys Yr A2
    obtain⟨e1,e2,e3,e4⟩:=oA h A2 (fun p hp=>br p (List.mem_cons_of_mem _ hp))
    rcases xa h (br (x,T) List.mem_cons_self) hy with ⟨v,rfl,rfl,hp⟩ | ⟨s,p,SR,rfl,bq,dV⟩
    ·cases ht
     refine⟨by simp[e1],by simpa[cr]using e2,e3,fun gc k0 hf hl=>⟨hp.ext (Nat.le_refl _) hf,e4 gc k0 hf hl⟩⟩
    ·cases ht
     have SS:y≠ .dead∧(∀t v,y≠ .pv t v):=by rcases SR with ⟨E,cs,rfl⟩ | ⟨_,_,_,_,rfl⟩ | ⟨_,_,rfl⟩<;>simp
     have fy:di (y::ys)=y::di ys:=by rcases SR with ⟨E,cs,rfl⟩ | ⟨_,_,_,_,rfl⟩ | ⟨_,_,rfl⟩<;>rfl
     have Dv:cr (y::ys)=cr ys+1:=by rcases SR with ⟨E,cs,rfl⟩ | ⟨_,_,_,_,rfl⟩ | ⟨_,_,rfl⟩<;>rfl
     refine⟨by simp[e1],by simp[Dv,e2],fun k s' p' hk=> ?_,fun gc k0 hf hl=> ?_⟩
     ·rw[fy]
      cases k with
      | zero=>
       simp at hk;obtain⟨rfl,rfl⟩:=hk
       refine⟨by rw[bq];exact SR,by rw[bq];rfl⟩
      | succ k=>simpa using e3 k s' p' (by simpa using hk)
     ·obtain⟨l1,l2⟩:=hl 0 s p rfl
      have rest:=e4 gc (k0+1) hf (fun j s' p' hj=>by
       have:=hl (j+1) s' p' (by simpa using hj)
       rw[show k0+1+j=k0+(j+1)by omega];exact this)
      rw[bq]at l1
      rcases SR with ⟨E,cs,rfl⟩ | ⟨_,_,_,_,rfl⟩ | ⟨_,_,rfl⟩
      ·exact⟨by simp,l1,dV.trans l2.symm,rest⟩
      ·exact⟨by simp,l1,dV.trans l2.symm,rest⟩
      ·exact⟨by simp,l1,dV.trans l2.symm,rest⟩
   ·cases ht
  ·cases ht
theorem xC:∀ {xs ys:List AO} {i:Nat} {y:AO},gU xs ys=true→ys[i]? =some y→∃x,xs[i]? =some x∧nJ x y=true
 | [],[],i,y,_,h=>by simp at h
 | [],_::_,i,y,h,_=>by simp[gU]at h
 | _::_,[],i,y,h,_=>by simp[gU]at h
 | x::xs,z::ys,i,y,h,hy=>by
  simp only[gU,Bool.and_eq_true]at h
  cases i with
  | zero=>simp at hy;subst hy;exact⟨x,rfl,h.1⟩
  | succ i=>
   obtain⟨x',h1,h2⟩:=xC h.2 (by simpa using hy)
   exact⟨x',by simpa using h1,h2⟩
mutual
theorem xD:∀(x y:AO),nJ x y=true→nX x y=y
 | .pv t v,y,h=>by
  cases y<;>simp[nJ]at h
  have:=Ty.iH h
  subst this;simp[nX,ux]
 | .arr E l,y,h=>by
  cases y<;>simp[nJ,cQ]at h
  subst h;simp[nX,cZ]
 | .own E D l (some j),y,h=>by cases y<;>simp[nJ]at h
 | .own E D l none,y,h=>by
  cases y with
  | own F G l' hh=>
   cases hh with
   | none=>
    simp only[nJ,Bool.and_eq_true]at h
    have e1:=Nat.eq_of_beq_eq_true h.1
    have e2:=Nat.eq_of_beq_eq_true h.2
    subst e1;subst e2
    simp[nX,cZ]
   | some j=>simp[nJ]at h
  | _=>simp[nJ]at h
 | .map k e ks vs,y,h=>by
  cases y with
  | map k' e' OT rU=>
   simp only[nJ,Bool.and_eq_true]at h
   have e1:=Nat.eq_of_beq_eq_true h.1
   have e2:=Nat.eq_of_beq_eq_true h.2
   subst e1;subst e2
   simp[nX,rP,rQ]
  | _=>simp[nJ]at h
 | .box E cs,y,h=>by
  cases y with
  | box F ds=>
   simp only[nJ,Bool.and_eq_true]at h
   have:=Nat.eq_of_beq_eq_true h.1
   subst this
   simp only[nX]
   rw[uU cs ds (.box E ds) 0 h.2 (fun i=>by simp[ch])]
  | _=>simp[nJ]at h
 | .dead,y,h=>by
  cases y<;>simp[nJ]at h
  rfl
theorem uU:∀(xs ys:List AO) (y:AO) (k:Nat),gU xs ys=true→(∀i,ch y (k+i)=nth .dead ys i)→tT xs y k=ys
 | [],[],y,k,_,_=>rfl
 | [],_::_,y,k,h,_=>by simp[gU]at h
 | _::_,[],y,k,h,_=>by simp[gU]at h
 | x::xs,z::ys,y,k,h,hy=>by
  simp only[gU,Bool.and_eq_true]at h
  have h0:=hy 0
  simp only[Nat.add_zero]at h0
  simp only[tT]
  rw[h0,uU xs ys y (k+1) h.2 (fun i=>by have:=hy (i+1);rw[show k+1+i=k+(i+1)by omega];exact this)]
  have:nth AO.dead (z::ys) 0=z:=rfl
  rw[this,xD x z h.1]
end
theorem te:∀ {xs ys back res:List AO} {k:Nat},gU xs ys=true→(∀i,nth .dead back (k+i)=nth .dead ys i)→qD (some (res,back)) xs k=ys
 | [],[],back,res,k,_,_=>rfl
 | [],_::_,back,res,k,h,_=>by simp[gU]at h
 | _::_,[],back,res,k,h,_=>by simp[gU]at h
 | x::xs,z::ys,back,res,k,h,hy=>by
  simp only[gU,Bool.and_eq_true]at h
  have h0:=hy 0
  simp only[Nat.add_zero]at h0
  simp only[qD,bD]
  rw[h0,te (k:=k+1) h.2 (fun i=>by have:=hy (i+1);rw[show k+1+i=k+(i+1)by omega];exact this)]
  have:nth AO.dead (z::ys) 0=z:=rfl
  rw[this,xD x z h.1]
theorem Kg {xs back res:List AO} (h:gU xs back=true):qD (some (res,back)) xs 0=back:=te h (fun i=>by simp)
theorem qS {d:Nat} {s:Nat} {p:List Nat} (h:s≠d):obj (put d .dead st) s p=obj st s p:=ki .dead h p
theorem xb {d:Nat} {s:Nat} {p:List Nat} (h:s≠d):gx (put d .dead st) s p=gx st s p:=by
 have ho:∀x,get (put d .dead st) s= .o x↔get st s= .o x:=by
  intro x
  rw[cX,if_neg (fun hh=>h hh.1)]
  cases hr:(get st s).ar d []with
  | false=>rfl
  | true=>
   simp only[cond_true]
   constructor
   ·intro h;cases h
   ·intro h;rw[h]at hr;cases hr
 unfold gx
 cases hg:get st s with
 | o x=>rw[(ho x).2 hg]
 | _=>
  split
  ·rename_i x hx;have:=(ho x).1 hx;rw[hg]at this;cases this
  ·rfl
theorem uV {c:Option (List AO×List AO)}:∀ {xs:List AO} {i k:Nat} {E:TypeId} {l:List PV},kI c xs i=true→xs[k]? =some (.arr E l)→(cZ (bD (i+k) c)).length=l.length
 | [],_,_,_,_,_,h=>by simp at h
 | x::xs,i,k,E,l,h,hx=>by
  simp only[kI,Bool.and_eq_true]at h
  cases k with
  | zero=>
   simp at hx;subst hx
   exact of_decide_eq_true h.1
  | succ k=>
   have:=uV (k:=k) h.2 (by simpa using hx)
   rw[show i+(k+1)=i+1+k by omega];exact this
theorem Kh (bu:ct P call) (h0:Good P N st a hv w g) {c:Call} (aM:o.op= .call c) {f:FuncId} (hf:c.callee= .value (.func f)) (br:ey N o) (gi:∀i,o.dst=some i→i<N) (hk:j7 P call N o st K=some r) (ag:fB P N hv w g K r next):o.wp P a w next Q:=by
 have je:∀x∈c.args.toList,bL N x=true:=fun x hx=>br x (by
  simp only[aM,Op.operands,Call.operands,hf,Array.mem_append];exact .inr (Array.mem_toList_iff.1 hx))
 cases yP:o.dst with
 | none=>simp[j7,aM,hf,yP]at hk
 | some d=>
 have gi:=gi d yP
 simp only[j7,aM,hf,yP]at hk
 obtain⟨g0,h,f0⟩:=gG h0 N c.args.toList st g h0
 generalize fj N c.args.toList st=gD at hk h
 split at hk
 ·rename_i as ls has
  obtain⟨hc,hk⟩:=aH hk
  simp only[Bool.and_eq_true,List.all_eq_true,Bool.not_eq_true',cQ,decide_eq_false_iff_not]at hc
  obtain⟨c1,⟨c2,c3⟩,c4⟩:=hc
  have c1:as.length=c.args.size:=by simpa using c1
  obtain⟨O5,hk⟩:=aH hk
  rw[Bool.and_eq_true]at O5
  obtain⟨SU,O6⟩:=O5
  obtain⟨res,back,av,OV,hk,ND⟩:=qN hk
  rw[OV]at SU O6 hk
  have Dz:gU (di as) back=true:=SU
  rw[Kg Dz]at hk
  obtain⟨e1,e2,e3,e4⟩:=oA h has (fun p hp=>je p.1 (List.of_mem_zip hp).1)
  have bq:∀(k s:Nat) (p:List Nat) (y:AO),ls[k]? =some (s,p)→back[k]? =some y→Compat y (obj gD s p):=by
   intro k s p y mc Kf
   obtain⟨x,hx,O7⟩:=xC Dz Kf
   obtain⟨h1,h2⟩:=e3 k s p mc
   rw[hx]at h2
   have h2:=Option.some.inj h2
   subst h2
   rcases h1 with ⟨E,cs,hb⟩ | ⟨k',e',ks,vs,hb⟩ | ⟨E,l,hb⟩
   ·rw[hb]at O7 ⊢
    cases y<;>simp[nJ]at O7
    exact⟨fun _=>by simp,fun _ _ _=>⟨_,_,rfl⟩,fun _ _ he=>by simp[AO.iF]at he⟩
   ·rw[hb]at O7 ⊢
    cases y<;>simp[nJ]at O7
    exact⟨fun _=>by simp,fun _ _ he=>by simp at he,fun _ _ he=>by simp[AO.iF]at he⟩
   ·rw[hb]at O7 hx ⊢
    cases y with
    | arr F m=>
     simp only[nJ]at O7
     have:=Nat.eq_of_beq_eq_true O7
     subst this
     have qd:=uV O6 hx
     rw[Nat.zero_add]at qd
     have V6:bD k (some (res,back))= .arr E m:=by
      show nth .dead back k=_
      rw[bZ,Kf];rfl
     rw[V6]at qd
     refine⟨fun _=>by simp,fun _ _ he=>by simp at he,fun E2 m2 he=> ?_⟩
     simp only[AO.iF,Option.some.injEq,Prod.mk.injEq]at he ⊢
     have qd:m.length=l.length:=qd
     exact⟨he.1,qd▸he.2⟩
    | _=>simp[nJ]at O7
  have JY:(c.args.toList.zip c.argTypes.toList).map (fun p=>a.eval p.1)=(c.args.map a.eval).toList:=by
   simp only[List.length_zip,Array.length_toList]at e1
   have h1:(c.args.toList.zip c.argTypes.toList).map Prod.fst=c.args.toList:=List.map_fst_zip (by simp;omega)
   rw[Array.toList_map, ←h1,List.map_map,h1];rfl
  have hlen:gD.length=N+hv.length:=h.len
  have wI:∀(k s:Nat) (p:List Nat),ls[k]? =some (s,p)→s≠d:=fun k s p mc=>c3 (s,p) (List.mem_of_getElem? mc)
  have dE:=e4 (g0.oz ls) 0 (fun b _ hb=>⟨by simp[G.oz,hb],rfl⟩) (fun j s p hj=>by
   rw[Nat.zero_add]
   have fq:=h.obj s p
   have J5:∀q,(g0.oz ls).val j q=g0.val s (p++q):=fun q=>by simp[G.oz,hj]
   refine⟨fq.ext (s':=j) (p':=[]) (Nat.le_refl _) (fun b _ hb=>⟨by simp[G.oz,hb],rfl⟩) (fun q=>by rw[List.nil_append];exact J5 q) (fun b q hb ht=>⟨?_,rfl⟩),by simpa using J5 []⟩
   simp[G.oz,ht,rY c2 hj])
  rw[JY]at dE
  have Dh:∀b,w.heap.size≤b→(g0.oz ls).tag b= .free:=fun b hb=>by simp[G.oz,h.inv.fresh b hb]
  have p5:∀b s p,(g0.oz ls).tag b= .own s p→s<cr as:=by
   intro b s p ht
   rw[e2]
   simp only[G.oz]at ht
   split at ht
   ·split at ht
    ·rename_i hl
     cases ht
     obtain⟨p',h1,_⟩:=oy hl
     exact(List.getElem?_eq_some_iff.1 h1).1
    ·cases ht
   ·rename_i C1
    exact absurd ht (C1 s p)
  refine FA aM (qL hf) (bu.ok f as res back OV _ w (g0.oz ls) dE Dh (h.inv.vars.db (Nat.le_refl _) (fun b _ hb=>⟨by simp[G.oz,hb],rfl⟩)) p5) ?_
  rintro e w' ⟨v,g',rfl,fr,iG,tH,Nh,V6⟩
  refine⟨v,rfl, ?_⟩
  rw[yP]
  rw[e2]at iG tH Nh
  have Ki:∀b t q,g0.tag b= .own t q→jA ls t q=none→(g0.oz ls).tag b= .out:=by
   intro b t q ht hl;simp[G.oz,ht,hl]
  have gh:∀b,b<w.heap.size→g0.tag b= .free→(g0.lL g' ls d).tag b= .free∧w'.heap[b]? =w.heap[b]? :=by
   intro b hb ht
   obtain⟨t1,t2⟩:=fr.free b hb (by simp[G.oz,ht])
   exact⟨by simp[G.lL,t1],t2⟩
  have QQ:∀b,b<w'.heap.size→g'.tag b= .free→(g0.lL g' ls d).tag b= .free∧w'.heap[b]? =w'.heap[b]? :=fun b _ ht=>⟨by simp[G.lL,ht],rfl⟩
  have fT:∀b,w'.heap.size≤b→(g0.lL g' ls d).tag b= .free:=fun b hb=>by simp[G.lL,fr.fresh b hb]
  have hF:Fr w g0 w' (g0.lL g' ls d):=by
   refine⟨fr.os,fr.tape,fr.output,fr.size,gh,fun b hb ht=> ?_,fun b hb=> ?_,fT⟩
   ·obtain⟨t1,t2⟩:=fr.out b hb (by simp[G.oz,ht])
    exact⟨by simp[G.lL,t1,ht],t2⟩
   ·simp only[G.lL]at hb
    split at hb
    ·cases hb
    ·rename_i ht;exact⟨hb,(fr.lU b ht).2⟩
    ·split at hb
     ·cases hb
     ·split at hb<;>cases hb
  have h1:Good P N (put d .dead gD) (a.put (some d) v) hv w g0:=h.put gi (uB.refl w g0 _ h.inv.fresh) (.dead v)
  have V7:∀x,get (put d .dead gD) d≠ .o x:=by
   intro x;rw[cX,if_pos ⟨rfl,Nat.lt_of_lt_of_le gi (by rw[hlen];exact Nat.le_add_right _ _)⟩];simp
  have h2:=wZ h1 (g':=g0.lL g' ls d) (w':=w') c2 (back:=back) Nh (fun k s p mc=>by
   rw[qS (wI k s p mc),xb (wI k s p mc)]
   refine⟨?_,c4 (s,p) (List.mem_of_getElem? mc)⟩
   rcases(e3 k s p mc).1 with ⟨E,cs,hb⟩ | ⟨_,_,_,_,hb⟩ | ⟨_,_,hb⟩<;>rw[hb]<;>simp) (fun k s p y mc Kf=>by rw[qS (wI k s p mc)];exact bq k s p y mc Kf) fr.size gh fT (fun t q x hx C1=>by
   have tK:t≠d:=by rintro rfl;exact V7 x hx
   simp[G.lL,tK,td C1]) (fun b t q x hx hb ht C1=>by
   have QK:=Ki b t q ht (td C1)
   obtain⟨t1,t2⟩:=fr.out b hb QK
   exact⟨by simp[G.lL,t1,ht],t2⟩) (fun k s p y mc Kf=>by
   obtain⟨b1,b2⟩:=V6 k y Kf
   have pD:k<ls.length:=(List.getElem?_eq_some_iff.1 mc).1
   have J5:∀q,(g0.lL g' ls d).val s (p++q)=g'.val k q:=fun q=>by simp[G.lL,wI k s p mc,rY c2 mc]
   refine⟨b1.ext (s':=s) (p':=p) (Nat.le_refl _) QQ (fun q=>by rw[List.nil_append];exact J5 q) (fun b q hb ht=>⟨?_,rfl⟩),fun AA=> ?_⟩
   ·simp only[List.nil_append]at ht
    simp[G.lL,ht,Nat.ne_of_lt pD,mc]
   ·have:=J5 []
    rw[List.append_nil]at this
    rw[this,b2 AA]
    simp[G.oz,mc])
  have fin:∀av,fm P w' (g0.lL g' ls d) (dj ls back (put d .dead gD)) d av v→K (put d av (dj ls back (put d .dead gD)))=some r→next (a.put (some d) v) w':=by
   intro av hs hk
   have h3:=h2.put gi (uB.refl w' (g0.lL g' ls d) (some d) fT) hs
   rw[sZ]at h3
   exact ag _ _ w' _ h3 (f0.trans hF) hk
  have yK:∀xs:List AO,(∃vs,v= .tuple ⟨vs⟩∧vs.length=xs.length∧∀(i:Nat) (x:AO) (v:Value),xs[i]? =some x→vs[i]? =some v→∃t y,x= .pv t y∧aV P w' g' t y v)→
    fm P w' (g0.lL g' ls d) (dj ls back (put d .dead gD)) d (.jg xs) v:=by
   rintro xs ⟨vs,rfl,h1,h2⟩
   refine .jg xs vs h1 (fun j x u hx hu=> ?_)
   obtain⟨t,y,e1,e2⟩:=h2 j x u hx hu
   exact⟨t,y,e1,e2.ext (Nat.le_refl _) QQ⟩
  rcases ND with ⟨x,rfl,rfl⟩ | ⟨rfl,dc⟩
  ·obtain⟨ho,bh⟩:=iG
   refine fin _ (.o x v (fun hd=>by simp[G.lL,bh hd]) ?_) hk
   refine ho.ext (s':=d) (p':=[]) (Nat.le_refl _) QQ (fun q=>by simp[G.lL]) (fun b q hb ht=>⟨?_,rfl⟩)
   simp only[List.nil_append]at ht ⊢
   simp[G.lL,ht]
  ·refine fin _ (yK res ?_) hk
   match res,dc,iG with
   | [],_,iG=>exact iG
   | [x],dc,_=>exact absurd rfl dc
   | x::y::zs,_,iG=>exact iG
 ·cases hk
end
end Go.V
namespace Go.V
section
variable {P:Program} {N:Nat} {st aZ:St} {a:Act} {hv:List Value} {w w':World} {g g':G} {K:St→R} {r:List AO×List AO} {o:Oper} {next:Act→World→Prop} {Q:Exit→Act→World→Prop} {call:aw}
theorem gm (h:sO N o=true):ey N o∧∀i,o.dst=some i→i<N:=by
 simp only[sO,Bool.and_eq_true,List.all_eq_true]at h
 obtain⟨h1,h2⟩:=h
 refine⟨fun x hx=>h2 x (Array.mem_toList_iff.2 hx),fun i hi=> ?_⟩
 rw[hi]at h1
 exact of_decide_eq_true h1
theorem nD {b:Nat} {es:Array MapEntry} {clock:Nat} (o:Obj) (hh:w.heap[b]? =some (.map es clock)):(Go.setObj b o).run P w= .ok () {w with heap:=w.heap.setIfInBounds b o}:=by
 simp[Go.setObj,Sem.run,hh]
theorem uW (h:Good P N st a hv w g) {s:Nat} {p:List Nat} {E E':TypeId} {cs:List AO} {v:PV} (bq:obj st s p= .box E' cs) (hb:JD P E cs=some v):
  ∃g',Good P N (setObj st s p (.pv .ptr v)) a hv w g'∧Fr w g w g':=by
 have fq:=h.obj s p
 rw[bq]at fq
 have gh:∀c,c<w.heap.size→g.tag c= .free→(g.lK s p).tag c= .free∧w.heap[c]? =w.heap[c]? :=fun c _ hc=>⟨G.mb hc,rfl⟩
 have Dl:∀c,w.heap.size≤c→(g.lK s p).tag c= .free:=fun c hc=>G.mb (h.inv.fresh c hc)
 have hp:aV P w (g.lK s p) .ptr v (g.val s p):=by
  cases fq with
  | box _ _ _ b vs bh hh ht hl hc nQ=>
   rw[bh]
   have nE:(g.lK s p).tag b= .free:=G.ot (q:=[]) (by simpa using ht)
   unfold JD at hb
   cases hA:aO (ai P E)with
   | true=>
    simp only[hA,cond_true]at hb
    obtain⟨eC,hb⟩:=bg hb
    have eC:=Nat.eq_of_beq_eq_true eC
    split at hb
    ·rename_i xs JK
     cases hb
     obtain⟨h1,h2⟩:=gF JK
     have wJ:=dD hA
     have hn:(ae P deep E).length≤vs.length:=by
      rcases Nat.eq_zero_or_pos (ae P deep E).length with h0 | h0
      ·omega
      ·obtain⟨y,_,hy⟩:=h2 ((ae P deep E).length-1) _ (List.getElem?_eq_getElem (by omega))
       have:=(List.getElem?_eq_some_iff.1 hy).1;omega
     refine .ref E (.agg xs) b 0 (.agg ⟨vs.take (ae P deep E).length⟩) ?_ (fun j hj=> ?_) nE (bT hh)
     ·rw[wJ]
      refine .st E xs _ h1 (by simp;omega) (fun j ty y c iK hy Jp=> ?_)
      obtain⟨y',e1,e2⟩:=h2 j ty iK
      rw[hy]at e1;cases e1
      have wK:=(List.getElem?_eq_some_iff.1 iK).1
      rw[List.getElem?_take,if_pos wK,nQ j _ e2 (by simp)]at Jp
      cases Jp
      exact(hc j _ e2).eK.ext (Nat.le_refl _) gh
     ·rw[Nat.zero_add,cell_of_row w b _ ⟨vs⟩ E' (0,0) hh]
      have:j<(ae P deep E).length:=by omega
      simp[Value.cells,List.getElem?_take,this]
    ·cases hb
   | false=>
    simp only[hA,cond_false]at hb
    obtain⟨AS,JL⟩:=bg hb
    clear hb
    simp only[Bool.and_eq_true]at AS
    have h1:=Nat.eq_of_beq_eq_true AS.2
    split at JL
    ·rename_i t u
     obtain⟨wO,Vx⟩:=bg JL
     clear JL
     have wO:=Ty.iH wO
     subst wO
     cases Vx
     have Ys:=(hc 0 _ rfl).eK
     have eD:=nQ 0 _ rfl (by simp)
     refine .ref E u b 0 (g.val s (p++[0])) (Ys.ext (Nat.le_refl _) gh) (fun j hj=> ?_) nE (bT hh)
     have Dd:j=0:=by omega
     subst Dd
     rw[Nat.zero_add,cell_of_row w b _ ⟨vs⟩ E' (0,0) hh,(fp AS.1 Ys).1]
     simpa using eD
    ·cases JL
 refine⟨g.lK s p,gY h (by rw[bq];simp) (fun _=>Bb bq) (Nat.le_refl _) gh Dl (.pv p _ _ hp) (fun _ _ _=>rfl) (fun _=>rfl) (fun c t q jW dJ hq=>⟨G.uN dJ hq,rfl⟩) (fun q t' _=> ?_), ?_⟩
 ·cases q with
  | nil=>exact .inr ⟨⟨fun _=>by rw[bq];simp[AO.at],fun _ _ h=>by simp[AO.at]at h,fun _ _ h=>by simp[AO.at,AO.iF]at h⟩,rfl⟩
  | cons i q=>exact .inl rfl
 ·refine⟨rfl,rfl,rfl,Nat.le_refl _,gh,fun c jW dJ=>⟨by simp[G.lK,dJ],rfl⟩,fun c dJ=> ?_,Dl⟩
  have mT:g.tag c= .out:=by
   simp only[G.lK]at dJ
   cases hg:g.tag c with
   | free=>rw[hg]at dJ;cases dJ
   | out=>rfl
   | own t q=>rw[hg]at dJ;simp only at dJ;split at dJ<;>cases dJ
  refine⟨mT, ?_⟩
  rcases Nat.lt_or_ge c w.heap.size with h' | h'
  ·exact h'
  ·rw[h.inv.fresh c h']at mT;cases mT
theorem jB:∀(l:List Operand) (st aZ:St) (g:G),Good P N st a hv w g→gV P l st=some aZ→∃g',Good P N aZ a hv w g'∧Fr w g w g'
 | [],st,aZ,g,h,hf=>by
  simp[gV]at hf;subst hf
  exact⟨g,h,Fr.refl w g h.inv.fresh⟩
 | x::l,st,aZ,g,h,hf=>by
  simp only[gV]at hf
  split at hf
  ·rename_i s p _
   split at hf
   ·rename_i E OZ Z9
    split at hf
    ·rename_i E' mH bq
     split at hf
     ·rename_i v hb
      obtain⟨g1,h1,f1⟩:=dN s p (P.cellsOf E) 0 st g h
      obtain⟨g2,h2,f2⟩:=uW h1 bq hb
      obtain⟨g3,h3,f3⟩:=jB l _ aZ g2 h2 hf
      exact⟨g3,h3,(f1.trans f2).trans f3⟩
     ·cases hf
    ·cases hf
   ·cases hf
  ·exact jB l st aZ g h hf
theorem yT (bu:ct P call) (h:Good P N st a hv w g) {fn:Fn} {first cap:Array Operand} (aM:o.op= .makeFunc fn first cap) (br:ey N o) (gi:∀i,o.dst=some i→i<N) (hk:j7 P call N o st K=some r) (ag:fB P N hv w g K r next):o.wp P a w next Q:=by
 simp only[j7,aM]at hk
 split at hk
 ·rename_i aZ hf
  obtain⟨g1,h1,f1⟩:=jB cap.toList st aZ g h hf
  exact l9 bu h1 br hk (o9 h1 gi fun aZ a' w' g' hg hf hk=>ag aZ a' w' g' hg (f1.trans hf) hk)
 ·cases hk
theorem yU {kt:TypeId} (hk:sN (ai P kt)=true) {kx y:PV} {kv yv:Value} (h1:aV P w g (ai P kt) kx kv) (h2:aV P w g (ai P kt) y yv) (he:lT (ai P kt) kx y=true) (n:Nat):Instr.sameBits n yv kv=true:=by
 cases ht:ai P kt with
 | int k=>
  rw[ht]at h1 h2 he
  obtain⟨m,rfl,rfl⟩:=h1.cO
  obtain⟨n',rfl,rfl⟩:=h2.cO
  have he:m=n':=of_decide_eq_true he
  subst he
  cases n<;>simp[Instr.sameBits]
 | bool=>
  rw[ht]at h1 h2 he
  obtain⟨m,rfl,rfl⟩:=h1.dR
  obtain⟨n',rfl,rfl⟩:=h2.dR
  simp[lT,PV.toBool]at he
  subst he
  cases n<;>simp[Instr.sameBits]
 | str=>
  rw[ht]at h1 h2 he
  obtain⟨m,rfl,rfl⟩:=h1.dm
  obtain⟨n',rfl,rfl⟩:=h2.dm
  simp[lT,PV.toStr]at he
  have:m=n':=by cases m;cases n';simp at he;congr 1
  subst this
  have hb:(m==m)=true:=by rw[bytes_beq];simp
  cases n<;>simp[Instr.sameBits,hb]
 | _=>simp[ht,sN]at hk
theorem Bl {es:Array MapEntry} {clock:Nat} (h:mM es clock) {k v:Value}:mM (es.push {key:=k,val:=v,born:=clock}) (clock+1):=by
 obtain⟨h1,h2⟩:=h
 refine⟨fun x hx=> ?_, ?_⟩
 ·simp only[Array.toList_push,List.mem_append,List.mem_singleton]at hx
  rcases hx with hx | rfl
  ·have:=h1 x hx;omega
  ·show clock<clock+1
   omega
 ·simp only[Array.toList_push,List.map_append,List.map_cons,List.map_nil]
  rw[List.nodup_append]
  refine⟨h2,by simp,fun a ha b hb=> ?_⟩
  simp only[List.mem_singleton]at hb
  obtain⟨x,hx,rfl⟩:=List.mem_map.1 ha
  have:=h1 x hx
  omega
theorem xc {es:Array MapEntry} {clock j:Nat} (h:mM es clock) {k v:Value}:mM (es.modify j fun e=> {e with key:=k,val:=v}) clock:=by
 obtain⟨h1,h2⟩:=h
 have hm:(es.modify j fun e=> {e with key:=k,val:=v}).toList.map (·.born)=es.toList.map (·.born):=by
  apply List.ext_getElem?
  intro i
  simp only[List.getElem?_map,Array.getElem?_toList,Array.getElem?_modify]
  split
  ·cases es[i]? <;>rfl
  ·rfl
 refine⟨fun x hx=> ?_,by rw[hm];exact h2⟩
 have:x.born∈es.toList.map (·.born):=by rw[←hm];exact List.mem_map_of_mem hx
 obtain⟨y,hy,e⟩:=List.mem_map.1 this
 rw[←e];exact h1 y hy
theorem xd (h:Good P N st a hv w g) {T:TypeId} {m k v:Operand} (aM:o.op= .mapUpdate T m k v) (br:ey N o) (hk:j7 P call N o st K=some r) (ag:fB P N hv w g K r next):o.wp P a w next Q:=by
 have hm:=br m (by simp[aM,Op.operands])
 have mc:=br k (by simp[aM,Op.operands])
 have qH:=br v (by simp[aM,Op.operands])
 simp only[j7,aM]at hk
 split at hk
 ·rename_i kt et s p hd hT hl
  split at hk
  ·rename_i Yc Yd ks vs kx vx bq J2 hvx
   obtain⟨hc,kK⟩:=bg hk
   clear hk
   simp only[Bool.and_eq_true]at hc
   obtain⟨e1,e2,OX⟩:=hc
   have e1:=Nat.eq_of_beq_eq_true e1
   have e2:=Nat.eq_of_beq_eq_true e2
   subst e1;subst e2
   have dV:=(ef h hm hl).1
   have fq:=h.obj s p
   rw[bq]at fq
   have hu:=tY hT
   have xz:=h.rd mc J2
   have Qz:=h.rd qH hvx
   obtain⟨d,R3⟩:=gA xz
   cases fq with
   | map _ _ _ _ _ b es clock bh hh ht DA nz h1 h2=>
    rw[bh]at dV
    obtain⟨DA,jw⟩:=DA
    have V8:ks.length=es.toList.length:=by simpa using DA
    have QB:vs.length=es.toList.length:=by simpa using nz
    have Nh:=bT hh
    have fin:∀(Nk:Array MapEntry) (rZ:Nat) (OT rU:List PV),(Instr.mapUpdate T (a.eval m) (a.eval k) (a.eval v)).run P w= .ok () {w with heap:=w.heap.setIfInBounds b (.map Nk rZ)}→mM Nk rZ→OT.length=Nk.size→rU.length=Nk.size→
      (∀(i:Nat) (en:MapEntry) (x:PV),Nk[i]? =some en→OT[i]? =some x→aV P w g (ai P kt) x en.key)→(∀(i:Nat) (en:MapEntry) (x:PV),Nk[i]? =some en→rU[i]? =some x→aV P w g (ai P et) x en.val)→
      K (setObj st s p (.map kt et OT rU))=some r→o.wp P a w next Q:=by
     intro Nk rZ OT rU ba l0 l1 l2 q1 q2 hk
     generalize O8:({w with heap:=w.heap.setIfInBounds b (.map Nk rZ)}:World)=w' at ba
     have eC:w'.heap.size=w.heap.size:=by rw[←O8];simp
     have tO:∀c,c≠b→w'.heap[c]? =w.heap[c]? :=fun c hc=>by rw[←O8];simp[Array.getElem?_setIfInBounds,Ne.symm hc]
     have wY:w'.heap[b]? =some (.map Nk rZ):=by rw[←O8];simp[Nh]
     have gh:∀c,c<w.heap.size→g.tag c= .free→g.tag c= .free∧w'.heap[c]? =w.heap[c]? :=fun c _ hc=>⟨hc,tO c (by rintro rfl;rw[ht]at hc;cases hc)⟩
     unfold Oper.wp
     have hx:(execOp a.eval o).run P w= .ok .skip w':=by
      have e:execOp a.eval o=(do Instr.mapUpdate T (a.eval m) (a.eval k) (a.eval v);pure Next.skip):=by simp only[execOp,aM]
      rw[e,Sem.run_bind,ba];rfl
     rw[hx]
     show next (a.put o.dst undef) _
     rw[me _ hd]
     refine ag _ _ _ g (gY h (by rw[bq];simp) (fun _=>ua (by rw[bq];simp) (by rw[bq];simp)) (by omega) gh (fun c hc=>h.inv.fresh c (by omega)) ?_ (fun _ _ _=>rfl) (fun _=>rfl) (fun c t q jW dJ hq=>⟨dJ,tO c ?_⟩) (fun q t' _=> ?_)) ?_ hk
     ·exact .map p kt et OT rU b Nk rZ bh wY ht ⟨l1,l0⟩ l2 (fun i en x gL hx=>(q1 i en x gL hx).ext (by omega) gh) (fun i en x gL hx=>(q2 i en x gL hx).ext (by omega) gh)
     ·rintro rfl
      rw[ht]at dJ
      injection dJ with t1 t2
      subst t1;subst t2
      rcases hq with hq | hq
      ·exact hq rfl
      ·have:=(bX p p).2 ⟨[],by simp⟩
       rw[this]at hq;cases hq
     ·cases q with
      | nil=>exact .inr ⟨⟨fun _=>by rw[bq];simp[AO.at],fun _ _ h=>by simp[AO.at]at h,fun _ _ h=>by simp[AO.at,AO.iF]at h⟩,rfl⟩
      | cons i q=>exact .inl rfl
     ·refine⟨by rw[←O8],by rw[←O8],by rw[←O8],by omega,gh,fun c jW dJ=>⟨dJ,tO c (by rintro rfl;rw[ht]at dJ;cases dJ)⟩,fun c dJ=>⟨dJ, ?_⟩,fun c hc=>h.inv.fresh c (by omega)⟩
      rcases Nat.lt_or_ge c w.heap.size with h' | h'
      ·exact h'
      ·rw[h.inv.fresh c h']at dJ;cases dJ
    have SV:∀e,(Instr.checkKey e 10000 kt (a.eval k)).run P w= .ok () w:=fun e=>run_checkKey OX e 9999 _
    rcases lI (i0:=0) R3 OX xz V8 QB (fun i en x gL hx=>h1 i en x (by simpa using gL) hx)with ⟨e1,e2,_⟩ | ⟨j,en,ov,y,q1,q2,q3,q4,q5,q6,_⟩
    ·refine fin (es.push {key:=a.eval k,val:=a.eval v,born:=clock}) (clock+1) _ _ ?_ (Bl jw) ?_ ?_ ?_ ?_ kK
     ·rw[dV]
      simp only[Instr.mapUpdate,Sem.run_bind,run_underlying hu,Result.andThen_ok,Go.V.run_getObj_map hh,SV,Instr.findKey,run_underlying R3,e1,Sem.run_pure,nD _ hh]
     ·simp[ke,e2,DA]
     ·simp[kf,e2,nz]
     ·intro i en x gL hx
      simp only[ke,e2]at hx
      rw[Array.getElem?_push]at gL
      split at gL
      ·rename_i hi
       cases gL
       rw[List.getElem?_append_right (by omega)]at hx
       rw[hi, ←DA,Nat.sub_self]at hx
       simp at hx;subst hx;exact xz
      ·rw[List.getElem?_append_left (by have:=(Array.getElem?_eq_some_iff.1 gL).1;omega)]at hx
       exact h1 i en x gL hx
     ·intro i en x gL hx
      simp only[kf,e2]at hx
      rw[Array.getElem?_push]at gL
      split at gL
      ·rename_i hi
       cases gL
       rw[List.getElem?_append_right (by omega)]at hx
       rw[hi, ←nz,Nat.sub_self]at hx
       simp at hx;subst hx;exact Qz
      ·rw[List.getElem?_append_left (by have:=(Array.getElem?_eq_some_iff.1 gL).1;omega)]at hx
       exact h2 i en x gL hx
    ·have UW:es[j]? =some en:=by simpa using q1
     have hold:=h1 j en y UW q3
     rw[Nat.zero_add]at q5 q6
     refine fin (es.modify j fun e=> {e with key:=a.eval k,val:=a.eval v}) clock _ _ ?_ (xc jw) ?_ ?_ ?_ ?_ kK
     ·rw[dV]
      simp only[Instr.mapUpdate,Sem.run_bind,run_underlying hu,Result.andThen_ok,Go.V.run_getObj_map hh,SV,Instr.findKey,run_underlying R3,q5,Sem.run_pure,UW,Option.map_some,Option.getD_some,Instr.keyThatStays,yU OX xz hold q4,if_true,nD _ hh]
     ·simp[ke,q6,DA]
     ·simp[kf,q6,nz]
     ·intro i Nd x gL hx
      simp only[ke,q6]at hx
      rw[Array.getElem?_modify]at gL
      rw[List.getElem?_set]at hx
      split at gL
      ·rename_i Hp
       subst Hp
       rw[if_pos rfl]at hx
       split at hx
       ·cases hx
        rw[UW]at gL
        simp at gL;subst gL;exact xz
       ·cases hx
      ·rename_i Hp
       rw[if_neg Hp]at hx
       exact h1 i Nd x gL hx
     ·intro i Nd x gL hx
      simp only[kf,q6]at hx
      rw[Array.getElem?_modify]at gL
      rw[List.getElem?_set]at hx
      split at gL
      ·rename_i Hp
       subst Hp
       rw[if_pos rfl]at hx
       split at hx
       ·cases hx
        rw[UW]at gL
        simp at gL;subst gL;exact Qz
       ·cases hx
      ·rename_i Hp
       rw[if_neg Hp]at hx
       exact h2 i Nd x gL hx
  ·cases hk
 ·cases hk
theorem r4 (bu:ct P call) (h:Good P N st a hv w g) (br:ey N o) (gi:∀i,o.dst=some i→i<N) (SW:fJ P o st=true) (hk:j7 P call N o st K=some r) (ag:fB P N hv w g K r next):o.wp P a w next Q:=by
 cases aM:o.op with
 | build T ps=>simp only[j7,aM]at hk;exact p6 bu h br gi _ hk ag
 | buildSlice T n ps=>simp only[j7,aM]at hk;exact p6 bu h br gi _ hk ag
 | assign x=>
  cases x with
  | tmp i=>
   have hi:i<N:=by have:=br (.tmp i) (by simp[aM,Op.operands]);simpa[bL]using this
   cases hd:o.dst with
   | none=>simp[j7,aM,hd]at hk
   | some d=>
    simp only[j7,aM,hd]at hk
    split at hk
    ·rename_i z hz
     obtain⟨hc,hk⟩:=aH hk
     simp only[Bool.not_eq_true',cQ,decide_eq_false_iff_not]at hc
     by_cases Bd:z= .dead
     ·subst Bd
      simp[fJ,aM,hz]at SW
     ·exact Dn h aM hd hi (gi d hd) hc hz Bd hk ag
    ·rename_i s AD
     cases hc:Nat.beq d s with
     | false=>simp[hc]at hk
     | true=>
      have yE:=Nat.eq_of_beq_eq_true hc
      subst yE
      simp only[Nat.beq_refl,cond_true]at hk
      split at hk
      ·cases hk
      ·rename_i z Nl hz
       exact uQ h aM hd hi (gi d hd) AD hz (fun hh=>Nl (by rw[hh])) hk ag
      ·cases hk
    ·cases hk
  | _=>simp[j7,aM]at hk
 | store T addr x=>exact Hw h aM br hk ag
 | load T addr=>exact Kb bu h aM br gi hk ag
 | box E x=>exact NP h aM br gi hk ag
 | slice T x lo hi mx=>
  cases mx with
  | none=>exact Hv h aM br gi hk ag
  | some _=>simp only[j7,aM]at hk;exact p6 bu h br gi _ hk ag
 | makeFunc fn first cap=>exact yT bu h aM br gi hk ag
 | mapUpdate T m k v=>exact xd h aM br hk ag
 | call c=>
  cases AB:c.callee with
  | builtin b=>
   cases b with
   | append=>exact Dw h aM AB br gi hk ag
   | _=>simp[j7,aM,AB]at hk
  | value v=>
   cases v with
   | func f=>exact Kh bu h aM AB br gi hk ag
   | _=>simp[j7,aM,AB]at hk
  | _=>simp[j7,aM,AB]at hk
 | _=>simp[j7,aM]at hk
theorem uX (bu:ct P call) (h:Good P N st a hv w g) (hd:sO N o=true) (hk:C4 P call N o st K=some r) (ag:fB P N hv w g K r next):o.wp P a w next Q:=by
 obtain⟨br,gi⟩:=gm hd
 unfold C4 at hk
 cases hl:fJ P o st with
 | true=>simp only[hl,cond_true]at hk;exact r4 bu h br gi hl hk ag
 | false=>simp only[hl,cond_false]at hk;exact l9 bu h br hk (o9 h gi ag)
end
end Go.V
namespace Go.V
section
variable {P:Program} {N:Nat} {st aZ:St} {a:Act} {hv:List Value} {w w':World} {g g':G} {K:St→R} {r:List AO×List AO} {o:Oper} {next:Act→World→Prop} {Q:Exit→Act→World→Prop} {call:aw} {ops:Array Oper}
theorem Good.bool (h:Good P N st a hv w g) {d:Nat} (hd:d<N) {v:PV} (hg:get st d= .o (.pv .bool v)):v= .bool v.toBool∧a.eval (.tmp d)= .bool v.toBool:=by
 have hs:=h.cb hd hg
 cases hs with
 | o _ _ eD fq=>
  obtain⟨b,rfl,hb⟩:=fq.eK.dR
  exact⟨rfl,by rw[eD (by simp)];exact hb⟩
theorem Good.known (h:Good P N st a hv w g) {d:Nat} (hd:d<N) {v:PV} (hg:get st d= .o (.pv .bool v)) {b:Bool} (hb:v.toBool=b):known d b st=st:=by
 have bh:=(h.bool hd hg).1
 have hl:=h.len
 have b6:d<st.length:=Nat.lt_of_lt_of_le hd (by rw[hl];exact Nat.le_add_right _ _)
 have nR:st[d]? =some (.o (.pv .bool (.bool b))):=by
  rw[get,bZ,List.getElem?_eq_getElem b6]at hg
  rw[List.getElem?_eq_getElem b6, ←hb, ←bh]
  simpa using hg
 unfold V.known
 apply List.ext_getElem?
 intro i
 rw[List.getElem?_set]
 split
 ·rename_i hi
  subst hi
  rw[nR]
 ·rfl
theorem Good.DB (h:Good P N st a hv w g) {j d:Nat} (hj:(ops[j]?).bind (·.dst)=some d) (hd:d<N) {v:PV} (hg:get st d= .o (.pv .bool v)):yielded ops a.tmps j=some v.toBool:=by
 have hb:=(h.bool hd hg).2
 have eC:=h.sz
 unfold yielded
 rw[hj,Option.bind_some]
 simp only[Act.eval]at hb
 have b6:d<a.tmps.size:=by omega
 rw[Array.getD,dif_pos b6]at hb
 rw[Array.getElem?_eq_getElem b6]
 have rN:a.tmps[d]= .bool v.toBool:=hb
 simp[rN]
theorem lh (hg:o.guard=none) (y:Nat→Option Bool):Region.wanted o y=true:=by unfold Region.wanted;rw[hg]
theorem oC {j:Nat} {want b:Bool} (hg:o.guard=some (j,want)) {y:Nat→Option Bool} (hy:y j=some b):Region.wanted o y=(b==want):=by
 unfold Region.wanted;rw[hg]
 simp only[hy]
 cases b<;>cases want<;>rfl
theorem Good.skip (h:Good P N st a hv w g) (hd:∀i,o.dst=some i→i<N):Good P N (V.gy o.dst (.jg []) st) (a.put o.dst undef) hv w g:=
 h.gy hd (uB.refl w g _ h.inv.fresh) (fun _ _=> .jg [] [] rfl (fun i x v hx=>by simp at hx))
theorem Good.uY (h:Good P N st a hv w g) {j d:Nat} (hj:(ops[j]?).bind (·.dst)=some d) (hd:d<N) (hg:get st d= .jg []):yielded ops a.tmps j=none:=by
 have hs:=h.cb hd hg
 have hb:a.eval (.tmp d)= .tuple #[]:=by
  generalize a.eval (.tmp d)=v at hs
  cases hs with
  | jg _ vs hl _=>
   have:vs=[]:=List.eq_nil_of_length_eq_zero hl
   subst this;rfl
 have eC:=h.sz
 unfold yielded
 rw[hj,Option.bind_some]
 simp only[Act.eval]at hb
 have b6:d<a.tmps.size:=by omega
 rw[Array.getD,dif_pos b6]at hb
 rw[Array.getElem?_eq_getElem b6]
 have rN:a.tmps[d]= .tuple #[]:=hb
 simp[rN]
theorem r8 {j:Nat} {want:Bool} (hg:o.guard=some (j,want)) {y:Nat→Option Bool} (hy:y j=none):Region.wanted o y=false:=by
 unfold Region.wanted;rw[hg]
 simp only[hy]
 cases want<;>rfl
theorem oD (bu:ct P call):∀(l:List Nat) (st:St) (a:Act) (w:World) (g:G),Good P N st a hv w g→gu P call N ops l st K=some r→fB P N hv w g K r (Q .normal)→wpOps P ops Q l a w
 | [],st,a,w,g,h,hk,ag=>by
  simp only[gu]at hk
  exact ag st a w g h (Fr.refl w g h.inv.fresh) hk
 | i::rest,st,a,w,g,h,hk,ag=>by
  simp only[gu]at hk
  split at hk
  ·cases hk
  ·rename_i o ho
   obtain⟨br,hk⟩:=aH hk
   have gi:=(gm br).2
   have go:∀gD,Good P N gD a hv w g→C4 P call N o gD (fun st=>gu P call N ops rest st K)=some r→o.wp P a w (wpOps P ops Q rest) Q:=fun gD h1 hk=>
    uX bu h1 br hk (fun aZ a' w' g' hg hf hk=>oD bu rest aZ a' w' g' hg hk (fun s1 a1 w1 g1 SX J6 sW=>ag s1 a1 w1 g1 SX (hf.trans J6) sW))
   have no:∀gD,Good P N gD a hv w g→gu P call N ops rest (gy o.dst (.jg []) gD) K=some r→wpOps P ops Q rest (a.put o.dst undef) w:=fun gD h1 hk=>
    oD bu rest _ _ w g (h1.skip gi) hk ag
   simp only[wpOps,ho]
   split at hk
   ·rename_i hg
    rw[if_pos (lh hg _)]
    exact .inl (go st h hk)
   ·rename_i j want hg
    split at hk
    ·rename_i d hj
     split at hk
     ·rename_i v nR
      obtain⟨hd,hk⟩:=aH hk
      have hd:=of_decide_eq_true hd
      have hw:=oC hg (h.DB hj hd nR)
      rw[hw]
      cases xe:v.toBool with
      | true=>
       rw[xe]at hk
       rw[h.known hd nR xe]at hk
       cases want with
       | true=>simp only[cond_true]at hk;rw[if_pos (by rfl)];exact .inl (go st h hk)
       | false=>simp only[cond_true,cond_false]at hk;rw[if_neg (by decide)];exact no st h hk
      | false=>
       rw[xe]at hk
       rw[h.known hd nR xe]at hk
       cases want with
       | true=>simp only[cond_true,cond_false]at hk;rw[if_neg (by decide)];exact no st h hk
       | false=>simp only[cond_false]at hk;rw[if_pos (by rfl)];exact .inl (go st h hk)
     ·rename_i nR
      obtain⟨hd,hk⟩:=aH hk
      have hd:=of_decide_eq_true hd
      rw[r8 hg (h.uY hj hd nR),if_neg (by decide)]
      exact no st h hk
     ·cases hk
    ·cases hk
end
end Go.V
namespace Go.V
section
variable {P:Program} {st:St} {o:Oper} {call:aw} {α β:Type}
theorem dZ (c:Bool) (x y:Option α) (K:α→Option β):(bif c then x else y).bind K=bif c then x.bind K else y.bind K:=by cases c<;>rfl
theorem xE (t:TypeId) (x:Operand) (K:AV→Option α):rO P t st x K=(rO P t st x some).bind K:=by
 unfold rO
 split
 ·split<;>rfl
 ·rfl
 ·rfl
theorem DC (op:BinOp) (k:IntKind) (x y:Int) (K:AV→Option α):nS op k x y K=(nS op k x y some).bind K:=by
 cases op<;>simp only[nS,dZ,Option.bind_some,Option.bind_none]
theorem DD (op:BinOp) (x y:ByteArray) (K:AV→Option α):nT op x y K=(nT op x y some).bind K:=by
 cases op<;>simp only[nT,dZ,Option.bind_some,Option.bind_none]
theorem Hx (op:BinOp) (t:TypeId) (x y:Operand) (K:AV→Option α):AL P op t st x y K=(AL P op t st x y some).bind K:=by
 have other:∀op,(match rd P st t x,rd P st t y with
  | some a,some b=>
   match ai P t with
   | .int k=>nS op k a.toInt b.toInt K
   | .str=>nT op a.toStr b.toStr K
   | .bool=>
    match op with
    | .eql=>K (.o (.pv .bool (.bool (a.toBool==b.toBool))))
    | .neq=>K (.o (.pv .bool (.bool (!(a.toBool==b.toBool)))))
    | _=>none
   | .st _=>
    match(bif P.eqGuardType P.depth t then none else C3 P deep t a b)with
    | some e=>
     match op with
     | .eql=>K (.o (.pv .bool (.bool e)))
     | .neq=>K (.o (.pv .bool (.bool (!e))))
     | _=>none
    | none=>none
   | _=>none
  | _,_=>none)=Option.bind (match rd P st t x,rd P st t y with
  | some a,some b=>
   match ai P t with
   | .int k=>nS op k a.toInt b.toInt some
   | .str=>nT op a.toStr b.toStr some
   | .bool=>
    match op with
    | .eql=>some (.o (.pv .bool (.bool (a.toBool==b.toBool))))
    | .neq=>some (.o (.pv .bool (.bool (!(a.toBool==b.toBool)))))
    | _=>none
   | .st _=>
    match(bif P.eqGuardType P.depth t then none else C3 P deep t a b)with
    | some e=>
     match op with
     | .eql=>some (.o (.pv .bool (.bool e)))
     | .neq=>some (.o (.pv .bool (.bool (!e))))
     | _=>none
    | none=>none
   | _=>none
  | _,_=>none) K:=by
  intro op
  split
  ·split
   ·exact DC _ _ _ _ _
   ·exact DD _ _ _ _
   ·split<;>rfl
   ·split
    ·split<;>rfl
    ·rfl
   ·rfl
  ·rfl
 cases op<;>simp only[AL]<;>first
  | exact other _
  | (
   split
   ·simp only[dZ,Option.bind_some,Option.bind_none]
   ·rfl)
theorem Kj (op:UnOp) (t:TypeId) (x:Operand) (K:AV→Option α):Qp P op t st x K=(Qp P op t st x some).bind K:=by
 unfold Qp
 split
 ·split<;>rfl
 ·rfl
theorem xF (T:TypeId) (c:Option (List AO×List AO)) (K:AV→Option α):yt P T c K=(yt P T c some).bind K:=by
 unfold yt
 split
 ·rw[dZ];rfl
 ·rw[dZ,dZ];rfl
 ·rw[Option.bind_assoc]
  congr 1
  funext r
  split<;>rfl
 ·rw[dZ];rfl
theorem DE (c:Call) (T:TypeId) (fo:Operand) (K:AV→Option α):qC P call c T st fo K=(qC P call c T st fo some).bind K:=by
 unfold qC
 split
 ·split
  ·rw[dZ, ←xF];rfl
  ·rfl
 ·split
  ·rw[dZ]
   split
   ·rw[dZ, ←xF];rfl
   ·rfl
  ·rfl
 ·rfl
theorem oE (K:AV→Option α):dX P call o st K=(dX P call o st some).bind K:=by
 cases aM:o.op<;>simp only[dX,aM]
 case move=>exact xE _ _ _
 case assign=>exact xE _ _ _
 case binOp=>exact Hx _ _ _ _ _
 case unOp=>exact Kj _ _ _ _
 all_goals try simp only[dZ,Option.bind_some,Option.bind_none,Option.bind_assoc]
 all_goals (repeat' split)
 all_goals try simp only[dZ,Option.bind_some,Option.bind_none,Option.bind_assoc]
 all_goals (repeat' split)
 all_goals try simp only[Option.bind_none]
 all_goals exact DE _ _ _ _
end
end Go.V
namespace Go.V
def Ag (st aZ:St) (x:Operand):Prop:=∀s∈aP st x,get aZ s=get st s
section
variable {P:Program} {st aZ:St} {o:Oper} {call:aw} {α:Type} {x:Operand}
theorem Ag.tmp {i:Nat} (h:Ag st aZ (.tmp i)):get aZ i=get st i:=h i (by simp[aP])
theorem Ag.root {i s:Nat} {p:List Nat} (h:Ag st aZ (.tmp i)) (hs:get st i= .al s p∨(∃off,get st i= .ptr s p off)∨∃j off,get st i= .el s p j off) (q:List Nat):obj aZ s q=obj st s q:=by
 have:get aZ s=get st s:=h s (by rcases hs with hs | ⟨_,hs⟩ | ⟨_,_,hs⟩<;>simp[aP,hs])
 unfold obj;rw[this]
theorem Ag.gK {i:Nat} (h:Ag st aZ (.tmp i)) (t:Ty):(get aZ i).gK aZ t=(get st i).gK st t:=by
 rw[h.tmp]
 cases hg:get st i with
 | al s p=>simp only[AV.gK];rw[h.root (.inl hg)]
 | _=>rfl
theorem Ag.rd (h:Ag st aZ x) (t:TypeId):V.rd P aZ t x=V.rd P st t x:=by
 cases x with
 | tmp i=>exact h.gK _
 | _=>rfl
theorem Ag.fH (h:Ag st aZ x) (E:TypeId):V.fH aZ E x=V.fH st E x:=by
 cases x with
 | tmp i=>
  simp only[V.fH]
  rw[h.tmp]
  cases hg:get st i with
  | al s p=>simp only[AV.elems];rw[h.root (.inl hg)]
  | o y=>cases y<;>rfl
  | _=>rfl
 | const v=>
  cases v with
  | slice a n c=>cases a<;>cases n<;>cases c<;>rfl
  | _=>rfl
 | _=>rfl
theorem Ag.ck (h:Ag st aZ x):V.ck aZ x=V.ck st x:=by
 cases x with
 | tmp i=>
  simp only[V.ck]
  rw[h.tmp]
  cases hg:get st i with
  | al s p=>simp only;rw[h.root (.inl hg)]
  | o y=>
   cases y with
   | pv t v=>cases t<;>rfl
   | _=>rfl
  | _=>rfl
 | const v=>cases v<;>rfl
 | _=>rfl
theorem Ag.cV (h:Ag st aZ x):V.cV aZ x=V.cV st x:=by
 cases x with
 | tmp i=>
  simp only[V.cV]
  rw[h.tmp]
  cases hg:get st i with
  | al s p=>simp only;rw[h.root (.inl hg)]
  | o y=>cases y<;>rfl
  | _=>rfl
 | _=>rfl
theorem Ag.lR {i:Nat} (h:Ag st aZ (.tmp i)):V.lR aZ (get aZ i)=V.lR st (get st i):=by
 rw[h.tmp]
 cases hg:get st i with
 | al s p=>simp only[V.lR];rw[h.root (.inl hg)]
 | o y=>
  cases y with
  | pv t v=>cases t<;>first | rfl | (cases v<;>rfl)
  | _=>rfl
 | _=>rfl
theorem Ag.nU (h:Ag st aZ x) (k e:TypeId):V.nU aZ k e x=V.nU st k e x:=by
 cases x with
 | tmp i=>
  simp only[V.nU]
  rw[h.tmp]
  cases hg:get st i with
  | al s p=>simp only;rw[h.root (.inl hg)]
  | o y=>
   cases y with
   | pv t v=>cases t<;>rfl
   | _=>rfl
  | _=>rfl
 | _=>rfl
theorem Ag.de (h:Ag st aZ x):V.de aZ x=V.de st x:=by
 cases x with
 | tmp i=>
  simp only[V.de]
  rw[h.tmp]
  cases hg:get st i with
  | al s p=>simp only;rw[h.root (.inl hg)]
  | o y=>cases y<;>rfl
  | _=>rfl
 | _=>rfl
theorem Ag.yV (h:Ag st aZ x) {s:Nat} {p:List Nat} (hl:V.cV st x=some (s,p)):obj aZ s p=obj st s p:=by
 cases x with
 | tmp i=>
  simp only[V.cV]at hl
  split at hl
  ·cases hl;unfold obj;rw[h.tmp]
  ·cases hl;unfold obj;rw[h.tmp]
  ·cases hl;unfold obj;rw[h.tmp]
  ·cases hl;unfold obj;rw[h.tmp]
  ·rename_i s' p' hg
   split at hl
   ·cases hl;exact h.root (.inl hg) _
   ·cases hl;exact h.root (.inl hg) _
   ·cases hl;exact h.root (.inl hg) _
   ·cases hl;exact h.root (.inl hg) _
   ·cases hl
  ·cases hl
 | _=>simp[V.cV]at hl
theorem Ag.nameOf (h:Ag st aZ x):V.nameOf aZ x=V.nameOf st x:=by
 unfold V.nameOf
 rw[h.cV]
 split
 ·rename_i s p hl;rw[h.yV hl]
 ·rfl
theorem Ag.kg {l:List (Nat×Operand)} (h:∀p∈l,Ag st aZ p.2):V.kg aZ l=V.kg st l:=by
 induction l with
 | nil=>rfl
 | cons q l ih=>
  simp only[V.kg,List.any_cons]at ih ⊢
  rw[(h q List.mem_cons_self).nameOf,ih (fun p hp=>h p (List.mem_cons_of_mem _ hp))]
theorem Ag.df {fs:List Field}:∀ {l:List (Nat×Operand)} {cs:List ek},(∀p∈l,Ag st aZ p.2)→V.df P aZ fs cs l=V.df P st fs cs l
 | [],_,_=>rfl
 | (i,x)::r,cs,h=>by
  have hx:Ag st aZ x:=h (i,x) List.mem_cons_self
  have ih:∀cs,V.df P aZ fs cs r=V.df P st fs cs r:=fun cs=>Ag.df (l:=r) (fun p hp=>h p (List.mem_cons_of_mem _ hp))
  simp only[V.df,hx.nameOf,hx.rd,ih]
theorem Ag.yW (h:Ag st aZ x) {s off:Nat} {p:List Nat} (hl:V.de st x=some (s,p,off)):obj aZ s p=obj st s p:=by
 cases x with
 | tmp i=>
  simp only[V.de]at hl
  split at hl
  ·cases hl;unfold obj;rw[h.tmp]
  ·rename_i s' p' hg
   split at hl
   ·cases hl;exact h.root (.inl hg) _
   ·cases hl
  ·rename_i s' p' Sq hg
   cases hl;exact h.root (.inr (.inl ⟨_,hg⟩)) _
  ·cases hl
 | _=>simp[V.de]at hl
theorem Ag.parts {T:TypeId} {fs:List Field}:∀ {l:List (Nat×Operand)},(∀p∈l,Ag st aZ p.2)→V.parts P aZ T fs l=V.parts P st T fs l
 | [],_=>rfl
 | (i,x)::r,h=>by
  simp only[V.parts]
  rw[Ag.parts (l:=r) (fun p hp=>h p (List.mem_cons_of_mem _ hp))]
  split
  ·rw[(h (i,x) List.mem_cons_self).rd]
  ·rfl
theorem mapM_congr {β γ:Type} {f g:β→Option γ}:∀ {l:List β},(∀x∈l,f x=g x)→l.mapM f=l.mapM g
 | [],_=>rfl
 | x::l,h=>by
  simp only[List.mapM_cons]
  rw[h x List.mem_cons_self,mapM_congr (fun y hy=>h y (List.mem_cons_of_mem _ hy))]
theorem mh (hA:∀x∈o.op.operands,Ag st aZ x) (K:AV→Option α):dX P call o aZ K=dX P call o st K:=by
 have V9:∀x,(x∈o.op.operands)→rO P o.type aZ x K=rO P o.type st x K:=by
  intro x hx
  unfold rO
  cases x with
  | tmp i=>simp only;rw[(hA _ hx).tmp]
  | _=>rfl
 cases aM:o.op<;>simp only[dX,aM]<;>simp only[aM,Op.operands]at hA V9
 case move x=>exact V9 x (by simp)
 case assign x=>exact V9 x (by simp)
 case pick c a b=>
  have hc:=hA c (by simp)
  have ha:=hA a (by simp)
  have hb:=hA b (by simp)
  cases c with
  | tmp i=>simp only;rw[hc.gK,ha.rd,hb.rd]
  | _=>rfl
 case box E x=>rw[(hA x (by simp)).rd]
 case load T addr=>
  have hx:=hA addr (by simp)
  cases addr with
  | tmp i=>
   simp only
   rw[hx.lR,hx.de]
   split
   ·rfl
   ·rw[hx.tmp]
    split
    ·rename_i s p off hp
     rw[hx.yW hp]
    ·split
     ·rename_i s p j off hg
      rw[hx.root (.inr (.inr ⟨_,_,hg⟩))]
     ·rfl
  | _=>rfl
 case nilCheck x=>
  have hx:=hA x (by simp)
  cases x with
  | tmp i=>
   simp only
   rw[hx.tmp]
   split
   ·rfl
   ·rename_i s p hg;rw[hx.root (.inl hg)]
   ·rename_i s p off hg;rw[hx.root (.inr (.inl ⟨_,hg⟩))]
   ·rename_i s p j off hg;rw[hx.root (.inr (.inr ⟨_,_,hg⟩))]
   ·rfl
   ·rfl
   ·rfl
  | _=>rfl
 case binOp op t x y _=>
  have hx:=hA x (by simp)
  have hy:=hA y (by simp)
  cases op<;>simp only[AL]<;>rw[hx.rd]<;>first | rw[hy.rd] | rw[hy.ck]
 case unOp op t x=>unfold Qp;rw[(hA x (by simp)).rd]
 case convert src dst x=>
  have hx:=hA x (by simp)
  rw[hx.rd]
  split
  ·rfl
  ·rfl
  ·rfl
  ·rename_i e _ _;rw[hx.fH]
  ·rfl
 case makeInterface t x=>rw[(hA x (by simp)).rd]
 case fieldAddr T x f=>
  have hx:=hA x (by simp)
  rw[hx.de]
  split
  ·split
   ·congr 1
    split
    ·rename_i s p off hp;rw[hx.yW hp]
    ·cases x with
     | tmp i=>
      simp only
      rw[hx.lR]
      split
      ·rfl
      ·rw[hx.tmp]
       split
       ·rename_i s p j off hg;rw[hx.root (.inr (.inr ⟨_,_,hg⟩))]
       ·rfl
     | _=>rfl
   ·rfl
  ·rfl
 case field T x f=>rw[(hA x (by simp)).rd]
 case indexAddr T x ix=>
  have hx:=hA x (by simp)
  rw[hx.cV,(hA ix (by simp)).ck,hx.rd]
  split
  ·split
   ·rename_i s p hl;rw[hx.yV hl]
   ·rfl
  ·split
   ·congr 1
    rw[hx.de]
    split
    ·rename_i s p off hp;rw[hx.yW hp]
    ·cases x with
     | tmp i=>simp only;rw[hx.lR]
     | _=>rfl
   ·rfl
  ·rfl
 case index T x ix=>
  rw[(hA x (by simp)).rd,(hA ix (by simp)).ck]
 case slice T x lo hi mx=>
  have hx:=hA x (by simp)
  have fy:∀y,lo=some y→Ag st aZ y:=fun y hy=>hA y (by simp[hy])
  have Jq:∀y,hi=some y→Ag st aZ y:=fun y hy=>hA y (by simp[hy])
  rw[hx.rd]
  cases mx with
  | some z=>
   have hz:=hA z (by simp)
   simp only
   rw[hz.ck]
   cases lo<;>cases hi<;>simp only
   ·rename_i y;rw[(Jq y rfl).ck]
   ·rename_i y;rw[(fy y rfl).ck]
   ·rename_i y z;rw[(fy y rfl).ck,(Jq z rfl).ck]
  | none=>
   cases lo<;>cases hi<;>simp only
   ·rename_i y;rw[(Jq y rfl).ck]
   ·rename_i y;rw[(fy y rfl).ck]
   ·rename_i y z;rw[(fy y rfl).ck,(Jq z rfl).ck]
 case build T ps=>
  have:∀T fs,V.parts P aZ T fs ps.toList=V.parts P st T fs ps.toList:=fun T fs=>Ag.parts (fun p hp=>hA p.2 (by
   simp only[List.mem_toArray,List.mem_map];exact⟨p,hp,rfl⟩))
  have xG:∀p∈ps.toList,Ag st aZ p.2:=fun p hp=>hA p.2 (by
   simp only[List.mem_toArray,List.mem_map];exact⟨p,hp,rfl⟩)
  have hm:∀e,(ps.toList.mapM fun p=>V.rd P aZ e p.2:Option (List PV))=ps.toList.mapM fun p=>V.rd P st e p.2:=fun e=>mapM_congr (fun p hp=>(xG p hp).rd _)
  split
  ·rw[hm]
  ·rw[Ag.kg xG,this]
   congr 1
   split
   ·rw[Ag.df xG]
   ·rfl
  ·rfl
 case lookup T x ix ok=>
  split
  ·rw[(hA x (by simp)).nU,(hA ix (by simp)).rd]
  ·rfl
 case makeFunc fn first cap=>
  split
  ·congr 1
   have:(cap.toList.mapM (Ft aZ):Option (List PV))=cap.toList.mapM (Ft st):=mapM_congr (fun x hx=>by
    cases x with
    | tmp i=>exact(hA (.tmp i) (by simp only[Array.mem_append];exact .inr (Array.mem_toList_iff.1 hx))).gK _
    | _=>rfl)
   rw[this]
  ·rfl
 case buildSlice T n ps=>
  have:∀E,(ps.toList.mapM fun p=>V.rd P aZ E p.2:Option (List PV))=ps.toList.mapM fun p=>V.rd P st E p.2:=fun E=>mapM_congr (fun p hp=>(hA p.2 (by
   simp only[List.mem_toArray,List.mem_map];exact⟨p,hp,rfl⟩)).rd _)
  split
  ·rw[this]
  ·rfl
 case makeSlice T n c=>rw[(hA n (by simp)).ck,(hA c (by simp)).ck]
 case extract x i=>
  have hx:=hA x (by simp)
  cases x with
  | tmp t=>simp only;rw[hx.tmp]
  | _=>rfl
 case call c=>
  have hm:∀x∈c.args.toList,Ag st aZ x:=fun x hx=>hA x (by
   simp only[Call.operands,Array.mem_append];exact .inr (Array.mem_toList_iff.1 hx))
  split
  ·split
   ·rename_i T x hT hx
    have hx:=hm x (Array.mem_toList_iff.2 (Array.mem_of_getElem? hx))
    rw[hx.rd]
    split
    ·rfl
    ·rw[hx.fH,hx.cV]
     split
     ·rfl
     ·split
      ·rename_i s p hl;rw[hx.yV hl]
      ·rfl
    ·rw[hx.nU]
    ·rfl
   ·rfl
  ·split
   ·rename_i x y hc
    rw[(hm x (by simp[hc])).rd,(hm y (by simp[hc])).rd]
   ·rfl
  ·split
   ·rename_i x y hc
    rw[(hm x (by simp[hc])).rd,(hm y (by simp[hc])).rd]
   ·rfl
  ·rename_i fo hfo
   unfold qC
   have this:((c.args.toList.zip c.argTypes.toList).mapM fun p=>(V.rd P aZ p.2 p.1).map fun v=>AO.pv (ai P p.2) v)=(c.args.toList.zip c.argTypes.toList).mapM fun p=>(V.rd P st p.2 p.1).map fun v=>AO.pv (ai P p.2) v:=mapM_congr (fun p hp=>by
    rw[(hm p.1 (List.of_mem_zip hp).1).rd])
   split
   ·rw[this]
   ·rename_i t
    have ht:Ag st aZ (.tmp t):=hA _ (by simp only[Call.operands,hfo,Array.mem_append];exact .inl (by simp))
    rw[ht.gK,this]
   ·rfl
  ·rfl
end
end Go.V
namespace Go.V
section
variable {P:Program} {N:Nat} {st aZ:St} {o:Oper} {call:aw} {ops:Array Oper}
theorem pc {i d:Nat} (h:(get st i).ar d []=true):d∈aP st (.tmp i):=by
 cases hg:get st i with
 | al s p=>rw[hg]at h;simp only[AV.ar,Bool.and_eq_true,cQ,decide_eq_true_eq]at h;simp[aP,hg,h.1]
 | ptr s p off=>rw[hg]at h;simp only[AV.ar,Bool.and_eq_true,cQ,decide_eq_true_eq]at h;simp[aP,hg,h.1]
 | el s p j off=>rw[hg]at h;simp only[AV.ar,Bool.and_eq_true,cQ,decide_eq_true_eq]at h;simp[aP,hg,h.1]
 | lE T cs=>
  rw[hg]at h
  simp only[AV.ar,List.any_eq_true]at h
  obtain⟨c,hc,hr⟩:=h
  simp only[aP,hg,List.mem_cons,List.mem_flatMap]
  right
  refine⟨c,hc, ?_⟩
  cases c with
  | pv t v=>simp[ek.ar]at hr
  | nil E=>simp[ek.ar]at hr
  | al s p=>simp only[ek.ar,Bool.and_eq_true,cQ,decide_eq_true_eq]at hr;simp[Fo,hr.1]
 | _=>rw[hg]at h;simp[AV.ar]at h
theorem r9 {x:Operand} {s:Nat} {p:List Nat} (h:cV st x=some (s,p)):s∈aP st x:=by
 cases x with
 | tmp i=>
  simp only[cV]at h
  split at h
  ·cases h;simp[aP]
  ·cases h;simp[aP]
  ·cases h;simp[aP]
  ·cases h;simp[aP]
  ·rename_i s' p' hg
   split at h
   ·cases h;simp[aP,hg]
   ·cases h;simp[aP,hg]
   ·cases h;simp[aP,hg]
   ·cases h;simp[aP,hg]
   ·cases h
  ·cases h
 | _=>simp[cV]at h
theorem DF {x:Operand} {s:Nat} {p:List Nat} (h:nameOf st x=some (s,p)):s∈aP st x:=by
 unfold nameOf at h
 split at h
 ·rename_i s' p' hl
  split at h
  ·cases h;exact r9 hl
  ·cases h;exact r9 hl
  ·cases h
 ·cases h
theorem oF {d:Nat}:∀ {vs cs:List ek} {off:Nat},(kX cs off vs).any (fun c=>c.ar d [])=true→cs.any (fun c=>c.ar d [])=true∨vs.any (fun c=>c.ar d [])=true
 | [],cs,off,h=> .inl h
 | v::vs,cs,off,h=>by
  simp only[kX]at h
  rcases oF h with h | h
  ·rw[List.any_eq_true]at h
   obtain⟨c,hc,hr⟩:=h
   rcases List.mem_or_eq_of_mem_set hc with hc | rfl
   ·exact .inl (List.any_eq_true.2 ⟨c,hc,hr⟩)
   ·exact .inr (by simp[hr])
  ·exact .inr (by simp[h])
theorem pH {d:Nat}:∀(ts:List Ty) (vs:List PV),(jm ts vs).any (fun c=>c.ar d [])=false
 | [],_=>by simp[jm]
 | _::_,[]=>by simp[jm]
 | t::ts,v::vs=>by
  have:=pH (d:=d) ts vs
  simp only[jm,List.any_cons,this,Bool.or_false];rfl
theorem qT {d:Nat}:∀(ts:List Ty) (vs:List PV),(ny ts vs).any (fun c=>c.ar d [])=false
 | [],_=>by simp[ny]
 | _::_,[]=>by simp[ny]
 | t::ts,v::vs=>by
  have:=qT (d:=d) ts vs
  simp only[ny,List.any_cons,this,Bool.or_false]
  cases t<;>rfl
theorem sa {fs:List Field} {d:Nat}:∀ {ps:List (Nat×Operand)} {cs mH:List ek},df P st fs cs ps=some mH→mH.any (fun c=>c.ar d [])=true→
  cs.any (fun c=>c.ar d [])=true∨∃p∈ps,d∈aP st p.2
 | [],cs,mH,h,hr=>by simp[df]at h;subst h;exact .inl hr
 | (i,x)::ps,cs,mH,h,hr=>by
  simp only[df]at h
  split at h
  ·split at h
   ·rename_i s p hn
    obtain⟨_,h⟩:=bg h
    rcases sa h hr with h1 | ⟨q,hq,hd⟩
    ·rw[List.any_eq_true]at h1
     obtain⟨c,hc,Bi⟩:=h1
     rcases List.mem_or_eq_of_mem_set hc with hc | rfl
     ·exact .inl (List.any_eq_true.2 ⟨c,hc,Bi⟩)
     ·simp only[ek.ar,Bool.and_eq_true,cQ,decide_eq_true_eq]at Bi
      rw[Bi.1]
      exact .inr ⟨(i,x),List.mem_cons_self,DF hn⟩
    ·exact .inr ⟨q,List.mem_cons_of_mem _ hq,hd⟩
   ·split at h
    ·obtain⟨_,h⟩:=bg h
     rcases sa h hr with h1 | ⟨q,hq,hd⟩
     ·rcases oF h1 with h1 | h1
      ·exact .inl h1
      ·rw[pH]at h1;cases h1
     ·exact .inr ⟨q,List.mem_cons_of_mem _ hq,hd⟩
    ·cases h
  ·cases h
theorem sb {x:Operand} {s off:Nat} {p:List Nat} (h:de st x=some (s,p,off)):s∈aP st x:=by
 cases x with
 | tmp i=>
  simp only[de]at h
  split at h
  ·cases h;simp[aP]
  ·rename_i s' p' hg
   split at h
   ·cases h;simp[aP,hg]
   ·cases h
  ·rename_i s' p' Sq hg;cases h;simp[aP,hg]
  ·cases h
 | _=>simp[de]at h
theorem qe {α:Type} {c:Bool} {x z:Option α} {y:α} (h:(bif c then x else z)=some y):x=some y∨z=some y:=by
 cases c<;>simp_all
theorem xH {t:TypeId} {x:Operand} {c:AV} {d:Nat} (h:rO P t st x some=some c) (hr:c.ar d []=true):d∈aP st x:=by
 unfold rO at h
 split at h
 ·rename_i i
  split at h
  ·cases h;cases hr
  ·cases h
   simp only[AV.ar,Bool.and_eq_true,cQ,decide_eq_true_eq]at hr
   simp[aP,hr.1]
  ·rename_i v hv
   cases h
   exact pc hr
 ·cases h
  unfold qy at hr
  split at hr
  ·split at hr<;>cases hr
  ·split at hr<;>cases hr
 ·cases h
theorem Bm {op:BinOp} {k:IntKind} {x y:Int} {c:AV} {d:Nat} (h:nS op k x y some=some c):c.ar d []=false:=by
 cases op<;>simp only[nS]at h<;>first
  | (cases h;done)
  | (cases h;rfl)
  | (rcases qe h with h | h<;>cases h;rfl)
theorem Bn {op:BinOp} {x y:ByteArray} {c:AV} {d:Nat} (h:nT op x y some=some c):c.ar d []=false:=by
 cases op<;>simp only[nT]at h<;>first
  | (cases h;done)
  | (cases h;rfl)
  | (rcases qe h with h | h<;>cases h;rfl)
theorem DG {op:BinOp} {t:TypeId} {x y:Operand} {c:AV} {d:Nat} (h:AL P op t st x y some=some c):c.ar d []=false:=by
 cases op<;>simp only[AL]at h<;>(split at h)<;>first
  | (cases h;done)
  | (rcases qe h with h | h<;>first | (cases h;done) | (cases h;rfl))
  | (split at h<;>first
    | (cases h;done)
    | (cases h;rfl)
    | exact Bm h
    | exact Bn h
    | (split at h<;>first | (cases h;done) | (cases h;rfl)))
theorem Hy {c:AV} {d:Nat} (h:dX P call o st some=some c) (hr:c.ar d []=true):∃x∈o.op.operands,d∈aP st x:=by
 cases aM:o.op<;>simp only[dX,aM]at h
 case move x=>exact⟨x,by simp[Op.operands],xH h hr⟩
 case assign x=>exact⟨x,by simp[Op.operands],xH h hr⟩
 case binOp=>rw[DG h]at hr;cases hr
 case unOp=>
  unfold Qp at h
  split at h
  ·split at h<;>cases h<;>cases hr
  ·cases h
 case load T addr=>
  refine⟨addr,by simp[Op.operands], ?_⟩
  split at h
  ·rename_i i
   split at h
   ·split at h<;>cases h
    cases hr
   ·split at h
    ·rename_i s p off hp
     have key:∀p',c= .al s p'→d∈aP st (.tmp i):=by
      intro p' hc
      subst hc
      simp only[AV.ar,Bool.and_eq_true,cQ,decide_eq_true_eq]at hr
      rw[hr.1];exact sb hp
     split at h
     ·cases hA:aO (ai P T)with
      | true=>
       simp only[hA,cond_true]at h
       obtain⟨_,h⟩:=bg h
       split at h<;>cases h
       cases hr
      | false=>
       simp only[hA,cond_false]at h
       obtain⟨_,h⟩:=bg h
       split at h
       ·obtain⟨_,h⟩:=bg h;cases h;cases hr
       ·obtain⟨_,h⟩:=bg h;exact key _ (Option.some.inj h).symm
       ·obtain⟨_,h⟩:=bg h;exact key _ (Option.some.inj h).symm
       ·obtain⟨_,h⟩:=bg h;exact key _ (Option.some.inj h).symm
       ·exact key _ (Option.some.inj h).symm
       ·cases h
     ·cases h
    ·split at h
     ·rename_i s p j off hg
      split at h
      ·split at h<;>cases h
       cases hr
      ·obtain⟨_,h⟩:=bg h
       cases h
       simp only[AV.ar,Bool.and_eq_true,cQ,decide_eq_true_eq]at hr
       simp[aP,hg,hr.1]
      ·cases h
     ·cases h
  ·cases h
 case nilCheck x=>
  refine⟨x,by simp[Op.operands], ?_⟩
  split at h
  ·rename_i i
   split at h
   ·cases h
    simp only[AV.ar,Bool.and_eq_true,cQ,decide_eq_true_eq]at hr
    simp[aP,hr.1]
   ·rename_i hg
    split at h
    ·cases h;rw[←hg]at hr;exact pc hr
    ·cases h;cases hr
    ·cases h
   ·rename_i hg
    split at h
    ·cases h;rw[←hg]at hr;exact pc hr
    ·cases h
   ·rename_i hg
    split at h
    ·cases h;rw[←hg]at hr;exact pc hr
    ·cases h
   ·cases h;cases hr
   ·cases h;cases hr
   ·cases h
  ·cases h
 case fieldAddr T x f=>
  refine⟨x,by simp[Op.operands], ?_⟩
  split at h
  ·split at h
   ·rename_i fd _
    cases h0:Nat.beq (P.cellsOf fd.type) 0 with
    | true=>simp only[h0,cond_true]at h;cases h
    | false=>
     simp only[h0,cond_false]at h
     split at h
     ·rename_i s p off hp
      split at h
      ·cases h
       simp only[AV.ar,Bool.and_eq_true,cQ,decide_eq_true_eq]at hr
       rw[hr.1];exact sb hp
      ·cases h
     ·split at h
      ·rename_i i _
       split at h
       ·cases h;cases hr
       ·split at h
        ·rename_i s p j off hg
         split at h
         ·cases h
          simp only[AV.ar,Bool.and_eq_true,cQ,decide_eq_true_eq]at hr
          simp[aP,hg,hr.1]
         ·cases h
        ·cases h
      ·cases h
   ·cases h
  ·cases h
 case indexAddr T x ix=>
  refine⟨x,by simp[Op.operands], ?_⟩
  split at h
  ·split at h
   ·rename_i s p hl
    split at h
    ·obtain⟨_,h⟩:=bg h
     cases h
     simp only[AV.ar,Bool.and_eq_true,cQ,decide_eq_true_eq]at hr
     rw[hr.1];exact r9 hl
    ·cases h
   ·split at h
    ·obtain⟨_,h⟩:=bg h
     cases h;cases hr
    ·cases h
  ·split at h
   ·obtain⟨_,h⟩:=bg h
    split at h
    ·rename_i s p off hp
     split at h
     ·cases h
      simp only[AV.ar,Bool.and_eq_true,cQ,decide_eq_true_eq]at hr
      rw[hr.1];exact sb hp
     ·cases h
    ·split at h
     ·split at h
      ·cases h;cases hr
      ·cases h
     ·cases h
   ·cases h
  ·cases h
 case build T ps=>
  split at h
  ·exfalso
   split at h
   ·obtain⟨_,h⟩:=bg h
    split at h
    ·cases h;cases hr
    ·cases h
   ·cases h
  ·rename_i fs _
   rcases qe h with h | h
   ·split at h
    ·rename_i z _
     split at h
     ·rename_i cs jN
      obtain⟨_,h⟩:=bg h
      cases h
      rcases sa jN hr with h1 | ⟨p,hp,hd⟩
      ·rw[qT]at h1;cases h1
      ·refine⟨p.2, ?_,hd⟩
       simp only[Op.operands,List.mem_toArray,List.mem_map];exact⟨p,hp,rfl⟩
     ·cases h
    ·cases h
   ·exfalso
    split at h
    ·obtain⟨_,h⟩:=bg h
     cases h;cases hr
    ·cases h
  ·cases h
 case call c'=>
  exfalso
  split at h
  ·split at h
   ·split at h
    ·split at h<;>first | (cases h;done) | (cases h;cases hr)
    ·split at h
     ·cases h;cases hr
     ·split at h
      ·split at h
       ·obtain⟨_,h⟩:=bg h;cases h;cases hr
       ·cases h
      ·cases h
    ·split at h<;>first | (cases h;done) | (cases h;cases hr)
    ·cases h
   ·cases h
  ·split at h
   ·split at h<;>first | (cases h;done) | (cases h;cases hr)
   ·cases h
  ·split at h
   ·split at h<;>first | (cases h;done) | (cases h;cases hr)
   ·cases h
  ·unfold qC at h
   split at h
   ·split at h
    ·obtain⟨_,h⟩:=bg h
     obtain⟨_,_,av,_,h,ND⟩:=qN h
     cases h
     rcases ND with ⟨x,_,rfl⟩ | ⟨rfl,_⟩<;>cases hr
    ·cases h
   ·split at h
    ·obtain⟨_,h⟩:=bg h
     split at h
     ·obtain⟨_,h⟩:=bg h
      obtain⟨_,_,av,_,h,ND⟩:=qN h
      cases h
      rcases ND with ⟨x,_,rfl⟩ | ⟨rfl,_⟩<;>cases hr
     ·cases h
    ·cases h
   ·cases h
  ·cases h
 case makeFunc fn first cap=>
  exfalso
  split at h
  ·obtain⟨_,h⟩:=bg h
   split at h
   ·cases h;cases hr
   ·cases h
  ·cases h
 case lookup T x ix ok=>
  exfalso
  split at h
  ·split at h
   ·obtain⟨_,h⟩:=bg h
    rcases qe h with h | h<;>(cases h;cases hr)
   ·cases h
  ·cases h
 case makeSlice T n c'=>
  exfalso
  split at h
  ·split at h
   ·obtain⟨_,h⟩:=bg h
    split at h
    ·obtain⟨_,h⟩:=bg h;cases h;cases hr
    ·cases h;cases hr
   ·cases h
  ·cases h
 case box E x=>
  exfalso
  split at h
  ·rcases qe h with h | h
   ·cases h;cases hr
   ·obtain⟨_,h⟩:=bg h;cases h;cases hr
  ·cases h
 case pick a b c'=>
  exfalso
  split at h
  ·split at h
   ·rcases qe h with h | h<;>split at h<;>first | (cases h;done) | (cases h;cases hr)
   ·cases h
  ·cases h
 case convert=>
  exfalso
  split at h
  ·split at h<;>first | (cases h;done) | (cases h;cases hr)
  ·split at h<;>first | (cases h;done) | (cases h;cases hr)
  ·split at h
   ·obtain⟨_,h⟩:=bg h;cases h;cases hr
   ·cases h
  ·split at h
   ·obtain⟨_,h⟩:=bg h;cases h;cases hr
   ·cases h
  ·cases h
 all_goals exfalso
 all_goals (repeat' (first | (cases h;done) | (cases h;cases hr;done) | split at h | (obtain⟨_,h⟩:=bg h)))
end
end Go.V
namespace Go.V
theorem xf {α:Type} (d:α) (x:α) (l:List α) (n:Nat):nth d (x::l) (n+1)=nth d l n:=rfl
def xI (ops:Array Oper) (b:List Nat):Prop:=∀i o,ops[i]? =some o→nth 0 b i=CheckFast.one (fun t=>bif decide (t<i)then nth 0 b t else 0) o
theorem FF {α:Type} (K:List Nat→Option α):∀(l:List Oper) (j:Nat) (acc:List Nat),acc.length=j→∃b,Ns K l j acc=K b∧(∀t,t<j→nth 0 b t=nth 0 acc (j-1-t))∧
  ∀i o,l[i]? =some o→nth 0 b (j+i)=CheckFast.one (fun t=>bif decide (t<j+i)then nth 0 b t else 0) o
 | [],j,acc,hl=>by
  refine⟨acc.reverse,rfl,fun t ht=> ?_,fun i o h=>by simp at h⟩
  rw[bZ,bZ,List.getElem?_reverse (by omega),hl]
 | o::rest,j,acc,hl=>by
  simp only[Ns,CheckFast.force_eq]
  obtain⟨b,h1,h2,h3⟩:=FF K rest (j+1) (CheckFast.one (fun i=>bif decide (i<j)then nth 0 acc (j-1-i)else 0) o::acc) (by simp[hl])
  have b6:∀t,t<j→nth 0 b t=nth 0 acc (j-1-t):=by
   intro t ht
   rw[h2 t (by omega)]
   have:j+1-1-t=(j-1-t)+1:=by omega
   rw[this,xf]
  have hj:nth 0 b j=CheckFast.one (fun i=>bif decide (i<j)then nth 0 acc (j-1-i)else 0) o:=by
   rw[h2 j (by omega)]
   have:j+1-1-j=0:=by omega
   rw[this];rfl
  refine⟨b,h1,b6,fun i o' Kk=> ?_⟩
  cases i with
  | zero=>
   simp at Kk
   subst Kk
   rw[Nat.add_zero,hj]
   congr 1
   funext t
   by_cases ht:t<j
   ·simp[ht,b6 t ht]
   ·simp[ht]
  | succ i=>
   have:=h3 i o' (by simpa using Kk)
   rw[show j+1+i=j+(i+1)by omega]at this
   exact this
theorem tf {look:Nat→Nat} {o:Oper} {k:Nat} (h:(CheckFast.one look o).testBit k=true):∃e∈o.after,Region.binds .any e=true∧(e.on=k∨(look e.on).testBit k=true):=by
 have key:∀(l:List Edge) (s:Nat),(l.foldl (fun s e=>if Region.binds .any e then s||| 2 ^ e.on||| look e.on else s) s).testBit k=true→s.testBit k=true∨∃e∈l,Region.binds .any e=true∧(e.on=k∨(look e.on).testBit k=true):=by
  intro l
  induction l with
  | nil=>intro s h;exact .inl h
  | cons e l ih=>
   intro s h
   simp only[List.foldl_cons]at h
   rcases ih _ h with h | ⟨e',JM,h'⟩
   ·split at h
    ·rename_i hb
     rw[Nat.testBit_or,Nat.testBit_or]at h
     simp only[Bool.or_eq_true]at h
     rcases h with (h | h) | h
     ·exact .inl h
     ·rw[Nat.testBit_two_pow]at h
      exact .inr ⟨e,List.mem_cons_self,hb, .inl (by simpa using h)⟩
     ·exact .inr ⟨e,List.mem_cons_self,hb, .inr h⟩
    ·exact .inl h
   ·exact .inr ⟨e',List.mem_cons_of_mem _ JM,h'⟩
 unfold CheckFast.one at h
 rw[←Array.foldl_toList]at h
 rcases key _ _ h with h | ⟨e,he,h'⟩
 ·simp at h
 ·exact⟨e,Array.mem_toList_iff.1 he,h'⟩
def sd (ops:Array Oper) (X:Nat→Bool):Prop:=∀i o,X i=true→ops[i]? =some o→∀e∈o.after,Region.binds .any e=true→X e.on=true
theorem lM {ops:Array Oper} {b:List Nat} (hb:xI ops b) {X:Nat→Bool} (hX:sd ops X):∀(i:Nat) (o:Oper) (k:Nat),ops[i]? =some o→(∀e∈o.after,Region.binds .any e=true→X e.on=true)→(nth 0 b i).testBit k=true→X k=true:=by
 intro i
 induction i using Nat.strongRecOn with
 | _ i ih=>
  intro o k ho Kl hk
  rw[hb i o ho]at hk
  obtain⟨e,he,FG,h | h⟩:=tf hk
  ·rw[←h];exact Kl e he FG
  ·by_cases b6:e.on<i
   ·simp only[b6,decide_true,cond_true]at h
    have hXe:=Kl e he FG
    cases QR:ops[e.on]? with
    | none=>
     exfalso
     have:ops.size≤e.on:=by
      rcases Nat.lt_or_ge e.on ops.size with h' | h'
      ·rw[Array.getElem?_eq_getElem h']at QR;cases QR
      ·exact h'
     have hi:=(Array.getElem?_eq_some_iff.1 ho).1
     omega
    | some oe=>exact ih e.on b6 oe k QR (hX e.on oe hXe QR) h
   ·simp only[b6,decide_false,cond_false]at h
    simp at h
theorem oG:∀ {j:Nat} {l:List Oper},o8 j l=true→∀i o,l[i]? =some o→∀e∈o.after,Region.binds .any e=true→e.on<j+i
 | _,[],_,i,o,h=>by simp at h
 | j,x::l,h,i,o,ho=>by
  simp only[o8,Bool.and_eq_true,List.all_eq_true,Bool.or_eq_true,Bool.not_eq_true',decide_eq_true_eq]at h
  obtain⟨h1,h2⟩:=h
  intro e he hb
  cases i with
  | zero=>
   simp at ho;subst ho
   rcases h1 e (Array.mem_toList_iff.2 he)with h' | h'
   ·rw[hb]at h';cases h'
   ·simpa using h'
  | succ i=>
   have:=oG h2 i o (by simpa using ho) e he hb
   omega
theorem pI:∀ {l:List Nat},distinct l=true→l.Nodup
 | [],_=>List.nodup_nil
 | x::l,h=>by
  simp only[distinct,Bool.and_eq_true,Bool.not_eq_true',List.any_eq_false,cQ,decide_eq_true_eq]at h
  refine List.nodup_cons.2 ⟨fun hm=>h.1 x hm rfl,pI h.2⟩
def kq (ops:Array Oper):Prop:=∀(i k d:Nat),(ops[i]?).bind (·.dst)=some d→(ops[k]?).bind (·.dst)=some d→i=k
theorem pJ:∀ {l:List Oper},(l.filterMap (·.dst)).Nodup→∀(i k d:Nat),(l[i]?).bind (·.dst)=some d→(l[k]?).bind (·.dst)=some d→i=k
 | [],_,i,k,d,h,_=>by simp at h
 | x::l,hn,i,k,d,hi,hk=>by
  have je:∀(j:Nat),(l[j]?).bind (·.dst)=some d→d∈l.filterMap (·.dst):=by
   intro j hj
   simp only[Option.bind_eq_some_iff]at hj
   obtain⟨o,ho,hd⟩:=hj
   exact List.mem_filterMap.2 ⟨o,List.mem_of_getElem? ho,hd⟩
  have DH:(l.filterMap (·.dst)).Nodup∧(x.dst=some d→d∉l.filterMap (·.dst)):=by
   rw[List.filterMap_cons]at hn
   split at hn
   ·rename_i h0;exact⟨hn,fun h=>by rw[h0]at h;cases h⟩
   ·rename_i d' h0
    have:=List.nodup_cons.1 hn
    refine⟨this.2,fun h=> ?_⟩
    rw[h0]at h;cases h;exact this.1
  cases i with
  | zero=>
   cases k with
   | zero=>rfl
   | succ k=>
    simp at hi hk
    exact absurd (je k (by simpa using hk)) (DH.2 hi)
  | succ i=>
   cases k with
   | zero=>
    simp at hi hk
    exact absurd (je i (by simpa using hi)) (DH.2 hk)
   | succ k=>
    simp at hi hk
    rw[pJ DH.1 i k d (by simpa using hi) (by simpa using hk)]
theorem Km {ops:Array Oper} (h:distinct (ops.toList.filterMap (·.dst))=true):kq ops:=by
 intro i k d hi hk
 refine pJ (pI h) i k d ?_ ?_
 ·rw[Array.getElem?_toList];exact hi
 ·rw[Array.getElem?_toList];exact hk
end Go.V
namespace Go.V
def dS (ops:Array Oper) (k:Nat):Option Nat:=(ops[k]?).bind (·.dst)
def dr (ops:Array Oper) (s:Nat):Option Nat:=(List.range ops.size).find? fun k=>decide (dS ops k=some s)
theorem ea {ops:Array Oper} {k s:Nat} (h:dr ops s=some k):dS ops k=some s:=by
 have:=List.find?_some h
 simpa using this
theorem kO {ops:Array Oper} {k s:Nat} (h:dS ops k=some s):k<ops.size:=by
 unfold dS at h
 rcases Nat.lt_or_ge k ops.size with h' | h'
 ·exact h'
 ·rw[Array.getElem?_eq_none h']at h;cases h
theorem uZ {ops:Array Oper} (hU:kq ops) {k s:Nat} (h:dS ops k=some s):dr ops s=some k:=by
 cases ho:dr ops s with
 | none=>
  unfold dr at ho
  rw[List.find?_eq_none]at ho
  have:=ho k (List.mem_range.2 (kO h))
  simp[h]at this
 | some k'=>rw[hU k' k s (ea ho) h]
def Fs (ops:Array Oper) (B:St) (c:Nat→AV) (X:Nat→Bool):St:=
 (List.range B.length).map fun s=>match dr ops s with | some k=>bif X k then c k else get B s | none=>get B s
theorem dO (ops:Array Oper) (B:St) (c:Nat→AV) (X:Nat→Bool):(Fs ops B c X).length=B.length:=by simp[Fs]
theorem jC {st:St} {s:Nat} (h:st.length≤s):get st s= .dead:=by rw[get,bZ,List.getElem?_eq_none h];rfl
theorem gb {ops:Array Oper} {B:St} {c:Nat→AV} {X:Nat→Bool} {s:Nat} (h:s<B.length):get (Fs ops B c X) s=match dr ops s with | some k=>bif X k then c k else get B s | none=>get B s:=by
 rw[get,bZ]
 simp only[Fs,List.getElem?_map,List.getElem?_range h,Option.map_some,Option.getD_some]
theorem mi {ops:Array Oper} {B:St} {c:Nat→AV} {X X':Nat→Bool} (h:∀k,k<ops.size→X k=X' k):Fs ops B c X=Fs ops B c X':=by
 refine qb (by simp[Fs]) (fun s hs=> ?_)
 rw[dO]at hs
 rw[gb hs,gb hs]
 cases ho:dr ops s with
 | none=>rfl
 | some k=>simp only;rw[h k (kO (ea ho))]
theorem oH {ops:Array Oper} {B:St} {c:Nat→AV} {X:Nat→Bool} (h:∀k,k<ops.size→X k=false):Fs ops B c X=B:=by
 refine qb (by simp[Fs]) (fun s hs=> ?_)
 rw[dO]at hs
 rw[gb hs]
 cases ho:dr ops s with
 | none=>rfl
 | some k=>simp only;rw[h k (kO (ea ho))];rfl
theorem Kn {ops:Array Oper} (hU:kq ops) {B:St} {c:Nat→AV} {X:Nat→Bool} {i:Nat} (C0:∀d,dS ops i=some d→d<B.length∧∀r,(get (Fs ops B c X) r).ar d []=false):
  gy (dS ops i) (c i) (Fs ops B c X)=Fs ops B c (fun k=>X k|| decide (k=i)):=by
 cases hd:dS ops i with
 | none=>
  simp only[gy]
  refine qb (by simp[Fs]) (fun s hs=> ?_)
  rw[dO]at hs
  rw[gb hs,gb hs]
  cases ho:dr ops s with
  | none=>rfl
  | some k=>
   have hk:k≠i:=by
    rintro rfl
    have:=ea ho
    rw[hd]at this;cases this
   simp[hk]
 | some d=>
  obtain⟨b6,hr⟩:=C0 d hd
  simp only[gy]
  refine qb (by rw[gM];simp[Fs]) (fun s hs=> ?_)
  rw[gM,dO]at hs
  rw[cX,dO,hr s,cond_false]
  rw[gb hs,gb hs]
  by_cases wI:s=d
  ·subst wI
   rw[if_pos ⟨rfl,b6⟩,uZ hU hd]
   simp
  ·rw[if_neg (fun hh=>wI hh.1)]
   cases ho:dr ops s with
   | none=>rfl
   | some k=>
    have hk:k≠i:=by
     rintro rfl
     have:=ea ho
     rw[hd]at this
     exact wI (Option.some.inj this).symm
    simp[hk]
theorem nF {d:Nat} {st:St} (h:lS d st=false) (r:Nat):(get st r).ar d []=false:=by
 rcases Nat.lt_or_ge r st.length with h' | h'
 ·have hm:get st r∈st:=by
   rw[get,bZ,List.getElem?_eq_getElem h'];exact List.getElem_mem h'
  simp only[lS,List.any_eq_false]at h
  have:=h _ hm
  cases hb:(get st r).ar d []with
  | true=>exact absurd hb this
  | false=>rfl
 ·rw[jC h'];rfl
def cD (N:Nat) (ops:Array Oper) (s:St) (o:Oper) (w:Bool):Prop:=
 match o.guard with
 | none=>w=true
 | some (j,want)=>∃d,dS ops j=some d∧d<N∧((∃v,get s d= .o (.pv .bool v)∧w=(v.toBool==want))∨(get s d= .jg []∧w=false))
def pK (N:Nat) (ops:Array Oper) (env:List (Nat×Bool)) (m:Nat) (s:St):Prop:=
 ∀j bv,(j,bv)∈env→∃d v,dS ops j=some d∧d<N∧j<m∧get s d= .o (.pv .bool v)∧v.toBool=bv
theorem va:∀ {env:List (Nat×Bool)} {j:Nat} {b:Bool},uz env j=some b→(j,b)∈env
 | [],_,_,h=>by simp[uz]at h
 | (k,b')::r,j,b,h=>by
  simp only[uz]at h
  cases hk:Nat.beq k j with
  | true=>
   rw[hk]at h
   have:=Nat.eq_of_beq_eq_true hk
   subst this
   simp at h;subst h
   exact List.mem_cons_self
  | false=>
   rw[hk]at h
   exact List.mem_cons_of_mem _ (va h)
section
variable {P:Program} {N:Nat} {st aZ:St} {a:Act} {hv:List Value} {w w':World} {g g':G} {r:List AO×List AO} {o:Oper} {Q:Exit→Act→World→Prop} {call:aw} {ops:Array Oper} {b:List Nat}
theorem Hz {env:List (Nat×Bool)} {i:Nat} {k:List (Nat×Bool)→Bool→R} (hE:pK N ops env i st) (hj:∀j want,o.guard=some (j,want)→j<i) (h:Qs N ops env st o k=some r):
  ∃pn wt,k pn wt=some r∧cD N ops st o wt∧pK N ops pn i st:=by
 unfold Qs at h
 split at h
 ·rename_i hg
  exact⟨env,true,h,by unfold cD;rw[hg],hE⟩
 ·rename_i j want hg
  split at h
  ·rename_i bv hb
   obtain⟨d,v,h1,h2,h3,h4,h5⟩:=hE j bv (va hb)
   refine⟨env,_,h, ?_,hE⟩
   unfold cD;rw[hg]
   refine⟨d,h1,h2, .inl ⟨v,h4, ?_⟩⟩
   rw[h5];cases bv<;>cases want<;>rfl
  ·split at h
   ·rename_i d hd
    split at h
    ·rename_i v nR
     obtain⟨gi,h⟩:=bg h
     have gi:=of_decide_eq_true gi
     have wY:∀bv,v.toBool=bv→pK N ops ((j,bv)::env) i st:=by
      intro bv Ng j' b' hm
      rcases List.mem_cons.1 hm with hm | hm
      ·cases hm
       exact⟨d,v,hd,gi,hj j want hg,nR,Ng⟩
      ·exact hE j' b' hm
     cases xe:v.toBool with
     | true=>
      rw[xe]at h
      refine⟨_,_,h, ?_,wY true xe⟩
      unfold cD;rw[hg]
      exact⟨d,hd,gi, .inl ⟨v,nR,by rw[xe];cases want<;>rfl⟩⟩
     | false=>
      rw[xe]at h
      refine⟨_,_,h, ?_,wY false xe⟩
      unfold cD;rw[hg]
      exact⟨d,hd,gi, .inl ⟨v,nR,by rw[xe];cases want<;>rfl⟩⟩
    ·rename_i nR
     obtain⟨gi,h⟩:=bg h
     have gi:=of_decide_eq_true gi
     refine⟨env,false,h, ?_,hE⟩
     unfold cD;rw[hg]
     exact⟨d,hd,gi, .inr ⟨nR,rfl⟩⟩
    ·cases h
   ·cases h
theorem qU {i:Nat} (h:nZ P ops b i o st=true):∀j want,o.guard=some (j,want)→j<i∧ordered b i j=true:=by
 intro j want hg
 unfold nZ at h
 rw[hg]at h
 simp only[Bool.and_eq_true]at h
 exact⟨of_decide_eq_true h.1.1,h.1.2⟩
theorem qV {i:Nat} (h:nZ P ops b i o st=true) (hl:fJ P o st=false):
  (∀d,o.dst=some d→lS d st=false)∧∀k,k<ops.size→k≠i→ordered b i k=true∨∀d,dS ops k=some d→∀x∈o.op.operands,d∉aP st x:=by
 unfold nZ at h
 rw[hl]at h
 simp only[cond_false,Bool.and_eq_true,List.all_eq_true,List.mem_range]at h
 obtain⟨_,h1,h2⟩:=h
 refine⟨fun d hd=> ?_,fun k hk mI=> ?_⟩
 ·rw[hd]at h1;simpa using h1
 ·have:=h2 k hk
  simp only[Bool.or_eq_true,cQ,decide_eq_true_eq]at this
  rcases this with h3 | h3 | h3
  ·exact absurd h3 mI
  ·exact .inl h3
  ·refine .inr (fun d hd x hx hm=> ?_)
   unfold dS at hd
   rw[hd]at h3
   simp only[Bool.not_eq_true',List.any_eq_false,cQ,decide_eq_true_eq]at h3
   exact h3 d (List.mem_flatMap.2 ⟨x,Array.mem_toList_iff.2 hx,hm⟩) rfl
theorem th {i:Nat} (h:nZ P ops b i o st=true) (hl:fJ P o st=true):∀k,k<ops.size→k≠i→ordered b i k=true∨(k<i∧(fV o=true∨pW P st o=true)):=by
 unfold nZ at h
 rw[hl]at h
 simp only[cond_true,Bool.and_eq_true,List.all_eq_true,List.mem_range]at h
 intro k hk mI
 have:=h.2 k hk
 simp only[Bool.or_eq_true,cQ,decide_eq_true_eq,Bool.and_eq_true]at this
 rcases this with h3 | h3
 ·exact absurd h3 mI
 ·exact h3
def Quiet (P:Program) (call:aw) (N:Nat) (ops:Array Oper) (b:List Nat) (i:Nat) (s s':St) (c:AV):Prop:=
 ∃o,ops[i]? =some o∧sO N o=true∧(∀j want,o.guard=some (j,want)→j<i∧ordered b i j=true)∧(∀d,o.dst=some d→∀r,(get s r).ar d []=false)∧
  (∀k,k<ops.size→k≠i→ordered b i k=true∨∀d,dS ops k=some d→∀x∈o.op.operands,d∉aP s x)∧s'=gy o.dst c s∧
  ((cD N ops s o false∧c= .jg [])∨(cD N ops s o true∧dX P call o s some=some c))
def SY (P:Program) (call:aw) (N:Nat) (ops:Array Oper) (b:List Nat) (e:Nat) (s:St) (env:List (Nat×Bool)) (K:St→R) (r:List AO×List AO) (rest:List Nat):Prop:=
 ∃o wt,ops[e]? =some o∧sO N o=true∧nZ P ops b e o s=true∧fJ P o s=true∧cD N ops s o wt∧
  (
   if wt=true then j7 P call N o (eb ops env s) (fun gD=>bif tX P call ops b e o env (eb ops env s) (bM ops gD)then iJ P call N ops b rest [] (bM ops gD) K else none)=some r
   else iJ P call N ops b rest [] (bM ops (gy o.dst (.jg []) (eb ops env s))) K=some r)
theorem Ko (hU:kq ops) {env:List (Nat×Bool)} {i:Nat} (hE:pK N ops env i st) (ho:ops[i]? =some o) (c:AV):pK N ops env (i+1) (gy o.dst c st):=by
 intro j bv hm
 obtain⟨d,v,h1,h2,h3,h4,h5⟩:=hE j bv hm
 refine⟨d,v,h1,h2,by omega, ?_,h5⟩
 cases hd:o.dst with
 | none=>exact h4
 | some d'=>
  have dc:d≠d':=by
   rintro rfl
   have:=hU j i d h1 (by simp[ho,hd])
   omega
  simp only[gy]
  rw[cX,if_neg (fun hh=>dc hh.1),h4];rfl
theorem Kp {K:St→R} (hU:kq ops):∀(len m:Nat) (env:List (Nat×Bool)) (st:St),m+len=ops.size→pK N ops env m st→iJ P call N ops b (List.range' m len) env st K=some r→
  ∃(e:Nat) (c:Nat→AV) (S:Nat→St) (pn:List (Nat×Bool)),m≤e∧e≤ops.size∧S m=st∧(∀i,m≤i→i<e→Quiet P call N ops b i (S i) (S (i+1)) (c i))∧pK N ops pn e (S e)∧
   ((e=ops.size∧K (eb ops pn (S e))=some r)∨(e<ops.size∧SY P call N ops b e (S e) pn K r (List.range' (e+1) (ops.size- (e+1)))))
 | 0,m,env,st,hm,hE,h=>by
  simp only[List.range'_zero,iJ]at h
  exact⟨m,fun _=> .dead,fun _=>st,env,Nat.le_refl _,by omega,rfl,fun i h1 h2=>by omega,hE, .inl ⟨by omega,h⟩⟩
 | len+1,m,env,st,hm,hE,h=>by
  simp only[List.range'_succ,iJ]at h
  split at h
  ·cases h
  ·rename_i o ho
   obtain⟨hc,h⟩:=bg h
   simp only[Bool.and_eq_true]at hc
   obtain⟨br,Nn⟩:=hc
   obtain⟨pn,wt,h,AH,AZ⟩:=Hz hE (fun j want hg=>(qU Nn j want hg).1) h
   cases hl:fJ P o st with
   | true=>
    simp only[hl,cond_true]at h
    refine⟨m,fun _=> .dead,fun _=>st,pn,Nat.le_refl _,by omega,rfl,fun i h1 h2=>by omega,AZ, .inr ⟨by omega,o,wt,ho,br,Nn,hl,AH, ?_⟩⟩
    have:ops.size- (m+1)=len:=by omega
    rw[this]
    cases wt with
    | true=>rw[if_pos rfl];simpa using h
    | false=>rw[if_neg (by decide)];simpa using h
   | false=>
    simp only[hl,cond_false]at h
    have step:∀cm:AV,((cD N ops st o false∧cm= .jg [])∨(cD N ops st o true∧dX P call o st some=some cm))→iJ P call N ops b (List.range' (m+1) len) pn (gy o.dst cm st) K=some r→
      ∃(e:Nat) (c:Nat→AV) (S:Nat→St) (pn:List (Nat×Bool)),m≤e∧e≤ops.size∧S m=st∧(∀i,m≤i→i<e→Quiet P call N ops b i (S i) (S (i+1)) (c i))∧pK N ops pn e (S e)∧
       ((e=ops.size∧K (eb ops pn (S e))=some r)∨(e<ops.size∧SY P call N ops b e (S e) pn K r (List.range' (e+1) (ops.size- (e+1))))):=by
     intro cm UX hk
     obtain⟨e,c,S,Wa,q1,q2,q3,q4,q5,q6⟩:=Kp hU len (m+1) pn _ (by omega) (Ko hU AZ ho cm) hk
     have NS:∀i,m+1≤i→(if i=m then st else S i)=S i:=fun i hi=>by rw[if_neg (by omega)]
     refine⟨e,fun i=>if i=m then cm else c i,fun i=>if i=m then st else S i,Wa,by omega,q2,by simp,fun i h1 h2=> ?_,by simp only[NS e q1];exact q5,by simp only[NS e q1];exact q6⟩
     show Quiet P call N ops b i (if i=m then st else S i) (if i+1=m then st else S (i+1)) (if i=m then cm else c i)
     by_cases Jt:i=m
     ·subst Jt
      rw[if_pos rfl,if_pos rfl,NS (i+1) (Nat.le_refl _),q3]
      exact⟨o,ho,br,qU Nn,fun d hd=>nF ((qV Nn hl).1 d hd),(qV Nn hl).2,rfl,UX⟩
     ·rw[if_neg Jt,if_neg Jt,NS (i+1) (by omega)]
      exact q4 i (by omega) h2
    cases wt with
    | true=>
     simp only[cond_true]at h
     rw[oE]at h
     simp only[Option.bind_eq_some_iff]at h
     obtain⟨cm,UX,h⟩:=h
     exact step cm (.inr ⟨AH,UX⟩) h
    | false=>
     simp only[cond_false]at h
     exact step (.jg []) (.inl ⟨AH,rfl⟩) h
theorem oJ (h:Good P N st a hv w g):∀ {env:List (Nat×Bool)} {m:Nat},pK N ops env m st→eb ops env st=st
 | [],_,_=>rfl
 | (j,bv)::env,m,hE=>by
  obtain⟨d,v,h1,h2,h3,h4,h5⟩:=hE j bv List.mem_cons_self
  have ih:=oJ h (env:=env) (m:=m) (fun j' b' hm=>hE j' b' (List.mem_cons_of_mem _ hm))
  unfold dS at h1
  simp only[eb,h1,ih]
  exact h.known h2 h4 h5
theorem cD.wanted (h:Good P N st a hv w g) {wt:Bool} (hg:cD N ops st o wt):Region.wanted o (yielded ops a.tmps)=wt:=by
 unfold cD at hg
 split at hg
 ·rename_i h0;rw[hg];exact lh h0 _
 ·rename_i j want h0
  obtain⟨d,h1,h2,⟨v,h3,h4⟩ | ⟨h3,h4⟩⟩:=hg
  ·rw[h4]
   exact oC h0 (h.DB h1 h2 h3)
  ·rw[h4]
   exact r8 h0 (h.uY h1 h2 h3)
end
end Go.V
namespace Go.V
def DI (ops:Array Oper) (bW:Array Bool) (X:Nat→Bool):Prop:=bW.size=ops.size∧∀k,k<ops.size→bW[k]? =some (X k)
def ti (ops:Array Oper) (X:Nat→Bool):Nat:=((List.range ops.size).filter fun k=> !X k).length
theorem filter_le {p q:Nat→Bool}:∀(l:List Nat),(∀k,q k=true→p k=true)→(l.filter q).length≤(l.filter p).length
 | [],_=>Nat.le_refl _
 | x::l,h=>by
  have ih:=filter_le l h
  simp only[List.filter_cons]
  cases hq:q x with
  | true=>rw[h x hq];simp;exact ih
  | false=>
   cases p x with
   | true=>simp;omega
   | false=>simpa using ih
theorem filter_lt {p q:Nat→Bool} {i:Nat}:∀(l:List Nat),(∀k,q k=true→p k=true)→i∈l→p i=true→q i=false→(l.filter q).length<(l.filter p).length
 | [],_,hm,_,_=>by simp at hm
 | x::l,h,hm,hp,hq=>by
  simp only[List.filter_cons]
  by_cases hx:x=i
  ·subst hx
   rw[hp,hq]
   have:=filter_le (p:=p) (q:=q) l h
   simp;omega
  ·have Wb:i∈l:=by
    rcases List.mem_cons.1 hm with hh | hh
    ·exact absurd hh.symm hx
    ·exact hh
   have ih:=filter_lt l h Wb hp hq
   cases hqx:q x with
   | true=>rw[h x hqx];simp;exact ih
   | false=>
    cases p x with
    | true=>simp;omega
    | false=>simpa using ih
theorem se {ops:Array Oper} {bW:Array Bool} {X:Nat→Bool} (hL:DI ops bW X) (hB:∀i o,ops[i]? =some o→∀e∈o.after,Region.binds .any e=true→e.on<i) (i:Nat):
  i∈Region.ready .any ops bW↔ ∃o,ops[i]? =some o∧X i=false∧∀e∈o.after,Region.binds .any e=true→X e.on=true:=by
 obtain⟨hs,hx⟩:=hL
 unfold Region.ready
 rw[List.mem_filter,List.mem_range]
 constructor
 ·rintro ⟨hi,h⟩
  simp only[Bool.and_eq_true,Bool.not_eq_true']at h
  obtain⟨h1,h2⟩:=h
  have ho:=Array.getElem?_eq_getElem hi
  rw[ho]at h2
  simp only[Option.map_some,Option.getD_some,Array.all_eq_true_iff_forall_mem,Bool.or_eq_true,Bool.not_eq_true']at h2
  refine⟨_,ho, ?_,fun e he hb=> ?_⟩
  ·have:=hx i hi
   rw[Array.getD_eq_getD_getElem?,this]at h1;simpa using h1
  ·rcases h2 e he with h3 | h3
   ·rw[hb]at h3;cases h3
   ·have b6:=hB i _ ho e he hb
    have:=hx e.on (by omega)
    rw[Array.getD_eq_getD_getElem?,this]at h3;simpa using h3
 ·rintro ⟨o,ho,h1,h2⟩
  have hi:=(Array.getElem?_eq_some_iff.1 ho).1
  refine⟨hi, ?_⟩
  simp only[Bool.and_eq_true,Bool.not_eq_true',ho,Option.map_some,Option.getD_some,Array.all_eq_true_iff_forall_mem,Bool.or_eq_true]
  refine⟨by rw[Array.getD_eq_getD_getElem?,hx i hi];simpa using h1,fun e he=> ?_⟩
  cases hb:Region.binds .any e with
  | false=>exact .inl rfl
  | true=>
   have b6:=hB i o ho e he hb
   exact .inr (by rw[Array.getD_eq_getD_getElem?,hx e.on (by omega)];simpa using h2 e he hb)
theorem DI.set {ops:Array Oper} {bW:Array Bool} {X:Nat→Bool} (hL:DI ops bW X) (i:Nat):DI ops (bW.setIfInBounds i true) (fun k=>X k|| decide (k=i)):=by
 obtain⟨hs,hx⟩:=hL
 refine⟨by simp[hs],fun k hk=> ?_⟩
 rw[Array.getElem?_setIfInBounds]
 by_cases h:i=k
 ·subst h
  rw[if_pos rfl,if_pos (by omega)];simp
 ·rw[if_neg h,hx k hk];simp[Ne.symm h]
theorem DI.congr {ops:Array Oper} {bW:Array Bool} {X Y:Nat→Bool} (hL:DI ops bW X) (h:∀k,k<ops.size→X k=Y k):DI ops bW Y:=
 ⟨hL.1,fun k hk=>by rw[hL.2 k hk,h k hk]⟩
theorem sf {ops:Array Oper} {X Y:Nat→Bool} (h:∀k,k<ops.size→X k=Y k):ti ops X=ti ops Y:=by
 unfold ti
 congr 1
 apply List.filter_congr
 intro k hk
 rw[h k (List.mem_range.1 hk)]
theorem DJ {ops:Array Oper} {X:Nat→Bool} {i:Nat} (hi:i<ops.size) (hX:X i=false):ti ops (fun k=>X k|| decide (k=i))<ti ops X:=by
 refine filter_lt _ (fun k hk=> ?_) (List.mem_range.2 hi) (by simp[hX]) (by simp)
 simp at hk
 simp[hk.1]
theorem least {m e:Nat} {X:Nat→Bool} (h:¬∀k,m≤k→k<e→X k=true):∃i,m≤i∧i<e∧X i=false∧∀k,m≤k→k<i→X k=true:=by
 have:∃i,m≤i∧i<e∧X i=false:=by
  apply Classical.byContradiction
  intro hn
  apply h
  intro k h1 h2
  cases hX:X k with
  | true=>rfl
  | false=>exact absurd ⟨k,h1,h2,hX⟩ hn
 obtain⟨i,h1,h2,h3⟩:=this
 induction i using Nat.strongRecOn with
 | _ i ih=>
  by_cases cE:∀k,m≤k→k<i→X k=true
  ·exact⟨i,h1,h2,h3,cE⟩
  ·have:∃k,m≤k∧k<i∧X k=false:=by
    apply Classical.byContradiction
    intro hn
    apply cE
    intro k q1 q2
    cases hX:X k with
    | true=>rfl
    | false=>exact absurd ⟨k,q1,q2,hX⟩ hn
   obtain⟨k,q1,q2,q3⟩:=this
   exact ih k q2 q1 (by omega) q3
section
variable {P:Program} {N:Nat} {st aZ:St} {a:Act} {hv:List Value} {w w':World} {g g':G} {r:List AO×List AO} {o:Oper} {Q:Exit→Act→World→Prop} {call:aw} {ops:Array Oper} {b:List Nat}
structure SZ (P:Program) (call:aw) (N:Nat) (ops:Array Oper) (b:List Nat) (Y:Nat→Bool) (e:Nat) (c:Nat→AV) (S:Nat→St):Prop where
 en:e≤ops.size
 step:∀i,i<e→Y i=false→Quiet P call N ops b i (S i) (S (i+1)) (c i)
 skip:∀i,i<e→Y i=true→S (i+1)=S i
 base:∀d k r,dS ops k=some d→(get (S 0) r).ar d []=false
 len:N≤(S 0).length
theorem qW {i:Nat} (ho:ops[i]? =some o):dS ops i=o.dst:=by simp[dS,ho]
theorem SZ.eq {Y:Nat→Bool} {e:Nat} {c:Nat→AV} {S:Nat→St} (hS:SZ P call N ops b Y e c S) (hU:kq ops):∀i,i≤e→S i=Fs ops (S 0) c (fun k=> !Y k&&decide (k<i)):=by
 intro i
 induction i with
 | zero=>intro _;exact(oH (fun k _=>by simp)).symm
 | succ i ih=>
  intro Wc
  have hi:=ih (by omega)
  cases hY:Y i with
  | true=>
   rw[hS.skip i (by omega) hY,hi]
   refine mi (fun k _=> ?_)
   by_cases mI:k=i
   ·subst mI;simp[hY]
   ·have:decide (k<i+1)=decide (k<i):=by
     by_cases h:k<i
     ·simp[h];omega
     ·simp[h];omega
    rw[this]
  | false=>
   obtain⟨o,ho,br,_,hq1,_,hs,_⟩:=hS.step i (by omega) hY
   have HA:=qW ho
   rw[hs, ←HA,hi,Kn hU (fun d hd=>⟨?_,fun r=> ?_⟩)]
   ·refine mi (fun k _=> ?_)
    by_cases mI:k=i
    ·subst mI;simp[hY]
    ·have:decide (k<i+1)=decide (k<i):=by
      by_cases h:k<i
      ·simp[h];omega
      ·simp[h];omega
     rw[this];simp[mI]
   ·exact Nat.lt_of_lt_of_le ((gm br).2 d (by rw[←HA];exact hd)) hS.len
   ·rw[←hi]
    exact hq1 d (by rw[←HA];exact hd) r
theorem NT (bu:ct P call) {Y:Nat→Bool} {e:Nat} {c:Nat→AV} {S:Nat→St} (hS:SZ P call N ops b Y e c S) (hU:kq ops) (hb:xI ops b) (hB:∀i o,ops[i]? =some o→∀e∈o.after,Region.binds .any e=true→e.on<i)
  (S1:∀k,Y k=true→k<e)
  {w0:World} {g0:G} (Wd:∀k,e<k→k<ops.size→(nth 0 b k).testBit e=true)
  (NU:e=ops.size→∀(fuel:Nat) (bW:Array Bool) (a:Act) (w:World) (g:G),Good P N (S e) a hv w g→Fr w0 g0 w g→DI ops bW (fun _=>true)→wpAny P .any ops Q fuel bW a w)
  (Kq:e<ops.size→∀(fuel:Nat) (X:Nat→Bool) (bW:Array Bool) (a:Act) (w:World) (g:G),Good P N (Fs ops (S 0) c X) a hv w g→Fr w0 g0 w g→(∀k,X k=true→Y k=false∧k<e)→sd ops (fun k=>Y k|| X k)→
   DI ops bW (fun k=>Y k|| X k)→ti ops (fun k=>Y k|| X k)≤fuel+1→(∀o,ops[e]? =some o→∀ed∈o.after,Region.binds .any ed=true→(Y ed.on|| X ed.on)=true)→
   wpOp P ops Q e (wpAny P .any ops Q fuel (bW.setIfInBounds e true)) a w):
  ∀(fuel:Nat) (X:Nat→Bool) (bW:Array Bool) (a:Act) (w:World) (g:G),Good P N (Fs ops (S 0) c X) a hv w g→Fr w0 g0 w g→(∀k,X k=true→Y k=false∧k<e)→sd ops (fun k=>Y k|| X k)→
   DI ops bW (fun k=>Y k|| X k)→ti ops (fun k=>Y k|| X k)≤fuel→wpAny P .any ops Q fuel bW a w:=by
 have fq:∀X:Nat→Bool,(∀k,X k=true→Y k=false∧k<e)→(e=ops.size∧∀k,k<e→(Y k|| X k)=true)∨∃i0,i0≤e∧i0<ops.size∧(Y i0|| X i0)=false∧∀k,k<i0→(Y k|| X k)=true:=by
  intro X hX
  by_cases cE:∀k,0≤k→k<e→(Y k|| X k)=true
  ·by_cases gL:e=ops.size
   ·exact .inl ⟨gL,fun k hk=>cE k (Nat.zero_le _) hk⟩
   ·refine .inr ⟨e,Nat.le_refl _,by have:=hS.en;omega, ?_,fun k hk=>cE k (Nat.zero_le _) hk⟩
    cases hY:Y e with
    | true=>exact absurd (S1 e hY) (Nat.lt_irrefl _)
    | false=>
     cases hx:X e with
     | true=>exact absurd (hX e hx).2 (Nat.lt_irrefl _)
     | false=>rfl
  ·obtain⟨i,_,h2,h3,h4⟩:=least (X:=fun k=>Y k|| X k) cE
   exact .inr ⟨i,by omega,by have:=hS.en;omega,h3,fun k hk=>h4 k (Nat.zero_le _) hk⟩
 have vb:∀X:Nat→Bool,(∀k,X k=true→Y k=false∧k<e)→e=ops.size→(∀k,k<e→(Y k|| X k)=true)→Fs ops (S 0) c X=S e:=by
  intro X hX gL cE
  rw[hS.eq hU e (Nat.le_refl _)]
  refine mi (fun k hk=> ?_)
  have h1:=cE k (by omega)
  cases hY:Y k with
  | true=>
   cases hx:X k with
   | true=>rw[(hX k hx).1]at hY;cases hY
   | false=>rfl
  | false=>
   rw[hY]at h1
   simp at h1
   rw[h1];simp;omega
 intro fuel
 induction fuel with
 | zero=>
  intro X bW a w g h hf hX hC hL hc
  rcases fq X hX with ⟨h1,h2⟩ | ⟨i,h1,h2,h3,_⟩
  ·rw[vb X hX h1 h2]at h
   exact NU h1 0 bW a w g h hf (hL.congr fun k hk=>h2 k (by omega))
  ·have:=DJ (ops:=ops) (X:=fun k=>Y k|| X k) (i:=i) h2 h3
   omega
 | succ fuel ih=>
  intro X bW a w g h hf hX hC hL hc
  rcases fq X hX with ⟨h1,h2⟩ | ⟨i0,p1,p2,p3,p4⟩
  ·rw[vb X hX h1 h2]at h
   exact NU h1 (fuel+1) bW a w g h hf (hL.congr fun k hk=>h2 k (by omega))
  ·have hn:=hS.en
   have We:ops[i0]? =some ops[i0]:=Array.getElem?_eq_getElem (by omega)
   have Az:i0∈Region.ready .any ops bW:=by
    refine(se hL hB i0).2 ⟨_,We,p3,fun ed NV FH=> ?_⟩
    exact p4 ed.on (hB i0 _ We ed NV FH)
   refine⟨fun qK=>(by rw[qK]at Az;cases Az),fun i hi=> ?_⟩
   obtain⟨o,ho,R6,sh⟩:=(se hL hB i).1 hi
   have fQ:=(Array.getElem?_eq_some_iff.1 ho).1
   have S2:=R6
   simp only[Bool.or_eq_false_iff]at R6
   obtain⟨No,R6⟩:=R6
   have nL:∀k,(nth 0 b i).testBit k=true→(Y k|| X k)=true:=fun k hk=>lM hb hC i o k ho sh hk
   by_cases Wf:i=e
   ·subst Wf
    exact Kq fQ fuel X bW a w g h hf hX hC hL hc (fun o' Kk=>by rw[ho]at Kk;cases Kk;exact sh)
   have Wc:i<e:=by
    apply Classical.byContradiction
    intro RX
    have:=nL e (Wd i (by omega) fQ)
    simp only[Bool.or_eq_true]at this
    rcases this with h1 | h1
    ·exact absurd (S1 e h1) (Nat.lt_irrefl _)
    ·exact absurd (hX e h1).2 (Nat.lt_irrefl _)
   obtain⟨o',Kk,br,hgu,dq1,dq2,hs,qQ⟩:=hS.step i Wc No
   rw[ho]at Kk
   cases Kk
   have HA:=qW ho
   have Yt:=hS.eq hU i (by omega)
   have S3:∀k ok,ops[k]? =some ok→X k=true→(nth 0 b k).testBit i=true→False:=by
    intro k ok br Nj Wg
    have:=lM hb hC k ok i br (hC k ok (by simp[Nj]) br) Wg
    rw[S2]at this;cases this
   have alike:∀k,k≠i→k<ops.size→ordered b i k=true→X k=(!Y k&&decide (k<i)):=by
    intro k mI hk vc
    unfold ordered at vc
    by_cases b6:k<i
    ·rw[decide_eq_true b6,cond_true]at vc
     have:=nL k vc
     cases Kr:Y k with
     | true=>
      cases hx:X k with
      | false=>rfl
      | true=>rw[(hX k hx).1]at Kr;cases Kr
     | false=>
      rw[Kr]at this
      simp at this
      rw[this];simp[b6]
    ·rw[decide_eq_false b6,cond_false]at vc
     have hxf:X k=false:=by
      cases hx:X k with
      | false=>rfl
      | true=>exact absurd vc (fun hh=>S3 k _ (Array.getElem?_eq_getElem hk) hx hh)
     rw[hxf];simp[b6]
   have same:∀s,(∀k,dr ops s=some k→k=i∨ordered b i k=true)→get (Fs ops (S 0) c X) s=get (S i) s:=by
    intro s S4
    rw[Yt]
    by_cases b6:s<(S 0).length
    ·rw[gb b6,gb b6]
     cases jf:dr ops s with
     | none=>rfl
     | some k=>
      have hd:=ea jf
      have:X k=(!Y k&&decide (k<i)):=by
       by_cases mI:k=i
       ·subst mI;rw[R6];simp
       ·rcases S4 k jf with h1 | h1
        ·exact absurd h1 mI
        ·exact alike k mI (kO hd) h1
      simp only[this]
    ·rw[jC (by rw[dO];omega),jC (by rw[dO];omega)]
   have O9:∀x∈o.op.operands,Ag (S i) (Fs ops (S 0) c X) x:=by
    intro x hx s kD
    refine same s (fun k jf=> ?_)
    have hd:=ea jf
    by_cases mI:k=i
    ·exact .inl mI
    ·rcases dq2 k (kO hd) mI with h1 | h1
     ·exact .inr h1
     ·exact absurd kD (h1 s hd x hx)
   have nR:∀wt,cD N ops (S i) o wt→cD N ops (Fs ops (S 0) c X) o wt:=by
    intro wt hg
    unfold cD at hg ⊢
    split at hg
    ·exact hg
    ·rename_i j want h0
     obtain⟨d,h1,h2,h3⟩:=hg
     refine⟨d,h1,h2, ?_⟩
     rw[same d (fun k jf=> .inr ?_)]
     ·exact h3
     ·have:=hU k j d (ea jf) h1
      rw[this];exact(hgu j want h0).2
   have C0:∀d,dS ops i=some d→d<(S 0).length∧∀r,(get (Fs ops (S 0) c X) r).ar d []=false:=by
    intro d hd
    refine⟨?_,fun r=> ?_⟩
    ·exact Nat.lt_of_lt_of_le ((gm br).2 d (by rw[←HA];exact hd)) hS.len
    ·by_cases b6:r<(S 0).length
     ·rw[gb b6]
      cases jf:dr ops r with
      | none=>exact hS.base d i r hd
      | some k=>
       show AV.ar d [] (bif X k then c k else get (S 0) r)=false
       cases Nj:X k with
       | false=>exact hS.base d i r hd
       | true=>
        show AV.ar d [] (c k)=false
        obtain⟨sW,kK⟩:=hX k Nj
        have mI:k≠i:=by rintro rfl;rw[R6]at Nj;cases Nj
        obtain⟨ok,Wi,_,_,_,hqk,_,R0⟩:=hS.step k kK sW
        cases Js:(c k).ar d []with
        | false=>rfl
        | true=>
         exfalso
         rcases R0 with ⟨_,C9⟩ | ⟨_,dV⟩
         ·rw[C9]at Js;cases Js
         ·obtain⟨x,hx,hdx⟩:=Hy dV Js
          rcases hqk i fQ (Ne.symm mI)with h1 | h1
          ·unfold ordered at h1
           by_cases UR:i<k
           ·rw[decide_eq_true UR,cond_true]at h1
            exact S3 k ok Wi Nj h1
           ·have pD:k<i:=by omega
            have C0:=dq1 d (by rw[←HA];exact hd) r
            rw[Yt,gb b6,jf]at C0
            have UY:(!Y k&&decide (k<i))=true:=by simp[sW,pD]
            simp only[UY,cond_true]at C0
            rw[C0]at Js;cases Js
          ·exact h1 d hd x hx hdx
     ·rw[jC (by rw[dO];omega)];rfl
   have QS:=Kn hU (c:=c) (X:=X) (i:=i) C0
   rw[HA]at QS
   have UY:∀k,(X k|| decide (k=i))=true→Y k=false∧k<e:=by
    intro k hk
    simp only[Bool.or_eq_true,decide_eq_true_eq]at hk
    rcases hk with h1 | rfl
    ·exact hX k h1
    ·exact⟨No,Wc⟩
   have DK:∀k,(Y k|| (X k|| decide (k=i)))=((Y k|| X k)|| decide (k=i)):=fun k=>by rw[Bool.or_assoc]
   have UZ:sd ops (fun k=>Y k|| (X k|| decide (k=i))):=by
    intro k ok hk br ed NV FH
    show(Y ed.on|| (X ed.on|| decide (ed.on=i)))=true
    have hk:(Y k|| (X k|| decide (k=i)))=true:=hk
    rw[DK]at hk ⊢
    rw[Bool.or_eq_true]at hk
    rcases hk with h1 | h1
    ·have h3:(Y ed.on|| X ed.on)=true:=hC k ok h1 br ed NV FH
     rw[h3];rfl
    ·have mI:k=i:=of_decide_eq_true h1
     subst mI
     rw[ho]at br;cases br
     rw[sh ed NV FH];rfl
   have U0:DI ops (bW.setIfInBounds i true) (fun k=>Y k|| (X k|| decide (k=i))):=(hL.set i).congr (fun k _=>(DK k).symm)
   have yJ:ti ops (fun k=>Y k|| (X k|| decide (k=i)))≤fuel:=by
    rw[sf (fun k _=>DK k)]
    have:=DJ (ops:=ops) (X:=fun k=>Y k|| X k) (i:=i) fQ S2
    omega
   obtain⟨NW,gi⟩:=gm br
   unfold wpOp
   simp only[ho]
   rcases qQ with ⟨Dy,C9⟩ | ⟨SX,dV⟩
   ·rw[cD.wanted h (nR _ Dy),if_neg (by decide)]
    have h2:=h.skip gi
    rw[←C9,QS]at h2
    exact ih _ _ _ _ _ h2 hf UY UZ U0 yJ
   ·rw[cD.wanted h (nR _ SX),if_pos rfl]
    left
    have Wj:dX P call o (Fs ops (S 0) c X) (fun v=>(open Classical in if v=c i then some (([],[]):List AO×List AO)else none))=some ([],[]):=by
     rw[mh O9,oE,dV,Option.bind_some,if_pos rfl]
    refine l9 bu h NW Wj (fun av v w' g' hq hs hk=> ?_)
    have ND:av=c i:=by
     apply Classical.byContradiction
     intro dc
     rw[if_neg dc]at hk;cases hk
    subst ND
    have h2:=h.gy gi hq hs
    rw[QS]at h2
    exact ih _ _ _ _ _ h2 (hf.trans hq.fr) UY UZ U0 yJ
end
end Go.V
namespace Go.V
section
variable {P:Program} {N:Nat} {st aZ:St} {a:Act} {hv:List Value} {w w':World} {g g':G} {K:St→R} {r:List AO×List AO} {o:Oper} {Q:Exit→Act→World→Prop} {call:aw} {ops:Array Oper} {b:List Nat}
def nG (d:Nat) (y:AV) (tg:Option (Operand×Nat×List Nat)) (st:St):St:=
 put d y (match tg with | none=>st | some (x,s,p)=>kill s p (setObj (fN x st) s p .dead))
theorem Ag.jL {E U:TypeId} {y:Operand} (h:Ag st aZ y):V.jL P aZ E U y=V.jL P st E U y:=by
 unfold V.jL
 rw[h.rd,]
 split
 ·rfl
 ·rename_i E' _
  rw[h.fH]
 ·rfl
theorem Ag.mL {x:Operand} (h:Ag st aZ x):V.mL aZ x=V.mL st x:=by
 cases x with
 | tmp i=>simp only[V.mL];rw[h.tmp]
 | _=>rfl
theorem kP {x:Operand} {s:Nat} {p:List Nat} (h:cV st x=some (s,p)):s∈aP st x:=by
 cases x with
 | tmp i=>
  simp only[cV]at h
  cases hg:get st i with
  | al s' p'=>
   rw[hg]at h
   simp only at h
   have:s'=s:=by
    split at h
    all_goals first
     | (simp only[Option.some.injEq,Prod.mk.injEq]at h;exact h.1)
     | cases h
   subst this
   simp[aP,hg]
  | o x=>
   rw[hg]at h
   have:i=s:=by
    cases x<;>simp at h<;>exact h.1
   subst this
   simp[aP]
  | _=>rw[hg]at h;simp at h
 | _=>simp[cV]at h
theorem FI (ha:fV o=true) (h:j7 P call N o st K=some r):∃d y tg,o.dst=some d∧(∃z,y= .o z)∧
  (∀x s p,tg=some (x,s,p)→x∈o.op.operands∧cV st x=some (s,p))∧
  ∀aZ,(∀x∈o.op.operands,Ag st aZ x)→∀K':St→R,j7 P call N o aZ K'=K' (nG d y tg aZ):=by
 unfold fV at ha
 simp only[Bool.and_eq_true]at ha
 obtain⟨_,ha⟩:=ha
 split at ha
 ·rename_i c aM
  split at ha
  ·rename_i hb
   have je:∀x∈c.args.toList,x∈o.op.operands:=fun x hx=>by
    simp only[aM,Op.operands,Call.operands,hb,Array.mem_append];exact .inr (Array.mem_toList_iff.1 hx)
   cases yP:o.dst with
   | none=>simp[j7,aM,hb,yP]at h
   | some d=>
   simp only[j7,aM,hb,yP]at h
   split at h
   ·rename_i T x y U h0 h1 h2 h3
    have Ks:=je x (Array.mem_toList_iff.2 (Array.mem_of_getElem? h1))
    have Wl:=je y (Array.mem_toList_iff.2 (Array.mem_of_getElem? h2))
    split at h
    ·rename_i E hT
     obtain⟨hE,h⟩:=aH h
     split at h
     ·rename_i ys A2
      split at h
      ·rename_i v
       split at h
       ·rename_i x' tZ
        obtain⟨hr,h⟩:=aH h
        refine⟨d, .o (.arr E ys),none,rfl,⟨_,rfl⟩,(fun _ _ _ hh=>by cases hh),fun aZ hA K'=> ?_⟩
        simp only[j7,aM,hb,yP,h0,h1,h2,h3,hT,hE,cond_true,(hA y Wl).jL,A2,tZ,hr,nG]
       ·cases h
      ·rename_i hnc
       split at h
       ·rename_i E' l jW
        obtain⟨hr,h⟩:=aH h
        refine⟨d, .o (.pv (.sl E) (.sl (l++ys))),none,rfl,⟨_,rfl⟩,(fun _ _ _ hh=>by cases hh),fun aZ hA K'=> ?_⟩
        simp only[j7,aM,hb,yP,h0,h1,h2,h3,hT,hE,cond_true,(hA y Wl).jL,A2,(hA x Ks).mL,jW,hr,nG]
       ·rename_i jW
        split at h
        ·rename_i s p nM
         split at h
         ·rename_i E' l bq
          obtain⟨hr,h⟩:=aH h
          refine⟨d, .o (.arr E (l++ys)),some (x,s,p),rfl,⟨_,rfl⟩,fun x' s' p' hh=>by cases hh;exact⟨Ks,nM⟩,fun aZ hA K'=> ?_⟩
          simp only[j7,aM,hb,yP,h0,h1,h2,h3,hT,hE,cond_true,(hA y Wl).jL,A2,(hA x Ks).mL,jW,(hA x Ks).cV,nM,(hA x Ks).yV nM,bq,hr,nG]
         ·cases h
        ·cases h
     ·cases h
    ·cases h
   ·cases h
  ·cases ha
 ·cases ha
theorem iX (x:Operand) (st:St):(fN x st).length=st.length:=by
 unfold fN
 split
 ·split<;>simp
 ·rfl
theorem yX (d:Nat) (y:AV) (tg:Option (Operand×Nat×List Nat)) (st:St):(nG d y tg st).length=st.length:=by
 unfold nG
 rw[gM]
 split
 ·rfl
 ·rw[bC,fE,iX]
theorem Bo {d:Nat} {y:AV} {tg:Option (Operand×Nat×List Nat)} (hl:st.length=aZ.length) (J9:∀x s p,tg=some (x,s,p)→Ag st aZ x∧cV st x=some (s,p)) {t:Nat} (ht:get st t=get aZ t):
  get (nG d y tg st) t=get (nG d y tg aZ) t:=by
 unfold nG
 have key:∀z z':St,z.length=z'.length→get z t=get z' t→get (put d y z) t=get (put d y z') t:=by
  intro z z' hz hg
  rw[cX,cX,hz,hg]
 cases tg with
 | none=>exact key _ _ hl ht
 | some q=>
  obtain⟨x,s,p⟩:=q
  obtain⟨hA,nM⟩:=J9 x s p rfl
  refine key _ _ ?_ ?_
  ·simp only[bC,fE,iX,hl]
  ·have hd:∀t,get st t=get aZ t→get (fN x st) t=get (fN x aZ) t:=by
    intro t ht
    cases x with
    | tmp i=>
     simp only[fN]
     rw[hA.tmp]
     split
     ·rw[bU,bU,hl,ht]
     ·exact ht
    | _=>exact ht
   have yE:=hd s (hA s (kP nM)).symm
   rw[cj,cj]
   have:get (setObj (fN x st) s p .dead) t=get (setObj (fN x aZ) s p .dead) t:=by
    unfold setObj
    rw[yE]
    split
    ·rw[bU,bU,iX,iX,hl,hd t ht]
    ·exact hd t ht
   rw[this]
theorem DL {d:Nat} {y:AV} {tg:Option (Operand×Nat×List Nat)} (J9:∀x s p,tg=some (x,s,p)→cV st x=some (s,p)) {t:Nat} (tK:t≠d) (lH:(get st t).ar d []=false)
  (lJ:∀x s p,tg=some (x,s,p)→t∉aP st x∧(get st t).ar s []=false):get (nG d y tg st) t=get st t:=by
 unfold nG
 have key:∀z:St,get z t=get st t→get (put d y z) t=get st t:=by
  intro z hg
  rw[cX,if_neg (fun hh=>tK hh.1),hg,lH];rfl
 cases tg with
 | none=>exact key _ rfl
 | some q=>
  obtain⟨x,s,p⟩:=q
  obtain⟨h1,h2⟩:=lJ x s p rfl
  have nM:=J9 x s p rfl
  refine key _ ?_
  have hs:t≠s:=by rintro rfl;exact h1 (kP nM)
  rw[cj,ez hs]
  have hdt:get (fN x st) t=get st t:=by
   cases x with
   | tmp i=>
    have AE:t≠i:=by rintro rfl;exact h1 (by simp[aP])
    simp only[fN]
    split
    ·rw[bU,if_neg (fun hh=>AE hh.1)]
    ·rfl
   | _=>rfl
  rw[hdt]
  have:(get st t).ar s p=false:=by
   cases hr:(get st t).ar s p with
   | false=>rfl
   | true=>
    exfalso
    have e:∀(s':Nat) (q:List Nat),(Nat.beq s s'&&pre p q)=true→(Nat.beq s s'&&pre [] q)=true:=by
     intro s' q hh
     simp only[Bool.and_eq_true]at hh
     simp[pre,hh.1]
    have:(get st t).ar s []=true:=by
     cases hg:get st t with
     | al s' q=>rw[hg]at hr;exact e _ _ hr
     | ptr s' q _=>rw[hg]at hr;exact e _ _ hr
     | el s' q _ _=>rw[hg]at hr;exact e _ _ hr
     | lE T cs=>
      rw[hg]at hr
      simp only[AV.ar,List.any_eq_true]at hr ⊢
      obtain⟨c,hc,Bi⟩:=hr
      refine⟨c,hc, ?_⟩
      cases c with
      | al s' q=>exact e _ _ Bi
      | pv t v=>cases Bi
      | nil E=>cases Bi
     | _=>rw[hg]at hr;cases hr
    rw[h2]at this;cases this
  rw[this];rfl
theorem tj {v:AV} {s:Nat} (h:v.ar s []=false) (p:List Nat):v.ar s p=false:=by
 cases hr:v.ar s p with
 | false=>rfl
 | true=>
  exfalso
  have e:∀(s':Nat) (q:List Nat),(Nat.beq s s'&&pre p q)=true→(Nat.beq s s'&&pre [] q)=true:=by
   intro s' q hh
   simp only[Bool.and_eq_true]at hh
   simp[pre,hh.1]
  have:v.ar s []=true:=by
   cases v with
   | al s' q=>exact e _ _ hr
   | ptr s' q _=>exact e _ _ hr
   | el s' q _ _=>exact e _ _ hr
   | lE T cs=>
    simp only[AV.ar,List.any_eq_true]at hr ⊢
    obtain⟨c,hc,Bi⟩:=hr
    refine⟨c,hc, ?_⟩
    cases c with
    | al s' q=>exact e _ _ Bi
    | pv t v=>cases Bi
    | nil E=>cases Bi
   | _=>cases hr
  rw[h]at this;cases this
theorem gn (s:Nat) (p:List Nat):∀(n off:Nat) (st:St),(bc s p off n st).length=st.length
 | 0,_,_=>rfl
 | n+1,off,st=>by rw[bc,gn s p n,bC]
theorem jZ {s:Nat} {p:List Nat} {t:Nat}:∀(n off:Nat) {st aZ:St},get st t=get aZ t→get (bc s p off n st) t=get (bc s p off n aZ) t
 | 0,_,_,_,h=>h
 | n+1,off,st,aZ,h=>by
  rw[bc,bc]
  exact jZ n (off+1) (by rw[cj,cj,h])
theorem oK {s:Nat} {p:List Nat} {t:Nat}:∀(n off:Nat) {st:St},(get st t).ar s []=false→get (bc s p off n st) t=get st t
 | 0,_,_,_=>rfl
 | n+1,off,st,h=>by
  have e:get (kill s (p++[off]) st) t=get st t:=by rw[cj,tj h];rfl
  rw[bc,oK n (off+1) (by rw[e];exact h),e]
theorem qX {s:Nat} {p:List Nat} {y:AO} {t:Nat} (hl:st.length=aZ.length) (hs:get st s=get aZ s) (ht:get st t=get aZ t):get (setObj st s p y) t=get (setObj aZ s p y) t:=by
 unfold setObj
 rw[hs]
 split
 ·rw[bU,bU,hl,ht]
 ·exact ht
structure Bp (P:Program) (call:aw) (N:Nat) (o:Oper) (st:St) (T:St→St):Prop where
 ev:∀aZ,(∀x∈o.op.operands,Ag st aZ x)→∀K':St→R,j7 P call N o aZ K'=K' (T aZ)
 len:∀aZ,(T aZ).length=aZ.length
 congr:∀aZ,st.length=aZ.length→(∀x∈o.op.operands,Ag st aZ x)→∀t,get st t=get aZ t→get (T st) t=get (T aZ) t
 same:∀t,(∀d,o.dst=some d→t≠d∧(get st t).ar d []=false)→(∀s,(∃x∈o.op.operands,s∈aP st x)→t≠s∧(get st t).ar s []=false)→get (T st) t=get st t
 Wm:∀aZ,(∀x∈o.op.operands,Ag st aZ x)→fJ P o aZ=true
 noG:o.guard=none
theorem Kt (ha:fV o=true) (h:j7 P call N o st K=some r):∃T,Bp P call N o st T:=by
 obtain⟨d,y,tg,QH,_,J9,Ku⟩:=FI ha h
 refine⟨nG d y tg,Ku,fun aZ=>yX _ _ _ _,fun aZ hl hA t ht=>Bo hl (fun x s p hh=>⟨hA x (J9 x s p hh).1,(J9 x s p hh).2⟩) ht,fun t h1 h2=> ?_,fun aZ _=> ?_, ?_⟩
 ·refine DL (fun x s p hh=>(J9 x s p hh).2) (h1 d QH).1 (h1 d QH).2 (fun x s p hh=> ?_)
  obtain⟨hx,hl⟩:=J9 x s p hh
  exact⟨fun hh=>(h2 t ⟨x,hx,hh⟩).1 rfl,(h2 s ⟨x,hx,kP hl⟩).2⟩
 ·unfold fV at ha
  simp only[Bool.and_eq_true]at ha
  obtain⟨_,ha⟩:=ha
  split at ha
  ·rename_i c0 aM
   split at ha
   ·rename_i hcb
    simp only[fJ,aM,hcb]
   ·cases ha
  ·cases ha
 ·unfold fV at ha
  simp only[Bool.and_eq_true]at ha
  exact Option.isNone_iff_eq_none.1 ha.1
theorem Ag.nY {x:Operand} (h:Ag st aZ x):V.nY aZ x=V.nY st x:=by
 cases x with
 | tmp i=>simp only[V.nY];rw[h.tmp]
 | _=>rfl
theorem Kv {x:Operand} {s off:Nat} {p:List Nat} (h:de st x=some (s,p,off)):s∈aP st x:=by
 cases x with
 | tmp i=>
  simp only[de]at h
  cases hg:get st i with
  | al s' p'=>
   rw[hg]at h
   simp only at h
   have:s'=s:=by
    split at h
    all_goals first
     | (simp only[Option.some.injEq,Prod.mk.injEq]at h;exact h.1)
     | cases h
   subst this
   simp[aP,hg]
  | ptr s' p' o'=>
   rw[hg]at h
   simp only[Option.some.injEq,Prod.mk.injEq]at h
   obtain⟨rfl,_,_⟩:=h
   simp[aP,hg]
  | o x=>
   rw[hg]at h
   have:i=s:=by
    cases x<;>simp at h<;>exact h.1
   subst this
   simp[aP]
  | _=>rw[hg]at h;simp at h
 | _=>simp[de]at h
theorem Kw (ha:(tU P st o).isSome=true):∃T,Bp P call N o st T:=by
 unfold tU at ha
 split at ha
 ·rename_i T addr x aM
  split at ha
  ·rename_i nR yE
   split at ha
   ·rename_i s p off QT
    split at ha
    ·rename_i E cs bq
     split at ha
     ·rename_i v Wn lH
      cases hc:(aO (ai P T)&&(Nat.beq (P.cellsOf T) (ae P deep T).length&&(decide (0<P.cellsOf T)&&decide (off+(ae P deep T).length≤cs.length))))with
      | false=>rw[hc]at ha;cases ha
      | true=>
       rw[Bool.and_eq_true]at hc
       obtain⟨S5,hc⟩:=hc
       have Pa:addr∈o.op.operands:=by rw[aM];simp[Op.operands]
       have Ks:x∈o.op.operands:=by rw[aM];simp[Op.operands]
       have kD:=Kv QT
       refine⟨fun st=>setObj (bc s p off (ae P deep T).length st) s p (.box E (dh cs off (jK (ae P deep T) 0 v))),fun aZ hA K'=> ?_,fun aZ=> ?_,fun aZ hl hA t ht=> ?_,fun t h1 h2=> ?_,fun aZ _=> ?_,nR⟩
       ·simp only[j7,aM,yE,(hA addr Pa).de,QT,(hA addr Pa).yW QT,bq,S5,cond_true,(hA x Ks).nY,Wn,(hA x Ks).rd,lH,hc]
       ·rw[fE,gn]
       ·refine qX (by rw[gn,gn,hl]) (jZ _ _ ?_) (jZ _ _ ht)
        exact(hA addr Pa s kD).symm
       ·obtain⟨n1,n2⟩:=h2 s ⟨addr,Pa,kD⟩
        show get (setObj _ s p _) t=_
        rw[ez n1,oK _ _ n2]
       ·simp only[fJ,aM]
     ·cases ha
    ·cases ha
   ·cases ha
  ·cases ha
 ·cases ha
theorem NX {a s j off:Nat} {p:List Nat} (h:get st a= .el s p j off):de st (.tmp a)=none:=by
 simp only[de,h]
theorem Ag.jr {x:Operand} (h:Ag st aZ x):V.jr aZ x=V.jr st x:=by
 cases x with
 | tmp i=>
  simp only[V.jr]
  rw[h.tmp]
  cases hg:get st i with
  | al s p=>
   cases p with
   | nil=>
    simp only[]
    rw[h s (by simp[V.aP,hg])]
   | cons z p=>rfl
  | o y=>cases y<;>rfl
  | _=>rfl
 | _=>rfl
theorem Bq {x:Operand} {i:Nat} {F:TypeId} {l:List PV} (h:V.jr st x=some (i,F,l)):i∈aP st x:=by
 cases x with
 | tmp t=>
  simp only[V.jr]at h
  split at h
  ·simp only[Option.some.injEq,Prod.mk.injEq]at h
   obtain⟨rfl,_⟩:=h
   simp[aP]
  ·rename_i s hg
   split at h
   ·simp only[Option.some.injEq,Prod.mk.injEq]at h
    obtain⟨rfl,_⟩:=h
    simp[aP,hg]
   ·cases h
  ·cases h
 | _=>cases h
theorem vd {v:AV} {i d:Nat} {q:List Nat} (h:v.ar i []=false):v.bQ i [] d q=v:=by
 cases v with
 | al s r=>
  have:(Nat.beq i s&&pre [] r)=false:=h
  simp only[AV.bQ,this,cond_false]
 | ptr s r off=>
  have:(Nat.beq i s&&pre [] r)=false:=h
  simp only[AV.bQ,this,cond_false]
 | el s r j off=>
  have:(Nat.beq i s&&pre [] r)=false:=h
  simp only[AV.bQ,this,cond_false]
 | lE T cs=>
  simp only[AV.bQ]
  congr 1
  have h:(cs.any fun c=>c.ar i [])=false:=h
  rw[List.any_eq_false]at h
  have key:∀c∈cs,ek.bQ i [] d q c=c:=by
   intro c hc
   have Bi:=h c hc
   cases c with
   | al s r=>
    have:(Nat.beq i s&&pre [] r)=false:=Bool.eq_false_iff.2 Bi
    simp only[ek.bQ,this,cond_false]
   | _=>rfl
  exact(List.map_congr_left key).trans (List.map_id' cs)
 | _=>rfl
theorem xg (i s:Nat) (p:List Nat) (j:Nat) (l':List PV) (st:St):(jq i s p j l' st).length=st.length:=by
 unfold jq
 split
 ·rw[fE];simp[cJ]
 ·rfl
theorem NY (ha:(yw P st o).isSome=true):∃T,Bp P call N o st T:=by
 unfold yw at ha
 split at ha
 ·rename_i T a x aM
  split at ha
  ·rename_i nR yE
   split at ha
   ·rename_i s p j off Jr
    split at ha
    ·rename_i E D l hh bq
     split at ha
     ·rename_i i F l' jf
      cases hc:(Nat.beq off 0&&(Nat.beq T E&&(!Nat.beq i s&&(jo hh j&&(Nat.beq (P.cellsOf T) 1&&Nat.beq F D)))))with
      | false=>rw[hc]at ha;cases ha
      | true=>
       simp only[Bool.and_eq_true]at hc
       obtain⟨c1,c2,c3,c4,c5,c6⟩:=hc
       have Pa:(Operand.tmp a)∈o.op.operands:=by rw[aM];simp[Op.operands]
       have Ks:x∈o.op.operands:=by rw[aM];simp[Op.operands]
       have kD:s∈aP st (.tmp a):=by simp[aP,Jr]
       have Wo:=Bq jf
       have QP:∀aZ:St,get aZ s=get st s→obj (kill s (p++[j]) aZ) s p=obj (kill s (p++[j]) st) s p:=by
        intro aZ he
        unfold V.obj
        rw[cj,cj,he]
       refine⟨fun st=>jq i s p j l' (kill s (p++[j]) st),fun aZ hA K'=> ?_,fun aZ=> ?_,fun aZ hl hA t ht=> ?_,fun t h1 h2=> ?_,fun aZ _=> ?_,nR⟩
       ·have Yu:=hA _ Pa
        have S6:get aZ a= .el s p j off:=by rw[Yu.tmp,Jr]
        have Bj:obj aZ s p= .own E D l hh:=by rw[Yu.root (.inr (.inr ⟨j,off,Jr⟩)) p,bq]
        simp only[j7,aM,yE,NX S6,S6,Bj,c1,c2,c3,c4,c5,c6,Bool.and_self,cond_true,(hA x Ks).jr,jf]
       ·rw[xg,bC]
       ·have hs:=(hA _ Pa) s kD
        unfold jq
        rw[QP aZ hs]
        split
        ·refine qX (by simp[cJ,bC,hl]) ?_ ?_
         ·rw[cL,cL,cj,cj,hs,bC,bC,hl]
         ·rw[cL,cL,cj,cj,ht,bC,bC,hl]
        ·rw[cj,cj,ht]
       ·obtain⟨n1,n2⟩:=h2 s ⟨_,Pa,kD⟩
        obtain⟨n3,n4⟩:=h2 i ⟨_,Ks,Wo⟩
        have hk:get (kill s (p++[j]) st) t=get st t:=by rw[cj,tj n2];rfl
        show get (jq i s p j l' (kill s (p++[j]) st)) t=_
        unfold jq
        split
        ·rw[ez n1,cL,if_neg (fun hh=>n3 hh.1),hk,vd n4]
        ·exact hk
       ·simp only[fJ,aM]
     ·cases ha
    ·cases ha
   ·cases ha
  ·cases ha
 ·cases ha
theorem Kx (ha:(tV st o).isSome=true):∃T,Bp P call N o st T:=by
 unfold tV at ha
 split at ha
 ·rename_i i aM
  split at ha
  ·rename_i d nR yE
   split at ha
   ·rename_i x AH
    obtain⟨UO,hx⟩:(!Nat.beq d i)=true∧isObj x=true:=by
     cases hc:(!Nat.beq d i&&isObj x)with
     | true=>rwa[Bool.and_eq_true]at hc
     | false=>rw[hc]at ha;cases ha
    have Jt:(Operand.tmp i)∈o.op.operands:=by rw[aM];simp[Op.operands]
    have Wo:i∈aP st (.tmp i):=by simp[aP]
    refine⟨fun st=>(cJ i d [] (kill d [] st)).set d (.o x),fun aZ hA K'=> ?_,fun aZ=> ?_,fun aZ hl hA t ht=> ?_,fun t h1 h2=> ?_,fun aZ hA=> ?_,nR⟩
    ·have QU:get aZ i= .o x:=by rw[(hA _ Jt).tmp,AH]
     simp only[j7,aM,yE,QU,UO,cond_true]
    ·simp[cJ,bC]
    ·show get ((cJ i d [] (kill d [] st)).set d (.o x)) t=get ((cJ i d [] (kill d [] aZ)).set d (.o x)) t
     have hm:(cJ i d [] (kill d [] st)).length=(cJ i d [] (kill d [] aZ)).length:=by simp[cJ,bC,hl]
     have hg:get (cJ i d [] (kill d [] st)) t=get (cJ i d [] (kill d [] aZ)) t:=by
      rw[cL,cL,cj,cj,ht,bC,bC,hl]
     rw[bU,bU,hm,hg]
    ·obtain⟨n1,n2⟩:=h1 d yE
     obtain⟨n3,n4⟩:=h2 i ⟨_,Jt,Wo⟩
     have hk:get (kill d [] st) t=get st t:=by rw[cj,n2];rfl
     show get ((cJ i d [] (kill d [] st)).set d (.o x)) t=_
     rw[bU,if_neg (fun hh=>n1 hh.1),cL,if_neg (fun hh=>n3 hh.1),hk,vd n4]
    ·have QU:get aZ i= .o x:=by rw[(hA _ Jt).tmp,AH]
     simp only[fJ,aM,QU]
     cases x<;>first
      | rfl
      | cases hx
   ·cases ha
  ·cases ha
 ·cases ha
theorem jy {s:Nat} {x:AO} (h:get st s= .o x):s<st.length:=by
 rcases Nat.lt_or_ge s st.length with h' | h'
 ·exact h'
 ·rw[jC h']at h;cases h
theorem FJ {s:Nat} {p:List Nat} {x:AO} (hs:get st s= .o x) (AG:get aZ s=get st s) {t:Nat} (ht:get aZ t=get st t):get (bR aZ s p) t=get (bR st s p) t:=by
 have ho:V.obj aZ s p=V.obj st s p:=by unfold V.obj;rw[AG]
 have Yv:get aZ s= .o x:=by rw[AG,hs]
 unfold bR setObj
 rw[ho,hs,Yv]
 simp only
 rw[bU,bU,ht]
 by_cases e:t=s
 ·rw[if_pos ⟨e,jy Yv⟩,if_pos ⟨e,jy hs⟩]
 ·rw[if_neg (fun hh=>e hh.1),if_neg (fun hh=>e hh.1)]
theorem xJ {s:Nat} {p:List Nat} {y:Operand}:∀r∈V.aP (bR st s p) y,r∈V.aP st y:=by
 intro r hr
 cases y with
 | tmp t=>
  have key:get (bR st s p) t=get st t∨∃z,get (bR st s p) t= .o z:=by
   unfold bR setObj
   split
   ·rw[bU]
    split
    ·exact .inr ⟨_,rfl⟩
    ·exact .inl rfl
   ·exact .inl rfl
  simp only[V.aP]at hr ⊢
  rcases key with h | ⟨z,h⟩
  ·rw[h]at hr;exact hr
  ·rw[h]at hr
   simp only[List.mem_cons,List.not_mem_nil,or_false]at hr
   rw[hr];simp
 | _=>exact hr
theorem Ag.Ky {s:Nat} {p:List Nat} {x:AO} (hs:get st s= .o x) (AG:get aZ s=get st s) {y:Operand} (h:Ag st aZ y):Ag (bR st s p) (bR aZ s p) y:=
 fun r hr=>FJ hs AG (h r (xJ r hr))
theorem S7 {s:Nat} {p:List Nat} (h:(V.obj st s p).jh=true):∃x,get st s= .o x:=by
 unfold V.obj at h
 split at h
 ·exact⟨_,by assumption⟩
 ·cases h
theorem mj:∀(l:List Operand) {st aZ:St},(∀x∈l,Ag st aZ x)→(∀t,get aZ t=get st t→get (bS l aZ) t=get (bS l st) t)∧∀y,Ag st aZ y→Ag (bS l st) (bS l aZ) y
 | [],st,aZ,_=>⟨fun _ h=>h,fun _ h=>h⟩
 | x::l,st,aZ,h=>by
  have hx:=h x List.mem_cons_self
  have hl:∀y∈l,Ag st aZ y:=fun y hy=>h y (List.mem_cons_of_mem _ hy)
  simp only[bS]
  rw[hx.cV]
  split
  ·rename_i s p nM
   have hr:=kP nM
   have S8:=hx s hr
   have bq:V.obj aZ s p=V.obj st s p:=by unfold V.obj;rw[S8]
   have br:gx aZ s p=gx st s p:=by unfold gx;rw[S8]
   rw[bq,br]
   cases hc:((V.obj st s p).jh&&gx st s p)with
   | false=>exact mj l hl
   | true=>
    rw[Bool.and_eq_true]at hc
    obtain⟨z,hz⟩:=S7 hc.1
    obtain⟨h1,h2⟩:=mj l (st:=bR st s p) (aZ:=bR aZ s p) (fun y hy=>(hl y hy).Ky hz S8)
    exact⟨fun t ht=>h1 t (FJ hz S8 ht),fun y hy=>h2 y (hy.Ky hz S8)⟩
  ·exact mj l hl
theorem lj:∀(l:List Operand) {st:St} {t:Nat},(∀x∈l,t∉V.aP st x)→get (bS l st) t=get st t
 | [],st,t,_=>rfl
 | x::l,st,t,h=>by
  have hl:∀y∈l,t∉V.aP st y:=fun y hy=>h y (List.mem_cons_of_mem _ hy)
  simp only[bS]
  split
  ·rename_i s p nM
   have hr:=kP nM
   cases hc:((V.obj st s p).jh&&gx st s p)with
   | false=>exact lj l hl
   | true=>
    have dc:t≠s:=by rintro rfl;exact h x List.mem_cons_self hr
    rw[cond_true,lj l (fun y hy hh=>hl y hy (xJ _ hh))]
    exact ez dc
  ·exact lj l hl
theorem fF:∀(l:List Operand) (st:St),(bS l st).length=st.length
 | [],st=>rfl
 | x::l,st=>by
  simp only[bS]
  split
  ·cases ((V.obj st _ _).jh&&gx st _ _)
   ·exact fF l st
   ·rw[cond_true,fF l,bR,fE]
  ·exact fF l st
theorem Ag.js {x:Operand} (h:Ag st aZ x):V.js aZ x=V.js st x:=by
 cases x with
 | tmp i=>
  simp only[V.js]
  rw[h.tmp]
  cases hg:get st i with
  | al s p=>simp only[AV.pure];rw[h.root (.inl hg)]
  | jg l=>cases l<;>rfl
  | o x=>cases x<;>rfl
  | _=>rfl
 | _=>rfl
theorem Kz (ha:tW P st o=true):∃T,Bp P call N o st T:=by
 unfold tW at ha
 split at ha
 ·rename_i T ps aM
  simp only[Bool.and_eq_true]at ha
  obtain⟨nR,yE,fy,dV⟩:=ha
  have nR:=Option.isNone_iff_eq_none.1 nR
  obtain⟨d,hd⟩:=Option.isSome_iff_exists.1 yE
  obtain⟨v,hv⟩:=Option.isSome_iff_exists.1 dV
  generalize hL:ps.toList.map (·.2)=L at hv
  have je:∀x∈L,x∈o.op.operands:=fun x hx=>by
   rw[aM];simp only[Op.operands];rw[←hL]at hx;exact List.mem_toArray.2 hx
  have Yw:∀x∈o.op.operands,x∈L:=fun x hx=>by
   rw[aM]at hx;simp only[Op.operands]at hx;rw[←hL];exact List.mem_toArray.1 hx
  have bu:∀s,dX (α:=AV) P call o s some=dX (α:=AV) P (fun _ _=>none) o s some:=fun s=>by simp only[dX,aM]
  refine⟨fun st=>put d v (bS L st),fun aZ hA K'=> ?_,fun aZ=> ?_,fun aZ hl hA t ht=> ?_,fun t h1 h2=> ?_,fun aZ hA=> ?_,nR⟩
  ·obtain⟨_,S5⟩:=mj L (st:=st) (aZ:=aZ) (fun x hx=>hA x (je x hx))
   have e:dX (α:=AV) P call o (bS L aZ) some=some v:=by
    rw[mh (fun x hx=>S5 x (hA x hx)),bu,hv]
   simp only[j7,aM]
   rw[hL,oE,e,hd];rfl
  ·rw[gM,fF]
  ·obtain⟨S5,_⟩:=mj L (st:=st) (aZ:=aZ) (fun x hx=>hA x (je x hx))
   rw[cX,cX,fF,fF,hl,S5 t ht.symm]
  ·obtain⟨n1,n2⟩:=h1 d hd
   rw[cX,if_neg (fun hh=>n1 hh.1),lj L (fun x hx hh=>(h2 t ⟨x,je x hx,hh⟩).1 rfl),n2];rfl
  ·have xG:∀p∈ps.toList,Ag st aZ p.2:=fun p hp=>hA p.2 (je p.2 (by rw[←hL];exact List.mem_map.2 ⟨p,hp,rfl⟩))
   simp only[fJ,aM]at fy ⊢
   rw[Ag.kg xG]
   have:(ps.all fun x=>V.js aZ x.2)=ps.all fun x=>V.js st x.2:=by
    rw[Bool.eq_iff_iff,Array.all_eq_true_iff_forall_mem,Array.all_eq_true_iff_forall_mem]
    constructor
    ·intro h x hx;rw[←(xG x (Array.mem_toList_iff.2 hx)).js];exact h x hx
    ·intro h x hx;rw[(xG x (Array.mem_toList_iff.2 hx)).js];exact h x hx
   rw[this];exact fy
 ·cases ha
theorem FK (ha:pW P st o=true):∃T,Bp P call N o st T:=by
 unfold pW at ha
 rw[Bool.or_eq_true,Bool.or_eq_true,Bool.or_eq_true]at ha
 rcases ha with ha | ha | ha | ha
 ·exact Kw ha
 ·exact NY ha
 ·exact Kx ha
 ·exact Kz ha
theorem yY (ha:pW P st o=true):(∃T a x,o.op= .store T a x)∨(∃i,o.op= .assign (.tmp i))∨∃T ps,o.op= .build T ps:=by
 unfold pW at ha
 rw[Bool.or_eq_true,Bool.or_eq_true,Bool.or_eq_true]at ha
 rcases ha with ha | ha | ha | ha
 ·unfold tU at ha
  split at ha
  ·rename_i T a x aM
   exact .inl ⟨T,a,x,aM⟩
  ·cases ha
 ·unfold yw at ha
  split at ha
  ·rename_i T a x aM
   exact .inl ⟨T, .tmp a,x,aM⟩
  ·cases ha
 ·unfold tV at ha
  split at ha
  ·rename_i i aM
   exact .inr (.inl ⟨i,aM⟩)
  ·cases ha
 ·unfold tW at ha
  split at ha
  ·rename_i T ps aM
   exact .inr (.inr ⟨T,ps,aM⟩)
  ·cases ha
theorem QV (ha:fV o=true∨(∃T a x,o.op= .store T a x)∨(∃i,o.op= .assign (.tmp i))∨∃T ps,o.op= .build T ps) (h:j7 P call N o st K=some r):∃gD,K gD=some r:=by
 rcases ha with ha | ⟨T,a,x,aM⟩ | ⟨i,aM⟩ | ⟨T,ps,aM⟩
 ·obtain⟨d,y,tg,_,_,_,Ku⟩:=FI ha h
  rw[Ku _ (fun _ _ _ _=>rfl) _]at h
  exact⟨_,h⟩
 ·simp only[j7,aM,Bool.cond_eq_ite]at h
  repeat' split at h
  all_goals first
   | exact⟨_,h⟩
   | cases h
 ·simp only[j7,aM,Bool.cond_eq_ite]at h
  repeat' split at h
  all_goals first
   | exact⟨_,h⟩
   | cases h
 ·simp only[j7,aM]at h
  rw[oE,Option.bind_eq_some_iff]at h
  obtain⟨v,_,h⟩:=h
  exact⟨_,h⟩
theorem si:∀ {l m:List Nat},uy l m=true→l=m
 | [],[],_=>rfl
 | x::l,y::m,h=>by
  simp only[uy,Bool.and_eq_true]at h
  rw[Nat.eq_of_beq_eq_true h.1,si h.2]
 | [],_::_,h=>by cases h
 | _::_,[],h=>by cases h
theorem KA {u v:AV} (h:AM u v=true):u=v:=by
 cases u<;>cases v<;>simp only[AM,Bool.and_eq_true]at h<;>first
  | (cases h;done)
  | (rw[Nat.eq_of_beq_eq_true h.1,si h.2.1,Nat.eq_of_beq_eq_true h.2.2])
  | (rw[Nat.eq_of_beq_eq_true h.1,si h.2])
theorem uc {l:List Nat} {x:Nat}:has l x=true↔x∈l:=by
 unfold has
 rw[List.any_eq_true]
 constructor
 ·rintro ⟨y,hy,h⟩
  rw[Nat.eq_of_beq_eq_true h];exact hy
 ·intro h
  exact⟨x,h,Nat.beq_refl x⟩
theorem jS {s:Nat}:s∈eI o st↔ ∃x∈o.op.operands,s∈aP st x:=by
 unfold eI JE
 rw[List.mem_flatMap]
 constructor
 ·rintro ⟨x,hx,h⟩;exact⟨x,Array.mem_toList_iff.1 hx,h⟩
 ·rintro ⟨x,hx,h⟩;exact⟨x,Array.mem_toList_iff.2 hx,h⟩
theorem Ag.aP {x:Operand} (h:Ag st aZ x):V.aP aZ x=V.aP st x:=by
 cases x with
 | tmp i=>simp only[V.aP];rw[h.tmp]
 | _=>rfl
theorem ve {l:List Nat} {v:AV} (h:clear l v=true) {s:Nat} (hs:s∈l):v.ar s []=false:=by
 unfold clear at h
 rw[List.all_eq_true]at h
 simpa using h s hs
theorem DM (hb:xI ops b) (hB:∀i o,ops[i]? =some o→∀e∈o.after,Region.binds .any e=true→e.on<i):∀(i:Nat) (o:Oper),ops[i]? =some o→∀k,(nth 0 b i).testBit k=true→k<i:=by
 intro i
 induction i using Nat.strongRecOn with
 | _ i ih=>
  intro o ho k hk
  rw[hb i o ho]at hk
  obtain⟨e,he,FG,h⟩:=tf hk
  have b6:=hB i o ho e he FG
  rcases h with h | h
  ·omega
  ·simp only[b6,decide_true,cond_true]at h
   have fQ:e.on<ops.size:=by have:=(Array.getElem?_eq_some_iff.1 ho).1;omega
   have QR:ops[e.on]? =some ops[e.on]:=Array.getElem?_eq_getElem fQ
   have:=ih e.on b6 _ QR k h
   omega
def yZ (P:Program) (call:aw) (N:Nat) (ops:Array Oper) (b:List Nat) (m:Nat) (st:St) (q:Nat):Prop:=
 ∃o d,ops[q]? =some o∧sO N o=true∧o.guard=none∧o.dst=some d∧(∀r,(get st r).ar d []=false)∧
  (∀k,k<ops.size→(nth 0 b q).testBit k=true∨(m≤k∧(nth 0 b k).testBit q=true)∨∀d',dS ops k=some d'→∀x∈o.op.operands,d'∉aP st x)∧
  dX P call o st some=some (get st d)
def eF (ops:Array Oper) (Pd:Nat→Bool) (st:St):St:=Fs ops st (fun _=> .dead) Pd
theorem jT {Pd:Nat→Bool} (r:Nat):get (eF ops Pd st) r=match dr ops r with | some k=>bif Pd k then .dead else get st r | none=>get st r:=by
 rcases Nat.lt_or_ge r st.length with h | h
 ·exact gb h
 ·rw[eF,jC (by rw[dO];exact h),jC h]
  split
  ·cases (Pd _)<;>rfl
  ·rfl
theorem Good.eF (h:Good P N st a hv w g) (Pd:Nat→Bool):Good P N (V.eF ops Pd st) a hv w g:=by
 have Sr:∀r,get (V.eF ops Pd st) r= .dead∨get (V.eF ops Pd st) r=get st r:=by
  intro r
  rw[jT]
  split
  ·cases (Pd _)
   ·exact .inr rfl
   ·exact .inl rfl
  ·exact .inr rfl
 refine h.mk' (by simp[V.eF,Fs]) h.inv.fresh h.inv.vars (fun t v ht bh=> ?_)
 have hs:=h.jy ht bh
 rcases Sr t with h1 | h1
 ·rw[h1];exact .dead v
 ·rw[h1]
  refine hs.db (Nat.le_refl _) (fun _ _ hb=>⟨hb,rfl⟩) (fun _ _ _=>⟨fun _=>rfl,fun _ _ _ ht=>⟨ht,rfl⟩⟩) (fun r q _=> ?_)
  rcases Sr r with h2 | h2
  ·left;unfold V.obj;rw[h2]
  ·right;exact⟨by unfold V.obj;rw[h2],rfl⟩
end
end Go.V
namespace Go.V
section
variable {P:Program} {N:Nat} {st aZ:St} {a:Act} {hv:List Value} {w w':World} {g g':G} {K:St→R} {r:List AO×List AO} {o:Oper} {Q:Exit→Act→World→Prop} {call:aw} {ops:Array Oper} {b:List Nat}
theorem gp (r:Nat):get (bM ops st) r=bif ops.toList.any (fun o=>match o.dst with | some d=>(get st r).ar d [] | none=>false)then .dead else get st r:=by
 unfold bM
 refine get_map (fun v=>bif ops.toList.any (fun o=>match o.dst with | some d=>v.ar d [] | none=>false)then .dead else v) ?_ st r
 cases (ops.toList.any fun o=>match o.dst with | some d=>AV.ar d [] .dead | none=>false)<;>rfl
theorem pL {d k r:Nat} (h:dS ops k=some d):(get (bM ops st) r).ar d []=false:=by
 rw[gp]
 cases hb:ops.toList.any (fun o=>match o.dst with | some d=>(get st r).ar d [] | none=>false)with
 | true=>rfl
 | false=>
  rw[List.any_eq_false]at hb
  unfold dS at h
  rw[Option.bind_eq_some_iff]at h
  obtain⟨o,ho,hd⟩:=h
  have:=hb o (Array.mem_toList_iff.2 (Array.mem_of_getElem? ho))
  rw[hd]at this
  simpa using this
theorem Good.bM (h:Good P N st a hv w g):Good P N (V.bM ops st) a hv w g:=by
 have bq:∀r q,V.obj (V.bM ops st) r q=V.obj st r q:=by
  intro r q
  refine ju (fun x=> ?_) q
  rw[gp]
  constructor
  ·intro hx
   have:(ops.toList.any fun o=>match o.dst with | some d=>(get st r).ar d [] | none=>false)=false:=by
    rw[List.any_eq_false,hx]
    intro o _
    cases o.dst<;>simp[AV.ar]
   rw[this];exact hx
  ·intro hx
   cases hb:(ops.toList.any fun o=>match o.dst with | some d=>(get st r).ar d [] | none=>false)with
   | true=>rw[hb]at hx;cases hx
   | false=>rw[hb]at hx;exact hx
 refine h.mk' (by simp[V.bM]) h.inv.fresh h.inv.vars (fun t v ht bh=> ?_)
 have hs:=h.jy ht bh
 rw[gp]
 cases hb:(ops.toList.any fun o=>match o.dst with | some d=>(get st t).ar d [] | none=>false)with
 | true=>exact .dead v
 | false=>
  exact hs.db (Nat.le_refl _) (fun _ _ hb=>⟨hb,rfl⟩) (fun _ _ _=>⟨fun _=>rfl,fun _ _ _ ht=>⟨ht,rfl⟩⟩) (fun r q _=> .inr ⟨bq r q,rfl⟩)
theorem xK {bW:Array Bool} {X:Nat→Bool} (hL:DI ops bW X) (hB:∀i o,ops[i]? =some o→∀e∈o.after,Region.binds .any e=true→e.on<i) (hX:∀k,k<ops.size→X k=true):Region.ready .any ops bW=[]:=by
 rw[List.eq_nil_iff_forall_not_mem]
 intro i hi
 obtain⟨o,ho,h1,_⟩:=(se hL hB i).1 hi
 rw[hX i (Array.getElem?_eq_some_iff.1 ho).1]at h1;cases h1
theorem wpAny_all {bW:Array Bool} {X:Nat→Bool} (hL:DI ops bW X) (hB:∀i o,ops[i]? =some o→∀e∈o.after,Region.binds .any e=true→e.on<i) (hX:∀k,k<ops.size→X k=true) (hQ:Q .normal a w):∀fuel,wpAny P .any ops Q fuel bW a w
 | 0=>⟨xK hL hB hX,hQ⟩
 | fuel+1=>⟨fun _=>hQ,fun i hi=>by rw[xK hL hB hX]at hi;cases hi⟩
theorem HB:eF ops (fun _=>false) st=st:=oH (fun _ _=>rfl)
theorem DN (h:JF P o=true):o.guard=none:=Option.isNone_iff_eq_none.1 h
theorem xh (bu:ct P call) (hU:kq ops) (hb:xI ops b) (hB:∀i o,ops[i]? =some o→∀e∈o.after,Region.binds .any e=true→e.on<i)
  {Y:Nat→Bool} {e:Nat} {c:Nat→AV} {S:Nat→St} (hS:SZ P call N ops b Y e c S) {q:Nat} (Yx:q<e) (Yy:Y q=false) {F:St→St}
  (hF:Bp P call N o (S e) F) (QR:ops[e]? =some o)
  (h:C5 P call ops b e o (S e) (bM ops (F (S e))) q=true):
  yZ P call N ops b (e+1) (bM ops (F (S e))) q∧∀dq,dS ops q=some dq→∀x∈o.op.operands,dq∉aP (S e) x:=by
 obtain⟨oq,R1,S9,_,_,_,_,qQ⟩:=hS.step q Yx Yy
 generalize hT:bM ops (F (S e))=T at h ⊢
 unfold C5 at h
 rw[R1]at h
 simp only at h
 split at h
 ·rename_i dq Wp
  simp only[Bool.and_eq_true,Bool.not_eq_true']at h
  obtain⟨⟨Ta,C0,Nl⟩,DA,KB⟩:=h
  have hg:=DN Ta
  have Tb:dS ops q=some dq:=by rw[qW R1,Wp]
  rw[List.all_eq_true]at DA
  have hk:∀k,k<ops.size→(nth 0 b q).testBit k=true∨(e+1≤k∧(nth 0 b k).testBit q=true)∨∀d',dS ops k=some d'→d'∉eI oq (S e)∧d'∉eI oq T:=by
   intro k hk
   have:=DA k (List.mem_range.2 hk)
   simp only[Bool.or_eq_true,Bool.and_eq_true,decide_eq_true_eq]at this
   rcases this with h1 | h1 | h1
   ·exact .inl h1
   ·exact .inr (.inl ⟨h1.1,h1.2⟩)
   ·refine .inr (.inr (fun d' AI=> ?_))
    unfold dS at AI
    rw[AI]at h1
    simp only[Bool.and_eq_true,Bool.not_eq_true']at h1
    exact⟨fun hh=>by rw[uc.2 hh]at h1;exact absurd h1.1 (by simp),fun hh=>by rw[uc.2 hh]at h1;exact absurd h1.2 (by simp)⟩
  have dV:dX P call oq T some=some (get T dq):=by
   by_cases fT:(dq::eI oq (S e)).all (fun r=> !has (eI o (S e)++o.dst.toList) r&&clear (eI o (S e)++(o.dst.toList++dstsOf ops)) (get (S e) r))=true
   ·rw[List.all_eq_true]at fT
    have uM:∀r,r∈dq::eI oq (S e)→get T r=get (S e) r:=by
     intro r hr
     have:=fT r hr
     simp only[Bool.and_eq_true,Bool.not_eq_true']at this
     obtain⟨h1,h2⟩:=this
     have xt:r∉eI o (S e)++o.dst.toList:=fun hh=>by rw[uc.2 hh]at h1;cases h1
     have ha:get (F (S e)) r=get (S e) r:=by
      refine hF.same r (fun d QH=> ?_) (fun s hs=> ?_)
      ·rw[QH]at xt h2
       exact⟨by rintro rfl;exact xt (by simp),ve h2 (by simp)⟩
      ·have hm:=jS.2 hs
       exact⟨by rintro rfl;exact xt (List.mem_append_left _ hm),ve h2 (List.mem_append_left _ hm)⟩
     rw[←hT,gp,ha]
     have:(ops.toList.any fun o=>match o.dst with | some d=>(get (S e) r).ar d [] | none=>false)=false:=by
      rw[List.any_eq_false]
      intro o' Kk
      cases AI:o'.dst with
      | none=>simp
      | some d'=>simpa using ve h2 (List.mem_append_right _ (List.mem_append_right _ (List.mem_filterMap.2 ⟨o',Kk,AI⟩)))
     rw[this];rfl
    have Pb:=hS.eq hU e (Nat.le_refl _)
    have hSq:=hS.eq hU q (by omega)
    have Wq:dX P call oq (S e) some=some (c q):=by
     rcases qQ with ⟨Dy,_⟩ | ⟨_,dV⟩
     ·unfold cD at Dy;rw[hg]at Dy;cases Dy
     ·rw[←dV]
      refine(mh (fun x hx s hs=> ?_) some).symm
      have kD:s∈eI oq (S e):=jS.2 ⟨x,hx,hs⟩
      rw[Pb,hSq]
      by_cases b6:s<(S 0).length
      ·rw[gb b6,gb b6]
       cases jf:dr ops s with
       | none=>rfl
       | some k=>
        have hd:=ea jf
        have pD:=kO hd
        simp only
        rcases hk k pD with h1 | ⟨h1,_⟩ | h1
        ·have:=DM hb hB q oq R1 k h1
         have e1:decide (k<e)=true:=by simp;omega
         have e2:decide (k<q)=true:=by simp;omega
         rw[e1,e2]
        ·have e1:decide (k<e)=false:=by simp;omega
         have e2:decide (k<q)=false:=by simp;omega
         rw[e1,e2]
        ·exact absurd kD (h1 s hd).1
      ·rw[jC (by rw[dO];omega),jC (by rw[dO];omega)]
    have gi:dq<(S 0).length:=Nat.lt_of_lt_of_le ((gm S9).2 dq Wp) hS.len
    have hcq:get (S e) dq=c q:=by
     rw[Pb,gb gi,uZ hU Tb]
     simp[Yy,Yx]
    rw[uM dq List.mem_cons_self,hcq, ←Wq]
    exact mh (fun x hx s hs=>uM s (List.mem_cons_of_mem _ (jS.2 ⟨x,hx,hs⟩))) some
   ·have Dl:=Bool.eq_false_iff.2 fT
    rw[Dl,cond_false]at KB
    split at KB
    ·rename_i u hu
     rw[oE]at hu
     rw[Option.bind_eq_some_iff]at hu
     obtain⟨v,hv,hr⟩:=hu
     have KC:AM v (get T dq)=true:=by
      cases hh:AM v (get T dq)with
      | true=>rfl
      | false=>rw[hh]at hr;cases hr
     rw[hv,KA KC]
    ·cases KB
  refine⟨⟨oq,dq,R1,S9,hg,Wp,fun r=>nF C0 r,fun k pD=> ?_,dV⟩,fun d' AI x hx hh=> ?_⟩
  ·rcases hk k pD with h1 | h1 | h1
   ·exact .inl h1
   ·exact .inr (.inl h1)
   ·exact .inr (.inr (fun d' AI x hx hh=>(h1 d' AI).2 (jS.2 ⟨x,hx,hh⟩)))
  ·rw[Tb]at AI
   cases AI
   rw[uc.2 (jS.2 ⟨x,hx,hh⟩)]at Nl;cases Nl
 ·cases h
theorem y3 (bu:ct P call) (hU:kq ops) (hb:xI ops b) (hB:∀i o,ops[i]? =some o→∀e∈o.after,Region.binds .any e=true→e.on<i) {w0:World} {g0:G} (ag:fB P N hv w0 g0 K r (Q .normal)):
  ∀(len m:Nat) (env:List (Nat×Bool)) (st:St) (Pd:Nat→Bool) (a:Act) (w:World) (g:G) (fuel:Nat) (bW:Array Bool),m+len=ops.size→(∀q,Pd q=true→q<m∧yZ P call N ops b m st q)→Good P N (eF ops Pd st) a hv w g→Fr w0 g0 w g→
   (∀d k r,dS ops k=some d→(get st r).ar d []=false)→sd ops (fun k=>decide (k<m)&& !Pd k)→
   pK N ops env m st→iJ P call N ops b (List.range' m len) env st K=some r→DI ops bW (fun k=>decide (k<m)&& !Pd k)→ti ops (fun k=>decide (k<m)&& !Pd k)≤fuel→wpAny P .any ops Q fuel bW a w:=by
 intro len
 induction len using Nat.strongRecOn with
 | _ len ih=>
  intro m env st Pd a w g fuel bW hm Yz h hf Pc YA hE hk hL hc
  obtain⟨e,c,S0,pn,q1,q2,q3,q4,q5,q6⟩:=Kp hU len m env st hm hE hk
  have hlen:N≤st.length:=by
   have:=h.len
   rw[show(eF ops Pd st).length=st.length by simp[eF,Fs]]at this
   omega
  generalize hY:(fun k=>decide (k<m)&& !Pd k)=Y at YA hL hc
  have Wr:∀k,Y k=(decide (k<m)&& !Pd k):=fun k=>by rw[←hY]
  let c':Nat→AV:=fun k=>if k<m then(match dS ops k with | some d=>get st d | none=> .dead)else c k
  let S:Nat→St:=fun i=>if i≤m then eF ops (fun k=>Pd k&&decide (i≤k)) st else S0 i
  have YB:∀k,Pd k=true→k<m:=fun k hk=>(Yz k hk).1
  have QW:∀i,m≤i→S i=S0 i:=by
   intro i hi
   show(if i≤m then eF ops (fun k=>Pd k&&decide (i≤k)) st else S0 i)=S0 i
   by_cases Jt:i=m
   ·subst Jt
    rw[if_pos (Nat.le_refl _),q3]
    refine oH (fun k _=> ?_)
    cases hp:Pd k with
    | false=>rfl
    | true=>have:=YB k hp;simp;omega
   ·rw[if_neg (by omega)]
  have KD:∀i,i≤m→S i=eF ops (fun k=>Pd k&&decide (i≤k)) st:=fun i hi=>by
   show(if i≤m then _ else S0 i)=_
   rw[if_pos hi]
  have Ws:S 0=eF ops Pd st:=by
   rw[KD 0 (Nat.zero_le _)]
   exact mi (fun k _=>by simp)
  have hS:SZ P call N ops b Y e c' S:=by
   refine⟨q2,fun i hi No=> ?_,fun i hi No=> ?_,fun d k r hd=> ?_, ?_⟩
   ·by_cases Jt:m≤i
    ·have:=q4 i Jt hi
     rw[QW i Jt,QW (i+1) (by omega)]
     show Quiet P call N ops b i (S0 i) (S0 (i+1)) (if i<m then _ else c i)
     rw[if_neg (by omega)];exact this
    ·have hPi:Pd i=true:=by
      rw[Wr]at No
      cases hp:Pd i with
      | true=>rfl
      | false=>rw[hp]at No;simp at No;omega
     obtain⟨o,d,ho,br,hg,hd,C0,DA,dV⟩:=(Yz i hPi).2
     have HA:dS ops i=some d:=by rw[qW ho,hd]
     rw[KD i (by omega),KD (i+1) (by omega)]
     have Tc:∀r,(get (eF ops (fun k=>Pd k&&decide (i≤k)) st) r).ar d []=false:=by
      intro r
      rw[jT]
      split
      ·rename_i k _
       show AV.ar d [] (bif (Pd k&&decide (i≤k))then .dead else get st r)=false
       cases (Pd k&&decide (i≤k))
       ·exact C0 r
       ·rfl
      ·exact C0 r
     have O9:∀x∈o.op.operands,Ag st (eF ops (fun k=>Pd k&&decide (i≤k)) st) x:=by
      intro x hx s hs
      rw[jT]
      split
      ·rename_i k jf
       have R3:=ea jf
       rcases DA k (kO R3)with h1 | ⟨h1,_⟩ | h1
       ·have:=DM hb hB i o ho k h1
        have:(Pd k&&decide (i≤k))=false:=by simp;omega
        rw[this];rfl
       ·have:Pd k=false:=by
         cases hp:Pd k with
         | false=>rfl
         | true=>have:=YB k hp;omega
        rw[this];rfl
       ·exact absurd hs (h1 s R3 x hx)
      ·rfl
     refine⟨o,ho,br,fun j want YC=>(by rw[hg]at YC;cases YC),fun d' AI r=>(by rw[hd]at AI;cases AI;exact Tc r),fun k pD mI=> ?_, ?_, .inr ⟨by unfold cD;rw[hg], ?_⟩⟩
     ·rcases DA k pD with h1 | ⟨h1,h2⟩ | h1
      ·left
       have:=DM hb hB i o ho k h1
       unfold ordered
       rw[decide_eq_true this];exact h1
      ·left
       unfold ordered
       rw[decide_eq_false (by omega)];exact h2
      ·right
       intro d' AI x hx
       rw[(O9 x hx).aP]
       exact h1 d' AI x hx
     ·show _=gy o.dst (if i<m then(match dS ops i with | some d=>get st d | none=> .dead)else c i) _
      rw[if_pos (by omega),HA,hd]
      simp only[gy]
      have Qx:d<st.length:=Nat.lt_of_lt_of_le ((gm br).2 d hd) hlen
      refine qb (by rw[gM];simp[eF,Fs]) (fun s _=> ?_)
      rw[cX,Tc s,cond_false]
      rw[jT,jT]
      by_cases wI:s=d
      ·subst wI
       rw[if_pos ⟨rfl,by simp[eF,Fs];exact Qx⟩,uZ hU HA]
       have:(Pd i&&decide (i+1≤i))=false:=by simp
       simp only[this,cond_false]
      ·rw[if_neg (fun hh=>wI hh.1)]
       cases jf:dr ops s with
       | none=>rfl
       | some k=>
        have mI:k≠i:=by
         rintro rfl
         rw[ea jf]at HA
         exact wI (Option.some.inj HA)
        have:decide (i+1≤k)=decide (i≤k):=by
         by_cases h1:i≤k
         ·simp[h1];omega
         ·simp[h1];omega
        simp only[this]
     ·rw[mh O9,dV]
      show _=some (if i<m then(match dS ops i with | some d=>get st d | none=> .dead)else c i)
      rw[if_pos (by omega),HA]
   ·rw[Wr]at No
    simp at No
    rw[KD i (by omega),KD (i+1) (by omega)]
    refine mi (fun k _=> ?_)
    by_cases mI:k=i
    ·subst mI;simp[No.2]
    ·have:decide (i+1≤k)=decide (i≤k):=by
      by_cases h1:i≤k
      ·simp[h1];omega
      ·simp[h1];omega
     rw[this]
   ·rw[Ws,jT]
    split
    ·rename_i k' _
     show AV.ar d [] (bif Pd k' then .dead else get st r)=false
     cases Pd k'
     ·exact Pc d k r hd
     ·rfl
    ·exact Pc d k r hd
   ·rw[Ws];simpa[eF,Fs]using hlen
  have Pb:S e=S0 e:=QW e q1
  have YD:∀k,(Y k|| false)=Y k:=fun k=>Bool.or_false _
  have S1:∀k,Y k=true→k<e:=by
   intro k hk
   rw[Wr]at hk
   simp at hk;omega
  refine NT bu hS hU hb hB (w0:=w0) (g0:=g0) S1 (fun k QX Td=> ?_) (fun gL fuel bW a w g h hf hL=> ?_) (fun gL fuel X bW a w g h hf hX hC hL hc sh=> ?_) fuel (fun _=>false) bW a w g (by rw[oH (fun _ _=>rfl),Ws];exact h) hf (fun k hk=>by cases hk)
   (fun i o hi ho ed NV FH=>by have:=YA i o (by simpa using hi) ho ed NV FH;simpa using this) (hL.congr fun k _=>(YD k).symm) (by rw[sf (fun k _=>YD k)];exact hc)
  ·rcases q6 with ⟨h1,_⟩ | ⟨_,o,wt,ho,br,Nn,hl,_⟩
   ·omega
   ·rcases th Nn hl k Td (by omega)with h1 | ⟨h1,_⟩
    ·unfold ordered at h1
     rw[decide_eq_false (by omega),cond_false]at h1;exact h1
    ·omega
  ·rcases q6 with ⟨h1,h2⟩ | ⟨he,_⟩
   ·rw[Pb]at h
    rw[oJ h q5]at h2
    exact wpAny_all hL hB (fun k hk=>rfl) (ag _ _ _ _ h hf h2) fuel
   ·omega
  ·rcases q6 with ⟨h1,h2⟩ | ⟨he,o,wt,ho,br,Nn,hl,AH,mc⟩
   ·omega
   ·obtain⟨NW,gi⟩:=gm br
    let ud:Nat→Bool:=fun k=>decide (k<e)&& !(Y k|| X k)
    have QY:∀k,ud k=(decide (k<e)&& !(Y k|| X k)):=fun _=>rfl
    have Te:∀k,(Y k|| X k)=true→k<e:=by
     intro k hk
     rw[Bool.or_eq_true]at hk
     rcases hk with h1 | h1
     ·exact S1 k h1
     ·exact(hX k h1).2
    have KE:∀k,((Y k|| X k)|| decide (k=e))=(decide (k<e+1)&& !ud k):=by
     intro k
     rw[QY]
     by_cases QX:k=e
     ·subst QX
      simp
     ·cases hyx:(Y k|| X k)with
      | true=>have:=Te k hyx;simp;omega
      | false=>
       by_cases h1:k<e
       ·simp[h1,QX]
       ·simp[QX];omega
    have U0:DI ops (bW.setIfInBounds e true) (fun k=>decide (k<e+1)&& !ud k):=(hL.set e).congr (fun k _=>KE k)
    have Tf:(Y e|| X e)=false:=by
     cases hh:(Y e|| X e)with
     | false=>rfl
     | true=>exact absurd (Te e hh) (Nat.lt_irrefl _)
    have yJ:ti ops (fun k=>decide (k<e+1)&& !ud k)≤fuel:=by
     rw[←sf (fun k _=>KE k)]
     have:=DJ (ops:=ops) (X:=fun k=>Y k|| X k) (i:=e) he Tf
     omega
    have UZ:sd ops (fun k=>decide (k<e+1)&& !ud k):=by
     intro k ok hk br ed NV FH
     show(decide (ed.on<e+1)&& !ud ed.on)=true
     have hk:(decide (k<e+1)&& !ud k)=true:=hk
     rw[←KE]at hk ⊢
     rw[Bool.or_eq_true]at hk
     rcases hk with h1 | h1
     ·have h3:(Y ed.on|| X ed.on)=true:=hC k ok h1 br ed NV FH
      rw[h3];rfl
     ·have mI:k=e:=of_decide_eq_true h1
      subst mI
      have h3:=sh ok br ed NV FH
      rw[h3];rfl
    have Wt:∀gD a1 w1 g1,(∀q,ud q=true→q<e+1∧yZ P call N ops b (e+1) (V.bM ops gD) q)→Good P N (eF ops ud (V.bM ops gD)) a1 hv w1 g1→Fr w0 g0 w1 g1→
      iJ P call N ops b (List.range' (e+1) (ops.size- (e+1))) [] (V.bM ops gD) K=some r→wpAny P .any ops Q fuel (bW.setIfInBounds e true) a1 w1:=by
     intro gD a1 w1 g1 hp1 h1 J6 sW
     exact ih (ops.size- (e+1)) (by omega) (e+1) [] _ ud a1 w1 g1 fuel _ (by omega) hp1 h1 J6 (fun d k r hd=>pL hd) UZ (fun j bv hm=>by cases hm) sW U0 yJ
    rw[←Pb]at AH mc q5 Nn hl
    by_cases hP:∃q,ud q=true
    ·
     obtain⟨q0,Wu⟩:=hP
     have QZ:=Wu
     rw[QY]at QZ
     simp only[Bool.and_eq_true,decide_eq_true_eq,Bool.not_eq_true']at QZ
     have DO:∀q,ud q=true→ordered b e q=false:=by
      intro q hq
      rw[QY]at hq
      simp only[Bool.and_eq_true,decide_eq_true_eq,Bool.not_eq_true']at hq
      cases hh:ordered b e q with
      | false=>rfl
      | true=>
       unfold ordered at hh
       rw[decide_eq_true hq.1,cond_true]at hh
       have:=lM hb hC e o q ho (sh o ho) hh
       rw[this]at hq
       exact absurd hq.2 (by simp)
     have oM:fV o=true∨pW P (S e) o=true:=by
      rcases th Nn hl q0 (by omega) (by omega)with h1 | ⟨_,h1⟩
      ·rw[DO q0 Wu]at h1;cases h1
      ·exact h1
     have Tg:o.guard=none:=by
      rcases oM with oM | oM
      ·unfold fV at oM
       simp only[Bool.and_eq_true]at oM
       exact Option.isNone_iff_eq_none.1 oM.1
      ·obtain⟨T,hT⟩:=FK (call:=call) (N:=N) oM
       exact hT.noG
     have Th:fV o=true∨(∃T a x,o.op= .store T a x)∨(∃i,o.op= .assign (.tmp i))∨∃T ps,o.op= .build T ps:=by
      rcases oM with oM | oM
      ·exact .inl oM
      ·exact .inr (yY oM)
     have hwt:wt=true:=by
      unfold cD at AH;rw[Tg]at AH;exact AH
     subst hwt
     rw[if_pos rfl]at mc
     have Q0:=hS.eq hU e (Nat.le_refl _)
     have Q0:=hS.eq hU e (Nat.le_refl _)
     cases Ti:pn with
     | cons x l=>
      obtain⟨gD,mc⟩:=QV Th mc
      obtain⟨hs,_⟩:=bg mc
      unfold tX at hs
      rw[List.all_eq_true]at hs
      have:=hs q0 (List.mem_range.2 QZ.1)
      rw[DO q0 Wu,Ti]at this
      simp at this
     | nil=>
     rw[Ti]at mc
     simp only[eb]at mc
     obtain⟨F,hF⟩:∃F,Bp P call N o (S e) F:=by
      rcases oM with oM | oM
      ·exact Kt oM mc
      ·exact FK oM
     rw[hF.ev _ (fun _ _ _ _=>rfl) _]at mc
     obtain⟨hs,mc⟩:=bg mc
     unfold tX at hs
     rw[List.all_eq_true]at hs
     have Pe:∀q,ud q=true→yZ P call N ops b (e+1) (V.bM ops (F (S e))) q∧∀dq,dS ops q=some dq→∀x∈o.op.operands,dq∉aP (S e) x:=by
      intro q hq
      have Pf:=hq
      rw[QY]at Pf
      simp only[Bool.and_eq_true,decide_eq_true_eq,Bool.not_eq_true',Bool.or_eq_false_iff]at Pf
      have:=hs q (List.mem_range.2 Pf.1)
      rw[DO q hq]at this
      simp only[Bool.false_or,Bool.and_eq_true]at this
      exact xh bu hU hb hB hS Pf.1 Pf.2.1 hF ho this.2
     have Pg:∀s,(∀k,dr ops s=some k→ud k=false)→get (Fs ops (S 0) c' X) s=get (S e) s:=by
      intro s S4
      rw[Q0]
      by_cases b6:s<(S 0).length
      ·rw[gb b6,gb b6]
       cases jf:dr ops s with
       | none=>rfl
       | some k=>
        have hp:=S4 k jf
        have:X k=(!Y k&&decide (k<e)):=by
         rw[QY]at hp
         cases Kr:Y k with
         | true=>
          cases hx:X k with
          | true=>rw[(hX k hx).1]at Kr;cases Kr
          | false=>rfl
         | false=>
          rw[Kr]at hp
          cases hx:X k with
          | true=>have:=(hX k hx).2;simp[this]
          | false=>
           rw[hx]at hp
           simp at hp
           simp;exact hp
        simp only[this]
      ·rw[jC (by rw[dO];omega),jC (by rw[dO];omega)]
     have O9:∀x∈o.op.operands,Ag (S e) (Fs ops (S 0) c' X) x:=by
      intro x hx s hs
      refine Pg s (fun k jf=> ?_)
      cases hp:ud k with
      | false=>rfl
      | true=>exact absurd hs ((Pe k hp).2 s (ea jf) x hx)
     have Ph:(S e).length=(Fs ops (S 0) c' X).length:=by rw[Q0];simp[Fs]
     have Wv:cD N ops (Fs ops (S 0) c' X) o true:=by unfold cD;rw[Tg]
     unfold wpOp
     simp only[ho]
     rw[cD.wanted h Wv,if_pos rfl]
     left
     have hR:=hF.ev (Fs ops (S 0) c' X) O9
     have Q1:fJ P o (Fs ops (S 0) c' X)=true:=hF.Wm _ O9
     have dV:j7 P call N o (Fs ops (S 0) c' X) (fun gD=>(open Classical in if gD=F (Fs ops (S 0) c' X)then some (([],[]):List AO×List AO)else none))=some ([],[]):=by
      rw[hR,if_pos rfl]
     refine r4 bu h NW gi Q1 dV (fun gD a1 w1 g1 h1 J6 sW=> ?_)
     have jw:gD=F (Fs ops (S 0) c' X):=by
      apply Classical.byContradiction
      intro dc
      rw[if_neg dc]at sW;cases sW
     subst jw
     refine Wt (F (S e)) a1 w1 g1 (fun q hq=>⟨?_,(Pe q hq).1⟩) ?_ (hf.trans J6) mc
     ·rw[QY]at hq
      simp only[Bool.and_eq_true,decide_eq_true_eq]at hq
      omega
     ·have:=(h1.bM (ops:=ops)).eF (ops:=ops) ud
      have heq:eF ops ud (V.bM ops (F (Fs ops (S 0) c' X)))=eF ops ud (V.bM ops (F (S e))):=by
       refine qb (by simp[eF,Fs,V.bM,hF.len,Ph]) (fun s _=> ?_)
       rw[jT,jT]
       have hg:(∀k,dr ops s=some k→ud k=false)→get (V.bM ops (F (Fs ops (S 0) c' X))) s=get (V.bM ops (F (S e))) s:=by
        intro S4
        rw[gp,gp, ←hF.congr _ Ph O9 s (Pg s S4).symm]
       cases jf:dr ops s with
       | none=>exact hg (fun k hk=>by rw[jf]at hk;cases hk)
       | some k=>
        show(bif ud k then AV.dead else _)=(bif ud k then AV.dead else _)
        cases hp:ud k with
        | true=>rfl
        | false=>exact hg (fun k' jz=>by rw[jf]at jz;cases jz;exact hp)
      rw[←heq];exact this
    ·have cE:∀k,k<e→(Y k|| X k)=true:=by
      intro k hk
      cases hh:(Y k|| X k)with
      | true=>rfl
      | false=>exact absurd ⟨k,by rw[QY,hh];simp[hk]⟩ hP
     have hRe:Fs ops (S 0) c' X=S e:=by
      rw[hS.eq hU e (Nat.le_refl _)]
      refine mi (fun k hk=> ?_)
      cases Kr:Y k with
      | true=>
       cases hx:X k with
       | true=>rw[(hX k hx).1]at Kr;cases Kr
       | false=>rfl
      | false=>
       cases hx:X k with
       | true=>have:=(hX k hx).2;simp[this]
       | false=>
        by_cases QX:k<e
        ·have:=cE k QX
         rw[Kr,hx]at this;cases this
        ·simp[QX]
     rw[hRe]at h
     have Td:=oJ h q5
     rw[Td]at mc
     have YE:∀gD,eF ops ud gD=gD:=by
      intro gD
      refine oH (fun k _=> ?_)
      cases hp:ud k with
      | false=>rfl
      | true=>exact absurd ⟨k,hp⟩ hP
     unfold wpOp
     simp only[ho]
     rw[cD.wanted h AH]
     cases wt with
     | true=>
      rw[if_pos rfl]at mc ⊢
      left
      refine r4 bu h NW gi hl mc (fun gD a1 w1 g1 h1 J6 sW=> ?_)
      obtain⟨_,sW⟩:=bg sW
      exact Wt gD a1 w1 g1 (fun q hq=>absurd ⟨q,hq⟩ hP) (by rw[YE];exact h1.bM) (hf.trans J6) sW
     | false=>
      rw[if_neg (by decide)]at mc ⊢
      exact Wt _ _ _ _ (fun q hq=>absurd ⟨q,hq⟩ hP) (by rw[YE];exact(h.skip gi).bM) hf mc
theorem Good.drew (h:Good P N st a hv w g):Good P N st a hv {w with drawn:=w.drawn+1} g:=
 kN h (Nat.le_refl _) (fun _ _ hb=>⟨hb,rfl⟩) h.inv.fresh (fun _ _ _=>rfl) (fun _ _ _ _ ht _=>⟨ht,rfl⟩)
theorem y4 (bu:ct P call) (h:Good P N st a hv w g) {id:Nat} (hk:C6 P call N ops st K=some r) (ag:fB P N hv w g K r (Q .normal)):(Code.region id ops true).wp P Q a w:=by
 unfold C6 at hk
 obtain⟨hc,hk⟩:=bg hk
 simp only[Bool.and_eq_true]at hc
 obtain⟨c1,c2,c3⟩:=hc
 obtain⟨b,e1,_,e3⟩:=FF (fun b=>iJ P call N ops b (List.range ops.size) [] (V.bM ops st) K) ops.toList 0 [] rfl
 rw[e1]at hk
 have hb:xI ops b:=by
  intro i o ho
  have:=e3 i o (by rw[Array.getElem?_toList];exact ho)
  rw[Nat.zero_add]at this;exact this
 have hB:∀i o,ops[i]? =some o→∀e∈o.after,Region.binds .any e=true→e.on<i:=by
  intro i o ho e he FH
  have:=oG c3 i o (by rw[Array.getElem?_toList];exact ho) e he FH
  omega
 have fT:Fr w g {w with drawn:=w.drawn+1} g:=⟨rfl,rfl,rfl,Nat.le_refl _,fun _ _ hb=>⟨hb,rfl⟩,fun _ _ hb=>⟨hb,rfl⟩,(Fr.refl w g h.inv.fresh).lU,h.inv.fresh⟩
 refine wp_region_any c1 ?_
 rw[List.range_eq_range']at hk
 refine y3 bu (Km c2) hb hB ag ops.size 0 [] _ (fun _=>false) a _ g ops.size _ (by omega) (fun q hq=>by cases hq) (by rw[HB];exact h.drew.bM) fT (fun d k r hd=>pL hd) (fun i o hi=>by simp at hi) (fun j bv hm=>by cases hm) hk ⟨by simp,fun k hk=>by simp[hk]⟩ ?_
 unfold ti
 exact Nat.le_trans (List.length_filter_le _ _) (by simp)
end
end Go.V
namespace Go.V
def KF:Ex→Exit
 | .normal=> .normal
 | .exit id=> .exit id
 | .ret=> .ret
theorem kr:∀(st:St) (l:List Nat) (n t:Nat),(fz l n st).length=st.length∧(t<st.length→get (fz l n st) t=bif l.any (Nat.beq (n+t))then fW l [] (get st t)else .dead)
 | [],l,n,t=>⟨rfl,fun h=>by simp at h⟩
 | v::st,l,n,t=>by
  obtain⟨h1,_⟩:=kr st l (n+1) 0
  refine⟨by simp[fz,h1],fun h=> ?_⟩
  cases t with
  | zero=>rfl
  | succ t=>
   have:=(kr st l (n+1) t).2 (by simpa using h)
   show get (fz l (n+1) st) t=_
   rw[this,show n+1+t=n+(t+1)by omega];rfl
section
variable {P:Program} {N:Nat} {st aZ:St} {a:Act} {hv:List Value} {w w':World} {g g':G} {r:List AO×List AO} {o:Oper} {call:aw} {ops:Array Oper}
theorem Good.db (h:Good P N st a hv w g) (hint:Option (List Nat)):Good P N (V.db hint st) a hv w g:=by
 cases hint with
 | none=>exact h
 | some l=>
  have hlen:(fz l 0 st).length=st.length:=(kr st l 0 0).1
  have ko:∀t,t<st.length→get (fz l 0 st) t=bif l.any (Nat.beq t)then fW l [] (get st t)else .dead:=fun t ht=>by
   have:=(kr st l 0 t).2 ht;rwa[Nat.zero_add]at this
  have bq:∀s q,l.any (Nat.beq s)=true→V.obj (fz l 0 st) s q=V.obj st s q:=by
   intro s q hs
   by_cases b6:s<st.length
   ·have hg:=ko s b6
    rw[hs,cond_true]at hg
    refine ju (fun x=> ?_) q
    rw[hg]
    cases Ni:get st s with
    | o y=>simp[fW]
    | al r p=>simp only[fW];cases l.any (Nat.beq r)<;>simp
    | ptr r p off=>simp only[fW];cases l.any (Nat.beq r)<;>simp
    | el r p i off=>simp only[fW];cases l.any (Nat.beq r)<;>simp
    | lE T cs=>simp only[fW];cases cs.all (JG l)<;>simp
    | ip=>simp[fW]
    | jg=>simp[fW]
    | clip=>simp[fW]
    | fix=>simp[fW]
    | dead=>simp[fW]
   ·unfold V.obj
    rw[jC (st:=fz l 0 st) (by rw[hlen];omega),jC (st:=st) (by omega)]
  show Good P N (fz l 0 st) a hv w g
  refine h.mk' hlen h.inv.fresh h.inv.vars (fun t v ht bh=> ?_)
  have hs:=h.jy ht bh
  rw[ko t ht]
  cases hl:l.any (Nat.beq t)with
  | false=>exact .dead v
  | true=>
   simp only[cond_true]
   have kp:∀(fQ:∀r p,(get st t).names r p→l.any (Nat.beq r)=true),fm P w g (fz l 0 st) t (get st t) v:=fun fQ=>
    hs.db (Nat.le_refl _) (fun _ _ hb=>⟨hb,rfl⟩) (fun _ _ _=>⟨fun _=>rfl,fun _ _ _ ht=>⟨ht,rfl⟩⟩) (fun r p UH=> .inr ⟨bq r p (fQ r p UH),rfl⟩)
   cases tJ:get st t with
   | al r p=>
    simp only[fW]
    cases hr:l.any (Nat.beq r)with
    | false=>exact .dead v
    | true=>rw[←tJ];exact kp (fun r' p' hh=>by rw[tJ]at hh;rcases hh with hh | ⟨_,hh⟩ | ⟨_,_,hh⟩ | ⟨_,_,hh,_⟩<;>cases hh;exact hr)
   | ptr r p off=>
    simp only[fW]
    cases hr:l.any (Nat.beq r)with
    | false=>exact .dead v
    | true=>rw[←tJ];exact kp (fun r' p' hh=>by rw[tJ]at hh;rcases hh with hh | ⟨_,hh⟩ | ⟨_,_,hh⟩ | ⟨_,_,hh,_⟩<;>cases hh;exact hr)
   | el r p i off=>
    simp only[fW]
    cases hr:l.any (Nat.beq r)with
    | false=>exact .dead v
    | true=>rw[←tJ];exact kp (fun r' p' hh=>by rw[tJ]at hh;rcases hh with hh | ⟨_,hh⟩ | ⟨_,_,hh⟩ | ⟨_,_,hh,_⟩<;>cases hh;exact hr)
   | o x=>rw[←tJ];have:=kp (fun r' p' hh=>by rw[tJ]at hh;rcases hh with hh | ⟨_,hh⟩ | ⟨_,_,hh⟩ | ⟨_,_,hh,_⟩<;>cases hh);rw[tJ]at this ⊢;exact this
   | ip E x off=>have:=kp (fun r' p' hh=>by rw[tJ]at hh;rcases hh with hh | ⟨_,hh⟩ | ⟨_,_,hh⟩ | ⟨_,_,hh,_⟩<;>cases hh);rw[tJ]at this;exact this
   | lE T cs=>
    simp only[fW]
    cases hr:cs.all (JG l)with
    | false=>exact .dead v
    | true=>
     rw[←tJ]
     exact kp (fun r' p' hh=>by
      rw[tJ]at hh
      rcases hh with hh | ⟨_,hh⟩ | ⟨_,_,hh⟩ | ⟨_,_,hh,hm⟩
      ·cases hh
      ·cases hh
      ·cases hh
      ·cases hh
       have:=List.all_eq_true.1 hr _ hm
       exact this)
   | fix u=>have:=kp (fun r' p' hh=>by rw[tJ]at hh;rcases hh with hh | ⟨_,hh⟩ | ⟨_,_,hh⟩ | ⟨_,_,hh,_⟩<;>cases hh);rw[tJ]at this;exact this
   | clip E l'=>have:=kp (fun r' p' hh=>by rw[tJ]at hh;rcases hh with hh | ⟨_,hh⟩ | ⟨_,_,hh⟩ | ⟨_,_,hh,_⟩<;>cases hh);rw[tJ]at this;exact this
   | jg vs=>have:=kp (fun r' p' hh=>by rw[tJ]at hh;rcases hh with hh | ⟨_,hh⟩ | ⟨_,_,hh⟩ | ⟨_,_,hh,_⟩<;>cases hh);rw[tJ]at this;exact this
   | dead=>exact .dead v
def xL (P:Program) (N:Nat) (hv:List Value) (w:World) (g:G) (K:Ex→St→R) (r:List AO×List AO) (Q:Exit→Act→World→Prop):Prop:=
 ∀e aZ a' w' g',Good P N aZ a' hv w' g'→Fr w g w' g'→K e aZ=some r→Q (KF e) a' w'
theorem xL.fr {K:Ex→St→R} {Q:Exit→Act→World→Prop} (h:xL P N hv w g K r Q) (hf:Fr w g w' g'):xL P N hv w' g' K r Q:=
 fun e gD a1 w1 g1 h1 f1 k1=>h e gD a1 w1 g1 h1 (hf.trans f1) k1
theorem xM (bu:ct P call) {H:Nat→Option (List Nat)} {n:Nat}:∀(c:Code) (st:St) (a:Act) (w:World) (g:G) (K:Ex→St→R) (Q:Exit→Act→World→Prop),Good P N st a hv w g→nK P call H kY N n c st K=some r→xL P N hv w g K r Q→c.wp P Q a w:=by
 intro c
 induction c with
 | skip=>intro st a w g K Q h hk hp;simp only[nK]at hk;exact wp_skip (hp .normal st a w g h (Fr.refl w g h.inv.fresh) hk)
 | label l=>intro st a w g K Q h hk hp;simp only[nK]at hk;exact wp_label (hp .normal st a w g h (Fr.refl w g h.inv.fresh) hk)
 | region id ops draw=>
  intro st a w g K Q h hk hp
  have main:∀st,Good P N st a hv w g→AN P call N ops draw st (K .normal)=some r→(Code.region id ops draw).wp P Q a w:=by
   intro st h hk
   unfold AN at hk
   cases draw with
   | true=>exact y4 bu h hk (fun aZ a' w' g' h1 f1 k1=>hp .normal aZ a' w' g' h1 f1 k1)
   | false=>exact wp_region (oD bu _ _ a w g h hk (fun aZ a' w' g' h1 f1 k1=>hp .normal aZ a' w' g' h1 f1 k1))
  simp only[nK]at hk
  split at hk
  ·exact main _ (h.db _) hk
  ·exact main _ h hk
 | seq x y U1 U2=>
  intro st a w g K Q h hk hp
  simp only[nK]at hk
  refine wp_seq (U1 st a w g _ _ h hk ?_)
  intro e aZ a' w' g' h1 f1 k1
  cases e with
  | normal=>exact U2 aZ a' w' g' K Q h1 k1 (hp.fr f1)
  | exit id=>exact hp (.exit id) aZ a' w' g' h1 f1 k1
  | ret=>exact hp .ret aZ a' w' g' h1 f1 k1
 | cond c x y U1 U2=>
  intro st a w g K Q h hk hp
  simp only[nK]at hk
  split at hk
  ·rename_i i
   split at hk
   ·rename_i v hg
    obtain⟨hi,hk⟩:=bg hk
    have hi:=of_decide_eq_true hi
    have hb:=(h.bool hi hg).2
    refine wp_cond hb ?_
    cases xe:v.toBool with
    | true=>
     rw[xe,h.known hi hg xe]at hk
     simp only[cond_true]at hk
     rw[if_pos rfl]
     exact U1 st a w g K Q h hk hp
    | false=>
     rw[xe,h.known hi hg xe]at hk
     simp only[cond_false]at hk
     rw[if_neg (by decide)]
     exact U2 st a w g K Q h hk hp
   ·cases hk
  ·rename_i bv
   refine wp_cond (t:=bv) rfl ?_
   cases bv with
   | true=>simp only[cond_true]at hk;rw[if_pos rfl];exact U1 st a w g K Q h hk hp
   | false=>simp only[cond_false]at hk;rw[if_neg (by decide)];exact U2 st a w g K Q h hk hp
  ·cases hk
 | block id c ih=>
  intro st a w g K Q h hk hp
  simp only[nK]at hk
  refine wp_block (ih st a w g _ _ h hk ?_)
  intro e aZ a' w' g' h1 f1 k1
  cases e with
  | normal=>exact hp .normal aZ a' w' g' h1 f1 k1
  | exit RR=>
   show Exit.inBlock id Q (.exit RR) a' w'
   simp only[Exit.inBlock]
   simp only[C7]at k1
   cases JJ:Nat.beq RR id with
   | true=>
    have he:=Nat.eq_of_beq_eq_true JJ
    rw[JJ]at k1
    rw[if_pos he]
    exact hp .normal aZ a' w' g' h1 f1 k1
   | false=>
    rw[JJ]at k1
    rw[cQ,decide_eq_false_iff_not]at JJ
    rw[if_neg JJ]
    exact hp (.exit RR) aZ a' w' g' h1 f1 k1
  | ret=>exact hp .ret aZ a' w' g' h1 f1 k1
 | loop c ih=>
  intro st a w g K Q h hk hp
  simp only[nK]at hk
  refine wp_loop_rounds n ?_
  have key:∀(hint:Option (List Nat)) m st a w g,Good P N st a hv w g→pX (nK P call H kY N n c) hint m st K=some r→xL P N hv w g K r Q→Code.rounds P c Q m a w:=by
   intro hint m
   induction m with
   | zero=>intro st a w g h hk hp;simp[pX]at hk
   | succ m Q2=>
    intro st a w g h hk hp
    simp only[pX]at hk
    rw[rounds_succ]
    refine ih _ a w g _ _ h hk ?_
    intro e aZ a' w' g' h1 f1 k1
    cases e with
    | normal=>exact Q2 _ a' w' g' (h1.db hint) k1 (hp.fr f1)
    | exit id=>exact hp (.exit id) aZ a' w' g' h1 f1 k1
    | ret=>exact hp .ret aZ a' w' g' h1 f1 k1
  exact key _ n _ a w g (h.db _) hk hp
 | scope c ih=>
  intro st a w g K Q h hk hp
  simp only[nK]at hk
  refine wp_scope_straight (ih st a w g K _ h hk ?_)
  intro e aZ a' w' g' h1 f1 k1
  have:=hp e aZ a' w' g' h1 f1 k1
  cases e<;>exact this
 | exit id=>intro st a w g K Q h hk hp;simp only[nK]at hk;exact wp_exit (hp (.exit id) st a w g h (Fr.refl w g h.inv.fresh) hk)
 | ret=>intro st a w g K Q h hk hp;simp only[nK]at hk;exact wp_ret (hp .ret st a w g h (Fr.refl w g h.inv.fresh) hk)
 | rangeFunc=>intro st a w g K Q h hk hp;simp[nK]at hk
 | goto=>intro st a w g K Q h hk hp;simp[nK]at hk
 | refuse=>intro st a w g K Q h hk hp;simp[nK]at hk
end
end Go.V
namespace Go.V
section
variable {P:Program} {N:Nat} {st aZ:St} {a:Act} {hv:List Value} {w w':World} {g g':G} {r:List AO×List AO} {o:Oper} {call:aw} {ops:Array Oper}
def j4 (tmps:Array Value):ResultVar→Sem Value
 | .tmp t=>pure (tmps.getD t undef)
 | .cell a t=>do loadVar t (←asAddr (tmps.getD a undef))
theorem KG {s:Nat} {E T:TypeId} {cs:List AO} {xs:List PV} (fq:bY P w g s [] (.box E cs)) (hT:aO (ai P T)=true) (eC:P.cellsOf T=(ae P deep T).length) (JK:fD (ae P deep T) cs=some xs):
  ∃b v,g.val s []= .pointer (some ⟨b,0,none⟩)∧(loadVar T ⟨b,0,none⟩).run P w= .ok v w∧aV P w g (ai P T) (.agg xs) v:=by
 cases fq with
 | box _ _ _ b vs hv hh ht hl hc nQ=>
  have cW:∀j,w.cell? ⟨b,j,none⟩=vs[j]? :=fun j=>by rw[cell_of_row w b j ⟨vs⟩ E (0,0) hh];simp
  have wJ:=dD hT
  obtain⟨h1,h2⟩:=gF JK
  have key:∀(j:Nat) (t:Ty),(ae P deep T)[j]? =some t→∃y,xs[j]? =some y∧vs[j]? =some (g.val s [j])∧aV P w g t y (g.val s [j]):=by
   intro j t ht
   obtain⟨y,RS,Nw⟩:=h2 j t ht
   exact⟨y,RS,nQ _ _ Nw (by simp),(hc _ _ Nw).eK⟩
  have hlen:(ae P deep T).length≤vs.length:=by
   rcases Nat.eq_zero_or_pos (ae P deep T).length with h0 | h0
   ·omega
   ·obtain⟨y,_,hy,_⟩:=key ((ae P deep T).length-1) _ (List.getElem?_eq_getElem (by omega))
    have:=(List.getElem?_eq_some_iff.1 hy).1;omega
  have jW:(vs.take (ae P deep T).length).length=(ae P deep T).length:=by simp;omega
  refine⟨b,_,hv,jX wJ ⟨b,0,none⟩ (vs.take (ae P deep T).length) (by omega) (fun j v hj=> ?_), ?_⟩
  ·have wK:=(List.getElem?_eq_some_iff.1 hj).1
   rw[iM,Nat.zero_add,cW]
   rw[List.getElem?_take,if_pos (by omega)]at hj;exact hj
  ·rw[wJ]
   refine .st T xs _ h1 jW (fun j ty y c iK hy Jp=> ?_)
   obtain⟨y',e1,e2,e3⟩:=key j ty iK
   rw[hy]at e1;cases e1
   have wK:=(List.getElem?_eq_some_iff.1 iK).1
   rw[List.getElem?_take,if_pos wK,e2]at Jp
   cases Jp;exact e3
theorem tm (h:Good P N st a hv w g) {many:Bool} {rv:ResultVar} {T:TypeId} {x:AO} (hr:Fv P N many st rv T=some (aZ,x)):
  ∃g' v,Good P N aZ a hv w g'∧Fr w g w g'∧(j4 a.tmps rv).run P w= .ok v w∧
   ((∃t y,x= .pv t y∧aV P w g' t y v)∨(many=false∧aZ=st∧g'=g∧∃s p,s<N∧obj st s p=x∧x≠ .dead∧v=g.val s p)):=by
 cases rv with
 | tmp t=>
  simp only[Fv]at hr
  cases NZ:decide (N≤t)with
  | true=>rw[NZ]at hr;cases hr
  | false=>
   rw[NZ]at hr
   simp only[cond_false]at hr
   have ht:t<N:=by simpa using NZ
   have ba:(j4 a.tmps (.tmp t)).run P w= .ok (a.eval (.tmp t)) w:=rfl
   have Ky:∀(s:Nat) (p:List Nat) (ty:Ty) (v:PV),((obj st s p).jh=true∨(obj st s p).pA=true)→gx st s p=true→(obj st s p).frozen= .pv ty v→a.eval (.tmp t)=g.val s p→
     ∃g' v',Good P N (bR st s p) a hv w g'∧Fr w g w g'∧(j4 a.tmps (.tmp t)).run P w= .ok v' w∧
      (∃t y,AO.pv ty v= .pv t y∧aV P w g' t y v'):=by
    intro s p ty v ho hk hf dV
    obtain⟨h1,f1⟩:=kZ h ho hk
    obtain⟨t',v',SF,hp⟩:=sX (h.obj s p) ho h.inv.fresh
    rw[hf]at SF
    cases SF
    exact⟨_,_,h1,f1,ba,⟨_,_,rfl,by rw[dV];exact hp⟩⟩
   split at hr
   ·rename_i u v hg
    obtain⟨_,hr⟩:=bg hr
    cases hr
    have hs:=h.cb ht hg
    cases hs with
    | o _ _ eD fq=>exact⟨g,_,h,Fr.refl w g h.inv.fresh,ba, .inl ⟨_,_,rfl,by rw[eD (by simp)];exact fq.eK⟩⟩
   ·rename_i E l hg
    have bq:obj st t []= .arr E l:=by unfold obj;rw[hg];rfl
    have hs:=h.cb ht hg
    have dV:a.eval (.tmp t)=g.val t []:=by cases hs with | o _ _ eD _=>exact eD (by simp)
    cases hm:many with
    | true=>
     rw[hm]at hr
     cases hr
     obtain⟨g',v',a1,a2,a3,a4⟩:=Ky t [] _ _ (.inl (by rw[bq];rfl)) (rW t) (by rw[bq];rfl) dV;exact⟨g',v',a1,a2,a3, .inl a4⟩
    | false=>
     rw[hm]at hr
     cases hr
     exact⟨g,_,h,Fr.refl w g h.inv.fresh,ba, .inr ⟨rfl,rfl,rfl,t,[],ht,bq,by simp,dV⟩⟩
   ·rename_i E cs hg
    have bq:obj st t []= .box E cs:=by unfold obj;rw[hg];rfl
    have hs:=h.cb ht hg
    have dV:a.eval (.tmp t)=g.val t []:=by cases hs with | o _ _ eD _=>exact eD (by simp)
    cases hm:many with
    | true=>rw[hm]at hr;cases hr
    | false=>
     rw[hm]at hr
     cases hr
     exact⟨g,_,h,Fr.refl w g h.inv.fresh,ba, .inr ⟨rfl,rfl,rfl,t,[],ht,bq,by simp,dV⟩⟩
   ·rename_i E D l hg
    have bq:obj st t []= .own E D l none:=by unfold obj;rw[hg];rfl
    have hs:=h.cb ht hg
    have dV:a.eval (.tmp t)=g.val t []:=by cases hs with | o _ _ eD _=>exact eD (by simp)
    cases hr
    obtain⟨g',v',a1,a2,a3,a4⟩:=Ky t [] _ _ (.inl (by rw[bq];rfl)) (rW t) (by rw[bq];rfl) dV;exact⟨g',v',a1,a2,a3, .inl a4⟩
   ·rename_i k e ks vs hg
    have bq:obj st t []= .map k e ks vs:=by unfold obj;rw[hg];rfl
    have hs:=h.cb ht hg
    have dV:a.eval (.tmp t)=g.val t []:=by cases hs with | o _ _ eD _=>exact eD (by simp)
    cases hr
    obtain⟨g',v',a1,a2,a3,a4⟩:=Ky t [] _ _ (.inr (by rw[bq];rfl)) (rW t) (by rw[bq];rfl) dV;exact⟨g',v',a1,a2,a3, .inl a4⟩
   ·rename_i E l hg
    obtain⟨hT,hr⟩:=bg hr
    cases hr
    have hs:=h.cb ht hg
    generalize hee:a.eval (.tmp t)=u at hs ba
    cases hs with
    | clip _ _ ad hp=>exact⟨g,_,h,Fr.refl w g h.inv.fresh,ba, .inl ⟨_,_,rfl,hp⟩⟩
   ·rename_i T' cs hg
    obtain⟨hT,hr⟩:=bg hr
    cases hr
    simp only[Bool.and_eq_true]at hT
    have hs:=h.cb ht hg
    generalize hee:a.eval (.tmp t)=u at hs ba
    cases hs with
    | lE _ _ vs hl h3 h4 h5 h1 h2=>exact⟨g,_,h,Fr.refl w g h.inv.fresh,ba, .inl ⟨_,_,rfl,AP hl h4 h5 h1 hT.2⟩⟩
   ·rename_i s p hg
    have hs:=h.cb ht hg
    have dV:obj st s p≠ .dead→a.eval (.tmp t)=g.val s p:=by cases hs with | al _ _ _ eD=>exact eD
    split at hr
    ·rename_i u v bq
     obtain⟨_,hr⟩:=bg hr
     cases hr
     have fq:=h.obj s p
     rw[bq]at fq
     exact⟨g,_,h,Fr.refl w g h.inv.fresh,ba, .inl ⟨_,_,rfl,by rw[dV (by rw[bq];simp)];exact fq.eK⟩⟩
    ·rename_i E l bq
     cases xx:gx st s p with
     | false=>rw[xx]at hr;cases hr
     | true=>
     rw[xx]at hr
     simp only[Bool.not_true,cond_false]at hr
     cases hm:(many|| decide (N≤s))with
     | true=>
      rw[hm]at hr
      cases hr
      obtain⟨g',v',a1,a2,a3,a4⟩:=Ky s p _ _ (.inl (by rw[bq];rfl)) xx (by rw[bq];rfl) (dV (by rw[bq];simp));exact⟨g',v',a1,a2,a3, .inl a4⟩
     | false=>
      rw[hm]at hr
      cases hr
      rw[Bool.or_eq_false_iff]at hm
      exact⟨g,_,h,Fr.refl w g h.inv.fresh,ba, .inr ⟨hm.1,rfl,rfl,s,p,by simpa using hm.2,bq,by simp,dV (by rw[bq];simp)⟩⟩
    ·rename_i E cs bq
     cases hm:(many|| decide (N≤s))with
     | true=>rw[hm]at hr;cases hr
     | false=>
      rw[hm]at hr
      cases hr
      rw[Bool.or_eq_false_iff]at hm
      exact⟨g,_,h,Fr.refl w g h.inv.fresh,ba, .inr ⟨hm.1,rfl,rfl,s,p,by simpa using hm.2,bq,by simp,dV (by rw[bq];simp)⟩⟩
    ·rename_i E D l bq
     cases hr
     obtain⟨g',v',a1,a2,a3,a4⟩:=Ky s p _ _ (.inl (by rw[bq];rfl)) (ua (by rw[bq];simp) (by rw[bq];simp)) (by rw[bq];rfl) (dV (by rw[bq];simp));exact⟨g',v',a1,a2,a3, .inl a4⟩
    ·rename_i k e ks vs bq
     cases hr
     obtain⟨g',v',a1,a2,a3,a4⟩:=Ky s p _ _ (.inr (by rw[bq];rfl)) (ua (by rw[bq];simp) (by rw[bq];simp)) (by rw[bq];rfl) (dV (by rw[bq];simp));exact⟨g',v',a1,a2,a3, .inl a4⟩
    ·cases hr
   ·cases hr
 | cell c T'=>
  simp only[Fv]at hr
  cases NZ:(decide (N≤c)|| !Nat.beq T T')with
  | true=>rw[NZ]at hr;cases hr
  | false=>
   rw[NZ]at hr
   simp only[cond_false]at hr
   rw[Bool.or_eq_false_iff]at NZ
   have ht:c<N:=by simpa using NZ.1
   have UT:T=T':=by have:=NZ.2;simp[cQ]at this;exact this
   subst UT
   obtain⟨g1,h1,f1⟩:=dN c [] (ae P deep T).length 0 st g h
   split at hr
   ·rename_i E cs hg
    have hs:=h1.cb ht hg
    have fq:bY P w g1 c [] (.box E cs):=by cases hs with | o _ _ _ fq=>exact fq
    have dV:a.eval (.tmp c)=g1.val c []:=by cases hs with | o _ _ eD _=>exact eD (by simp)
    have ba:∀b v,g1.val c []= .pointer (some ⟨b,0,none⟩)→(loadVar T ⟨b,0,none⟩).run P w= .ok v w→(j4 a.tmps (.cell c T)).run P w= .ok v w:=by
     intro b v hb hl
     have he:a.tmps.getD c undef= .pointer (some ⟨b,0,none⟩):=by rw[←hb, ←dV];rfl
     simp only[j4,he,Sem.run_bind]
     have:(asAddr (.pointer (some (⟨b,0,none⟩:Addr)))).run P w= .ok ⟨b,0,none⟩ w:=by simp[asAddr]
     rw[this,Result.andThen_ok,hl]
    cases hA:aO (ai P T)with
    | true=>
     rw[hA]at hr
     simp only[cond_true]at hr
     obtain⟨eC,hr⟩:=bg hr
     have eC:=Nat.eq_of_beq_eq_true eC
     split at hr
     ·rename_i vs nz
      cases hr
      obtain⟨b,v,e1,e2,e3⟩:=KG fq hA eC nz
      exact⟨g1,v,h1,f1,ba b v e1 e2, .inl ⟨_,_,rfl,e3⟩⟩
     ·cases hr
    | false=>
     rw[hA]at hr
     simp only[cond_false]at hr
     obtain⟨AS,hr⟩:=bg hr
     split at hr
     ·rename_i u v cW
      obtain⟨hu,hr⟩:=bg hr
      cases hr
      cases fq with
      | box _ _ _ b vs hv hh J9 hl hc nQ=>
       have h0:cs[0]? =some (.pv u v):=by
        rw[bZ]at cW
        cases h0:cs[0]? with
        | none=>rw[h0]at cW;cases cW
        | some y=>rw[h0]at cW;simp at cW;rw[cW]
       have nz:=nQ 0 _ h0 (by simp)
       have hp:=(hc 0 _ h0).eK
       refine⟨g1,_,h1,f1,ba b _ hv (cq AS _ _ ?_), .inl ⟨_,_,rfl,hp⟩⟩
       rw[cell_of_row w b 0 ⟨vs⟩ E (0,0) hh];simpa using nz
     ·cases hr
   ·cases hr
theorem qY:∀ {rs:List (ResultVar×TypeId)} {st:St} {g:G} {xs:List AO},Good P N st a hv w g→pY P N true rs st=some (aZ,xs)→
  ∃g' vs,Good P N aZ a hv w g'∧Fr w g w g'∧(rs.mapM fun p=>j4 a.tmps p.1).run P w= .ok vs w∧vs.length=xs.length∧xs.length=rs.length∧
   ∀(i:Nat) (x:AO) (v:Value),xs[i]? =some x→vs[i]? =some v→∃t y,x= .pv t y∧aV P w g' t y v
 | [],st,g,xs,h,hr=>by
  simp only[pY,Option.some.injEq,Prod.mk.injEq]at hr
  obtain⟨rfl,rfl⟩:=hr
  exact⟨g,[],h,Fr.refl w g h.inv.fresh,rfl,rfl,rfl,fun i x v hx=>by simp at hx⟩
 | (rv,T)::rs,st,g,xs,h,hr=>by
  simp only[pY]at hr
  split at hr
  ·rename_i gD x hx
   split at hr
   ·rename_i OY ys A2
    cases hr
    obtain⟨g1,v,h1,f1,r1,qQ⟩:=tm h hx
    obtain⟨g2,vs,h2,f2,r2,l1,l2,e2⟩:=qY h1 A2
    refine⟨g2,v::vs,h2,f1.trans f2, ?_,by simp[l1],by simp[l2],fun i x' v' tZ bh=> ?_⟩
    ·rw[List.mapM_cons]
     simp only[Sem.run_bind,r1,Result.andThen_ok,r2,Sem.run_pure]
    ·cases i with
     | zero=>
      simp at tZ bh
      subst tZ bh
      rcases qQ with ⟨t,y,e,hp⟩ | ⟨hm,_⟩
      ·exact⟨t,y,e,hp.fr f2⟩
      ·cases hm
     | succ i=>exact e2 i x' v' (by simpa using tZ) (by simpa using bh)
   ·cases hr
  ·cases hr
def DP:List Value→Value
 | [v]=>v
 | vs=> .tuple ⟨vs⟩
theorem tn {fn:Func} {tmps:Array Value} {vs:List Value} (h:(fn.results.toList.mapM fun p=>j4 tmps p).run P w= .ok vs w) (hl:vs.length=fn.results.size):
  (results fn tmps).run P w= .ok (DP vs) w:=by
 have e:results fn tmps=(do let vs←fn.results.mapM (j4 tmps);pure (if h:vs.size=1 then vs[0]else .tuple vs)):=by
  unfold results
  congr 1
 rw[e,Array.mapM_eq_mapM_toList,Sem.run_bind]
 have:(List.toArray<$> fn.results.toList.mapM (j4 tmps)).run P w= .ok vs.toArray w:=by
  rw[map_eq_pure_bind,Sem.run_bind]
  have h':(fn.results.toList.mapM (j4 tmps)).run P w= .ok vs w:=h
  rw[h',Result.andThen_ok,Sem.run_pure]
 rw[this,Result.andThen_ok,Sem.run_pure]
 clear this e h hl
 cases vs with
 | nil=>rfl
 | cons x vs=>cases vs with
  | nil=>rfl
  | cons y zs=>simp[DP]
end
end Go.V
namespace Go.V
section
variable {P:Program} {N:Nat} {st aZ:St} {a:Act} {hv:List Value} {w w':World} {g g':G} {r:List AO×List AO} {call:aw}
theorem qf:∀ {as:List AO} {bw:List Value} {k:Nat},fO P w g k as bw→
  bw.length=as.length∧(cK N k as).length=as.length∧(dM as).length=cr as∧
  (∀(i:Nat) (sl:AV) (v:Value),(cK N k as)[i]? =some sl→bw[i]? =some v→(∃t x,sl= .o (.pv t x)∧aV P w g t x v)∨∃j,j<cr as∧sl= .al (N+(k+j)) []∧v=g.val (k+j) [])∧
  ∀(j:Nat) (y:AV),(dM as)[j]? =some y→∃x,y= .o x∧bY P w g (k+j) [] x
 | [],[],k,_=>⟨rfl,rfl,rfl,fun i sl v h=>by simp[cK]at h,fun j y h=>by simp[dM]at h⟩
 | [],_::_,k,h=>by cases h
 | x::as,[],k,h=>by cases x<;>cases h
 | x::as,v::bw,k,h=>by
  have KH:(x≠ .dead∧bY P w g k [] x∧v=g.val k []∧fO P w g (k+1) as bw)→cK N k (x::as)= .al (N+k) []::cK N (k+1) as→dM (x::as)= .o x::dM as→cr (x::as)=cr as+1→
    (v::bw).length=(x::as).length∧(cK N k (x::as)).length=(x::as).length∧(dM (x::as)).length=cr (x::as)∧
    (∀(i:Nat) (sl:AV) (v':Value),(cK N k (x::as))[i]? =some sl→(v::bw)[i]? =some v'→(∃t x,sl= .o (.pv t x)∧aV P w g t x v')∨∃j,j<cr (x::as)∧sl= .al (N+(k+j)) []∧v'=g.val (k+j) [])∧
    ∀(j:Nat) (y:AV),(dM (x::as))[j]? =some y→∃x,y= .o x∧bY P w g (k+j) [] x:=by
   rintro ⟨_,h2,h3,h4⟩ e1 e2 e3
   obtain⟨i1,i2,i3,i4,i5⟩:=qf h4
   rw[e1,e2,e3]
   refine⟨by simp[i1],by simp[i2],by simp[i3],fun i sl v' hs hv=> ?_,fun j y hy=> ?_⟩
   ·cases i with
    | zero=>
     simp at hs hv
     subst hs hv
     exact .inr ⟨0,by omega,rfl,h3⟩
    | succ i=>
     rcases i4 i sl v' (by simpa using hs) (by simpa using hv)with hl | ⟨j,j1,j2,j3⟩
     ·exact .inl hl
     ·refine .inr ⟨j+1,by omega, ?_, ?_⟩
      ·rw[j2];congr 1;omega
      ·rw[j3];congr 1;omega
   ·cases j with
    | zero=>simp at hy;subst hy;exact⟨x,rfl,h2⟩
    | succ j=>
     obtain⟨x',hx,UK⟩:=i5 j y (by simpa using hy)
     exact⟨x',hx,by rw[show k+(j+1)=k+1+j by omega];exact UK⟩
  cases x with
  | pv t x=>
   obtain⟨h1,h2⟩:=h
   obtain⟨i1,i2,i3,i4,i5⟩:=qf h2
   refine⟨by simp[i1],by simp[cK,i2],by simp[dM,cr,i3],fun i sl v' hs hv=> ?_,fun j y hy=>i5 j y (by simpa[dM]using hy)⟩
   cases i with
   | zero=>
    simp[cK]at hs hv
    subst hs hv
    exact .inl ⟨t,x,rfl,h1⟩
   | succ i=>exact i4 i sl v' (by simpa[cK]using hs) (by simpa using hv)
  | box E cs=>exact KH h rfl rfl rfl
  | arr E l=>exact KH h rfl rfl rfl
  | own E D l hh=>exact KH h rfl rfl rfl
  | map k e ks vs=>exact KH h rfl rfl rfl
  | dead=>exact KH h rfl rfl rfl
def G.enter (g:G) (N:Nat) (bw:List Value):G:=
 {
  tag:=fun b=>match g.tag b with | .own s p=> .own (N+s) p | t=>t,
  val:=fun s q=>if s<N then bw.getD s undef else g.val (s-N) q}
theorem vf {as:List AO} {bw:List Value} (h:fO P w g 0 as bw) (hle:as.length≤N) (fT:∀b,w.heap.size≤b→g.tag b= .free) (NG:mN P w g):
  Good P N (entry N as) {tmps:=⟨bw⟩++Array.replicate (N- (⟨bw⟩:Array Value).size) undef,defers:=[]} ((List.range (cr as)).map fun k=>g.val k []) w (g.enter N bw):=by
 obtain⟨i1,i2,i3,i4,i5⟩:=qf (N:=N) h
 have eC:(⟨bw⟩:Array Value).size=bw.length:=rfl
 have hf:∀b,b<w.heap.size→g.tag b= .free→(g.enter N bw).tag b= .free∧w.heap[b]? =w.heap[b]? :=fun b _ hb=>⟨by simp[G.enter,hb],rfl⟩
 refine⟨⟨?_,fun s x v hx hv=> ?_,fun b hb=>by simp[G.enter,fT b hb],NG.db (Nat.le_refl _) hf⟩,by simp[eC];omega,rfl⟩
 ·simp[entry,i2,i3,i1]
 ·have Yl:(cK N 0 as++List.replicate (N-as.length) AV.dead).length=N:=by simp[i2];omega
  have JZ:((⟨bw⟩:Array Value)++Array.replicate (N- (⟨bw⟩:Array Value).size) undef).toList.length=N:=by simp[i1];omega
  have hx:((cK N 0 as++List.replicate (N-as.length) .dead)++dM as)[s]? =some x:=hx
  have hv:(((⟨bw⟩:Array Value)++Array.replicate (N- (⟨bw⟩:Array Value).size) undef).toList++(List.range (cr as)).map fun k=>g.val k [])[s]? =some v:=hv
  by_cases hs:s<N
  ·rw[List.getElem?_append_left (by omega)]at hx hv
   by_cases kW:s<as.length
   ·rw[List.getElem?_append_left (by omega)]at hx
    have bh:bw[s]? =some v:=by
     rw[Array.toList_append,List.getElem?_append_left (by show s<bw.length;omega)]at hv;exact hv
    have nz:(g.enter N bw).val s []=v:=by simp[G.enter,hs,List.getD,bh]
    rcases i4 s x v hx bh with ⟨t,y,rfl,hp⟩ | ⟨j,j1,rfl,rfl⟩
    ·exact .o _ _ (fun _=>nz.symm) (.pv [] t y (by rw[nz];exact hp.ext (Nat.le_refl _) hf))
    ·refine .al _ [] _ (fun _=> ?_)
     have:¬(N+(0+j))<N:=by omega
     show g.val (0+j) []=(g.enter N bw).val (N+(0+j)) []
     simp only[G.enter,if_neg this]
     congr 1;omega
   ·rw[List.getElem?_append_right (by omega)]at hx
    rw[List.getElem?_replicate]at hx
    split at hx
    ·cases hx;exact .dead v
    ·cases hx
  ·rw[List.getElem?_append_right (by omega)]at hx hv
   rw[Yl]at hx
   rw[JZ]at hv
   obtain⟨y,rfl,fq⟩:=i5 (s-N) x hx
   rw[Nat.zero_add]at fq
   have b6:s-N<cr as:=by
    have:=(List.getElem?_eq_some_iff.1 hx).1
    rw[i3]at this;exact this
   rw[List.getElem?_map,List.getElem?_range b6]at hv
   simp only[Option.map_some,Option.some.injEq]at hv
   have eL:∀q,(g.enter N bw).val s q=g.val (s-N) q:=fun q=>by simp[G.enter,hs]
   refine .o y v (fun _=>by rw[eL, ←hv]) (fq.ext (s':=s) (p':=[]) (Nat.le_refl _) hf (fun q=>by simpa using eL q) (fun b q hb ht=>⟨?_,rfl⟩))
   simp only[List.nil_append]at ht ⊢
   have:N+(s-N)=s:=by omega
   simp[G.enter,ht,this]
def G.leave (g:G) (N L s0:Nat) (p0:List Nat) (fv:List Nat→Value):G:=
 {
  tag:=fun b=>match g.tag b with
   | .own s p=>if N≤s then(if s-N<L then .own (s-N) p else .free)else if s=s0∧pre p0 p=true then .own L (p.drop p0.length)else .free
   | t=>t,
  val:=fun k q=>if k=L then fv q else g.val (N+k) q}
theorem ku {fn:Func} {as:List AO} {bw:List Value} {w0:World} {g0:G} {res back:List AO} (aaw:∀b,w0.heap.size≤b→g0.tag b= .free)
  (h:Good P fn.ntmps st a ((List.range (cr as)).map fun k=>g0.val k []) w g) (hf:Fr w0 (g0.enter fn.ntmps bw) w g) (hk:finish P fn st=some (res,back)):
  ∃v,(results fn a.tmps).run P w= .ok v w∧l7 P w0 g0 as res back (.returned v) w:=by
 unfold finish at hk
 split at hk
 ·rename_i gD xs cE
  obtain⟨hc,hk⟩:=bg hk
  have hc:=Nat.eq_of_beq_eq_true hc
  simp only[Option.some.injEq,Prod.mk.injEq]at hk
  obtain⟨rfl,rfl⟩:=hk
  have fin:∀(gD:St) (g1:G) (s0:Nat) (p0:List Nat) (fv:List Nat→Value) (v:Value),Good P fn.ntmps gD a ((List.range (cr as)).map fun k=>g0.val k []) w g1→Fr w g w g1→
    (Dg P w (g1.leave fn.ntmps (cr as) s0 p0 fv) (cr as) xs v)→l7 P w0 g0 as xs (yx fn.ntmps gD) (.returned v) w:=by
   intro gD g1 s0 p0 fv v h1 f1 iG
   have hlen:gD.length=fn.ntmps+cr as:=by have:=h1.len;simpa using this
   have hF:=hf.trans f1
   have gh:∀b,b<w.heap.size→g1.tag b= .free→(g1.leave fn.ntmps (cr as) s0 p0 fv).tag b= .free∧w.heap[b]? =w.heap[b]? :=fun b _ hb=>⟨by simp[G.leave,hb],rfl⟩
   refine⟨v,g1.leave fn.ntmps (cr as) s0 p0 fv,rfl,⟨hF.os,hF.tape,hF.output,hF.size,fun b hb ht=> ?_,fun b hb ht=> ?_,fun b hb=> ?_,fun b hb=> ?_⟩,iG,fun b s p ht=> ?_,by simp[yx,hlen],fun i y hy=> ?_⟩
   ·obtain⟨t1,t2⟩:=hF.free b hb (by simp[G.enter,ht])
    exact⟨by simp[G.leave,t1],t2⟩
   ·obtain⟨t1,t2⟩:=hF.out b hb (by simp[G.enter,ht])
    exact⟨by simp[G.leave,t1],t2⟩
   ·simp only[G.leave]at hb
    have rN:g1.tag b= .out:=by
     split at hb
     ·split at hb
      ·split at hb<;>cases hb
      ·split at hb<;>cases hb
     ·exact hb
    obtain⟨t1,t2⟩:=hF.lU b rN
    refine⟨?_,t2⟩
    simp only[G.enter]at t1
    split at t1
    ·cases t1
    ·exact t1
   ·simp[G.leave,h1.inv.fresh b hb]
   ·simp only[G.leave]at ht
    split at ht
    ·split at ht
     ·split at ht
      ·cases ht;omega
      ·cases ht
     ·split at ht
      ·cases ht;exact Nat.le_refl _
      ·cases ht
    ·rename_i C1;exact absurd ht (C1 s p)
   ·simp only[yx,List.getElem?_map,Option.map_eq_some_iff,List.getElem?_drop]at hy
    obtain⟨z,hz,rfl⟩:=hy
    have hi:i<cr as:=by
     have:=(List.getElem?_eq_some_iff.1 hz).1;omega
    have hg:=gE hz
    have hs:=h1.JJ (i:=i) (v:=g0.val i []) (by rw[List.getElem?_map,List.getElem?_range hi];rfl)
    rw[hg]at hs
    cases z with
    | o x=>
     simp only
     cases hs with
     | o _ _ eD fq=>
      refine⟨fq.ext (s':=i) (p':=[]) (Nat.le_refl _) gh (fun q=>by simp[G.leave,Nat.ne_of_lt hi]) (fun b q hb ht=>⟨?_,rfl⟩),fun hd=> ?_⟩
      ·simp only[List.nil_append]at ht ⊢
       simp[G.leave,ht,hi]
      ·simp only[G.leave,if_neg (Nat.ne_of_lt hi)]
       exact(eD hd).symm
    | _=>exact⟨.dead [],fun hd=>absurd rfl hd⟩
  cases hm:decide (fn.results.size≠1)with
  | true=>
   rw[hm]at cE
   obtain⟨g1,vs,h1,f1,r1,l1,l2,e1⟩:=qY h cE
   have Ww:(fn.results.toList.zip fn.resultTypes.toList).map Prod.fst=fn.results.toList:=by
    rw[List.length_zip]at l2
    refine List.map_fst_zip ?_
    simp at l2 ⊢;omega
   have KC:(fn.results.toList.mapM fun p=>j4 a.tmps p).run P w= .ok vs w:=by
    rw[←Ww,List.mapM_map]
    exact r1
   have iG:=tn KC (by omega)
   refine⟨_,iG,fin gD g1 0 [] (fun _=>undef) _ h1 f1 ?_⟩
   have dc:vs.length≠1:=by
    have:=of_decide_eq_true hm
    omega
   have hrv:DP vs= .tuple ⟨vs⟩:=by
    cases vs with
    | nil=>rfl
    | cons x vs=>cases vs with
     | nil=>exact absurd rfl dc
     | cons y zs=>rfl
   rw[hrv]
   have Q3:xs.length≠1:=by omega
   have yK:∃rU,Value.tuple ⟨vs⟩= .tuple ⟨rU⟩∧rU.length=xs.length∧∀(i:Nat) (x:AO) (v:Value),xs[i]? =some x→rU[i]? =some v→∃t y,x= .pv t y∧aV P w (g1.leave fn.ntmps (cr as) 0 [] (fun _=>undef)) t y v:=by
    refine⟨vs,rfl,l1,fun i x v hx hv=> ?_⟩
    obtain⟨t,y,q1,q2⟩:=e1 i x v hx hv
    exact⟨t,y,q1,q2.ext (Nat.le_refl _) (fun b _ hb=>⟨by simp[G.leave,hb],rfl⟩)⟩
   match xs,Q3,yK with
   | [],_,yK=>exact yK
   | [x],Q3,_=>exact absurd rfl Q3
   | x::y::zs,_,yK=>exact yK
  | false=>
   rw[hm]at cE
   have YF:fn.results.size=1:=by simpa using hm
   have Br:xs.length=1:=by omega
   obtain⟨rv,Np⟩:∃rv,fn.results.toList=[rv]:=by
    have KI:fn.results.toList.length=1:=by rw[Array.length_toList];exact YF
    exact List.length_eq_one_iff.1 KI
   rw[Np]at cE
   cases Js:fn.resultTypes.toList with
   | nil=>
    rw[Js]at cE
    simp only[List.zip_nil_right,pY,Option.some.injEq,Prod.mk.injEq]at cE
    rw[←cE.2]at Br;cases Br
   | cons T Ts=>
    rw[Js]at cE
    simp only[List.zip_cons_cons,List.zip_nil_left,pY]at cE
    split at cE
    ·rename_i OY x hx
     cases cE
     obtain⟨g1,v,h1,f1,r1,qQ⟩:=tm h hx
     have KC:(fn.results.toList.mapM fun p=>j4 a.tmps p).run P w= .ok [v] w:=by
      rw[Np,List.mapM_cons,List.mapM_nil]
      simp only[Sem.run_bind,r1,Result.andThen_ok,Sem.run_pure]
     have iG:=tn KC (by rw[YF];rfl)
     rcases qQ with ⟨t,y,rfl,hp⟩ | ⟨_,rfl,rfl,s,p,hs,bq,RZ,hv⟩
     ·exact⟨v,iG,fin _ g1 fn.ntmps [] (fun _=>v) v h1 f1 ⟨.pv [] t y (by
       have:(g1.leave fn.ntmps (cr as) fn.ntmps [] (fun _=>v)).val (cr as) []=v:=by simp[G.leave]
       rw[this]
       exact hp.ext (Nat.le_refl _) (fun b _ hb=>⟨by simp[G.leave,hb],rfl⟩)),fun _=>by simp[G.leave]⟩⟩
     ·exact⟨v,iG,fin _ g1 s p (fun q=>g1.val s (p++q)) v h1 f1 ⟨by
       have fq:=h1.obj s p
       rw[bq]at fq
       refine fq.ext (s':=cr as) (p':=[]) (Nat.le_refl _) (fun b _ hb=>⟨by simp[G.leave,hb],rfl⟩) (fun q=>by simp[G.leave]) (fun b q hb ht=>⟨?_,rfl⟩)
       have:¬fn.ntmps≤s:=by omega
       have J4:pre p (p++q)=true:=(bX _ _).2 ⟨q,rfl⟩
       simp[G.leave,ht,this,J4],fun _=>by rw[hv];simp[G.leave]⟩⟩
    ·cases cE
 ·cases hk
theorem qZ {H:FuncId→Nat→Option (List Nat)} (bu:ct P call) (k:Nat):ct P (aW P H call k):=by
 have key:∀f as res back,aW P H call k f as=some (res,back)→∃fn c,P.funcs[f]? =some fn∧fn.body=some c∧as.length≤fn.ntmps∧fn.name≠ "runtime.NumGoroutine" ∧
   nK P call (H f) kY fn.ntmps k c (entry fn.ntmps as) (C8 P fn)=some (res,back):=by
  intro f as res back h
  simp only[aW,yy]at h
  split at h
  ·rename_i fn hf
   split at h
   ·rename_i c hb
    obtain⟨hc,h⟩:=bg h
    simp only[Bool.and_eq_true,decide_eq_true_eq,Bool.not_eq_true',decide_eq_false_iff_not]at hc
    exact⟨fn,c,hf,hb,hc.1,hc.2.2,h⟩
   ·cases h
  ·cases h
 refine⟨fun f as res back h bw w g dE fT NG p5=> ?_⟩
 obtain⟨fn,c,h1,h2,h3,h4,h5⟩:=key f as res back h
 have KJ:=vf dE h3 fT NG
 refine .inl ⟨fn,h1,by rw[h2];rfl,h4,calls_of_wp h1 h2 (xM bu c _ _ w _ _ _ KJ h5 ?_)⟩
 intro e aZ a' w' g' hg hf hk
 cases e with
 | normal=>
  obtain⟨v,r1,r2⟩:=ku fT hg hf hk
  exact⟨hg.OO,v,r1,r2⟩
 | ret=>
  obtain⟨v,r1,r2⟩:=ku fT hg hf hk
  exact⟨hg.OO,v,r1,r2⟩
 | exit id=>cases hk
theorem xN (P:Program) (H:FuncId→Nat→Option (List Nat)):∀k,ct P (JH P H k)
 | 0=>⟨fun f as res back h=>by simp[JH]at h⟩
 | k+1=>qZ (xN P H k) k
def KL (P:Program) (H:FuncId→Nat→Option (List Nat)) (base:aw):Nat→aw
 | 0,f,az=>base f az
 | k+1,f,az=>match base f az with
  | some r=>some r
  | none=>aW P H (KL P H base k) k f az
theorem xO (P:Program) (H:FuncId→Nat→Option (List Nat)) {base:aw} (hb:ct P base):∀k,ct P (KL P H base k)
 | 0=>⟨fun f as res back h=>hb.ok f as res back h⟩
 | k+1=>by
  have ih:=qZ (H:=H) (xO P H hb k) k
  refine⟨fun f as res back h=> ?_⟩
  simp only[KL]at h
  split at h
  ·rename_i r hr
   cases h
   exact hb.ok f as res back hr
  ·exact ih.ok f as res back h
end
end Go.V
namespace Go.V
def KM {α:Type}:List (Nat×α)→Nat→Option α
 | [],_=>none
 | (k,v)::r,n=>bif Nat.beq k n then some v else KM r n
def au (a b:Int):Bool:=decide (a<b)
def aj (a b:Int):Bool:=decide (a≤b)
def ak (a b:Int):Bool:=decide (a=b)
def AJ (a b:Nat):Bool:=decide (a≤b)
abbrev dd:AV:=AV.dead
theorem FL:∃g:Gate,g=kY:=⟨_,rfl⟩
noncomputable def tp:Gate:=Classical.choose FL
theorem Bs:tp=kY:=Classical.choose_spec FL
theorem HC (id:Nat) (body:St→(St→R)→R) (st:St) (K:St→R):tp id body st K=body st K:=by rw[Bs];rfl
theorem aC (P:Program) (H:FuncId→Nat→Option (List Nat)) (call:aw) (k:Nat) (f:FuncId) (az:List AO):aW P H call k f az=yy P H tp call k f az:=by rw[Bs];rfl
theorem dF {a b:Int} (h:a<b):au a b=true:=decide_eq_true h
theorem eg {a b:Int} (h:b≤a):au a b=false:=decide_eq_false (by omega)
theorem b7 {a b:Int} (h:a≤b):aj a b=true:=decide_eq_true h
theorem ml {a b:Int} (h:b<a):aj a b=false:=decide_eq_false (by omega)
theorem lk {a b:Int} (h:a=b):ak a b=true:=decide_eq_true h
theorem eE {a b:Int} (h:a≠b):ak a b=false:=decide_eq_false h
theorem kQ {a b:Nat} (h:a≤b):AJ a b=true:=decide_eq_true h
end Go.V
