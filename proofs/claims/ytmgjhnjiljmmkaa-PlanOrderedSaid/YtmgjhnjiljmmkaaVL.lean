/- slices.Clone and slices.Sort at numbers, by the shelf's contracts laid at this program, told to the evaluator as a base. Conditions: those that each theorem names. (Names are short so that the claim keeps to its size.) -/
import Derived.Shelf.Sort.Plain
import Derived.Shelf.Slices.Clone
import Derived.Shelf.Slices.In.SortNone
import Derived.Test.YtmgjhnjiljmmkaaProg
import Derived.Test.YtmgjhnjiljmmkaaVC
set_option linter.unusedSimpArgs false
set_option linter.unusedVariables false
namespace Go.Proofs
open Go.Shelf
def Try.Bw:Go.Shelf.Ren:=⟨fun | 189=>36 | 125=>47 | 257=>46 | 128=>62 | 129=>63 | 294=>53 | 295=>54 | 296=>55 | 297=>56 | 298=>57 | 299=>58 | 216=>59 | 300=>60 | 301=>61 | 328=>71 | 329=>72 | 330=>73 | 331=>74 | 332=>75 | 215=>76 | 343=>82 | n=>n,fun | 28=>23 | 3=>3 | 46=>90 | 0=>0 | 51=>114 | 53=>116 | 4=>4 | 183=>107 | 182=>106 | 131=>87 | 5=>5 | 9=>9 | 218=>129 | 222=>133 | 228=>145 | 229=>143 | n=>n,fun | n=>n⟩
theorem Try.FO:Go.Proofs.Lays.n189 Try.prog Try.Bw:= {
 mixed:=by kernel_rfl
 f125:=Try.func47.trans (congrArg some (by kernel_rfl))
 f128:=Try.func62.trans (congrArg some (by kernel_rfl))
 f129:=Try.func63.trans (congrArg some (by kernel_rfl))
 f189:=Try.func36.trans (congrArg some (by kernel_rfl))
 f215:=Try.func76.trans (congrArg some (by kernel_rfl))
 f216:=Try.func59.trans (congrArg some (by kernel_rfl))
 f257:=Try.func46.trans (congrArg some (by kernel_rfl))
 f294:=Try.func53.trans (congrArg some (by kernel_rfl))
 f295:=Try.func54.trans (congrArg some (by kernel_rfl))
 f296:=Try.func55.trans (congrArg some (by kernel_rfl))
 f297:=Try.func56.trans (congrArg some (by kernel_rfl))
 f298:=Try.func57.trans (congrArg some (by kernel_rfl))
 f299:=Try.func58.trans (congrArg some (by kernel_rfl))
 f300:=Try.func60.trans (congrArg some (by kernel_rfl))
 f301:=Try.func61.trans (congrArg some (by kernel_rfl))
 f328:=Try.func71.trans (congrArg some (by kernel_rfl))
 f329:=Try.func72.trans (congrArg some (by kernel_rfl))
 f330:=Try.func73.trans (congrArg some (by kernel_rfl))
 f331:=Try.func74.trans (congrArg some (by kernel_rfl))
 f332:=Try.func75.trans (congrArg some (by kernel_rfl))
 f343:=Try.func82.trans (congrArg some (by kernel_rfl))
 t0:=Try.underlying0
 a0:=Try.isAgg0
 z0:=Try.sizeOf0
 v0:=Try.zeroValue0
 t3:=Try.underlying3
 a3:=Try.isAgg3
 z3:=Try.sizeOf3
 v3:=Try.zeroValue3
 t4:=Try.underlying4
 a4:=Try.isAgg4
 z4:=Try.sizeOf4
 v4:=Try.zeroValue4
 t5:=Try.underlying5
 a5:=Try.isAgg5
 z5:=Try.sizeOf5
 v5:=Try.zeroValue5
 t9:=Try.underlying9
 a9:=Try.isAgg9
 z9:=Try.sizeOf9
 v9:=Try.zeroValue9
 t28:=Try.underlying23
 a28:=Try.isAgg23
 z28:=Try.sizeOf23
 v28:=Try.zeroValue23
 t46:=Try.underlying90
 a46:=Try.isAgg90
 z46:=Try.sizeOf90
 v46:=Try.zeroValue90
 t51:=Try.underlying114
 a51:=Try.isAgg114
 z51:=Try.sizeOf114
 v51:=Try.zeroValue114
 t53:=Try.underlying116
 a53:=Try.isAgg116
 z53:=Try.sizeOf116
 v53:=Try.zeroValue116
 t131:=Try.underlying87
 a131:=Try.isAgg87
 z131:=Try.sizeOf87
 v131:=Try.zeroValue87
 t182:=Try.underlying106
 a182:=Try.isAgg106
 z182:=Try.sizeOf106
 v182:=Try.zeroValue106
 t183:=Try.underlying107
 a183:=Try.isAgg107
 z183:=Try.sizeOf107
 v183:=Try.zeroValue107
 t218:=Try.underlying129
 a218:=Try.isAgg129
 z218:=Try.sizeOf129
 v218:=Try.zeroValue129
 t222:=Try.underlying133
 a222:=Try.isAgg133
 z222:=Try.sizeOf133
 v222:=Try.zeroValue133
 t228:=Try.underlying145
 a228:=Try.isAgg145
 z228:=Try.sizeOf145
 v228:=Try.zeroValue145
 t229:=Try.underlying143
 a229:=Try.isAgg143
 z229:=Try.sizeOf143
 v229:=Try.zeroValue143}
open Go.Sort Go.RowKit in
theorem Try.slices_Sort_int (aD off cap:Nat) (zs:List Int) (w:World) (hH:Holds (Value.int .i64) w aD off zs.toArray) (N1:aD<w.heap.size) (eC:zs.length<4611686018427387904):
  Calls Try.prog 36 #[.slice (some ⟨aD,off,none⟩) zs.length cap] w fun e w'=>
   e= .returned (.tuple #[])∧∃n os,w'=grow (putRow (Value.int .i64) (Sort.ahead w n) aD off (zs.mergeSort fun x y=>decide (x≤y)).toArray) os:=Any.slices_Sort_int Try.FO aD off cap zs w hH N1 eC
def Try.xj:Go.Shelf.Ren:=⟨fun | 15=>43 | n=>n,fun | 22=>23 | 3=>3 | 4=>4 | n=>n,fun | n=>n⟩
theorem Try.sk:Go.Proofs.Lays2.n15 Try.prog Try.xj:= {
 mixed:=by kernel_rfl
 f15:=Try.func43.trans (congrArg some (by kernel_rfl))
 t3:=Try.underlying3
 a3:=Try.isAgg3
 z3:=Try.sizeOf3
 v3:=Try.zeroValue3
 t4:=Try.underlying4
 a4:=Try.isAgg4
 z4:=Try.sizeOf4
 v4:=Try.zeroValue4
 t22:=Try.underlying23
 a22:=Try.isAgg23
 z22:=Try.sizeOf23
 v22:=Try.zeroValue23
 i3:=by kernel_rfl}
open Go.RowKit Go.Lib in
theorem Try.slices_Clone_int (b off n c:Nat) (zs:List Int) (w:World) (hz:n≤zs.length) (WX:n*8≤140737488355328) (hc:∀j,j<zs.length→w.cell? ⟨b,off+j,none⟩=some (.int .i64 (zs.getD j 0))):
  Calls Try.prog 43 #[.slice (some ⟨b,off,none⟩) n c] w fun e w'=>∃v',e= .returned v'∧w'.ownsRow w.heap.size 3 1 v' n ((zs.take n).map (Value.int .i64))∧v'≠ .slice none 0 0∧Below w.heap.size w w':=Any.slices_Clone_int Try.sk b off n c zs w hz WX hc
open Go.RowKit Go.Lib in
theorem Try.slices_Clone_int_nil (n c:Nat) (w:World):
  Calls Try.prog 43 #[.slice none n c] w fun e w'=>e= .returned (.slice none 0 0)∧w'=w:=Any.slices_Clone_int_nil Try.sk n c w
open Go.RowKit Go.Lib in
theorem Try.slices_Clone_int_zero (a:Addr) (c:Nat) (w:World):
  Calls Try.prog 43 #[.slice (some a) 0 c] w fun e w'=>∃v',e= .returned v'∧w'.ownsRow w.heap.size 3 1 v' 0 []∧v'≠ .slice none 0 0∧Below w.heap.size w w':=Any.slices_Clone_int_zero Try.sk a c w
open Go.RowKit Go.Sort in
theorem Try.slices_Sort_int_none (p:Option Addr) (cap:Nat) (w:World):
  Calls Try.prog 36 #[.slice p 0 cap] w fun e w'=>e= .returned (.tuple #[])∧w'=w:=Any.slices_Sort_int_none Try.FO p cap w
end Go.Proofs
namespace Go.V
open Go.Proofs
open Go.RowKit (Below)
open Go.Sort (Holds putRow putCells grow mapBlock)
def q8 (l:List PV):List PV:=((l.map PV.toInt).mergeSort fun x y=>decide (x≤y)).map fun n=>PV.int .i64 n
def DT:List AO→Option (List AO×List AO)
 | [.pv t x]=>bif t.eq (.sl 3)&&decide (x.toList.length*8≤room)then some ([.arr 3 x.toList],[])else none
 | _=>none
def KX:List AO→Option (List AO×List AO)
 | [.arr E l]=>bif Nat.beq E 3&&decide (l.length≤room)then some ([],[.arr 3 (q8 l)])else none
 | _=>none
def HL:aw:=fun f az=>bif Nat.beq f 43 then DT az else bif Nat.beq f 36 then KX az else none
def WY (b c:aw):aw:=fun f az=>match b f az with | some r=>some r | none=>c f az
theorem Q9 {P:Program} {b c:aw} (hb:ct P b) (hc:ct P c):ct P (WY b c):=by
 refine⟨fun f az res back h=> ?_⟩
 unfold WY at h
 cases hh:b f az with
 | some r=>
  rw[hh]at h
  simp only[Option.some.injEq]at h
  subst h
  exact hb.ok f az _ _ hh
 | none=>
  rw[hh]at h
  exact hc.ok f az _ _ h
theorem y6:ai Try.prog 3= .int .i64:=by kernel_rfl
theorem jE:Try.prog.cellsOf 3=1:=by kernel_rfl
theorem Ra:Try.prog.funcs[43]? =some (funcOf Try.prog 43):=by kernel_rfl
theorem Rb:Try.prog.funcs[36]? =some (funcOf Try.prog 36):=by kernel_rfl
theorem Rc:(funcOf Try.prog 43).body.isSome=true:=by kernel_rfl
theorem Re:(funcOf Try.prog 36).body.isSome=true:=by kernel_rfl
theorem Rf:(funcOf Try.prog 43).name≠ "runtime.NumGoroutine" :=by decide+kernel
theorem Rg:(funcOf Try.prog 36).name≠ "runtime.NumGoroutine" :=by decide+kernel
theorem FP {l:List PV} {w:World} {g:G} {f:Nat→Value} (h:∀(i:Nat) (x:PV),l[i]? =some x→aV Try.prog w g (.int .i64) x (f i)):
  l=(l.map PV.toInt).map (fun n=>PV.int .i64 n)∧∀i,i<l.length→f i= .int .i64 ((l.map PV.toInt).getD i 0):=by
 constructor
 ·rw[List.map_map]
  conv=>lhs;rw[←List.map_id l]
  refine List.map_congr_left (fun x hx=> ?_)
  obtain⟨i,hi,rfl⟩:=List.mem_iff_getElem.1 hx
  obtain⟨n,e,_⟩:=(h i _ (List.getElem?_eq_getElem hi)).cO
  rw[e];rfl
 ·intro i hi
  obtain⟨n,e,e2⟩:=(h i _ (List.getElem?_eq_getElem hi)).cO
  rw[e2,List.getD_eq_getElem?_getD,List.getElem?_map,List.getElem?_eq_getElem hi,e];rfl
theorem Rh (v:Value) (g:G):v=(if(0:Nat)=0∧([]:List Nat)=[]then v else g.val 0 []):=(if_pos ⟨rfl,rfl⟩).symm
theorem xS {w w':World} {g:G} {v':Value} {l:List PV} (fT:∀b,w.heap.size≤b→g.tag b= .free) (p5:∀b s p,g.tag b= .own s p→s<0)
  (hl:l=(l.map PV.toInt).map (fun n=>PV.int .i64 n)) (ho:w'.ownsRow w.heap.size 3 1 v' l.length ((l.map PV.toInt).map (Value.int .i64))) (dc:v'≠ .slice none 0 0) (hB:Below w.heap.size w w') (t:Ty) (x:PV):
  l7 Try.prog w g [.pv t x] [.arr 3 l] [] (.returned v') w':=by
 obtain⟨_,h⟩:=ho
 rcases h with ⟨h1,_⟩ | ⟨b,cap,cur,h1,h2,h3,h4,h5,h6,h7⟩
 ·exact absurd h1 dc
 ·have b6:b<w'.heap.size:=bT h3
  refine⟨v',⟨fun b'=>if b'=b then .own 0 []else g.tag b',fun s p=>if s=0∧p=[]then v' else g.val s p⟩,rfl,⟨hB.os,hB.tape,hB.output,hB.size,fun c hc ht=>⟨?_,hB.block c hc⟩,fun c hc ht=>⟨?_,hB.block c hc⟩,fun c hc=> ?_,fun c hc=> ?_⟩,⟨?_,fun _=>Rh v' g⟩,fun c s p hc=> ?_,rfl,fun i y hy=>by simp at hy⟩
  ·show(if c=b then _ else _)=_
   rw[if_neg (by omega)];exact ht
  ·show(if c=b then _ else _)=_
   rw[if_neg (by omega)];exact ht
  ·replace hc:(if c=b then Tag.own 0 []else g.tag c)= .out:=hc
   split at hc
   ·cases hc
   ·refine⟨hc, ?_⟩
    rcases Nat.lt_or_ge c w.heap.size with h' | h'
    ·exact h'
    ·rw[fT c h']at hc;cases hc
  ·show(if c=b then _ else _)=_
   have:=hB.size
   rw[if_neg (by omega)];exact fT c (by omega)
  ·refine .arr [] 3 l b 0 cap cur.toList (fun i=> .int .i64 ((l.map PV.toInt).getD i 0)) 3 ?_ (by rw[h3]) ?_ h4 ?_ (fun i x hx=> ?_) (fun i hi j hj=> ?_)
   ·show(if(0:Nat)=0∧([]:List Nat)=[]then v' else g.val 0 [])=_
    rw[if_pos ⟨rfl,rfl⟩,h1]
   ·show(if b=b then _ else _)=_
    rw[if_pos rfl];rfl
   ·rw[jE,Array.length_toList,h6];omega
   ·rw[y6]
    have hi:=(List.getElem?_eq_some_iff.1 hx).1
    rw[hl]at hx
    simp only[List.getElem?_map,Option.map_eq_some_iff]at hx
    obtain⟨n,⟨y,hy,rfl⟩,rfl⟩:=hx
    show aV _ _ _ _ _ (.int .i64 ((l.map PV.toInt).getD i 0))
    rw[List.getD_eq_getElem?_getD,List.getElem?_map,hy]
    exact .int _ _
   ·rw[jE]at hj ⊢
    have Dd:j=0:=by omega
    subst Dd
    have e:(cur.toList.take (l.length*1))[i]? =cur.toList[i]? :=by rw[List.getElem?_take,if_pos (by omega)]
    rw[show 0+i*1+0=i by omega, ←e,h7,List.getElem?_map,List.getElem?_map,List.getElem?_eq_getElem hi,List.getD_eq_getElem?_getD,List.getElem?_map,List.getElem?_eq_getElem hi]
    rfl
  ·replace hc:(if c=b then Tag.own 0 []else g.tag c)= .own s p:=hc
   split at hc
   ·cases hc;exact Nat.zero_le _
   ·exact Nat.le_of_lt (p5 c s p hc)
theorem HM {az res back:List AO} (h:DT az=some (res,back)) (bw:List Value) (w:World) (g:G) (dE:fO Try.prog w g 0 az bw) (fT:∀b,w.heap.size≤b→g.tag b= .free) (p5:∀b s p,g.tag b= .own s p→s<cr az):
  l8 Try.prog 43 ⟨bw⟩ w (l7 Try.prog w g az res back):=by
 unfold DT at h
 split at h
 ·rename_i t x
  cases hc:(t.eq (.sl 3)&&decide (x.toList.length*8≤room))with
  | false=>rw[hc]at h;cases h
  | true=>
   rw[hc,cond_true]at h
   cases h
   rw[Bool.and_eq_true]at hc
   have ht:=Ty.iH hc.1
   subst ht
   have lg:=of_decide_eq_true hc.2
   have lg:x.toList.length*8≤140737488355328:=lg
   match bw,dE with
   | [v],⟨hx,_⟩=>
    refine .inl ⟨_,Ra,Rc,Rf, ?_⟩
    have KY:∀b s p,g.tag b= .own s p→s<0:=p5
    cases hx with
    | Jn e=>
     refine(Try.slices_Clone_int_nil 0 0 w).mono (fun e w' hh=> ?_)
     obtain⟨rfl,rfl⟩:=hh
     refine⟨_,⟨g.tag,fun s p=>if s=0∧p=[]then .slice none 0 0 else g.val s p⟩,rfl,(have q:=Fr.refl w' g fT;⟨q.os,q.tape,q.output,q.size,q.free,q.out,q.lU,q.fresh⟩),⟨.jt [] 3 (Rh _ g).symm,fun _=>Rh _ g⟩,fun c s p hc=>Nat.le_of_lt (KY c s p hc),rfl,fun i y hy=>by simp at hy⟩
    | ON e a=>
     refine(Try.slices_Clone_int_zero a 0 w).mono (fun e w' hh=> ?_)
     obtain⟨v',rfl,h1,h2,h3⟩:=hh
     exact xS (l:=[]) fT KY rfl h1 h2 h3 _ _
    | sl e l b off cap f hf jW tH hb cU=>
     rw[y6]at hf
     obtain⟨hl,QC⟩:=FP hf
     refine(Try.slices_Clone_int b off l.length cap (l.map PV.toInt) w (by simp) lg (fun j hj=> ?_)).mono (fun e w' hh=> ?_)
     ·rw[List.length_map]at hj
      have:=jW j hj 0 (by rw[jE];decide)
      rw[jE,QC j hj]at this
      rw[show off+j*1+0=off+j by omega]at this
      exact this
     ·obtain⟨v',rfl,h1,h2,h3⟩:=hh
      rw[List.take_of_length_le (by simp)]at h1
      exact xS fT KY hl h1 h2 h3 _ _
 ·cases h
theorem Bx {w:World} {enc:Int→Value} {n b off:Nat} {d:Array Int} {os:Array Obj} {vs:List Value} {T:TypeId} (hh:w.heap[b]? =some (.cells ⟨vs⟩ T (0,0))):
  (grow (putRow enc (Go.Sort.ahead w n) b off d) os).heap[b]? =some (.cells (putCells enc off d ⟨vs⟩) T (0,0))∧(∀k,k<w.heap.size→k≠b→(grow (putRow enc (Go.Sort.ahead w n) b off d) os).heap[k]? =w.heap[k]?)∧w.heap.size≤(grow (putRow enc (Go.Sort.ahead w n) b off d) os).heap.size:=by
 have hb:=bT hh
 have e:∀k,k<w.heap.size→(grow (putRow enc (Go.Sort.ahead w n) b off d) os).heap[k]? =(w.heap.modify b (Go.Sort.onCells (putCells enc off d)))[k]? :=by
  intro k hk
  show((w.heap.modify b (Go.Sort.onCells (putCells enc off d)))++os)[k]? =_
  rw[Array.getElem?_append,if_pos (by simpa using hk)]
 refine⟨?_,fun k hk dc=> ?_, ?_⟩
 ·rw[e b hb,Array.getElem?_modify,if_pos rfl,hh];rfl
 ·rw[e k hk,Array.getElem?_modify,if_neg (fun h=>dc h.symm)]
 ·show _≤((w.heap.modify b (Go.Sort.onCells (putCells enc off d)))++os).size
  simp
theorem HN:q8 []=[]:=by unfold q8;simp
theorem KZ {az res back:List AO} (h:KX az=some (res,back)) (bw:List Value) (w:World) (g:G) (dE:fO Try.prog w g 0 az bw) (fT:∀b,w.heap.size≤b→g.tag b= .free) (p5:∀b s p,g.tag b= .own s p→s<cr az):
  l8 Try.prog 36 ⟨bw⟩ w (l7 Try.prog w g az res back):=by
 unfold KX at h
 split at h
 ·rename_i E l
  cases hc:(Nat.beq E 3&&decide (l.length≤room))with
  | false=>rw[hc]at h;cases h
  | true=>
   rw[hc,cond_true]at h
   cases h
   rw[Bool.and_eq_true]at hc
   have hE:=Nat.eq_of_beq_eq_true hc.1
   subst hE
   have lg:=of_decide_eq_true hc.2
   have lg:l.length≤140737488355328:=lg
   match bw,dE with
   | [v],⟨_,hx,hv,_⟩=>
    subst hv
    refine .inl ⟨_,Rb,Re,Rg, ?_⟩
    have iG:∀(w':World) (g':G),Dg Try.prog w' g' 1 [] (.tuple #[]):=fun w' g'=>⟨[],rfl,rfl,fun i x v hx=>by simp at hx⟩
    cases hx with
    | jt _ _ hv=>
     rw[hv]
     refine(Try.slices_Sort_int_none none 0 w).mono (fun e w' hh=> ?_)
     obtain⟨rfl,rfl⟩:=hh
     refine⟨_,g,rfl,Fr.refl _ _ fT,iG _ _,fun c s p hc=>Nat.le_of_lt (p5 c s p hc),rfl,fun i y hy=> ?_⟩
     match i,hy with
     | 0,hy=>
      cases hy
      rw[HN]
      exact⟨.jt [] 3 hv,fun _=>rfl⟩
     | i+1,hy=>simp at hy
    | arr _ _ _ b off cap vs f T hv hh ht hl cU he jW=>
     rw[y6]at he
     rw[jE]at jW cU
     obtain⟨Tm,QC⟩:=FP he
     have cW:∀i,i<l.length→vs[off+i]? =some (.int .i64 ((l.map PV.toInt).getD i 0)):=by
      intro i hi
      have:=jW i hi 0 (by decide)
      rw[QC i hi,show off+i*1+0=off+i by omega]at this
      exact this
     rw[hv]
     have JY:(l.map PV.toInt).length=l.length:=List.length_map _
     rw[←JY]
     refine(Try.slices_Sort_int b off cap (l.map PV.toInt) w (fun j hj=> ?_) (bT hh) (by rw[JY];omega)).mono (fun e w' hw=> ?_)
     ·have hj:j<l.length:=by simpa using hj
      refine⟨?_, ?_⟩
      ·have e:w.cell? ⟨b,off+j,none⟩=vs[off+j]? :=by simp[World.cell?,hh]
       rw[e,cW j hj]
       congr 2
       rw[List.getD_eq_getElem?_getD,getElem!_def]
       simp[hj]
      ·simp[World.frozen?,hh]
     ·obtain⟨rfl,n,os,rfl⟩:=hw
      generalize hS:((l.map PV.toInt).mergeSort fun x y=>decide (x≤y))=S
      have U8:S.length=l.length:=by rw[←hS,List.length_mergeSort,JY]
      have kW:q8 l=S.map (fun n=>PV.int .i64 n):=by unfold q8;rw[hS]
      obtain⟨h1,h2,h3⟩:=Bx (enc:=Value.int .i64) (n:=n) (off:=off) (d:=S.toArray) (os:=os) hh
      generalize O8:grow (putRow (Value.int .i64) (Go.Sort.ahead w n) b off S.toArray) os=w' at h1 h2 h3
      have FC:w'.os=w.os∧w'.tape=w.tape∧w'.output=w.output:=by subst O8;exact⟨rfl,rfl,rfl⟩
      have hb:=bT hh
      refine⟨_,g,rfl,⟨FC.1,FC.2.1,FC.2.2,h3,fun c hc dJ=>⟨dJ,h2 c hc (by rintro rfl;rw[ht]at dJ;cases dJ)⟩,fun c hc dJ=>⟨dJ,h2 c hc (by rintro rfl;rw[ht]at dJ;cases dJ)⟩,(Fr.refl w g fT).lU,fun c hc=>fT c (by omega)⟩,iG _ _,fun c s p hc=>Nat.le_of_lt (p5 c s p hc),rfl,fun i y hy=> ?_⟩
      match i,hy with
      | 0,hy=>
       cases hy
       refine⟨?_,fun _=>rfl⟩
       refine .arr [] 3 (q8 l) b off cap (putCells (Value.int .i64) off S.toArray ⟨vs⟩).toList (fun i=> .int .i64 (S.getD i 0)) T (by rw[hv,kW,List.length_map,U8]) (by rw[h1]) ht (by rw[kW,List.length_map,U8];exact hl) ?_ (fun i x hx=> ?_) (fun i hi j hj=> ?_)
       ·rw[jE,Array.length_toList]
        show _≤(Array.mapIdx _ _).size
        rw[Array.size_mapIdx];exact cU
       ·rw[y6]
        rw[kW]at hx
        simp only[List.getElem?_map,Option.map_eq_some_iff]at hx
        obtain⟨n,hn,rfl⟩:=hx
        show aV _ _ _ _ _ (.int .i64 (S.getD i 0))
        rw[List.getD_eq_getElem?_getD,hn]
        exact .int _ _
       ·rw[jE]at hj ⊢
        have Dd:j=0:=by omega
        subst Dd
        rw[kW,List.length_map,U8]at hi
        have SC:=cW i hi
        rw[show off+i*1+0=off+i by omega,Array.getElem?_toList]
        show(Array.mapIdx _ _)[off+i]? =_
        rw[Array.getElem?_mapIdx,List.getElem?_toArray,SC]
        show some (if off≤off+i∧off+i<off+S.toArray.size then Value.int .i64 (S.toArray[off+i-off]!)else _)=_
        rw[if_pos (by simp;omega),show off+i-off=i by omega]
        show _=some (Value.int .i64 (S.getD i 0))
        congr 2
        rw[List.getD_eq_getElem?_getD,getElem!_def]
        simp[U8,hi]
      | i+1,hy=>simp at hy
 ·cases h
theorem N6:ct Try.prog HL:=by
 refine⟨fun f az res back h bw w g dE fT _ p5=> ?_⟩
 unfold HL at h
 cases h1:Nat.beq f 43 with
 | true=>
  rw[h1,cond_true]at h
  have:=Nat.eq_of_beq_eq_true h1
  subst this
  exact HM h bw w g dE fT p5
 | false=>
  rw[h1,cond_false]at h
  cases h2:Nat.beq f 36 with
  | true=>
   rw[h2,cond_true]at h
   have:=Nat.eq_of_beq_eq_true h2
   subst this
   exact KZ h bw w g dE fT p5
  | false=>rw[h2]at h;cases h
end Go.V
