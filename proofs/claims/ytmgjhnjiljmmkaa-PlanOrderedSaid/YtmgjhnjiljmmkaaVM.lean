/- mesh.Valid: its loop over a map walked by hand, its parts by the evaluator; told to the evaluator as a base. Conditions: those that each theorem names. (Names are short so that the claim keeps to its size.) -/
import Derived.Test.YtmgjhnjiljmmkaaVC
import Derived.Maps.RangeRun
import Derived.Test.YtmgjhnjiljmmkaaProg
set_option linter.unusedSimpArgs false
set_option linter.unusedVariables false
set_option maxRecDepth 100000
namespace Go.V
open Go.ChangeMaps (setBlock)
section
variable {P:Program} {N:Nat} {st aZ:St} {a:Act} {hv:List Value} {w w':World} {g g':G} {call:aw} {ops:Array Oper} {Q:Exit→Act→World→Prop} {n:Nat} {c:Code}
theorem kR (bu:ct P call) (h:Good P N st a hv w g) (l:List Nat) (e:Ex) (he:∀K:Ex→St→R,nK P call (fun _=>none) kY N n c st (fun e s=>K e (db (some l) s))=K e aZ)
  (hQ:∀a' w' g',Good P N aZ a' hv w' g'→Fr w g w' g'→Q (KF e) a' w'):c.wp P Q a w:=by
 have hk:=he (fun e1 s=>(open Classical in if e1=e∧s=aZ then some (([],[]):List AO×List AO)else none))
 rw[if_pos ⟨rfl,rfl⟩]at hk
 refine xM bu c st a w g _ Q h hk (fun e1 s1 a1 w1 g1 h1 f1 k1=> ?_)
 have k2:e1=e∧db (some l) s1=aZ:=by
  apply Classical.byContradiction
  intro hn
  rw[if_neg hn]at k1;cases k1
 obtain⟨rfl,rfl⟩:=k2
 exact hQ a1 w1 g1 (h1.db (some l)) f1
theorem qg {K:St→R} {r:List AO×List AO} (bu:ct P call) (l':List Nat):∀(l:List Nat) (st:St) (a:Act) (w:World) (g:G),Good P N st a hv w g→gu P call N ops l st K=some r→fB P N hv w g K r (wpOps P ops Q l')→wpOps P ops Q (l++l') a w
 | [],st,a,w,g,h,hk,ag=>by
  simp only[gu]at hk
  exact ag st a w g h (Fr.refl w g h.inv.fresh) hk
 | i::rest,st,a,w,g,h,hk,ag=>by
  simp only[gu]at hk
  split at hk
  ·cases hk
  ·rename_i o ho
   obtain⟨br,hk⟩:=aH hk
   have gi:=(gm br).2
   have go:∀gD,Good P N gD a hv w g→C4 P call N o gD (fun st=>gu P call N ops rest st K)=some r→o.wp P a w (wpOps P ops Q (rest++l')) Q:=fun gD h1 hk=>
    uX bu h1 br hk (fun aZ a' w' g' hg hf hk=>qg bu l' rest aZ a' w' g' hg hk (fun s1 a1 w1 g1 SX J6 sW=>ag s1 a1 w1 g1 SX (hf.trans J6) sW))
   have no:∀gD,Good P N gD a hv w g→gu P call N ops rest (gy o.dst (.jg []) gD) K=some r→wpOps P ops Q (rest++l') (a.put o.dst undef) w:=fun gD h1 hk=>
    qg bu l' rest _ _ w g (h1.skip gi) hk ag
   simp only[List.cons_append,wpOps,ho]
   split at hk
   ·rename_i hg
    rw[if_pos (lh hg _)]
    exact .inl (go st h hk)
   ·rename_i j want hg
    split at hk
    ·rename_i d hj
     split at hk
     ·rename_i v nR
      obtain⟨hd,hk⟩:=aH hk
      have hd:=of_decide_eq_true hd
      have hw:=oC hg (h.DB hj hd nR)
      rw[hw]
      cases xe:v.toBool with
      | true=>
       rw[xe]at hk
       rw[h.known hd nR xe]at hk
       cases want with
       | true=>simp only[cond_true]at hk;rw[if_pos (by rfl)];exact .inl (go st h hk)
       | false=>simp only[cond_true,cond_false]at hk;rw[if_neg (by decide)];exact no st h hk
      | false=>
       rw[xe]at hk
       rw[h.known hd nR xe]at hk
       cases want with
       | true=>simp only[cond_true,cond_false]at hk;rw[if_neg (by decide)];exact no st h hk
       | false=>simp only[cond_false]at hk;rw[if_pos (by rfl)];exact .inl (go st h hk)
     ·rename_i nR
      obtain⟨hd,hk⟩:=aH hk
      have hd:=of_decide_eq_true hd
      rw[r8 hg (h.uY hj hd nR),if_neg (by decide)]
      exact no st h hk
     ·cases hk
    ·cases hk
theorem q7 (bu:ct P call) (h:Good P N st a hv w g) (ks:List Nat) (l l':List Nat) (he:∀K:St→R,gu P call N ops l st (fun s=>K (db (some ks) s))=K aZ)
  (hQ:∀a' w' g',Good P N aZ a' hv w' g'→Fr w g w' g'→wpOps P ops Q l' a' w'):wpOps P ops Q (l++l') a w:=by
 have hk:=he (fun s=>(open Classical in if s=aZ then some (([],[]):List AO×List AO)else none))
 rw[if_pos rfl]at hk
 refine qg bu l' l st a w g h hk (fun s1 a1 w1 g1 h1 f1 k1=> ?_)
 have k2:db (some ks) s1=aZ:=by
  apply Classical.byContradiction
  intro hn
  rw[if_neg hn]at k1;cases k1
 subst k2
 exact hQ a1 w1 g1 (h1.db (some ks)) f1
def G.mn (g:G) (r:Nat):G:= {g with tag:=fun b=>if b=r then .out else g.tag b}
def G.mZ (g:G) (r:Nat):G:= {g with tag:=fun b=>if b=r then .free else g.tag b}
theorem HE (h:Good P N st a hv w g) {d:Nat} (hd:d<N) (ob:Obj) (v:Value):Good P N (put d (.fix v) st) (a.put (some d) v) hv (w.alloc ob) (g.mn w.heap.size):=by
 have h1:=h.put hd (uB.refl w g (some d) h.inv.fresh) (.fix v)
 refine kN h1 (by simp) (fun b hb ht=>⟨by simp[G.mn,Nat.ne_of_lt hb,ht],heap_alloc_old w ob hb⟩) (fun b hb=> ?_) (fun _ _ _=>rfl) (fun b t q hb ht _=>⟨by simp[G.mn,Nat.ne_of_lt hb,ht],heap_alloc_old w ob hb⟩)
 simp at hb
 simp only[G.mn]
 rw[if_neg (by omega)]
 exact h.inv.fresh b (by omega)
theorem HF (h:Good P N st a hv w g) {r:Nat} {w1:World} (hw:w1=w∨w1=w.drew) (hr:g.tag r= .out) (ob:Obj):Good P N st a hv (setBlock w1 r ob) g:=by
 have hh:w1.heap=w.heap:=by rcases hw with rfl | rfl<;>rfl
 have tO:∀b,b≠r→(setBlock w1 r ob).heap[b]? =w.heap[b]? :=fun b hb=>by
  simp only[setBlock,hh]
  rw[Array.getElem?_setIfInBounds,if_neg (Ne.symm hb)]
 refine kN h (by simp[setBlock,hh]) (fun b hb ht=>⟨ht,tO b (by rintro rfl;rw[hr]at ht;cases ht)⟩) (fun b hb=>h.inv.fresh b (by simpa[setBlock,hh]using hb)) (fun _ _ _=>rfl)
  (fun b t q hb ht _=>⟨ht,tO b (by rintro rfl;rw[hr]at ht;cases ht)⟩)
theorem vj (h:Good P N st a hv w g) {r:Nat} (hr:g.tag r= .out):Good P N st a hv w (g.mZ r):=by
 refine kN h (Nat.le_refl _) (fun b hb ht=>⟨?_,rfl⟩) (fun b hb=> ?_) (fun _ _ _=>rfl) (fun b t q hb ht _=>⟨?_,rfl⟩)
 ·simp only[G.mZ];split
  ·rfl
  ·exact ht
 ·simp only[G.mZ];split
  ·rfl
  ·exact h.inv.fresh b hb
 ·simp only[G.mZ]
  rw[if_neg (by rintro rfl;rw[hr]at ht;cases ht)];exact ht
structure Ju (r:Nat) (w:World) (g:G) (w':World) (g':G):Prop where
 os:w'.os=w.os
 tape:w'.tape=w.tape
 output:w'.output=w.output
 size:w.heap.size≤w'.heap.size
 rs:w.heap.size≤r
 free:∀b,b<w.heap.size→g.tag b= .free→g'.tag b= .free∧w'.heap[b]? =w.heap[b]?
 out:∀b,b<w.heap.size→g.tag b= .out→g'.tag b= .out∧w'.heap[b]? =w.heap[b]?
 lU:∀b,g'.tag b= .out→b=r∨(g.tag b= .out∧b<w.heap.size)
 fresh:∀b,w'.heap.size≤b→g'.tag b= .free
theorem Ju.start (h:∀b,w.heap.size≤b→g.tag b= .free) (ob:Obj):Ju w.heap.size w g (w.alloc ob) (g.mn w.heap.size):=by
 refine⟨rfl,rfl,rfl,by simp,Nat.le_refl _,fun b hb ht=>⟨by simp[G.mn,Nat.ne_of_lt hb,ht],heap_alloc_old w ob hb⟩,fun b hb ht=>⟨by simp[G.mn,Nat.ne_of_lt hb,ht],heap_alloc_old w ob hb⟩,fun b hb=> ?_,fun b hb=> ?_⟩
 ·simp only[G.mn]at hb
  split at hb
  ·rename_i e;exact .inl e
  ·rcases Nat.lt_or_ge b w.heap.size with h' | h'
   ·exact .inr ⟨hb,h'⟩
   ·rw[h b h']at hb;cases hb
 ·simp at hb
  simp only[G.mn]
  rw[if_neg (by omega)];exact h b (by omega)
theorem Ju.step {r:Nat} {w0:World} {g0:G} (h:Ju r w0 g0 w g) (f:Fr w g w' g'):Ju r w0 g0 w' g':=by
 refine⟨f.os.trans h.os,f.tape.trans h.tape,f.output.trans h.output,Nat.le_trans h.size f.size,h.rs,fun b hb ht=> ?_,fun b hb ht=> ?_,fun b hb=> ?_,f.fresh⟩
 ·obtain⟨e1,e2⟩:=h.free b hb ht
  obtain⟨k1,k2⟩:=f.free b (Nat.lt_of_lt_of_le hb h.size) e1
  exact⟨k1,k2.trans e2⟩
 ·obtain⟨e1,e2⟩:=h.out b hb ht
  obtain⟨k1,k2⟩:=f.out b (Nat.lt_of_lt_of_le hb h.size) e1
  exact⟨k1,k2.trans e2⟩
 ·exact h.lU b (f.lU b hb).1
theorem Ju.WC {r:Nat} {w0:World} {g0:G} (h:Ju r w0 g0 w g) {w1:World} (hw:w1=w∨w1=w.drew) (ob:Obj):Ju r w0 g0 (setBlock w1 r ob) g:=by
 have hh:w1.heap=w.heap:=by rcases hw with rfl | rfl<;>rfl
 have tO:∀b,b≠r→(setBlock w1 r ob).heap[b]? =w.heap[b]? :=fun b hb=>by
  simp only[setBlock,hh]
  rw[Array.getElem?_setIfInBounds,if_neg (Ne.symm hb)]
 have Hl:=h.rs
 refine⟨?_, ?_, ?_,by simpa[setBlock,hh]using h.size,h.rs,fun b hb ht=> ?_,fun b hb ht=> ?_,h.lU,fun b hb=>h.fresh b (by simpa[setBlock,hh]using hb)⟩
 ·rcases hw with rfl | rfl<;>exact h.os
 ·rcases hw with rfl | rfl<;>exact h.tape
 ·rcases hw with rfl | rfl<;>exact h.output
 ·obtain⟨e1,e2⟩:=h.free b hb ht
  exact⟨e1,(tO b (by omega)).trans e2⟩
 ·obtain⟨e1,e2⟩:=h.out b hb ht
  exact⟨e1,(tO b (by omega)).trans e2⟩
theorem Ju.stop {r:Nat} {w0:World} {g0:G} (h:Ju r w0 g0 w g):Fr w0 g0 w (g.mZ r):=by
 have Hl:=h.rs
 refine⟨h.os,h.tape,h.output,h.size,fun b hb ht=> ?_,fun b hb ht=> ?_,fun b hb=> ?_,fun b hb=> ?_⟩
 ·obtain⟨e1,e2⟩:=h.free b hb ht
  exact⟨by simp only[G.mZ];rw[if_neg (by omega)];exact e1,e2⟩
 ·obtain⟨e1,e2⟩:=h.out b hb ht
  exact⟨by simp only[G.mZ];rw[if_neg (by omega)];exact e1,e2⟩
 ·simp only[G.mZ]at hb
  split at hb
  ·cases hb
  ·rename_i dc
   rcases h.lU b hb with rfl | h1
   ·exact absurd rfl dc
   ·exact h1
 ·simp only[G.mZ];split
  ·rfl
  ·exact h.fresh b hb
end
end Go.V
namespace Go.V
open Go.Proofs
open Go.ChangeMaps (setBlock)
abbrev vk (n:PV):PV:= .agg [n.cell 0,n.cell 1,n.cell 2]
abbrev xQ (call:aw) (n:PV):=call 50 [.pv (.st 25) (vk n)]
abbrev pe (call:aw) (n:PV):=call 51 [.pv (.st 25) (vk n), .pv (.int .i64) (.int .i64 1)]
abbrev HG:AO:= .box 102 [.map 9 55 [] [], .map 9 4 [] [], .pv .bool (.bool false)]
abbrev N3 (ks vs ss ts:List PV) (bad:PV):AO:= .box 102 [.map 9 55 ks vs, .map 9 4 ss ts, .pv .bool bad]
abbrev jD (ks vs ss ts:List PV) (bad:PV):AO:= .box 102 [.pv (.mp 9 55) (.mp ks vs), .pv (.mp 9 4) (.mp ss ts), .pv .bool bad]
abbrev pN (call:aw) (n:PV):=call 52 [HG, .pv (.st 25) (vk n)]
def na (ks vs ss:List PV):Bool:=ss.any fun p=>(cI .str p ks vs).isSome
def pf (call:aw) (n:PV) (b:Bool):Prop:=
 ab (.int .i64) (xQ call n)=true∧
 (
  (2000<(aa (xQ call n)).toInt∧b=false)∨
  (¬2000<(aa (xQ call n)).toInt∧ab .bool (pe call n)=true∧
   (
    ((aa (pe call n)).toBool=false∧b=false)∨
    ((aa (pe call n)).toBool=true∧∃ks vs ss ts bad,pN call n=some ([],[N3 ks vs ss ts bad])∧b=(!na ks vs ss&& !bad.toBool)))))
noncomputable abbrev Bu:Code:=yz Try.prog 40
def fu.KS:List (Nat×AV)→Nat→AV
 | [],_=> .dead
 | (k,v)::r,i=>bif Nat.beq k i then v else KS r i
def fu (l:List (Nat×AV)):St:=(List.range 46).map fun i=>(fu.KS l i)
abbrev vN (n:PV):Nat×AV:=(1, .o (.box 25 [.pv (.int .i64) (n.cell 0), .pv (.sl 55) (n.cell 1), .pv (.sl 3) (n.cell 2)]))
abbrev vF:Nat×AV:=(2, .o (.pv .bool (.bool false)))
noncomputable def r5:Array Oper:=match dQ [.b, .b, .b, .b, .a, .a] Bu with | .region _ o _=>o | _=> #[]
noncomputable def r6:Array Oper:=match dQ [.b, .b, .b, .b, .a, .b, .aD, .lp 0, .a] Bu with | .region _ o _=>o | _=> #[]
noncomputable def r7:Array Oper:=match dQ [.b, .b, .b, .b, .a, .b, .aD, .lp 0, .b, .b, .aD, .a] Bu with | .region _ o _=>o | _=> #[]
noncomputable abbrev cH:Code:=dQ [.b, .b, .b, .b, .a, .b, .aD, .lp 0, .b, .b, .aD, .b] Bu
theorem Q6:Bu= .seq (dQ [.a] Bu) (.seq (dQ [.b, .a] Bu) (.seq (dQ [.b, .b, .a] Bu) (.seq (dQ [.b, .b, .b, .a] Bu)
  (.seq (.seq (.region 5 r5 false) (.block 0 (.loop (.seq (.region 6 r6 false) (.seq (.cond (.tmp 28) .skip (.exit 0)) (.block 1 (.seq (.region 7 r7 false) cH))))))) (dQ [.b, .b, .b, .b, .b] Bu))))):=by kernel_rfl
section
variable {call:aw} {K:Ex→St→R} {k:Nat}
theorem evA (n:PV):nK Try.prog call (fun _=>none) kY 46 k (dQ [.a] Bu) (entry 46 [.pv (.st 25) n]) (fun e s=>K e (db (some [1,2]) s))=K .normal (fu [vN n,vF]):=by kernel_rfl
theorem WD (n:PV):nK Try.prog call (fun _=>none) kY 46 k (dQ [.b, .a] Bu) (fu [vN n,vF]) (fun e s=>K e (db (some [1,2]) s))=
  bif ab (.int .i64) (xQ call n)then
   bif decide (2000<(aa (xQ call n)).toInt)then K .ret (fu [vN n,vF])
   else bif ab .bool (pe call n)then
    bif !(aa (pe call n)).toBool then K .ret (fu [vN n,vF])else K .normal (fu [vN n,vF])
   else none
  else none:=by kernel_rfl
theorem WE (n:PV):nK Try.prog call (fun _=>none) kY 46 k (dQ [.b, .b, .a] Bu) (fu [vN n,vF]) (fun e s=>K e (db (some [1,2,3]) s))=K .normal (fu [vN n,vF,(3, .o HG)]):=by kernel_rfl
theorem evD (n:PV):nK Try.prog call (fun _=>none) kY 46 k (dQ [.b, .b, .b, .a] Bu) (fu [vN n,vF,(3, .o HG)]) (fun e s=>K e (db (some [2,3]) s))=
  bif eG [HG] (pN call n)&&kI (pN call n) [HG] 0 then
   bif cc [] (pN call n)then
    K .normal (fu [vF,(3, .o (N3 (rP (ch (bD 0 (pN call n)) 0)) (rQ (ch (bD 0 (pN call n)) 0)) (rP (ch (bD 0 (pN call n)) 1)) (rQ (ch (bD 0 (pN call n)) 1)) (ux (ch (bD 0 (pN call n)) 2))))])
   else none
  else none:=by kernel_rfl
theorem evE (ks vs ss ts:List PV) (bad:PV) (K:St→R):gu Try.prog call 46 r5 [0,1,2,3] (fu [vF,(3, .o (jD ks vs ss ts bad))]) (fun s=>K (db (some [2,3,25]) s))=K (fu [vF,(3, .o (jD ks vs ss ts bad)),(25, .o (.pv (.mp 9 4) (.mp ss ts)))]):=by kernel_rfl
theorem WG (ks vs ss ts:List PV) (bad q:PV) (u:Value) (K:St→R):gu Try.prog call 46 r6 [1] (fu [vF,(3, .o (jD ks vs ss ts bad)),(26, .fix u),(27, .jg [.pv .bool q])]) (fun s=>K (db (some [2,3,26,28]) s))=K (fu [vF,(3, .o (jD ks vs ss ts bad)),(26, .fix u),(28, .o (.pv .bool q))]):=by kernel_rfl
theorem Tp (ks vs ss ts:List PV) (bad q p v:PV) (u:Value) (K:St→R):gu Try.prog call 46 r6 [1] (fu [vF,(3, .o (jD ks vs ss ts bad)),(26, .fix u),(27, .jg [.pv .bool q, .pv .str p, .pv .bool v])]) (fun s=>K (db (some [2,3,26,28]) s))=K (fu [vF,(3, .o (jD ks vs ss ts bad)),(26, .fix u),(28, .o (.pv .bool q))]):=by kernel_rfl
theorem Tq (ks vs ss ts:List PV) (bad q:PV) (u:Value):nK Try.prog call (fun _=>none) kY 46 k (.cond (.tmp 28) .skip (.exit 0)) (fu [vF,(3, .o (jD ks vs ss ts bad)),(26, .fix u),(28, .o (.pv .bool q))]) (fun e s=>K e (db (some [2,3,26]) s))=
  bif q.toBool then K .normal (fu [vF,(3, .o (jD ks vs ss ts bad)),(26, .fix u)])else K (.exit 0) (fu [vF,(3, .o (jD ks vs ss ts bad)),(26, .fix u)]):=by kernel_rfl
theorem WH (ks vs ss ts:List PV) (bad p v:PV) (u:Value) (K:St→R):gu Try.prog call 46 r7 [1,2] (fu [vF,(3, .o (jD ks vs ss ts bad)),(26, .fix u),(29, .jg [.pv .str p, .pv .bool v])]) (fun s=>K (db (some [2,3,4,26]) s))=K (fu [vF,(3, .o (jD ks vs ss ts bad)),(26, .fix u),(4, .o (.pv .str p))]):=by kernel_rfl
theorem Tr (ks vs ss ts:List PV) (bad p:PV) (u:Value):nK Try.prog call (fun _=>none) kY 46 k cH (fu [vF,(3, .o (jD ks vs ss ts bad)),(26, .fix u),(4, .o (.pv .str p))]) (fun e s=>K e (db (some [2,3,26]) s))=
  bif (cI .str p ks vs).isSome then K .ret (fu [vF,(3, .o (jD ks vs ss ts bad)),(26, .fix u)])else K .normal (fu [vF,(3, .o (jD ks vs ss ts bad)),(26, .fix u)]):=by kernel_rfl
theorem evI (ks vs ss ts:List PV) (bad:PV) (u:Value):nK Try.prog call (fun _=>none) kY 46 k (dQ [.b, .b, .b, .b, .b] Bu) (fu [vF,(3, .o (jD ks vs ss ts bad)),(26, .fix u)]) (fun e s=>K e (db (some [2,3,26]) s))=
  K .ret (fu [(2, .o (.pv .bool (.bool (!bad.toBool)))),(3, .o (jD ks vs ss ts bad)),(26, .fix u)]):=by kernel_rfl
end
end Go.V
namespace Go.V
open Go.Proofs
open Go.ChangeMaps (setBlock)
section
variable {call:aw} {a:Act} {hv:List Value} {w:World} {g:G} {Q:Exit→Act→World→Prop}
abbrev Q7 (ks vs ss ts:List PV) (bad:PV) (u:Value):St:=fu [vF,(3, .o (jD ks vs ss ts bad)),(26, .fix u)]
theorem KT:∃o,r6[0]? =some o∧o.op= .next (.tmp 26) false∧o.dst=some 27∧o.guard=none:=⟨r6.getD 0 default,by kernel_rfl,by kernel_rfl,by kernel_rfl,by kernel_rfl⟩
theorem HH:∃o,r7[0]? =some o∧o.op= .entry (.tmp 26)∧o.dst=some 29∧o.guard=none:=⟨r7.getD 0 default,by kernel_rfl,by kernel_rfl,by kernel_rfl,by kernel_rfl⟩
theorem HI:∃o,r5[4]? =some o∧o.op= .range 100 (.tmp 25)∧o.dst=some 26∧o.guard=none:=⟨r5.getD 4 default,by kernel_rfl,by kernel_rfl,by kernel_rfl,by kernel_rfl⟩
theorem KU:Try.prog.underlying 100=some (.map 9 4):=by kernel_rfl
theorem ty9:ai Try.prog 9= .str:=by kernel_rfl
theorem ty4:ai Try.prog 4= .bool:=by kernel_rfl
theorem pg {P:Program} {ops:Array Oper} {Q:Exit→Act→World→Prop} {i:Nat} {l:List Nat} {o:Oper} {v:Value} {w':World} (ho:ops[i]? =some o) (hg:o.guard=none) (ba:(execOp a.eval o).run P w= .ok (.value v) w')
  (h:wpOps P ops Q l (a.put o.dst v) w'):wpOps P ops Q (i::l) a w:=by
 simp only[wpOps,ho]
 rw[if_pos (lh hg _)]
 left
 unfold Oper.wp
 rw[ba]
 exact h
structure Pm (ks vs ss ts:List PV) (bad:PV) (hv:List Value) (w0:World) (g0:G) (r bm:Nat) (es:Array MapEntry) (clock:Nat) (a:Act) (w:World) (g:G) (seen:Array Nat):Prop where
 N4:Good Try.prog 46 (Q7 ks vs ss ts bad (.pointer (some ⟨r,0,none⟩))) a hv w g
 fr:Ju r w0 g0 w g
 U5:w.heap[r]? =some (.mapIter (some bm) clock seen clock)
 tag:g.tag r= .out
 mp:w.heap[bm]? =some (.map es clock)
 KV:g.tag bm= .free
 Tt:∀(i:Nat) (en:MapEntry) (x:PV),es[i]? =some en→ss[i]? =some x→seen.contains en.born=true→(cI .str x ks vs).isSome=false
 fZ:∀(i:Nat) (en:MapEntry) (x v:PV),es[i]? =some en→ss[i]? =some x→ts[i]? =some v→aV Try.prog w g .str x en.key∧aV Try.prog w g .bool v en.val
theorem KW {st:St} {P:Program} {u:Value} (h:Good P 46 st a hv w g) (hg:get st 26= .fix u):a.eval (.tmp 26)=u:=by
 have hs:=h.cb (by decide:26<46) hg
 generalize a.eval (.tmp 26)=v at hs
 cases hs;rfl
theorem qh {r bm:Nat} {o1 o2:Obj} {w':World} {g':G} (hf:Fr w g w' g') (h1:w.heap[r]? =some o1) (t1:g.tag r= .out) (h2:w.heap[bm]? =some o2) (t2:g.tag bm= .free):
  w'.heap[r]? =some o1∧g'.tag r= .out∧w'.heap[bm]? =some o2∧g'.tag bm= .free:=by
 obtain⟨a1,a2⟩:=hf.out r (bT h1) t1
 obtain⟨b1,b2⟩:=hf.free bm (bT h2) t2
 exact⟨a2.trans h1,a1,b2.trans h2,b1⟩
theorem vl {es:Array MapEntry} {seen:Array Nat} {en:MapEntry} (h:en∈(leftOf es seen).toList):en∈es.toList∧seen.contains en.born=false:=by
 unfold leftOf at h
 simp only[Array.toList_filter,List.mem_filter,Bool.not_eq_true']at h
 exact h
theorem DQ {es:Array MapEntry} {seen:Array Nat} (h:(leftOf es seen).size=0) {i:Nat} {en:MapEntry} (hi:es[i]? =some en):seen.contains en.born=true:=by
 cases hc:seen.contains en.born with
 | true=>rfl
 | false=>
  have:en∈leftOf es seen:=by
   unfold leftOf
   rw[Array.mem_filter]
   exact⟨Array.mem_of_getElem? hi,by rw[hc];rfl⟩
  rw[Array.eq_empty_of_size_eq_zero h]at this
  simp at this
theorem Bv {es:Array MapEntry} {seen:Array Nat} {en:MapEntry} (hm:en∈(leftOf es seen).toList):(leftOf es (seen.push en.born)).size<(leftOf es seen).size:=by
 obtain⟨h1,h2⟩:=vl hm
 have e:∀s:Array Nat,(leftOf es s).size=(es.toList.filter fun e=> !s.contains e.born).length:=fun s=>by
  have:(leftOf es s).toList=es.toList.filter fun e=> !s.contains e.born:=by unfold leftOf;exact Array.toList_filter
  rw[←this,Array.length_toList]
 rw[e,e]
 refine Go.filter_lt _ _ (fun x hx=> ?_) en (by rw[h2];rfl) (by simp) _ h1
 simp only[Bool.not_eq_true',Array.contains_push,Bool.or_eq_false_iff]at hx ⊢
 exact hx.1
theorem DR (bu:ct Try.prog call) {ks vs ss ts:List PV} {bad:PV} {w0:World} {g0:G} {r bm:Nat} {es:Array MapEntry} {clock:Nat} (jw:mM es clock)
  (hlen:ss.length=es.size) (YJ:ts.length=es.size) {seen:Array Nat} (h:Pm ks vs ss ts bad hv w0 g0 r bm es clock a w g seen)
  (N5:∀a' w' g',Good Try.prog 46 (Q7 ks vs ss ts bad (.pointer (some ⟨r,0,none⟩))) a' hv w' g'→Fr w0 g0 w' g'→na ks vs ss=false→Q .normal a' w')
  (WI:∀a' w' g',Good Try.prog 46 (Q7 ks vs ss ts bad (.pointer (some ⟨r,0,none⟩))) a' hv w' g'→Fr w0 g0 w' g'→na ks vs ss=true→Q .ret a' w'):
  (Code.block 0 (.loop (.seq (.region 6 r6 false) (.seq (.cond (.tmp 28) .skip (.exit 0)) (.block 1 (.seq (.region 7 r7 false) cH)))))).wp Try.prog Q a w:=by
 refine wp_block ?_
 refine wp_loop (fun a w=>∃g seen,Pm ks vs ss ts bad hv w0 g0 r bm es clock a w g seen) (fun a w=>(leftOf es (w.iterSeen r)).size) ⟨g,seen,h⟩ ?_
 rintro a w ⟨g,seen,hI⟩
 refine wp_seq ?_
 obtain⟨o6,YK,WJ,YL,YM⟩:=KT
 have WK:List.range r6.size=[0,1]:=by kernel_rfl
 refine wp_region ?_
 rw[WK]
 have hit:=KW hI.N4 rfl
 have Pn:∀v w',(Instr.next (.pointer (some ⟨r,0,none⟩)) false o6.type).run Try.prog w= .ok v w'→(execOp a.eval o6).run Try.prog w= .ok (.value v) w':=by
  intro v w' hr
  simp only[execOp,WJ,Sem.run_bind,hit,hr,Result.andThen_ok,Sem.run_pure]
 have hN:(27:Nat)<46:=by decide
 have Tu:w.iterSeen r=seen:=by unfold World.iterSeen;rw[hI.U5]
 rcases run_next_at (P:=Try.prog) w o6.type r bm clock clock seen es clock hI.U5 hI.mp jw.1 (Nat.le_refl _)with ⟨h0,hr⟩ | ⟨en,gL,w1,Tv,hr⟩
 ·
  refine pg YK YM (Pn _ _ hr) ?_
  rw[YL]
  have G1:=hI.N4.put hN (uB.refl w g (some 27) hI.N4.inv.fresh) (.jg [.pv .bool (.bool false)] [.bool false] rfl (fun i x v hx hv=>by
   cases i with
   | zero=>simp at hx hv;subst hx hv;exact⟨.bool, .bool false,rfl, .bool false⟩
   | succ i=>simp at hx))
  refine q7 (l:=[1]) (l':=[]) bu (aZ:=fu [vF,(3, .o (jD ks vs ss ts bad)),(26, .fix (.pointer (some ⟨r,0,none⟩))),(28, .o (.pv .bool (.bool false)))])
   (G1:Good Try.prog 46 (fu [vF,(3, .o (jD ks vs ss ts bad)),(26, .fix (.pointer (some ⟨r,0,none⟩))),(27, .jg [.pv .bool (.bool false)])]) _ hv w g) [2,3,26,28] (WG ks vs ss ts bad (.bool false) _) (fun a2 w2 g2 G2 F2=> ?_)
  simp only[wpOps]
  show((Code.cond _ _ _).seq _).wp _ _ _ _
  refine wp_seq ?_
  refine kR bu G2 [2,3,26] (.exit 0) (n:=0) (fun K=>Tq ks vs ss ts bad (.bool false) _) (fun a3 w3 g3 G3 F3=> ?_)
  show(if(0:Nat)=0 then Q .normal a3 w3 else Q (.exit 0) a3 w3)
  rw[if_pos rfl]
  obtain⟨k1,k2,k3,k4⟩:=qh F2 hI.U5 hI.tag hI.mp hI.KV
  obtain⟨l1,l2,l3,l4⟩:=qh F3 k1 k2 k3 k4
  refine N5 a3 w3 _ (vj G3 l2) ((hI.fr.step F2).step F3).stop ?_
  unfold na
  rw[List.any_eq_false]
  intro x hx
  obtain⟨i,hi⟩:=List.getElem?_of_mem hx
  have FB:i<es.size:=by rw[←hlen];exact(List.getElem?_eq_some_iff.1 hi).1
  have he:=Array.getElem?_eq_getElem FB
  rw[hI.Tt i _ x he hi (DQ h0 he)]
  simp
 ·
  refine pg YK YM (Pn _ _ hr) ?_
  rw[YL]
  obtain⟨YN,wL⟩:=vl gL
  obtain⟨i,hi⟩:=List.getElem?_of_mem YN
  have Hh:es[i]? =some en:=by simpa using hi
  have FB:i<es.size:=(Array.getElem?_eq_some_iff.1 Hh).1
  have Dm:=List.getElem?_eq_getElem (show i<ss.length by omega)
  have AE:=List.getElem?_eq_getElem (show i<ts.length by omega)
  generalize ss[i]=x at Dm
  generalize ts[i]=v at AE
  obtain⟨rx,rv⟩:=hI.fZ i en x v Hh Dm AE
  have WL:bm≠r:=by
   rintro rfl
   have h1:=hI.KV
   rw[hI.tag]at h1;cases h1
  have G0:=HF hI.N4 Tv hI.tag (.mapIter (some bm) clock (seen.push en.born) clock)
  have F0:=hI.fr.WC Tv (.mapIter (some bm) clock (seen.push en.born) clock)
  have WM:w1.heap=w.heap:=by rcases Tv with rfl | rfl<;>rfl
  generalize WN:setBlock w1 r (.mapIter (some bm) clock (seen.push en.born) clock)=wz at G0 F0
  have tO:∀b,b≠r→wz.heap[b]? =w.heap[b]? :=fun b hb=>by
   rw[←WN]
   simp only[setBlock,WM]
   rw[Array.getElem?_setIfInBounds,if_neg (Ne.symm hb)]
  have WO:wz.heap[r]? =some (.mapIter (some bm) clock (seen.push en.born) clock):=by
   rw[←WN]
   simp only[setBlock,WM]
   rw[Array.getElem?_setIfInBounds,if_pos rfl,if_pos (bT hI.U5)]
  have WQ:wz.heap[bm]? =some (.map es clock):=(tO bm WL).trans hI.mp
  have gh:∀b,b<w.heap.size→g.tag b= .free→g.tag b= .free∧wz.heap[b]? =w.heap[b]? :=fun b hb ht=>⟨ht,tO b (by rintro rfl;rw[hI.tag]at ht;cases ht)⟩
  have Tw:w.heap.size≤wz.heap.size:=by rw[←WN];simp[setBlock,WM]
  have Po:∀(i:Nat) (en:MapEntry) (x v:PV),es[i]? =some en→ss[i]? =some x→ts[i]? =some v→aV Try.prog wz g .str x en.key∧aV Try.prog wz g .bool v en.val:=fun i en x v h1 h2 h3=>by
   obtain⟨q1,q2⟩:=hI.fZ i en x v h1 h2 h3
   exact⟨q1.ext Tw gh,q2.ext Tw gh⟩
  obtain⟨rxz,rvz⟩:=Po i en x v Hh Dm AE
  have G1:=G0.put hN (uB.refl wz g (some 27) G0.inv.fresh) (.jg [.pv .bool (.bool true), .pv .str x, .pv .bool v] [.bool true,en.key,en.val] rfl (fun j y u hy hu=>by
   match j with
   | 0=>simp at hy hu;subst hy hu;exact⟨.bool, .bool true,rfl, .bool true⟩
   | 1=>simp at hy hu;subst hy hu;exact⟨.str,x,rfl,rxz⟩
   | 2=>simp at hy hu;subst hy hu;exact⟨.bool,v,rfl,rvz⟩
   | j+3=>simp at hy))
  refine q7 (l:=[1]) (l':=[]) bu (aZ:=fu [vF,(3, .o (jD ks vs ss ts bad)),(26, .fix (.pointer (some ⟨r,0,none⟩))),(28, .o (.pv .bool (.bool true)))])
   (G1:Good Try.prog 46 (fu [vF,(3, .o (jD ks vs ss ts bad)),(26, .fix (.pointer (some ⟨r,0,none⟩))),(27, .jg [.pv .bool (.bool true), .pv .str x, .pv .bool v])]) _ hv wz g) [2,3,26,28] (Tp ks vs ss ts bad (.bool true) x v _) (fun a2 w2 g2 G2 F2=> ?_)
  simp only[wpOps]
  show((Code.cond _ _ _).seq _).wp _ _ _ _
  refine wp_seq ?_
  refine kR bu G2 [2,3,26] .normal (n:=0) (fun K=>Tq ks vs ss ts bad (.bool true) _) (fun a3 w3 g3 G3 F3=> ?_)
  show(Code.block 1 _).wp _ _ _ _
  obtain⟨k1,k2,k3,k4⟩:=qh F2 WO hI.tag WQ hI.KV
  obtain⟨l1,l2,l3,l4⟩:=qh F3 k1 k2 k3 k4
  have YO:=(F0.step F2).step F3
  have Pp:∀(i:Nat) (en:MapEntry) (x v:PV),es[i]? =some en→ss[i]? =some x→ts[i]? =some v→aV Try.prog w3 g3 .str x en.key∧aV Try.prog w3 g3 .bool v en.val:=fun i en x v h1 h2 h3=>by
   obtain⟨q1,q2⟩:=Po i en x v h1 h2 h3
   exact⟨(q1.ext F2.size F2.free).ext F3.size F3.free,(q2.ext F2.size F2.free).ext F3.size F3.free⟩
  obtain⟨rx3,rv3⟩:=Pp i en x v Hh Dm AE
  refine wp_block ?_
  refine wp_seq ?_
  obtain⟨o7,ho7,WR,hd7,hg7⟩:=HH
  have WS:List.range r7.size=[0,1,2]:=by kernel_rfl
  refine wp_region ?_
  rw[WS]
  have WU:=KW G3 rfl
  have Pj:=run_entry_at (P:=Try.prog) w3 r bm clock seen es clock en l1 l3 YN jw.2
  refine pg ho7 hg7 (v:= .tuple #[en.key,en.val]) (w':=w3) (by simp only[execOp,WR,Sem.run_bind,WU,Pj,Result.andThen_ok,Sem.run_pure]) ?_
  rw[hd7]
  have G4:=G3.put (by decide:29<46) (uB.refl w3 g3 (some 29) G3.inv.fresh) (.jg [.pv .str x, .pv .bool v] [en.key,en.val] rfl (fun j y u hy hu=>by
   match j with
   | 0=>simp at hy hu;subst hy hu;exact⟨.str,x,rfl,rx3⟩
   | 1=>simp at hy hu;subst hy hu;exact⟨.bool,v,rfl,rv3⟩
   | j+2=>simp at hy))
  refine q7 (l:=[1,2]) (l':=[]) bu (aZ:=fu [vF,(3, .o (jD ks vs ss ts bad)),(26, .fix (.pointer (some ⟨r,0,none⟩))),(4, .o (.pv .str x))])
   (G4:Good Try.prog 46 (fu [vF,(3, .o (jD ks vs ss ts bad)),(26, .fix (.pointer (some ⟨r,0,none⟩))),(29, .jg [.pv .str x, .pv .bool v])]) _ hv w3 g3) [2,3,4,26] (WH ks vs ss ts bad x v _) (fun a5 w5 g5 G5 F5=> ?_)
  simp only[wpOps]
  show cH.wp _ _ _ _
  obtain⟨m1,m2,m3,m4⟩:=qh F5 l1 l2 l3 l4
  cases U6:(cI .str x ks vs).isSome with
  | true=>
   refine kR bu G5 [2,3,26] .ret (n:=0) (aZ:=Q7 ks vs ss ts bad (.pointer (some ⟨r,0,none⟩))) (fun K=>by rw[Tr,U6];rfl) (fun a6 w6 g6 G6 F6=> ?_)
   obtain⟨n1,n2,n3,n4⟩:=qh F6 m1 m2 m3 m4
   refine WI a6 w6 _ (vj G6 n2) ((YO.step F5).step F6).stop ?_
   unfold na
   rw[List.any_eq_true]
   exact⟨x,List.mem_of_getElem? Dm,U6⟩
  | false=>
   refine kR bu G5 [2,3,26] .normal (n:=0) (aZ:=Q7 ks vs ss ts bad (.pointer (some ⟨r,0,none⟩))) (fun K=>by rw[Tr,U6];rfl) (fun a6 w6 g6 G6 F6=> ?_)
   obtain⟨n1,n2,n3,n4⟩:=qh F6 m1 m2 m3 m4
   refine⟨⟨g6,seen.push en.born,G6,(YO.step F5).step F6,n1,n2,n3,n4,fun j Nd y hj hy hs=> ?_,fun j Nd y u h1 h2 h3=> ?_⟩, ?_⟩
   ·rw[Array.contains_push,Bool.or_eq_true]at hs
    rcases hs with hs | hs
    ·exact hI.Tt j Nd y hj hy hs
    ·have hbe:Nd.born=en.born:=by simpa using hs
     have Ay:j=i:=by
      have Nl:=jw.2
      have e1:(es.toList.map (·.born))[j]? =some en.born:=by rw[List.getElem?_map,Array.getElem?_toList,hj];simp[hbe]
      have e2:(es.toList.map (·.born))[i]? =some en.born:=by rw[List.getElem?_map,Array.getElem?_toList,Hh];rfl
      have wK:j<(es.toList.map (·.born)).length:=(List.getElem?_eq_some_iff.1 e1).1
      exact(List.getElem?_inj wK Nl).1 (e1.trans e2.symm)
     subst Ay
     rw[Dm]at hy;cases hy
     exact U6
   ·obtain⟨q1,q2⟩:=Pp j Nd y u h1 h2 h3
    exact⟨(q1.ext F5.size F5.free).ext F6.size F6.free,(q2.ext F5.size F5.free).ext F6.size F6.free⟩
   ·rw[Tu]
    have:w6.iterSeen r=seen.push en.born:=by unfold World.iterSeen;rw[n1]
    rw[this]
    exact Bv gL
end
end Go.V
namespace Go.V
open Go.Proofs
section
variable {call:aw} {a:Act} {hv:List Value} {w:World} {g:G} {Q:Exit→Act→World→Prop}
theorem xR (n:PV):C8 Try.prog (funcOf Try.prog 40) .ret (fu [vN n,vF])=some ([.pv .bool (.bool false)],[]):=by kernel_rfl
theorem Tx (ks vs ss ts:List PV) (bad:PV) (u:Value):C8 Try.prog (funcOf Try.prog 40) .ret (Q7 ks vs ss ts bad u)=some ([.pv .bool (.bool false)],[]):=by kernel_rfl
theorem Tz (ks vs ss ts:List PV) (bad:PV) (u:Value):C8 Try.prog (funcOf Try.prog 40) .ret (fu [(2, .o (.pv .bool (.bool (!bad.toBool)))),(3, .o (jD ks vs ss ts bad)),(26, .fix u)])=some ([.pv .bool (.bool (!bad.toBool))],[]):=by kernel_rfl
theorem Ky (ks vs ss ts:List PV) (bad:PV):dk 3 [] 0 3 (fu [vF,(3, .o (N3 ks vs ss ts bad))])=fu [vF,(3, .o (jD ks vs ss ts bad))]:=by kernel_rfl
theorem TA (ks vs ss ts:List PV) (bad:PV) (u:Value):db (some [2,3,26]) (put 26 (.fix u) (fu [vF,(3, .o (jD ks vs ss ts bad)),(25, .o (.pv (.mp 9 4) (.mp ss ts)))]))=Q7 ks vs ss ts bad u:=by kernel_rfl
theorem Q8:List.range r5.size=[0,1,2,3]++[4]:=by kernel_rfl
theorem DS (bu:ct Try.prog call) {n:PV} {b:Bool} (bh:pf call n b) (h:Good Try.prog 46 (entry 46 [.pv (.st 25) n]) a hv w g)
  (hp:xL Try.prog 46 hv w g (C8 Try.prog (funcOf Try.prog 40)) ([.pv .bool (.bool b)],[]) Q):Bu.wp Try.prog Q a w:=by
 rw[Q6]
 refine wp_seq ?_
 refine kR bu h [1,2] .normal (n:=0) (fun K=>evA n) (fun a1 w1 g1 G1 F1=> ?_)
 show Code.wp _ _ _ _ _
 refine wp_seq ?_
 obtain⟨v1,v2⟩:=bh
 rcases v2 with ⟨v2,rfl⟩ | ⟨v2,v3,⟨v4,rfl⟩ | ⟨v4,ks,vs,ss,ts,bad,v5,hb⟩⟩
 ·refine kR bu G1 [1,2] .ret (n:=0) (fun K=>by rw[WD,v1,decide_eq_true v2];rfl) (fun a2 w2 g2 G2 F2=> ?_)
  exact hp .ret _ a2 w2 g2 G2 (F1.trans F2) (xR n)
 ·refine kR bu G1 [1,2] .ret (n:=0) (fun K=>by rw[WD,v1,decide_eq_false v2,v3,v4];rfl) (fun a2 w2 g2 G2 F2=> ?_)
  exact hp .ret _ a2 w2 g2 G2 (F1.trans F2) (xR n)
 refine kR bu G1 [1,2] .normal (n:=0) (fun K=>by rw[WD,v1,decide_eq_false v2,v3,v4];rfl) (fun a2 w2 g2 G2 F2=> ?_)
 show Code.wp _ _ _ _ _
 refine wp_seq ?_
 refine kR bu G2 [1,2,3] .normal (n:=0) (fun K=>WE n) (fun a3 w3 g3 G3 F3=> ?_)
 show Code.wp _ _ _ _ _
 refine wp_seq ?_
 refine kR bu G3 [2,3] .normal (n:=0) (aZ:=fu [vF,(3, .o (N3 ks vs ss ts bad))]) (fun K=>by rw[evD,v5];rfl) (fun a4 w4 g4 G4 F4=> ?_)
 show Code.wp _ _ _ _ _
 obtain⟨g5,G5,F5⟩:=dN 3 [] 3 0 _ g4 G4
 rw[Ky]at G5
 have YP:=(((F1.trans F2).trans F3).trans F4).trans F5
 refine wp_seq ?_
 refine wp_seq ?_
 refine wp_region ?_
 rw[Q8]
 refine q7 bu (l:=[0,1,2,3]) (l':=[4]) (aZ:=fu [vF,(3, .o (jD ks vs ss ts bad)),(25, .o (.pv (.mp 9 4) (.mp ss ts)))]) G5 [2,3,25] (evE ks vs ss ts bad) (fun a6 w6 g6 G6 F6=> ?_)
 obtain⟨o5,ho5,WV,hd5,hg5⟩:=HI
 have TB:=G6.cb (by decide:25<46) (z:= .o (.pv (.mp 9 4) (.mp ss ts))) rfl
 generalize hu:a6.eval (.tmp 25)=u at TB
 cases TB with
 | o _ _ eD fq=>
 have JU:=fq.eK
 rw[←eD (by simp)]at JU
 cases JU with
 | mp _ _ _ _ bm es clock hh ht hk J5 h1 h2=>
 have ba:=run_range_map (P:=Try.prog) w6 100 9 4 bm es clock KU hh
 refine pg ho5 hg5 (v:= .pointer (some ⟨w6.heap.size,0,none⟩)) (w':=w6.alloc (.mapIter (some bm) clock #[] clock)) (by simp only[execOp,WV,Sem.run_bind,hu,ba,Result.andThen_ok,Sem.run_pure]) ?_
 rw[hd5]
 have G7:=(HE G6 (by decide:26<46) (.mapIter (some bm) clock #[] clock) (.pointer (some ⟨w6.heap.size,0,none⟩))).db (some [2,3,26])
 rw[TA]at G7
 have FX:=Ju.start G6.inv.fresh (.mapIter (some bm) clock #[] clock)
 simp only[wpOps]
 show Code.wp _ _ _ _ _
 have U7:=bT hh
 have Be:∀b,b<w6.heap.size→g6.tag b= .free→(g6.mn w6.heap.size).tag b= .free∧(w6.alloc (.mapIter (some bm) clock #[] clock)).heap[b]? =w6.heap[b]? :=FX.free
 refine DR bu hk.2 (ks:=ks) (vs:=vs) (ss:=ss) (ts:=ts) (bad:=bad) hk.1 J5 ⟨G7,FX,heap_alloc_new w6 _,by simp[G.mn],(heap_alloc_old w6 _ U7).trans hh,(FX.free bm U7 ht).1,fun i en x he hx hc=>by simp at hc,fun i en x v he hx qH=>⟨?_, ?_⟩⟩ (fun a8 w8 g8 G8 F8 jW=> ?_) (fun a8 w8 g8 G8 F8 jW=> ?_)
 ·have:=(h1 i en x he hx).ext (w':=w6.alloc (.mapIter (some bm) clock #[] clock)) (g':=g6.mn w6.heap.size) (by simp) Be
  rwa[ty9]at this
 ·have:=(h2 i en v he qH).ext (w':=w6.alloc (.mapIter (some bm) clock #[] clock)) (g':=g6.mn w6.heap.size) (by simp) Be
  rwa[ty4]at this
 ·show Code.wp _ _ _ _ _
  refine kR bu G8 [2,3,26] .ret (n:=0) (fun K=>evI ks vs ss ts bad _) (fun a9 w9 g9 G9 F9=> ?_)
  refine hp .ret _ a9 w9 g9 G9 (((YP.trans F6).trans F8).trans F9) ?_
  rw[Tz,hb,jW];rfl
 ·refine hp .ret _ a8 w8 g8 G8 ((YP.trans F6).trans F8) ?_
  rw[Tx,hb,jW];rfl
theorem pf.uniq {n:PV} {b b':Bool} (h:pf call n b) (h':pf call n b'):b=b':=by
 obtain⟨h1,h2⟩:=h
 obtain⟨k1,k2⟩:=h'
 rcases h2 with ⟨h2,rfl⟩ | ⟨h2,h3,⟨h4,rfl⟩ | ⟨h4,ks,vs,ss,ts,bad,h5,rfl⟩⟩<;>rcases k2 with ⟨k2,rfl⟩ | ⟨k2,k3,⟨k4,rfl⟩ | ⟨k4,OT,rU,ss',ts',aaT,k5,rfl⟩⟩
 ·rfl
 ·rfl
 ·exact absurd h2 k2
 ·rfl
 ·rfl
 ·rw[h4]at k4;cases k4
 ·exact absurd k2 h2
 ·rw[h4]at k4;cases k4
 ·rw[h5]at k5
  simp only[Option.some.injEq,Prod.mk.injEq,List.cons.injEq,AO.box.injEq,AO.map.injEq,AO.pv.injEq,true_and,and_true]at k5
  obtain⟨⟨rfl,rfl⟩,⟨rfl,rfl⟩,rfl⟩:=k5
  rfl
def lu (H:FuncId→Nat→Option (List Nat)) (n:PV) (b:Bool):Prop:=∃K,∀k,K≤k→pf (JH Try.prog H k) n b
theorem lu.uniq {H:FuncId→Nat→Option (List Nat)} {n:PV} {b b':Bool} (h:lu H n b) (h':lu H n b'):b=b':=by
 obtain⟨K,h⟩:=h
 obtain⟨K',h'⟩:=h'
 exact(h (max K K') (Nat.le_max_left _ _)).uniq (h' (max K K') (Nat.le_max_right _ _))
open Classical in
noncomputable def kS (H:FuncId→Nat→Option (List Nat)):aw:=fun f az=>
 bif Nat.beq f 40 then
  match az with
  | [.pv t n]=>bif t.eq (.st 25)then(if h:∃b,lu H n b then some ([.pv .bool (.bool (Classical.choose h))],[])else none)else none
  | _=>none
 else none
theorem HJ {H:FuncId→Nat→Option (List Nat)} {n:PV} {b:Bool} (h:lu H n b):kS H 40 [.pv (.st 25) n]=some ([.pv .bool (.bool b)],[]):=by
 have hh:∃b,lu H n b:=⟨b,h⟩
 have:Classical.choose hh=b:=(Classical.choose_spec hh).uniq h
 classical
 show(if h:∃b,lu H n b then some (([.pv .bool (.bool (Classical.choose h))],[]):List AO×List AO)else none)=_
 rw[dif_pos hh,this]
theorem HK (H:FuncId→Nat→Option (List Nat)):ct Try.prog (kS H):=by
 refine⟨fun f az res back h bw w g dE fT NG p5=> ?_⟩
 unfold kS at h
 cases WW:Nat.beq f 40 with
 | false=>rw[WW]at h;cases h
 | true=>
  have:=Nat.eq_of_beq_eq_true WW
  subst this
  rw[WW]at h
  simp only[cond_true]at h
  split at h
  ·rename_i t n
   obtain⟨ht,h⟩:=bg h
   have:=Ty.iH ht
   subst this
   split at h
   ·rename_i hex
    cases h
    obtain⟨K,hK⟩:=Classical.choose_spec hex
    generalize Classical.choose hex=b at hK
    have hV:=hK K (Nat.le_refl _)
    have OW:Try.prog.funcs[40]? =some (funcOf Try.prog 40):=by kernel_rfl
    have FH:(funcOf Try.prog 40).body=some Bu:=by kernel_rfl
    have TC:(funcOf Try.prog 40).ntmps=46:=by kernel_rfl
    have KJ:=vf (N:=46) dE (by simp) fT NG
    refine .inl ⟨_,OW,by rw[FH];rfl, ?_,calls_of_wp OW FH (DS (xN Try.prog H K) hV (by rw[TC];exact KJ) ?_)⟩
    ·have:(funcOf Try.prog 40).name= "serinette/mesh.Valid" :=by kernel_rfl
     rw[this];decide
    ·intro e aZ a' w' g' hg hf hk
     cases e with
     | normal=>
      obtain⟨v,r1,r2⟩:=ku (fn:=funcOf Try.prog 40) fT (show Good Try.prog (funcOf Try.prog 40).ntmps aZ a' ((List.range (cr [.pv (.st 25) n])).map fun k=>g.val k []) w' g' by rw[TC];exact hg) (show Fr w (g.enter (funcOf Try.prog 40).ntmps bw) w' g' by rw[TC];exact hf) hk
      exact⟨hg.OO,v,r1,r2⟩
     | ret=>
      obtain⟨v,r1,r2⟩:=ku (fn:=funcOf Try.prog 40) fT (show Good Try.prog (funcOf Try.prog 40).ntmps aZ a' ((List.range (cr [.pv (.st 25) n])).map fun k=>g.val k []) w' g' by rw[TC];exact hg) (show Fr w (g.enter (funcOf Try.prog 40).ntmps bw) w' g' by rw[TC];exact hf) hk
      exact⟨hg.OO,v,r1,r2⟩
     | exit id=>cases hk
   ·cases h
  ·cases h
end
end Go.V
