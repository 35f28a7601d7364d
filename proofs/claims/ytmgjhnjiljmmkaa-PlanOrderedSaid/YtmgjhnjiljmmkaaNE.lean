/- mesh.Valid tells what r10.Valid tells, if mesh.order tells whether there is an order. Conditions: those that each theorem names. (Names are short so that the claim keeps to its size.) -/
import Derived.Test.YtmgjhnjiljmmkaaND
set_option linter.unusedSimpArgs false
set_option linter.unusedVariables false
set_option maxRecDepth 100000
namespace Go.V
open Go.Proofs
theorem bK {ns:List Node} {c:Nat} {en rs lim:Int} {len:Nat} (h:∀j:Nat,j<len→(ak j en|| ak j rs)=aj lim j):∀(l:List Int) (j:Nat),j+l.length=len→cT ns c en rs j l=bI ns c lim j l
 | [],j,_=>rfl
 | a::l,j,hj=>by
  rw[cT,bI,bK h l (j+1) (by simp at hj;omega)]
  congr 1
  unfold wc wa
  rw[h j (by simp at hj;omega)]
  have e:au (j:Int) lim= !aj lim (j:Int):=by
   cases hh:aj lim (j:Int)
   ·exact dF (jG hh)
   ·exact eg (gT hh)
  rw[e]
  by_cases ha:a<0
  ·rw[dF ha,ml (show a<(ns.length:Int)by omega)]
   by_cases h1:a= -1
   ·rw[lk h1,eg (show(-1:Int)≤a by omega)]
    cases aj lim (j:Int)<;>rfl
   ·rw[eE h1,dF (show a< -1 by omega)];rfl
  ·rw[eg (show(0:Int)≤a by omega),eE (show a≠ -1 by omega),eg (show(-1:Int)≤a by omega)]
   cases aj (ns.length:Int) a<;>cases (tQ ns a==Nat.beq c 46)<;>rfl
def cz (ins:Int) (ns:List Node) (x:Node):Bool:=
 bif Nat.beq (aF x.1.op) 43 then aj 0 x.1.n&&au x.1.n ins
 else bif Nat.beq (aF x.1.op) 46 then nm ns x.1
 else bif Nat.beq (aF x.1.op) 39 then ak (mC x.2) (x.1.args.length-2)
 else true
theorem cF {aA D N0 nn b ra pa pl r p fl:Bool} (hr:r=(aA&&(D&&(N0&&b)))) (hp:p=(nn&&(D&&b))) (hn:nn=N0) (hl:b=true→pl=(aA&&(pa&&true))) (ha:aA=true→ra=pa) (hf:fl=true):
  (r&&(ra&&fl))=(p&&pl):=by
 subst hr;subst hp;subst hn;subst hf
 cases b
 ·cases aA<;>cases D<;>cases nn<;>rfl
 ·rw[hl rfl]
  cases aA
  ·cases D<;>cases nn<;>rfl
  ·rw[ha rfl]
   cases D<;>cases nn<;>cases pa<;>rfl
theorem Al {aA N0 nn b e D fl RC ra pa pl r p:Bool} (hr:r=(aA&&(b&&(e&&N0)))) (hp:p=(nn&&(b&&D))) (hn:nn=N0) (hl:pl=(aA&&(pa&&RC))) (ha:aA=true→ra=pa) (hf:(e&&fl)=(D&&RC)):
  (r&&(ra&&fl))=(p&&pl):=by
 subst hr;subst hp;subst hn;subst hl
 cases aA
 ·cases b<;>cases e<;>cases nn<;>cases D<;>rfl
 ·rw[ha rfl]
  cases b<;>cases e<;>cases nn<;>cases D<;>cases pa<;>cases fl<;>cases RC<;>first | rfl | cases hf
theorem OA {ins:Int} {ns:List Node} {x:Node} (pq:aF x.1.op≠39):(aR x&&(cT ns (aF x.1.op) (cg (aF x.1.op) x.1.args.length).2.1 (cg (aF x.1.op) x.1.args.length).2.2.1 0 x.1.args&&cz ins ns x))=(aN ins x&&aG ns x):=by
 have hn:(!au 0 (x.2.length:Int))=ak (x.2.length:Int) 0:=T6 _
 have lf:ax x.1=true→(bif ax x.1 then((kU (aF x.1.op)).1,(0:Int))else(-1,0))=((kU (aF x.1.op)).1,0):=fun h=>by rw[h];rfl
 have al:∀ {A:Int},ak (x.1.args.length:Int) A=true→(x.1.args.length:Int)=A:=fun h=>dW h
 rcases Ae (lO x.1.op)with h | h | h | h | h | h | h | h | h | h | h | h | h | h | h | h | h | h | h | h | h | h | h | h | h | h | h | h | h | h | h | h | h | h | h | h | h | h | h | h | h | h | h | h | h | h | h | h
 ·have e1:aR x=false:=by unfold aR;rw[h];kernel_rfl
  have e2:aG ns x=false:=by
   have:bO x=(-1,0):=by unfold bO;rw[h];rfl
   unfold aG;rw[this,eE (show(x.1.args.length:Int)≠ -1 by omega)];rfl
  rw[e1,e2];simp
 ·have hF:=bt (x:=x.1) (by rw[h];decide)
  rw[h]at hF
  refine cF (aA:=ak (x.1.args.length:Int) 1) (D:=true) (N0:=ak (x.2.length:Int) 0) (b:=aJ x.1) (pa:=bI ns 1 1 0 x.1.args) ?_ ?_ hn (fun hb=> ?_) (fun ha=> ?_) ?_
  ·unfold aR;rw[h,hF];kernel_rfl
  ·unfold aN ax;rw[h];kernel_rfl
  ·have fy:ax x.1=true:=by unfold ax;rw[h,hb];rfl
   unfold aG bO;rw[fy,h];show _=_;kernel_rfl
  ·rw[h]
   have hA:=al ha
   refine bK (len:=1) (fun j hj=> ?_) _ 0 (by omega)
   match j,hj with
   | 0,_=>rfl
  ·unfold cz;rw[h];rfl
 ·have hF:=bt (x:=x.1) (by rw[h];decide)
  rw[h]at hF
  refine cF (aA:=ak (x.1.args.length:Int) 1) (D:=true) (N0:=ak (x.2.length:Int) 0) (b:=aJ x.1) (pa:=bI ns 2 1 0 x.1.args) ?_ ?_ hn (fun hb=> ?_) (fun ha=> ?_) ?_
  ·unfold aR;rw[h,hF];kernel_rfl
  ·unfold aN ax;rw[h];kernel_rfl
  ·have fy:ax x.1=true:=by unfold ax;rw[h,hb];rfl
   unfold aG bO;rw[fy,h];show _=_;kernel_rfl
  ·rw[h]
   have hA:=al ha
   refine bK (len:=1) (fun j hj=> ?_) _ 0 (by omega)
   match j,hj with
   | 0,_=>rfl
  ·unfold cz;rw[h];rfl
 ·have hF:=bt (x:=x.1) (by rw[h];decide)
  rw[h]at hF
  refine cF (aA:=ak (x.1.args.length:Int) 1) (D:=true) (N0:=ak (x.2.length:Int) 0) (b:=aJ x.1) (pa:=bI ns 3 1 0 x.1.args) ?_ ?_ hn (fun hb=> ?_) (fun ha=> ?_) ?_
  ·unfold aR;rw[h,hF];kernel_rfl
  ·unfold aN ax;rw[h];kernel_rfl
  ·have fy:ax x.1=true:=by unfold ax;rw[h,hb];rfl
   unfold aG bO;rw[fy,h];show _=_;kernel_rfl
  ·rw[h]
   have hA:=al ha
   refine bK (len:=1) (fun j hj=> ?_) _ 0 (by omega)
   match j,hj with
   | 0,_=>rfl
  ·unfold cz;rw[h];rfl
 ·have hF:=bt (x:=x.1) (by rw[h];decide)
  rw[h]at hF
  refine cF (aA:=ak (x.1.args.length:Int) 1) (D:=true) (N0:=ak (x.2.length:Int) 0) (b:=aJ x.1) (pa:=bI ns 4 1 0 x.1.args) ?_ ?_ hn (fun hb=> ?_) (fun ha=> ?_) ?_
  ·unfold aR;rw[h,hF];kernel_rfl
  ·unfold aN ax;rw[h];kernel_rfl
  ·have fy:ax x.1=true:=by unfold ax;rw[h,hb];rfl
   unfold aG bO;rw[fy,h];show _=_;kernel_rfl
  ·rw[h]
   have hA:=al ha
   refine bK (len:=1) (fun j hj=> ?_) _ 0 (by omega)
   match j,hj with
   | 0,_=>rfl
  ·unfold cz;rw[h];rfl
 ·have hF:=bt (x:=x.1) (by rw[h];decide)
  rw[h]at hF
  refine cF (aA:=ak (x.1.args.length:Int) 1) (D:=true) (N0:=ak (x.2.length:Int) 0) (b:=aJ x.1) (pa:=bI ns 5 1 0 x.1.args) ?_ ?_ hn (fun hb=> ?_) (fun ha=> ?_) ?_
  ·unfold aR;rw[h,hF];kernel_rfl
  ·unfold aN ax;rw[h];kernel_rfl
  ·have fy:ax x.1=true:=by unfold ax;rw[h,hb];rfl
   unfold aG bO;rw[fy,h];show _=_;kernel_rfl
  ·rw[h]
   have hA:=al ha
   refine bK (len:=1) (fun j hj=> ?_) _ 0 (by omega)
   match j,hj with
   | 0,_=>rfl
  ·unfold cz;rw[h];rfl
 ·have hF:=bt (x:=x.1) (by rw[h];decide)
  rw[h]at hF
  refine cF (aA:=ak (x.1.args.length:Int) 1) (D:=true) (N0:=ak (x.2.length:Int) 0) (b:=aJ x.1) (pa:=bI ns 6 1 0 x.1.args) ?_ ?_ hn (fun hb=> ?_) (fun ha=> ?_) ?_
  ·unfold aR;rw[h,hF];kernel_rfl
  ·unfold aN ax;rw[h];kernel_rfl
  ·have fy:ax x.1=true:=by unfold ax;rw[h,hb];rfl
   unfold aG bO;rw[fy,h];show _=_;kernel_rfl
  ·rw[h]
   have hA:=al ha
   refine bK (len:=1) (fun j hj=> ?_) _ 0 (by omega)
   match j,hj with
   | 0,_=>rfl
  ·unfold cz;rw[h];rfl
 ·have e1:aR x=false:=by unfold aR;rw[h];kernel_rfl
  have e2:aG ns x=false:=by
   have:bO x=(-1,0):=by unfold bO;rw[h];rfl
   unfold aG;rw[this,eE (show(x.1.args.length:Int)≠ -1 by omega)];rfl
  rw[e1,e2];simp
 ·have hF:=bt (x:=x.1) (by rw[h];decide)
  rw[h]at hF
  refine cF (aA:=ak (x.1.args.length:Int) 0) (D:=true) (N0:=ak (x.2.length:Int) 0) (b:=aJ x.1) (pa:=bI ns 8 0 0 x.1.args) ?_ ?_ hn (fun hb=> ?_) (fun ha=> ?_) ?_
  ·unfold aR;rw[h,hF];kernel_rfl
  ·unfold aN ax;rw[h];kernel_rfl
  ·unfold aG bO;rw[h];kernel_rfl
  ·rw[h]
   have hA:=al ha
   refine bK (len:=0) (fun j hj=> ?_) _ 0 (by omega)
   omega
  ·unfold cz;rw[h];rfl
 ·have hF:=bt (x:=x.1) (by rw[h];decide)
  rw[h]at hF
  refine cF (aA:=ak (x.1.args.length:Int) 2) (D:=true) (N0:=ak (x.2.length:Int) 0) (b:=aJ x.1) (pa:=bI ns 9 2 0 x.1.args) ?_ ?_ hn (fun hb=> ?_) (fun ha=> ?_) ?_
  ·unfold aR;rw[h,hF];kernel_rfl
  ·unfold aN ax;rw[h];kernel_rfl
  ·have fy:ax x.1=true:=by unfold ax;rw[h,hb];rfl
   unfold aG bO;rw[fy,h];show _=_;kernel_rfl
  ·rw[h]
   have hA:=al ha
   refine bK (len:=2) (fun j hj=> ?_) _ 0 (by omega)
   match j,hj with
   | 0,_=>rfl
   | 1,_=>rfl
  ·unfold cz;rw[h];rfl
 ·have hF:=bt (x:=x.1) (by rw[h];decide)
  rw[h]at hF
  refine cF (aA:=ak (x.1.args.length:Int) 2) (D:=true) (N0:=ak (x.2.length:Int) 0) (b:=aJ x.1) (pa:=bI ns 10 2 0 x.1.args) ?_ ?_ hn (fun hb=> ?_) (fun ha=> ?_) ?_
  ·unfold aR;rw[h,hF];kernel_rfl
  ·unfold aN ax;rw[h];kernel_rfl
  ·have fy:ax x.1=true:=by unfold ax;rw[h,hb];rfl
   unfold aG bO;rw[fy,h];show _=_;kernel_rfl
  ·rw[h]
   have hA:=al ha
   refine bK (len:=2) (fun j hj=> ?_) _ 0 (by omega)
   match j,hj with
   | 0,_=>rfl
   | 1,_=>rfl
  ·unfold cz;rw[h];rfl
 ·have hF:=bt (x:=x.1) (by rw[h];decide)
  rw[h]at hF
  refine cF (aA:=ak (x.1.args.length:Int) 2) (D:=true) (N0:=ak (x.2.length:Int) 0) (b:=aJ x.1) (pa:=bI ns 11 2 0 x.1.args) ?_ ?_ hn (fun hb=> ?_) (fun ha=> ?_) ?_
  ·unfold aR;rw[h,hF];kernel_rfl
  ·unfold aN ax;rw[h];kernel_rfl
  ·have fy:ax x.1=true:=by unfold ax;rw[h,hb];rfl
   unfold aG bO;rw[fy,h];show _=_;kernel_rfl
  ·rw[h]
   have hA:=al ha
   refine bK (len:=2) (fun j hj=> ?_) _ 0 (by omega)
   match j,hj with
   | 0,_=>rfl
   | 1,_=>rfl
  ·unfold cz;rw[h];rfl
 ·have hF:=bt (x:=x.1) (by rw[h];decide)
  rw[h]at hF
  refine cF (aA:=ak (x.1.args.length:Int) 2) (D:=true) (N0:=ak (x.2.length:Int) 0) (b:=aJ x.1) (pa:=bI ns 12 2 0 x.1.args) ?_ ?_ hn (fun hb=> ?_) (fun ha=> ?_) ?_
  ·unfold aR;rw[h,hF];kernel_rfl
  ·unfold aN ax;rw[h];kernel_rfl
  ·have fy:ax x.1=true:=by unfold ax;rw[h,hb];rfl
   unfold aG bO;rw[fy,h];show _=_;kernel_rfl
  ·rw[h]
   have hA:=al ha
   refine bK (len:=2) (fun j hj=> ?_) _ 0 (by omega)
   match j,hj with
   | 0,_=>rfl
   | 1,_=>rfl
  ·unfold cz;rw[h];rfl
 ·have hF:=bt (x:=x.1) (by rw[h];decide)
  rw[h]at hF
  refine cF (aA:=ak (x.1.args.length:Int) 2) (D:=true) (N0:=ak (x.2.length:Int) 0) (b:=aJ x.1) (pa:=bI ns 13 2 0 x.1.args) ?_ ?_ hn (fun hb=> ?_) (fun ha=> ?_) ?_
  ·unfold aR;rw[h,hF];kernel_rfl
  ·unfold aN ax;rw[h];kernel_rfl
  ·have fy:ax x.1=true:=by unfold ax;rw[h,hb];rfl
   unfold aG bO;rw[fy,h];show _=_;kernel_rfl
  ·rw[h]
   have hA:=al ha
   refine bK (len:=2) (fun j hj=> ?_) _ 0 (by omega)
   match j,hj with
   | 0,_=>rfl
   | 1,_=>rfl
  ·unfold cz;rw[h];rfl
 ·have hF:=bt (x:=x.1) (by rw[h];decide)
  rw[h]at hF
  refine cF (aA:=ak (x.1.args.length:Int) 2) (D:=true) (N0:=ak (x.2.length:Int) 0) (b:=aJ x.1) (pa:=bI ns 14 2 0 x.1.args) ?_ ?_ hn (fun hb=> ?_) (fun ha=> ?_) ?_
  ·unfold aR;rw[h,hF];kernel_rfl
  ·unfold aN ax;rw[h];kernel_rfl
  ·have fy:ax x.1=true:=by unfold ax;rw[h,hb];rfl
   unfold aG bO;rw[fy,h];show _=_;kernel_rfl
  ·rw[h]
   have hA:=al ha
   refine bK (len:=2) (fun j hj=> ?_) _ 0 (by omega)
   match j,hj with
   | 0,_=>rfl
   | 1,_=>rfl
  ·unfold cz;rw[h];rfl
 ·have hF:=bt (x:=x.1) (by rw[h];decide)
  rw[h]at hF
  refine cF (aA:=ak (x.1.args.length:Int) 2) (D:=true) (N0:=ak (x.2.length:Int) 0) (b:=aJ x.1) (pa:=bI ns 15 2 0 x.1.args) ?_ ?_ hn (fun hb=> ?_) (fun ha=> ?_) ?_
  ·unfold aR;rw[h,hF];kernel_rfl
  ·unfold aN ax;rw[h];kernel_rfl
  ·have fy:ax x.1=true:=by unfold ax;rw[h,hb];rfl
   unfold aG bO;rw[fy,h];show _=_;kernel_rfl
  ·rw[h]
   have hA:=al ha
   refine bK (len:=2) (fun j hj=> ?_) _ 0 (by omega)
   match j,hj with
   | 0,_=>rfl
   | 1,_=>rfl
  ·unfold cz;rw[h];rfl
 ·have hF:=bt (x:=x.1) (by rw[h];decide)
  rw[h]at hF
  refine cF (aA:=ak (x.1.args.length:Int) 2) (D:=true) (N0:=ak (x.2.length:Int) 0) (b:=aJ x.1) (pa:=bI ns 16 2 0 x.1.args) ?_ ?_ hn (fun hb=> ?_) (fun ha=> ?_) ?_
  ·unfold aR;rw[h,hF];kernel_rfl
  ·unfold aN ax;rw[h];kernel_rfl
  ·have fy:ax x.1=true:=by unfold ax;rw[h,hb];rfl
   unfold aG bO;rw[fy,h];show _=_;kernel_rfl
  ·rw[h]
   have hA:=al ha
   refine bK (len:=2) (fun j hj=> ?_) _ 0 (by omega)
   match j,hj with
   | 0,_=>rfl
   | 1,_=>rfl
  ·unfold cz;rw[h];rfl
 ·have hF:=bt (x:=x.1) (by rw[h];decide)
  rw[h]at hF
  refine cF (aA:=ak (x.1.args.length:Int) 2) (D:=true) (N0:=ak (x.2.length:Int) 0) (b:=aJ x.1) (pa:=bI ns 17 2 0 x.1.args) ?_ ?_ hn (fun hb=> ?_) (fun ha=> ?_) ?_
  ·unfold aR;rw[h,hF];kernel_rfl
  ·unfold aN ax;rw[h];kernel_rfl
  ·have fy:ax x.1=true:=by unfold ax;rw[h,hb];rfl
   unfold aG bO;rw[fy,h];show _=_;kernel_rfl
  ·rw[h]
   have hA:=al ha
   refine bK (len:=2) (fun j hj=> ?_) _ 0 (by omega)
   match j,hj with
   | 0,_=>rfl
   | 1,_=>rfl
  ·unfold cz;rw[h];rfl
 ·have hF:=bt (x:=x.1) (by rw[h];decide)
  rw[h]at hF
  refine cF (aA:=ak (x.1.args.length:Int) 2) (D:=true) (N0:=ak (x.2.length:Int) 0) (b:=aJ x.1) (pa:=bI ns 18 2 0 x.1.args) ?_ ?_ hn (fun hb=> ?_) (fun ha=> ?_) ?_
  ·unfold aR;rw[h,hF];kernel_rfl
  ·unfold aN ax;rw[h];kernel_rfl
  ·have fy:ax x.1=true:=by unfold ax;rw[h,hb];rfl
   unfold aG bO;rw[fy,h];show _=_;kernel_rfl
  ·rw[h]
   have hA:=al ha
   refine bK (len:=2) (fun j hj=> ?_) _ 0 (by omega)
   match j,hj with
   | 0,_=>rfl
   | 1,_=>rfl
  ·unfold cz;rw[h];rfl
 ·have hF:=bt (x:=x.1) (by rw[h];decide)
  rw[h]at hF
  refine cF (aA:=ak (x.1.args.length:Int) 2) (D:=true) (N0:=ak (x.2.length:Int) 0) (b:=aJ x.1) (pa:=bI ns 19 2 0 x.1.args) ?_ ?_ hn (fun hb=> ?_) (fun ha=> ?_) ?_
  ·unfold aR;rw[h,hF];kernel_rfl
  ·unfold aN ax;rw[h];kernel_rfl
  ·have fy:ax x.1=true:=by unfold ax;rw[h,hb];rfl
   unfold aG bO;rw[fy,h];show _=_;kernel_rfl
  ·rw[h]
   have hA:=al ha
   refine bK (len:=2) (fun j hj=> ?_) _ 0 (by omega)
   match j,hj with
   | 0,_=>rfl
   | 1,_=>rfl
  ·unfold cz;rw[h];rfl
 ·have hF:=bt (x:=x.1) (by rw[h];decide)
  rw[h]at hF
  refine cF (aA:=ak (x.1.args.length:Int) 2) (D:=true) (N0:=ak (x.2.length:Int) 0) (b:=aJ x.1) (pa:=bI ns 20 2 0 x.1.args) ?_ ?_ hn (fun hb=> ?_) (fun ha=> ?_) ?_
  ·unfold aR;rw[h,hF];kernel_rfl
  ·unfold aN ax;rw[h];kernel_rfl
  ·have fy:ax x.1=true:=by unfold ax;rw[h,hb];rfl
   unfold aG bO;rw[fy,h];show _=_;kernel_rfl
  ·rw[h]
   have hA:=al ha
   refine bK (len:=2) (fun j hj=> ?_) _ 0 (by omega)
   match j,hj with
   | 0,_=>rfl
   | 1,_=>rfl
  ·unfold cz;rw[h];rfl
 ·have hF:=bt (x:=x.1) (by rw[h];decide)
  rw[h]at hF
  refine cF (aA:=ak (x.1.args.length:Int) 2) (D:=true) (N0:=ak (x.2.length:Int) 0) (b:=aJ x.1) (pa:=bI ns 21 2 0 x.1.args) ?_ ?_ hn (fun hb=> ?_) (fun ha=> ?_) ?_
  ·unfold aR;rw[h,hF];kernel_rfl
  ·unfold aN ax;rw[h];kernel_rfl
  ·have fy:ax x.1=true:=by unfold ax;rw[h,hb];rfl
   unfold aG bO;rw[fy,h];show _=_;kernel_rfl
  ·rw[h]
   have hA:=al ha
   refine bK (len:=2) (fun j hj=> ?_) _ 0 (by omega)
   match j,hj with
   | 0,_=>rfl
   | 1,_=>rfl
  ·unfold cz;rw[h];rfl
 ·have hF:=bt (x:=x.1) (by rw[h];decide)
  rw[h]at hF
  refine cF (aA:=ak (x.1.args.length:Int) 2) (D:=true) (N0:=ak (x.2.length:Int) 0) (b:=aJ x.1) (pa:=bI ns 22 2 0 x.1.args) ?_ ?_ hn (fun hb=> ?_) (fun ha=> ?_) ?_
  ·unfold aR;rw[h,hF];kernel_rfl
  ·unfold aN ax;rw[h];kernel_rfl
  ·have fy:ax x.1=true:=by unfold ax;rw[h,hb];rfl
   unfold aG bO;rw[fy,h];show _=_;kernel_rfl
  ·rw[h]
   have hA:=al ha
   refine bK (len:=2) (fun j hj=> ?_) _ 0 (by omega)
   match j,hj with
   | 0,_=>rfl
   | 1,_=>rfl
  ·unfold cz;rw[h];rfl
 ·have hF:=bt (x:=x.1) (by rw[h];decide)
  rw[h]at hF
  refine cF (aA:=ak (x.1.args.length:Int) 2) (D:=true) (N0:=ak (x.2.length:Int) 0) (b:=aJ x.1) (pa:=bI ns 23 2 0 x.1.args) ?_ ?_ hn (fun hb=> ?_) (fun ha=> ?_) ?_
  ·unfold aR;rw[h,hF];kernel_rfl
  ·unfold aN ax;rw[h];kernel_rfl
  ·have fy:ax x.1=true:=by unfold ax;rw[h,hb];rfl
   unfold aG bO;rw[fy,h];show _=_;kernel_rfl
  ·rw[h]
   have hA:=al ha
   refine bK (len:=2) (fun j hj=> ?_) _ 0 (by omega)
   match j,hj with
   | 0,_=>rfl
   | 1,_=>rfl
  ·unfold cz;rw[h];rfl
 ·have hF:=bt (x:=x.1) (by rw[h];decide)
  rw[h]at hF
  refine cF (aA:=ak (x.1.args.length:Int) 2) (D:=true) (N0:=ak (x.2.length:Int) 0) (b:=aJ x.1) (pa:=bI ns 24 2 0 x.1.args) ?_ ?_ hn (fun hb=> ?_) (fun ha=> ?_) ?_
  ·unfold aR;rw[h,hF];kernel_rfl
  ·unfold aN ax;rw[h];kernel_rfl
  ·have fy:ax x.1=true:=by unfold ax;rw[h,hb];rfl
   unfold aG bO;rw[fy,h];show _=_;kernel_rfl
  ·rw[h]
   have hA:=al ha
   refine bK (len:=2) (fun j hj=> ?_) _ 0 (by omega)
   match j,hj with
   | 0,_=>rfl
   | 1,_=>rfl
  ·unfold cz;rw[h];rfl
 ·have hF:=bt (x:=x.1) (by rw[h];decide)
  rw[h]at hF
  refine cF (aA:=ak (x.1.args.length:Int) 3) (D:=true) (N0:=ak (x.2.length:Int) 0) (b:=aJ x.1) (pa:=bI ns 25 3 0 x.1.args) ?_ ?_ hn (fun hb=> ?_) (fun ha=> ?_) ?_
  ·unfold aR;rw[h,hF];kernel_rfl
  ·unfold aN ax;rw[h];kernel_rfl
  ·have fy:ax x.1=true:=by unfold ax;rw[h,hb];rfl
   unfold aG bO;rw[fy,h];show _=_;kernel_rfl
  ·rw[h]
   have hA:=al ha
   refine bK (len:=3) (fun j hj=> ?_) _ 0 (by omega)
   match j,hj with
   | 0,_=>rfl
   | 1,_=>rfl
   | 2,_=>rfl
  ·unfold cz;rw[h];rfl
 ·have hF:=bt (x:=x.1) (by rw[h];decide)
  rw[h]at hF
  refine cF (aA:=ak (x.1.args.length:Int) 1) (D:=true) (N0:=ak (x.2.length:Int) 0) (b:=aJ x.1) (pa:=bI ns 26 1 0 x.1.args) ?_ ?_ hn (fun hb=> ?_) (fun ha=> ?_) ?_
  ·unfold aR;rw[h,hF];kernel_rfl
  ·unfold aN ax;rw[h];kernel_rfl
  ·have fy:ax x.1=true:=by unfold ax;rw[h,hb];rfl
   unfold aG bO;rw[fy,h];show _=_;kernel_rfl
  ·rw[h]
   have hA:=al ha
   refine bK (len:=1) (fun j hj=> ?_) _ 0 (by omega)
   match j,hj with
   | 0,_=>rfl
  ·unfold cz;rw[h];rfl
 ·have hF:=bt (x:=x.1) (by rw[h];decide)
  rw[h]at hF
  refine cF (aA:=ak (x.1.args.length:Int) 3) (D:=(!au x.1.n 1)) (N0:=ak (x.2.length:Int) 0) (b:=aJ x.1) (pa:=bI ns 27 1 0 x.1.args) ?_ ?_ hn (fun hb=> ?_) (fun ha=> ?_) ?_
  ·unfold aR;rw[h,hF];kernel_rfl
  ·unfold aN ax;rw[h];kernel_rfl
  ·unfold aG bO;rw[h];kernel_rfl
  ·rw[h]
   have hA:=al ha
   refine bK (len:=3) (fun j hj=> ?_) _ 0 (by omega)
   match j,hj with
   | 0,_=>rfl
   | 1,_=>rfl
   | 2,_=>rfl
  ·unfold cz;rw[h];rfl
 ·have hF:=bt (x:=x.1) (by rw[h];decide)
  rw[h]at hF
  refine cF (aA:=ak (x.1.args.length:Int) 4) (D:=true) (N0:=ak (x.2.length:Int) 0) (b:=aJ x.1) (pa:=bI ns 28 2 0 x.1.args) ?_ ?_ hn (fun hb=> ?_) (fun ha=> ?_) ?_
  ·unfold aR;rw[h,hF];kernel_rfl
  ·unfold aN ax;rw[h];kernel_rfl
  ·unfold aG bO;rw[h];kernel_rfl
  ·rw[h]
   have hA:=al ha
   refine bK (len:=4) (fun j hj=> ?_) _ 0 (by omega)
   match j,hj with
   | 0,_=>rfl
   | 1,_=>rfl
   | 2,_=>rfl
   | 3,_=>rfl
  ·unfold cz;rw[h];rfl
 ·have hF:=bt (x:=x.1) (by rw[h];decide)
  rw[h]at hF
  refine cF (aA:=ak (x.1.args.length:Int) 1) (D:=true) (N0:=ak (x.2.length:Int) 0) (b:=aJ x.1) (pa:=bI ns 29 1 0 x.1.args) ?_ ?_ hn (fun hb=> ?_) (fun ha=> ?_) ?_
  ·unfold aR;rw[h,hF];kernel_rfl
  ·unfold aN ax;rw[h];kernel_rfl
  ·have fy:ax x.1=true:=by unfold ax;rw[h,hb];rfl
   unfold aG bO;rw[fy,h];show _=_;kernel_rfl
  ·rw[h]
   have hA:=al ha
   refine bK (len:=1) (fun j hj=> ?_) _ 0 (by omega)
   match j,hj with
   | 0,_=>rfl
  ·unfold cz;rw[h];rfl
 ·have hF:=bt (x:=x.1) (by rw[h];decide)
  rw[h]at hF
  refine cF (aA:=ak (x.1.args.length:Int) 5) (D:=true) (N0:=ak (x.2.length:Int) 0) (b:=aJ x.1) (pa:=bI ns 30 3 0 x.1.args) ?_ ?_ hn (fun hb=> ?_) (fun ha=> ?_) ?_
  ·unfold aR;rw[h,hF];kernel_rfl
  ·unfold aN ax;rw[h];kernel_rfl
  ·unfold aG bO;rw[h];kernel_rfl
  ·rw[h]
   have hA:=al ha
   refine bK (len:=5) (fun j hj=> ?_) _ 0 (by omega)
   match j,hj with
   | 0,_=>rfl
   | 1,_=>rfl
   | 2,_=>rfl
   | 3,_=>rfl
   | 4,_=>rfl
  ·unfold cz;rw[h];rfl
 ·have hF:=bt (x:=x.1) (by rw[h];decide)
  rw[h]at hF
  refine cF (aA:=ak (x.1.args.length:Int) 2) (D:=true) (N0:=ak (x.2.length:Int) 0) (b:=aJ x.1) (pa:=bI ns 31 0 0 x.1.args) ?_ ?_ hn (fun hb=> ?_) (fun ha=> ?_) ?_
  ·unfold aR;rw[h,hF];kernel_rfl
  ·unfold aN ax;rw[h];kernel_rfl
  ·unfold aG bO;rw[h];kernel_rfl
  ·rw[h]
   have hA:=al ha
   refine bK (len:=2) (fun j hj=> ?_) _ 0 (by omega)
   match j,hj with
   | 0,_=>rfl
   | 1,_=>rfl
  ·unfold cz;rw[h];rfl
 ·have hF:=bt (x:=x.1) (by rw[h];decide)
  rw[h]at hF
  refine cF (aA:=ak (x.1.args.length:Int) 0) (D:=true) (N0:=ak (x.2.length:Int) 0) (b:=aJ x.1) (pa:=bI ns 32 0 0 x.1.args) ?_ ?_ hn (fun hb=> ?_) (fun ha=> ?_) ?_
  ·unfold aR;rw[h,hF];kernel_rfl
  ·unfold aN ax;rw[h];kernel_rfl
  ·unfold aG bO;rw[h];kernel_rfl
  ·rw[h]
   have hA:=al ha
   refine bK (len:=0) (fun j hj=> ?_) _ 0 (by omega)
   omega
  ·unfold cz;rw[h];rfl
 ·have hF:=bt (x:=x.1) (by rw[h];decide)
  rw[h]at hF
  refine cF (aA:=ak (x.1.args.length:Int) 2) (D:=true) (N0:=ak (x.2.length:Int) 0) (b:=aJ x.1) (pa:=bI ns 33 1 0 x.1.args) ?_ ?_ hn (fun hb=> ?_) (fun ha=> ?_) ?_
  ·unfold aR;rw[h,hF];kernel_rfl
  ·unfold aN ax;rw[h];kernel_rfl
  ·unfold aG bO;rw[h];kernel_rfl
  ·rw[h]
   have hA:=al ha
   refine bK (len:=2) (fun j hj=> ?_) _ 0 (by omega)
   match j,hj with
   | 0,_=>rfl
   | 1,_=>rfl
  ·unfold cz;rw[h];rfl
 ·have e1:aR x=false:=by unfold aR;rw[h];kernel_rfl
  have e2:ax x.1=false:=by unfold ax;rw[h];rfl
  have e3:aN ins x=false:=by unfold aN;rw[e2,h];simp
  rw[e1,e3];simp
 ·have e1:aR x=false:=by unfold aR;rw[h];kernel_rfl
  have e2:ax x.1=false:=by unfold ax;rw[h];rfl
  have e3:aN ins x=false:=by unfold aN;rw[e2,h];simp
  rw[e1,e3];simp
 ·have e1:aR x=false:=by unfold aR;rw[h];kernel_rfl
  have e2:ax x.1=false:=by unfold ax;rw[h];rfl
  have e3:aN ins x=false:=by unfold aN;rw[e2,h];simp
  rw[e1,e3];simp
 ·have e1:aR x=false:=by unfold aR;rw[h];kernel_rfl
  have e2:ax x.1=false:=by unfold ax;rw[h];rfl
  have e3:aN ins x=false:=by unfold aN;rw[e2,h];simp
  rw[e1,e3];simp
 ·have e1:aR x=false:=by unfold aR;rw[h];kernel_rfl
  have e2:ax x.1=false:=by unfold ax;rw[h];rfl
  have e3:aN ins x=false:=by unfold aN;rw[e2,h];simp
  rw[e1,e3];simp
 ·exact absurd h pq
 ·have e1:aR x=false:=by unfold aR;rw[h];kernel_rfl
  have e2:ax x.1=false:=by unfold ax;rw[h];rfl
  have e3:aN ins x=false:=by unfold aN;rw[e2,h];simp
  rw[e1,e3];simp
 ·have e1:aR x=false:=by unfold aR;rw[h];kernel_rfl
  have e2:ax x.1=false:=by unfold ax;rw[h];rfl
  have e3:aN ins x=false:=by unfold aN;rw[e2,h];simp
  rw[e1,e3];simp
 ·have e1:aR x=false:=by unfold aR;rw[h];kernel_rfl
  have e2:ax x.1=false:=by unfold ax;rw[h];rfl
  have e3:aN ins x=false:=by unfold aN;rw[e2,h];simp
  rw[e1,e3];simp
 ·have NQ:cz ins ns x=(aj 0 x.1.n&&au x.1.n ins):=by unfold cz;rw[h];rfl
  rw[NQ]
  refine Al (aA:=ak (x.1.args.length:Int) 0) (N0:=ak (x.2.length:Int) 0) (b:=ja x.1) (e:=true) (D:=(aj 0 x.1.n&&au x.1.n ins)) (RC:=true) (pa:=bI ns 43 0 0 x.1.args) ?_ ?_ hn ?_ (fun ha=> ?_) ?_
  ·unfold aR;rw[h];kernel_rfl
  ·unfold aN;rw[h];kernel_rfl
  ·unfold aG bO;rw[h];kernel_rfl
  ·rw[h]
   have hA:=al ha
   refine bK (len:=0) (fun j hj=> ?_) _ 0 (by omega)
   omega
  ·simp
 ·have NQ:cz ins ns x=true:=by unfold cz;rw[h];rfl
  rw[NQ]
  refine Al (aA:=ak (x.1.args.length:Int) 1) (N0:=ak (x.2.length:Int) 0) (b:=ja x.1) (e:=(ak x.1.n 0)) (D:=(ak x.1.n 0)) (RC:=true) (pa:=bI ns 44 1 0 x.1.args) ?_ ?_ hn ?_ (fun ha=> ?_) ?_
  ·unfold aR;rw[h];kernel_rfl
  ·unfold aN;rw[h];kernel_rfl
  ·unfold aG bO;rw[h];kernel_rfl
  ·rw[h]
   have hA:=al ha
   refine bK (len:=1) (fun j hj=> ?_) _ 0 (by omega)
   match j,hj with
   | 0,_=>rfl
  ·simp
 ·have NQ:cz ins ns x=true:=by unfold cz;rw[h];rfl
  rw[NQ]
  refine Al (aA:=ak (x.1.args.length:Int) 3) (N0:=ak (x.2.length:Int) 0) (b:=ja x.1) (e:=(ak x.1.n 0)) (D:=(ak x.1.n 0)) (RC:=true) (pa:=bI ns 45 1 0 x.1.args) ?_ ?_ hn ?_ (fun ha=> ?_) ?_
  ·unfold aR;rw[h];kernel_rfl
  ·unfold aN;rw[h];kernel_rfl
  ·unfold aG bO;rw[h];kernel_rfl
  ·rw[h]
   have hA:=al ha
   refine bK (len:=3) (fun j hj=> ?_) _ 0 (by omega)
   match j,hj with
   | 0,_=>rfl
   | 1,_=>rfl
   | 2,_=>rfl
  ·simp
 ·have NQ:cz ins ns x=nm ns x.1:=by unfold cz;rw[h];rfl
  rw[NQ]
  refine Al (aA:=ak (x.1.args.length:Int) 1) (N0:=ak (x.2.length:Int) 0) (b:=ja x.1) (e:=true) (D:=true) (RC:=nm ns x.1) (pa:=bI ns 46 1 0 x.1.args) ?_ ?_ hn ?_ (fun ha=> ?_) ?_
  ·unfold aR;rw[h];kernel_rfl
  ·unfold aN;rw[h];rw[Bool.and_true];kernel_rfl
  ·unfold aG bO;rw[h];kernel_rfl
  ·rw[h]
   have hA:=al ha
   refine bK (len:=1) (fun j hj=> ?_) _ 0 (by omega)
   match j,hj with
   | 0,_=>rfl
  ·simp
 ·have e1:aR x=false:=by unfold aR;rw[h];kernel_rfl
  have e2:ax x.1=false:=by unfold ax;rw[h];rfl
  have e3:aN ins x=false:=by unfold aN;rw[e2,h];simp
  rw[e1,e3];simp
end Go.V
namespace Go.V
open Go.Proofs
def rF (x:Node) (p:ka):Option ka:=
 bif Nat.beq (aF x.1.op) 32 then(bif gI x.1 p.knobs then some ⟨p.knobs++[x],p.bx⟩else none)
 else bif Nat.beq (aF x.1.op) 33 then(bif eh x.1 p.bx then some ⟨p.knobs,p.bx++[x.1.name]⟩else none)
 else some p
mutual
def j6:Net→ka→Option ka
 | .mk _ ns _,p=>kC ns p
def kC:List (Nf×List Net)→ka→Option ka
 | [],p=>some p
 | (x,ms)::r,p=>(match rF (x,ms) p with | some q=>(match jO ms q with | some q'=>kC r q' | none=>none) | none=>none)
def jO:List Net→ka→Option ka
 | [],p=>some p
 | m::r,p=>(match j6 m p with | some q=>jO r q | none=>none)
end
theorem Mw {ns:List Node} {ins:Int} {x:Node} {p:ka} (pq:Nat.beq (aF x.1.op) 39=false):nI ns ins x p=(bif cz ins ns x then rF x p else none):=by
 unfold nI cz rF
 rw[pq]
 cases Xz:Nat.beq (aF x.1.op) 43
 ·cases Rv:Nat.beq (aF x.1.op) 46
  ·rfl
  ·rw[Nat.eq_of_beq_eq_true Rv];rfl
 ·rw[Nat.eq_of_beq_eq_true Xz]
  have e:(au x.1.n 0|| aj ins x.1.n)= !(aj 0 x.1.n&&au x.1.n ins):=by
   rw[Bool.eq_iff_iff]
   simp only[Bool.or_eq_true,Bool.not_eq_true',Bool.and_eq_false_iff,Oz,ur]
   constructor
   ·rintro (h | h)
    ·left;exact ml h
    ·right;exact eg h
   ·rintro (h | h)
    ·left;exact jG h
    ·right;exact cM h
  show(bif au x.1.n 0|| aj ins x.1.n then none else some p)=(bif aj 0 x.1.n&&au x.1.n ins then some p else none)
  rw[e]
  cases (aj 0 x.1.n&&au x.1.n ins)<;>rfl
theorem CD {ins:Int} {x:Node} (pq:Nat.beq (aF x.1.op) 39=false) (h:aN ins x=true):x.2=[]:=by
 unfold aN at h
 rw[pq,Bool.false_or,Bool.and_eq_true,T6]at h
 have:=dW h.1
 exact List.length_eq_zero_iff.1 (by omega)
theorem Ja {ins:Int} {x:Node} (pq:Nat.beq (aF x.1.op) 39=true) (h:aN ins x=true):∃m,x.2=[m]:=by
 unfold aN at h
 have e:=Nat.eq_of_beq_eq_true pq
 simp only[e,Bool.and_eq_true]at h
 have h:(ja x.1&&(ak x.2.length 1&&(aj 2 x.1.n&&aj x.1.n 8)))=true:=h.2
 simp only[Bool.and_eq_true]at h
 have:=dW h.2.1
 exact List.length_eq_one_iff.1 (by omega)
theorem OB {ins:Int} {ns:List Node} {x:Node} {m:Net} (pq:aF x.1.op=39) (hx:nO x.1) (hm:x.2=[m]) (hi:0≤m.ins) (yB:pj m.ins):
  (aR x&&(cT ns (aF x.1.op) (cg (aF x.1.op) x.1.args.length).2.1 (cg (aF x.1.op) x.1.args.length).2.2.1 0 x.1.args&&ak (mC x.2) (x.1.args.length-2)))=(aN ins x&&aG ns x):=by
 have hl:=hx.yd
 unfold bf at hl
 have e1:aR x=(aj 2 x.1.args.length&&(ak x.1.args.length x.1.args.length&&(ja x.1&&(aj 2 x.1.n&&aj x.1.n 8)))):=by
  unfold aR
  rw[pq,hm]
  refine Eq.trans (b:=(aj 2 x.1.args.length&&(ak x.1.args.length x.1.args.length&&(ja x.1&&(aj 2 x.1.n&&(aj x.1.n 8&&true)))))) (by kernel_rfl) ?_
  rw[Bool.and_true]
 have e2:aN ins x=(ja x.1&&(aj 2 x.1.n&&aj x.1.n 8)):=by
  unfold aN
  rw[pq,hm];kernel_rfl
 have e3:bO x=(IntKind.i64.wrap (m.ins+2),2):=by unfold bO;rw[pq,hm];rfl
 have e4:aG ns x=(ak x.1.args.length (IntKind.i64.wrap (m.ins+2))&&(bI ns 39 (IntKind.i64.wrap (m.ins+2)-2) 0 x.1.args&&true)):=by
  unfold aG
  rw[e3,pq];rfl
 have e5:mC x.2=m.ins:=by rw[hm];rfl
 have ew:ak x.1.args.length (IntKind.i64.wrap (m.ins+2))=ak m.ins (x.1.args.length-2):=by
  rw[Bool.eq_iff_iff,lB,lB]
  by_cases hb:m.ins+2<9223372036854775808
  ·rw[bJ (by omega) hb];omega
  ·have:IntKind.i64.wrap (m.ins+2)=m.ins+2-18446744073709551616:=by
    have:=yB.2
    simp[IntKind.wrap,IntKind.signed,IntKind.bits]
    split<;>omega
   rw[this]
   have:=yB.2
   constructor<;>intro h<;>omega
 rw[e1,e2,e4,e5,ew]
 cases hq:ak m.ins ((x.1.args.length:Int)-2)
 ·cases cT ns (aF x.1.op) (cg (aF x.1.op) x.1.args.length).2.1 (cg (aF x.1.op) x.1.args.length).2.2.1 0 x.1.args<;>simp
 ·have Pf:=dW hq
  rw[b7 (show(2:Int)≤x.1.args.length by omega),lk (rfl:(x.1.args.length:Int)=x.1.args.length),bJ (n:=m.ins+2) (by omega) (by omega)]
  have ha:cT ns (aF x.1.op) (cg (aF x.1.op) x.1.args.length).2.1 (cg (aF x.1.op) x.1.args.length).2.2.1 0 x.1.args=bI ns 39 (m.ins+2-2) 0 x.1.args:=by
   rw[pq]
   refine bK (len:=x.1.args.length) (fun j hj=> ?_) _ 0 (by omega)
   have r1:(cg 39 x.1.args.length).2.1=x.1.args.length-2:=rfl
   have r2:(cg 39 x.1.args.length).2.2.1=x.1.args.length-1:=rfl
   rw[r1,r2,Bool.eq_iff_iff,Bool.or_eq_true,lB,lB,ur]
   omega
  rw[ha]
  cases ja x.1<;>cases aj 2 x.1.n<;>cases aj x.1.n 8<;>simp
theorem E6 {m:Net} {deep:Int} (h:dC m deep=true):0≤m.ins:=by
 rw[qt,Bool.and_eq_true]at h
 have h:=h.1
 unfold E5 at h
 rw[Bool.not_eq_true']at h
 simp only[Bool.or_eq_false_iff]at h
 exact cM h.1
mutual
theorem T7:∀(n:Net),cu n→n.size≤2000→∀(deep:Int) (p:ka),dB n deep p=(bif dC n deep then j6 n p else none)
 | .mk ins ns outs,ho,hz,deep,p=>by
  rw[dB,dC,j6,PY ns ns ins ho.nf ho.sub (by rw[Net.size]at hz;omega) deep p]
  have hl:au 2000 (ns.length:Int)=false:=eg (by rw[Net.size]at hz;omega)
  have:we ins deep ns outs=E5 ins deep outs:=by
   unfold we E5
   rw[hl,Bool.or_false]
   cases au 60 deep<;>cases au ins 0<;>cases au 64 ins<;>cases au 64 (outs.length:Int)<;>rfl
  rw[this]
  cases E5 ins deep outs
  ·cases outs.all (mD ns)
   ·cases da ins deep ns<;>cases ns.all (aG ns)<;>rfl
   ·cases da ins deep ns<;>cases ns.all (aG ns)<;>cases lQ ns<;>cases kC ns p<;>rfl
  ·rfl
theorem PY:∀(r all:List (Nf×List Net)) (ins:Int),(∀x∈r,nO x.1)→(∀x∈r,∀m∈x.2,cu m)→ca r≤2000→∀(deep:Int) (p:ka),cy all ins deep r p=(bif da ins deep r&&r.all (aG all)then kC r p else none)
 | [],all,ins,_,_,_,deep,p=>by rw[cy,da,kC];rfl
 | (x,ms)::r,all,ins,hx,hm,hz,deep,p=>by
  rw[ca]at hz
  have ih:=fun q=>PY r all ins (fun y hy=>hx y (List.mem_cons_of_mem _ hy)) (fun y hy=>hm y (List.mem_cons_of_mem _ hy)) (by omega) deep q
  have Q2:=fun q=>T8 ms (hm _ List.mem_cons_self) (by omega) (deep+1) q
  rw[cy,da,kC,List.all_cons]
  unfold qs
  cases pq:Nat.beq (aF x.op) 39
  ·have dc:aF ((x,ms):Node).1.op≠39:=fun h=>by
    have h:aF x.op=39:=h
    rw[h]at pq;cases pq
   have key:=OA (ins:=ins) (ns:=all) dc
   simp only[cond_false]
   rw[Mw (x:=(x,ms)) pq]
   cases hp:aN ins (x,ms)
   ·rw[hp,Bool.false_and]at key
    simp only[Bool.false_and,cond_false]
    cases hf:cz ins all (x,ms)
    ·cases (aR (x,ms)&&cT all (aF x.op) (cg (aF x.op) x.args.length).2.1 (cg (aF x.op) x.args.length).2.2.1 0 x.args)<;>rfl
    ·rw[hf,Bool.and_true]at key
     have key:(aR (x,ms)&&cT all (aF x.op) (cg (aF x.op) x.args.length).2.1 (cg (aF x.op) x.args.length).2.2.1 0 x.args)=false:=key
     rw[key];rfl
   ·have T9:ms=[]:=CD (x:=(x,ms)) pq hp
    subst T9
    rw[hp,Bool.true_and]at key
    have em:ej (deep+1) []=true:=by rw[ej]
    rw[em]
    simp only[jO,Bool.true_and]
    cases hl:aG all (x,[])
    ·rw[hl]at key
     simp only[Bool.false_and,Bool.and_false,cond_false]
     cases hf:cz ins all (x,[])
     ·cases (aR (x,[])&&cT all (aF x.op) (cg (aF x.op) x.args.length).2.1 (cg (aF x.op) x.args.length).2.2.1 0 x.args)<;>rfl
     ·rw[hf,Bool.and_true]at key
      have key:(aR (x,[])&&cT all (aF x.op) (cg (aF x.op) x.args.length).2.1 (cg (aF x.op) x.args.length).2.2.1 0 x.args)=false:=key
      rw[key];rfl
    ·rw[hl]at key
     rw[←Bool.and_assoc,Bool.and_eq_true]at key
     have k1:(aR (x,[])&&cT all (aF x.op) (cg (aF x.op) x.args.length).2.1 (cg (aF x.op) x.args.length).2.2.1 0 x.args)=true:=key.1
     rw[k1,key.2]
     simp only[cond_true,Bool.true_and]
     cases rF (x,[]) p with
     | none=>cases (da ins deep r&&r.all (aG all))<;>rfl
     | some q=>exact ih q
  ·have Ua:=Nat.eq_of_beq_eq_true pq
   have hpx:rF (x,ms) p=some p:=by
    unfold rF
    show(bif Nat.beq (aF x.op) 32 then _ else bif Nat.beq (aF x.op) 33 then _ else some p)=some p
    rw[Ua];rfl
   rw[hpx]
   simp only[cond_true]
   by_cases T9:∃m,ms=[m]
   ·obtain⟨m,rfl⟩:=T9
    have Q2:=Q2 p
    have e1:ei [m] (deep+1) p=dB m (deep+1) p:=by rw[ei]
    rw[e1]
    have Q2:dB m (deep+1) p=(bif dC m (deep+1)then j6 m p else none):=Q2 m rfl
    rw[Q2]
    have em:ej (deep+1) [m]=dC m (deep+1):=by rw[ej,ej,Bool.and_true]
    have ep:jO [m] p=j6 m p:=by
     rw[jO]
     cases j6 m p with
     | none=>rfl
     | some q=>simp only[jO]
    rw[em,ep]
    cases hs:dC m (deep+1)
    ·cases aN ins (x,[m])
     ·simp only[Bool.false_and,cond_false]
      split<;>simp_all
     ·simp only[Bool.false_and,Bool.and_false,cond_false]
      split<;>simp_all
    ·have QF:=hm (x,[m]) List.mem_cons_self m (by simp)
     have key:=OB (ins:=ins) (ns:=all) (x:=(x,[m])) Ua (hx _ List.mem_cons_self) rfl (E6 hs) QF.i
     have key:(aR (x,[m])&&(cT all (aF x.op) (cg (aF x.op) x.args.length).2.1 (cg (aF x.op) x.args.length).2.2.1 0 x.args&&ak (mC [m]) (x.args.length-2)))=(aN ins (x,[m])&&aG all (x,[m])):=key
     rw[←Bool.and_assoc]at key
     cases hA:(aR (x,[m])&&cT all (aF x.op) (cg (aF x.op) x.args.length).2.1 (cg (aF x.op) x.args.length).2.2.1 0 x.args)
     ·rw[hA,Bool.false_and]at key
      cases hp:aN ins (x,[m])
      ·rfl
      ·rw[hp,Bool.true_and]at key
       rw[←key]
       simp
     ·rw[hA,Bool.true_and]at key
      cases hB:ak (mC [m]) ((x.args.length:Int)-2)
      ·rw[hB]at key
       cases hp:aN ins (x,[m])
       ·rfl
       ·rw[hp,Bool.true_and]at key
        rw[←key]
        simp
      ·rw[hB]at key
       have key:=key.symm
       rw[Bool.and_eq_true]at key
       rw[key.1,key.2]
       simp only[cond_true,Bool.true_and]
       cases j6 m p with
       | none=>cases (da ins deep r&&r.all (aG all))<;>rfl
       | some q=>exact ih q
   ·have e1:aR (x,ms)=false:=by
     cases hr:aR (x,ms)
     ·rfl
     ·exact absurd (yg (x:=(x,ms)) hr pq) T9
    have e2:aN ins (x,ms)=false:=by
     cases hr:aN ins (x,ms)
     ·rfl
     ·exact absurd (Ja (x:=(x,ms)) pq hr) T9
    rw[e1,e2];rfl
theorem T8:∀(ms:List Net),(∀m∈ms,cu m)→cx ms≤2000→∀(deep:Int) (p:ka) (m:Net),ms=[m]→dB m deep p=(bif dC m deep then j6 m p else none)
 | [],_,_,deep,p,m,h=>by cases h
 | m::r,hm,hz,deep,p,m',h=>by
  cases h
  rw[cx]at hz
  exact T7 m (hm _ List.mem_cons_self) (by omega) deep p
end
end Go.V
namespace Go.V
open Go.Proofs
inductive pt:Net→Prop where
 | mk (i:Int) (ns:List Node) (os:List Int) (h1:∀x∈ns,aF x.1.op=32→cS x.1.ao=true) (h2:∀x∈ns,∀m∈x.2,pt m):pt (.mk i ns os)
theorem pt.nd {n:Net} (h:pt n):∀x∈n.nodes,aF x.1.op=32→cS x.1.ao=true:=by cases h;assumption
theorem pt.sub {n:Net} (h:pt n):∀x∈n.nodes,∀m∈x.2,pt m:=by cases h;assumption
theorem Mx {l:List Qn} (h:cS l=true):l.length=4:=by have:=dW (CC h);omega
theorem ym {l:List Qn} (h:cS l=true):∀q∈l,oT q=true:=by
 unfold cS at h
 rw[Bool.and_eq_true]at h
 exact List.all_eq_true.1 h.1
mutual
theorem GR:∀(n:Net),pt n→pr n
 | .mk i ns os,h=> .mk i ns os (fun x hx hc=>Mx (h.nd x hx hc)) (fun x hx m hm=>CE ns h.sub x hx m hm)
theorem CE:∀(ns:List (Nf×List Net)),(∀x∈ns,∀m∈x.2,pt m)→∀x∈ns,∀m∈x.2,pr m
 | [],_,x,hx,m,hm=>by cases hx
 | (y,ms)::r,h,x,hx,m,hm=>by
  rcases List.mem_cons.1 hx with e | hx
  ·rw[e]at hm;exact CF ms (h _ List.mem_cons_self) m hm
  ·exact CE r (fun z hz=>h z (List.mem_cons_of_mem _ hz)) x hx m hm
theorem CF:∀(ms:List Net),(∀m∈ms,pt m)→∀m∈ms,pr m
 | [],_,m,hm=>by cases hm
 | y::r,h,m,hm=>by
  rcases List.mem_cons.1 hm with e | hm
  ·rw[e];exact GR y (h _ List.mem_cons_self)
  ·exact CF r (fun z hz=>h z (List.mem_cons_of_mem _ hz)) m hm
end
theorem CG {ins:Int} {x:Node} (h:aN ins x=true) (hc:aF x.1.op=32):cS x.1.ao=true:=by
 unfold aN at h
 rw[hc,Bool.and_eq_true]at h
 have h2:(true&&ax x.1)=true:=h.2
 unfold ax aJ at h2
 rw[hc]at h2
 simp only[Bool.and_eq_true]at h2
 exact h2.2.2.2.2.2.1
mutual
theorem Am:∀(n:Net) (deep:Int),dC n deep=true→pt n
 | .mk i ns os,deep,h=>by
  rw[dC,Bool.and_eq_true,Bool.and_eq_true]at h
  obtain⟨a,b⟩:=CH ns i deep h.2.1
  exact .mk i ns os a b
theorem CH:∀(ns:List (Nf×List Net)) (ins deep:Int),da ins deep ns=true→(∀x∈ns,aF x.1.op=32→cS x.1.ao=true)∧(∀x∈ns,∀m∈x.2,pt m)
 | [],ins,deep,h=>⟨fun x hx=>by(cases hx),fun x hx=>by(cases hx)⟩
 | (y,ms)::r,ins,deep,h=>by
  rw[da,Bool.and_eq_true,Bool.and_eq_true]at h
  obtain⟨a,b⟩:=CH r ins deep h.2.2
  have c:=CI ms (deep+1) h.2.1
  refine⟨fun x hx hc=> ?_,fun x hx=> ?_⟩
  ·rcases List.mem_cons.1 hx with rfl | hx
   ·exact CG h.1 hc
   ·exact a x hx hc
  ·rcases List.mem_cons.1 hx with rfl | hx
   ·exact c
   ·exact b x hx
theorem CI:∀(ms:List Net) (deep:Int),ej deep ms=true→∀m∈ms,pt m
 | [],deep,h,m,hm=>by cases hm
 | y::r,deep,h,m,hm=>by
  rw[ej,Bool.and_eq_true]at h
  rcases List.mem_cons.1 hm with e | hm
  ·rw[e];exact Am y deep h.1
  ·exact CI r deep h.2 m hm
end
theorem rG:∀ {l m:List Qn},(∀q∈l,oT q=true)→(∀q∈m,oT q=true)→(jH l m=true↔l=m)
 | [],[],_,_=>by simp[jH]
 | [],b::m,_,_=>by simp[jH]
 | a::l,[],_,_=>by simp[jH]
 | a::l,b::m,h1,h2=>by
  have ih:=rG (fun q hq=>h1 q (List.mem_cons_of_mem _ hq)) (fun q hq=>h2 q (List.mem_cons_of_mem _ hq))
  rw[jH,h1 a List.mem_cons_self,h2 b List.mem_cons_self,Bool.and_eq_true,ih]
  obtain⟨an,ad⟩:=a
  obtain⟨bn,bd⟩:=b
  simp only[Bool.not_true,Bool.and_self,Bool.or_false,Bool.and_eq_true,lB,List.cons.injEq,Qn.mk.injEq]
theorem diff_eq:∀ {l m:List Qn},l.length=m.length→(mF l m=false↔l=m)
 | [],[],_=>by simp[mF]
 | [],b::m,h=>by simp at h
 | a::l,[],h=>by simp at h
 | a::l,b::m,h=>by
  have ih:=diff_eq (l:=l) (m:=m) (by simpa using h)
  rw[mF,Bool.or_eq_false_iff,ih]
  obtain⟨an,ad⟩:=a
  obtain⟨bn,bd⟩:=b
  simp only[Bool.not_eq_false',Bool.and_eq_true,lB,List.cons.injEq,Qn.mk.injEq]
structure Rel (p:ka) (w:Wk):Prop where
 bad:w.bad=false
 k1:∀z∈p.knobs,∃y,e9 z.1.name w.knobs=some y∧y.1.ao=z.1.ao
 k2:∀s y,e9 s w.knobs=some y→∃z∈p.knobs,z.1.name=s
 g:∀z∈p.knobs,cS z.1.ao=true
 s1:∀s∈p.bx,e9 s w.bx=some true
 s2:∀s b,e9 s w.bx=some b→b=true∧s∈p.bx
theorem Ub {x:Node} {p:ka} {w:Wk} (h:Rel p w) (hx:aF x.1.op=32→cS x.1.ao=true):match rF x p with | some q=>Rel q (iD x w) | none=>(iD x w).bad=true:=by
 unfold rF iD
 cases Ou:Nat.beq (aF x.1.op) 32
 ·cases T2:Nat.beq (aF x.1.op) 33
  ·exact h
  ·simp only[cond_true,cond_false]
   cases hs:eh x.1 p.bx
   ·unfold eh at hs
    rw[List.all_eq_false]at hs
    obtain⟨s,hm,hs⟩:=hs
    have:j5 s x.1.name=true:=by
     unfold j5
     cases hh:(s.data.toList==x.1.name.data.toList)
     ·rw[hh]at hs;simp at hs
     ·rfl
    rw[gC]at this
    subst this
    simp only[cond_false]
    show(w.bad|| (e9 x.1.name w.bx).getD false)=true
    rw[h.s1 _ hm,h.bad];rfl
   ·simp only[cond_true]
    have C1:x.1.name∉p.bx:=by
     intro hm
     unfold eh at hs
     rw[List.all_eq_true]at hs
     have:=hs _ hm
     simp at this
    have hg:(e9 x.1.name w.bx).getD false=false:=by
     cases hh:e9 x.1.name w.bx with
     | none=>rfl
     | some b=>exact absurd (h.s2 _ _ hh).2 C1
    refine⟨?_,h.k1,h.k2,h.g,fun s hm=> ?_,fun s b hb=> ?_⟩
    ·show(w.bad|| (e9 x.1.name w.bx).getD false)=false
     rw[h.bad,hg];rfl
    ·show e9 s (kB x.1.name true w.bx)=some true
     rw[mE]
     rcases List.mem_append.1 hm with hm | hm
     ·cases j5 s x.1.name
      ·exact h.s1 s hm
      ·rfl
     ·rw[List.mem_singleton.1 hm,kG];rfl
    ·have hb:e9 s (kB x.1.name true w.bx)=some b:=hb
     rw[mE]at hb
     cases hh:j5 s x.1.name
     ·rw[hh]at hb
      obtain⟨a,c⟩:=h.s2 s b hb
      exact⟨a,List.mem_append_left _ c⟩
     ·rw[hh]at hb
      cases hb
      exact⟨rfl,by rw[gC]at hh;rw[hh];simp⟩
 ·have hc:=Nat.eq_of_beq_eq_true Ou
  have hg:=hx hc
  simp only[cond_true]
  have OC:gI x.1 p.knobs= !(match e9 x.1.name w.knobs with | some y=>mF y.1.ao x.1.ao | none=>false):=by
   cases hh:e9 x.1.name w.knobs with
   | none=>
    simp only[Bool.not_false]
    unfold gI
    rw[List.all_eq_true]
    intro z hz
    obtain⟨y,hy,_⟩:=h.k1 z hz
    cases hb:(z.1.name.data.toList==x.1.name.data.toList)
    ·rfl
    ·have:z.1.name=x.1.name:=gC.1 hb
     rw[this,hh]at hy;cases hy
   | some y=>
    simp only[]
    obtain⟨z,hz,Vo⟩:=h.k2 _ _ hh
    obtain⟨y',rM,SS⟩:=h.k1 z hz
    rw[Vo,hh]at rM
    cases rM
    have e4:y.1.ao.length=x.1.ao.length:=by rw[SS,Mx (h.g z hz),Mx hg]
    rw[Bool.eq_iff_iff,Bool.not_eq_true',diff_eq e4]
    unfold gI
    rw[List.all_eq_true]
    constructor
    ·intro ha
     have:=ha z hz
     rw[show(z.1.name.data.toList==x.1.name.data.toList)=true from by rw[Vo];exact kG _]at this
     simp only[Bool.not_true,Bool.false_or]at this
     rw[SS]
     exact(rG (ym (h.g z hz)) (ym hg)).1 this
    ·intro he u hu
     cases hb:(u.1.name.data.toList==x.1.name.data.toList)
     ·rfl
     ·have hn:u.1.name=x.1.name:=gC.1 hb
      obtain⟨y'',Uc,hun⟩:=h.k1 u hu
      rw[hn,hh]at Uc
      cases Uc
      simp only[Bool.not_true,Bool.false_or]
      exact(rG (ym (h.g u hu)) (ym hg)).2 (by rw[←hun,he])
  cases hk:gI x.1 p.knobs
  ·rw[hk]at OC
   simp only[cond_false]
   show(w.bad|| (match e9 x.1.name w.knobs with | some y=>mF y.1.ao x.1.ao | none=>false))=true
   have:=OC.symm
   rw[Bool.not_eq_false']at this
   rw[this,Bool.or_true]
  ·rw[hk]at OC
   have hf:=OC.symm
   rw[Bool.not_eq_true']at hf
   simp only[cond_true]
   refine⟨?_,fun z hz=> ?_,fun s y hy=> ?_,fun z hz=> ?_,h.s1,h.s2⟩
   ·show(w.bad|| (match e9 x.1.name w.knobs with | some y=>mF y.1.ao x.1.ao | none=>false))=false
    rw[h.bad,hf];rfl
   ·show∃y,e9 z.1.name (kB x.1.name x w.knobs)=some y∧y.1.ao=z.1.ao
    rw[mE]
    rcases List.mem_append.1 hz with hz | hz
    ·cases hb:j5 z.1.name x.1.name
     ·exact h.k1 z hz
     ·refine⟨x,rfl, ?_⟩
      have hn:=gC.1 hb
      unfold gI at hk
      rw[List.all_eq_true]at hk
      have:=hk z hz
      have rN:(z.1.name.data.toList==x.1.name.data.toList)=true:=hb
      rw[rN]at this
      simp only[Bool.not_true,Bool.false_or]at this
      exact((rG (ym (h.g z hz)) (ym hg)).1 this).symm
    ·rw[List.mem_singleton.1 hz,kG]
     exact⟨x,rfl,rfl⟩
   ·have hy:e9 s (kB x.1.name x w.knobs)=some y:=hy
    rw[mE]at hy
    cases hb:j5 s x.1.name
    ·rw[hb]at hy
     obtain⟨z,hz,e⟩:=h.k2 s y hy
     exact⟨z,List.mem_append_left _ hz,e⟩
    ·exact⟨x,by simp,(gC.1 hb).symm⟩
   ·rcases List.mem_append.1 hz with hz | hz
    ·exact h.g z hz
    ·rw[List.mem_singleton.1 hz];exact hg
theorem Jb {x:Node} {w:Wk} (h:w.bad=true):(iD x w).bad=true:=by
 unfold iD
 cases Nat.beq (aF x.1.op) 32
 ·cases Nat.beq (aF x.1.op) 33
  ·exact h
  ·show(w.bad|| _)=true
   rw[h];rfl
 ·show(w.bad|| _)=true
  rw[h];rfl
mutual
theorem Jc:∀(n:Net) (w:Wk),w.bad=true→(jb n w).bad=true
 | .mk _ ns _,w,h=>by rw[jb];exact nq ns w h
theorem nq:∀(ns:List (Nf×List Net)) (w:Wk),w.bad=true→(e8 ns w).bad=true
 | [],w,h=>by rw[e8];exact h
 | (x,ms)::r,w,h=>by rw[e8];exact nq r _ (nr ms _ (Jb h))
theorem nr:∀(ms:List Net) (w:Wk),w.bad=true→(dU ms w).bad=true
 | [],w,h=>by rw[dU];exact h
 | m::r,w,h=>by rw[dU];exact nr r _ (Jc m w h)
end
mutual
theorem PZ:∀(n:Net) (p:ka) (w:Wk),pt n→Rel p w→match j6 n p with | some q=>Rel q (jb n w) | none=>(jb n w).bad=true
 | .mk _ ns _,p,w,hn,h=>by rw[j6,jb];exact My ns p w hn.nd hn.sub h
theorem My:∀(ns:List (Nf×List Net)) (p:ka) (w:Wk),(∀x∈ns,aF x.1.op=32→cS x.1.ao=true)→(∀x∈ns,∀m∈x.2,pt m)→Rel p w→match kC ns p with | some q=>Rel q (e8 ns w) | none=>(e8 ns w).bad=true
 | [],p,w,_,_,h=>by rw[kC,e8];exact h
 | (x,ms)::r,p,w,h1,h2,h=>by
  rw[kC,e8]
  have hX:=Ub (x:=(x,ms)) h (h1 _ List.mem_cons_self)
  cases hp:rF (x,ms) p with
  | none=>
   rw[hp]at hX
   exact nq r _ (nr ms _ hX)
  | some q=>
   rw[hp]at hX
   have hM:=Mz ms q (iD (x,ms) w) (h2 _ List.mem_cons_self) hX
   simp only[]
   cases hq:jO ms q with
   | none=>
    rw[hq]at hM
    exact nq r _ hM
   | some q'=>
    rw[hq]at hM
    exact My r q' _ (fun y hy=>h1 y (List.mem_cons_of_mem _ hy)) (fun y hy=>h2 y (List.mem_cons_of_mem _ hy)) hM
theorem Mz:∀(ms:List Net) (p:ka) (w:Wk),(∀m∈ms,pt m)→Rel p w→match jO ms p with | some q=>Rel q (dU ms w) | none=>(dU ms w).bad=true
 | [],p,w,_,h=>by rw[jO,dU];exact h
 | m::r,p,w,h1,h=>by
  rw[jO,dU]
  have hN:=PZ m p w (h1 _ List.mem_cons_self) h
  cases hp:j6 m p with
  | none=>
   rw[hp]at hN
   exact nr r _ hN
  | some q=>
   rw[hp]at hN
   exact Mz r q _ (fun y hy=>h1 y (List.mem_cons_of_mem _ hy)) hN
end
end Go.V
namespace Go.V
open Go.Proofs
def w0:Wk:=⟨[],[],false⟩
def wj (w:Wk):Bool:=w.bx.any fun x=>(e9 x.1 w.knobs).isSome
def wk (n:Net):Bool:= !au 2000 (IntKind.i64.wrap n.size)&&(dC n 1&&(!wj (jb n w0)&& !(jb n w0).bad))
theorem Jd (w:Wk):na (dT w.knobs) (fP af w.knobs) (dT w.bx)=wj w:=by
 unfold na wj
 rw[dT,List.any_map]
 congr 1
 funext x
 simp only[Function.comp_apply,wg]
 cases e9 x.1 w.knobs<;>rfl
theorem tE {α:Type} {A:List (ByteArray×α)} {s:ByteArray}:(e9 s A).isSome=A.any fun x=>j5 s x.1:=by
 induction A with
 | nil=>rfl
 | cons x A ih=>
  obtain⟨t,v⟩:=x
  rw[e9,List.any_cons]
  cases j5 s t
  ·exact ih
  ·rfl
theorem XE:Rel ⟨[],[]⟩ w0:=⟨rfl,fun z hz=>by(cases hz),fun s y h=>by(cases h),fun z hz=>by(cases hz),fun s hs=>by(cases hs),fun s b h=>by(cases h)⟩
theorem Je {q:ka} {w:Wk} (h:Rel q w):Ak q= !wj w:=by
 rw[Bool.eq_iff_iff,Bool.not_eq_true']
 unfold Ak wj
 rw[List.all_eq_true,List.any_eq_false]
 constructor
 ·intro ha x hx hs
  rw[Option.isSome_iff_exists]at hs
  obtain⟨y,hy⟩:=hs
  obtain⟨z,hz,Vo⟩:=h.k2 _ _ hy
  have Vp:(e9 x.1 w.bx).isSome=true:=by
   rw[tE,List.any_eq_true]
   exact⟨x,hx,kG _⟩
  rw[Option.isSome_iff_exists]at Vp
  obtain⟨b,hb⟩:=Vp
  have hm:=(h.s2 _ _ hb).2
  have:=ha z hz
  unfold eh at this
  rw[List.all_eq_true]at this
  have:=this _ hm
  rw[←Vo]at this
  simp at this
 ·intro ha z hz
  unfold eh
  rw[List.all_eq_true]
  intro s hs
  cases hb:(s.data.toList==z.1.name.data.toList)
  ·rfl
  ·have e:s=z.1.name:=gC.1 hb
   have h1:=h.s1 s hs
   have h2:(e9 s w.bx).isSome=true:=by rw[h1];rfl
   rw[tE,List.any_eq_true]at h2
   obtain⟨x,hx,JK⟩:=h2
   have:=ha x hx
   rw[←gC.1 JK,e]at this
   obtain⟨y,hy,_⟩:=h.k1 z hz
   rw[hy]at this
   simp at this
theorem CJ {n:Net} (ho:cu n) (hz:n.size≤1000000):fL n=wk n:=by
 unfold fL wk
 rw[bJ (n:=(n.size:Int)) (by omega) (by omega)]
 cases hs:au 2000 (n.size:Int)
 ·have AG:n.size≤2000:=by have:=cM hs;omega
  rw[T7 n ho AG 1 ⟨[],[]⟩]
  cases P0:dC n 1
  ·rfl
  ·have hg:=Am n 1 P0
   have hr:=PZ n ⟨[],[]⟩ w0 hg XE
   simp only[cond_true,Bool.not_false,Bool.true_and]
   cases hp:j6 n ⟨[],[]⟩with
   | none=>
    rw[hp]at hr
    have hr:(jb n w0).bad=true:=hr
    rw[hr];simp
   | some q=>
    rw[hp]at hr
    have hr:Rel q (jb n w0):=hr
    simp only[]
    rw[Je hr,hr.bad];simp
 ·cases dB n 1 ⟨[],[]⟩with
  | none=>rfl
  | some q=>rfl
def XF:Prop:=∀(E:Nat→aw),mo E→∀(n:Net) (k:Nat),KK+9≤k→XC n→∃l,E k 70 [cn n]=some ([.pv (.sl 3) l,aB (lQ n.nodes)],[])
theorem wm (n:Net):vk n.pv=n.pv:=by
 show PV.agg [n.pv.cell 0,n.pv.cell 1,n.pv.cell 2]=n.pv
 rw[Py,R9,Pz,eA]
theorem OD (yl:XF) {n:Net} (ho:cu n) (hs:jU n) (hz:n.size≤1000000):lu H0 n.pv (wk n):=by
 refine⟨KK+n.dp+100,fun k hk=> ?_⟩
 have e50:xQ (JH Try.prog H0 k) n.pv=rI (IntKind.i64.wrap n.size):=by
  show JH Try.prog H0 k 50 [.pv (.st 25) (vk n.pv)]=_
  rw[wm]
  exact f50 uo n.dp n ho (Nat.le_refl _) k (by omega)
 unfold pf wk
 rw[e50]
 refine⟨rfl, ?_⟩
 show(2000<IntKind.i64.wrap n.size∧_)∨(¬2000<IntKind.i64.wrap n.size∧_)
 cases Zp:au 2000 (IntKind.i64.wrap (n.size:Int))
 ·right
  have hz3:=cM Zp
  rw[bJ (n:=(n.size:Int)) (by omega) (by omega)]at hz3
  have e51:pe (JH Try.prog H0 k) n.pv=rB (dC n 1):=by
   show JH Try.prog H0 k 51 [.pv (.st 25) (vk n.pv),aI 1]=_
   rw[wm]
   exact f51 uo (yl _ uo) n.dp n ho hs (by omega) (Nat.le_refl _) k (by omega) 1 (by omega) (by omega)
  rw[e51]
  refine⟨?_,rfl, ?_⟩
  ·rw[bJ (n:=(n.size:Int)) (by omega) (by omega)];omega
  ·cases P0:dC n 1
   ·left;exact⟨rfl,rfl⟩
   ·right
    have hg:=Am n 1 P0
    have hw:rE w0:=fun s y h=>by cases h
    have e52:pN (JH Try.prog H0 k) n.pv=some ([],[wi (jb n w0)]):=by
     show JH Try.prog H0 k 52 [HG, .pv (.st 25) (vk n.pv)]=_
     rw[wm]
     exact f52 uo n.dp n ho (GR n hg) (Nat.le_refl _) k (by omega) w0 hw
    refine⟨rfl,_,_,_,_,_,e52, ?_⟩
    rw[Jd]
    rfl
 ·left
  exact⟨sG Zp,rfl⟩
theorem GS (yl:XF) {n:Net} (ho:cu n) (hs:jU n) (hz:n.size≤1000000):kS H0 40 [cn n]=rB (fL n):=by
 rw[CJ ho hz]
 exact HJ (OD yl ho hs hz)
end Go.V
