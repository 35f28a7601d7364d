/- PlanOrdered: whatever the input, the law answers true and leaves its input as it was. Conditions: none beyond the row's own. -/
import Derived.Test.YtmgjhnjiljmmkaaNJ
import Derived.Test.YtmgjhnjiljmmkaaVG
import Derived.Test.YtmgjhnjiljmmkaaRows
import Derived.ProofKit
set_option linter.unusedSimpArgs false
set_option linter.unusedVariables false
set_option maxRecDepth 100000
namespace Go.Proofs.Ytmgjhnjiljmmkaa
open Go.ChangeShapes Go.WideShapes Go.ChangeAt Go.RowKit Go.V
def pS:List TypeId:=[25,36,42,3,4,5,9,2,22,23,33,34,47,50,52,53,55,57,128]
theorem RQ:pS.all (ky Try.prog pS)=true:=by kernel_rfl
theorem UD:∀t,pS.contains t=true→ky Try.prog pS t=true:=fun t ht=>List.all_eq_true.1 RQ t (List.contains_iff_mem.1 ht)
theorem Try.own:ownKnob Try.prog.godebug=none:=by kernel_rfl
theorem Try.laidOut:laidOutB Try.prog=true:=by kernel_rfl
theorem t42:ai Try.prog 42= .sl 5:=by kernel_rfl
theorem M8 (w:World):mN Try.prog w FN:=by
 intro n v hn hv
 have h:Try.prog.globalNamed "internal/bytealg.MaxLen" =none∧Try.prog.globalNamed "strconv.ErrSyntax" =none∧Try.prog.globalNamed "strconv.ErrRange" =none:=⟨by kernel_rfl,by kernel_rfl,by kernel_rfl⟩
 simp only[Fw,List.mem_cons,List.not_mem_nil,or_false]at hn
 rcases hn with rfl | rfl | rfl
 ·rw[h.1]at hv;cases hv
 ·rw[h.2.1]at hv;cases hv
 ·rw[h.2.2]at hv;cases hv
theorem Ax {xs:List PV} (h:U4 Try.prog Try.f4.params.toList xs):∃call,ct Try.prog call∧call 4 (sj Try.prog Try.f4.params.toList xs)=some ([.pv .bool (.bool true)],[]):=by
 rw[Try.params4]at h ⊢
 match xs,h with
 | [x0,x1,x2],⟨h0,h1,h2,_⟩=>
  rw[LZ]at h0
  rw[PA]at h1
  rw[t42]at h2
  obtain⟨n,rfl,ho⟩:=L0 _ (Nat.le_refl _) h0
  obtain⟨p,rfl,hp⟩:=Oh h1
  obtain⟨l,rfl,hl,_⟩:=h2.iN
  rw[Xi]at hl
  obtain⟨jf,rfl,h8⟩:=lz (f:=u8) (p:=fun h=>0≤h∧h<256) (fun y hy=>by
   obtain⟨a,rfl,ha⟩:=(hl y hy).cO
   refine⟨a,rfl, ?_⟩
   have h2:(decide (0≤a)&&decide (a≤255))=true:=ha
   rw[Bool.and_eq_true]at h2
   have:=of_decide_eq_true h2.1
   have:=of_decide_eq_true h2.2
   omega)
  refine⟨KL Try.prog H0 qA (KK+n.dp+100),xO _ _ UB _, ?_⟩
  have:=RP ho hp h8
  simp only[sj,LZ,PA,t42]
  exact this
theorem wH (os:Os) (started:os.Started) (H:Type) (enc:TypeId×Value→H):
  ReturnsInHanded {} Try.checked os 4 .any (Rows.planOrderedSpec.pre6 enc Try.prog Try.f4 Rows.planOrderedRow.domain false) (Rows.planOrderedSpec.post enc Try.prog Try.f4 Rows.planOrderedRow.apart Rows.planOrderedRow.fresh Rows.planOrderedRow.handsOn Rows.planOrderedRow.again):=by
 refine returnsInHanded_of_change_sized (C:=Try.checked) Try.own started (by kernel_rfl) Try.func4
  (ChangeSpec.witness6 (enc:=enc) (C:=Try.checked) false ⟨#[], #[.agg #[.int .i64 0, .slice none 0 0, .slice none 0 0], .agg #[.slice none 0 0, .slice none 0 0, .int .i64 0, .bool false], .slice none 0 0],[]⟩ 8 (by kernel_rfl) (by kernel_rfl) (by kernel_rfl) (by kernel_rfl)) ?_
 intro W base args ds gs before eL hW _ hw _
 refine y5 (P:=Try.prog) (fn:=Try.f4) (tb:=4) UD ?_ Try.laidOut (by kernel_rfl) (by kernel_rfl) rfl ?_ eL hW hw (fun xs h _=>Ax h) Try.func4 (by kernel_rfl) (of_decide_eq_true (by kernel_rfl)) (M8 W)
 ·intro t ht
  rw[Try.params4]at ht
  have:∀t∈([25,36,42]:List TypeId),(pS.contains t&&(Try.prog.readableRec t&&decide (t<Try.prog.types.size)))=true:=List.all_eq_true.1 (by kernel_rfl)
  have:=this t ht
  simp only[Bool.and_eq_true,decide_eq_true_eq]at this
  exact⟨this.1,this.2.1,this.2.2⟩
 ·intro ds yE
  have hp:Try.f4.params.size=3:=by kernel_rfl
  rw[hp]at yE
  match ds,yE with
  | [d1,d2,d3],_=>rfl
theorem ordered_said:Rows.PlanOrderedSaid:=
 OpenClaim.holds_of_wide 4 Try.f4 rfl rfl rfl rfl rfl rfl rfl ⟨rfl,rfl,rfl,rfl,rfl⟩ rfl rfl rfl rfl rfl (by kernel_rfl) Try.func4 (by kernel_rfl)
  (of_decide_eq_true (by kernel_rfl)) (by unfold Func.isWrapper;first | (rw[if_pos (by decide+kernel)];kernel_rfl) | (rw[if_neg (by decide+kernel)];exact⟨rfl,rfl⟩))
  (fun os started H enc _=>wH os started H enc)
#print axioms ordered_said
end Go.Proofs.Ytmgjhnjiljmmkaa
