/- Both Puts by one contract, told to the evaluator; the law of places evaluated on every well formed input; well formed input out of a row's reading. Conditions: those that each theorem names. -/
import Derived.Test.YtcdkljinnmphjaaVT
import Derived.Test.YtcdkljinnmphjaaRows
import Derived.ProofKit
set_option maxRecDepth 100000
set_option linter.unusedSimpArgs false
set_option linter.unusedVariables false
namespace Go.V
open Go.Proofs Go.RowKit

/-- What both Puts do. -/
def PutPost (w : World) (A : Nat → Prop) (r : Option PV) (e : Ending) (w' : World) : Prop :=
  ∃ v3 S, e = .returned (.tuple #[v3, .int .i64 (errI r)]) ∧ IsV v3 ∧ Below w.heap.size w w' ∧ PRep Try.prog w' (gS S) (.st 27) (r.getD zeroB) v3 ∧ ∀ b, S b → b < w'.heap.size ∧ (A b ∨ w.heap.size ≤ b)

def PlRep (w : World) (o : Option Addr) (c : Nat) (pl : List PV) : Prop :=
  pl.length ≤ c ∧ (pl = [] ∨ ∃ pb po, o = some ⟨pb, po, none⟩ ∧ pb < w.heap.size ∧ ∀ (i : Nat) (p : PV), pl[i]? = some p → ∃ n, p = .int .i64 n ∧ w.cell? ⟨pb, po + i, none⟩ = some (.int .i64 n))

theorem pl_open {w : World} {g : G} {pl : List PV} {v : Value} (h : PRep Try.prog w g (.sl 3) (.sl pl) v) : ∃ o c, v = .slice o pl.length c ∧ PlRep w o c pl := by
  cases h with
  | nsl _ => exact ⟨none, 0, rfl, Nat.le_refl _, .inl rfl⟩
  | esl _ a => exact ⟨some a, 0, rfl, Nat.le_refl _, .inl rfl⟩
  | sl _ _ b off cap f h hc ht hb hl =>
    refine ⟨_, cap, rfl, hl, .inr ⟨b, off, rfl, hb, fun i p hi => ?_⟩⟩
    have t3 : tyOf Try.prog 3 = .int .i64 := by kernel_rfl
    have n3 : Try.prog.cellsOf 3 = 1 := by kernel_rfl
    have h1 := h i p hi
    rw [t3] at h1
    obtain ⟨n, rfl, hf⟩ := h1.int_inv
    have h2 := hc i (List.getElem?_eq_some_iff.1 hi).1 0 (by rw [n3]; decide)
    rw [n3, hf, Nat.mul_one, Nat.add_zero] at h2
    exact ⟨n, rfl, h2⟩

theorem PlRep.below {w W : World} {o : Option Addr} {c : Nat} {pl : List PV} (h : PlRep w o c pl) (hb : Below w.heap.size w W) : PlRep W o c pl := by
  refine ⟨h.1, h.2.imp_right fun ⟨pb, po, e1, e2, e3⟩ => ⟨pb, po, e1, Nat.lt_of_lt_of_le e2 hb.size, fun i p hi => ?_⟩⟩
  obtain ⟨n, q1, q2⟩ := e3 i p hi
  exact ⟨n, q1, (hb.cell e2).trans q2⟩

theorem gS_below {w W : World} {A : Nat → Prop} {ty : Ty} {x : PV} {v : Value} (h : PRep Try.prog w (gS A) ty x v) (hb : Below w.heap.size w W) : PRep Try.prog W (gS A) ty x v := h.ext hb.size fun b hlt ht => ⟨ht, hb.block b hlt⟩
theorem gF_below {w W : World} {A : Nat → Prop} {ty : Ty} {x : PV} {v : Value} (h : PRep Try.prog w (gS A) ty x v) (hb : Below w.heap.size w W) : PRep Try.prog W gFree ty x v := h.ext hb.size fun b hlt ht => ⟨rfl, hb.block b hlt⟩

theorem rep_zero (w : World) (g : G) : PRep Try.prog w g (.st 27) zeroB (.agg #[.string ⟨#[]⟩, .string ⟨#[]⟩, .int .i64 0, .int .i64 0, .slice none 0 0, .string ⟨#[]⟩, .int .i64 0, .int .i64 0, .string ⟨#[]⟩, .string ⟨#[]⟩, .slice none 0 0]) :=
  rep_blk (op := ⟨#[]⟩) (name := ⟨#[]⟩) (n := 0) (m := 0) (nums := []) (fk := ⟨#[]⟩) (fa := 0) (fb := 0) (fc := ⟨#[]⟩) (fd := ⟨#[]⟩) (kids := []) (.nsl _) (.nsl _)

theorem post_zero {w w' : World} {A : Nat → Prop} (hb : Below w.heap.size w w') : PutPost w A none (.returned (.tuple #[.agg #[.string ⟨#[]⟩, .string ⟨#[]⟩, .int .i64 0, .int .i64 0, .slice none 0 0, .string ⟨#[]⟩, .int .i64 0, .int .i64 0, .string ⟨#[]⟩, .string ⟨#[]⟩, .slice none 0 0], .int .i64 2])) w' :=
  ⟨_, fun _ => False, rfl, isV_blk _ _ _ _ _ _ _ _ _ _ _ _ _ _ _, hb, rep_zero _ _, fun _ h => h.elim⟩

theorem errI_none {o : Option PV} (h : o = none) : errI o = 2 := by rw [h]; rfl
theorem errI_some {o : Option PV} {y : PV} (h : o = some y) : errI o = 0 := by rw [h]; rfl

/-- block.Put, called. -/
theorem put10_c {t x : PV} {pl : List PV} (ht : IsBlk t) (hx : IsBlk x) (hpl : IsPl pl) (w : World) (A : Nat → Prop) (v vp vx : Value) (hA : ∀ b, A b → b < w.heap.size)
    (hv : PRep Try.prog w (gS A) (.st 27) t v) (hp : PRep Try.prog w (gS A) (.sl 3) (.sl pl) vp) (hxv : PRep Try.prog w (gS A) (.st 27) x vx) : Calls Try.prog 10 #[v, vp, vx] w (PutPost w A (putP pl t x)) := by
  have hat : ∀ W, Below w.heap.size w W → Calls Try.prog 8 #[v, vp] W fun e w' => ∃ va, e = .returned (.tuple #[va, .int .i64 (errI (atP pl t))]) ∧ IsV va ∧ Below W.heap.size W w' :=
    fun W hW => at_c ht hpl W (gF_below hv hW) (gF_below hp hW)
  have hps := atP_put pl t x
  obtain ⟨po, pc, rfl, hplr⟩ := pl_open hp
  have hvF := gF_below hv (Below.refl _ _)
  have hxF := gF_below hxv (Below.refl _ _)
  cases hr : putP pl t x with
  | none =>
    have ha : atP pl t = none := by
      rw [hr] at hps
      cases h3 : atP pl t with
      | none => rfl
      | some y => rw [h3] at hps; cases hps
    rw [errI_none ha] at hat
    clear hr hps ha hvF hxF
    cases ht with
    | mk op name n m nums fk fa fb fc fd kids hn hk ln lk =>
    cases hx with
    | mk op1 name1 n1 m1 nums1 fk1 fa1 fb1 fc1 fd1 kids1 hn1 hk1 ln1 lk1 =>
    obtain ⟨o, l, c, o', l', c', rfl, _, _⟩ := blk_open hv
    obtain ⟨o1, l1, c1, o1', l1', c1', rfl, _, _⟩ := blk_open hxv
    refine (Put_err w op name n m o l c fk fa fb fc fd o' l' c' op1 name1 n1 m1 o1 l1 c1 fk1 fa1 fb1 fc1 fd1 o1' l1' c1' po pl.length pc hat).mono ?_
    rintro e w' ⟨rfl, hb⟩
    exact post_zero hb
  | some y =>
    obtain ⟨z, ha⟩ : ∃ z, atP pl t = some z := by
      rw [hr] at hps
      exact Option.isSome_iff_exists.1 hps.symm
    rw [errI_some ha] at hat
    have hlen : (pl.map fun p => p.toInt.toNat).length = pl.length := List.length_map _
    have hR := putP_R ht hr
    have hpp : (pl.map fun p => p.toInt.toNat) = [] ∨ ∃ pb po1, po = some ⟨pb, po1, none⟩ ∧ pb < w.heap.size ∧ ∀ (i n : Nat), (pl.map fun p => p.toInt.toNat)[i]? = some n → w.cell? ⟨pb, po1 + i, none⟩ = some (.int .i64 n) := by
      rcases hplr.2 with h | ⟨pb, po1, e1, e2, e3⟩
      · exact .inl (by rw [h]; rfl)
      · refine .inr ⟨pb, po1, e1, e2, fun i k hi => ?_⟩
        rw [List.getElem?_map, Option.map_eq_some_iff] at hi
        obtain ⟨p, hp1, rfl⟩ := hi
        obtain ⟨k, rfl, hcell⟩ := e3 i p hp1
        have := putP_in ht hr i _ hp1
        rw [hcell]
        simp only [toInt_int] at this ⊢
        rw [← this]
    rw [← hlen] at hat ⊢
    have htB := ht
    have hxB := hx
    clear hr hps ha
    cases ht with
    | mk op name n m nums fk fa fb fc fd kids hn hk ln lk =>
    cases hx with
    | mk op1 name1 n1 m1 nums1 fk1 fa1 fb1 fc1 fd1 kids1 hn1 hk1 ln1 lk1 =>
    obtain ⟨o, l, c, o', l', c', rfl, _, _⟩ := blk_open hv
    obtain ⟨o1, l1, c1, o1', l1', c1', rfl, _, _⟩ := blk_open hxv
    refine (Put_ok w op name n m o l c fk fa fb fc fd o' l' c' op1 name1 n1 m1 o1 l1 c1 fk1 fa1 fb1 fc1 fd1 o1' l1' c1' po _ pc hat hR htB hxB hvF hxF (by rw [hlen]; exact hplr.1) hpp).mono ?_
    rintro e w' ⟨v3, S, rfl, hv3, hb, hr3, hS⟩
    exact ⟨v3, S, rfl, hv3, hb, hr3, fun b hb => ⟨(hS b hb).2, .inr (hS b hb).1⟩⟩

/-- The reference's Put, called. -/
theorem ref9 {x : PV} (hx : IsBlk x) : ∀ (pl : List PV) (t : PV), IsBlk t → ∀ (w : World) (A : Nat → Prop) (v vx : Value) (po : Option Addr) (pc : Nat), (∀ b, A b → b < w.heap.size) →
    PRep Try.prog w (gS A) (.st 27) t v → PlRep w po pc pl → PRep Try.prog w (gS A) (.st 27) x vx → Calls Try.prog 9 #[v, .slice po pl.length pc, vx] w (PutPost w A (putP pl t x))
  | [], t, ht, w, A, v, vx, po, pc, hA, hv, hp, hxv => by
    have hx' := hx
    cases ht with
    | mk op name n m nums fk fa fb fc fd kids hn hk ln lk =>
    cases hx' with
    | mk op1 name1 n1 m1 nums1 fk1 fa1 fb1 fc1 fd1 kids1 hn1 hk1 ln1 lk1 =>
    obtain ⟨o, l, c, o', l', c', rfl, _, _⟩ := blk_open hv
    obtain ⟨o1, l1, c1, o1', l1', c1', rfl, _, _⟩ := blk_open hxv
    refine (ref_nil w op name n m o l c fk fa fb fc fd o' l' c' op1 name1 n1 m1 o1 l1 c1 fk1 fa1 fb1 fc1 fd1 o1' l1' c1' po pc).mono ?_
    rintro e w' ⟨rfl, hb⟩
    exact ⟨_, A, rfl, isV_blk _ _ _ _ _ _ _ _ _ _ _ _ _ _ _, hb, gS_below hxv hb, fun b h => ⟨Nat.lt_of_lt_of_le (hA b h) hb.size, .inl h⟩⟩
  | p :: ps, t, ht, w, A, v, vx, po, pc, hA, hv, hp, hxv => by
    obtain ⟨hpc, hp⟩ := hp
    obtain ⟨pb, po, rfl, hpb, hpi⟩ : ∃ pb po', po = some ⟨pb, po', none⟩ ∧ pb < w.heap.size ∧ ∀ (i : Nat) (q : PV), (p :: ps)[i]? = some q → ∃ n, q = .int .i64 n ∧ w.cell? ⟨pb, po' + i, none⟩ = some (.int .i64 n) := by
      rcases hp with hp | hp
      · cases hp
      · exact hp
    obtain ⟨k, rfl, hpk⟩ := hpi 0 p rfl
    have ht' := ht
    have hx' := hx
    cases ht' with
    | mk op name n m nums fk fa fb fc fd kids hn hk ln lk =>
    cases hx' with
    | mk op1 name1 n1 m1 nums1 fk1 fa1 fb1 fc1 fd1 kids1 hn1 hk1 ln1 lk1 =>
    obtain ⟨o, l, c, o', l', c', rfl, hnum, hkid⟩ := blk_open hv
    obtain ⟨o1, l1, c1, o1', l1', c1', rfl, _, _⟩ := blk_open hxv
    obtain ⟨hl', hko⟩ := kids_open hkid
    subst hl'
    have hik : ∀ T, T = blkP op name n m nums fk fa fb fc fd kids → inK T (.int .i64 k) = (leI 0 k && ltI k (Nat.cast kids.length : Int)) := fun T h => by rw [h]; rfl
    cases hin : inK (blkP op name n m nums fk fa fb fc fd kids) (.int .i64 k) with
    | false =>
      have hk0 : ¬ (0 ≤ k ∧ k < (kids.length : Int)) := by
        rintro ⟨h1, h2⟩
        rw [hik _ rfl, leI_t h1, ltI_t h2] at hin
        cases hin
      refine (ref_bad w op name n m o l c fk fa fb fc fd o' kids.length c' op1 name1 n1 m1 o1 l1 c1 fk1 fa1 fb1 fc1 fd1 o1' l1' c1' pb po ps.length pc k hpk hk0).mono ?_
      rintro e w' ⟨rfl, hb⟩
      have : putP (.int .i64 k :: ps) (blkP op name n m nums fk fa fb fc fd kids) (blkP op1 name1 n1 m1 nums1 fk1 fa1 fb1 fc1 fd1 kids1) = none := by simp only [putP, hin, cond_false]
      show PutPost w A (putP (.int .i64 k :: ps) (blkP op name n m nums fk fa fb fc fd kids) (blkP op1 name1 n1 m1 nums1 fk1 fa1 fb1 fc1 fd1 kids1)) _ _
      rw [this]
      exact post_zero hb
    | true =>
      obtain ⟨hlt, hkk⟩ := inK_lt hin
      obtain ⟨kn, hkn⟩ : ∃ kn, kn = k.toNat := ⟨_, rfl⟩
      have hkk' : k = (kn : Int) := by rw [hkn]; exact hkk
      subst hkk'
      have hlt : kn < kids.length := by
        have h : ((.int .i64 (kn : Int) : PV).toInt.toNat) < kids.length := hlt
        rwa [toInt_int, Int.toNat_natCast] at h
      obtain ⟨z, bk, off, vk, hz, rfl, hbk, hpz, hcz⟩ := hko kn hlt
      have hzb : IsBlk z := hk z (List.mem_of_getElem? hz)
      have hnth : nth default (kidsOf (blkP op name n m nums fk fa fb fc fd kids)) ((.int .i64 (kn : Int) : PV).toInt.toNat) = z := nth_get default (by show kids[(kn : Int).toNat]? = some z; rw [Int.toNat_natCast]; exact hz)
      have hzb' := hzb
      have ihz := ref9 hx ps z hzb
      have hput : putP (.int .i64 (kn : Int) :: ps) (blkP op name n m nums fk fa fb fc fd kids) (blkP op1 name1 n1 m1 nums1 fk1 fa1 fb1 fc1 fd1 kids1) = (putP ps z (blkP op1 name1 n1 m1 nums1 fk1 fa1 fb1 fc1 fd1 kids1)).map (setK (blkP op name n m nums fk fa fb fc fd kids) kn) := by
        simp only [putP, hin, cond_true, hnth]; rfl
      cases hzb' with
      | mk op2 name2 n2 m2 nums2 fk2 fa2 fb2 fc2 fd2 kids2 hn2 hk2 ln2 lk2 =>
      obtain ⟨o2, l2, c2, o2', l2', c2', rfl, _, _⟩ := blk_open hpz
      have hpc' : ps.length + 1 ≤ pc := hpc
      obtain ⟨po1, hpo⟩ : ∃ po1, (pc = 1 ∧ po1 = po) ∨ (1 < pc ∧ po1 = po + 1) := by
        by_cases hp1 : pc = 1
        · exact ⟨po, .inl ⟨hp1, rfl⟩⟩
        · exact ⟨po + 1, .inr ⟨by omega, rfl⟩⟩
      have hpt : PlRep w (some ⟨pb, po1, none⟩) (pc - 1) ps := by
        refine ⟨by omega, ?_⟩
        rcases hpo with ⟨e1, e2⟩ | ⟨e1, e2⟩
        · exact .inl (List.eq_nil_of_length_eq_zero (by omega))
        · refine .inr ⟨pb, po1, rfl, hpb, fun i q hi => ?_⟩
          obtain ⟨n, q1, q2⟩ := hpi (i + 1) q (by simpa using hi)
          exact ⟨n, q1, by rw [e2, show po + 1 + i = po + (i + 1) by omega]; exact q2⟩
      have hih : ∀ W, Below w.heap.size w W → _ := fun W hW => ihz W A _ _ _ _ (fun b h => Nat.lt_of_lt_of_le (hA b h) hW.size) (gS_below hpz hW) (hpt.below hW) (gS_below hxv hW)
      show Calls Try.prog 9 _ w (PutPost w A (putP (.int .i64 (kn : Int) :: ps) (blkP op name n m nums fk fa fb fc fd kids) (blkP op1 name1 n1 m1 nums1 fk1 fa1 fb1 fc1 fd1 kids1)))
      rw [hput]
      have hih' : ∀ W, Below w.heap.size w W → Calls Try.prog 9 _ W (PutPost W A (putP ps (blkP op2 name2 n2 m2 nums2 fk2 fa2 fb2 fc2 fd2 kids2) (blkP op1 name1 n1 m1 nums1 fk1 fa1 fb1 fc1 fd1 kids1))) := hih
      show Calls Try.prog 9 _ w (PutPost w A ((putP ps (blkP op2 name2 n2 m2 nums2 fk2 fa2 fb2 fc2 fd2 kids2) (blkP op1 name1 n1 m1 nums1 fk1 fa1 fb1 fc1 fd1 kids1)).map (setK (blkP op name n m nums fk fa fb fc fd kids) kn)))
      cases hr : putP ps (blkP op2 name2 n2 m2 nums2 fk2 fa2 fb2 fc2 fd2 kids2) (blkP op1 name1 n1 m1 nums1 fk1 fa1 fb1 fc1 fd1 kids1) with
      | none =>
        rw [hr] at hih'
        refine (ref_err w op name n m o l c fk fa fb fc fd bk off c' kids op1 name1 n1 m1 o1 l1 c1 fk1 fa1 fb1 fc1 fd1 o1' l1' c1' op2 name2 n2 m2 o2 l2 c2 fk2 fa2 fb2 fc2 fd2 o2' l2' c2' pb po ps.length pc kn hpk hlt hpc' po1 hpo hcz A hA zeroB
          (fun W hW => (hih' W hW).mono fun e w' ⟨v3, S, e1, e2, e3, e4, e5⟩ => ⟨v3, S, e1, e2, e3, e4, e5⟩)).mono ?_
        rintro e w' ⟨rfl, hb⟩
        exact post_zero hb
      | some y =>
        rw [hr] at hih'
        refine (ref_ok w op name n m o l c fk fa fb fc fd bk off c' kids op1 name1 n1 m1 o1 l1 c1 fk1 fa1 fb1 fc1 fd1 o1' l1' c1' op2 name2 n2 m2 o2 l2 c2 fk2 fa2 fb2 fc2 fd2 o2' l2' c2' pb po ps.length pc kn hpk hlt hpc' po1 hpo hcz A hA y
          (fun W hW => (hih' W hW).mono fun e w' ⟨v3, S, e1, e2, e3, e4, e5⟩ => ⟨v3, S, e1, e2, e3, e4, e5⟩) nums hnum hkid lk).mono ?_
        rintro e w' ⟨v3, S, rfl, hv3, hb, hr3, hS⟩
        exact ⟨v3, S, rfl, hv3, hb, hr3, hS⟩
end Go.V

set_option maxRecDepth 100000
set_option linter.unusedSimpArgs false
set_option linter.unusedVariables false
namespace Go.V
open Go.Proofs Go.RowKit

open Classical in
/-- Both Puts, as the evaluator is told them. -/
noncomputable def qPut : CallF := fun _ az =>
  match az with
  | [.pv (.st 27) t, .pv (.sl 3) p, .pv (.st 27) x] =>
    if IsBlk t ∧ IsBlk x ∧ (∃ pl, p = .sl pl ∧ IsPl pl) then some ([.pv (.st 27) ((putP p.toList t x).getD zeroB), .pv (.int .i64) (errP (putP p.toList t x))], []) else none
  | _ => none

theorem qPut_eq {t x : PV} {pl : List PV} (ht : IsBlk t) (hx : IsBlk x) (hp : IsPl pl) (f : FuncId) : qPut f [.pv (.st 27) t, .pv (.sl 3) (.sl pl), .pv (.st 27) x] = some ([.pv (.st 27) ((putP pl t x).getD zeroB), .pv (.int .i64) (errP (putP pl t x))], []) := by
  simp only [qPut]
  rw [if_pos ⟨ht, hx, pl, rfl, hp⟩]
  rfl

theorem put_post {w : World} {g : G} {A : Nat → Prop} {r : Option PV} (hfr : ∀ b, w.heap.size ≤ b → g.tag b = .free) {az : List AO} (hl : nLent az = 0) (hown : ∀ b s p, g.tag b = .own s p → s < nLent az) (hA : ∀ b, A b → g.tag b = .free) (e : Ending) (w' : World) (h : PutPost w A r e w') :
    CallPost Try.prog w g az [.pv (.st 27) (r.getD zeroB), .pv (.int .i64) (errP r)] [] e w' := by
  obtain ⟨v3, S, rfl, _, hb, hr, hS⟩ := h
  refine ⟨_, g, rfl, ⟨hb.os, hb.tape, hb.output, hb.size, fun b hlt h => ⟨h, hb.block b hlt⟩, fun b hlt h => ⟨h, hb.block b hlt⟩, fun b h => ⟨h, ?_⟩, fun b h => hfr b (Nat.le_trans hb.size h)⟩, ?_, ?_, hl.symm, fun i y h => by simp at h⟩
  · rcases Nat.lt_or_ge b w.heap.size with h' | h'
    · exact h'
    · rw [hfr b h'] at h; cases h
  · refine ⟨_, rfl, rfl, fun i x v hx hv => ?_⟩
    match i with
    | 0 =>
      simp at hx hv; subst hx hv
      refine ⟨_, _, rfl, hr.ext (Nat.le_refl _) fun b hb ht => ⟨?_, rfl⟩⟩
      rcases (hS b (gS_free.1 ht)).2 with h | h
      · exact hA b h
      · exact hfr b h
    | 1 =>
      simp at hx hv; subst hx hv
      refine ⟨_, _, rfl, ?_⟩
      have : errP r = .int .i64 (errI r) := by cases r <;> rfl
      rw [this]
      exact .int _ _
    | i + 2 => simp at hx
  · intro b s p ht
    exact Nat.le_of_lt (hown b s p ht)

theorem gS_of {w : World} {g : G} {ty : Ty} {x : PV} {v : Value} (h : PRep Try.prog w g ty x v) : PRep Try.prog w (gS fun b => b < w.heap.size ∧ g.tag b = .free) ty x v :=
  h.ext (Nat.le_refl _) fun b hb ht => ⟨gS_free.2 ⟨hb, ht⟩, rfl⟩

theorem base_ok : CallOk Try.prog (baseB qPut) := by
  refine ⟨fun f az res back h vals w g hargs hfr hvr hown => ?_⟩
  unfold baseB at h
  cases hff : (Nat.beq f 9 || Nat.beq f 10) with
  | false => simp [hff] at h
  | true =>
    simp only [hff, cond_true] at h
    unfold qPut at h
    split at h
    · rename_i t p x
      split at h
      · rename_i hc
        obtain ⟨ht, hx, pl, rfl, hp⟩ := hc
        simp only [Option.some.injEq, Prod.mk.injEq] at h
        obtain ⟨rfl, rfl⟩ := h
        match vals, hargs with
        | [v, vp, vx], ⟨h1, h2, h3, _⟩ =>
          have hpost := fun e w' => put_post (w := w) (A := fun b => b < w.heap.size ∧ g.tag b = .free) (r := putP pl t x) hfr (az := [.pv (.st 27) t, .pv (.sl 3) (.sl pl), .pv (.st 27) x]) rfl hown (fun b h => h.2) e w'
          simp only [Bool.or_eq_true] at hff
          rcases hff with hff | hff
          · have := Nat.eq_of_beq_eq_true hff
            subst this
            obtain ⟨po, pc, rfl, hplr⟩ := pl_open h2
            exact .inl ⟨Try.f9, Try.func9, by kernel_rfl, of_decide_eq_true (by kernel_rfl), (ref9 hx pl t ht w _ v vx po pc (fun b h => h.1) (gS_of h1) hplr (gS_of h3)).mono fun e w' h => hpost e w' h⟩
          · have := Nat.eq_of_beq_eq_true hff
            subst this
            exact .inl ⟨Try.f10, Try.func10, by kernel_rfl, of_decide_eq_true (by kernel_rfl), (put10_c ht hx hp w _ v vp vx (fun b h => h.1) (gS_of h1) (gS_of h2) (gS_of h3)).mono fun e w' h => hpost e w' h⟩
      · cases h
    · cases h

theorem put_ev {t x : PV} {pl : List PV} (ht : IsBlk t) (hx : IsBlk x) (hp : IsPl pl) {f : FuncId} (hf : (Nat.beq f 9 || Nat.beq f 10) = true) (k : Nat) :
    EG qPut k f [.pv (.st 27) t, .pv (.sl 3) (.sl pl), .pv (.st 27) x] = some ([.pv (.st 27) ((putP pl t x).getD zeroB), .pv (.int .i64) (errP (putP pl t x))], []) := by
  have hb : baseB qPut f [.pv (.st 27) t, .pv (.sl 3) (.sl pl), .pv (.st 27) x] = some ([.pv (.st 27) ((putP pl t x).getD zeroB), .pv (.int .i64) (errP (putP pl t x))], []) := by
    unfold baseB
    rw [hf, cond_true]
    exact qPut_eq ht hx hp f
  unfold EG
  cases k with
  | zero => exact hb
  | succ k => simp only [evG, hb]

theorem law_ev {b x : PV} {pl : List PV} (hb : IsBlk b) (hx : IsBlk x) (hp : IsPl pl) : Ev qPut 3 [.pv (.st 27) b, .pv (.st 27) x, .pv (.sl 3) (.sl pl)] [.pv .bool (.bool true)] := by
  have hl : pl.length < 9223372036854775807 := by have := hp.2; unfold room at this; omega
  obtain ⟨zb, Kb, hfb⟩ := few_ev (q := qPut) hb
  obtain ⟨zx, Kx, hfx⟩ := few_ev (q := qPut) hx
  obtain ⟨Ka, hwa⟩ := awake_ev (q := qPut)
  obtain ⟨K7, h7⟩ := at7_ev (q := qPut) (pl := pl) hb hl
  obtain ⟨K8, h8⟩ := at8_ev (q := qPut) hb hp
  have hab := at_blk hb pl
  have hpb := put_blk hb hx pl
  obtain ⟨K1, h1⟩ := same_self (q := qPut) hab
  obtain ⟨K2, h2⟩ := same_self (q := qPut) hpb
  obtain ⟨K3, h3⟩ := same_self (q := qPut) hb
  have hps := atP_put pl b x
  refine Ev.of (Kb + Kx + Ka + K7 + K8 + K1 + K2 + K3) rfl fun k hk => ?_
  have hwa := hwa k (by omega)
  have hfb := hfb k (by omega)
  have hfx := hfx k (by omega)
  have h7 := h7 k (by omega)
  have h8 := h8 k (by omega)
  have h1 := h1 k (by omega)
  have h2 := h2 k (by omega)
  have h3 := h3 k (by omega)
  have h9 := put_ev hb hx hp (f := 9) rfl k
  have h10 := put_ev hb hx hp (f := 10) rfl k
  have h10a := put_ev hb hab hp (f := 10) rfl k
  rw [R3]
  simp only [hb.eta, hx.eta, hfb, okRes, resPV, Ty.eq, decide_true, cond_true, PV.toBool]
  cases zb with
  | false =>
    simp only [Bool.not_false, cond_true]
    rw [J3_2_eq]
    simp only [hwa, okRes, resPV, Ty.eq, decide_true, cond_true]
  | true =>
    simp only [Bool.not_true, cond_false, hfx, okRes, resPV, Ty.eq, decide_true, cond_true, PV.toBool]
    cases zx with
    | false =>
      simp only [Bool.not_false, cond_true]
      rw [J3_2_eq]
      simp only [hwa, okRes, resPV, Ty.eq, decide_true, cond_true]
    | true =>
      simp only [Bool.not_true, cond_false]
      rw [J3_3_eq]
      simp only [hb.eta, hx.eta, h7, h8, h9, h10, okM, okM', res0, res1, cond_true, hab.eta, hpb.eta, h1, h2, okRes, resPV, Ty.eq, decide_true, PV.toBool, Bool.not_true, cond_false]
      rw [eqI_t rfl, eqI_t rfl]
      simp only [Bool.not_true, cond_false]
      rw [J3_9_eq]
      cases ha : atP pl b with
      | none =>
        rw [show errP (none : Option PV) = .int .i64 2 from rfl]
        simp only [toInt_int]
        rw [eqI_f (by decide)]
        simp only [Bool.not_false, cond_true, hwa, okRes, resPV, Ty.eq, decide_true]
      | some y =>
        have hps2 := putP_same hb ha
        rw [ha] at h10a hab
        simp only [Option.getD_some] at h10a hab ⊢
        rw [hps2] at h10a
        simp only [Option.getD_some] at h10a
        rw [show errP (some y : Option PV) = .int .i64 0 from rfl]
        simp only [toInt_int]
        rw [eqI_t rfl]
        simp only [Bool.not_true, cond_false]
        rw [J3_11_eq]
        simp only [hb.eta, hab.eta, h10a, okM, okM', res0, res1, cond_true]
        rw [show errP (some b : Option PV) = .int .i64 0 from rfl]
        simp only [toInt_int]
        rw [eqI_t rfl]
        simp only [cond_true, h3, hwa, okRes, resPV, Ty.eq, decide_true, PV.toBool]
end Go.V

set_option linter.unusedSimpArgs false
set_option linter.unusedVariables false
set_option maxRecDepth 100000
namespace Go.V
open Go.Proofs Go.Proofs.Ytcdkljinnmphjaa

theorem sz_mem : ∀ {l : List PV} {x : PV}, x ∈ l → x.sz ≤ szs l
  | y :: l, x, h => by
    simp only [szs]
    rcases List.mem_cons.1 h with rfl | h
    · omega
    · have := sz_mem h; omega

section
variable {P : Program} {x : PV}
theorem WT.str_inv (h : WT P .str x) : ∃ s, x = .str s := by cases h; exact ⟨_, rfl⟩
theorem WT.int_inv {k : IntKind} (h : WT P (.int k) x) : ∃ n, x = .int k n ∧ (Lit.int k n).wf = true := by cases h with | int _ n h => exact ⟨n, rfl, h⟩
theorem WT.sl_inv {e : TypeId} (h : WT P (.sl e) x) : ∃ l, x = .sl l ∧ (∀ y ∈ l, WT P (tyOf P e) y) ∧ l.length * P.bytesOf e ≤ reachBytes := by
  cases h with
  | sl _ l h hl =>
    refine ⟨l, rfl, fun y hy => ?_, hl⟩
    obtain ⟨i, hi, rfl⟩ := List.mem_iff_getElem.1 hy
    exact h i _ (List.getElem?_eq_getElem hi)
theorem WT.st_inv {t : TypeId} (h : WT P (.st t) x) : ∃ xs, x = .agg xs ∧ xs.length = (cellTys P deep t).length ∧ ∀ (i : Nat) (ty : Ty) (x : PV), (cellTys P deep t)[i]? = some ty → xs[i]? = some x → WT P ty x := by
  cases h with | st _ xs hx h => exact ⟨xs, rfl, hx, h⟩
end

theorem cells38 : cellTys Try.prog deep 38 = [.int .i64, .int .i64] := by kernel_rfl
theorem cells27 : cellTys Try.prog deep 27 = [.str, .str, .int .i64, .int .i64, .sl 38, .str, .int .i64, .int .i64, .str, .str, .sl 27] := by kernel_rfl
theorem ty38 : tyOf Try.prog 38 = .st 38 := by kernel_rfl
theorem ty27 : tyOf Try.prog 27 = .st 27 := by kernel_rfl
theorem bytes38 : Try.prog.bytesOf 38 = 16 := by kernel_rfl
theorem bytes27 : Try.prog.bytesOf 27 = 160 := by kernel_rfl

theorem reach_room : reachBytes ≤ room := by decide

theorem isQ_of {x : PV} (h : WT Try.prog (.st 38) x) : IsQ x := by
  obtain ⟨xs, rfl, hl, hc⟩ := h.st_inv
  rw [cells38] at hl hc
  match xs, hl with
  | [a, b], _ =>
    obtain ⟨n, rfl, hn⟩ := (hc 0 _ a rfl rfl).int_inv
    obtain ⟨d, rfl, hd⟩ := (hc 1 _ b rfl rfl).int_inv
    exact .mk n d hn hd

theorem isBlk_of : ∀ (n : Nat) {x : PV}, x.sz ≤ n → WT Try.prog (.st 27) x → IsBlk x
  | 0, x, hs, h => by
    obtain ⟨xs, rfl, _, _⟩ := h.st_inv
    simp [PV.sz] at hs
  | n + 1, x, hs, h => by
    obtain ⟨xs, rfl, hl, hc⟩ := h.st_inv
    rw [cells27] at hl hc
    match xs, hl with
    | [x0, x1, x2, x3, x4, x5, x6, x7, x8, x9, x10], _ =>
      obtain ⟨op, rfl⟩ := (hc 0 _ x0 rfl rfl).str_inv
      obtain ⟨name, rfl⟩ := (hc 1 _ x1 rfl rfl).str_inv
      obtain ⟨nn, rfl, _⟩ := (hc 2 _ x2 rfl rfl).int_inv
      obtain ⟨mm, rfl, _⟩ := (hc 3 _ x3 rfl rfl).int_inv
      obtain ⟨nums, rfl, hq, hql⟩ := (hc 4 _ x4 rfl rfl).sl_inv
      obtain ⟨fk, rfl⟩ := (hc 5 _ x5 rfl rfl).str_inv
      obtain ⟨fa, rfl, _⟩ := (hc 6 _ x6 rfl rfl).int_inv
      obtain ⟨fb, rfl, _⟩ := (hc 7 _ x7 rfl rfl).int_inv
      obtain ⟨fc, rfl⟩ := (hc 8 _ x8 rfl rfl).str_inv
      obtain ⟨fd, rfl⟩ := (hc 9 _ x9 rfl rfl).str_inv
      obtain ⟨kids, rfl, hk, hkl⟩ := (hc 10 _ x10 rfl rfl).sl_inv
      rw [ty38] at hq
      rw [ty27] at hk
      rw [bytes38] at hql
      rw [bytes27] at hkl
      have hr := reach_room
      refine .mk op name nn mm nums fk fa fb fc fd kids (fun q h => isQ_of (hq q h)) (fun y hy => isBlk_of n ?_ (hk y hy)) (by omega) (by omega)
      have := sz_mem hy
      simp only [PV.sz, szs] at hs
      omega

end Go.V
