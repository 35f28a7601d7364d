/- A region that draws its order, met by one invariant over what is done; trees that own their blocks; one level of block.put, walked. Conditions: those that each theorem names. -/
import Derived.Test.YtcdkljinnmphjaaVC
import Derived.WalkKit
import Derived.Handy
import Derived.RegionTactic
import Derived.Test.YtcdkljinnmphjaaVG
import Derived.Test.YtcdkljinnmphjaaProg
import Derived.Below
import Derived.Laws.OwnMore
import Derived.OwnWalk
import Derived.BigRegion
import Derived.Deep.RegionWith
set_option maxRecDepth 100000
set_option linter.unusedSimpArgs false
set_option linter.unusedVariables false
namespace Go.V
open Go.RowKit

/-- What is asked of one operation: from the state of what is done it leads to the state in which it is done too. -/
def OpInv (P : Program) (Q : Exit → Act → World → Prop) (I : (Nat → Bool) → Act → World → Prop) (i : Nat) (o : Oper) (pre : (Nat → Bool) → Prop) : Prop :=
  ∀ (X : Nat → Bool) (a : Act) (w : World) (K : Act → World → Prop), X i = false → pre X → I X a w → (∀ a' w', I (fun k => X k || decide (k = i)) a' w' → K a' w') → o.wp P a w K Q

theorem closed_set {ops : Array Oper} {X : Nat → Bool} (hC : Closed ops X) {i : Nat} {o : Oper} (ho : ops[i]? = some o) (h2 : ∀ e ∈ o.after, Region.binds .any e = true → X e.on = true) : Closed ops (fun k => X k || decide (k = i)) := by
  intro j oj hj hoj e he hb
  by_cases h : j = i
  · subst h
    rw [ho] at hoj; cases hoj
    simp [h2 e he hb]
  · have : X j = true := by simpa [h] using hj
    simp [hC j oj this hoj e he hb]

/-- A region that draws its order, by one invariant over what is done: no order is walked. -/
theorem region_inv {P : Program} {ops : Array Oper} {Q : Exit → Act → World → Prop} {a : Act} {w : World} {id : Nat} (I : (Nat → Bool) → Act → World → Prop)
    (hm : P.follows .mixedOrders = true) (hB : backEdges 0 ops.toList = true) (hG : ops.toList.all (fun o => o.guard.isNone) = true) (h0 : I (fun _ => false) a w.drew)
    (hstep : ∀ i o, ops[i]? = some o → OpInv P Q I i o (fun X => (∀ e ∈ o.after, Region.binds .any e = true → X e.on = true) ∧ Closed ops X))
    (hfin : ∀ X a w, (∀ k, k < ops.size → X k = true) → I X a w → Q .normal a w) : (Code.region id ops true).wp P Q a w := by
  have hB : ∀ i o, ops[i]? = some o → ∀ e ∈ o.after, Region.binds .any e = true → e.on < i := by
    intro i o ho e he hbd
    have := backEdges_spec hB i o (by rw [Array.getElem?_toList]; exact ho) e he hbd
    omega
  refine wp_region_any hm ?_
  have key : ∀ (fuel : Nat) (X : Nat → Bool) (listed : Array Bool) (a : Act) (w : World), Lst ops listed X → Closed ops X → cnt ops X ≤ fuel → I X a w → wpAny P .any ops Q fuel listed a w := by
    intro fuel
    induction fuel with
    | zero =>
      intro X listed a w hL hC hc hI
      have hall : ∀ k, k < ops.size → X k = true := by
        intro k hk
        cases hX : X k with
        | true => rfl
        | false => have := cnt_lt (ops := ops) (X := X) hk hX; omega
      exact wpAny_all hL hB hall (hfin X a w hall hI) 0
    | succ fuel ih =>
      intro X listed a w hL hC hc hI
      refine ⟨fun hr => hfin X a w (fun k hk => ?_) hI, fun i hi => ?_⟩
      · obtain ⟨hall⟩ : Nonempty (∀ k, k < ops.size → X k = true) := by
          refine ⟨fun k => ?_⟩
          induction k using Nat.strongRecOn with
          | _ k ihk =>
            intro hk
            cases hX : X k with
            | true => rfl
            | false =>
              have ho := Array.getElem?_eq_getElem hk
              have : k ∈ Region.ready .any ops listed := (ready_iff hL hB k).2 ⟨_, ho, hX, fun e he hb => ihk _ (hB k _ ho e he hb) (Nat.lt_trans (hB k _ ho e he hb) hk)⟩
              rw [hr] at this; cases this
        exact hall k hk
      · obtain ⟨o, ho, h1, h2⟩ := (ready_iff hL hB i).1 hi
        have hin := (Array.getElem?_eq_some_iff.1 ho).1
        have hg : o.guard = none := by
          have := List.all_eq_true.1 hG o (List.mem_of_getElem? (by rw [Array.getElem?_toList]; exact ho))
          simpa using this
        unfold wpOp
        simp only [ho]
        rw [wanted_none hg, if_pos rfl]
        left
        exact hstep i o ho X a w _ h1 ⟨h2, hC⟩ hI (fun a' w' hI' => ih _ _ a' w' (hL.set i) (closed_set hC ho h2) (by have := cnt_lt (ops := ops) (X := X) (i := i) hin h1; omega) hI')
  exact key ops.size (fun _ => false) _ a _ ⟨by simp, fun k hk => by simp [hk]⟩ (fun i o h => by cases h) (by unfold cnt; exact Nat.le_trans (List.length_filter_le _ _) (by simp)) h0
end Go.V

set_option maxRecDepth 100000
set_option linter.unusedSimpArgs false
set_option linter.unusedVariables false
namespace Go.V
open Go.Proofs Go.RowKit

/-- Only blocks from lo up to hi may be stood on. -/
def gR (lo hi : Nat) : G := { tag := fun b => if lo ≤ b ∧ b < hi then .free else .out, val := fun _ _ => undef }

theorem gR_free {lo hi b : Nat} : (gR lo hi).tag b = .free ↔ (lo ≤ b ∧ b < hi) := by
  unfold gR
  by_cases h : lo ≤ b ∧ b < hi
  · simp [h]
  · simp [h]

/-- The value of a block: 'vn' its numbers, 'vk' its kids. -/
def blkV (op name : ByteArray) (n m : Int) (vn : Value) (fk : ByteArray) (fa fb : Int) (fc fd : ByteArray) (vk : Value) : Value :=
  .agg #[.string op, .string name, .int .i64 n, .int .i64 m, vn, .string fk, .int .i64 fa, .int .i64 fb, .string fc, .string fd, vk]
def blkP (op name : ByteArray) (n m : Int) (nums : List PV) (fk : ByteArray) (fa fb : Int) (fc fd : ByteArray) (kids : List PV) : PV :=
  .agg [.str op, .str name, .int .i64 n, .int .i64 m, .sl nums, .str fk, .int .i64 fa, .int .i64 fb, .str fc, .str fd, .sl kids]

/-- A block's value whose slices are written out. -/
def IsV (v : Value) : Prop := ∃ op name n m o l c fk fa fb fc fd o' l' c', v = blkV op name n m (.slice o l c) fk fa fb fc fd (.slice o' l' c')

theorem ownsRow_keep {w w' : World} {base : Nat} {e : TypeId} {size : Nat} {v : Value} {n : Nat} {xs : List Value} (h : w.ownsRow base e size v n xs) (hf : ∀ b, v.ownBlock = some b → w'.heap[b]? = w.heap[b]?) : w'.ownsRow base e size v n xs := by
  refine ⟨h.1, ?_⟩
  rcases h.2 with h2 | ⟨g, cap, cur, rfl, hg, hh, r⟩
  · exact .inl h2
  · exact .inr ⟨g, cap, cur, rfl, hg, by rw [hf g rfl]; exact hh, r⟩

/-- A tree that owns all its blocks: they lie from lo up to hi; its numbers lie below m0; the kids' array is one block of its own; each kid has a part of its own. -/
inductive OTree (w : World) : Nat → Nat → PV → Value → Prop
  | mk (lo hi m0 : Nat) (op name : ByteArray) (n m : Int) (nums : List PV) (fk : ByteArray) (fa fb : Int) (fc fd : ByteArray) (on : Option Addr) (ln cn : Nat) (ok : Option Addr) (lk ck : Nat) (kids : List PV) (xs : List Value) (f : Nat → Value) (l h : Nat → Nat)
      (hm : lo ≤ m0 ∧ m0 ≤ hi)
      (hn : PRep Try.prog w (gR lo m0) (.sl 38) (.sl nums) (.slice on ln cn))
      (hown : w.ownsRow m0 27 11 (.slice ok lk ck) kids.length xs)
      (hb : ∀ b, (Value.slice ok lk ck).ownBlock = some b → b < hi)
      (hv : ∀ i, i < kids.length → IsV (f i))
      (hc : ∀ i, i < kids.length → ∀ j, j < 11 → xs[i * 11 + j]? = (f i).cells[j]?)
      (hl : ∀ i, i < kids.length → m0 ≤ l i ∧ l i ≤ h i ∧ h i ≤ hi ∧ ∀ b, (Value.slice ok lk ck).ownBlock = some b → ¬ (l i ≤ b ∧ b < h i))
      (hs : ∀ i j, i < kids.length → j < kids.length → i ≠ j → h i ≤ l j ∨ h j ≤ l i)
      (hk : ∀ (i : Nat) (y : PV), kids[i]? = some y → OTree w (l i) (h i) y (f i)) :
      OTree w lo hi (blkP op name n m nums fk fa fb fc fd kids) (blkV op name n m (.slice on ln cn) fk fa fb fc fd (.slice ok lk ck))

theorem OTree.isV {w : World} {lo hi : Nat} {x : PV} {v : Value} (h : OTree w lo hi x v) : IsV v := by
  cases h with
  | mk lo hi m0 op name n m nums fk fa fb fc fd on ln cn ok lk ck => exact ⟨op, name, n, m, on, ln, cn, fk, fa, fb, fc, fd, ok, lk, ck, rfl⟩

theorem OTree.ext {w w' : World} {lo hi : Nat} {x : PV} {v : Value} (h : OTree w lo hi x v) (hs : w.heap.size ≤ w'.heap.size) (hf : ∀ b, lo ≤ b → b < hi → w'.heap[b]? = w.heap[b]?) : OTree w' lo hi x v := by
  induction h with
  | mk lo hi m0 op name n m nums fk fa fb fc fd on ln cn ok lk ck kids xs f l h hm hn hown hb hv hc hl hsep _ ih =>
    refine .mk lo hi m0 op name n m nums fk fa fb fc fd on ln cn ok lk ck kids xs f l h hm (hn.ext hs fun b _ ht => ⟨ht, hf b (gR_free.1 ht).1 (Nat.lt_of_lt_of_le (gR_free.1 ht).2 hm.2)⟩)
      (ownsRow_keep hown fun b hbk => hf b (Nat.le_trans hm.1 (hown.lt b hbk).1) (hb b hbk)) hb hv hc hl hsep (fun i y hy => ih i y hy fun c h1 h2 => ?_)
    obtain ⟨a1, a2, a3, _⟩ := hl i (List.getElem?_eq_some_iff.1 hy).1
    exact hf c (by omega) (by omega)

theorem cBlk : cellTys Try.prog deep 27 = [.str, .str, .int .i64, .int .i64, .sl 38, .str, .int .i64, .int .i64, .str, .str, .sl 27] := by kernel_rfl
theorem tBlk : tyOf Try.prog 27 = .st 27 := by kernel_rfl
theorem nBlk : Try.prog.cellsOf 27 = 11 := by kernel_rfl

theorem rep_blk {w : World} {g : G} {op name : ByteArray} {n m : Int} {nums : List PV} {fk : ByteArray} {fa fb : Int} {fc fd : ByteArray} {kids : List PV} {vn vk : Value}
    (hn : PRep Try.prog w g (.sl 38) (.sl nums) vn) (hk : PRep Try.prog w g (.sl 27) (.sl kids) vk) : PRep Try.prog w g (.st 27) (blkP op name n m nums fk fa fb fc fd kids) (blkV op name n m vn fk fa fb fc fd vk) := by
  refine .st 27 _ [.string op, .string name, .int .i64 n, .int .i64 m, vn, .string fk, .int .i64 fa, .int .i64 fb, .string fc, .string fd, vk] (by rw [cBlk]; rfl) (by rw [cBlk]; rfl) (fun i ty x c h1 h2 h3 => ?_)
  rw [cBlk] at h1
  match i with
  | 0 => simp at h1 h2 h3; subst h1 h2 h3; exact .str _
  | 1 => simp at h1 h2 h3; subst h1 h2 h3; exact .str _
  | 2 => simp at h1 h2 h3; subst h1 h2 h3; exact .int _ _
  | 3 => simp at h1 h2 h3; subst h1 h2 h3; exact .int _ _
  | 4 => simp at h1 h2 h3; subst h1 h2 h3; exact hn
  | 5 => simp at h1 h2 h3; subst h1 h2 h3; exact .str _
  | 6 => simp at h1 h2 h3; subst h1 h2 h3; exact .int _ _
  | 7 => simp at h1 h2 h3; subst h1 h2 h3; exact .int _ _
  | 8 => simp at h1 h2 h3; subst h1 h2 h3; exact .str _
  | 9 => simp at h1 h2 h3; subst h1 h2 h3; exact .str _
  | 10 => simp at h1 h2 h3; subst h1 h2 h3; exact hk
  | i + 11 => simp at h1

/-- A row of blocks as a pure value. -/
theorem kids_rep {w : World} {g : G} {m0 : Nat} {ok : Option Addr} {lk ck : Nat} {kids : List PV} {xs : List Value} {f : Nat → Value} (hown : w.ownsRow m0 27 11 (.slice ok lk ck) kids.length xs)
    (hc : ∀ i, i < kids.length → ∀ j, j < 11 → xs[i * 11 + j]? = (f i).cells[j]?) (hg : ∀ b, (Value.slice ok lk ck).ownBlock = some b → g.tag b = .free)
    (hk : ∀ (i : Nat) (y : PV), kids[i]? = some y → PRep Try.prog w g (.st 27) y (f i)) : PRep Try.prog w g (.sl 27) (.sl kids) (.slice ok lk ck) := by
  rcases hown.2 with ⟨h1, h2⟩ | ⟨b, cap, cur, h1, h2, h3, h4, h5, h6, h7⟩
  · simp only [Value.slice.injEq] at h1
    obtain ⟨rfl, rfl, rfl⟩ := h1
    have : kids = [] := List.eq_nil_of_length_eq_zero h2
    subst this
    exact .nsl _
  · simp only [Value.slice.injEq] at h1
    obtain ⟨rfl, rfl, rfl⟩ := h1
    have hbs : b < w.heap.size := by
      rcases Nat.lt_or_ge b w.heap.size with h' | h'
      · exact h'
      · rw [Array.getElem?_eq_none h'] at h3; cases h3
    refine .sl 27 kids b 0 ck f (fun i y hy => ?_) (fun i hi j hj => ?_) (hg b rfl) hbs h4
    · rw [tBlk]; exact hk i y hy
    · rw [nBlk] at hj ⊢
      rw [Nat.zero_add, ← hc i hi j hj]
      exact hown.cellAt (i * 11 + j) (by have : i * 11 + 11 ≤ kids.length * 11 := by omega
                                         omega)

/-- Such a tree is a pure value too. -/
theorem OTree.prep {w : World} {lo hi : Nat} {x : PV} {v : Value} (h : OTree w lo hi x v) {g : G} (hg : ∀ b, lo ≤ b → b < hi → b < w.heap.size → g.tag b = .free) : PRep Try.prog w g (.st 27) x v := by
  induction h with
  | mk lo hi m0 op name n m nums fk fa fb fc fd on ln cn ok lk ck kids xs f l h hm hn hown hb hv hc hl hsep _ ih =>
    refine rep_blk (hn.ext (Nat.le_refl _) fun b hbs ht => ⟨hg b (gR_free.1 ht).1 (Nat.lt_of_lt_of_le (gR_free.1 ht).2 hm.2) hbs, rfl⟩) (kids_rep hown hc (fun b hbk => hg b (Nat.le_trans hm.1 (hown.lt b hbk).1) (hb b hbk) (hown.lt b hbk).2) (fun i y hy => ?_))
    obtain ⟨a1, a2, a3, _⟩ := hl i (List.getElem?_eq_some_iff.1 hy).1
    exact ih i y hy fun c h1 h2 h3 => hg c (by omega) (by omega) h3
end Go.V

set_option maxRecDepth 100000
set_option linter.unusedSimpArgs false
set_option linter.unusedVariables false
namespace Go.V
open Go.Proofs Go.RowKit

theorem put_zero (w : World) (op name : ByteArray) (n m : Int) (o1 : Option Addr) (l1 c1 : Nat) (fk : ByteArray) (fa fb : Int) (fc fd : ByteArray) (o2 : Option Addr) (l2 c2 : Nat) (a : Option Addr) (cap : Nat)
    (op' name' : ByteArray) (n' m' : Int) (o3 : Option Addr) (l3 c3 : Nat) (fk' : ByteArray) (fa' fb' : Int) (fc' fd' : ByteArray) (o4 : Option Addr) (l4 c4 : Nat) :
    Calls Try.prog 30 #[blkV op name n m (.slice o1 l1 c1) fk fa fb fc fd (.slice o2 l2 c2), .slice a 0 cap, blkV op' name' n' m' (.slice o3 l3 c3) fk' fa' fb' fc' fd' (.slice o4 l4 c4)] w fun e w' =>
      e = .returned (blkV op' name' n' m' (.slice o3 l3 c3) fk' fa' fb' fc' fd' (.slice o4 l4 c4)) ∧ Below w.heap.size w w' := by
  unfold blkV
  go_enter Try.func30, Try.ntmps30
  go_wp2_with fail
  all_goals go_returns
  all_goals exact ⟨rfl, by go_grown⟩
end Go.V

set_option maxRecDepth 100000
set_option maxHeartbeats 4000000
set_option linter.unusedSimpArgs false
set_option linter.unusedVariables false
namespace Go.V
open Go.Proofs Go.RowKit

theorem b_alloc {w W : World} (h : Below w.heap.size w W) (o : Obj) : Below w.heap.size w (W.alloc o) := h.alloc h.size o
theorem b_drew {w W : World} (h : Below w.heap.size w W) : Below w.heap.size w W.drew := h.drew

/-- What a call of put does to a world: it writes in the range from lo to hi and in new blocks only. -/
structure Wrt (lo hi : Nat) (w w' : World) : Prop where
  os : w'.os = w.os
  tape : w'.tape = w.tape
  output : w'.output = w.output
  size : w.heap.size ≤ w'.heap.size
  keep : ∀ b, b < w.heap.size → ¬ (lo ≤ b ∧ b < hi) → w'.heap[b]? = w.heap[b]?

theorem Wrt.trans {lo hi : Nat} {a b c : World} (h : Wrt lo hi a b) (k : Wrt lo hi b c) : Wrt lo hi a c :=
  ⟨k.os.trans h.os, k.tape.trans h.tape, k.output.trans h.output, Nat.le_trans h.size k.size, fun i hi hn => (k.keep i (Nat.lt_of_lt_of_le hi h.size) hn).trans (h.keep i hi hn)⟩
theorem Wrt.of_below {lo hi : Nat} {a b : World} (h : Below a.heap.size a b) : Wrt lo hi a b := ⟨h.os, h.tape, h.output, h.size, fun i hi _ => h.block i hi⟩
theorem Wrt.cell {lo hi : Nat} {w w' : World} (h : Wrt lo hi w w') {b o : Nat} (hb : b < w.heap.size) (hn : ¬ (lo ≤ b ∧ b < hi)) : w'.cell? ⟨b, o, none⟩ = w.cell? ⟨b, o, none⟩ := World.cell?_of_block (w := w) (h.keep b hb hn)
theorem Wrt.frozen {lo hi : Nat} {w w' : World} (h : Wrt lo hi w w') {b o : Nat} (hb : b < w.heap.size) (hn : ¬ (lo ≤ b ∧ b < hi)) : w'.frozen? ⟨b, o, none⟩ = w.frozen? ⟨b, o, none⟩ := World.frozen?_of_block (w := w) (h.keep b hb hn)

/-- One block alone is written. -/
structure Tch (b : Nat) (w w' : World) : Prop where
  os : w'.os = w.os
  tape : w'.tape = w.tape
  output : w'.output = w.output
  size : w'.heap.size = w.heap.size
  block : ∀ k, k ≠ b → w'.heap[k]? = w.heap[k]?
theorem Tch.refl (b : Nat) (w : World) : Tch b w w := ⟨rfl, rfl, rfl, rfl, fun _ _ => rfl⟩
theorem Tch.set {b : Nat} {w W : World} (h : Tch b w W) (o : Nat) (u : Value) : Tch b w (W.setCell ⟨b, o, none⟩ u) :=
  ⟨h.os, h.tape, h.output, by rw [← h.size]; simp [World.setCell], fun k hk => (Below.heap_setCell _ _ _ _ hk).trans (h.block k hk)⟩
theorem Tch.drew {b : Nat} {w W : World} (h : Tch b w W) : Tch b w W.drew := ⟨h.os, h.tape, h.output, h.size, h.block⟩
theorem Tch.wrt {lo hi b : Nat} {w W : World} (h : Tch b w W) (hb : lo ≤ b ∧ b < hi) : Wrt lo hi w W := ⟨h.os, h.tape, h.output, Nat.le_of_eq h.size.symm, fun k _ hn => h.block k (fun e => hn (e ▸ hb))⟩

open Classical in
/-- Only the blocks of S may be stood on. -/
noncomputable def gS (S : Nat → Prop) : G := { tag := fun b => if S b then .free else .out, val := fun _ _ => undef }
theorem gS_free {S : Nat → Prop} {b : Nat} : (gS S).tag b = .free ↔ S b := by
  unfold gS
  by_cases h : S b <;> simp [h]

/-- The invariant of put's first region that draws. -/
def I3 (s : Nat) (w0 W3 : World) (lk hk : Nat) (old : Nat → Prop) (y : PV) (v0 v1 v2 : Value) (B l2 c2 pb po po1 pl pc k : Nat) (x0 x1 x2 x3 x4 x5 x6 x7 x8 x9 x10 x11 x12 : Bool) (a : Act) (w : World) : Prop :=
  ∃ (S : Nat → Prop) (t7 t12 t13 t14 t15 t16 t17 t18 t19 t20 t21 t22 : Value), a = ⟨#[v0, .slice (some ⟨pb, po, none⟩) (pl + 1) pc, v1, .pointer (some ⟨s, 0, none⟩), undef, .pointer (some ⟨s + 1, 0, none⟩), .pointer (some ⟨s + 1 + 1, 0, none⟩), t7, .slice (some ⟨pb, po, none⟩) (pl + 1) pc, .int .i64 ((pl : Int) + 1), .bool false, undef, t12, t13, t14, t15, t16, t17, t18, t19, t20, t21, t22, undef, undef, undef, undef, undef, undef, undef, undef], []⟩ ∧
    (x0 = true → t12 = (.pointer (some ⟨s, 10, none⟩))) ∧
    (x1 = true → t13 = (.slice (some ⟨B, 0, none⟩) l2 c2)) ∧
    (x2 = true → t14 = (.slice (some ⟨pb, po, none⟩) (pl + 1) pc)) ∧
    (x3 = true → t15 = (.pointer (some ⟨pb, po, none⟩))) ∧
    (x4 = true → t16 = (.int .i64 k)) ∧
    (x5 = true → t17 = (.pointer (some ⟨B, k * 11, none⟩))) ∧
    (x6 = true → t18 = v2) ∧
    (x7 = true → t19 = (.slice (some ⟨pb, po, none⟩) (pl + 1) pc)) ∧
    (x8 = true → t20 = (.slice (some ⟨pb, po1, none⟩) pl (pc - 1))) ∧
    (x9 = true → t21 = v1) ∧
    Wrt lk hk W3 w ∧ (x10 = false → Below W3.heap.size W3 w) ∧
    (∀ b, S b → b < w.heap.size ∧ (old b ∨ s + 3 ≤ b)) ∧ (x10 = true → IsV t22 ∧ PRep Try.prog w (gS S) (.st 27) y t22) ∧
    (x11 = true → ∃ N, t7 = .pointer (some ⟨N, 0, none⟩) ∧ s + 3 ≤ N ∧ N < w.heap.size ∧ ¬ S N ∧ (∀ j, j < 11 → (∃ u, w.cell? ⟨N, j, none⟩ = some u) ∧ w.frozen? ⟨N, j, none⟩ = false) ∧
      (x12 = true → ∀ j, j < 11 → w.cell? ⟨N, j, none⟩ = t22.cells[j]?))

/-- The invariant of put's second region that draws. -/
def I4 (mk : Value → Value → Value → Value → Value → Value → Value → Act) (W6 W7 : World) (v23 v24 v25 v26 v27 v28 v29 : Value) (x0 x1 x2 x3 x4 x5 x6 x7 : Bool) (a : Act) (w : World) : Prop :=
  ∃ t23 t24 t25 t26 t27 t28 t29 : Value, a = mk t23 t24 t25 t26 t27 t28 t29 ∧ (x0 = true → t23 = v23) ∧ (x1 = true → t24 = v24) ∧ (x2 = true → t25 = v25) ∧ (x3 = true → t26 = v26) ∧ (x4 = true → t27 = v27) ∧ (x5 = true → t28 = v28) ∧ (x6 = true → t29 = v29) ∧
    (x7 = false → w = W6) ∧ (x7 = true → w = W7)


theorem put_step (w : World) (op name : ByteArray) (n m : Int) (o1 : Option Addr) (l1 c1 : Nat) (fk : ByteArray) (fa fb : Int) (fc fd : ByteArray) (B l2 c2 : Nat) (pb po pl pc : Nat) (k : Nat) (hk : k < l2)
    (op' name' : ByteArray) (n' m' : Int) (o3 : Option Addr) (l3 c3 : Nat) (fk' : ByteArray) (fa' fb' : Int) (fc' fd' : ByteArray) (o4 : Option Addr) (l4 c4 : Nat)
    (hp : w.cell? ⟨pb, po, none⟩ = some (.int .i64 k)) (hpc : pl + 1 ≤ pc) (po1 : Nat) (hpo : (pc = 1 ∧ po1 = po) ∨ (1 < pc ∧ po1 = po + 1))
    (op2 name2 : ByteArray) (n2 m2 : Int) (o5 : Option Addr) (l5 c5 : Nat) (fk2 : ByteArray) (fa2 fb2 : Int) (fc2 fd2 : ByteArray) (o6 : Option Addr) (l6 c6 : Nat)
    (lk hk2 : Nat) (hkw : hk2 ≤ w.heap.size) (hkB : ¬ (lk ≤ B ∧ B < hk2)) (hkp : ¬ (lk ≤ pb ∧ pb < hk2)) (fB : ∀ j, w.frozen? ⟨B, j, none⟩ = false) (old : Nat → Prop) (hold : ∀ b, old b → b < w.heap.size ∧ b ≠ B) (y : PV)
    (ih : ∀ W, Below w.heap.size w W → Calls Try.prog 30 #[.agg #[.string op2, .string name2, .int .i64 n2, .int .i64 m2, .slice o5 l5 c5, .string fk2, .int .i64 fa2, .int .i64 fb2, .string fc2, .string fd2, .slice o6 l6 c6], .slice (some ⟨pb, po1, none⟩) pl (pc - 1), .agg #[.string op', .string name', .int .i64 n', .int .i64 m', .slice o3 l3 c3, .string fk', .int .i64 fa', .int .i64 fb', .string fc', .string fd', .slice o4 l4 c4]] W fun e w' =>
      ∃ v3 S, e = .returned v3 ∧ IsV v3 ∧ Wrt lk hk2 W w' ∧ PRep Try.prog w' (gS S) (.st 27) y v3 ∧ ∀ b, S b → b < w'.heap.size ∧ (old b ∨ W.heap.size ≤ b))
    (k0 : ∀ j, j < 11 → w.cell? ⟨B, k * 11 + j, none⟩ = (.agg #[.string op2, .string name2, .int .i64 n2, .int .i64 m2, .slice o5 l5 c5, .string fk2, .int .i64 fa2, .int .i64 fb2, .string fc2, .string fd2, .slice o6 l6 c6] : Value).cells[j]?) :
    Calls Try.prog 30 #[.agg #[.string op, .string name, .int .i64 n, .int .i64 m, .slice o1 l1 c1, .string fk, .int .i64 fa, .int .i64 fb, .string fc, .string fd, .slice (some ⟨B, 0, none⟩) l2 c2], .slice (some ⟨pb, po, none⟩) (pl + 1) pc, .agg #[.string op', .string name', .int .i64 n', .int .i64 m', .slice o3 l3 c3, .string fk', .int .i64 fa', .int .i64 fb', .string fc', .string fd', .slice o4 l4 c4]] w fun e w' => ∃ v3 S, e = .returned (.agg #[.string op, .string name, .int .i64 n, .int .i64 m, .slice o1 l1 c1, .string fk, .int .i64 fa, .int .i64 fb, .string fc, .string fd, .slice (some ⟨B, 0, none⟩) l2 c2]) ∧ IsV v3 ∧ PRep Try.prog w' (gS S) (.st 27) y v3 ∧ (∀ b, S b → b < w'.heap.size ∧ (old b ∨ w.heap.size + 3 ≤ b)) ∧
      w'.os = w.os ∧ w'.tape = w.tape ∧ w'.output = w.output ∧ w.heap.size ≤ w'.heap.size ∧ (∀ b, b < w.heap.size → ¬ (lk ≤ b ∧ b < hk2) → b ≠ B → w'.heap[b]? = w.heap[b]?) ∧
      (∀ j, j < 11 → w'.cell? ⟨B, k * 11 + j, none⟩ = v3.cells[j]?) ∧ (∀ o, (o < k * 11 ∨ k * 11 + 11 ≤ o) → w'.cell? ⟨B, o, none⟩ = w.cell? ⟨B, o, none⟩) := by
  go_enter Try.func30, Try.ntmps30
  have hk' : (k : Int) < (l2 : Int) := by omega
  have hlt : B < w.heap.size := World.block_lt_of_cell? _ _ (k0 0 (by decide))
  have hlp : pb < w.heap.size := World.block_lt_of_cell? _ _ hp
  go_wp2_with fail
  obtain ⟨W3, hW3⟩ : ∃ W3, W3 = ((w.alloc (.cells #[.string op, .string name, .int .i64 n, .int .i64 m, .slice o1 l1 c1, .string fk, .int .i64 fa, .int .i64 fb, .string fc, .string fd, .slice (some ⟨B, 0, none⟩) l2 c2] 27)).alloc (.cells #[.string op', .string name', .int .i64 n', .int .i64 m', .slice o3 l3 c3, .string fk', .int .i64 fa', .int .i64 fb', .string fc', .string fd', .slice o4 l4 c4] 27)).alloc (.cells #[.string ⟨#[]⟩, .string ⟨#[]⟩, .int .i64 0, .int .i64 0, .slice none 0 0, .string ⟨#[]⟩, .int .i64 0, .int .i64 0, .string ⟨#[]⟩, .string ⟨#[]⟩, .slice none 0 0] 27) := ⟨_, rfl⟩
  have hb3 : Below w.heap.size w W3 := by rw [hW3]; exact (((Below.refl w.heap.size w).alloc (Nat.le_refl _) _).alloc (by simp) _).alloc (by simp; omega) _
  have e1 : W3.cell? ⟨pb, po, none⟩ = some (.int .i64 k) := by rw [World.cell?_of_block (w := w) (hb3.block pb hlp)]; exact hp
  have hs3 : W3.heap.size = w.heap.size + 3 := by rw [hW3]; simp
  have q0 : W3.cell? ⟨B, k * 11, none⟩ = some (.string op2) := by rw [World.cell?_of_block (w := w) (hb3.block B hlt)]; exact k0 0 (by decide)
  have f0 : W3.cell? ⟨w.heap.size, 0, none⟩ = some (.string op) := by rw [hW3]; go_simp
  have g0 : W3.cell? ⟨w.heap.size + 1, 0, none⟩ = some (.string op') := by rw [hW3]; go_simp
  have r0 : W3.cell? ⟨w.heap.size + 1 + 1, 0, none⟩ = some (.string ⟨#[]⟩) := by rw [hW3]; go_simp
  have rz0 : W3.frozen? ⟨w.heap.size + 1 + 1, 0, none⟩ = false := by rw [hW3]; go_simp
  have q1 : W3.cell? ⟨B, k * 11 + 1, none⟩ = some (.string name2) := by rw [World.cell?_of_block (w := w) (hb3.block B hlt)]; exact k0 1 (by decide)
  have f1 : W3.cell? ⟨w.heap.size, 1, none⟩ = some (.string name) := by rw [hW3]; go_simp
  have g1 : W3.cell? ⟨w.heap.size + 1, 1, none⟩ = some (.string name') := by rw [hW3]; go_simp
  have r1 : W3.cell? ⟨w.heap.size + 1 + 1, 1, none⟩ = some (.string ⟨#[]⟩) := by rw [hW3]; go_simp
  have rz1 : W3.frozen? ⟨w.heap.size + 1 + 1, 1, none⟩ = false := by rw [hW3]; go_simp
  have q2 : W3.cell? ⟨B, k * 11 + 2, none⟩ = some (.int .i64 n2) := by rw [World.cell?_of_block (w := w) (hb3.block B hlt)]; exact k0 2 (by decide)
  have f2 : W3.cell? ⟨w.heap.size, 2, none⟩ = some (.int .i64 n) := by rw [hW3]; go_simp
  have g2 : W3.cell? ⟨w.heap.size + 1, 2, none⟩ = some (.int .i64 n') := by rw [hW3]; go_simp
  have r2 : W3.cell? ⟨w.heap.size + 1 + 1, 2, none⟩ = some (.int .i64 0) := by rw [hW3]; go_simp
  have rz2 : W3.frozen? ⟨w.heap.size + 1 + 1, 2, none⟩ = false := by rw [hW3]; go_simp
  have q3 : W3.cell? ⟨B, k * 11 + 3, none⟩ = some (.int .i64 m2) := by rw [World.cell?_of_block (w := w) (hb3.block B hlt)]; exact k0 3 (by decide)
  have f3 : W3.cell? ⟨w.heap.size, 3, none⟩ = some (.int .i64 m) := by rw [hW3]; go_simp
  have g3 : W3.cell? ⟨w.heap.size + 1, 3, none⟩ = some (.int .i64 m') := by rw [hW3]; go_simp
  have r3 : W3.cell? ⟨w.heap.size + 1 + 1, 3, none⟩ = some (.int .i64 0) := by rw [hW3]; go_simp
  have rz3 : W3.frozen? ⟨w.heap.size + 1 + 1, 3, none⟩ = false := by rw [hW3]; go_simp
  have q4 : W3.cell? ⟨B, k * 11 + 4, none⟩ = some (.slice o5 l5 c5) := by rw [World.cell?_of_block (w := w) (hb3.block B hlt)]; exact k0 4 (by decide)
  have f4 : W3.cell? ⟨w.heap.size, 4, none⟩ = some (.slice o1 l1 c1) := by rw [hW3]; go_simp
  have g4 : W3.cell? ⟨w.heap.size + 1, 4, none⟩ = some (.slice o3 l3 c3) := by rw [hW3]; go_simp
  have r4 : W3.cell? ⟨w.heap.size + 1 + 1, 4, none⟩ = some (.slice none 0 0) := by rw [hW3]; go_simp
  have rz4 : W3.frozen? ⟨w.heap.size + 1 + 1, 4, none⟩ = false := by rw [hW3]; go_simp
  have q5 : W3.cell? ⟨B, k * 11 + 5, none⟩ = some (.string fk2) := by rw [World.cell?_of_block (w := w) (hb3.block B hlt)]; exact k0 5 (by decide)
  have f5 : W3.cell? ⟨w.heap.size, 5, none⟩ = some (.string fk) := by rw [hW3]; go_simp
  have g5 : W3.cell? ⟨w.heap.size + 1, 5, none⟩ = some (.string fk') := by rw [hW3]; go_simp
  have r5 : W3.cell? ⟨w.heap.size + 1 + 1, 5, none⟩ = some (.string ⟨#[]⟩) := by rw [hW3]; go_simp
  have rz5 : W3.frozen? ⟨w.heap.size + 1 + 1, 5, none⟩ = false := by rw [hW3]; go_simp
  have q6 : W3.cell? ⟨B, k * 11 + 6, none⟩ = some (.int .i64 fa2) := by rw [World.cell?_of_block (w := w) (hb3.block B hlt)]; exact k0 6 (by decide)
  have f6 : W3.cell? ⟨w.heap.size, 6, none⟩ = some (.int .i64 fa) := by rw [hW3]; go_simp
  have g6 : W3.cell? ⟨w.heap.size + 1, 6, none⟩ = some (.int .i64 fa') := by rw [hW3]; go_simp
  have r6 : W3.cell? ⟨w.heap.size + 1 + 1, 6, none⟩ = some (.int .i64 0) := by rw [hW3]; go_simp
  have rz6 : W3.frozen? ⟨w.heap.size + 1 + 1, 6, none⟩ = false := by rw [hW3]; go_simp
  have q7 : W3.cell? ⟨B, k * 11 + 7, none⟩ = some (.int .i64 fb2) := by rw [World.cell?_of_block (w := w) (hb3.block B hlt)]; exact k0 7 (by decide)
  have f7 : W3.cell? ⟨w.heap.size, 7, none⟩ = some (.int .i64 fb) := by rw [hW3]; go_simp
  have g7 : W3.cell? ⟨w.heap.size + 1, 7, none⟩ = some (.int .i64 fb') := by rw [hW3]; go_simp
  have r7 : W3.cell? ⟨w.heap.size + 1 + 1, 7, none⟩ = some (.int .i64 0) := by rw [hW3]; go_simp
  have rz7 : W3.frozen? ⟨w.heap.size + 1 + 1, 7, none⟩ = false := by rw [hW3]; go_simp
  have q8 : W3.cell? ⟨B, k * 11 + 8, none⟩ = some (.string fc2) := by rw [World.cell?_of_block (w := w) (hb3.block B hlt)]; exact k0 8 (by decide)
  have f8 : W3.cell? ⟨w.heap.size, 8, none⟩ = some (.string fc) := by rw [hW3]; go_simp
  have g8 : W3.cell? ⟨w.heap.size + 1, 8, none⟩ = some (.string fc') := by rw [hW3]; go_simp
  have r8 : W3.cell? ⟨w.heap.size + 1 + 1, 8, none⟩ = some (.string ⟨#[]⟩) := by rw [hW3]; go_simp
  have rz8 : W3.frozen? ⟨w.heap.size + 1 + 1, 8, none⟩ = false := by rw [hW3]; go_simp
  have q9 : W3.cell? ⟨B, k * 11 + 9, none⟩ = some (.string fd2) := by rw [World.cell?_of_block (w := w) (hb3.block B hlt)]; exact k0 9 (by decide)
  have f9 : W3.cell? ⟨w.heap.size, 9, none⟩ = some (.string fd) := by rw [hW3]; go_simp
  have g9 : W3.cell? ⟨w.heap.size + 1, 9, none⟩ = some (.string fd') := by rw [hW3]; go_simp
  have r9 : W3.cell? ⟨w.heap.size + 1 + 1, 9, none⟩ = some (.string ⟨#[]⟩) := by rw [hW3]; go_simp
  have rz9 : W3.frozen? ⟨w.heap.size + 1 + 1, 9, none⟩ = false := by rw [hW3]; go_simp
  have q10 : W3.cell? ⟨B, k * 11 + 10, none⟩ = some (.slice o6 l6 c6) := by rw [World.cell?_of_block (w := w) (hb3.block B hlt)]; exact k0 10 (by decide)
  have f10 : W3.cell? ⟨w.heap.size, 10, none⟩ = some (.slice (some ⟨B, 0, none⟩) l2 c2) := by rw [hW3]; go_simp
  have g10 : W3.cell? ⟨w.heap.size + 1, 10, none⟩ = some (.slice o4 l4 c4) := by rw [hW3]; go_simp
  have r10 : W3.cell? ⟨w.heap.size + 1 + 1, 10, none⟩ = some (.slice none 0 0) := by rw [hW3]; go_simp
  have rz10 : W3.frozen? ⟨w.heap.size + 1 + 1, 10, none⟩ = false := by rw [hW3]; go_simp
  have fB3 : ∀ j, W3.frozen? ⟨B, j, none⟩ = false := fun j => by rw [World.frozen?_of_block (w := w) (hb3.block B hlt)]; exact fB j
  rw [← hW3]
  clear hW3
  refine region_inv (fun X a w' => I3 w.heap.size w W3 lk hk2 old y (.agg #[.string op, .string name, .int .i64 n, .int .i64 m, .slice o1 l1 c1, .string fk, .int .i64 fa, .int .i64 fb, .string fc, .string fd, .slice (some ⟨B, 0, none⟩) l2 c2]) (.agg #[.string op', .string name', .int .i64 n', .int .i64 m', .slice o3 l3 c3, .string fk', .int .i64 fa', .int .i64 fb', .string fc', .string fd', .slice o4 l4 c4]) (.agg #[.string op2, .string name2, .int .i64 n2, .int .i64 m2, .slice o5 l5 c5, .string fk2, .int .i64 fa2, .int .i64 fb2, .string fc2, .string fd2, .slice o6 l6 c6]) B l2 c2 pb po po1 pl pc k (X 0) (X 1) (X 2) (X 3) (X 4) (X 5) (X 6) (X 7) (X 8) (X 9) (X 10) (X 11) (X 12) a w') (by kernel_rfl) (by kernel_rfl) (by kernel_rfl) ?_ ?_ ?_
  · refine ⟨fun _ => False, undef, undef, undef, undef, undef, undef, undef, undef, undef, undef, undef, undef, rfl, fun h => by simp at h, fun h => by simp at h, fun h => by simp at h, fun h => by simp at h, fun h => by simp at h, fun h => by simp at h, fun h => by simp at h, fun h => by simp at h, fun h => by simp at h, fun h => by simp at h, .of_below (Below.refl _ _).drew, fun _ => (Below.refl _ _).drew, fun _ h => h.elim, fun h => by simp at h, fun h => by simp at h⟩
  · intro i o ho
    match i, ho with
    | 0, ho =>
      obtain rfl := Option.some.inj ho
      rintro X a W K hX hpre ⟨S, t7, t12, t13, t14, t15, t16, t17, t18, t19, t20, t21, t22, rfl, h0, h1, h2, h3, h4, h5, h6, h7, h8, h9, hw, hb, hS, h10, h11⟩ hK
      clear ih k0 q0 f0 g0 r0 rz0 q1 f1 g1 r1 rz1 q2 f2 g2 r2 rz2 q3 f3 g3 r3 rz3 q4 f4 g4 r4 rz4 q5 f5 g5 r5 rz5 q6 f6 g6 r6 rz6 q7 f7 g7 r7 rz7 q8 f8 g8 r8 rz8 q9 f9 g9 r9 rz9 q10 f10 g10 r10 rz10
      go_simp
      apply hK
      simp only [Nat.reduceEqDiff, decide_false, decide_true, Bool.or_false, Bool.or_true]
      refine ⟨S, _, _, _, _, _, _, _, _, _, _, _, _, rfl, fun _ => rfl, h1, h2, h3, h4, h5, h6, h7, h8, h9, hw, hb, hS, h10, h11⟩
    | 1, ho =>
      obtain rfl := Option.some.inj ho
      rintro X a W K hX hpre ⟨S, t7, t12, t13, t14, t15, t16, t17, t18, t19, t20, t21, t22, rfl, h0, h1, h2, h3, h4, h5, h6, h7, h8, h9, hw, hb, hS, h10, h11⟩ hK
      have d0 := h0 (hpre.1 ⟨0, .data⟩ (by simp) rfl)
      subst d0
      have z : W.cell? ⟨w.heap.size, 10, none⟩ = _ := (hw.cell (by omega) (by omega)).trans f10
      clear ih k0 q0 f0 g0 r0 rz0 q1 f1 g1 r1 rz1 q2 f2 g2 r2 rz2 q3 f3 g3 r3 rz3 q4 f4 g4 r4 rz4 q5 f5 g5 r5 rz5 q6 f6 g6 r6 rz6 q7 f7 g7 r7 rz7 q8 f8 g8 r8 rz8 q9 f9 g9 r9 rz9 q10 f10 g10 r10 rz10
      go_simp
      apply hK
      simp only [Nat.reduceEqDiff, decide_false, decide_true, Bool.or_false, Bool.or_true]
      refine ⟨S, _, _, _, _, _, _, _, _, _, _, _, _, rfl, h0, fun _ => rfl, h2, h3, h4, h5, h6, h7, h8, h9, hw, hb, hS, h10, h11⟩
    | 2, ho =>
      obtain rfl := Option.some.inj ho
      rintro X a W K hX hpre ⟨S, t7, t12, t13, t14, t15, t16, t17, t18, t19, t20, t21, t22, rfl, h0, h1, h2, h3, h4, h5, h6, h7, h8, h9, hw, hb, hS, h10, h11⟩ hK
      clear ih k0 q0 f0 g0 r0 rz0 q1 f1 g1 r1 rz1 q2 f2 g2 r2 rz2 q3 f3 g3 r3 rz3 q4 f4 g4 r4 rz4 q5 f5 g5 r5 rz5 q6 f6 g6 r6 rz6 q7 f7 g7 r7 rz7 q8 f8 g8 r8 rz8 q9 f9 g9 r9 rz9 q10 f10 g10 r10 rz10
      go_simp
      apply hK
      simp only [Nat.reduceEqDiff, decide_false, decide_true, Bool.or_false, Bool.or_true]
      refine ⟨S, _, _, _, _, _, _, _, _, _, _, _, _, rfl, h0, h1, fun _ => rfl, h3, h4, h5, h6, h7, h8, h9, hw, hb, hS, h10, h11⟩
    | 3, ho =>
      obtain rfl := Option.some.inj ho
      rintro X a W K hX hpre ⟨S, t7, t12, t13, t14, t15, t16, t17, t18, t19, t20, t21, t22, rfl, h0, h1, h2, h3, h4, h5, h6, h7, h8, h9, hw, hb, hS, h10, h11⟩ hK
      have d2 := h2 (hpre.1 ⟨2, .data⟩ (by simp) rfl)
      subst d2
      clear ih k0 q0 f0 g0 r0 rz0 q1 f1 g1 r1 rz1 q2 f2 g2 r2 rz2 q3 f3 g3 r3 rz3 q4 f4 g4 r4 rz4 q5 f5 g5 r5 rz5 q6 f6 g6 r6 rz6 q7 f7 g7 r7 rz7 q8 f8 g8 r8 rz8 q9 f9 g9 r9 rz9 q10 f10 g10 r10 rz10
      go_simp
      apply hK
      simp only [Nat.reduceEqDiff, decide_false, decide_true, Bool.or_false, Bool.or_true]
      refine ⟨S, _, _, _, _, _, _, _, _, _, _, _, _, rfl, h0, h1, h2, fun _ => rfl, h4, h5, h6, h7, h8, h9, hw, hb, hS, h10, h11⟩
    | 4, ho =>
      obtain rfl := Option.some.inj ho
      rintro X a W K hX hpre ⟨S, t7, t12, t13, t14, t15, t16, t17, t18, t19, t20, t21, t22, rfl, h0, h1, h2, h3, h4, h5, h6, h7, h8, h9, hw, hb, hS, h10, h11⟩ hK
      have d3 := h3 (hpre.1 ⟨3, .data⟩ (by simp) rfl)
      subst d3
      have z : W.cell? ⟨pb, po, none⟩ = _ := (hw.cell (by omega) hkp).trans e1
      clear ih k0 q0 f0 g0 r0 rz0 q1 f1 g1 r1 rz1 q2 f2 g2 r2 rz2 q3 f3 g3 r3 rz3 q4 f4 g4 r4 rz4 q5 f5 g5 r5 rz5 q6 f6 g6 r6 rz6 q7 f7 g7 r7 rz7 q8 f8 g8 r8 rz8 q9 f9 g9 r9 rz9 q10 f10 g10 r10 rz10
      go_simp
      apply hK
      simp only [Nat.reduceEqDiff, decide_false, decide_true, Bool.or_false, Bool.or_true]
      refine ⟨S, _, _, _, _, _, _, _, _, _, _, _, _, rfl, h0, h1, h2, h3, fun _ => rfl, h5, h6, h7, h8, h9, hw, hb, hS, h10, h11⟩
    | 5, ho =>
      obtain rfl := Option.some.inj ho
      rintro X a W K hX hpre ⟨S, t7, t12, t13, t14, t15, t16, t17, t18, t19, t20, t21, t22, rfl, h0, h1, h2, h3, h4, h5, h6, h7, h8, h9, hw, hb, hS, h10, h11⟩ hK
      have d1 := h1 (hpre.1 ⟨1, .data⟩ (by simp) rfl)
      have d4 := h4 (hpre.1 ⟨4, .data⟩ (by simp) rfl)
      subst d1
      subst d4
      clear ih k0 q0 f0 g0 r0 rz0 q1 f1 g1 r1 rz1 q2 f2 g2 r2 rz2 q3 f3 g3 r3 rz3 q4 f4 g4 r4 rz4 q5 f5 g5 r5 rz5 q6 f6 g6 r6 rz6 q7 f7 g7 r7 rz7 q8 f8 g8 r8 rz8 q9 f9 g9 r9 rz9 q10 f10 g10 r10 rz10
      go_simp
      apply hK
      simp only [Nat.reduceEqDiff, decide_false, decide_true, Bool.or_false, Bool.or_true]
      refine ⟨S, _, _, _, _, _, _, _, _, _, _, _, _, rfl, h0, h1, h2, h3, h4, fun _ => rfl, h6, h7, h8, h9, hw, hb, hS, h10, h11⟩
    | 6, ho =>
      obtain rfl := Option.some.inj ho
      rintro X a W K hX hpre ⟨S, t7, t12, t13, t14, t15, t16, t17, t18, t19, t20, t21, t22, rfl, h0, h1, h2, h3, h4, h5, h6, h7, h8, h9, hw, hb, hS, h10, h11⟩ hK
      have d5 := h5 (hpre.1 ⟨5, .data⟩ (by simp) rfl)
      subst d5
      have z0 : W.cell? ⟨B, k * 11, none⟩ = _ := (hw.cell (by omega) hkB).trans q0
      have z1 : W.cell? ⟨B, k * 11 + 1, none⟩ = _ := (hw.cell (by omega) hkB).trans q1
      have z2 : W.cell? ⟨B, k * 11 + 2, none⟩ = _ := (hw.cell (by omega) hkB).trans q2
      have z3 : W.cell? ⟨B, k * 11 + 3, none⟩ = _ := (hw.cell (by omega) hkB).trans q3
      have z4 : W.cell? ⟨B, k * 11 + 4, none⟩ = _ := (hw.cell (by omega) hkB).trans q4
      have z5 : W.cell? ⟨B, k * 11 + 5, none⟩ = _ := (hw.cell (by omega) hkB).trans q5
      have z6 : W.cell? ⟨B, k * 11 + 6, none⟩ = _ := (hw.cell (by omega) hkB).trans q6
      have z7 : W.cell? ⟨B, k * 11 + 7, none⟩ = _ := (hw.cell (by omega) hkB).trans q7
      have z8 : W.cell? ⟨B, k * 11 + 8, none⟩ = _ := (hw.cell (by omega) hkB).trans q8
      have z9 : W.cell? ⟨B, k * 11 + 9, none⟩ = _ := (hw.cell (by omega) hkB).trans q9
      have z10 : W.cell? ⟨B, k * 11 + 10, none⟩ = _ := (hw.cell (by omega) hkB).trans q10
      clear ih k0 q0 f0 g0 r0 rz0 q1 f1 g1 r1 rz1 q2 f2 g2 r2 rz2 q3 f3 g3 r3 rz3 q4 f4 g4 r4 rz4 q5 f5 g5 r5 rz5 q6 f6 g6 r6 rz6 q7 f7 g7 r7 rz7 q8 f8 g8 r8 rz8 q9 f9 g9 r9 rz9 q10 f10 g10 r10 rz10
      go_simp
      apply hK
      simp only [Nat.reduceEqDiff, decide_false, decide_true, Bool.or_false, Bool.or_true]
      refine ⟨S, _, _, _, _, _, _, _, _, _, _, _, _, rfl, h0, h1, h2, h3, h4, h5, fun _ => rfl, h7, h8, h9, hw, hb, hS, h10, h11⟩
    | 7, ho =>
      obtain rfl := Option.some.inj ho
      rintro X a W K hX hpre ⟨S, t7, t12, t13, t14, t15, t16, t17, t18, t19, t20, t21, t22, rfl, h0, h1, h2, h3, h4, h5, h6, h7, h8, h9, hw, hb, hS, h10, h11⟩ hK
      clear ih k0 q0 f0 g0 r0 rz0 q1 f1 g1 r1 rz1 q2 f2 g2 r2 rz2 q3 f3 g3 r3 rz3 q4 f4 g4 r4 rz4 q5 f5 g5 r5 rz5 q6 f6 g6 r6 rz6 q7 f7 g7 r7 rz7 q8 f8 g8 r8 rz8 q9 f9 g9 r9 rz9 q10 f10 g10 r10 rz10
      go_simp
      apply hK
      simp only [Nat.reduceEqDiff, decide_false, decide_true, Bool.or_false, Bool.or_true]
      refine ⟨S, _, _, _, _, _, _, _, _, _, _, _, _, rfl, h0, h1, h2, h3, h4, h5, h6, fun _ => rfl, h8, h9, hw, hb, hS, h10, h11⟩
    | 8, ho =>
      obtain rfl := Option.some.inj ho
      rintro X a W K hX hpre ⟨S, t7, t12, t13, t14, t15, t16, t17, t18, t19, t20, t21, t22, rfl, h0, h1, h2, h3, h4, h5, h6, h7, h8, h9, hw, hb, hS, h10, h11⟩ hK
      have d7 := h7 (hpre.1 ⟨7, .data⟩ (by simp) rfl)
      subst d7
      clear ih k0 q0 f0 g0 r0 rz0 q1 f1 g1 r1 rz1 q2 f2 g2 r2 rz2 q3 f3 g3 r3 rz3 q4 f4 g4 r4 rz4 q5 f5 g5 r5 rz5 q6 f6 g6 r6 rz6 q7 f7 g7 r7 rz7 q8 f8 g8 r8 rz8 q9 f9 g9 r9 rz9 q10 f10 g10 r10 rz10
      have h1p : (1 : Int) ≤ (pl : Int) + 1 := by omega
      have hif : (if pc = 1 then some (⟨pb, po, none⟩ : Addr) else some ⟨pb, po + 1, none⟩) = some ⟨pb, po1, none⟩ := by rcases hpo with ⟨h1, h2⟩ | ⟨h1, h2⟩ <;> subst h2 <;> first | rw [if_pos h1] | rw [if_neg (by omega)]
      clear hpo
      go_simp
      apply hK
      simp only [Nat.reduceEqDiff, decide_false, decide_true, Bool.or_false, Bool.or_true]
      refine ⟨S, _, _, _, _, _, _, _, _, _, _, _, _, rfl, h0, h1, h2, h3, h4, h5, h6, h7, fun _ => rfl, h9, hw, hb, hS, h10, h11⟩
    | 9, ho =>
      obtain rfl := Option.some.inj ho
      rintro X a W K hX hpre ⟨S, t7, t12, t13, t14, t15, t16, t17, t18, t19, t20, t21, t22, rfl, h0, h1, h2, h3, h4, h5, h6, h7, h8, h9, hw, hb, hS, h10, h11⟩ hK
      have z0 : W.cell? ⟨w.heap.size + 1, 0, none⟩ = _ := (hw.cell (by omega) (by omega)).trans g0
      have z1 : W.cell? ⟨w.heap.size + 1, 1, none⟩ = _ := (hw.cell (by omega) (by omega)).trans g1
      have z2 : W.cell? ⟨w.heap.size + 1, 2, none⟩ = _ := (hw.cell (by omega) (by omega)).trans g2
      have z3 : W.cell? ⟨w.heap.size + 1, 3, none⟩ = _ := (hw.cell (by omega) (by omega)).trans g3
      have z4 : W.cell? ⟨w.heap.size + 1, 4, none⟩ = _ := (hw.cell (by omega) (by omega)).trans g4
      have z5 : W.cell? ⟨w.heap.size + 1, 5, none⟩ = _ := (hw.cell (by omega) (by omega)).trans g5
      have z6 : W.cell? ⟨w.heap.size + 1, 6, none⟩ = _ := (hw.cell (by omega) (by omega)).trans g6
      have z7 : W.cell? ⟨w.heap.size + 1, 7, none⟩ = _ := (hw.cell (by omega) (by omega)).trans g7
      have z8 : W.cell? ⟨w.heap.size + 1, 8, none⟩ = _ := (hw.cell (by omega) (by omega)).trans g8
      have z9 : W.cell? ⟨w.heap.size + 1, 9, none⟩ = _ := (hw.cell (by omega) (by omega)).trans g9
      have z10 : W.cell? ⟨w.heap.size + 1, 10, none⟩ = _ := (hw.cell (by omega) (by omega)).trans g10
      clear ih k0 q0 f0 g0 r0 rz0 q1 f1 g1 r1 rz1 q2 f2 g2 r2 rz2 q3 f3 g3 r3 rz3 q4 f4 g4 r4 rz4 q5 f5 g5 r5 rz5 q6 f6 g6 r6 rz6 q7 f7 g7 r7 rz7 q8 f8 g8 r8 rz8 q9 f9 g9 r9 rz9 q10 f10 g10 r10 rz10
      go_simp
      apply hK
      simp only [Nat.reduceEqDiff, decide_false, decide_true, Bool.or_false, Bool.or_true]
      refine ⟨S, _, _, _, _, _, _, _, _, _, _, _, _, rfl, h0, h1, h2, h3, h4, h5, h6, h7, h8, fun _ => rfl, hw, hb, hS, h10, h11⟩
    | 10, ho =>
      obtain rfl := Option.some.inj ho
      rintro X a W K hX hpre ⟨S, t7, t12, t13, t14, t15, t16, t17, t18, t19, t20, t21, t22, rfl, h0, h1, h2, h3, h4, h5, h6, h7, h8, h9, hw, hb, hS, h10, h11⟩ hK
      have d6 := h6 (hpre.1 ⟨6, .data⟩ (by simp) rfl)
      have d8 := h8 (hpre.1 ⟨8, .data⟩ (by simp) rfl)
      have d9 := h9 (hpre.1 ⟨9, .data⟩ (by simp) rfl)
      subst d6
      subst d8
      subst d9
      have hx12 : X 12 = false := by cases h : X 12 with | false => rfl | true => have := hpre.2 12 _ h rfl ⟨10, .data⟩ (by simp) rfl; rw [hX] at this; cases this
      have hB := hb hX
      have hcall := ih W (hb3.trans (hB.mono (by omega)))
      clear ih k0 q0 f0 g0 r0 rz0 q1 f1 g1 r1 rz1 q2 f2 g2 r2 rz2 q3 f3 g3 r3 rz3 q4 f4 g4 r4 rz4 q5 f5 g5 r5 rz5 q6 f6 g6 r6 rz6 q7 f7 g7 r7 rz7 q8 f8 g8 r8 rz8 q9 f9 g9 r9 rz9 q10 f10 g10 r10 rz10
      go_simp
      go_wp2_with (go_at_call 30; refine hcall.mono ?_; rintro e w' ⟨v3, S3, rfl, hv, hw3, hr, hS3⟩)
      simp only [Nat.reduceEqDiff, decide_false, decide_true, Bool.or_false, Bool.or_true]
      have hsz := hB.size
      refine ⟨S3, _, _, _, _, _, _, _, _, _, _, _, _, rfl, h0, h1, h2, h3, h4, h5, fun _ => rfl, h7, fun _ => rfl, fun _ => rfl, hw.trans hw3, fun h => (by cases h), fun b h => ?_, fun _ => ⟨hv, hr⟩, fun h => ?_⟩
      · obtain ⟨a1, a2⟩ := hS3 b h; exact ⟨a1, a2.imp_right fun h => by omega⟩
      · obtain ⟨N, p1, p2, p3, p4, p5, p6⟩ := h11 h
        have nn : ¬ (lk ≤ N ∧ N < hk2) := by omega
        refine ⟨N, p1, p2, Nat.lt_of_lt_of_le p3 hw3.size, fun h => ?_, fun j hj => ?_, fun h => (by rw [hx12] at h; cases h)⟩
        · rcases (hS3 N h).2 with h | h
          · have := (hold N h).1; omega
          · omega
        · rw [hw3.cell p3 nn, hw3.frozen p3 nn]; exact p5 j hj
    | 11, ho =>
      obtain rfl := Option.some.inj ho
      rintro X a W K hX hpre ⟨S, t7, t12, t13, t14, t15, t16, t17, t18, t19, t20, t21, t22, rfl, h0, h1, h2, h3, h4, h5, h6, h7, h8, h9, hw, hb, hS, h10, h11⟩ hK
      have hx12 : X 12 = false := by cases h : X 12 with | false => rfl | true => have := hpre.2 12 _ h rfl ⟨11, .data⟩ (by simp) rfl; rw [hX] at this; cases this
      clear ih k0 q0 f0 g0 r0 rz0 q1 f1 g1 r1 rz1 q2 f2 g2 r2 rz2 q3 f3 g3 r3 rz3 q4 f4 g4 r4 rz4 q5 f5 g5 r5 rz5 q6 f6 g6 r6 rz6 q7 f7 g7 r7 rz7 q8 f8 g8 r8 rz8 q9 f9 g9 r9 rz9 q10 f10 g10 r10 rz10
      go_simp
      apply hK
      simp only [Nat.reduceEqDiff, decide_false, decide_true, Bool.or_false, Bool.or_true]
      have hsz := hw.size
      refine ⟨S, _, _, _, _, _, _, _, _, _, _, _, _, rfl, h0, h1, h2, h3, h4, h5, h6, h7, h8, h9, hw.trans (.of_below (b_alloc (Below.refl _ _) _)), fun h => (hb h).alloc hsz _, fun b h => ?_, fun h => ⟨(h10 h).1, (h10 h).2.ext (by simp) fun b hb ht => ⟨ht, Below.heap_alloc _ _ _ hb⟩⟩, fun _ => ⟨W.heap.size, rfl, by omega, by simp, fun h => absurd (hS _ h).1 (Nat.lt_irrefl _), fun j hj => ?_, fun h => (by rw [hx12] at h; cases h)⟩⟩
      · obtain ⟨a1, a2⟩ := hS b h; exact ⟨by simp; omega, a2⟩
      · match j, hj with
        | 0, _ => exact ⟨⟨_, by go_simp; try rfl⟩, by go_simp⟩
        | 1, _ => exact ⟨⟨_, by go_simp; try rfl⟩, by go_simp⟩
        | 2, _ => exact ⟨⟨_, by go_simp; try rfl⟩, by go_simp⟩
        | 3, _ => exact ⟨⟨_, by go_simp; try rfl⟩, by go_simp⟩
        | 4, _ => exact ⟨⟨_, by go_simp; try rfl⟩, by go_simp⟩
        | 5, _ => exact ⟨⟨_, by go_simp; try rfl⟩, by go_simp⟩
        | 6, _ => exact ⟨⟨_, by go_simp; try rfl⟩, by go_simp⟩
        | 7, _ => exact ⟨⟨_, by go_simp; try rfl⟩, by go_simp⟩
        | 8, _ => exact ⟨⟨_, by go_simp; try rfl⟩, by go_simp⟩
        | 9, _ => exact ⟨⟨_, by go_simp; try rfl⟩, by go_simp⟩
        | 10, _ => exact ⟨⟨_, by go_simp; try rfl⟩, by go_simp⟩
    | 12, ho =>
      obtain rfl := Option.some.inj ho
      rintro X a W K hX hpre ⟨S, t7, t12, t13, t14, t15, t16, t17, t18, t19, t20, t21, t22, rfl, h0, h1, h2, h3, h4, h5, h6, h7, h8, h9, hw, hb, hS, h10, h11⟩ hK
      have e10 : X 10 = true := hpre.1 ⟨10, .data⟩ (by simp) rfl
      obtain ⟨N, p1, p2, p3, p4, p5, p6⟩ := h11 (hpre.1 ⟨11, .data⟩ (by simp) rfl)
      obtain ⟨⟨op3, name3, n3', m3, o7, l7, c7, fk3, fa3, fb3, fc3, fd3, o8, l8, c8, rfl⟩, hr⟩ := h10 e10
      unfold blkV at *
      subst p1
      obtain ⟨⟨u0, z0⟩, y0⟩ := p5 0 (by decide)
      obtain ⟨⟨u1, z1⟩, y1⟩ := p5 1 (by decide)
      obtain ⟨⟨u2, z2⟩, y2⟩ := p5 2 (by decide)
      obtain ⟨⟨u3, z3⟩, y3⟩ := p5 3 (by decide)
      obtain ⟨⟨u4, z4⟩, y4⟩ := p5 4 (by decide)
      obtain ⟨⟨u5, z5⟩, y5⟩ := p5 5 (by decide)
      obtain ⟨⟨u6, z6⟩, y6⟩ := p5 6 (by decide)
      obtain ⟨⟨u7, z7⟩, y7⟩ := p5 7 (by decide)
      obtain ⟨⟨u8, z8⟩, y8⟩ := p5 8 (by decide)
      obtain ⟨⟨u9, z9⟩, y9⟩ := p5 9 (by decide)
      obtain ⟨⟨u10, z10⟩, y10⟩ := p5 10 (by decide)
      clear ih k0 p5 p6 q0 f0 g0 r0 rz0 q1 f1 g1 r1 rz1 q2 f2 g2 r2 rz2 q3 f3 g3 r3 rz3 q4 f4 g4 r4 rz4 q5 f5 g5 r5 rz5 q6 f6 g6 r6 rz6 q7 f7 g7 r7 rz7 q8 f8 g8 r8 rz8 q9 f9 g9 r9 rz9 q10 f10 g10 r10 rz10
      go_simp
      apply hK
      simp only [Nat.reduceEqDiff, decide_false, decide_true, Bool.or_false, Bool.or_true]
      have hsz := hw.size
      have ht := (((((((((((Tch.refl N W).set 0 (.string op3)).set 1 (.string name3)).set 2 (.int .i64 n3')).set 3 (.int .i64 m3)).set 4 (.slice o7 l7 c7)).set 5 (.string fk3)).set 6 (.int .i64 fa3)).set 7 (.int .i64 fb3)).set 8 (.string fc3)).set 9 (.string fd3)).set 10 (.slice o8 l8 c8)
      refine ⟨S, _, _, _, _, _, _, _, _, _, _, _, _, rfl, h0, h1, h2, h3, h4, h5, h6, h7, h8, h9, ⟨ht.os.trans hw.os, ht.tape.trans hw.tape, ht.output.trans hw.output, by rw [ht.size]; exact hsz, fun b hb hn => (ht.block b (by omega)).trans (hw.keep b hb hn)⟩, fun h => (by rw [e10] at h; cases h), fun b h => ?_, fun h => ⟨(h10 h).1, hr.ext (by rw [ht.size]; exact Nat.le_refl _) fun b hb ht' => ⟨ht', ht.block b fun e => p4 (e ▸ gS_free.1 ht')⟩⟩, fun _ => ⟨N, rfl, p2, (by rw [ht.size]; exact p3), p4, fun j hj => ?_, fun _ j hj => ?_⟩⟩
      · obtain ⟨a1, a2⟩ := hS b h; exact ⟨by rw [ht.size]; exact a1, a2⟩
      · match j, hj with
        | 0, _ => exact ⟨⟨_, by go_simp; try rfl⟩, by go_simp⟩
        | 1, _ => exact ⟨⟨_, by go_simp; try rfl⟩, by go_simp⟩
        | 2, _ => exact ⟨⟨_, by go_simp; try rfl⟩, by go_simp⟩
        | 3, _ => exact ⟨⟨_, by go_simp; try rfl⟩, by go_simp⟩
        | 4, _ => exact ⟨⟨_, by go_simp; try rfl⟩, by go_simp⟩
        | 5, _ => exact ⟨⟨_, by go_simp; try rfl⟩, by go_simp⟩
        | 6, _ => exact ⟨⟨_, by go_simp; try rfl⟩, by go_simp⟩
        | 7, _ => exact ⟨⟨_, by go_simp; try rfl⟩, by go_simp⟩
        | 8, _ => exact ⟨⟨_, by go_simp; try rfl⟩, by go_simp⟩
        | 9, _ => exact ⟨⟨_, by go_simp; try rfl⟩, by go_simp⟩
        | 10, _ => exact ⟨⟨_, by go_simp; try rfl⟩, by go_simp⟩
      · match j, hj with
        | 0, _ => go_simp; try rfl
        | 1, _ => go_simp; try rfl
        | 2, _ => go_simp; try rfl
        | 3, _ => go_simp; try rfl
        | 4, _ => go_simp; try rfl
        | 5, _ => go_simp; try rfl
        | 6, _ => go_simp; try rfl
        | 7, _ => go_simp; try rfl
        | 8, _ => go_simp; try rfl
        | 9, _ => go_simp; try rfl
        | 10, _ => go_simp; try rfl
    | i + 13, ho => simp at ho
  · intro X a W hX
    rintro ⟨S, t7, t12, t13, t14, t15, t16, t17, t18, t19, t20, t21, t22, rfl, h0, h1, h2, h3, h4, h5, h6, h7, h8, h9, hw, hb, hS, h10, h11⟩
    have hall : ∀ k, k < 13 → X k = true := hX
    have k0 := h0 (hall 0 (by decide))
    have k1 := h1 (hall 1 (by decide))
    have k2 := h2 (hall 2 (by decide))
    have k3 := h3 (hall 3 (by decide))
    have k4 := h4 (hall 4 (by decide))
    have k5 := h5 (hall 5 (by decide))
    have k6 := h6 (hall 6 (by decide))
    have k7 := h7 (hall 7 (by decide))
    have k8 := h8 (hall 8 (by decide))
    have k9 := h9 (hall 9 (by decide))
    obtain ⟨N, p1, p2, p3, p4, p5, p6⟩ := h11 (hall 11 (by decide))
    have p6 := p6 (hall 12 (by decide))
    obtain ⟨⟨op3, name3, n3', m3, o7, l7, c7, fk3, fa3, fb3, fc3, fd3, o8, l8, c8, rfl⟩, hr⟩ := h10 (hall 10 (by decide))
    clear h0 h1 h2 h3 h4 h5 h6 h7 h8 h9 h10 h11 hall hX p5 ih hb
    subst k0 k1 k2 k3 k4 k5 k6 k7 k8 k9 p1
    unfold blkV at *
    have hsz := hw.size
    have e1' : W.cell? ⟨pb, po, none⟩ = _ := (hw.cell (by omega) hkp).trans e1
    have z0 : W.cell? ⟨N, 0, none⟩ = some (.string op3) := p6 0 (by decide)
    have y0 : W.cell? ⟨B, k * 11, none⟩ = _ := (hw.cell (by omega) hkB).trans q0
    have yz0 : W.frozen? ⟨B, k * 11, none⟩ = false := (hw.frozen (by omega) hkB).trans (fB3 _)
    have kc0 : W.cell? ⟨w.heap.size, 0, none⟩ = _ := (hw.cell (by omega) (by omega)).trans f0
    have kr0 : W.cell? ⟨w.heap.size + 1 + 1, 0, none⟩ = _ := (hw.cell (by omega) (by omega)).trans r0
    have krz0 : W.frozen? ⟨w.heap.size + 1 + 1, 0, none⟩ = false := (hw.frozen (by omega) (by omega)).trans rz0
    have z1 : W.cell? ⟨N, 1, none⟩ = some (.string name3) := p6 1 (by decide)
    have y1 : W.cell? ⟨B, k * 11 + 1, none⟩ = _ := (hw.cell (by omega) hkB).trans q1
    have yz1 : W.frozen? ⟨B, k * 11 + 1, none⟩ = false := (hw.frozen (by omega) hkB).trans (fB3 _)
    have kc1 : W.cell? ⟨w.heap.size, 1, none⟩ = _ := (hw.cell (by omega) (by omega)).trans f1
    have kr1 : W.cell? ⟨w.heap.size + 1 + 1, 1, none⟩ = _ := (hw.cell (by omega) (by omega)).trans r1
    have krz1 : W.frozen? ⟨w.heap.size + 1 + 1, 1, none⟩ = false := (hw.frozen (by omega) (by omega)).trans rz1
    have z2 : W.cell? ⟨N, 2, none⟩ = some (.int .i64 n3') := p6 2 (by decide)
    have y2 : W.cell? ⟨B, k * 11 + 2, none⟩ = _ := (hw.cell (by omega) hkB).trans q2
    have yz2 : W.frozen? ⟨B, k * 11 + 2, none⟩ = false := (hw.frozen (by omega) hkB).trans (fB3 _)
    have kc2 : W.cell? ⟨w.heap.size, 2, none⟩ = _ := (hw.cell (by omega) (by omega)).trans f2
    have kr2 : W.cell? ⟨w.heap.size + 1 + 1, 2, none⟩ = _ := (hw.cell (by omega) (by omega)).trans r2
    have krz2 : W.frozen? ⟨w.heap.size + 1 + 1, 2, none⟩ = false := (hw.frozen (by omega) (by omega)).trans rz2
    have z3 : W.cell? ⟨N, 3, none⟩ = some (.int .i64 m3) := p6 3 (by decide)
    have y3 : W.cell? ⟨B, k * 11 + 3, none⟩ = _ := (hw.cell (by omega) hkB).trans q3
    have yz3 : W.frozen? ⟨B, k * 11 + 3, none⟩ = false := (hw.frozen (by omega) hkB).trans (fB3 _)
    have kc3 : W.cell? ⟨w.heap.size, 3, none⟩ = _ := (hw.cell (by omega) (by omega)).trans f3
    have kr3 : W.cell? ⟨w.heap.size + 1 + 1, 3, none⟩ = _ := (hw.cell (by omega) (by omega)).trans r3
    have krz3 : W.frozen? ⟨w.heap.size + 1 + 1, 3, none⟩ = false := (hw.frozen (by omega) (by omega)).trans rz3
    have z4 : W.cell? ⟨N, 4, none⟩ = some (.slice o7 l7 c7) := p6 4 (by decide)
    have y4 : W.cell? ⟨B, k * 11 + 4, none⟩ = _ := (hw.cell (by omega) hkB).trans q4
    have yz4 : W.frozen? ⟨B, k * 11 + 4, none⟩ = false := (hw.frozen (by omega) hkB).trans (fB3 _)
    have kc4 : W.cell? ⟨w.heap.size, 4, none⟩ = _ := (hw.cell (by omega) (by omega)).trans f4
    have kr4 : W.cell? ⟨w.heap.size + 1 + 1, 4, none⟩ = _ := (hw.cell (by omega) (by omega)).trans r4
    have krz4 : W.frozen? ⟨w.heap.size + 1 + 1, 4, none⟩ = false := (hw.frozen (by omega) (by omega)).trans rz4
    have z5 : W.cell? ⟨N, 5, none⟩ = some (.string fk3) := p6 5 (by decide)
    have y5 : W.cell? ⟨B, k * 11 + 5, none⟩ = _ := (hw.cell (by omega) hkB).trans q5
    have yz5 : W.frozen? ⟨B, k * 11 + 5, none⟩ = false := (hw.frozen (by omega) hkB).trans (fB3 _)
    have kc5 : W.cell? ⟨w.heap.size, 5, none⟩ = _ := (hw.cell (by omega) (by omega)).trans f5
    have kr5 : W.cell? ⟨w.heap.size + 1 + 1, 5, none⟩ = _ := (hw.cell (by omega) (by omega)).trans r5
    have krz5 : W.frozen? ⟨w.heap.size + 1 + 1, 5, none⟩ = false := (hw.frozen (by omega) (by omega)).trans rz5
    have z6 : W.cell? ⟨N, 6, none⟩ = some (.int .i64 fa3) := p6 6 (by decide)
    have y6 : W.cell? ⟨B, k * 11 + 6, none⟩ = _ := (hw.cell (by omega) hkB).trans q6
    have yz6 : W.frozen? ⟨B, k * 11 + 6, none⟩ = false := (hw.frozen (by omega) hkB).trans (fB3 _)
    have kc6 : W.cell? ⟨w.heap.size, 6, none⟩ = _ := (hw.cell (by omega) (by omega)).trans f6
    have kr6 : W.cell? ⟨w.heap.size + 1 + 1, 6, none⟩ = _ := (hw.cell (by omega) (by omega)).trans r6
    have krz6 : W.frozen? ⟨w.heap.size + 1 + 1, 6, none⟩ = false := (hw.frozen (by omega) (by omega)).trans rz6
    have z7 : W.cell? ⟨N, 7, none⟩ = some (.int .i64 fb3) := p6 7 (by decide)
    have y7 : W.cell? ⟨B, k * 11 + 7, none⟩ = _ := (hw.cell (by omega) hkB).trans q7
    have yz7 : W.frozen? ⟨B, k * 11 + 7, none⟩ = false := (hw.frozen (by omega) hkB).trans (fB3 _)
    have kc7 : W.cell? ⟨w.heap.size, 7, none⟩ = _ := (hw.cell (by omega) (by omega)).trans f7
    have kr7 : W.cell? ⟨w.heap.size + 1 + 1, 7, none⟩ = _ := (hw.cell (by omega) (by omega)).trans r7
    have krz7 : W.frozen? ⟨w.heap.size + 1 + 1, 7, none⟩ = false := (hw.frozen (by omega) (by omega)).trans rz7
    have z8 : W.cell? ⟨N, 8, none⟩ = some (.string fc3) := p6 8 (by decide)
    have y8 : W.cell? ⟨B, k * 11 + 8, none⟩ = _ := (hw.cell (by omega) hkB).trans q8
    have yz8 : W.frozen? ⟨B, k * 11 + 8, none⟩ = false := (hw.frozen (by omega) hkB).trans (fB3 _)
    have kc8 : W.cell? ⟨w.heap.size, 8, none⟩ = _ := (hw.cell (by omega) (by omega)).trans f8
    have kr8 : W.cell? ⟨w.heap.size + 1 + 1, 8, none⟩ = _ := (hw.cell (by omega) (by omega)).trans r8
    have krz8 : W.frozen? ⟨w.heap.size + 1 + 1, 8, none⟩ = false := (hw.frozen (by omega) (by omega)).trans rz8
    have z9 : W.cell? ⟨N, 9, none⟩ = some (.string fd3) := p6 9 (by decide)
    have y9 : W.cell? ⟨B, k * 11 + 9, none⟩ = _ := (hw.cell (by omega) hkB).trans q9
    have yz9 : W.frozen? ⟨B, k * 11 + 9, none⟩ = false := (hw.frozen (by omega) hkB).trans (fB3 _)
    have kc9 : W.cell? ⟨w.heap.size, 9, none⟩ = _ := (hw.cell (by omega) (by omega)).trans f9
    have kr9 : W.cell? ⟨w.heap.size + 1 + 1, 9, none⟩ = _ := (hw.cell (by omega) (by omega)).trans r9
    have krz9 : W.frozen? ⟨w.heap.size + 1 + 1, 9, none⟩ = false := (hw.frozen (by omega) (by omega)).trans rz9
    have z10 : W.cell? ⟨N, 10, none⟩ = some (.slice o8 l8 c8) := p6 10 (by decide)
    have y10 : W.cell? ⟨B, k * 11 + 10, none⟩ = _ := (hw.cell (by omega) hkB).trans q10
    have yz10 : W.frozen? ⟨B, k * 11 + 10, none⟩ = false := (hw.frozen (by omega) hkB).trans (fB3 _)
    have kc10 : W.cell? ⟨w.heap.size, 10, none⟩ = _ := (hw.cell (by omega) (by omega)).trans f10
    have kr10 : W.cell? ⟨w.heap.size + 1 + 1, 10, none⟩ = _ := (hw.cell (by omega) (by omega)).trans r10
    have krz10 : W.frozen? ⟨w.heap.size + 1 + 1, 10, none⟩ = false := (hw.frozen (by omega) (by omega)).trans rz10
    clear q0 f0 g0 r0 rz0 q1 f1 g1 r1 rz1 q2 f2 g2 r2 rz2 q3 f3 g3 r3 rz3 q4 f4 g4 r4 rz4 q5 f5 g5 r5 rz5 q6 f6 g6 r6 rz6 q7 f7 g7 r7 rz7 q8 f8 g8 r8 rz8 q9 f9 g9 r9 rz9 q10 f10 g10 r10 rz10
    go_wp2_with fail
    refine region_inv (fun X a w' => I4 (fun t23 t24 t25 t26 t27 t28 t29 => ⟨#[.agg #[.string op, .string name, .int .i64 n, .int .i64 m, .slice o1 l1 c1, .string fk, .int .i64 fa, .int .i64 fb, .string fc, .string fd, .slice (some ⟨B, 0, none⟩) l2 c2], .slice (some ⟨pb, po, none⟩) (pl + 1) pc, .agg #[.string op', .string name', .int .i64 n', .int .i64 m', .slice o3 l3 c3, .string fk', .int .i64 fa', .int .i64 fb', .string fc', .string fd', .slice o4 l4 c4], .pointer (some ⟨w.heap.size, 0, none⟩), undef, .pointer (some ⟨w.heap.size + 1, 0, none⟩), .pointer (some ⟨w.heap.size + 1 + 1, 0, none⟩), .pointer (some ⟨N, 0, none⟩), .slice (some ⟨pb, po, none⟩) (pl + 1) pc, .int .i64 ((pl : Int) + 1), .bool false, undef, .pointer (some ⟨w.heap.size, 10, none⟩), .slice (some ⟨B, 0, none⟩) l2 c2, .slice (some ⟨pb, po, none⟩) (pl + 1) pc, .pointer (some ⟨pb, po, none⟩), .int .i64 k, .pointer (some ⟨B, k * 11, none⟩), .agg #[.string op2, .string name2, .int .i64 n2, .int .i64 m2, .slice o5 l5 c5, .string fk2, .int .i64 fa2, .int .i64 fb2, .string fc2, .string fd2, .slice o6 l6 c6], .slice (some ⟨pb, po, none⟩) (pl + 1) pc, .slice (some ⟨pb, po1, none⟩) pl (pc - 1), .agg #[.string op', .string name', .int .i64 n', .int .i64 m', .slice o3 l3 c3, .string fk', .int .i64 fa', .int .i64 fb', .string fc', .string fd', .slice o4 l4 c4], .agg #[.string op3, .string name3, .int .i64 n3', .int .i64 m3, .slice o7 l7 c7, .string fk3, .int .i64 fa3, .int .i64 fb3, .string fc3, .string fd3, .slice o8 l8 c8], t23, t24, t25, t26, t27, t28, t29, undef], []⟩) W.drew ((((((((((((W.setCell ⟨B, k * 11, none⟩ (.string op3)).setCell ⟨B, k * 11 + 1, none⟩ (.string name3)).setCell ⟨B, k * 11 + 2, none⟩ (.int .i64 n3')).setCell ⟨B, k * 11 + 3, none⟩ (.int .i64 m3)).setCell ⟨B, k * 11 + 4, none⟩ (.slice o7 l7 c7)).setCell ⟨B, k * 11 + 5, none⟩ (.string fk3)).setCell ⟨B, k * 11 + 6, none⟩ (.int .i64 fa3)).setCell ⟨B, k * 11 + 7, none⟩ (.int .i64 fb3)).setCell ⟨B, k * 11 + 8, none⟩ (.string fc3)).setCell ⟨B, k * 11 + 9, none⟩ (.string fd3)).setCell ⟨B, k * 11 + 10, none⟩ (.slice o8 l8 c8)).drew) (.pointer (some ⟨w.heap.size, 10, none⟩)) (.slice (some ⟨B, 0, none⟩) l2 c2) (.slice (some ⟨pb, po, none⟩) (pl + 1) pc) (.pointer (some ⟨pb, po, none⟩)) (.int .i64 k) (.agg #[.string op3, .string name3, .int .i64 n3', .int .i64 m3, .slice o7 l7 c7, .string fk3, .int .i64 fa3, .int .i64 fb3, .string fc3, .string fd3, .slice o8 l8 c8]) (.pointer (some ⟨B, k * 11, none⟩)) (X 0) (X 1) (X 2) (X 3) (X 4) (X 5) (X 6) (X 7) a w') (by kernel_rfl) (by kernel_rfl) (by kernel_rfl) ?_ ?_ ?_
    · exact ⟨undef, undef, undef, undef, undef, undef, undef, rfl, fun h => (by cases h), fun h => (by cases h), fun h => (by cases h), fun h => (by cases h), fun h => (by cases h), fun h => (by cases h), fun h => (by cases h), fun _ => rfl, fun h => (by cases h)⟩
    · intro i o ho
      match i, ho with
      | 0, ho =>
        obtain rfl := Option.some.inj ho
        rintro X a V K hX hpre ⟨t23, t24, t25, t26, t27, t28, t29, rfl, i0, i1, i2, i3, i4, i5, i6, hA, hB⟩ hK
        have hx7 : X 7 = false := by cases h : X 7 with | false => rfl | true => have := hpre.2 7 _ h rfl ⟨0, .phase⟩ (by simp) rfl; rw [hX] at this; cases this
        have hV := hA hx7
        subst hV
        go_simp
        apply hK
        simp only [Nat.reduceEqDiff, decide_false, decide_true, Bool.or_false, Bool.or_true]
        exact ⟨_, _, _, _, _, _, _, rfl, fun _ => rfl, i1, i2, i3, i4, i5, i6, hA, hB⟩
      | 1, ho =>
        obtain rfl := Option.some.inj ho
        rintro X a V K hX hpre ⟨t23, t24, t25, t26, t27, t28, t29, rfl, i0, i1, i2, i3, i4, i5, i6, hA, hB⟩ hK
        have hx7 : X 7 = false := by cases h : X 7 with | false => rfl | true => have := hpre.2 7 _ h rfl ⟨1, .phase⟩ (by simp) rfl; rw [hX] at this; cases this
        have hV := hA hx7
        subst hV
        have d0 := i0 (hpre.1 ⟨0, .data⟩ (by simp) rfl)
        subst d0
        go_simp
        apply hK
        simp only [Nat.reduceEqDiff, decide_false, decide_true, Bool.or_false, Bool.or_true]
        exact ⟨_, _, _, _, _, _, _, rfl, fun _ => rfl, fun _ => rfl, i2, i3, i4, i5, i6, hA, hB⟩
      | 2, ho =>
        obtain rfl := Option.some.inj ho
        rintro X a V K hX hpre ⟨t23, t24, t25, t26, t27, t28, t29, rfl, i0, i1, i2, i3, i4, i5, i6, hA, hB⟩ hK
        have hx7 : X 7 = false := by cases h : X 7 with | false => rfl | true => have := hpre.2 7 _ h rfl ⟨2, .phase⟩ (by simp) rfl; rw [hX] at this; cases this
        have hV := hA hx7
        subst hV
        go_simp
        apply hK
        simp only [Nat.reduceEqDiff, decide_false, decide_true, Bool.or_false, Bool.or_true]
        exact ⟨_, _, _, _, _, _, _, rfl, i0, i1, fun _ => rfl, i3, i4, i5, i6, hA, hB⟩
      | 3, ho =>
        obtain rfl := Option.some.inj ho
        rintro X a V K hX hpre ⟨t23, t24, t25, t26, t27, t28, t29, rfl, i0, i1, i2, i3, i4, i5, i6, hA, hB⟩ hK
        have hx7 : X 7 = false := by cases h : X 7 with | false => rfl | true => have := hpre.2 7 _ h rfl ⟨3, .phase⟩ (by simp) rfl; rw [hX] at this; cases this
        have hV := hA hx7
        subst hV
        have d2 := i2 (hpre.1 ⟨2, .data⟩ (by simp) rfl)
        subst d2
        go_simp
        apply hK
        simp only [Nat.reduceEqDiff, decide_false, decide_true, Bool.or_false, Bool.or_true]
        exact ⟨_, _, _, _, _, _, _, rfl, i0, i1, fun _ => rfl, fun _ => rfl, i4, i5, i6, hA, hB⟩
      | 4, ho =>
        obtain rfl := Option.some.inj ho
        rintro X a V K hX hpre ⟨t23, t24, t25, t26, t27, t28, t29, rfl, i0, i1, i2, i3, i4, i5, i6, hA, hB⟩ hK
        have hx7 : X 7 = false := by cases h : X 7 with | false => rfl | true => have := hpre.2 7 _ h rfl ⟨4, .phase⟩ (by simp) rfl; rw [hX] at this; cases this
        have hV := hA hx7
        subst hV
        have d3 := i3 (hpre.1 ⟨3, .data⟩ (by simp) rfl)
        subst d3
        go_simp
        apply hK
        simp only [Nat.reduceEqDiff, decide_false, decide_true, Bool.or_false, Bool.or_true]
        exact ⟨_, _, _, _, _, _, _, rfl, i0, i1, i2, fun _ => rfl, fun _ => rfl, i5, i6, hA, hB⟩
      | 5, ho =>
        obtain rfl := Option.some.inj ho
        rintro X a V K hX hpre ⟨t23, t24, t25, t26, t27, t28, t29, rfl, i0, i1, i2, i3, i4, i5, i6, hA, hB⟩ hK
        have hx7 : X 7 = false := by cases h : X 7 with | false => rfl | true => have := hpre.2 7 _ h rfl ⟨5, .data⟩ (by simp) rfl; rw [hX] at this; cases this
        have hV := hA hx7
        subst hV
        go_simp
        apply hK
        simp only [Nat.reduceEqDiff, decide_false, decide_true, Bool.or_false, Bool.or_true]
        exact ⟨_, _, _, _, _, _, _, rfl, i0, i1, i2, i3, i4, fun _ => rfl, i6, hA, hB⟩
      | 6, ho =>
        obtain rfl := Option.some.inj ho
        rintro X a V K hX hpre ⟨t23, t24, t25, t26, t27, t28, t29, rfl, i0, i1, i2, i3, i4, i5, i6, hA, hB⟩ hK
        have hx7 : X 7 = false := by cases h : X 7 with | false => rfl | true => have := hpre.2 7 _ h rfl ⟨6, .data⟩ (by simp) rfl; rw [hX] at this; cases this
        have hV := hA hx7
        subst hV
        have d1 := i1 (hpre.1 ⟨1, .data⟩ (by simp) rfl)
        have d4 := i4 (hpre.1 ⟨4, .data⟩ (by simp) rfl)
        subst d1
        subst d4
        go_simp
        apply hK
        simp only [Nat.reduceEqDiff, decide_false, decide_true, Bool.or_false, Bool.or_true]
        exact ⟨_, _, _, _, _, _, _, rfl, i0, fun _ => rfl, i2, i3, fun _ => rfl, i5, fun _ => rfl, hA, hB⟩
      | 7, ho =>
        obtain rfl := Option.some.inj ho
        rintro X a V K hX hpre ⟨t23, t24, t25, t26, t27, t28, t29, rfl, i0, i1, i2, i3, i4, i5, i6, hA, hB⟩ hK
        have hV := hA hX
        subst hV
        have d5 := i5 (hpre.1 ⟨5, .data⟩ (by simp) rfl)
        have d6 := i6 (hpre.1 ⟨6, .data⟩ (by simp) rfl)
        subst d5
        subst d6
        go_simp
        apply hK
        simp only [Nat.reduceEqDiff, decide_false, decide_true, Bool.or_false, Bool.or_true]
        exact ⟨_, _, _, _, _, _, _, rfl, i0, i1, i2, i3, i4, fun _ => rfl, fun _ => rfl, fun h => (by cases h), fun _ => rfl⟩
      | i + 8, ho => simp at ho
    · intro X a V hX
      rintro ⟨t23, t24, t25, t26, t27, t28, t29, rfl, i0, i1, i2, i3, i4, i5, i6, hA, hB⟩
      have hall : ∀ k, k < 8 → X k = true := hX
      have hV := hB (hall 7 (by decide))
      clear i0 i1 i2 i3 i4 i5 i6 hA hB hall hX
      have ht := (((((((((((Tch.refl B W).set (k * 11) (.string op3)).set (k * 11 + 1) (.string name3)).set (k * 11 + 2) (.int .i64 n3')).set (k * 11 + 3) (.int .i64 m3)).set (k * 11 + 4) (.slice o7 l7 c7)).set (k * 11 + 5) (.string fk3)).set (k * 11 + 6) (.int .i64 fa3)).set (k * 11 + 7) (.int .i64 fb3)).set (k * 11 + 8) (.string fc3)).set (k * 11 + 9) (.string fd3)).set (k * 11 + 10) (.slice o8 l8 c8)
      have ht := ht.drew
      rw [← hV] at ht
      have zc0 : V.cell? ⟨w.heap.size, 0, none⟩ = _ := (World.cell?_of_block (w := W) (ht.block w.heap.size (by omega))).trans kc0
      have zr0 : V.cell? ⟨w.heap.size + 1 + 1, 0, none⟩ = _ := (World.cell?_of_block (w := W) (ht.block (w.heap.size + 1 + 1) (by omega))).trans kr0
      have zz0 : V.frozen? ⟨w.heap.size + 1 + 1, 0, none⟩ = false := (World.frozen?_of_block (w := W) (ht.block (w.heap.size + 1 + 1) (by omega))).trans krz0
      have nb0 : V.cell? ⟨B, k * 11, none⟩ = some (.string op3) := by rw [hV]; go_simp; try rfl
      have zc1 : V.cell? ⟨w.heap.size, 1, none⟩ = _ := (World.cell?_of_block (w := W) (ht.block w.heap.size (by omega))).trans kc1
      have zr1 : V.cell? ⟨w.heap.size + 1 + 1, 1, none⟩ = _ := (World.cell?_of_block (w := W) (ht.block (w.heap.size + 1 + 1) (by omega))).trans kr1
      have zz1 : V.frozen? ⟨w.heap.size + 1 + 1, 1, none⟩ = false := (World.frozen?_of_block (w := W) (ht.block (w.heap.size + 1 + 1) (by omega))).trans krz1
      have nb1 : V.cell? ⟨B, k * 11 + 1, none⟩ = some (.string name3) := by rw [hV]; go_simp; try rfl
      have zc2 : V.cell? ⟨w.heap.size, 2, none⟩ = _ := (World.cell?_of_block (w := W) (ht.block w.heap.size (by omega))).trans kc2
      have zr2 : V.cell? ⟨w.heap.size + 1 + 1, 2, none⟩ = _ := (World.cell?_of_block (w := W) (ht.block (w.heap.size + 1 + 1) (by omega))).trans kr2
      have zz2 : V.frozen? ⟨w.heap.size + 1 + 1, 2, none⟩ = false := (World.frozen?_of_block (w := W) (ht.block (w.heap.size + 1 + 1) (by omega))).trans krz2
      have nb2 : V.cell? ⟨B, k * 11 + 2, none⟩ = some (.int .i64 n3') := by rw [hV]; go_simp; try rfl
      have zc3 : V.cell? ⟨w.heap.size, 3, none⟩ = _ := (World.cell?_of_block (w := W) (ht.block w.heap.size (by omega))).trans kc3
      have zr3 : V.cell? ⟨w.heap.size + 1 + 1, 3, none⟩ = _ := (World.cell?_of_block (w := W) (ht.block (w.heap.size + 1 + 1) (by omega))).trans kr3
      have zz3 : V.frozen? ⟨w.heap.size + 1 + 1, 3, none⟩ = false := (World.frozen?_of_block (w := W) (ht.block (w.heap.size + 1 + 1) (by omega))).trans krz3
      have nb3 : V.cell? ⟨B, k * 11 + 3, none⟩ = some (.int .i64 m3) := by rw [hV]; go_simp; try rfl
      have zc4 : V.cell? ⟨w.heap.size, 4, none⟩ = _ := (World.cell?_of_block (w := W) (ht.block w.heap.size (by omega))).trans kc4
      have zr4 : V.cell? ⟨w.heap.size + 1 + 1, 4, none⟩ = _ := (World.cell?_of_block (w := W) (ht.block (w.heap.size + 1 + 1) (by omega))).trans kr4
      have zz4 : V.frozen? ⟨w.heap.size + 1 + 1, 4, none⟩ = false := (World.frozen?_of_block (w := W) (ht.block (w.heap.size + 1 + 1) (by omega))).trans krz4
      have nb4 : V.cell? ⟨B, k * 11 + 4, none⟩ = some (.slice o7 l7 c7) := by rw [hV]; go_simp; try rfl
      have zc5 : V.cell? ⟨w.heap.size, 5, none⟩ = _ := (World.cell?_of_block (w := W) (ht.block w.heap.size (by omega))).trans kc5
      have zr5 : V.cell? ⟨w.heap.size + 1 + 1, 5, none⟩ = _ := (World.cell?_of_block (w := W) (ht.block (w.heap.size + 1 + 1) (by omega))).trans kr5
      have zz5 : V.frozen? ⟨w.heap.size + 1 + 1, 5, none⟩ = false := (World.frozen?_of_block (w := W) (ht.block (w.heap.size + 1 + 1) (by omega))).trans krz5
      have nb5 : V.cell? ⟨B, k * 11 + 5, none⟩ = some (.string fk3) := by rw [hV]; go_simp; try rfl
      have zc6 : V.cell? ⟨w.heap.size, 6, none⟩ = _ := (World.cell?_of_block (w := W) (ht.block w.heap.size (by omega))).trans kc6
      have zr6 : V.cell? ⟨w.heap.size + 1 + 1, 6, none⟩ = _ := (World.cell?_of_block (w := W) (ht.block (w.heap.size + 1 + 1) (by omega))).trans kr6
      have zz6 : V.frozen? ⟨w.heap.size + 1 + 1, 6, none⟩ = false := (World.frozen?_of_block (w := W) (ht.block (w.heap.size + 1 + 1) (by omega))).trans krz6
      have nb6 : V.cell? ⟨B, k * 11 + 6, none⟩ = some (.int .i64 fa3) := by rw [hV]; go_simp; try rfl
      have zc7 : V.cell? ⟨w.heap.size, 7, none⟩ = _ := (World.cell?_of_block (w := W) (ht.block w.heap.size (by omega))).trans kc7
      have zr7 : V.cell? ⟨w.heap.size + 1 + 1, 7, none⟩ = _ := (World.cell?_of_block (w := W) (ht.block (w.heap.size + 1 + 1) (by omega))).trans kr7
      have zz7 : V.frozen? ⟨w.heap.size + 1 + 1, 7, none⟩ = false := (World.frozen?_of_block (w := W) (ht.block (w.heap.size + 1 + 1) (by omega))).trans krz7
      have nb7 : V.cell? ⟨B, k * 11 + 7, none⟩ = some (.int .i64 fb3) := by rw [hV]; go_simp; try rfl
      have zc8 : V.cell? ⟨w.heap.size, 8, none⟩ = _ := (World.cell?_of_block (w := W) (ht.block w.heap.size (by omega))).trans kc8
      have zr8 : V.cell? ⟨w.heap.size + 1 + 1, 8, none⟩ = _ := (World.cell?_of_block (w := W) (ht.block (w.heap.size + 1 + 1) (by omega))).trans kr8
      have zz8 : V.frozen? ⟨w.heap.size + 1 + 1, 8, none⟩ = false := (World.frozen?_of_block (w := W) (ht.block (w.heap.size + 1 + 1) (by omega))).trans krz8
      have nb8 : V.cell? ⟨B, k * 11 + 8, none⟩ = some (.string fc3) := by rw [hV]; go_simp; try rfl
      have zc9 : V.cell? ⟨w.heap.size, 9, none⟩ = _ := (World.cell?_of_block (w := W) (ht.block w.heap.size (by omega))).trans kc9
      have zr9 : V.cell? ⟨w.heap.size + 1 + 1, 9, none⟩ = _ := (World.cell?_of_block (w := W) (ht.block (w.heap.size + 1 + 1) (by omega))).trans kr9
      have zz9 : V.frozen? ⟨w.heap.size + 1 + 1, 9, none⟩ = false := (World.frozen?_of_block (w := W) (ht.block (w.heap.size + 1 + 1) (by omega))).trans krz9
      have nb9 : V.cell? ⟨B, k * 11 + 9, none⟩ = some (.string fd3) := by rw [hV]; go_simp; try rfl
      have zc10 : V.cell? ⟨w.heap.size, 10, none⟩ = _ := (World.cell?_of_block (w := W) (ht.block w.heap.size (by omega))).trans kc10
      have zr10 : V.cell? ⟨w.heap.size + 1 + 1, 10, none⟩ = _ := (World.cell?_of_block (w := W) (ht.block (w.heap.size + 1 + 1) (by omega))).trans kr10
      have zz10 : V.frozen? ⟨w.heap.size + 1 + 1, 10, none⟩ = false := (World.frozen?_of_block (w := W) (ht.block (w.heap.size + 1 + 1) (by omega))).trans krz10
      have nb10 : V.cell? ⟨B, k * 11 + 10, none⟩ = some (.slice o8 l8 c8) := by rw [hV]; go_simp; try rfl
      have nbo : ∀ o, (o < k * 11 ∨ k * 11 + 11 ≤ o) → V.cell? ⟨B, o, none⟩ = W.cell? ⟨B, o, none⟩ := by
        intro o ho
        have m0 : ¬ (k * 11 = o) := by omega
        have l0 : ¬ (o = k * 11) := by omega
        have m1 : ¬ (k * 11 + 1 = o) := by omega
        have l1 : ¬ (o = k * 11 + 1) := by omega
        have m2 : ¬ (k * 11 + 2 = o) := by omega
        have l2 : ¬ (o = k * 11 + 2) := by omega
        have m3 : ¬ (k * 11 + 3 = o) := by omega
        have l3 : ¬ (o = k * 11 + 3) := by omega
        have m4 : ¬ (k * 11 + 4 = o) := by omega
        have l4 : ¬ (o = k * 11 + 4) := by omega
        have m5 : ¬ (k * 11 + 5 = o) := by omega
        have l5 : ¬ (o = k * 11 + 5) := by omega
        have m6 : ¬ (k * 11 + 6 = o) := by omega
        have l6 : ¬ (o = k * 11 + 6) := by omega
        have m7 : ¬ (k * 11 + 7 = o) := by omega
        have l7 : ¬ (o = k * 11 + 7) := by omega
        have m8 : ¬ (k * 11 + 8 = o) := by omega
        have l8 : ¬ (o = k * 11 + 8) := by omega
        have m9 : ¬ (k * 11 + 9 = o) := by omega
        have l9 : ¬ (o = k * 11 + 9) := by omega
        have m10 : ¬ (k * 11 + 10 = o) := by omega
        have l10 : ¬ (o = k * 11 + 10) := by omega
        rw [hV]
        go_simp
      clear hV z0 y0 yz0 kc0 kr0 krz0 z1 y1 yz1 kc1 kr1 krz1 z2 y2 yz2 kc2 kr2 krz2 z3 y3 yz3 kc3 kr3 krz3 z4 y4 yz4 kc4 kr4 krz4 z5 y5 yz5 kc5 kr5 krz5 z6 y6 yz6 kc6 kr6 krz6 z7 y7 yz7 kc7 kr7 krz7 z8 y8 yz8 kc8 kr8 krz8 z9 y9 yz9 kc9 kr9 krz9 z10 y10 yz10 kc10 kr10 krz10
      go_wp2_with fail
      (try simp only [Exit.inBlock, Exit.then])
      refine bodyPost_ret (by simp [results, Try.results30, go_sem, zr0, zr1, zr2, zr3, zr4, zr5, zr6, zr7, zr8, zr9, zr10]; try rfl) rfl ?_
      have h5 := (((((((((((Tch.refl (w.heap.size + 1 + 1) V).set 0 (.string op)).set 1 (.string name)).set 2 (.int .i64 n)).set 3 (.int .i64 m)).set 4 (.slice o1 l1 c1)).set 5 (.string fk)).set 6 (.int .i64 fa)).set 7 (.int .i64 fb)).set 8 (.string fc)).set 9 (.string fd)).set 10 (.slice (some ⟨B, 0, none⟩) l2 c2)
      have hf5 := fun o => World.cell?_of_block (w := V) (a := ⟨B, o, none⟩) (h5.block B (by omega))
      have hsz5 := h5.size.trans ht.size
      refine ⟨_, S, rfl, ⟨op3, name3, n3', m3, o7, l7, c7, fk3, fa3, fb3, fc3, fd3, o8, l8, c8, rfl⟩, hr.ext (Nat.le_of_eq hsz5.symm) fun b hb hbt => ⟨hbt, ?_⟩, fun b hb => ?_, h5.os.trans (ht.os.trans (hw.os.trans hb3.os)), h5.tape.trans (ht.tape.trans (hw.tape.trans hb3.tape)), h5.output.trans (ht.output.trans (hw.output.trans hb3.output)), by rw [hsz5]; omega, fun b hb hn hB => ?_, fun j hj => ?_, fun o ho => ?_⟩
      · have hb' := hS b (gS_free.1 hbt)
        have q1 : b ≠ B := by rcases hb'.2 with h | h; exact (hold b h).2; omega
        have q2 : b ≠ w.heap.size + 1 + 1 := by rcases hb'.2 with h | h; (have := (hold b h).1; omega); omega
        exact (h5.block b q2).trans (ht.block b q1)
      · obtain ⟨a1, a2⟩ := hS b hb; exact ⟨by rw [hsz5]; exact a1, a2⟩
      · exact (h5.block b (by omega)).trans ((ht.block b hB).trans ((hw.keep b (by omega) hn).trans (hb3.block b hb)))
      · match j, hj with
        | 0, _ => rw [hf5]; exact nb0
        | 1, _ => rw [hf5]; exact nb1
        | 2, _ => rw [hf5]; exact nb2
        | 3, _ => rw [hf5]; exact nb3
        | 4, _ => rw [hf5]; exact nb4
        | 5, _ => rw [hf5]; exact nb5
        | 6, _ => rw [hf5]; exact nb6
        | 7, _ => rw [hf5]; exact nb7
        | 8, _ => rw [hf5]; exact nb8
        | 9, _ => rw [hf5]; exact nb9
        | 10, _ => rw [hf5]; exact nb10
      · rw [hf5]; exact ((nbo o ho).trans ((hw.cell (by omega) hkB).trans (hb3.cell hlt)))
end Go.V
