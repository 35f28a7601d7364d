/- What a row's reading of plain data says of pure values, and how a law follows from what the evaluator tells. Conditions: those that each theorem names. -/
import Derived.Test.YtcdkljinnmphjaaVC
import Derived.ChangeArms
import Derived.ChangeSame
import Derived.SizedLaws
import Derived.WideKeyArgs
import Derived.Deep.OwnRows
import Derived.RowKit
import Derived.JoinedCond
import Derived.Deep.CondSized
namespace Go.V

/-- A pure value with all that a reading says of it. -/
inductive WT (P : Program) : Ty → PV → Prop
  | int (k : IntKind) (n : Int) (h : (Lit.int k n).wf = true) : WT P (.int k) (.int k n)
  | bool (b : Bool) : WT P .bool (.bool b)
  | str (s : ByteArray) (h : s.size ≤ reachBytes) : WT P .str (.str s)
  | sl (e : TypeId) (l : List PV) (h : ∀ (i : Nat) (x : PV), l[i]? = some x → WT P (tyOf P e) x) (hl : l.length * P.bytesOf e ≤ reachBytes) : WT P (.sl e) (.sl l)
  | st (t : TypeId) (xs : List PV) (hx : xs.length = (cellTys P deep t).length)
      (h : ∀ (i : Nat) (ty : Ty) (x : PV), (cellTys P deep t)[i]? = some ty → xs[i]? = some x → WT P ty x) : WT P (.st t) (.agg xs)

mutual
def PV.sz : PV → Nat
  | .str s => s.size + 1
  | .sl l => szs l + 1
  | .agg l => szs l + 1
  | .int _ _ => 1
  | .bool _ => 1
  | .cst _ => 1
  | .ifc _ v => v.sz + 1
def szs : List PV → Nat
  | [] => 0
  | x :: r => x.sz + szs r
end

mutual
def bulk {H : Type} : DataW H → Nat
  | .lit (.string bytes) => bytes.length + 1
  | .lit _ => 1
  | .nil => 1
  | .ptr d => bulk d + 1
  | .slice elems spare => bulks elems + bulks spare + 1
  | .agg parts => bulks parts + 1
  | .iface _ d => bulk d + 1
  | .map entries => bulkEs entries + 1
  | .held _ => 1
def bulks {H : Type} : List (DataW H) → Nat
  | [] => 0
  | d :: r => bulk d + bulks r
def bulkEs {H : Type} : List (Lit × DataW H) → Nat
  | [] => 0
  | x :: r => bulkE x + bulkEs r
def bulkE {H : Type} : Lit × DataW H → Nat
  | (.string bytes, d) => bytes.length + bulk d + 1
  | (_, d) => bulk d + 1
end

/-- Where the fields of a struct lie. -/
def layF (P : Program) : Nat → List Field → Option Nat
  | o, [] => some o
  | o, f :: r => bif Nat.beq f.offset o then layF P (o + P.cellsOf f.type) r else none

/-- Types of plain data, all that they hold being of such types. -/
def plainTy (P : Program) (S : List TypeId) (t : TypeId) : Bool :=
  match P.underlying t with
  | some .bool => Nat.beq (P.cellsOf t) 1
  | some (.int _) => Nat.beq (P.cellsOf t) 1
  | some .string => Nat.beq (P.cellsOf t) 1
  | some (.slice e) => Nat.beq (P.cellsOf t) 1 && (S.contains e && decide (1 ≤ P.cellsOf e))
  | some (.struct fs) => fs.toList.all (fun f => S.contains f.type) && (decide (layF P 0 fs.toList = some (P.cellsOf t)) && decide (cellTys P deep t = fs.toList.flatMap fun f => cellTys P deep f.type))
  | _ => false

def isSt (P : Program) (t : TypeId) : Bool := match P.underlying t with | some (.struct _) => true | _ => false

section
variable {H : Type} {enc : TypeId × Value → H} {P : Program} {w : World} {g : G} {base : Nat} {spare : Nat → Bool} {held : Bool} {S : List TypeId}

structure Cells (P : Program) (w : World) (g : G) (tys : List Ty) (xs : List PV) (cs : List Value) : Prop where
  lx : xs.length = tys.length
  lc : cs.length = tys.length
  h : ∀ (i : Nat) (ty : Ty) (x : PV) (c : Value), tys[i]? = some ty → xs[i]? = some x → cs[i]? = some c → PRep P w g ty x c ∧ WT P ty x

theorem Cells.append {t1 t2 : List Ty} {x1 x2 : List PV} {c1 c2 : List Value} (a : Cells P w g t1 x1 c1) (b : Cells P w g t2 x2 c2) : Cells P w g (t1 ++ t2) (x1 ++ x2) (c1 ++ c2) := by
  refine ⟨by simp [a.lx, b.lx], by simp [a.lc, b.lc], fun i ty x c ht hx hc => ?_⟩
  by_cases hi : i < t1.length
  · rw [List.getElem?_append_left hi] at ht
    rw [List.getElem?_append_left (by rw [a.lx]; exact hi)] at hx
    rw [List.getElem?_append_left (by rw [a.lc]; exact hi)] at hc
    exact a.h i ty x c ht hx hc
  · rw [List.getElem?_append_right (by omega)] at ht
    rw [List.getElem?_append_right (by rw [a.lx]; omega), a.lx] at hx
    rw [List.getElem?_append_right (by rw [a.lc]; omega), a.lc] at hc
    exact b.h _ ty x c ht hx hc

theorem Cells.one {t : Ty} {x : PV} {c : Value} (h : PRep P w g t x c) (k : WT P t x) : Cells P w g [t] [x] [c] := by
  refine ⟨rfl, rfl, fun i ty x' c' ht hx hc => ?_⟩
  cases i with
  | zero => simp at ht hx hc; subst ht hx hc; exact ⟨h, k⟩
  | succ i => simp at ht

theorem szs_append : ∀ (a b : List PV), szs (a ++ b) = szs a + szs b
  | [], b => by simp [szs]
  | x :: a, b => by simp [szs, szs_append a b, Nat.add_assoc]

theorem cellTys_leaf {t : TypeId} (h : ∀ fs, P.underlying t ≠ some (.struct fs)) (h' : ∀ n e, P.underlying t ≠ some (.array n e)) : cellTys P deep t = [tyOf P t] := by
  unfold deep
  rw [cellTys]
  split
  · rename_i fs hf; exact absurd hf (h fs)
  · rename_i n e hf; exact absurd hf (h' n e)
  · rfl

/-- Elements, one by one. -/
theorem list_of {R : Nat → PV → Prop} : ∀ (ys : List (DataW H)) (o : Nat), (∀ (i : Nat) (y : DataW H), ys[i]? = some y → ∃ x, R (o + i) x ∧ x.sz ≤ bulk y) →
    ∃ l : List PV, l.length = ys.length ∧ (∀ (i : Nat) (x : PV), l[i]? = some x → R (o + i) x) ∧ szs l ≤ bulks ys
  | [], o, _ => ⟨[], rfl, fun i x hx => by simp at hx, by simp [szs]⟩
  | y :: ys, o, h => by
    obtain ⟨x, hx, hs⟩ := h 0 y rfl
    obtain ⟨l, l1, l2, l3⟩ := list_of (R := R) ys (o + 1) (fun i y' hy => by
      have := h (i + 1) y' (by simpa using hy)
      rw [show o + 1 + i = o + (i + 1) by omega]; exact this)
    refine ⟨x :: l, by simp [l1], fun i z hz => ?_, by simp only [szs, bulks]; omega⟩
    cases i with
    | zero => simp at hz; subst hz; exact hx
    | succ i => rw [show o + (i + 1) = o + 1 + i by omega]; exact l2 i z (by simpa using hz)

theorem weightsEach_each {t : TypeId} {d : DataW H} {ts : List TypeId} {ds : List (DataW H)} {i : Nat} (ht : ts[i]? = some t) (hd : ds[i]? = some d)
    (h : ∀ n ∈ DataW.weightsEach P ts ds, n ≤ reachBytes) : ∀ n ∈ d.weights P t, n ≤ reachBytes :=
  fun n hn => h n (DataW.weights_mem_each ht hd n hn)

theorem weightsAll_each {e : TypeId} : ∀ {ds : List (DataW H)} {i : Nat} {d : DataW H}, ds[i]? = some d → (∀ n ∈ DataW.weightsAll P e ds, n ≤ reachBytes) → ∀ n ∈ d.weights P e, n ≤ reachBytes
  | d0 :: ds, 0, d, hd, h, n, hn => by
    simp at hd; subst hd
    exact h n (by simp only [DataW.weightsAll, List.mem_append]; exact .inl hn)
  | d0 :: ds, i + 1, d, hd, h, n, hn =>
    weightsAll_each (ds := ds) (i := i) (by simpa using hd) (fun m hm => h m (by simp only [DataW.weightsAll, List.mem_append]; exact .inr hm)) n hn

/-- Fields, one behind the other. -/
theorem fields_of {n : Nat} {cs : List Value} (IH : ∀ t, S.contains t = true → ∀ cs d ps, DataW.trod enc P w base spare held n t cs = some (d, ps) → (∀ n ∈ d.weights P t, n ≤ reachBytes) →
      ∃ xs, Cells P w g (cellTys P deep t) xs cs ∧ szs xs + (if isSt P t = true then 1 else 0) ≤ bulk d) :
    ∀ (fs : List Field) (ys : List (DataW H × List MemPlace)) (o e : Nat), layF P o fs = some e → (∀ f ∈ fs, S.contains f.type = true) → ys.length = fs.length →
      (∀ (i : Nat) (f : Field), fs[i]? = some f → DataW.trod enc P w base spare held n f.type ((cs.drop f.offset).take (P.cellsOf f.type)) = ys[i]?) →
      (∀ n ∈ DataW.weightsEach P (fs.map (·.type)) (ys.map (·.1)), n ≤ reachBytes) →
      o ≤ e ∧ ∃ xs, Cells P w g (fs.flatMap fun f => cellTys P deep f.type) xs ((cs.drop o).take (e - o)) ∧ szs xs ≤ bulks (ys.map (·.1))
  | [], ys, o, e, hl, _, hy, _, _ => by
    simp only [layF, Option.some.injEq] at hl
    subst hl
    exact ⟨Nat.le_refl _, [], ⟨rfl, by simp, fun i ty x c ht => by simp at ht⟩, by simp [szs]⟩
  | f :: fs, [], o, e, hl, _, hy, _, _ => by simp at hy
  | f :: fs, y :: ys, o, e, hl, hS, hy, hf, hw => by
    simp only [layF] at hl
    cases ho : Nat.beq f.offset o with
    | false => simp [ho] at hl
    | true =>
      simp only [ho, cond_true] at hl
      have ho := Nat.eq_of_beq_eq_true ho
      have h0 := hf 0 f rfl
      simp only [List.getElem?_cons_zero] at h0
      obtain ⟨x1, c1, s1⟩ := IH f.type (hS f (by simp)) _ y.1 y.2 h0 (fun n hn => hw n (by simp only [List.map_cons, DataW.weightsEach, List.mem_append]; exact .inl hn))
      obtain ⟨le, x2, c2, s2⟩ := fields_of IH fs ys (o + P.cellsOf f.type) e hl (fun f' hf' => hS f' (by simp [hf'])) (by simpa using hy) (fun i f' hf' => hf (i + 1) f' (by simpa using hf'))
        (fun n hn => hw n (by simp only [List.map_cons, DataW.weightsEach, List.mem_append]; exact .inr hn))
      refine ⟨by omega, x1 ++ x2, ?_, ?_⟩
      · have e1 : (cs.drop o).take (e - o) = ((cs.drop f.offset).take (P.cellsOf f.type)) ++ ((cs.drop (o + P.cellsOf f.type)).take (e - (o + P.cellsOf f.type))) := by
          rw [show e - o = P.cellsOf f.type + (e - (o + P.cellsOf f.type)) by omega, List.take_add, ho, List.drop_drop]
        rw [e1]
        exact c1.append c2
      · rw [szs_append]
        simp only [List.map_cons, bulks]
        split at s1 <;> omega

theorem oneCell_cells {t : Ty} {x : PV} {c : Value} (h : PRep P w g t x c) (hst : ∀ u, t ≠ .st u) : c.cells = #[c] := by
  cases h with
  | st t => exact absurd rfl (hst t)
  | _ => rfl

theorem bulk_lit {H : Type} (s : ByteArray) : bulk (.lit (.string s.data.toList) : DataW H) = s.size + 1 := by
  simp only [bulk]
  rw [Array.length_toList]; rfl

/-- WHAT IS READ STANDS FOR A PURE VALUE. -/
theorem trod_cells (hS : ∀ t, S.contains t = true → plainTy P S t = true) (hsp : ∀ b, spare b = true) (hfree : ∀ b, b < w.heap.size → g.tag b = .free) :
    ∀ (n : Nat) (t : TypeId), S.contains t = true → ∀ (cs : List Value) (d : DataW H) (ps : List MemPlace), DataW.trod enc P w base spare held n t cs = some (d, ps) → (∀ n ∈ d.weights P t, n ≤ reachBytes) →
      ∃ xs, Cells P w g (cellTys P deep t) xs cs ∧ szs xs + (if isSt P t = true then 1 else 0) ≤ bulk d
  | 0, t, _, cs, d, ps, h, _ => by simp [DataW.trod] at h
  | n + 1, t, ht, cs, d, ps, h, hw => by
    have hp := hS t ht
    have IH := trod_cells hS hsp hfree n
    unfold plainTy at hp
    split at hp
    · rename_i hu
      obtain ⟨b, rfl, hx⟩ := DataW.trod_bool hu h
      simp only [Prod.mk.injEq] at hx
      obtain ⟨rfl, rfl⟩ := hx
      rw [cellTys_leaf (by simp [hu]) (by simp [hu])]
      refine ⟨[.bool b], Cells.one (by simp only [tyOf, hu]; exact .bool b) (by simp only [tyOf, hu]; exact .bool b), by simp [szs, PV.sz, isSt, hu, bulk]⟩
    · rename_i k hu
      obtain ⟨m, rfl, hx, hwf⟩ := DataW.trod_int hu h
      simp only [Prod.mk.injEq] at hx
      obtain ⟨rfl, rfl⟩ := hx
      rw [cellTys_leaf (by simp [hu]) (by simp [hu])]
      refine ⟨[.int k m], Cells.one (by simp only [tyOf, hu]; exact .int k m) (by simp only [tyOf, hu]; exact .int k m hwf), by simp [szs, PV.sz, isSt, hu, bulk]⟩
    · rename_i hu
      obtain ⟨s, rfl, hx, hwf⟩ := DataW.trod_string hu h
      simp only [Prod.mk.injEq] at hx
      obtain ⟨rfl, rfl⟩ := hx
      rw [cellTys_leaf (by simp [hu]) (by simp [hu])]
      have hlen : s.size ≤ reachBytes := by
        have := hw s.data.toList.length (by simp [DataW.weights])
        rw [Array.length_toList] at this; exact this
      refine ⟨[.str s], Cells.one (by simp only [tyOf, hu]; exact .str s) (by simp only [tyOf, hu]; exact .str s hlen), by rw [bulk_lit]; simp [szs, PV.sz, isSt, hu]⟩
    · rename_i e hu
      simp only [Bool.and_eq_true, decide_eq_true_eq] at hp
      obtain ⟨_, hSe, hone⟩ := hp
      have hty : tyOf P t = .sl e := by simp [tyOf, hu]
      rw [cellTys_leaf (by simp [hu]) (by simp [hu]), hty]
      have hns : isSt P t = false := by simp [isSt, hu]
      rcases DataW.trod_slice hu h with ⟨rfl, hx⟩ | ⟨a, len, cap, elems, rest, m, hm, rfl, hx, hb, hlc, hcm, hlen, hel, hrest, _⟩
      · simp only [Prod.mk.injEq] at hx
        obtain ⟨rfl, rfl⟩ := hx
        exact ⟨[.sl []], Cells.one (.nsl e) (.sl e [] (fun i x hx => by simp at hx) (by simp)), by simp [szs, PV.sz, hns, bulk]⟩
      · simp only [Prod.mk.injEq] at hx
        obtain ⟨rfl, rfl⟩ := hx
        obtain rfl : n = m := by omega
        obtain ⟨hrl, hre⟩ := hrest (hsp _)
        by_cases hcap : cap = 0
        · have hl0 : len = 0 := by omega
          subst hcap; subst hl0
          have he0 : elems = [] := List.eq_nil_of_length_eq_zero hlen
          subst he0
          exact ⟨[.sl []], Cells.one (.esl e a) (.sl e [] (fun i x hx => by simp at hx) (by simp)), by simp [szs, PV.sz, hns, bulk]⟩
        · -- the block is there
          have hc0 : ∃ cs0, w.cells? base a (P.cellsOf e) = some cs0 := by
            by_cases hl : 0 < len
            · have h0 := hel 0 hl
              rw [List.getElem?_eq_getElem (by omega)] at h0
              simp only [Nat.zero_mul, Addr.add, if_true, Option.bind_eq_some_iff] at h0
              obtain ⟨cs0, h0, _⟩ := h0
              exact ⟨cs0, h0⟩
            · have h0 := hre 0 (by omega)
              rw [List.getElem?_eq_getElem (by omega)] at h0
              have hl0 : len = 0 := by omega
              simp only [hl0, Nat.zero_add, Nat.zero_mul, Addr.add, if_true, Option.bind_eq_some_iff] at h0
              obtain ⟨cs0, h0, _⟩ := h0
              exact ⟨cs0, h0⟩
          obtain ⟨cs0, hc0⟩ := hc0
          have hblk := World.cells?_block hc0 hone
          obtain ⟨_, hl0, hcell0⟩ := World.cells?_some hc0
          have hsp0 : a.spot = none := by
            have := hcell0 0 (by omega)
            simp only [Addr.add, if_true] at this
            rw [List.getElem?_eq_getElem (by omega)] at this
            exact World.cell?_spot this
          obtain ⟨b, off, sp⟩ := a
          simp only at hsp0
          subst hsp0
          have hcs : ∀ i, i < len → ∃ csi y, w.cells? base ⟨b, off + i * P.cellsOf e, none⟩ (P.cellsOf e) = some csi ∧ DataW.trod enc P w base spare held n e csi = some y ∧ elems[i]? = some y := by
            intro i hi
            have h0 := hel i hi
            rw [List.getElem?_eq_getElem (by omega)] at h0
            rw [Option.bind_eq_some_iff] at h0
            obtain ⟨csi, h1, h2⟩ := h0
            rw [Addr.add_lit] at h1
            exact ⟨csi, _, h1, h2, List.getElem?_eq_getElem (by omega)⟩
          let csf : Nat → List Value := fun i => (w.cells? base ⟨b, off + i * P.cellsOf e, none⟩ (P.cellsOf e)).getD []
          let f : Nat → Value := fun i => if isSt P e = true then .agg ⟨csf i⟩ else (csf i).headD undef
          obtain ⟨l, l1, l2, l3⟩ := list_of (R := fun i x => PRep P w g (tyOf P e) x (f i) ∧ WT P (tyOf P e) x ∧ (f i).cells = ⟨csf i⟩) (elems.map (·.1)) 0 (fun i y hy => by
            rw [List.getElem?_map, Option.map_eq_some_iff] at hy
            obtain ⟨y', hy', rfl⟩ := hy
            have hi : i < len := by rw [← hlen]; exact (List.getElem?_eq_some_iff.1 hy').1
            obtain ⟨csi, y2, h1, h2, h3⟩ := hcs i hi
            rw [hy'] at h3
            obtain rfl := Option.some.inj h3
            have hweights : ∀ n ∈ y'.1.weights P e, n ≤ reachBytes := by
              refine weightsAll_each (ds := elems.map (·.1)) (i := i) (by rw [List.getElem?_map, hy']; rfl) (fun k hk => hw k ?_)
              simp only [DataW.weights, hu, List.mem_cons, List.mem_append]
              exact .inr (.inl hk)
            obtain ⟨xs, hx, hs⟩ := IH e hSe csi y'.1 y'.2 h2 hweights
            have hcsf : csf i = csi := by simp only [csf, h1, Option.getD_some]
            rw [Nat.zero_add]
            cases hst : isSt P e with
            | true =>
              rw [hst] at hs
              simp only [if_true] at hs
              have hte : tyOf P e = .st e := by
                unfold isSt at hst
                split at hst
                · rename_i fs hfs; simp [tyOf, hfs]
                · cases hst
              refine ⟨.agg xs, ⟨?_, ?_, ?_⟩, by simpa [PV.sz] using hs⟩
              · simp only [f, hst, if_true, hte, hcsf]
                exact .st e xs csi hx.lx hx.lc (fun j ty x c h1 h2 h3 => (hx.h j ty x c h1 h2 h3).1)
              · rw [hte]
                refine .st e xs hx.lx (fun j ty x h1 h2 => ?_)
                have hj : j < csi.length := by rw [hx.lc]; exact (List.getElem?_eq_some_iff.1 h1).1
                exact (hx.h j ty x _ h1 h2 (List.getElem?_eq_getElem hj)).2
              · simp only [f, hst, if_true]; rfl
            | false =>
              rw [hst] at hs
              have hpe := hS e hSe
              have hleaf : cellTys P deep e = [tyOf P e] ∧ ∀ u, tyOf P e ≠ .st u := by
                unfold plainTy at hpe
                unfold isSt at hst
                split at hpe
                · rename_i hue; exact ⟨cellTys_leaf (by simp [hue]) (by simp [hue]), by simp [tyOf, hue]⟩
                · rename_i hue; exact ⟨cellTys_leaf (by simp [hue]) (by simp [hue]), by simp [tyOf, hue]⟩
                · rename_i hue; exact ⟨cellTys_leaf (by simp [hue]) (by simp [hue]), by simp [tyOf, hue]⟩
                · rename_i hue; exact ⟨cellTys_leaf (by simp [hue]) (by simp [hue]), by simp [tyOf, hue]⟩
                · rename_i hue; rw [hue] at hst; simp at hst
                · cases hpe
              rw [hleaf.1] at hx
              obtain ⟨x, rfl⟩ : ∃ x, xs = [x] := List.length_eq_one_iff.1 hx.lx
              obtain ⟨c, rfl⟩ : ∃ c, csi = [c] := List.length_eq_one_iff.1 hx.lc
              obtain ⟨q1, q2⟩ := hx.h 0 _ x c rfl rfl rfl
              have hf : f i = c := by simp [f, hst, hcsf]
              refine ⟨x, ⟨by rw [hf]; exact q1, q2, ?_⟩, by simpa [szs] using hs⟩
              rw [hf, hcsf]
              exact oneCell_cells q1 hleaf.2)
          have hll : l.length = len := by rw [l1, List.length_map, hlen]
          refine ⟨[.sl l], Cells.one (hll ▸ .sl e l b off cap f (fun i x hx => ?_) (fun i hi j hj => ?_) (hfree _ hblk) hblk (by omega)) (.sl e l (fun i x hx => ?_) ?_), ?_⟩
          · have := (l2 i x hx).1; simpa using this
          · have hx := List.getElem?_eq_getElem hi
            have h3 := (l2 i _ hx).2.2
            rw [Nat.zero_add] at h3
            obtain ⟨csi, y2, h1, h2, h3'⟩ := hcs i (by omega)
            obtain ⟨_, hli, hci⟩ := World.cells?_some h1
            have := hci j (by omega)
            rw [Addr.add_lit] at this
            rw [this, h3]
            simp only [csf, h1, Option.getD_some]
            simp
          · have := (l2 i x hx).2.1; simpa using this
          · have := hw ((elems.map (·.1)).length * P.bytesOf e + (rest.map (·.1)).length * P.bytesOf e) (by
              simp only [DataW.weights, hu, List.mem_cons]
              left; rw [Nat.add_mul])
            rw [l1]; omega
          · simp only [szs, PV.sz, hns, bulk]
            simp; omega
    · rename_i fs hu
      simp only [Bool.and_eq_true, decide_eq_true_eq, List.all_eq_true] at hp
      obtain ⟨hf, hlay, hct⟩ := hp
      obtain ⟨xs, m, hm, hx, hl, hxl, hfs⟩ := DataW.trod_struct hu h
      obtain rfl : n = m := by omega
      simp only [Prod.mk.injEq] at hx
      obtain ⟨rfl, rfl⟩ := hx
      obtain ⟨_, ys, c1, s1⟩ := fields_of (g := g) (cs := cs) IH fs.toList xs 0 _ hlay hf (by simpa using hxl) (fun i f hf => hfs i f (by simpa using hf))
        (fun n hn => hw n (by simp only [DataW.weights, hu]; exact hn))
      rw [hct]
      refine ⟨ys, ?_, ?_⟩
      · rw [Nat.sub_zero, List.drop_zero, ← hl, List.take_length] at c1
        exact c1
      · simp only [isSt, hu, if_true, bulk]; omega
    · cases hp

end
end Go.V

namespace Go.V
open Go.ChangeShapes Go.WideShapes Go.ChangeAt Go.RowKit

def mkArgs (P : Program) : List TypeId → List PV → List AO
  | t :: ts, x :: xs => .pv (tyOf P t) x :: mkArgs P ts xs
  | _, _ => []

def WTs (P : Program) : List TypeId → List PV → Prop
  | [], [] => True
  | t :: ts, x :: xs => WT P (tyOf P t) x ∧ WTs P ts xs
  | _, _ => False

/-- Nobody owns anything. -/
def gFree : G := { tag := fun _ => .free, val := fun _ _ => undef }

section
variable {H : Type} {enc : TypeId × Value → H} {P : Program} {w : World} {g : G} {base : Nat} {spare : Nat → Bool} {held : Bool} {S : List TypeId}

theorem arg_rep (hS : ∀ t, S.contains t = true → plainTy P S t = true) (hsp : ∀ b, spare b = true) (hfree : ∀ b, b < w.heap.size → g.tag b = .free) {t : TypeId} (ht : S.contains t = true) {v : Value} {d : DataW H} {ps : List MemPlace} {b0 : Nat}
    (h : DataW.Trod enc P w base spare held t v d ps) (hv : Value.okWide P w .any b0 t v) (hw : ∀ n ∈ d.weights P t, n ≤ reachBytes) :
    ∃ x, PRep P w g (tyOf P t) x v ∧ WT P (tyOf P t) x ∧ x.sz ≤ bulk d := by
  obtain ⟨n, h⟩ := h
  obtain ⟨xs, hx, hs⟩ := trod_cells (g := g) hS hsp hfree n t ht _ d ps h hw
  have hp := hS t ht
  have leaf : cellTys P deep t = [tyOf P t] → isSt P t = false → v.cells = #[v] → ∃ x, PRep P w g (tyOf P t) x v ∧ WT P (tyOf P t) x ∧ x.sz ≤ bulk d := by
    intro h1 h2 h3
    rw [h1, h3] at hx
    rw [h2] at hs
    obtain ⟨x, rfl⟩ : ∃ x, xs = [x] := List.length_eq_one_iff.1 hx.lx
    obtain ⟨q1, q2⟩ := hx.h 0 _ x v rfl rfl rfl
    exact ⟨x, q1, q2, by simpa [szs] using hs⟩
  unfold plainTy at hp
  split at hp
  · rename_i hu
    refine leaf (cellTys_leaf (by simp [hu]) (by simp [hu])) (by simp [isSt, hu]) ?_
    simp only [Value.okWide, hu, Cell.okWide, Cell.ok] at hv
    cases v <;> first | rfl | (exfalso; exact hv)
  · rename_i k hu
    refine leaf (cellTys_leaf (by simp [hu]) (by simp [hu])) (by simp [isSt, hu]) ?_
    simp only [Value.okWide, hu, Cell.okWide, Cell.ok] at hv
    cases v <;> first | rfl | (exfalso; exact hv)
  · rename_i hu
    refine leaf (cellTys_leaf (by simp [hu]) (by simp [hu])) (by simp [isSt, hu]) ?_
    simp only [Value.okWide, hu, Cell.okWide, Cell.ok] at hv
    cases v <;> first | rfl | (exfalso; exact hv)
  · rename_i e hu
    refine leaf (cellTys_leaf (by simp [hu]) (by simp [hu])) (by simp [isSt, hu]) ?_
    simp only [Value.okWide, hu, Cell.okWide, Cell.ok] at hv
    cases v <;> first | rfl | (exfalso; exact hv)
  · rename_i fs hu
    simp only [Value.okWide, hu] at hv
    obtain ⟨cs, rfl, _, _⟩ := hv
    have hte : tyOf P t = .st t := by simp [tyOf, hu]
    have hst : isSt P t = true := by simp [isSt, hu]
    rw [hst] at hs
    refine ⟨.agg xs, ?_, ?_, by simpa [PV.sz] using hs⟩
    · rw [hte]
      exact .st t xs cs.toList hx.lx hx.lc (fun j ty x c h1 h2 h3 => (hx.h j ty x c h1 h2 h3).1)
    · rw [hte]
      refine .st t xs hx.lx (fun j ty x h1 h2 => ?_)
      have hj : j < cs.toList.length := by
        have := hx.lc
        have h1' := (List.getElem?_eq_some_iff.1 h1).1
        simp only [Value.cells] at this
        omega
      exact (hx.h j ty x _ h1 h2 (by show cs.toList[j]? = _; exact List.getElem?_eq_getElem hj)).2
  · cases hp

theorem args_rep (hS : ∀ t, S.contains t = true → plainTy P S t = true) (hsp : ∀ b, spare b = true) (hfree : ∀ b, b < w.heap.size → g.tag b = .free) {b0 : Nat} :
    ∀ {ts : List TypeId} {vs : List Value} {ds : List (DataW H)} {ps : List MemPlace}, (∀ t ∈ ts, S.contains t = true) → DataW.TrodAll enc P w base spare held ts vs ds ps →
      (∀ (j : Nat) t v, ts[j]? = some t → vs[j]? = some v → Value.okWide P w .any b0 t v) → (∀ n ∈ DataW.weightsEach P ts ds, n ≤ reachBytes) →
      ∃ xs, WTs P ts xs ∧ ArgsRep P w g 0 (mkArgs P ts xs) vs ∧ szs xs ≤ bulks ds ∧ nLent (mkArgs P ts xs) = 0
  | [], vs, ds, ps, _, h, _, _ => by
    cases vs with
    | nil => exact ⟨[], trivial, trivial, by simp [szs], rfl⟩
    | cons v vs => cases ds <;> simp [DataW.TrodAll] at h
  | t :: ts, vs, ds, ps, hts, h, hv, hw => by
    obtain ⟨v, vs, d, ds, p, q, rfl, rfl, rfl, h1, h2⟩ := trodAll_cons h
    obtain ⟨x, r1, r2, r3⟩ := arg_rep (g := g) hS hsp hfree (hts t (by simp)) h1 (hv 0 t v rfl rfl) (fun n hn => hw n (by simp only [DataW.weightsEach, List.mem_append]; exact .inl hn))
    obtain ⟨xs, s1, s2, s3, s4⟩ := args_rep hS hsp hfree (fun t' h' => hts t' (by simp [h'])) h2 (fun j t' v' a b => hv (j + 1) t' v' (by simpa using a) (by simpa using b))
      (fun n hn => hw n (by simp only [DataW.weightsEach, List.mem_append]; exact .inr hn))
    exact ⟨x :: xs, ⟨r2, s1⟩, ⟨r1, s2⟩, by simp only [szs, bulks]; omega, s4⟩

theorem trodAll_stays (hl : laidOutB P = true) {W W' : World} {sp' : Nat → Bool} :
    ∀ {ts : List TypeId} {vs : List Value} {ds : List (DataW H)} {ps : List MemPlace}, (∀ t ∈ ts, P.readableRec t = true ∧ t < P.types.size) →
      DataW.TrodAll enc P W base (fun _ => true) true ts vs ds ps → (∀ p ∈ ps, W.sameAt W' p) → (∀ p ∈ ps, sp' p.block = true) → DataW.TrodAll enc P W' base sp' true ts vs ds ps
  | [], vs, ds, ps, _, h, _, _ => by
    cases vs <;> cases ds <;> simp [DataW.TrodAll] at h ⊢
    exact h
  | t :: ts, vs, ds, ps, hts, h, hsame, hs => by
    obtain ⟨v, vs, d, ds, p, q, rfl, rfl, rfl, h1, h2⟩ := trodAll_cons h
    exact ⟨p, q, WideElems.Trod_stays hl (hts t (by simp)).1 (hts t (by simp)).2 h1 (fun x hx => hsame x (by simp [hx])) (fun x hx => hs x (by simp [hx])),
      trodAll_stays hl (fun t' h' => hts t' (by simp [h'])) h2 (fun x hx => hsame x (by simp [hx])) (fun x hx => hs x (by simp [hx])), rfl⟩

/-- What is left by a call that only adds to memory. -/
theorem post_kept {f : Func} {s : ChangeSpec} {apart fresh handsOn again : Bool} {W W' : World} {args : Array Value} {v : Value} {ds gs : List (DataW H)} {before pa pv : List MemPlace}
    (hW : DataW.Whole enc P f.params.toList s.vars apart W args.toList ds gs before)
    (hres : ∀ (b : Nat) (sp : Nat → Bool) (hd : Bool), DataW.TrodAll enc P W' b sp hd f.resultTypes.toList (v.resultList f.resultTypes.size) (s.fn H (ds ++ gs)).results [])
    (hargs : ∀ sp : Nat → Bool, (∀ p ∈ before, sp p.block = true) → DataW.TrodAll enc P W' 0 sp true f.params.toList args.toList (s.fn H (ds ++ gs)).args pa)
    (hvars : ∀ sp : Nat → Bool, (∀ p ∈ before, sp p.block = true) → DataW.TrodVars enc P W' sp s.vars (s.fn H (ds ++ gs)).vars pv)
    (hps : before = pa ++ pv) (hs : W.Since W.heap.size W')
    (hok : ∀ (j : Nat) (t : TypeId) (r : Value), f.resultTypes[j]? = some t → (v.resultList f.resultTypes.size)[j]? = some r → Value.okWide P W' .any 0 t r) :
    s.post enc P f apart fresh handsOn again W args v W' := by
  have hlt := hW.lt
  have hold : ∀ p ∈ before, (fun b => decide (b < W.heap.size)) p.block = true := fun p hp => by simpa using hlt p hp
  refine ⟨ds, gs, before, [], pa, pv, hW, hres _ _ _, hargs _ hold, hvars _ hold, hs.frame _, fun _ => ?_⟩
  obtain ⟨_, _, _, _, _, hz, hn⟩ := hW
  refine ⟨hok, _, _, ([] ++ pa) ++ pv, ⟨[] ++ pa, pv, trodAll_append (hargs _ (fun _ _ => rfl)) (hres _ _ _), hvars _ (fun _ _ => rfl), rfl, fun b off hp => ?_, fun ha => ?_⟩, fun p hp _ => ?_⟩
  · have hp' : MemPlace.cell b off ∈ before := by rw [hps]; simpa using hp
    rw [hs.frozen (hlt _ hp')]
    exact hz b off hp'
  · have := hn ha
    rw [hps] at this
    simpa using this
  · rw [hps]
    simpa using hp

/-- A function with a body is entered. -/
theorem CallsAny.enter {f : FuncId} {fn : Func} (h1 : P.funcs[f]? = some fn) (h2 : fn.body.isSome = true) (h3 : fn.name ≠ "runtime.NumGoroutine") {args : Array Value} {R : Ending → World → Prop}
    (h : CallsAny P f args w R) : Calls P f args w R := by
  rcases h with ⟨_, _, _, _, h⟩ | ⟨v, w', hrun, _⟩
  · exact h
  · exfalso
    have hn : (fn.name == "runtime.NumGoroutine") = false := by simpa using h3
    have hb : fn.body.isNone = false := by cases hfb : fn.body <;> simp [hfb] at h2 ⊢
    simp only [callFunc, Sem.run_bind, run_program, Result.andThen_ok, h1, hn, hb, Bool.false_eq_true, if_false, Sem.run_pure] at hrun
    cases hrun

/-- A LAW OVER PLAIN DATA: that the engine tells 'true' is what its contract asks. -/
theorem law_contract {f : FuncId} {fn : Func} {s : ChangeSpec} {apart fresh handsOn again : Bool} {tb : TypeId}
    (hS : ∀ t, S.contains t = true → plainTy P S t = true) (hts : ∀ t ∈ fn.params.toList, S.contains t = true ∧ P.readableRec t = true ∧ t < P.types.size) (hl : laidOutB P = true)
    (hr : fn.resultTypes = #[tb]) (htb : P.underlying tb = some .bool) (hv : s.vars = [])
    (hs : ∀ ds : List (DataW H), ds.length = fn.params.size → s.fn H ds = { results := [.lit (.bool true)], args := ds, vars := [] })
    {W : World} {args : Array Value} {ds gs : List (DataW H)} {before : List MemPlace} {b0 : Nat}
    (hval : ∀ (j : Nat) t v, fn.params[j]? = some t → args[j]? = some v → Value.okWide P W .any b0 t v)
    (hW : DataW.Whole enc P fn.params.toList s.vars apart W args.toList ds gs before)
    (hw : (DataW.weightsEach P (fn.params.toList ++ s.plain.varTypes P) (ds ++ gs)).all (· ≤ reachBytes) = true)
    (hev : ∀ xs, WTs P fn.params.toList xs → szs xs ≤ bulks ds → ∃ call, CallOk P call ∧ call f (mkArgs P fn.params.toList xs) = some ([.pv .bool (.bool true)], [])) (hfn : P.funcs[f]? = some fn) (hbody : fn.body.isSome = true) (hname : fn.name ≠ "runtime.NumGoroutine") (hvr : VarsOk P W gFree) :
    Calls P f args W fun e W' => ∃ v, e = .returned v ∧ s.post enc P fn apart fresh handsOn again W args v W' := by
  have hW' := hW
  obtain ⟨p, q, hA, hV, rfl, hfz, hnd⟩ := hW
  have hV0 : DataW.TrodVars enc P W (fun _ => true) [] gs q := hv ▸ hV
  obtain ⟨rfl, rfl⟩ := trodVars_none hV0
  have hvt : s.plain.varTypes P = [] := by simp [DataSpec.varTypes, ChangeSpec.plain, hv]
  rw [hvt, List.append_nil, List.append_nil] at hw
  have hweights : ∀ n ∈ DataW.weightsEach P fn.params.toList ds, n ≤ reachBytes := fun n hn => by
    have := List.all_eq_true.1 hw n hn
    simpa using this
  obtain ⟨xs, x1, x2, x3, x4⟩ := args_rep (g := gFree) hS (fun _ => rfl) (fun _ _ => rfl) (fun t ht => (hts t ht).1) hA (b0 := b0) (fun j t v h1 h2 => hval j t v (by simpa using h1) (by simpa using h2)) hweights
  obtain ⟨call, hcall, hk⟩ := hev xs x1 x3
  have hc := (hcall.ok f _ _ _ hk args.toList W gFree x2 (fun _ _ => rfl) hvr (fun b s' p' h => by cases h)).enter hfn hbody hname
  refine hc.mono fun e W' h => ?_
  obtain ⟨v, g', rfl, hfr, hres, _, _, _⟩ := h
  have hvv : v = .bool true := by
    obtain ⟨h1, h2⟩ := hres
    rw [h2 (by simp)]
    rw [x4] at h1 ⊢
    obtain ⟨b, e1, e2⟩ := h1.pv_inv.bool_inv
    simp only [PV.bool.injEq] at e1
    rw [e2, ← e1]
  subst hvv
  have hsince : W.Since W.heap.size W' := ⟨hfr.os, hfr.tape, hfr.output, hfr.size, fun b hb => (hfr.free b hb rfl).2⟩
  have hlen : ds.length = fn.params.size := by
    have : ∀ {ts : List TypeId} {vs : List Value} {ds : List (DataW H)} {ps : List MemPlace}, DataW.TrodAll enc P W 0 (fun _ => true) true ts vs ds ps → ds.length = ts.length := by
      intro ts
      induction ts with
      | nil => intro vs ds ps h; cases vs <;> cases ds <;> simp [DataW.TrodAll] at h ⊢
      | cons t ts ih =>
        intro vs ds ps h
        obtain ⟨v, vs, d, ds, p, q, rfl, rfl, rfl, h1, h2⟩ := trodAll_cons h
        simp [ih h2]
    simpa using this hA
  have hsf : s.fn H (ds ++ []) = { results := [.lit (.bool true)], args := ds, vars := [] } := by rw [List.append_nil]; exact hs ds hlen
  have hlt := hW'.lt
  refine ⟨_, rfl, post_kept (pa := p) (pv := []) hW' (fun b sp hd => ?_) (fun sp hsp => ?_) (fun sp _ => ?_) rfl hsince ?_⟩
  · rw [hsf, hr]
    exact trodAll_mk1 (shut_bool htb true)
  · rw [hsf]
    exact trodAll_stays hl (fun t ht => (hts t ht).2) hA (fun x hx => hsince.sameAt (hlt x (by simp [hx]))) (fun x hx => hsp x (by simp [hx]))
  · rw [hsf, hv]
    rfl
  · exact ok_one hr rfl (okWide_bool_mk htb true)

end
end Go.V
