/- What the two At, few, clone and Same compute, by the equations, for any well formed tree. Conditions: those that each theorem names. -/
import Derived.Test.YtcdkljinnmphjaaVE
import Derived.Test.YtcdkljinnmphjaaVR
set_option maxRecDepth 100000
set_option linter.unusedSimpArgs false
set_option linter.unusedVariables false
namespace Go.V
open Go.Proofs

/-- The calls that are told: the two Puts. -/
def baseB (q : CallF) : CallF := fun f az => bif Nat.beq f 9 || Nat.beq f 10 then q f az else none
noncomputable def EG (q : CallF) (k : Nat) : CallF := evG Try.prog H0 (baseB q) k
/-- With enough fuel function f gives r. -/
def Ev (q : CallF) (f : FuncId) (az r : List AO) : Prop := ∃ K, ∀ k, K ≤ k → EG q k f az = some (r, [])

theorem EG_succ (q : CallF) (k : Nat) (f : FuncId) (az : List AO) (h : (Nat.beq f 9 || Nat.beq f 10) = false) : EG q (k + 1) f az = evStep Try.prog H0 (EG q k) k f az := by
  unfold EG
  simp only [evG, baseB, h, cond_false]

theorem Ev.of {q : CallF} {f : FuncId} {az r : List AO} (K : Nat) (hf : (Nat.beq f 9 || Nat.beq f 10) = false) (h : ∀ k, K ≤ k → evStep Try.prog H0 (EG q k) k f az = some (r, [])) : Ev q f az r :=
  ⟨K + 1, fun k hk => by obtain ⟨k, rfl⟩ : ∃ m, k = m + 1 := ⟨k - 1, by omega⟩; rw [EG_succ q k f az hf]; exact h k (by omega)⟩

/-- A loop, with enough fuel. -/
def Lv (F : Nat → Nat → R) (r : List AO) : Prop := ∃ K, ∀ k n, K ≤ k → K ≤ n → F k n = some (r, [])

theorem Lv.of {F : Nat → Nat → R} {r : List AO} (K : Nat) (h : ∀ k n, K ≤ k → K ≤ n → F k (n + 1) = some (r, [])) : Lv F r :=
  ⟨K + 1, fun k n hk hn => by obtain ⟨n, rfl⟩ : ∃ m, n = m + 1 := ⟨n - 1, by omega⟩; exact h k n (by omega) (by omega)⟩

theorem nth_get {α : Type} (d : α) {l : List α} {i : Nat} {x : α} (h : l[i]? = some x) : nth d l i = x := by
  rw [nth_eq, h]; rfl

theorem nth_at {α : Type} (d : α) {l : List α} {i : Nat} (h : i < l.length) : nth d l i = l[i] := nth_get d (List.getElem?_eq_getElem h)

theorem wrap_id {n : Int} (h0 : -9223372036854775808 ≤ n) (h1 : n < 9223372036854775808) : IntKind.i64.wrap n = n := by
  simp [IntKind.wrap, IntKind.signed, IntKind.bits]
  split <;> omega

theorem IsBlk.eta {x : PV} (h : IsBlk x) : PV.agg [x.cell 0, x.cell 1, x.cell 2, x.cell 3, x.cell 4, x.cell 5, x.cell 6, x.cell 7, x.cell 8, x.cell 9, x.cell 10] = x := by cases h; rfl

section
variable (q : CallF) (v0 v1 v2 v3 v4 v5 v6 v7 v8 v9 : PV)

theorem size_loop (kids : List PV) (hl : kids.length * 160 ≤ room) (ih : ∀ y ∈ kids, ∃ z, Ev q 25 [.pv (.st 27) y] [.pv (.int .i64) (.int .i64 z)]) :
    ∀ (m i : Nat) (s : Int), i + m = kids.length → ∃ z, Lv (fun k n => L25_3 gate1 (EG q k) k n v0 v1 v2 v3 v4 v5 v6 v7 v8 v9 (.sl kids) (.int .i64 s) (.int .i64 i)) [.pv (.int .i64) (.int .i64 z)]
  | 0, i, s, hi => ⟨s, Lv.of 0 fun k n _ _ => by
      rw [L25_3_succ]
      simp only [PV.toInt, PV.toList]
      rw [ltI_f (by omega), cond_false, J25_6_eq]⟩
  | m + 1, i, s, hi => by
    have hlt : i < kids.length := by omega
    obtain ⟨z, K1, h1⟩ := ih _ (List.getElem_mem hlt)
    obtain ⟨z', K2, h2⟩ := size_loop kids hl ih m (i + 1) (IntKind.i64.wrap (s + z)) (by omega)
    refine ⟨z', Lv.of (max K1 K2) fun k n hk hn => ?_⟩
    have hb : kids.length < 9223372036854775807 := by unfold room at hl; omega
    rw [L25_3_succ]
    simp only [PV.toInt, PV.toList]
    rw [ltI_t (show (i : Int) < kids.length by omega), cond_true, J25_5_eq]
    simp only [PV.toInt, PV.toList, Int.toNat_natCast, nth_at default hlt, h1 k (by omega), okRes, resPV, Ty.eq, decide_true, cond_true]
    rw [ltI_t (show (i : Int) < kids.length by omega), leI_t (show (0 : Int) ≤ i by omega), wrap_id (n := (i : Int) + 1) (by omega) (by omega)]
    exact h2 k n (by omega) (by omega)
end

variable {q : CallF}

theorem size_ev {x : PV} (h : IsBlk x) : ∃ z, Ev q 25 [.pv (.st 27) x] [.pv (.int .i64) (.int .i64 z)] := by
  induction h with
  | mk op name n m nums fk fa fb fc fd kids hn hk ln lk ih =>
    obtain ⟨z, K, h⟩ := size_loop q (.str op) (.str name) (.int .i64 n) (.int .i64 m) (.sl nums) (.str fk) (.int .i64 fa) (.int .i64 fb) (.str fc) (.str fd) kids lk ih kids.length 0 1 (by omega)
    refine ⟨z, Ev.of K rfl fun k hk => ?_⟩
    rw [R25]
    exact h k k hk hk

theorem len_lt {l : List PV} (h : l.length * 160 ≤ room) : l.length < 9223372036854775807 := by unfold room at h; omega
theorem len_lt' {l : List PV} (h : l.length * 16 ≤ room) : l.length < 9223372036854775807 := by unfold room at h; omega

theorem short_loop (kids : List PV) (hb : ∀ y ∈ kids, IsBlk y) (hl : kids.length * 160 ≤ room) (ih : ∀ y ∈ kids, ∃ z, Ev q 26 [.pv (.st 27) y] [.pv .bool (.bool z)]) :
    ∀ (m i : Nat), i + m = kids.length → ∃ z, Lv (fun k n => L26_4 gate1 (EG q k) k n (.sl kids) (.int .i64 kids.length) (.int .i64 i)) [.pv .bool (.bool z)]
  | 0, i, hi => ⟨true, Lv.of 0 fun k n _ _ => by
      rw [L26_4_succ]
      simp only [PV.toInt, PV.toList]
      rw [ltI_f (by omega), cond_false, J26_9_eq]⟩
  | m + 1, i, hi => by
    have hlt : i < kids.length := by omega
    obtain ⟨z, K1, h1⟩ := ih _ (List.getElem_mem hlt)
    obtain ⟨z', K2, h2⟩ := short_loop kids hb hl ih m (i + 1) (by omega)
    have := len_lt hl
    refine ⟨z && z', Lv.of (max K1 K2) fun k n hk hn => ?_⟩
    rw [L26_4_succ]
    simp only [PV.toInt, PV.toList]
    rw [ltI_t (show (i : Int) < kids.length by omega), cond_true, J26_5_eq]
    simp only [PV.toInt, PV.toList, PV.toBool, Int.toNat_natCast, nth_at default hlt, (hb _ (List.getElem_mem hlt)).eta, h1 k (by omega), okRes, resPV, Ty.eq, decide_true, cond_true]
    rw [ltI_t (show (i : Int) < kids.length by omega), leI_t (show (0 : Int) ≤ i by omega)]
    have := h2 k n (by omega) (by omega)
    cases z with
    | false => rfl
    | true =>
      simp only [Bool.and_self, cond_true, Bool.not_true, cond_false, Bool.true_and]
      rw [J26_8_eq]
      simp only [PV.toInt]
      rw [wrap_id (n := (i : Int) + 1) (by omega) (by omega)]
      exact this

theorem short_ev {x : PV} (h : IsBlk x) : ∃ z, Ev q 26 [.pv (.st 27) x] [.pv .bool (.bool z)] := by
  induction h with
  | mk op name n m nums fk fa fb fc fd kids hn hk ln lk ih =>
    obtain ⟨z, K, h⟩ := short_loop kids hk lk ih kids.length 0 (by omega)
    cases h1 : ltI 100 name.size with
    | true => exact ⟨false, Ev.of 0 rfl fun k _ => by rw [R26]; simp only [PV.cell, PV.cells, List.getD_cons_succ, List.getD_cons_zero, PV.toStr, h1, cond_true, J26_2_eq]⟩
    | false =>
      cases h2 : ltI 100 op.size with
      | true => exact ⟨false, Ev.of 0 rfl fun k _ => by rw [R26]; simp only [PV.cell, PV.cells, List.getD_cons_succ, List.getD_cons_zero, PV.toStr, h1, h2, cond_true, cond_false, J26_2_eq]⟩
      | false =>
        cases h3 : ltI 300 nums.length with
        | true => exact ⟨false, Ev.of 0 rfl fun k _ => by rw [R26]; simp only [PV.cell, PV.cells, List.getD_cons_succ, List.getD_cons_zero, PV.toStr, PV.toList, h1, h2, h3, cond_true, cond_false, J26_2_eq]⟩
        | false =>
          refine ⟨z, Ev.of K rfl fun k hk => ?_⟩
          rw [R26]
          simp only [PV.cell, PV.cells, List.getD_cons_succ, List.getD_cons_zero, PV.toStr, PV.toList, h1, h2, h3, cond_false, J26_3_eq]
          exact h k k hk hk

theorem few_ev {x : PV} (h : IsBlk x) : ∃ z, Ev q 5 [.pv (.st 27) x] [.pv .bool (.bool z)] := by
  obtain ⟨s, K1, h1⟩ := size_ev (q := q) h
  obtain ⟨z, K2, h2⟩ := short_ev (q := q) h
  cases hs : ltI 700 s with
  | true =>
    refine ⟨false, Ev.of K1 rfl fun k hk => ?_⟩
    rw [R5]
    simp only [h.eta, h1 k hk, okRes, resPV, Ty.eq, decide_true, PV.toInt, hs, cond_true]
  | false =>
    refine ⟨z, Ev.of (max K1 K2) rfl fun k hk => ?_⟩
    rw [R5]
    simp only [h.eta, h1 k (by omega), okRes, resPV, Ty.eq, decide_true, PV.toInt, hs, cond_true, cond_false, J5_3_eq, h2 k (by omega)]

section
variable (v0 v1 v2 v3 : PV) (v4 : List PV) (v5 v6 v7 v8 v9 : PV) (v10 : List PV) (v11 v12 v13 v14 : PV) (v15 : List PV) (v16 v17 v18 v19 v20 : PV)

theorem clone_room {kids : List PV} {i m : Nat} (hi : i + (m + 1) = kids.length) (hl : kids.length * 160 ≤ room) : (List.length (List.take i kids) + (0 + 1)) * 160 ≤ room := by
  rw [List.length_take, Nat.min_eq_left (by omega)]
  omega

theorem clone_loop (kids : List PV) (hb : ∀ y ∈ kids, IsBlk y) (hl : kids.length * 160 ≤ room) (ih : ∀ y ∈ kids, Ev q 29 [.pv (.st 27) y] [.pv (.st 27) y]) :
    ∀ (m i : Nat), i + m = kids.length → Lv (fun k n => L29_5 gate1 (EG q k) k n v0 v1 v2 v3 v4 v5 v6 v7 v8 v9 v10 v11 v12 v13 v14 v15 v16 v17 v18 v19 v20 (kids.take i) (.sl kids) (.int .i64 kids.length) (.int .i64 i))
      [.pv (.st 27) (.agg [v11, v12, v13, v14, .sl v15, v16, v17, v18, v19, v20, .sl kids])]
  | 0, i, hi => Lv.of 0 fun k n _ _ => by
      rw [L29_5_succ]
      simp only [PV.toInt, PV.toList]
      rw [ltI_f (by omega), List.take_of_length_le (by omega), cond_false, J29_9_eq]
  | m + 1, i, hi => by
    have hlt : i < kids.length := by omega
    obtain ⟨K1, h1⟩ := ih _ (List.getElem_mem hlt)
    obtain ⟨K2, h2⟩ := clone_loop kids hb hl ih m (i + 1) (by omega)
    have := len_lt hl
    refine Lv.of (max K1 K2) fun k n hk hn => ?_
    rw [L29_5_succ]
    simp only [PV.toInt, PV.toList]
    rw [ltI_t (show (i : Int) < kids.length by omega), cond_true, J29_6_eq]
    simp only [PV.toInt, PV.toList, PV.toBool, Int.toNat_natCast, nth_at default hlt, (hb _ (List.getElem_mem hlt)).eta, h1 k (by omega), okRes, resPV, Ty.eq, decide_true, cond_true, Nat.beq_refl, Bool.true_and, List.reverse_cons, List.reverse_nil, List.nil_append, List.length_cons, List.length_nil]
    rw [ltI_t (show (i : Int) < kids.length by omega), leI_t (show (0 : Int) ≤ i by omega), wrap_id (n := (i : Int) + 1) (by omega) (by omega), leN_t (clone_room hi hl)]
    have := h2 k n (by omega) (by omega)
    rw [List.take_add_one, List.getElem?_eq_getElem hlt] at this
    simpa using this
end

theorem clone_ev {x : PV} (h : IsBlk x) : Ev q 29 [.pv (.st 27) x] [.pv (.st 27) x] := by
  induction h with
  | mk op name n m nums fk fa fb fc fd kids hn hk ln lk ih =>
    obtain ⟨K, h⟩ := clone_loop (q := q) (.str (ByteArray.mk #[])) (.str (ByteArray.mk #[])) (.int .i64 0) (.int .i64 0) [] (.str (ByteArray.mk #[])) (.int .i64 0) (.int .i64 0) (.str (ByteArray.mk #[])) (.str (ByteArray.mk #[])) []
      (.str op) (.str name) (.int .i64 n) (.int .i64 m) nums (.str fk) (.int .i64 fa) (.int .i64 fb) (.str fc) (.str fd) kids hk lk ih kids.length 0 (by omega)
    refine Ev.of K rfl fun k hk => ?_
    rw [R29]
    simp only [PV.cell, PV.cells, List.getD_cons_succ, List.getD_cons_zero, PV.toStr, PV.toList, leN_t ln, cond_true]
    exact h k k hk hk

theorem awake_at (q : CallF) (k : Nat) : EG q (k + 40) 6 [] = some ([.pv .bool (.bool true)], []) := by kernel_rfl
theorem awake_ev : Ev q 6 [] [.pv .bool (.bool true)] := ⟨40, fun k hk => by
  obtain ⟨j, rfl⟩ : ∃ j, k = j + 40 := ⟨k - 40, by omega⟩
  exact awake_at q j⟩
end Go.V

set_option maxRecDepth 100000
set_option linter.unusedSimpArgs false
set_option linter.unusedVariables false
namespace Go.V
open Go.Proofs

/-- A place: a list of ints. -/
def IsPl (l : List PV) : Prop := (∀ p ∈ l, ∃ n, p = .int .i64 n) ∧ l.length * 8 ≤ room

def zeroB : PV := .agg [.str (ByteArray.mk #[]), .str (ByteArray.mk #[]), .int .i64 0, .int .i64 0, .sl [], .str (ByteArray.mk #[]), .int .i64 0, .int .i64 0, .str (ByteArray.mk #[]), .str (ByteArray.mk #[]), .sl []]
theorem isBlk_zero : IsBlk zeroB := .mk _ _ _ _ [] _ _ _ _ _ [] (fun _ h => by cases h) (fun _ h => by cases h) (by decide) (by decide)

def kidsOf (t : PV) : List PV := (t.cell 10).toList
def inK (t p : PV) : Bool := leI 0 p.toInt && ltI p.toInt (Nat.cast (kidsOf t).length : Int)
def atP : List PV → PV → Option PV
  | [], t => some t
  | p :: ps, t => bif inK t p then atP ps (nth default (kidsOf t) p.toInt.toNat) else none
def setK (t : PV) (n : Nat) (y : PV) : PV := .agg [t.cell 0, t.cell 1, t.cell 2, t.cell 3, t.cell 4, t.cell 5, t.cell 6, t.cell 7, t.cell 8, t.cell 9, .sl ((kidsOf t).set n y)]
def putP : List PV → PV → PV → Option PV
  | [], _, x => some x
  | p :: ps, t, x => bif inK t p then (putP ps (nth default (kidsOf t) p.toInt.toNat) x).map (setK t p.toInt.toNat) else none

theorem inK_lt {t p : PV} (h : inK t p = true) : p.toInt.toNat < (kidsOf t).length ∧ p.toInt = (p.toInt.toNat : Int) := by
  simp only [inK, Bool.and_eq_true] at h
  have h1 : (0 : Int) ≤ p.toInt := of_decide_eq_true h.1
  have h2 : p.toInt < ((kidsOf t).length : Int) := of_decide_eq_true h.2
  omega

theorem IsBlk.kid {t : PV} (h : IsBlk t) {i : Nat} (hi : i < (kidsOf t).length) : IsBlk (nth default (kidsOf t) i) := by
  rw [nth_at default hi]
  cases h with
  | mk op name n m nums fk fa fb fc fd kids hn hk ln lk => exact hk _ (List.getElem_mem hi)

theorem atP_blk : ∀ {ps : List PV} {t y : PV}, IsBlk t → atP ps t = some y → IsBlk y
  | [], t, y, h, e => by cases e; exact h
  | p :: ps, t, y, h, e => by
    simp only [atP] at e
    cases hk : inK t p with
    | false => simp [hk] at e
    | true =>
      simp only [hk, cond_true] at e
      exact atP_blk (h.kid (inK_lt hk).1) e

theorem atP_put : ∀ (ps : List PV) (t x : PV), (putP ps t x).isSome = (atP ps t).isSome
  | [], _, _ => rfl
  | p :: ps, t, x => by
    simp only [atP, putP]
    cases inK t p with
    | false => rfl
    | true => simp only [cond_true, Option.isSome_map]; exact atP_put ps _ x

theorem putP_blk : ∀ {ps : List PV} {t x y : PV}, IsBlk t → IsBlk x → putP ps t x = some y → IsBlk y
  | [], t, x, y, h, hx, e => by cases e; exact hx
  | p :: ps, t, x, y, h, hx, e => by
    simp only [putP] at e
    cases hkp : inK t p with
    | false => simp [hkp] at e
    | true =>
      simp only [hkp, cond_true, Option.map_eq_some_iff] at e
      obtain ⟨z, hz, rfl⟩ := e
      have hz' := putP_blk (h.kid (inK_lt hkp).1) hx hz
      cases h with
      | mk op name n m nums fk fa fb fc fd kids hn hk ln lk =>
        refine .mk op name n m nums fk fa fb fc fd _ hn (fun b hb => ?_) ln (by rw [List.length_set]; exact lk)
        rcases List.mem_or_eq_of_mem_set hb with h | h
        · exact hk b h
        · rw [h]; exact hz'

/-- To put back what is there changes nothing. -/
theorem putP_same : ∀ {ps : List PV} {t y : PV}, IsBlk t → atP ps t = some y → putP ps t y = some t
  | [], t, y, h, e => by cases e; rfl
  | p :: ps, t, y, h, e => by
    simp only [atP, putP] at e ⊢
    cases hk : inK t p with
    | false => simp [hk] at e
    | true =>
      simp only [hk, cond_true] at e ⊢
      have hlt := (inK_lt hk).1
      rw [putP_same (h.kid hlt) e, Option.map_some]
      congr 1
      cases h with
      | mk op name n m nums fk fa fb fc fd kids hn hk ln lk =>
        have hlt : p.toInt.toNat < kids.length := hlt
        show PV.agg [_, _, _, _, _, _, _, _, _, _, .sl (kids.set p.toInt.toNat (nth default kids p.toInt.toNat))] = _
        rw [nth_at default hlt, List.set_getElem_self]
        rfl

theorem putP_R : ∀ {ps : List PV} {t x y : PV}, IsBlk t → putP ps t x = some y → PutR t (ps.map fun p => p.toInt.toNat) x y
  | [], t, x, y, h, e => by cases e; exact .nil t x
  | p :: ps, t, x, y, h, e => by
    simp only [putP] at e
    cases hk : inK t p with
    | false => simp [hk] at e
    | true =>
      simp only [hk, cond_true, Option.map_eq_some_iff] at e
      obtain ⟨z, hz, rfl⟩ := e
      have hlt := (inK_lt hk).1
      have hR := putP_R (h.kid hlt) hz
      cases h with
      | mk op name n m nums fk fa fb fc fd kids hn hk ln lk =>
        have hlt : p.toInt.toNat < kids.length := hlt
        refine .cons op name n m nums fk fa fb fc fd kids _ (nth default kids p.toInt.toNat) z _ x (by rw [nth_at default hlt]; exact List.getElem?_eq_getElem hlt) hR

/-- The place in numbers is the place. -/
theorem putP_in : ∀ {ps : List PV} {t x y : PV}, IsBlk t → putP ps t x = some y → ∀ (i : Nat) (p : PV), ps[i]? = some p → p.toInt = (p.toInt.toNat : Int)
  | [], t, x, y, h, e, i, p, hi => by simp at hi
  | p :: ps, t, x, y, h, e, i, u, hi => by
    simp only [putP] at e
    cases hk : inK t p with
    | false => simp [hk] at e
    | true =>
      simp only [hk, cond_true, Option.map_eq_some_iff] at e
      obtain ⟨z, hz, rfl⟩ := e
      cases i with
      | zero => cases hi; exact (inK_lt hk).2
      | succ i => exact putP_in (h.kid (inK_lt hk).1) hz i u (by simpa using hi)

theorem toInt_int (k : IntKind) (n : Int) : (PV.int k n).toInt = n := rfl
theorem toList_sl (l : List PV) : (PV.sl l).toList = l := rfl

def errP (o : Option PV) : PV := .int .i64 (bif o.isSome then 0 else 2)

variable {q : CallF}

section
variable (v11 v12 v13 v14 : PV) (v15 : List PV) (v16 v17 v18 v19 v20 : PV) (v21 : List PV)

theorem at_loop (pl : List PV) (hp : pl.length < 9223372036854775807) : ∀ (m i : Nat) (t : PV), i + m = pl.length → IsBlk t →
    Lv (fun k n => L8_2 gate1 (EG q k) k n (t.cell 0) (t.cell 1) (t.cell 2) (t.cell 3) (t.cell 4) (t.cell 5) (t.cell 6) (t.cell 7) (t.cell 8) (t.cell 9) (t.cell 10) v11 v12 v13 v14 v15 v16 v17 v18 v19 v20 v21 (.sl pl) (.int .i64 pl.length) (.int .i64 i))
      [.pv (.st 27) ((atP (pl.drop i) t).getD zeroB), .pv (.int .i64) (errP (atP (pl.drop i) t))]
  | 0, i, t, hi, ht => by
    obtain ⟨K, hK⟩ := clone_ev (q := q) ht
    refine Lv.of K fun k n hk _ => ?_
    rw [L8_2_succ]
    simp only [toInt_int]
    rw [ltI_f (by omega), cond_false, J8_8_eq]
    simp only [ht.eta, hK k hk, okRes, resPV, Ty.eq, decide_true, cond_true]
    rw [List.drop_eq_nil_of_le (by omega)]
    rfl
  | m + 1, i, t, hi, ht => by
    have hlt : i < pl.length := by omega
    rw [List.drop_eq_getElem_cons hlt]
    simp only [atP]
    have e1 : ∀ (k n : Nat), L8_2 gate1 (EG q k) k (n + 1) (t.cell 0) (t.cell 1) (t.cell 2) (t.cell 3) (t.cell 4) (t.cell 5) (t.cell 6) (t.cell 7) (t.cell 8) (t.cell 9) (t.cell 10) v11 v12 v13 v14 v15 v16 v17 v18 v19 v20 v21 (.sl pl) (.int .i64 pl.length) (.int .i64 i) =
        bif inK t pl[i] then L8_2 gate1 (EG q k) k n ((nth default (kidsOf t) pl[i].toInt.toNat).cell 0) ((nth default (kidsOf t) pl[i].toInt.toNat).cell 1) ((nth default (kidsOf t) pl[i].toInt.toNat).cell 2) ((nth default (kidsOf t) pl[i].toInt.toNat).cell 3) ((nth default (kidsOf t) pl[i].toInt.toNat).cell 4) ((nth default (kidsOf t) pl[i].toInt.toNat).cell 5) ((nth default (kidsOf t) pl[i].toInt.toNat).cell 6) ((nth default (kidsOf t) pl[i].toInt.toNat).cell 7) ((nth default (kidsOf t) pl[i].toInt.toNat).cell 8) ((nth default (kidsOf t) pl[i].toInt.toNat).cell 9) ((nth default (kidsOf t) pl[i].toInt.toNat).cell 10)
            v11 v12 v13 v14 v15 v16 v17 v18 v19 v20 v21 (.sl pl) (.int .i64 pl.length) (.int .i64 ((i + 1 : Nat) : Int))
        else some ([.pv (.st 27) zeroB, .pv (.int .i64) (.int .i64 2)], []) := by
      intro k n
      rw [L8_2_succ]
      simp only [toInt_int]
      rw [ltI_t (show (i : Int) < pl.length by omega), cond_true, J8_3_eq]
      simp only [toInt_int, toList_sl, Int.toNat_natCast, nth_at default hlt]
      rw [ltI_t (show (i : Int) < pl.length by omega), leI_t (show (0 : Int) ≤ i by omega)]
      simp only [Bool.and_self, cond_true]
      cases h1 : ltI pl[i].toInt 0 with
      | true =>
        have h1' : pl[i].toInt < 0 := of_decide_eq_true h1
        have : inK t pl[i] = false := by unfold inK; rw [leI_f (by omega)]; rfl
        rw [this, cond_true, cond_false, J8_5_eq]; rfl
      | false =>
        have h1' : ¬ pl[i].toInt < 0 := of_decide_eq_false h1
        cases h2 : leI (Nat.cast (kidsOf t).length : Int) pl[i].toInt with
        | true =>
          have h2' : ((kidsOf t).length : Int) ≤ pl[i].toInt := of_decide_eq_true h2
          have : inK t pl[i] = false := by unfold inK; rw [ltI_f (by omega), Bool.and_false]
          rw [show leI (Nat.cast (t.cell 10).toList.length : Int) pl[i].toInt = true from h2, this, cond_true, cond_false, cond_false, J8_5_eq]; rfl
        | false =>
          have h2' : ¬ ((kidsOf t).length : Int) ≤ pl[i].toInt := of_decide_eq_false h2
          have hin : inK t pl[i] = true := by unfold inK; rw [ltI_t (by omega), leI_t (by omega)]; rfl
          rw [show leI (Nat.cast (t.cell 10).toList.length : Int) pl[i].toInt = false from h2, hin]
          simp only [cond_true, cond_false]
          rw [J8_6_eq, show (leI 0 pl[i].toInt && ltI pl[i].toInt (Nat.cast (t.cell 10).toList.length : Int)) = true from hin, cond_true, J8_7_eq]
          simp only [toInt_int]
          rw [wrap_id (n := (i : Int) + 1) (by omega) (by omega)]
          rfl
    cases hin : inK t pl[i] with
    | false =>
      refine Lv.of 0 fun k n _ _ => ?_
      rw [e1, hin]; rfl
    | true =>
      obtain ⟨K, hK⟩ := at_loop pl hp m (i + 1) _ (by omega) (ht.kid (inK_lt hin).1)
      refine Lv.of K fun k n hk hn => ?_
      rw [e1, hin]
      simp only [cond_true]
      exact hK k n hk hn
end

theorem at8_ev {t : PV} (ht : IsBlk t) {pl : List PV} (hp : IsPl pl) : Ev q 8 [.pv (.st 27) t, .pv (.sl 3) (.sl pl)] [.pv (.st 27) ((atP pl t).getD zeroB), .pv (.int .i64) (errP (atP pl t))] := by
  have hl : pl.length < 9223372036854775807 := by have := hp.2; unfold room at this; omega
  obtain ⟨K, hK⟩ := at_loop (q := q) (.str (ByteArray.mk #[])) (.str (ByteArray.mk #[])) (.int .i64 0) (.int .i64 0) [] (.str (ByteArray.mk #[])) (.int .i64 0) (.int .i64 0) (.str (ByteArray.mk #[])) (.str (ByteArray.mk #[])) [] pl hl pl.length 0 t (by omega) ht
  refine Ev.of K rfl fun k hk => ?_
  rw [R8]
  exact hK k k hk hk
end Go.V

set_option maxRecDepth 100000
set_option linter.unusedSimpArgs false
set_option linter.unusedVariables false
namespace Go.V
open Go.Proofs
variable {q : CallF}

theorem okM (a b : PV) : (!Nat.beq 2 1 && okMany (List.map (tyOf Try.prog) #[27, 31].toList) (some ([AO.pv (.st 27) a, AO.pv (.int .i64) b], []))) = true := by kernel_rfl
theorem okM' (a b : PV) : (!Nat.beq 2 1 && okMany (List.map (tyOf Try.prog) [27, 31]) (some ([AO.pv (.st 27) a, AO.pv (.int .i64) b], []))) = true := by kernel_rfl
theorem res0 (a b : PV) : resAt 0 (some ([AO.pv (.st 27) a, AO.pv (.int .i64) b], [])) = a := rfl
theorem res1 (a b : PV) : resAt 1 (some ([AO.pv (.st 27) a, AO.pv (.int .i64) b], [])) = b := rfl
theorem info3 : (Try.prog.info? 3).isSome = true := by kernel_rfl

theorem at_blk {t : PV} (ht : IsBlk t) (pl : List PV) : IsBlk ((atP pl t).getD zeroB) := by
  cases h : atP pl t with
  | none => exact isBlk_zero
  | some y => exact atP_blk ht h
theorem put_blk {t x : PV} (ht : IsBlk t) (hx : IsBlk x) (pl : List PV) : IsBlk ((putP pl t x).getD zeroB) := by
  cases h : putP pl t x with
  | none => exact isBlk_zero
  | some y => exact putP_blk ht hx h

theorem at7_ev : ∀ {pl : List PV} {t : PV}, IsBlk t → pl.length < 9223372036854775807 → Ev q 7 [.pv (.st 27) t, .pv (.sl 3) (.sl pl)] [.pv (.st 27) ((atP pl t).getD zeroB), .pv (.int .i64) (errP (atP pl t))]
  | [], t, ht, _ => Ev.of 0 rfl fun k _ => by
    rw [R7]
    simp only [toList_sl, List.length_nil]
    rw [eqI_t (by simp), cond_true, ht.eta]; rfl
  | p :: ps, t, ht, hl => by
    have hl' : (p :: ps).length = ps.length + 1 := rfl
    cases hin : inK t p with
    | false =>
      refine Ev.of 0 rfl fun k _ => ?_
      rw [R7]
      simp only [toList_sl]
      rw [eqI_f (by omega), cond_false, J7_3_eq]
      simp only [toList_sl]
      rw [leI_t (by omega), ltI_t (by omega)]
      simp only [Bool.and_self, cond_true]
      rw [show nth default (p :: ps) 0 = p from rfl]
      have hin2 : (leI 0 p.toInt && ltI p.toInt (Nat.cast (t.cell 10).toList.length : Int)) = false := hin
      simp only [atP, hin, cond_false]
      cases h1 : leI 0 p.toInt with
      | false => rw [cond_false, J7_6_eq]; rfl
      | true =>
        rw [h1, Bool.true_and] at hin2
        rw [cond_true, hin2, cond_false, J7_6_eq]; rfl
    | true =>
      obtain ⟨K, hK⟩ := at7_ev (pl := ps) (ht.kid (inK_lt hin).1) (by omega)
      refine Ev.of K rfl fun k hk => ?_
      rw [R7]
      simp only [toList_sl]
      rw [eqI_f (by omega), cond_false, J7_3_eq]
      simp only [toList_sl]
      rw [leI_t (by omega), ltI_t (by omega)]
      simp only [Bool.and_self, cond_true]
      rw [show nth default (p :: ps) 0 = p from rfl]
      have hin2 : (leI 0 p.toInt && ltI p.toInt (Nat.cast (t.cell 10).toList.length : Int)) = true := hin
      have h12 := hin2
      simp only [Bool.and_eq_true] at h12
      rw [h12.1, h12.2, cond_true, cond_true, J7_5_eq, hin2, cond_true, info3]
      simp only [toList_sl]
      rw [leI_t (by omega), leI_t (show (1 : Int) ≤ ((p :: ps).length : Nat) by omega), leI_t (Int.le_refl _)]
      simp only [Bool.and_self, cond_true, Int.toNat_natCast]
      rw [List.take_length, show List.drop 1 (p :: ps) = ps from rfl]
      simp only [show nth default (t.cell 10).toList p.toInt.toNat = nth default (kidsOf t) p.toInt.toNat from rfl, hK k hk, okM, okM', res0, res1, cond_true, (at_blk (ht.kid (inK_lt hin).1) ps).eta]
      simp only [atP, hin, cond_true]

theorem alike_loop (l : List PV) (hl : l.length * 16 ≤ room) : ∀ (m i : Nat), i + m = l.length → Lv (fun k n => L31_4 gate1 (EG q k) k n (.sl l) (.sl l) (.int .i64 i)) [.pv .bool (.bool true)]
  | 0, i, hi => Lv.of 0 fun k n _ _ => by
    rw [L31_4_succ]
    simp only [toInt_int, toList_sl]
    rw [ltI_f (by omega), cond_false, J31_8_eq]
  | m + 1, i, hi => by
    obtain ⟨K, hK⟩ := alike_loop l hl m (i + 1) (by omega)
    have := len_lt' hl
    refine Lv.of K fun k n hk hn => ?_
    rw [L31_4_succ]
    simp only [toInt_int, toList_sl]
    rw [ltI_t (by omega), cond_true, J31_6_eq]
    simp only [toInt_int, toList_sl]
    rw [ltI_t (by omega), leI_t (by omega), eqI_t rfl, eqI_t rfl]
    simp only [Bool.and_self, Bool.not_true, cond_true, cond_false]
    rw [J31_5_eq]
    simp only [toInt_int]
    rw [wrap_id (n := (i : Int) + 1) (by omega) (by omega)]
    exact hK k n hk hn

theorem alike_self {l : List PV} (hl : l.length * 16 ≤ room) : Ev q 31 [.pv (.sl 38) (.sl l), .pv (.sl 38) (.sl l)] [.pv .bool (.bool true)] := by
  obtain ⟨K, hK⟩ := alike_loop (q := q) l hl l.length 0 (by omega)
  refine Ev.of K rfl fun k hk => ?_
  rw [R31]
  simp only [toList_sl]
  rw [eqI_t rfl, Bool.not_true, cond_false, J31_3_eq]
  exact hK k k hk hk

theorem same_loop (v0 v1 v2 v3 v4 v5 v6 v7 v8 v9 w0 w1 w2 w3 w4 w5 w6 w7 w8 w9 : PV) (kids : List PV) (hl : kids.length * 160 ≤ room) (ih : ∀ y ∈ kids, Ev q 11 [.pv (.st 27) y, .pv (.st 27) y] [.pv .bool (.bool true)]) :
    ∀ (m i : Nat), i + m = kids.length → Lv (fun k n => L11_4 gate1 (EG q k) k n v0 v1 v2 v3 v4 v5 v6 v7 v8 v9 (.sl kids) w0 w1 w2 w3 w4 w5 w6 w7 w8 w9 (.sl kids) (.int .i64 i)) [.pv .bool (.bool true)]
  | 0, i, hi => Lv.of 0 fun k n _ _ => by
    rw [L11_4_succ]
    simp only [toInt_int, toList_sl]
    rw [ltI_f (by omega), cond_false, J11_8_eq]
  | m + 1, i, hi => by
    have hlt : i < kids.length := by omega
    obtain ⟨K1, h1⟩ := ih _ (List.getElem_mem hlt)
    obtain ⟨K, hK⟩ := same_loop v0 v1 v2 v3 v4 v5 v6 v7 v8 v9 w0 w1 w2 w3 w4 w5 w6 w7 w8 w9 kids hl ih m (i + 1) (by omega)
    have := len_lt hl
    refine Lv.of (max K K1) fun k n hk hn => ?_
    rw [L11_4_succ]
    simp only [toInt_int, toList_sl]
    rw [ltI_t (by omega), cond_true, J11_6_eq]
    simp only [toInt_int, toList_sl, Int.toNat_natCast, nth_at default hlt, h1 k (by omega), okRes, resPV, Ty.eq, decide_true, cond_true, PV.toBool]
    rw [ltI_t (by omega), leI_t (by omega)]
    simp only [Bool.and_self, Bool.not_true, cond_true, cond_false]
    rw [J11_5_eq]
    simp only [toInt_int]
    rw [wrap_id (n := (i : Int) + 1) (by omega) (by omega)]
    exact hK k n (by omega) (by omega)

theorem same_self {x : PV} (h : IsBlk x) : Ev q 11 [.pv (.st 27) x, .pv (.st 27) x] [.pv .bool (.bool true)] := by
  induction h with
  | mk op name n m nums fk fa fb fc fd kids hn hk ln lk ih =>
    obtain ⟨K1, h1⟩ := alike_self (q := q) ln
    obtain ⟨K, hK⟩ := same_loop (q := q) (.str op) (.str name) (.int .i64 n) (.int .i64 m) (.sl nums) (.str fk) (.int .i64 fa) (.int .i64 fb) (.str fc) (.str fd) (.str op) (.str name) (.int .i64 n) (.int .i64 m) (.sl nums) (.str fk) (.int .i64 fa) (.int .i64 fb) (.str fc) (.str fd) kids lk ih kids.length 0 (by omega)
    refine Ev.of (max K K1) rfl fun k hk => ?_
    rw [R11]
    simp only [PV.cell, PV.cells, List.getD_cons_succ, List.getD_cons_zero, PV.toStr, toInt_int, toList_sl]
    simp only [eqI_t rfl, beq_self_eq_true, Bool.and_self, Bool.not_true, cond_false, h1 k (by omega), okRes, resPV, Ty.eq, decide_true, cond_true, PV.toBool, J11_3_eq]
    exact hK k k (by omega) (by omega)
end Go.V
