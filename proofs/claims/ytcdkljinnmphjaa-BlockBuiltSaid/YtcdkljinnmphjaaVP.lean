/- What the functions of blocks compute, by the equations: few, clone, Same, fold, Row, Chain, Wires, Join, and the law BlockBuilt itself. Conditions: well formed blocks. -/
import Derived.Test.YtcdkljinnmphjaaVE
import Derived.Test.YtcdkljinnmphjaaVG
import Derived.Test.YtcdkljinnmphjaaRows
import Derived.ProofKit
set_option linter.unusedSimpArgs false
set_option linter.unusedVariables false
namespace Go.V
open Go.Proofs

/-- With enough fuel function f gives r. -/
def Ev (f : FuncId) (az r : List AO) : Prop := ∃ K, ∀ k, K ≤ k → evF Try.prog H0 k f az = some (r, [])

theorem Ev.of {f : FuncId} {az r : List AO} (K : Nat) (h : ∀ k, K ≤ k → evStep Try.prog H0 (evF Try.prog H0 k) k f az = some (r, [])) : Ev f az r :=
  ⟨K + 1, fun k hk => by obtain ⟨k, rfl⟩ : ∃ m, k = m + 1 := ⟨k - 1, by omega⟩; exact h k (by omega)⟩

/-- A loop, with enough fuel. -/
def Lv (F : Nat → Nat → R) (r : List AO) : Prop := ∃ K, ∀ k n, K ≤ k → K ≤ n → F k n = some (r, [])

theorem Lv.of {F : Nat → Nat → R} {r : List AO} (K : Nat) (h : ∀ k n, K ≤ k → K ≤ n → F k (n + 1) = some (r, [])) : Lv F r :=
  ⟨K + 1, fun k n hk hn => by obtain ⟨n, rfl⟩ : ∃ m, n = m + 1 := ⟨n - 1, by omega⟩; exact h k n (by omega) (by omega)⟩

inductive IsQ : PV → Prop
  | mk (n d : Int) (hn : (Lit.int .i64 n).wf = true) (hd : (Lit.int .i64 d).wf = true) : IsQ (.agg [.int .i64 n, .int .i64 d])

inductive IsBlk : PV → Prop
  | mk (op name : ByteArray) (n m : Int) (nums : List PV) (fk : ByteArray) (fa fb : Int) (fc fd : ByteArray) (kids : List PV)
    (hn : ∀ q ∈ nums, IsQ q) (hk : ∀ b ∈ kids, IsBlk b) (ln : nums.length * 16 ≤ room) (lk : kids.length * 160 ≤ room) :
    IsBlk (.agg [.str op, .str name, .int .i64 n, .int .i64 m, .sl nums, .str fk, .int .i64 fa, .int .i64 fb, .str fc, .str fd, .sl kids])

theorem nth_get {α : Type} (d : α) {l : List α} {i : Nat} {x : α} (h : l[i]? = some x) : nth d l i = x := by
  rw [nth_eq, h]; rfl

theorem nth_at {α : Type} (d : α) {l : List α} {i : Nat} (h : i < l.length) : nth d l i = l[i] := nth_get d (List.getElem?_eq_getElem h)

theorem wrap_id {n : Int} (h0 : -9223372036854775808 ≤ n) (h1 : n < 9223372036854775808) : IntKind.i64.wrap n = n := by
  simp [IntKind.wrap, IntKind.signed, IntKind.bits]
  split <;> omega

theorem IsBlk.eta {x : PV} (h : IsBlk x) : PV.agg [x.cell 0, x.cell 1, x.cell 2, x.cell 3, x.cell 4, x.cell 5, x.cell 6, x.cell 7, x.cell 8, x.cell 9, x.cell 10] = x := by cases h; rfl
theorem IsQ.eta {x : PV} (h : IsQ x) : PV.agg [x.cell 0, x.cell 1] = x := by cases h; rfl

section
variable (v0 v1 v2 v3 v4 v5 v6 v7 v8 v9 : PV)

theorem size_loop (kids : List PV) (hl : kids.length * 160 ≤ room) (ih : ∀ y ∈ kids, ∃ z, Ev 25 [.pv (.st 27) y] [.pv (.int .i64) (.int .i64 z)]) :
    ∀ (m i : Nat) (s : Int), i + m = kids.length → ∃ z, Lv (fun k n => L25_3 (evF Try.prog H0 k) k n v0 v1 v2 v3 v4 v5 v6 v7 v8 v9 (.sl kids) (.int .i64 s) (.int .i64 i)) [.pv (.int .i64) (.int .i64 z)]
  | 0, i, s, hi => ⟨s, Lv.of 0 fun k n _ _ => by
      rw [L25_3_succ]
      simp only [PV.toInt, PV.toList]
      rw [ltI_f (by omega)]; rfl⟩
  | m + 1, i, s, hi => by
    have hlt : i < kids.length := by omega
    obtain ⟨z, K1, h1⟩ := ih _ (List.getElem_mem hlt)
    obtain ⟨z', K2, h2⟩ := size_loop kids hl ih m (i + 1) (IntKind.i64.wrap (s + z)) (by omega)
    refine ⟨z', Lv.of (max K1 K2) fun k n hk hn => ?_⟩
    have hb : kids.length < 9223372036854775807 := by unfold room at hl; omega
    rw [L25_3_succ]
    simp only [PV.toInt, PV.toList, Int.toNat_natCast, nth_at default hlt, h1 k (by omega), okRes, resPV, Ty.eq, decide_true, cond_true]
    rw [ltI_t (show (i : Int) < kids.length by omega), leI_t (show (0 : Int) ≤ i by omega), wrap_id (n := (i : Int) + 1) (by omega) (by omega)]
    exact h2 k n (by omega) (by omega)
end

theorem size_ev {x : PV} (h : IsBlk x) : ∃ z, Ev 25 [.pv (.st 27) x] [.pv (.int .i64) (.int .i64 z)] := by
  induction h with
  | mk op name n m nums fk fa fb fc fd kids hn hk ln lk ih =>
    obtain ⟨z, K, h⟩ := size_loop (.str op) (.str name) (.int .i64 n) (.int .i64 m) (.sl nums) (.str fk) (.int .i64 fa) (.int .i64 fb) (.str fc) (.str fd) kids lk ih kids.length 0 1 (by omega)
    refine ⟨z, Ev.of K fun k hk => ?_⟩
    rw [R25]
    exact h k k hk hk

end Go.V

set_option linter.unusedSimpArgs false
set_option linter.unusedVariables false
namespace Go.V
open Go.Proofs

theorem len_lt {l : List PV} (h : l.length * 160 ≤ room) : l.length < 9223372036854775807 := by unfold room at h; omega
theorem len_lt' {l : List PV} (h : l.length * 16 ≤ room) : l.length < 9223372036854775807 := by unfold room at h; omega

theorem short_loop (kids : List PV) (hb : ∀ y ∈ kids, IsBlk y) (hl : kids.length * 160 ≤ room) (ih : ∀ y ∈ kids, ∃ z, Ev 26 [.pv (.st 27) y] [.pv .bool (.bool z)]) :
    ∀ (m i : Nat), i + m = kids.length → ∃ z, Lv (fun k n => L26_4 (evF Try.prog H0 k) k n (.sl kids) (.int .i64 kids.length) (.int .i64 i)) [.pv .bool (.bool z)]
  | 0, i, hi => ⟨true, Lv.of 0 fun k n _ _ => by
      rw [L26_4_succ]
      simp only [PV.toInt, PV.toList]
      rw [ltI_f (by omega)]; rfl⟩
  | m + 1, i, hi => by
    have hlt : i < kids.length := by omega
    obtain ⟨z, K1, h1⟩ := ih _ (List.getElem_mem hlt)
    obtain ⟨z', K2, h2⟩ := short_loop kids hb hl ih m (i + 1) (by omega)
    have := len_lt hl
    refine ⟨z && z', Lv.of (max K1 K2) fun k n hk hn => ?_⟩
    rw [L26_4_succ]
    simp only [PV.toInt, PV.toList, PV.toBool, Int.toNat_natCast, nth_at default hlt, (hb _ (List.getElem_mem hlt)).eta, h1 k (by omega), okRes, resPV, Ty.eq, decide_true, cond_true]
    rw [ltI_t (show (i : Int) < kids.length by omega), leI_t (show (0 : Int) ≤ i by omega), wrap_id (n := (i : Int) + 1) (by omega) (by omega)]
    have := h2 k n (by omega) (by omega)
    cases z with
    | false => rfl
    | true => simpa using this

theorem short_ev {x : PV} (h : IsBlk x) : ∃ z, Ev 26 [.pv (.st 27) x] [.pv .bool (.bool z)] := by
  induction h with
  | mk op name n m nums fk fa fb fc fd kids hn hk ln lk ih =>
    obtain ⟨z, K, h⟩ := short_loop kids hk lk ih kids.length 0 (by omega)
    cases h1 : ltI 100 name.size with
    | true => exact ⟨false, Ev.of 0 fun k _ => by rw [R26]; simp only [PV.cell, PV.cells, List.getD_cons_succ, List.getD_cons_zero, PV.toStr, h1, cond_true]⟩
    | false =>
      cases h2 : ltI 100 op.size with
      | true => exact ⟨false, Ev.of 0 fun k _ => by rw [R26]; simp only [PV.cell, PV.cells, List.getD_cons_succ, List.getD_cons_zero, PV.toStr, h1, h2, cond_true, cond_false]⟩
      | false =>
        cases h3 : ltI 300 nums.length with
        | true => exact ⟨false, Ev.of 0 fun k _ => by rw [R26]; simp only [PV.cell, PV.cells, List.getD_cons_succ, List.getD_cons_zero, PV.toStr, PV.toList, h1, h2, h3, cond_true, cond_false]⟩
        | false =>
          refine ⟨z, Ev.of K fun k hk => ?_⟩
          rw [R26]
          simp only [PV.cell, PV.cells, List.getD_cons_succ, List.getD_cons_zero, PV.toStr, PV.toList, h1, h2, h3, cond_false]
          exact h k k hk hk

theorem few_ev {x : PV} (h : IsBlk x) : ∃ z, Ev 5 [.pv (.st 27) x] [.pv .bool (.bool z)] := by
  obtain ⟨s, K1, h1⟩ := size_ev h
  obtain ⟨z, K2, h2⟩ := short_ev h
  cases hs : ltI 700 s with
  | true =>
    refine ⟨false, Ev.of K1 fun k hk => ?_⟩
    rw [R5]
    simp only [h.eta, h1 k hk, okRes, resPV, Ty.eq, decide_true, PV.toInt, hs, cond_true]
  | false =>
    refine ⟨z, Ev.of (max K1 K2) fun k hk => ?_⟩
    rw [R5]
    simp only [h.eta, h1 k (by omega), h2 k (by omega), okRes, resPV, Ty.eq, decide_true, PV.toInt, hs, cond_true, cond_false]

section
variable (v0 v1 v2 v3 : PV) (v4 : List PV) (v5 v6 v7 v8 v9 : PV) (v10 : List PV) (v11 v12 v13 v14 : PV) (v15 : List PV) (v16 v17 v18 v19 v20 : PV)

theorem clone_loop (kids : List PV) (hb : ∀ y ∈ kids, IsBlk y) (hl : kids.length * 160 ≤ room) (ih : ∀ y ∈ kids, Ev 29 [.pv (.st 27) y] [.pv (.st 27) y]) :
    ∀ (m i : Nat), i + m = kids.length → Lv (fun k n => L29_5 (evF Try.prog H0 k) k n v0 v1 v2 v3 v4 v5 v6 v7 v8 v9 v10 v11 v12 v13 v14 v15 v16 v17 v18 v19 v20 (kids.take i) (.sl kids) (.int .i64 kids.length) (.int .i64 i))
      [.pv (.st 27) (.agg [v11, v12, v13, v14, .sl v15, v16, v17, v18, v19, v20, .sl kids])]
  | 0, i, hi => Lv.of 0 fun k n _ _ => by
      rw [L29_5_succ]
      simp only [PV.toInt, PV.toList]
      rw [ltI_f (by omega), List.take_of_length_le (by omega)]; rfl
  | m + 1, i, hi => by
    have hlt : i < kids.length := by omega
    obtain ⟨K1, h1⟩ := ih _ (List.getElem_mem hlt)
    obtain ⟨K2, h2⟩ := clone_loop kids hb hl ih m (i + 1) (by omega)
    have := len_lt hl
    refine Lv.of (max K1 K2) fun k n hk hn => ?_
    rw [L29_5_succ]
    simp only [PV.toInt, PV.toList, PV.toBool, Int.toNat_natCast, nth_at default hlt, (hb _ (List.getElem_mem hlt)).eta, h1 k (by omega), okRes, resPV, Ty.eq, decide_true, cond_true, Nat.beq_refl, Bool.true_and, List.reverse_cons, List.reverse_nil, List.nil_append, List.length_cons, List.length_nil]
    rw [ltI_t (show (i : Int) < kids.length by omega), leI_t (show (0 : Int) ≤ i by omega), wrap_id (n := (i : Int) + 1) (by omega) (by omega), leN_t (show (List.length (List.take i kids) + (0 + 1)) * 160 ≤ room by rw [List.length_take, Nat.min_eq_left (by omega)]; omega)]
    have := h2 k n (by omega) (by omega)
    rw [List.take_add_one, List.getElem?_eq_getElem hlt] at this
    simpa using this
end

theorem clone_ev {x : PV} (h : IsBlk x) : Ev 29 [.pv (.st 27) x] [.pv (.st 27) x] := by
  induction h with
  | mk op name n m nums fk fa fb fc fd kids hn hk ln lk ih =>
    obtain ⟨K, h⟩ := clone_loop (.str { data := #[] }) (.str { data := #[] }) (.int .i64 0) (.int .i64 0) [] (.str { data := #[] }) (.int .i64 0) (.int .i64 0) (.str { data := #[] }) (.str { data := #[] }) []
      (.str op) (.str name) (.int .i64 n) (.int .i64 m) nums (.str fk) (.int .i64 fa) (.int .i64 fb) (.str fc) (.str fd) kids hk lk ih kids.length 0 (by omega)
    refine Ev.of K fun k hk => ?_
    rw [R29]
    simp only [PV.cell, PV.cells, List.getD_cons_succ, List.getD_cons_zero, PV.toStr, PV.toList, leN_t ln, cond_true]
    exact h k k hk hk

end Go.V

set_option linter.unusedSimpArgs false
set_option linter.unusedVariables false
namespace Go.V
open Go.Proofs

theorem gcd47 : ∀ (b a : Nat), Lv (fun k n => L47_5 (evF Try.prog H0 k) k n (.int .i64 a) (.int .i64 b)) [.pv (.int .i64) (.int .i64 (Nat.gcd b a : Nat))] := by
  intro b
  induction b using Nat.strongRecOn with
  | _ b ih =>
    intro a
    cases b with
    | zero =>
      refine Lv.of 0 fun k n _ _ => ?_
      rw [L47_5_succ]
      simp only [PV.toInt]
      rw [eqI_t (by simp)]
      simp
    | succ b =>
      obtain ⟨K, h⟩ := ih (a % (b + 1)) (Nat.mod_lt _ (by omega)) (b + 1)
      refine Lv.of K fun k n hk hn => ?_
      rw [L47_5_succ]
      simp only [PV.toInt]
      rw [eqI_f (show ((b + 1 : Nat) : Int) ≠ 0 by omega)]
      have := h k n hk hn
      rw [Nat.gcd_rec]
      simpa [Int.tmod_eq_emod_of_nonneg (Int.natCast_nonneg a)] using this

theorem gcd48 : ∀ (b a : Nat), Lv (fun k n => L48_1 (evF Try.prog H0 k) k n (.int .u64 a) (.int .u64 b)) [.pv (.int .u64) (.int .u64 (Nat.gcd b a : Nat))] := by
  intro b
  induction b using Nat.strongRecOn with
  | _ b ih =>
    intro a
    cases b with
    | zero =>
      refine Lv.of 0 fun k n _ _ => ?_
      rw [L48_1_succ]
      simp only [PV.toInt]
      rw [eqI_t (by simp)]
      simp
    | succ b =>
      obtain ⟨K, h⟩ := ih (a % (b + 1)) (Nat.mod_lt _ (by omega)) (b + 1)
      refine Lv.of K fun k n hk hn => ?_
      rw [L48_1_succ]
      simp only [PV.toInt]
      rw [eqI_f (show ((b + 1 : Nat) : Int) ≠ 0 by omega)]
      have := h k n hk hn
      rw [Nat.gcd_rec]
      simpa [Int.tmod_eq_emod_of_nonneg (Int.natCast_nonneg a)] using this

/-- A fraction in its lowest terms, of small parts. -/
def isq (n d : Int) : Bool := leI 1 d && (leI d 1073741824 && (leI (-1073741824) n && (leI n 1073741824 && eqI (Nat.gcd d.natAbs n.natAbs : Nat) 1)))

theorem is40 {n d : Int} : Ev 40 [.pv (.st 38) (.agg [.int .i64 n, .int .i64 d])] [.pv .bool (.bool (isq n d))] := by
  cases h1 : leI 1 d with
  | false => exact Ev.of 0 fun k _ => by rw [R40]; simp only [PV.cell, PV.cells, List.getD_cons_succ, List.getD_cons_zero, PV.toInt, isq, h1, cond_false, Bool.false_and]
  | true =>
    cases h2 : leI d 1073741824 with
    | false => exact Ev.of 0 fun k _ => by rw [R40]; simp only [PV.cell, PV.cells, List.getD_cons_succ, List.getD_cons_zero, PV.toInt, isq, h1, h2, cond_true, cond_false, Bool.false_and, Bool.true_and]
    | true =>
      cases h3 : leI (-1073741824) n with
      | false => exact Ev.of 0 fun k _ => by rw [R40]; simp only [PV.cell, PV.cells, List.getD_cons_succ, List.getD_cons_zero, PV.toInt, isq, h1, h2, h3, cond_true, cond_false, Bool.false_and, Bool.true_and]
      | true =>
        cases h4 : leI n 1073741824 with
        | false => exact Ev.of 0 fun k _ => by rw [R40]; simp only [PV.cell, PV.cells, List.getD_cons_succ, List.getD_cons_zero, PV.toInt, isq, h1, h2, h3, h4, cond_true, cond_false, Bool.false_and, Bool.true_and]
        | true =>
          have d1 : 1 ≤ d := of_decide_eq_true h1
          have d2 : d ≤ 1073741824 := of_decide_eq_true h2
          have n1 : -1073741824 ≤ n := of_decide_eq_true h3
          have n2 : n ≤ 1073741824 := of_decide_eq_true h4
          obtain ⟨K, hg⟩ := gcd47 d.natAbs n.natAbs
          have e47 : Ev 47 [.pv (.int .i64) (.int .i64 n), .pv (.int .i64) (.int .i64 d)] [.pv (.int .i64) (.int .i64 (Nat.gcd d.natAbs n.natAbs : Nat))] := by
            refine Ev.of K fun k hk => ?_
            have := hg k k hk hk
            rw [R47]
            simp only [PV.toInt]
            rw [ltI_f (show (0 : Int) ≤ d by omega)]
            rw [show ((d.natAbs : Nat) : Int) = d by omega] at this
            by_cases hn : n < 0
            · rw [ltI_t hn, wrap_id (by omega) (by omega), show (0 : Int) - n = (n.natAbs : Nat) by omega]
              exact this
            · rw [ltI_f (by omega)]
              rw [show ((n.natAbs : Nat) : Int) = n by omega] at this
              exact this
          obtain ⟨K2, h47⟩ := e47
          refine Ev.of K2 fun k hk => ?_
          rw [R40]
          simp only [PV.cell, PV.cells, List.getD_cons_succ, List.getD_cons_zero, PV.toInt, isq, h1, h2, h3, h4, cond_true, cond_false, Bool.false_and, Bool.true_and, h47 k hk, okRes, resPV, Ty.eq, decide_true]

theorem uwrap_id {n : Int} (h0 : 0 ≤ n) (h1 : n < 18446744073709551616) : IntKind.u64.wrap n = n := by
  simp [IntKind.wrap, IntKind.signed, IntKind.bits]
  omega

theorem size49 {n : Int} (h0 : -1073741824 ≤ n) (h1 : n ≤ 1073741824) : Ev 49 [.pv (.int .i64) (.int .i64 n)] [.pv (.int .u64) (.int .u64 (n.natAbs : Nat))] := by
  refine Ev.of 0 fun k _ => ?_
  rw [R49]
  simp only [PV.toInt]
  by_cases hn : n < 0
  · rw [ltI_t hn]
    have : IntKind.u64.wrap (0 - IntKind.u64.wrap n) = (n.natAbs : Nat) := by
      simp [IntKind.wrap, IntKind.signed, IntKind.bits]
      omega
    rw [this]; rfl
  · rw [ltI_f (by omega), uwrap_id (n := n) (by omega) (by omega), show ((n.natAbs : Nat) : Int) = n by omega]; rfl

theorem is41 {n d : Int} : Ev 41 [.pv (.st 38) (.agg [.int .i64 n, .int .i64 d])] [.pv .bool (.bool (isq n d))] := by
  cases h1 : leI 1 d with
  | false => exact Ev.of 0 fun k _ => by rw [R41]; simp only [PV.cell, PV.cells, List.getD_cons_succ, List.getD_cons_zero, PV.toInt, isq, h1, cond_false, Bool.false_and]
  | true =>
    cases h2 : leI d 1073741824 with
    | false => exact Ev.of 0 fun k _ => by rw [R41]; simp only [PV.cell, PV.cells, List.getD_cons_succ, List.getD_cons_zero, PV.toInt, isq, h1, h2, cond_true, cond_false, Bool.false_and, Bool.true_and]
    | true =>
      cases h3 : leI (-1073741824) n with
      | false => exact Ev.of 0 fun k _ => by rw [R41]; simp only [PV.cell, PV.cells, List.getD_cons_succ, List.getD_cons_zero, PV.toInt, isq, h1, h2, h3, cond_true, cond_false, Bool.false_and, Bool.true_and]
      | true =>
        cases h4 : leI n 1073741824 with
        | false => exact Ev.of 0 fun k _ => by rw [R41]; simp only [PV.cell, PV.cells, List.getD_cons_succ, List.getD_cons_zero, PV.toInt, isq, h1, h2, h3, h4, cond_true, cond_false, Bool.false_and, Bool.true_and]
        | true =>
          have d1 : 1 ≤ d := of_decide_eq_true h1
          have d2 : d ≤ 1073741824 := of_decide_eq_true h2
          have n1 : -1073741824 ≤ n := of_decide_eq_true h3
          have n2 : n ≤ 1073741824 := of_decide_eq_true h4
          obtain ⟨K, hg⟩ := gcd48 d.natAbs n.natAbs
          have e48 : Ev 48 [.pv (.int .u64) (.int .u64 (n.natAbs : Nat)), .pv (.int .u64) (.int .u64 (d.natAbs : Nat))] [.pv (.int .u64) (.int .u64 (Nat.gcd d.natAbs n.natAbs : Nat))] := by
            refine Ev.of K fun k hk => ?_
            rw [R48]
            exact hg k k hk hk
          obtain ⟨K1, h48⟩ := e48
          obtain ⟨K2, ha⟩ := size49 n1 n2
          obtain ⟨K3, hb⟩ := size49 (n := d) (by omega) d2
          refine Ev.of (max K1 (max K2 K3)) fun k hk => ?_
          rw [R41]
          simp only [PV.cell, PV.cells, List.getD_cons_succ, List.getD_cons_zero, PV.toInt, isq, h1, h2, h3, h4, cond_true, cond_false, Bool.false_and, Bool.true_and, h48 k (by omega), ha k (by omega), hb k (by omega), okRes, resPV, Ty.eq, decide_true]

def zq : PV := .agg [.int .i64 0, .int .i64 0]

theorem plain_ev {n d : Int} : Ev 34 [.pv (.st 38) (.agg [.int .i64 n, .int .i64 d])] [.pv (.st 38) (bif isq n d then .agg [.int .i64 n, .int .i64 d] else zq)] := by
  obtain ⟨K, h⟩ := is41 (n := n) (d := d)
  refine Ev.of K fun k hk => ?_
  rw [R34]
  simp only [PV.cell, PV.cells, List.getD_cons_succ, List.getD_cons_zero, h k hk, okRes, resPV, Ty.eq, PV.toBool, cond_true]
  cases isq n d <;> rfl

/-- Two fractions tell the two apart. -/
def badq (a b : PV) : Bool :=
  !(eqI (a.cell 0).toInt (b.cell 0).toInt && eqI (a.cell 1).toInt (b.cell 1).toInt) && (isq (a.cell 0).toInt (a.cell 1).toInt || isq (b.cell 0).toInt (b.cell 1).toInt)

theorem isq_pos {n d : Int} (h : isq n d = true) : 1 ≤ d := by
  simp only [isq, Bool.and_eq_true] at h
  exact of_decide_eq_true h.1

theorem bad_plain (a b c d : Int) :
    (!(eqI ((bif isq a b then PV.agg [.int .i64 a, .int .i64 b] else zq).cell 0).toInt ((bif isq c d then PV.agg [.int .i64 c, .int .i64 d] else zq).cell 0).toInt &&
       eqI ((bif isq a b then PV.agg [.int .i64 a, .int .i64 b] else zq).cell 1).toInt ((bif isq c d then PV.agg [.int .i64 c, .int .i64 d] else zq).cell 1).toInt)) = badq (.agg [.int .i64 a, .int .i64 b]) (.agg [.int .i64 c, .int .i64 d]) := by
  unfold badq
  simp only [PV.cell, PV.cells, List.getD_cons_succ, List.getD_cons_zero, PV.toInt]
  cases h1 : isq a b <;> cases h2 : isq c d <;> simp [zq, PV.cells, PV.toInt]
  · decide
  · have := isq_pos h2
    rw [eqI_f (a := 0) (b := d) (by omega)]
    by_cases hbd : b = d
    · have : a ≠ c := fun e => by rw [e, hbd, h2] at h1; cases h1
      rw [eqI_f this]; simp
    · rw [eqI_f hbd]; simp
  · have := isq_pos h1
    rw [eqI_f (a := b) (b := 0) (by omega)]
    by_cases hbd : b = d
    · have : a ≠ c := fun e => by rw [← e, ← hbd, h1] at h2; cases h2
      rw [eqI_f this]; simp
    · rw [eqI_f hbd]; simp

theorem badq_self (a : PV) : badq a a = false := by
  unfold badq
  rw [eqI_t rfl, eqI_t rfl]; rfl

end Go.V

set_option linter.unusedSimpArgs false
set_option linter.unusedVariables false
namespace Go.V
open Go.Proofs

section
variable (v0 v1 v2 v3 v5 v6 v7 v8 v9 v11 v12 v13 v14 v16 v17 v18 v19 v20 : PV)

theorem nums_loop (na nb ka kb : List PV) (ha : ∀ q ∈ na, IsQ q) (hb : ∀ q ∈ nb, IsQ q) (hl : na.length = nb.length) (hr : na.length * 16 ≤ room) :
    ∀ (m i : Nat), i + m = na.length → ∃ r : Bool, Lv (fun k n => L31_4 (evF Try.prog H0 k) k n (.sl na) (.sl nb) (.int .i64 i)) [.pv .bool (.bool r)] ∧
      (r = true → ∃ K, ∀ k n, K ≤ k → K ≤ n → L22_4 (evF Try.prog H0 k) k n v0 v1 v2 v3 (.sl na) v5 v6 v7 v8 v9 (.sl ka) v11 v12 v13 v14 (.sl nb) v16 v17 v18 v19 v20 (.sl kb) (.int .i64 na.length) (.int .i64 i) =
        L22_10 (evF Try.prog H0 k) k k v0 v1 v2 v3 (.sl na) v5 v6 v7 v8 v9 (.sl ka) v11 v12 v13 v14 (.sl nb) v16 v17 v18 v19 v20 (.sl kb) (.int .i64 ka.length) (.int .i64 0)) ∧
      (r = false → Lv (fun k n => L22_4 (evF Try.prog H0 k) k n v0 v1 v2 v3 (.sl na) v5 v6 v7 v8 v9 (.sl ka) v11 v12 v13 v14 (.sl nb) v16 v17 v18 v19 v20 (.sl kb) (.int .i64 na.length) (.int .i64 i)) [.pv .bool (.bool false)]) ∧
      (na = nb → r = true)
  | 0, i, hi => by
    refine ⟨true, Lv.of 0 fun k n _ _ => ?_, fun _ => ⟨1, fun k n _ hn => ?_⟩, fun h => (by cases h), fun _ => rfl⟩
    · rw [L31_4_succ]
      simp only [PV.toInt, PV.toList]
      rw [ltI_f (by omega)]; rfl
    · obtain ⟨n, rfl⟩ : ∃ m, n = m + 1 := ⟨n - 1, by omega⟩
      rw [L22_4_succ]
      simp only [PV.toInt, PV.toList]
      rw [ltI_f (by omega)]; rfl
  | m + 1, i, hi => by
    have hlt : i < na.length := by omega
    have hlt' : i < nb.length := by omega
    have := len_lt' hr
    obtain ⟨r, hA, hT, hF, hE⟩ := nums_loop na nb ka kb ha hb hl hr m (i + 1) (by omega)
    obtain ⟨K0, hA⟩ := hA
    have qa := ha _ (List.getElem_mem hlt)
    have qb := hb _ (List.getElem_mem hlt')
    have hx := nth_at (default : PV) hlt
    have hy := nth_at (default : PV) hlt'
    have hsame : na = nb → na[i] = nb[i] := by intro h; subst h; rfl
    generalize na[i] = x at hx qa hsame
    generalize nb[i] = y at hy qb hsame
    cases qa with
    | mk a b wa wb =>
    cases qb with
    | mk c d wc wd =>
    obtain ⟨K1, p1⟩ := plain_ev (n := a) (d := b)
    obtain ⟨K2, p2⟩ := plain_ev (n := c) (d := d)
    obtain ⟨K3, i1⟩ := is40 (n := a) (d := b)
    obtain ⟨K4, i2⟩ := is40 (n := c) (d := d)
    have hbad := bad_plain a b c d
    have n22 : ∀ k n, K1 ≤ k → K2 ≤ k → L22_4 (evF Try.prog H0 k) k (n + 1) v0 v1 v2 v3 (.sl na) v5 v6 v7 v8 v9 (.sl ka) v11 v12 v13 v14 (.sl nb) v16 v17 v18 v19 v20 (.sl kb) (.int .i64 na.length) (.int .i64 i) =
        bif badq (.agg [.int .i64 a, .int .i64 b]) (.agg [.int .i64 c, .int .i64 d]) then some ([.pv .bool (.bool false)], []) else
        L22_4 (evF Try.prog H0 k) k n v0 v1 v2 v3 (.sl na) v5 v6 v7 v8 v9 (.sl ka) v11 v12 v13 v14 (.sl nb) v16 v17 v18 v19 v20 (.sl kb) (.int .i64 na.length) (.int .i64 ((i : Int) + 1)) := by
      intro k n hk1 hk2
      rw [L22_4_succ]
      simp only [PV.toInt, PV.toList, Int.toNat_natCast, hx, hy, p1 k hk1, p2 k hk2, okRes, resPV, Ty.eq, Nat.beq_refl, cond_true]
      rw [ltI_t (show (i : Int) < na.length by omega), ltI_t (show (i : Int) < nb.length by omega), leI_t (show (0 : Int) ≤ i by omega), wrap_id (n := (i : Int) + 1) (by omega) (by omega), ← hbad]
      rfl
    cases hq : badq (.agg [.int .i64 a, .int .i64 b]) (.agg [.int .i64 c, .int .i64 d]) with
    | true =>
      refine ⟨false, Lv.of (max K3 K4) fun k n hk hn => ?_, fun h => (by cases h), fun _ => Lv.of (max K1 K2) fun k n hk hn => ?_, fun h => ?_⟩
      · rw [L31_4_succ]
        simp only [PV.toInt, PV.toList, Int.toNat_natCast, hx, hy, i1 k (by omega), i2 k (by omega), okRes, resPV, Ty.eq, cond_true, PV.cell, PV.cells, List.getD_cons_succ, List.getD_cons_zero, PV.toBool]
        rw [ltI_t (show (i : Int) < na.length by omega), ltI_t (show (i : Int) < nb.length by omega), leI_t (show (0 : Int) ≤ i by omega)]
        simp only [badq, PV.toInt, PV.cell, PV.cells, List.getD_cons_succ, List.getD_cons_zero, Bool.and_eq_true, Bool.or_eq_true] at hq
        obtain ⟨h1, h2⟩ := hq
        simp only [h1, cond_true, Bool.and_self]
        cases hi1 : isq a b with
        | true => rfl
        | false =>
          rw [hi1] at h2
          rcases h2 with h2 | h2
          · cases h2
          · rw [h2]; rfl
      · rw [n22 k n (by omega) (by omega), hq]; rfl
      · have := hsame h
        rw [← this, badq_self] at hq
        cases hq
    | false =>
      refine ⟨r, Lv.of (max K0 (max K3 K4)) fun k n hk hn => ?_, fun hr' => ?_, fun hr' => ?_, hE⟩
      · have hA := hA k n (by omega) (by omega)
        rw [L31_4_succ]
        simp only [PV.toInt, PV.toList, Int.toNat_natCast, hx, hy, i1 k (by omega), i2 k (by omega), okRes, resPV, Ty.eq, cond_true, PV.cell, PV.cells, List.getD_cons_succ, List.getD_cons_zero, PV.toBool]
        rw [ltI_t (show (i : Int) < na.length by omega), ltI_t (show (i : Int) < nb.length by omega), leI_t (show (0 : Int) ≤ i by omega), wrap_id (n := (i : Int) + 1) (by omega) (by omega)]
        simp only [badq, PV.toInt, PV.cell, PV.cells, List.getD_cons_succ, List.getD_cons_zero] at hq
        simp only [Int.natCast_add, Int.natCast_one] at hA
        cases h1 : (eqI a c && eqI b d) with
        | true => simp [h1, hA]
        | false =>
          rw [h1] at hq
          simp only [Bool.not_false, Bool.true_and, Bool.or_eq_false_iff] at hq
          simp [h1, hA, hq.1, hq.2]
      · obtain ⟨K, hT⟩ := hT hr'
        refine ⟨max K (max K1 K2) + 1, fun k n hk hn => ?_⟩
        obtain ⟨n, rfl⟩ : ∃ m, n = m + 1 := ⟨n - 1, by omega⟩
        have hT := hT k n (by omega) (by omega)
        simp only [Int.natCast_add, Int.natCast_one] at hT
        rw [n22 k n (by omega) (by omega), hq]
        exact hT
      · obtain ⟨K, hF⟩ := hF hr'
        refine Lv.of (max K (max K1 K2)) fun k n hk hn => ?_
        have hF := hF k n (by omega) (by omega)
        simp only [Int.natCast_add, Int.natCast_one] at hF
        rw [n22 k n (by omega) (by omega), hq]
        exact hF

theorem kids_loop (v4 v15 : PV) (ka kb : List PV) (hl : ka.length = kb.length) (hr : ka.length * 160 ≤ room)
    (ih : ∀ (i : Nat) (h : i < ka.length) (h' : i < kb.length), ∃ r : Bool, Ev 22 [.pv (.st 27) ka[i], .pv (.st 27) kb[i]] [.pv .bool (.bool r)] ∧ Ev 11 [.pv (.st 27) ka[i], .pv (.st 27) kb[i]] [.pv .bool (.bool r)] ∧ (ka[i] = kb[i] → r = true)) :
    ∀ (m i : Nat), i + m = ka.length → ∃ r : Bool, Lv (fun k n => L22_10 (evF Try.prog H0 k) k n v0 v1 v2 v3 v4 v5 v6 v7 v8 v9 (.sl ka) v11 v12 v13 v14 v15 v16 v17 v18 v19 v20 (.sl kb) (.int .i64 ka.length) (.int .i64 i)) [.pv .bool (.bool r)] ∧
      Lv (fun k n => L11_4 (evF Try.prog H0 k) k n v0 v1 v2 v3 v4 v5 v6 v7 v8 v9 (.sl ka) v11 v12 v13 v14 v15 v16 v17 v18 v19 v20 (.sl kb) (.int .i64 i)) [.pv .bool (.bool r)] ∧ (ka = kb → r = true)
  | 0, i, hi => by
    refine ⟨true, Lv.of 0 fun k n _ _ => ?_, Lv.of 0 fun k n _ _ => ?_, fun _ => rfl⟩
    · rw [L22_10_succ]
      simp only [PV.toInt, PV.toList]
      rw [ltI_f (by omega)]; rfl
    · rw [L11_4_succ]
      simp only [PV.toInt, PV.toList]
      rw [ltI_f (by omega)]; rfl
  | m + 1, i, hi => by
    have hlt : i < ka.length := by omega
    have hlt' : i < kb.length := by omega
    have := len_lt hr
    obtain ⟨r1, ⟨K1, h1⟩, ⟨K2, h2⟩, h3⟩ := ih i hlt hlt'
    obtain ⟨r2, ⟨K3, h4⟩, ⟨K4, h5⟩, h6⟩ := kids_loop v4 v15 ka kb hl hr ih m (i + 1) (by omega)
    refine ⟨r1 && r2, Lv.of (max K1 K3) fun k n hk hn => ?_, Lv.of (max K2 K4) fun k n hk hn => ?_, fun h => ?_⟩
    · have h4 := h4 k n (by omega) (by omega)
      rw [L22_10_succ]
      simp only [PV.toInt, PV.toList, Int.toNat_natCast, nth_at default hlt, nth_at default hlt', h1 k (by omega), okRes, resPV, Ty.eq, cond_true, PV.toBool]
      rw [ltI_t (show (i : Int) < ka.length by omega), ltI_t (show (i : Int) < kb.length by omega), leI_t (show (0 : Int) ≤ i by omega), wrap_id (n := (i : Int) + 1) (by omega) (by omega)]
      cases r1 with
      | false => rfl
      | true => simpa using h4
    · have h5 := h5 k n (by omega) (by omega)
      rw [L11_4_succ]
      simp only [PV.toInt, PV.toList, Int.toNat_natCast, nth_at default hlt, nth_at default hlt', h2 k (by omega), okRes, resPV, Ty.eq, cond_true, PV.toBool]
      rw [ltI_t (show (i : Int) < ka.length by omega), ltI_t (show (i : Int) < kb.length by omega), leI_t (show (0 : Int) ≤ i by omega), wrap_id (n := (i : Int) + 1) (by omega) (by omega)]
      cases r1 with
      | false => rfl
      | true => simpa using h5
    · rw [h3 (by subst h; rfl), h6 h]; rfl

end

theorem same_ev {x : PV} (hx : IsBlk x) : ∀ {y : PV}, IsBlk y → ∃ r : Bool, Ev 22 [.pv (.st 27) x, .pv (.st 27) y] [.pv .bool (.bool r)] ∧ Ev 11 [.pv (.st 27) x, .pv (.st 27) y] [.pv .bool (.bool r)] ∧ (x = y → r = true) := by
  induction hx with
  | mk op name n m nums fk fa fb fc fd kids hn hk ln lk ih =>
    intro y hy
    cases hy with
    | mk op' name' n' m' nums' fk' fa' fb' fc' fd' kids' hn' hk' ln' lk' =>
    have no : ∀ (P Q : Prop), P → (¬ P) → Q := fun P Q a b => absurd a b
    cases h1 : (op.data.toList == op'.data.toList) with
    | false =>
      refine ⟨false, Ev.of 0 fun k _ => ?_, Ev.of 0 fun k _ => ?_, fun h => ?_⟩
      · rw [R22]; simp only [PV.cell, PV.cells, List.getD_cons_succ, List.getD_cons_zero, PV.toStr, h1, Bool.not_false, cond_true]
      · rw [R11]; simp only [PV.cell, PV.cells, List.getD_cons_succ, List.getD_cons_zero, PV.toStr, h1, Bool.not_false, cond_true]
      · simp only [PV.agg.injEq, List.cons.injEq, PV.str.injEq] at h
        rw [h.1] at h1; simp at h1
    | true =>
    cases h2 : (name.data.toList == name'.data.toList) with
    | false =>
      refine ⟨false, Ev.of 0 fun k _ => ?_, Ev.of 0 fun k _ => ?_, fun h => ?_⟩
      · rw [R22]; simp only [PV.cell, PV.cells, List.getD_cons_succ, List.getD_cons_zero, PV.toStr, h1, h2, Bool.not_false, Bool.not_true, cond_true, cond_false]
      · rw [R11]; simp only [PV.cell, PV.cells, List.getD_cons_succ, List.getD_cons_zero, PV.toStr, h1, h2, Bool.not_false, Bool.not_true, cond_true, cond_false]
      · simp only [PV.agg.injEq, List.cons.injEq, PV.str.injEq] at h
        rw [h.2.1] at h2; simp at h2
    | true =>
    cases h3 : eqI n n' with
    | false =>
      refine ⟨false, Ev.of 0 fun k _ => ?_, Ev.of 0 fun k _ => ?_, fun h => ?_⟩
      · rw [R22]; simp only [PV.cell, PV.cells, List.getD_cons_succ, List.getD_cons_zero, PV.toStr, PV.toInt, h1, h2, h3, Bool.not_false, Bool.not_true, cond_true, cond_false]
      · rw [R11]; simp only [PV.cell, PV.cells, List.getD_cons_succ, List.getD_cons_zero, PV.toStr, PV.toInt, h1, h2, h3, Bool.not_false, Bool.not_true, cond_true, cond_false]
      · simp only [PV.agg.injEq, List.cons.injEq, PV.int.injEq] at h
        rw [h.2.2.1.2, eqI_t rfl] at h3; cases h3
    | true =>
    cases h4 : eqI m m' with
    | false =>
      refine ⟨false, Ev.of 0 fun k _ => ?_, Ev.of 0 fun k _ => ?_, fun h => ?_⟩
      · rw [R22]; simp only [PV.cell, PV.cells, List.getD_cons_succ, List.getD_cons_zero, PV.toStr, PV.toInt, h1, h2, h3, h4, Bool.not_false, Bool.not_true, cond_true, cond_false]
      · rw [R11]; simp only [PV.cell, PV.cells, List.getD_cons_succ, List.getD_cons_zero, PV.toStr, PV.toInt, h1, h2, h3, h4, Bool.not_false, Bool.not_true, cond_true, cond_false]
      · simp only [PV.agg.injEq, List.cons.injEq, PV.int.injEq] at h
        rw [h.2.2.2.1.2, eqI_t rfl] at h4; cases h4
    | true =>
    cases h5 : (fk.data.toList == fk'.data.toList && (eqI fa fa' && (eqI fb fb' && (fc.data.toList == fc'.data.toList && fd.data.toList == fd'.data.toList)))) with
    | false =>
      refine ⟨false, Ev.of 0 fun k _ => ?_, Ev.of 0 fun k _ => ?_, fun h => ?_⟩
      · rw [R22]; simp only [PV.cell, PV.cells, List.getD_cons_succ, List.getD_cons_zero, PV.toStr, PV.toInt, h1, h2, h3, h4, h5, Bool.not_false, Bool.not_true, cond_true, cond_false]
      · rw [R11]; simp only [PV.cell, PV.cells, List.getD_cons_succ, List.getD_cons_zero, PV.toStr, PV.toInt, h1, h2, h3, h4, h5, Bool.not_false, Bool.not_true, cond_true, cond_false]
      · simp only [PV.agg.injEq, List.cons.injEq, PV.int.injEq, PV.str.injEq, PV.sl.injEq] at h
        obtain ⟨_, _, _, _, _, e1, e2, e3, e4, e5, _⟩ := h
        rw [e1, e2.2, e3.2, e4, e5, eqI_t rfl, eqI_t rfl] at h5; simp at h5
    | true =>
    by_cases hln : nums.length = nums'.length
    · obtain ⟨r1, hA, hT, hF, hE⟩ := nums_loop (.str op) (.str name) (.int .i64 n) (.int .i64 m) (.str fk) (.int .i64 fa) (.int .i64 fb) (.str fc) (.str fd) (.str op') (.str name') (.int .i64 n') (.int .i64 m') (.str fk') (.int .i64 fa') (.int .i64 fb') (.str fc') (.str fd')
        nums nums' kids kids' hn hn' hln ln nums.length 0 (by omega)
      obtain ⟨K1, hA⟩ := hA
      have h31 : Ev 31 [.pv (.sl 38) (.sl nums), .pv (.sl 38) (.sl nums')] [.pv .bool (.bool r1)] := by
        refine Ev.of K1 fun k hk => ?_
        rw [R31]
        simp only [PV.toList]
        rw [eqI_t (by omega)]
        exact hA k k hk hk
      obtain ⟨K2, h31⟩ := h31
      have hne : eqI (nums.length : Int) (nums'.length : Int) = true := eqI_t (by omega)
      by_cases hlk : kids.length = kids'.length
      · have hke : eqI (kids.length : Int) (kids'.length : Int) = true := eqI_t (by omega)
        cases r1 with
        | false =>
          obtain ⟨K3, hF⟩ := hF rfl
          refine ⟨false, Ev.of K3 fun k hk => ?_, Ev.of K2 fun k hk => ?_, fun h => ?_⟩
          · rw [R22]; simp only [PV.cell, PV.cells, List.getD_cons_succ, List.getD_cons_zero, PV.toStr, PV.toInt, PV.toList, h1, h2, h3, h4, h5, hne, hke, Bool.not_false, Bool.not_true, cond_true, cond_false]
            exact hF k k hk hk
          · rw [R11]; simp only [PV.cell, PV.cells, List.getD_cons_succ, List.getD_cons_zero, PV.toStr, PV.toInt, PV.toList, PV.toBool, h1, h2, h3, h4, h5, h31 k hk, okRes, resPV, Ty.eq, Bool.not_false, Bool.not_true, cond_true, cond_false]
          · simp only [PV.agg.injEq, List.cons.injEq, PV.sl.injEq] at h
            exact hE h.2.2.2.2.1
        | true =>
          obtain ⟨K3, hT⟩ := hT rfl
          obtain ⟨r2, ⟨K4, h6⟩, ⟨K5, h7⟩, h8⟩ := kids_loop (.str op) (.str name) (.int .i64 n) (.int .i64 m) (.str fk) (.int .i64 fa) (.int .i64 fb) (.str fc) (.str fd) (.str op') (.str name') (.int .i64 n') (.int .i64 m') (.str fk') (.int .i64 fa') (.int .i64 fb') (.str fc') (.str fd')
            (.sl nums) (.sl nums') kids kids' hlk lk (fun i hi hi' => ih _ (List.getElem_mem hi) (hk' _ (List.getElem_mem hi'))) kids.length 0 (by omega)
          refine ⟨r2, Ev.of (max K3 K4) fun k hk => ?_, Ev.of (max K2 K5) fun k hk => ?_, fun h => ?_⟩
          · rw [R22]; simp only [PV.cell, PV.cells, List.getD_cons_succ, List.getD_cons_zero, PV.toStr, PV.toInt, PV.toList, h1, h2, h3, h4, h5, hne, hke, Bool.not_false, Bool.not_true, cond_true, cond_false]
            have e1 := hT k k (by omega) (by omega)
            have e2 := h6 k k (by omega) (by omega)
            exact e1.trans e2
          · rw [R11]; simp only [PV.cell, PV.cells, List.getD_cons_succ, List.getD_cons_zero, PV.toStr, PV.toInt, PV.toList, PV.toBool, h1, h2, h3, h4, h5, hke, h31 k (by omega), okRes, resPV, Ty.eq, Bool.not_false, Bool.not_true, cond_true, cond_false]
            exact h7 k k (by omega) (by omega)
          · simp only [PV.agg.injEq, List.cons.injEq, PV.sl.injEq] at h
            exact h8 h.2.2.2.2.2.2.2.2.2.2.1
      · have hke : eqI (kids.length : Int) (kids'.length : Int) = false := eqI_f (by omega)
        refine ⟨false, Ev.of 0 fun k _ => ?_, Ev.of K2 fun k hk => ?_, fun h => ?_⟩
        · rw [R22]; simp only [PV.cell, PV.cells, List.getD_cons_succ, List.getD_cons_zero, PV.toStr, PV.toInt, PV.toList, h1, h2, h3, h4, h5, hne, hke, Bool.not_false, Bool.not_true, cond_true, cond_false]
        · rw [R11]; simp only [PV.cell, PV.cells, List.getD_cons_succ, List.getD_cons_zero, PV.toStr, PV.toInt, PV.toList, PV.toBool, h1, h2, h3, h4, h5, hke, h31 k hk, okRes, resPV, Ty.eq, Bool.not_false, Bool.not_true, cond_true, cond_false]
          cases r1 <;> rfl
        · simp only [PV.agg.injEq, List.cons.injEq, PV.sl.injEq] at h
          exact absurd (by rw [h.2.2.2.2.2.2.2.2.2.2.1]) hlk
    · have hne : eqI (nums.length : Int) (nums'.length : Int) = false := eqI_f (by omega)
      have h31 : Ev 31 [.pv (.sl 38) (.sl nums), .pv (.sl 38) (.sl nums')] [.pv .bool (.bool false)] := by
        refine Ev.of 0 fun k hk => ?_
        rw [R31]
        simp only [PV.toList]
        rw [hne]; rfl
      obtain ⟨K2, h31⟩ := h31
      refine ⟨false, Ev.of 0 fun k _ => ?_, Ev.of K2 fun k hk => ?_, fun h => ?_⟩
      · rw [R22]; simp only [PV.cell, PV.cells, List.getD_cons_succ, List.getD_cons_zero, PV.toStr, PV.toInt, PV.toList, h1, h2, h3, h4, h5, hne, Bool.not_false, Bool.not_true, cond_true, cond_false]
      · rw [R11]; simp only [PV.cell, PV.cells, List.getD_cons_succ, List.getD_cons_zero, PV.toStr, PV.toInt, PV.toList, PV.toBool, h1, h2, h3, h4, h5, h31 k hk, okRes, resPV, Ty.eq, Bool.not_false, Bool.not_true, cond_true, cond_false]
      · simp only [PV.agg.injEq, List.cons.injEq, PV.sl.injEq] at h
        exact absurd (by rw [h.2.2.2.2.1]) hln

end Go.V

set_option linter.unusedSimpArgs false
set_option linter.unusedVariables false
set_option maxRecDepth 100000
namespace Go.V
open Go.Proofs

def eS : PV := .str { data := #[] }
def eI : PV := .int .i64 0
/-- A block of an op alone. -/
def leafB (op : PV) : PV := .agg [op, eS, eI, eI, .sl [], eS, eI, eI, eS, eS, .sl []]
def joinB (op a b : PV) : PV := .agg [op, eS, eI, eI, .sl [], eS, eI, eI, eS, eS, .sl [a, b]]
def zeroB : PV := leafB eS
def foldB (op : PV) : List PV → PV
  | [] => zeroB
  | x :: xs => xs.foldl (joinB op) x

theorem isBlk_join {op : ByteArray} {a b : PV} (ha : IsBlk a) (hb : IsBlk b) : IsBlk (joinB (.str op) a b) :=
  .mk op ⟨#[]⟩ 0 0 [] ⟨#[]⟩ 0 0 ⟨#[]⟩ ⟨#[]⟩ [a, b] (fun q h => by cases h) (fun y h => by simp at h; rcases h with rfl | rfl <;> assumption) (by simp) (by simp [room])
theorem isBlk_leaf {op : ByteArray} : IsBlk (leafB (.str op)) :=
  .mk op ⟨#[]⟩ 0 0 [] ⟨#[]⟩ 0 0 ⟨#[]⟩ ⟨#[]⟩ [] (fun q h => by cases h) (fun y h => by cases h) (by simp) (by simp)
theorem isBlk_foldl {op : ByteArray} : ∀ {xs : List PV} {x : PV}, IsBlk x → (∀ y ∈ xs, IsBlk y) → IsBlk (xs.foldl (joinB (.str op)) x)
  | [], x, hx, _ => hx
  | y :: ys, x, hx, hy => isBlk_foldl (xs := ys) (x := joinB (.str op) x y) (isBlk_join hx (hy y (by simp))) (fun z hz => hy z (by simp [hz]))
theorem isBlk_fold {op : ByteArray} : ∀ {l : List PV}, (∀ y ∈ l, IsBlk y) → IsBlk (foldB (.str op) l)
  | [], _ => isBlk_leaf
  | x :: xs, h => isBlk_foldl (h x (by simp)) (fun y hy => h y (by simp [hy]))

theorem join24 {op b c0 c1 c2 c3 c4 c5 c6 c7 c8 c9 c10 : PV} (hb : IsBlk b) :
    Ev 24 [.pv .str op, .pv (.st 27) (.agg [c0, c1, c2, c3, c4, c5, c6, c7, c8, c9, c10]), .pv (.st 27) b] [.pv (.st 27) (joinB op (.agg [c0, c1, c2, c3, c4, c5, c6, c7, c8, c9, c10]) b)] := by
  refine Ev.of 0 fun k _ => ?_
  rw [R24, hb.eta]
  rfl

theorem join23 {op a b : PV} (ha : IsBlk a) (hb : IsBlk b) : Ev 23 [.pv .str op, .pv (.st 27) a, .pv (.st 27) b] [.pv (.st 27) (joinB op a b)] := by
  obtain ⟨K1, h1⟩ := clone_ev ha
  obtain ⟨K2, h2⟩ := clone_ev hb
  refine Ev.of (max K1 K2) fun k hk => ?_
  rw [R23]
  simp only [ha.eta, hb.eta, h1 k (by omega), h2 k (by omega), okRes, resPV, Ty.eq, Nat.beq_refl, cond_true]
  rfl

section
variable (v1 v2 v3 v4 : PV) (w5 : List PV) (v6 v7 v8 v9 v10 : PV) (w11 : List PV)

theorem fold_loop (op : PV) (xs : List PV) (hb : ∀ y ∈ xs, IsBlk y) (hl : xs.length * 160 ≤ room) :
    ∀ (m i : Nat) (v12 v13 v14 v15 v16 v17 v18 v19 v20 v21 v22 : PV), i + m = xs.length →
      Lv (fun k n => L32_5 (evF Try.prog H0 k) k n op v1 v2 v3 v4 w5 v6 v7 v8 v9 v10 w11 v12 v13 v14 v15 v16 v17 v18 v19 v20 v21 v22 (.sl xs) (.int .i64 xs.length) (.int .i64 i))
        [.pv (.st 27) ((xs.drop i).foldl (joinB op) (.agg [v12, v13, v14, v15, v16, v17, v18, v19, v20, v21, v22]))]
  | 0, i, v12, v13, v14, v15, v16, v17, v18, v19, v20, v21, v22, hi => Lv.of 0 fun k n _ _ => by
      rw [L32_5_succ]
      simp only [PV.toInt, PV.toList]
      rw [ltI_f (by omega), List.drop_eq_nil_of_le (by omega)]; rfl
  | m + 1, i, v12, v13, v14, v15, v16, v17, v18, v19, v20, v21, v22, hi => by
    have hlt : i < xs.length := by omega
    have := len_lt hl
    have hbi := hb _ (List.getElem_mem hlt)
    obtain ⟨K1, h1⟩ := clone_ev hbi
    obtain ⟨K2, h2⟩ := fold_loop op xs hb hl m (i + 1) op eS eI eI (.sl []) eS eI eI eS eS (.sl [.agg [v12, v13, v14, v15, v16, v17, v18, v19, v20, v21, v22], xs[i]]) (by omega)
    refine Lv.of (max K1 K2) fun k n hk hn => ?_
    have h2 := h2 k n (by omega) (by omega)
    rw [L32_5_succ]
    simp only [PV.toInt, PV.toList, PV.toBool, Int.toNat_natCast, nth_at default hlt, hbi.eta, h1 k (by omega), okRes, resPV, Ty.eq, Nat.beq_refl, cond_true]
    rw [ltI_t (show (i : Int) < xs.length by omega), leI_t (show (0 : Int) ≤ i by omega), wrap_id (n := (i : Int) + 1) (by omega) (by omega), List.drop_eq_getElem_cons hlt, List.foldl_cons]
    exact h2
end

section
variable (v2 v3 v4 v5 : PV) (w6 : List PV) (v7 v8 v9 v10 v11 : PV) (w12 : List PV)
theorem all_loop (op : PV) (xs : List PV) (hb : ∀ y ∈ xs, IsBlk y) (hl : xs.length * 160 ≤ room) :
    ∀ (m i : Nat) (v12 v13 v14 v15 v16 v17 v18 v19 v20 v21 v22 : PV), i + m = xs.length →
      Lv (fun k n => L33_5 (evF Try.prog H0 k) k n op (.sl xs) v2 v3 v4 v5 w6 v7 v8 v9 v10 v11 w12 v12 v13 v14 v15 v16 v17 v18 v19 v20 v21 v22 (.int .i64 i))
        [.pv (.st 27) ((xs.drop i).foldl (joinB op) (.agg [v12, v13, v14, v15, v16, v17, v18, v19, v20, v21, v22]))]
  | 0, i, v12, v13, v14, v15, v16, v17, v18, v19, v20, v21, v22, hi => Lv.of 0 fun k n _ _ => by
      rw [L33_5_succ]
      simp only [PV.toInt, PV.toList]
      rw [ltI_f (by omega), List.drop_eq_nil_of_le (by omega)]; rfl
  | m + 1, i, v12, v13, v14, v15, v16, v17, v18, v19, v20, v21, v22, hi => by
    have hlt : i < xs.length := by omega
    have := len_lt hl
    have hbi := hb _ (List.getElem_mem hlt)
    obtain ⟨K1, h1⟩ := join24 (op := op) (c0 := v12) (c1 := v13) (c2 := v14) (c3 := v15) (c4 := v16) (c5 := v17) (c6 := v18) (c7 := v19) (c8 := v20) (c9 := v21) (c10 := v22) hbi
    obtain ⟨K2, h2⟩ := all_loop op xs hb hl m (i + 1) op eS eI eI (.sl []) eS eI eI eS eS (.sl [.agg [v12, v13, v14, v15, v16, v17, v18, v19, v20, v21, v22], xs[i]]) (by omega)
    refine Lv.of (max K1 K2) fun k n hk hn => ?_
    have h2 := h2 k n (by omega) (by omega)
    rw [L33_5_succ]
    simp only [PV.toInt, PV.toList, PV.toBool, Int.toNat_natCast, nth_at default hlt, h1 k (by omega), okRes, resPV, Ty.eq, Nat.beq_refl, cond_true]
    rw [ltI_t (show (i : Int) < xs.length by omega), leI_t (show (0 : Int) ≤ i by omega), wrap_id (n := (i : Int) + 1) (by omega) (by omega), List.drop_eq_getElem_cons hlt, List.foldl_cons]
    exact h2
end

theorem info27 : (Try.prog.info? 27).isSome = true := by kernel_rfl

theorem fold_ev (op : PV) {l : List PV} (hb : ∀ y ∈ l, IsBlk y) (hl : l.length * 160 ≤ room) : Ev 32 [.pv .str op, .pv (.sl 27) (.sl l)] [.pv (.st 27) (foldB op l)] := by
  cases l with
  | nil => exact Ev.of 0 fun k _ => by rw [R32]; simp only [PV.toList, List.length_nil]; rfl
  | cons x xs =>
    have hx := hb x (by simp)
    have hxs : ∀ y ∈ xs, IsBlk y := fun y hy => hb y (by simp [hy])
    have hlx : xs.length * 160 ≤ room := by simp at hl; omega
    obtain ⟨K1, h1⟩ := clone_ev hx
    obtain ⟨K2, h2⟩ := fold_loop eS eS eI eI [] eS eI eI eS eS [] op xs hxs hlx xs.length 0 (x.cell 0) (x.cell 1) (x.cell 2) (x.cell 3) (x.cell 4) (x.cell 5) (x.cell 6) (x.cell 7) (x.cell 8) (x.cell 9) (x.cell 10) (by omega)
    rw [hx.eta, List.drop_zero] at h2
    refine Ev.of (max K1 K2) fun k hk => ?_
    rw [R32]
    simp only [PV.toList, nth, h1 k (by omega), okRes, resPV, Ty.eq, Nat.beq_refl, cond_true, info27, Bool.true_and, Int.toNat_natCast, List.take_length, List.drop_succ_cons, List.drop_zero]
    rw [eqI_f (by simp only [List.length_cons]; omega), leI_t (by omega), ltI_t (by simp only [List.length_cons]; omega), leI_t (by omega), leI_t (by simp only [List.length_cons]; omega), leI_t (Int.le_refl _)]
    exact h2 k k (by omega) (by omega)

theorem all_ev (op : PV) {l : List PV} (hb : ∀ y ∈ l, IsBlk y) (hl : l.length * 160 ≤ room) : Ev 33 [.pv .str op, .pv (.sl 27) (.sl l)] [.pv (.st 27) (foldB op l)] := by
  cases l with
  | nil => exact Ev.of 0 fun k _ => by rw [R33]; simp only [PV.toList, List.length_nil]; rfl
  | cons x xs =>
    have hx := hb x (by simp)
    obtain ⟨K2, h2⟩ := all_loop eS eS eI eI [] eS eI eI eS eS [] op (x :: xs) hb hl xs.length 1 (x.cell 0) (x.cell 1) (x.cell 2) (x.cell 3) (x.cell 4) (x.cell 5) (x.cell 6) (x.cell 7) (x.cell 8) (x.cell 9) (x.cell 10) (by simp; omega)
    rw [hx.eta] at h2
    refine Ev.of K2 fun k hk => ?_
    rw [R33]
    simp only [PV.toList, nth]
    rw [eqI_f (by simp only [List.length_cons]; omega), leI_t (by omega), ltI_t (by simp only [List.length_cons]; omega)]
    exact h2 k k (by omega) (by omega)

theorem row16 {l : List PV} (hb : ∀ y ∈ l, IsBlk y) (hl : l.length * 160 ≤ room) : Ev 16 [.pv (.sl 27) (.sl l)] [.pv (.st 27) (foldB (.str ⟨#[112, 97, 114]⟩) l)] := by
  obtain ⟨K, h⟩ := fold_ev (.str ⟨#[112, 97, 114]⟩) hb hl
  refine Ev.of K fun k hk => ?_
  rw [R16]
  simp only [h k hk, okRes, resPV, Ty.eq, Nat.beq_refl, cond_true, (isBlk_fold hb).eta]
theorem row17 {l : List PV} (hb : ∀ y ∈ l, IsBlk y) (hl : l.length * 160 ≤ room) : Ev 17 [.pv (.sl 27) (.sl l)] [.pv (.st 27) (foldB (.str ⟨#[112, 97, 114]⟩) l)] := by
  obtain ⟨K, h⟩ := all_ev (.str ⟨#[112, 97, 114]⟩) hb hl
  refine Ev.of K fun k hk => ?_
  rw [R17]
  simp only [h k hk, okRes, resPV, Ty.eq, Nat.beq_refl, cond_true, (isBlk_fold hb).eta]
theorem chain18 {l : List PV} (hb : ∀ y ∈ l, IsBlk y) (hl : l.length * 160 ≤ room) : Ev 18 [.pv (.sl 27) (.sl l)] [.pv (.st 27) (foldB (.str ⟨#[115, 101, 113]⟩) l)] := by
  obtain ⟨K, h⟩ := fold_ev (.str ⟨#[115, 101, 113]⟩) hb hl
  refine Ev.of K fun k hk => ?_
  rw [R18]
  simp only [h k hk, okRes, resPV, Ty.eq, Nat.beq_refl, cond_true, (isBlk_fold hb).eta]
theorem chain19 {l : List PV} (hb : ∀ y ∈ l, IsBlk y) (hl : l.length * 160 ≤ room) : Ev 19 [.pv (.sl 27) (.sl l)] [.pv (.st 27) (foldB (.str ⟨#[115, 101, 113]⟩) l)] := by
  obtain ⟨K, h⟩ := all_ev (.str ⟨#[115, 101, 113]⟩) hb hl
  refine Ev.of K fun k hk => ?_
  rw [R19]
  simp only [h k hk, okRes, resPV, Ty.eq, Nat.beq_refl, cond_true, (isBlk_fold hb).eta]

theorem leaf14 (op : PV) : Ev 14 [.pv .str op] [.pv (.st 27) (leafB op)] := Ev.of 0 fun k _ => by rw [R14]; rfl
theorem leaf15 (op : PV) : Ev 15 [.pv .str op] [.pv (.st 27) (leafB op)] := Ev.of 0 fun k _ => by rw [R15]; rfl
def numB (q : PV) : PV := .agg [.str ⟨#[110, 117, 109]⟩, eS, eI, eI, .sl [q], eS, eI, eI, eS, eS, .sl []]
theorem num12 {q : PV} (h : IsQ q) : Ev 12 [.pv (.st 38) q] [.pv (.st 27) (numB q)] := Ev.of 0 fun k _ => by rw [R12, h.eta]; rfl
theorem num13 {q : PV} (h : IsQ q) : Ev 13 [.pv (.st 38) q] [.pv (.st 27) (numB q)] := Ev.of 0 fun k _ => by rw [R13, h.eta]; rfl
theorem isBlk_num {q : PV} (h : IsQ q) : IsBlk (numB q) :=
  .mk ⟨#[110, 117, 109]⟩ ⟨#[]⟩ 0 0 [q] ⟨#[]⟩ 0 0 ⟨#[]⟩ ⟨#[]⟩ [] (fun x hx => by simp at hx; rw [hx]; exact h) (fun y h => by cases h) (by simp [room]) (by simp)

def wireB : PV := leafB (.str ⟨#[119, 105, 114, 101]⟩)

section
variable (v0 v1 v2 v3 : PV) (w4 : List PV) (v5 v6 v7 v8 v9 : PV) (w10 : List PV)
theorem wires20_loop (z : PV) (n0 : Nat) (h64 : n0 ≤ 64) : ∀ (m i : Nat), i + m = n0 →
    Lv (fun k n => L20_5 (evF Try.prog H0 k) k n v0 v1 v2 v3 w4 v5 v6 v7 v8 v9 w10 (List.replicate i wireB ++ List.replicate m z) (.int .i64 n0) (.int .i64 i)) [.pv (.st 27) (foldB (.str ⟨#[112, 97, 114]⟩) (List.replicate n0 wireB))]
  | 0, i, hi => by
    have hr : ∀ y ∈ List.replicate n0 wireB, IsBlk y := fun y hy => by rw [List.eq_of_mem_replicate hy]; exact isBlk_leaf
    obtain ⟨K, h⟩ := row16 (l := List.replicate n0 wireB) hr (by simp [room]; omega)
    refine Lv.of K fun k n hk _ => ?_
    have hi' : i = n0 := by omega
    subst hi'
    rw [L20_5_succ]
    simp only [PV.toInt, PV.toList, List.replicate_zero, List.append_nil, h k hk, lentOf, okBacks, okRes, resPV, Ty.eq, Nat.beq_refl, cond_true, (isBlk_fold hr).eta]
    rw [ltI_f (by omega)]; rfl
  | m + 1, i, hi => by
    obtain ⟨K1, h1⟩ := leaf14 (.str ⟨#[119, 105, 114, 101]⟩)
    obtain ⟨K2, h2⟩ := wires20_loop z n0 h64 m (i + 1) (by omega)
    refine Lv.of (max K1 K2) fun k n hk hn => ?_
    have h2 := h2 k n (by omega) (by omega)
    rw [L20_5_succ]
    simp only [PV.toInt, PV.toList, Int.toNat_natCast, h1 k (by omega), okRes, resPV, Ty.eq, Nat.beq_refl, cond_true, Bool.true_and]
    rw [ltI_t (show (i : Int) < n0 by omega), leI_t (show (0 : Int) ≤ i by omega), ltI_t (by simp; omega), wrap_id (n := (i : Int) + 1) (by omega) (by omega)]
    have e : (List.replicate i wireB ++ List.replicate (m + 1) z).set i (leafB (.str ⟨#[119, 105, 114, 101]⟩)) = List.replicate (i + 1) wireB ++ List.replicate m z := by
      rw [List.set_append_right _ _ (by simp), List.length_replicate, Nat.sub_self, List.replicate_succ, List.set_cons_zero, List.replicate_succ' (n := i)]
      simp [wireB]
    rw [e]
    exact h2
end

section
variable (v1 v2 v3 v4 : PV) (w5 : List PV) (v6 v7 v8 v9 v10 : PV) (w11 : List PV)
theorem wires21_loop (n0 : Nat) (h64 : n0 ≤ 64) : ∀ (m i : Nat), i + m = n0 →
    Lv (fun k n => L21_5 (evF Try.prog H0 k) k n (.int .i64 n0) v1 v2 v3 v4 w5 v6 v7 v8 v9 v10 w11 (List.replicate i wireB) (.int .i64 i)) [.pv (.st 27) (foldB (.str ⟨#[112, 97, 114]⟩) (List.replicate n0 wireB))]
  | 0, i, hi => by
    have hr : ∀ y ∈ List.replicate n0 wireB, IsBlk y := fun y hy => by rw [List.eq_of_mem_replicate hy]; exact isBlk_leaf
    obtain ⟨K, h⟩ := row17 (l := List.replicate n0 wireB) hr (by simp [room]; omega)
    refine Lv.of K fun k n hk _ => ?_
    have hi' : i = n0 := by omega
    subst hi'
    rw [L21_5_succ]
    simp only [PV.toInt, PV.toList, h k hk, lentOf, okBacks, okRes, resPV, Ty.eq, Nat.beq_refl, cond_true, (isBlk_fold hr).eta]
    rw [ltI_f (by omega)]; rfl
  | m + 1, i, hi => by
    obtain ⟨K1, h1⟩ := leaf15 (.str ⟨#[119, 105, 114, 101]⟩)
    obtain ⟨K2, h2⟩ := wires21_loop n0 h64 m (i + 1) (by omega)
    refine Lv.of (max K1 K2) fun k n hk hn => ?_
    have h2 := h2 k n (by omega) (by omega)
    rw [L21_5_succ]
    simp only [PV.toInt, PV.toList, Int.toNat_natCast, h1 k (by omega), okRes, resPV, Ty.eq, Nat.beq_refl, cond_true, Bool.true_and]
    rw [ltI_t (show (i : Int) < n0 by omega), leN_t (by simp [room]; omega), wrap_id (n := (i : Int) + 1) (by omega) (by omega)]
    have e : List.replicate i wireB ++ [leafB (.str ⟨#[119, 105, 114, 101]⟩)].reverse = List.replicate (i + 1) wireB := by
      rw [List.replicate_succ' (n := i)]
      simp [wireB]
    rw [e]
    exact h2
end

theorem wires_ev (n : Int) : ∃ x, IsBlk x ∧ Ev 20 [.pv (.int .i64) (.int .i64 n)] [.pv (.st 27) x] ∧ Ev 21 [.pv (.int .i64) (.int .i64 n)] [.pv (.st 27) x] := by
  by_cases h1 : n < 1
  · refine ⟨zeroB, isBlk_leaf, Ev.of 0 fun k _ => ?_, Ev.of 0 fun k _ => ?_⟩
    · rw [R20]; simp only [PV.toInt]; rw [ltI_t h1]; rfl
    · rw [R21]; simp only [PV.toInt]; rw [ltI_t h1]; rfl
  · by_cases h2 : 64 < n
    · refine ⟨zeroB, isBlk_leaf, Ev.of 0 fun k _ => ?_, Ev.of 0 fun k _ => ?_⟩
      · rw [R20]; simp only [PV.toInt]; rw [ltI_f (by omega), ltI_t h2]; rfl
      · rw [R21]; simp only [PV.toInt]; rw [ltI_f (by omega), ltI_t h2]; rfl
    · obtain ⟨n0, rfl⟩ : ∃ m : Nat, n = m := ⟨n.toNat, by omega⟩
      have hr : ∀ y ∈ List.replicate n0 wireB, IsBlk y := fun y hy => by rw [List.eq_of_mem_replicate hy]; exact isBlk_leaf
      obtain ⟨K1, h3⟩ := wires20_loop eS eS eI eI [] eS eI eI eS eS [] zeroB n0 (by omega) n0 0 (by omega)
      obtain ⟨K2, h4⟩ := wires21_loop eS eS eI eI [] eS eI eI eS eS [] n0 (by omega) n0 0 (by omega)
      have hz : zeroOk Try.prog 27 = true := by kernel_rfl
      refine ⟨_, isBlk_fold (op := ⟨#[112, 97, 114]⟩) hr, Ev.of K1 fun k hk => ?_, Ev.of K2 fun k hk => ?_⟩
      · have h3 := h3 k k hk hk
        rw [R20]
        simp only [PV.toInt, hz, Bool.true_and, Int.toNat_natCast, List.length_replicate]
        rw [ltI_f (by omega), ltI_f (by omega), leI_t (by omega), leI_t (by omega), leI_t (by omega), leI_t (by omega)]
        exact h3
      · have h4 := h4 k k hk hk
        rw [R21]
        simp only [PV.toInt]
        rw [ltI_f (by omega), ltI_f (by omega)]
        exact h4

end Go.V

set_option linter.unusedSimpArgs false
set_option linter.unusedVariables false
set_option maxRecDepth 100000
namespace Go.V
open Go.Proofs

theorem awake_at (k : Nat) : evF Try.prog H0 (k + 40) 6 [] = some ([.pv .bool (.bool true)], []) := by kernel_rfl
theorem awake_ev : Ev 6 [] [.pv .bool (.bool true)] := ⟨40, fun k hk => by
  obtain ⟨j, rfl⟩ : ∃ j, k = j + 40 := ⟨k - 40, by omega⟩
  exact awake_at j⟩

theorem same_self {x : PV} (h : IsBlk x) : Ev 11 [.pv (.st 27) x, .pv (.st 27) x] [.pv .bool (.bool true)] := by
  obtain ⟨r, _, h2, h3⟩ := same_ev h h
  rw [h3 rfl] at h2; exact h2

theorem inner_loop (op : ByteArray) (l : List PV) (hb : ∀ y ∈ l, IsBlk y) (hl : l.length * 160 ≤ room) (i : Nat) (hi : i < l.length)
    (hnext : ∃ K, ∀ k n, K ≤ k → K ≤ n → L4_12 (evF Try.prog H0 k) k n (.str op) (.sl l) (.int .i64 l.length) (.int .i64 ((i : Int) + 1)) = some ([.pv .bool (.bool true)], [])) :
    ∀ (m j : Nat), j + m = l.length → ∃ K, ∀ k m1 n, K ≤ k → K ≤ m1 → K ≤ n → L4_15 (evF Try.prog H0 k) k m1 n (.str op) (.sl l) (.int .i64 i) (.int .i64 l.length) (.int .i64 i) (.int .i64 l.length) (.int .i64 j) = some ([.pv .bool (.bool true)], [])
  | 0, j, hj => by
    have h0 : 0 < l.length := by omega
    have := len_lt hl
    obtain ⟨K0, h4⟩ := hnext
    obtain ⟨K1, h1⟩ := join23 (op := .str op) (hb _ (List.getElem_mem hi)) (hb _ (List.getElem_mem h0))
    obtain ⟨K2, h2⟩ : Ev 24 [.pv .str (.str op), .pv (.st 27) l[i], .pv (.st 27) l[0]] [.pv (.st 27) (joinB (.str op) l[i] l[0])] := by
      have := hb _ (List.getElem_mem hi)
      generalize l[i] = x at this
      cases this with
      | mk => exact join24 (hb _ (List.getElem_mem h0))
    obtain ⟨K3, h3⟩ := same_self (isBlk_join (op := op) (hb _ (List.getElem_mem hi)) (hb _ (List.getElem_mem h0)))
    refine ⟨max K0 (max K1 (max K2 K3)) + 1, fun k m1 n hk hm hn => ?_⟩
    obtain ⟨n, rfl⟩ : ∃ m, n = m + 1 := ⟨n - 1, by omega⟩
    rw [L4_15_succ]
    simp only [PV.toInt, PV.toList, Int.toNat_natCast, nth_at default hi, nth_at default h0, h1 k (by omega), h2 k (by omega), h3 k (by omega), okRes, resPV, Ty.eq, Nat.beq_refl, cond_true, PV.toBool, Bool.not_true, cond_false]
    rw [ltI_f (by omega), leI_t (show (0 : Int) ≤ i by omega), ltI_t (show (i : Int) < l.length by omega), leI_t (show (0 : Int) ≤ 0 by omega), ltI_t (show (0 : Int) < l.length by omega), wrap_id (n := (i : Int) + 1) (by omega) (by omega)]
    exact h4 k m1 (by omega) (by omega)
  | m + 1, j, hj => by
    have hlt : j < l.length := by omega
    have := len_lt hl
    obtain ⟨K0, h0⟩ := inner_loop op l hb hl i hi hnext m (j + 1) (by omega)
    obtain ⟨r, ⟨K1, h1⟩, ⟨K2, h2⟩, _⟩ := same_ev (hb _ (List.getElem_mem hi)) (hb _ (List.getElem_mem hlt))
    refine ⟨max K0 (max K1 K2) + 1, fun k m1 n hk hm hn => ?_⟩
    obtain ⟨n, rfl⟩ : ∃ m, n = m + 1 := ⟨n - 1, by omega⟩
    have h0 := h0 k m1 n (by omega) (by omega) (by omega)
    rw [L4_15_succ]
    simp only [PV.toInt, PV.toList, Int.toNat_natCast, nth_at default hi, nth_at default hlt, h1 k (by omega), h2 k (by omega), okRes, resPV, Ty.eq, cond_true, PV.toBool]
    rw [ltI_t (show (j : Int) < l.length by omega), leI_t (show (0 : Int) ≤ i by omega), ltI_t (show (i : Int) < l.length by omega), leI_t (show (0 : Int) ≤ j by omega), wrap_id (n := (j : Int) + 1) (by omega) (by omega)]
    cases r <;> exact h0

theorem outer_loop (op : ByteArray) (l : List PV) (hb : ∀ y ∈ l, IsBlk y) (hl : l.length * 160 ≤ room) : ∀ (m i : Nat), i + m = l.length → Lv (fun k n => L4_12 (evF Try.prog H0 k) k n (.str op) (.sl l) (.int .i64 l.length) (.int .i64 i)) [.pv .bool (.bool true)]
  | 0, i, hi => by
    obtain ⟨K, h⟩ := awake_ev
    refine Lv.of K fun k n hk _ => ?_
    rw [L4_12_succ]
    simp only [PV.toInt, PV.toList, h k hk, okRes, resPV, Ty.eq, cond_true]
    rw [ltI_f (by omega)]; rfl
  | m + 1, i, hi => by
    have hlt : i < l.length := by omega
    obtain ⟨K0, h0⟩ := outer_loop op l hb hl m (i + 1) (by omega)
    obtain ⟨K, h⟩ := inner_loop op l hb hl i hlt ⟨K0, h0⟩ l.length 0 (by omega)
    refine Lv.of K fun k n hk hn => ?_
    rw [L4_12_succ]
    simp only [PV.toInt, PV.toList]
    rw [ltI_t (by omega)]
    exact h k n k hk hn hk

theorem guards_loop (op : ByteArray) (l : List PV) (hb : ∀ y ∈ l, IsBlk y) (hl : l.length * 160 ≤ room) (n0 a b : Int) (ha : (Lit.int .i64 a).wf = true) (hd : (Lit.int .i64 b).wf = true) :
    ∀ (m i : Nat), i + m = l.length → Lv (fun k n => L4_4 (evF Try.prog H0 k) k n (.str op) (.int .i64 n0) (.sl l) (.int .i64 a) (.int .i64 b) (.sl l) (.int .i64 l.length) (.int .i64 i)) [.pv .bool (.bool true)]
  | 0, i, hi => by
    have hq : IsQ (.agg [.int .i64 a, .int .i64 b]) := .mk a b ha hd
    obtain ⟨K1, a1⟩ := num12 hq
    obtain ⟨K2, a2⟩ := num13 hq
    obtain ⟨K3, a3⟩ := same_self (isBlk_num hq)
    obtain ⟨K4, a4⟩ := leaf14 (.str op)
    obtain ⟨K5, a5⟩ := leaf15 (.str op)
    obtain ⟨K6, a6⟩ := same_self (isBlk_leaf (op := op))
    obtain ⟨K7, a7⟩ := row16 hb hl
    obtain ⟨K8, a8⟩ := row17 hb hl
    obtain ⟨K9, a9⟩ := same_self (isBlk_fold (op := ⟨#[112, 97, 114]⟩) hb)
    obtain ⟨K10, a10⟩ := chain18 hb hl
    obtain ⟨K11, a11⟩ := chain19 hb hl
    obtain ⟨K12, a12⟩ := same_self (isBlk_fold (op := ⟨#[115, 101, 113]⟩) hb)
    obtain ⟨x, hx, ⟨K13, a13⟩, ⟨K14, a14⟩⟩ := wires_ev n0
    obtain ⟨K15, a15⟩ := same_self hx
    obtain ⟨K16, a16⟩ := outer_loop op l hb hl l.length 0 (by omega)
    refine Lv.of (K1 + K2 + K3 + K4 + K5 + K6 + K7 + K8 + K9 + K10 + K11 + K12 + K13 + K14 + K15 + K16) fun k n hk hn => ?_
    rw [L4_4_succ]
    simp only [PV.toInt, PV.toList, a1 k (by omega), a2 k (by omega), a3 k (by omega), a4 k (by omega), a5 k (by omega), a6 k (by omega), a7 k (by omega), a8 k (by omega), a9 k (by omega), a10 k (by omega), a11 k (by omega), a12 k (by omega), a13 k (by omega), a14 k (by omega), a15 k (by omega),
      okRes, resPV, Ty.eq, Nat.beq_refl, cond_true, PV.toBool, Bool.not_true, cond_false]
    rw [ltI_f (by omega)]
    exact a16 k k (by omega) (by omega)
  | m + 1, i, hi => by
    have hlt : i < l.length := by omega
    have := len_lt hl
    have hbi := hb _ (List.getElem_mem hlt)
    obtain ⟨K0, h0⟩ := guards_loop op l hb hl n0 a b ha hd m (i + 1) (by omega)
    obtain ⟨z, K1, h1⟩ := few_ev hbi
    obtain ⟨K2, h2⟩ := awake_ev
    refine Lv.of (max K0 (max K1 K2)) fun k n hk hn => ?_
    have h0 := h0 k n (by omega) (by omega)
    rw [L4_4_succ]
    simp only [PV.toInt, PV.toList, Int.toNat_natCast, nth_at default hlt, hbi.eta, h1 k (by omega), h2 k (by omega), okRes, resPV, Ty.eq, cond_true, PV.toBool]
    rw [ltI_t (show (i : Int) < l.length by omega), leI_t (show (0 : Int) ≤ i by omega), wrap_id (n := (i : Int) + 1) (by omega) (by omega)]
    cases z with
    | false => rfl
    | true => exact h0

/-- THE LAW, by the engine. -/
theorem built_ev (op : ByteArray) {a b : Int} (ha : (Lit.int .i64 a).wf = true) (hd : (Lit.int .i64 b).wf = true) (n : Int) {l : List PV} (hb : ∀ y ∈ l, IsBlk y) (hl : l.length * 160 ≤ room) :
    Ev 4 [.pv .str (.str op), .pv (.st 38) (.agg [.int .i64 a, .int .i64 b]), .pv (.int .i64) (.int .i64 n), .pv (.sl 27) (.sl l)] [.pv .bool (.bool true)] := by
  obtain ⟨K1, h1⟩ := awake_ev
  obtain ⟨K2, h2⟩ := guards_loop op l hb hl n a b ha hd l.length 0 (by omega)
  refine Ev.of (max K1 K2) fun k hk => ?_
  have h2 := h2 k k (by omega) (by omega)
  rw [R4]
  simp only [PV.toStr, PV.toList, PV.toInt, h1 k (by omega), okRes, resPV, Ty.eq, cond_true]
  cases ltI 100 op.size with
  | true => rfl
  | false =>
    cases ltI 20 l.length with
    | true => rfl
    | false => exact h2

end Go.V

set_option linter.unusedSimpArgs false
set_option linter.unusedVariables false
set_option maxRecDepth 100000
namespace Go.V
open Go.Proofs Go.Proofs.Ytcdkljinnmphjaa

theorem sz_mem : ∀ {l : List PV} {x : PV}, x ∈ l → x.sz ≤ szs l
  | y :: l, x, h => by
    simp only [szs]
    rcases List.mem_cons.1 h with rfl | h
    · omega
    · have := sz_mem h; omega

section
variable {P : Program} {x : PV}
theorem WT.str_inv (h : WT P .str x) : ∃ s, x = .str s := by cases h; exact ⟨_, rfl⟩
theorem WT.int_inv {k : IntKind} (h : WT P (.int k) x) : ∃ n, x = .int k n ∧ (Lit.int k n).wf = true := by cases h with | int _ n h => exact ⟨n, rfl, h⟩
theorem WT.sl_inv {e : TypeId} (h : WT P (.sl e) x) : ∃ l, x = .sl l ∧ (∀ y ∈ l, WT P (tyOf P e) y) ∧ l.length * P.bytesOf e ≤ reachBytes := by
  cases h with
  | sl _ l h hl =>
    refine ⟨l, rfl, fun y hy => ?_, hl⟩
    obtain ⟨i, hi, rfl⟩ := List.mem_iff_getElem.1 hy
    exact h i _ (List.getElem?_eq_getElem hi)
theorem WT.st_inv {t : TypeId} (h : WT P (.st t) x) : ∃ xs, x = .agg xs ∧ xs.length = (cellTys P deep t).length ∧ ∀ (i : Nat) (ty : Ty) (x : PV), (cellTys P deep t)[i]? = some ty → xs[i]? = some x → WT P ty x := by
  cases h with | st _ xs hx h => exact ⟨xs, rfl, hx, h⟩
end

theorem cells38 : cellTys Try.prog deep 38 = [.int .i64, .int .i64] := by kernel_rfl
theorem cells27 : cellTys Try.prog deep 27 = [.str, .str, .int .i64, .int .i64, .sl 38, .str, .int .i64, .int .i64, .str, .str, .sl 27] := by kernel_rfl
theorem ty38 : tyOf Try.prog 38 = .st 38 := by kernel_rfl
theorem ty27 : tyOf Try.prog 27 = .st 27 := by kernel_rfl
theorem bytes38 : Try.prog.bytesOf 38 = 16 := by kernel_rfl
theorem bytes27 : Try.prog.bytesOf 27 = 160 := by kernel_rfl

theorem reach_room : reachBytes ≤ room := by decide

theorem isQ_of {x : PV} (h : WT Try.prog (.st 38) x) : IsQ x := by
  obtain ⟨xs, rfl, hl, hc⟩ := h.st_inv
  rw [cells38] at hl hc
  match xs, hl with
  | [a, b], _ =>
    obtain ⟨n, rfl, hn⟩ := (hc 0 _ a rfl rfl).int_inv
    obtain ⟨d, rfl, hd⟩ := (hc 1 _ b rfl rfl).int_inv
    exact .mk n d hn hd

theorem isBlk_of : ∀ (n : Nat) {x : PV}, x.sz ≤ n → WT Try.prog (.st 27) x → IsBlk x
  | 0, x, hs, h => by
    obtain ⟨xs, rfl, _, _⟩ := h.st_inv
    simp [PV.sz] at hs
  | n + 1, x, hs, h => by
    obtain ⟨xs, rfl, hl, hc⟩ := h.st_inv
    rw [cells27] at hl hc
    match xs, hl with
    | [x0, x1, x2, x3, x4, x5, x6, x7, x8, x9, x10], _ =>
      obtain ⟨op, rfl⟩ := (hc 0 _ x0 rfl rfl).str_inv
      obtain ⟨name, rfl⟩ := (hc 1 _ x1 rfl rfl).str_inv
      obtain ⟨nn, rfl, _⟩ := (hc 2 _ x2 rfl rfl).int_inv
      obtain ⟨mm, rfl, _⟩ := (hc 3 _ x3 rfl rfl).int_inv
      obtain ⟨nums, rfl, hq, hql⟩ := (hc 4 _ x4 rfl rfl).sl_inv
      obtain ⟨fk, rfl⟩ := (hc 5 _ x5 rfl rfl).str_inv
      obtain ⟨fa, rfl, _⟩ := (hc 6 _ x6 rfl rfl).int_inv
      obtain ⟨fb, rfl, _⟩ := (hc 7 _ x7 rfl rfl).int_inv
      obtain ⟨fc, rfl⟩ := (hc 8 _ x8 rfl rfl).str_inv
      obtain ⟨fd, rfl⟩ := (hc 9 _ x9 rfl rfl).str_inv
      obtain ⟨kids, rfl, hk, hkl⟩ := (hc 10 _ x10 rfl rfl).sl_inv
      rw [ty38] at hq
      rw [ty27] at hk
      rw [bytes38] at hql
      rw [bytes27] at hkl
      have hr := reach_room
      refine .mk op name nn mm nums fk fa fb fc fd kids (fun q h => isQ_of (hq q h)) (fun y hy => isBlk_of n ?_ (hk y hy)) (by omega) (by omega)
      have := sz_mem hy
      simp only [PV.sz, szs] at hs
      omega

end Go.V
