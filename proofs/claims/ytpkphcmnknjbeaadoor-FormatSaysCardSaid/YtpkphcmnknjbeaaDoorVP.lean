/- What the functions of formats compute, by the equations: Is, Make, rounding, Fit on a fixed grid, wrapping, Value and Code. Conditions: those that each theorem names. -/
import Derived.Test.YtpkphcmnknjbeaaDoorVE
import Derived.Test.YtpkphcmnknjbeaaDoorVG
set_option maxRecDepth 100000
set_option linter.unusedSimpArgs false
set_option linter.unusedVariables false
namespace Go.V
open Go.Proofs

/-- The seat's calls: math/bits.Add64 is told, all else is reckoned. -/
noncomputable def EG (k : Nat) : CallF := evG Tryd.prog H0 (add64B 72) k

theorem awake_at (k : Nat) : EG (k + 60) 15 [] = some ([.pv .bool (.bool true)], []) := by kernel_rfl

/-- With enough fuel function f gives r. -/
def Ev (f : FuncId) (az r : List AO) : Prop := ∃ K, ∀ k, K ≤ k → EG k f az = some (r, [])

theorem EG_succ (k : Nat) (f : FuncId) (az : List AO) (h : Nat.beq f 72 = false) : EG (k + 1) f az = evStep Tryd.prog H0 (EG k) k f az := by
  unfold EG
  simp only [evG, add64B, h, cond_false]

theorem Ev.of {f : FuncId} {az r : List AO} (K : Nat) (hf : Nat.beq f 72 = false) (h : ∀ k, K ≤ k → evStep Tryd.prog H0 (EG k) k f az = some (r, [])) : Ev f az r :=
  ⟨K + 1, fun k hk => by obtain ⟨k, rfl⟩ : ∃ m, k = m + 1 := ⟨k - 1, by omega⟩; rw [EG_succ k f az hf]; exact h k (by omega)⟩

theorem awake_ev : Ev 15 [] [.pv .bool (.bool true)] := ⟨60, fun k hk => by
  obtain ⟨j, rfl⟩ : ∃ j, k = j + 60 := ⟨k - 60, by omega⟩
  exact awake_at j⟩

/-- A loop, with enough fuel. -/
def Lv (F : Nat → Nat → R) (r : List AO) : Prop := ∃ K, ∀ k n, K ≤ k → K ≤ n → F k n = some (r, [])

theorem Lv.of {F : Nat → Nat → R} {r : List AO} (K : Nat) (h : ∀ k n, K ≤ k → K ≤ n → F k (n + 1) = some (r, [])) : Lv F r :=
  ⟨K + 1, fun k n hk hn => by obtain ⟨n, rfl⟩ : ∃ m, n = m + 1 := ⟨n - 1, by omega⟩; exact h k n (by omega) (by omega)⟩
end Go.V

set_option linter.unusedSimpArgs false
set_option linter.unusedVariables false
set_option maxRecDepth 100000
namespace Go.V
open Go.Proofs

theorem wrap_id {n : Int} (h0 : -9223372036854775808 ≤ n) (h1 : n < 9223372036854775808) : IntKind.i64.wrap n = n := by
  simp [IntKind.wrap, IntKind.signed, IntKind.bits]
  split <;> omega
theorem uwrap_id {n : Int} (h0 : 0 ≤ n) (h1 : n < 18446744073709551616) : IntKind.u64.wrap n = n := by
  simp [IntKind.wrap, IntKind.signed, IntKind.bits]
  omega

theorem gcd38 : ∀ (b a : Nat), Lv (fun k n => L38_5 gate1 (EG k) k n (.int .i64 a) (.int .i64 b)) [.pv (.int .i64) (.int .i64 (Nat.gcd b a : Nat))] := by
  intro b
  induction b using Nat.strongRecOn with
  | _ b ih =>
    intro a
    cases b with
    | zero =>
      refine Lv.of 0 fun k n _ _ => ?_
      rw [L38_5_succ]
      simp only [PV.toInt, J38_9_eq]
      rw [eqI_t (by simp)]
      simp
    | succ b =>
      obtain ⟨K, h⟩ := ih (a % (b + 1)) (Nat.mod_lt _ (by omega)) (b + 1)
      refine Lv.of K fun k n hk hn => ?_
      rw [L38_5_succ]
      simp only [PV.toInt, J38_6_eq]
      rw [eqI_f (show ((b + 1 : Nat) : Int) ≠ 0 by omega)]
      have := h k n hk hn
      rw [Nat.gcd_rec]
      simpa [Int.tmod_eq_emod_of_nonneg (Int.natCast_nonneg a)] using this

theorem gcd55 (b a : Nat) : Ev 55 [.pv (.int .u64) (.int .u64 a), .pv (.int .u64) (.int .u64 b)] [.pv (.int .u64) (.int .u64 (Nat.gcd b a : Nat))] := by
  have key : ∀ (b a : Nat), Lv (fun k n => L55_1 gate1 (EG k) k n (.int .u64 a) (.int .u64 b)) [.pv (.int .u64) (.int .u64 (Nat.gcd b a : Nat))] := by
    intro b
    induction b using Nat.strongRecOn with
    | _ b ih =>
      intro a
      cases b with
      | zero =>
        refine Lv.of 0 fun k n _ _ => ?_
        rw [L55_1_succ]
        simp only [PV.toInt, J55_3_eq]
        rw [eqI_t (by simp)]
        simp
      | succ b =>
        obtain ⟨K, h⟩ := ih (a % (b + 1)) (Nat.mod_lt _ (by omega)) (b + 1)
        refine Lv.of K fun k n hk hn => ?_
        rw [L55_1_succ]
        simp only [PV.toInt, J55_2_eq]
        rw [eqI_f (show ((b + 1 : Nat) : Int) ≠ 0 by omega)]
        have := h k n hk hn
        rw [Nat.gcd_rec]
        simpa [Int.tmod_eq_emod_of_nonneg (Int.natCast_nonneg a)] using this
  obtain ⟨K, h⟩ := key b a
  refine Ev.of K rfl fun k hk => ?_
  rw [R55]
  exact h k k hk hk

theorem size56 {n : Int} (h0 : -9223372036854775808 ≤ n) (h1 : n < 9223372036854775808) : Ev 56 [.pv (.int .i64) (.int .i64 n)] [.pv (.int .u64) (.int .u64 (n.natAbs : Nat))] := by
  refine Ev.of 0 rfl fun k _ => ?_
  rw [R56]
  simp only [PV.toInt, J56_3_eq]
  by_cases hn : n < 0
  · rw [ltI_t hn]
    have : IntKind.u64.wrap (0 - IntKind.u64.wrap n) = (n.natAbs : Nat) := by
      simp [IntKind.wrap, IntKind.signed, IntKind.bits]
      omega
    rw [this]; rfl
  · rw [ltI_f (by omega), uwrap_id (n := n) (by omega) (by omega), show ((n.natAbs : Nat) : Int) = n by omega]; rfl

/-- A fraction in its lowest terms, of small parts. -/
def isq (n d : Int) : Bool := leI 1 d && (leI d 1073741824 && (leI (-1073741824) n && (leI n 1073741824 && eqI (Nat.gcd d.natAbs n.natAbs : Nat) 1)))

theorem div38 {n d : Int} (n1 : -1073741824 ≤ n) (n2 : n ≤ 1073741824) (d1 : 1 ≤ d) (d2 : d ≤ 1073741824) :
    Ev 38 [.pv (.int .i64) (.int .i64 n), .pv (.int .i64) (.int .i64 d)] [.pv (.int .i64) (.int .i64 (Nat.gcd d.natAbs n.natAbs : Nat))] := by
  obtain ⟨K, hg⟩ := gcd38 d.natAbs n.natAbs
  refine Ev.of K rfl fun k hk => ?_
  have := hg k k hk hk
  rw [R38]
  simp only [PV.toInt, J38_3_eq, J38_3s1_eq]
  rw [ltI_f (show (0 : Int) ≤ d by omega)]
  rw [show ((d.natAbs : Nat) : Int) = d by omega] at this
  by_cases hn : n < 0
  · rw [ltI_t hn, wrap_id (by omega) (by omega), show (0 : Int) - n = (n.natAbs : Nat) by omega]
    exact this
  · rw [ltI_f (by omega)]
    rw [show ((n.natAbs : Nat) : Int) = n by omega] at this
    exact this

theorem is7 {n d : Int} : Ev 7 [.pv (.st 25) (.agg [.int .i64 n, .int .i64 d])] [.pv .bool (.bool (isq n d))] := by
  cases h1 : leI 1 d with
  | false => exact Ev.of 0 rfl fun k _ => by rw [R7]; simp only [PV.cell, PV.cells, List.getD_cons_succ, List.getD_cons_zero, PV.toInt, isq, h1, cond_false, Bool.false_and]
  | true =>
    cases h2 : leI d 1073741824 with
    | false => exact Ev.of 0 rfl fun k _ => by rw [R7]; simp only [PV.cell, PV.cells, List.getD_cons_succ, List.getD_cons_zero, PV.toInt, isq, h1, h2, cond_true, cond_false, Bool.false_and, Bool.true_and]
    | true =>
      cases h3 : leI (-1073741824) n with
      | false => exact Ev.of 0 rfl fun k _ => by rw [R7]; simp only [PV.cell, PV.cells, List.getD_cons_succ, List.getD_cons_zero, PV.toInt, isq, h1, h2, h3, cond_true, cond_false, Bool.false_and, Bool.true_and]
      | true =>
        cases h4 : leI n 1073741824 with
        | false => exact Ev.of 0 rfl fun k _ => by rw [R7]; simp only [PV.cell, PV.cells, List.getD_cons_succ, List.getD_cons_zero, PV.toInt, isq, h1, h2, h3, h4, cond_true, cond_false, Bool.false_and, Bool.true_and]
        | true =>
          obtain ⟨K2, h⟩ := div38 (n := n) (d := d) (of_decide_eq_true h3) (of_decide_eq_true h4) (of_decide_eq_true h1) (of_decide_eq_true h2)
          refine Ev.of K2 rfl fun k hk => ?_
          rw [R7]
          simp only [PV.cell, PV.cells, List.getD_cons_succ, List.getD_cons_zero, PV.toInt, isq, h1, h2, h3, h4, cond_true, cond_false, Bool.false_and, Bool.true_and, h k hk, okRes, resPV, Ty.eq, decide_true]

theorem is35 {n d : Int} : Ev 35 [.pv (.st 25) (.agg [.int .i64 n, .int .i64 d])] [.pv .bool (.bool (isq n d))] := by
  cases h1 : leI 1 d with
  | false => exact Ev.of 0 rfl fun k _ => by rw [R35]; simp only [PV.cell, PV.cells, List.getD_cons_succ, List.getD_cons_zero, PV.toInt, isq, h1, cond_false, Bool.false_and]
  | true =>
    cases h2 : leI d 1073741824 with
    | false => exact Ev.of 0 rfl fun k _ => by rw [R35]; simp only [PV.cell, PV.cells, List.getD_cons_succ, List.getD_cons_zero, PV.toInt, isq, h1, h2, cond_true, cond_false, Bool.false_and, Bool.true_and]
    | true =>
      cases h3 : leI (-1073741824) n with
      | false => exact Ev.of 0 rfl fun k _ => by rw [R35]; simp only [PV.cell, PV.cells, List.getD_cons_succ, List.getD_cons_zero, PV.toInt, isq, h1, h2, h3, cond_true, cond_false, Bool.false_and, Bool.true_and]
      | true =>
        cases h4 : leI n 1073741824 with
        | false => exact Ev.of 0 rfl fun k _ => by rw [R35]; simp only [PV.cell, PV.cells, List.getD_cons_succ, List.getD_cons_zero, PV.toInt, isq, h1, h2, h3, h4, cond_true, cond_false, Bool.false_and, Bool.true_and]
        | true =>
          have d1 : 1 ≤ d := of_decide_eq_true h1
          have d2 : d ≤ 1073741824 := of_decide_eq_true h2
          have n1 : -1073741824 ≤ n := of_decide_eq_true h3
          have n2 : n ≤ 1073741824 := of_decide_eq_true h4
          obtain ⟨K1, h48⟩ := gcd55 d.natAbs n.natAbs
          obtain ⟨K2, ha⟩ := size56 (n := n) (by omega) (by omega)
          obtain ⟨K3, hb⟩ := size56 (n := d) (by omega) (by omega)
          refine Ev.of (max K1 (max K2 K3)) rfl fun k hk => ?_
          rw [R35]
          simp only [PV.cell, PV.cells, List.getD_cons_succ, List.getD_cons_zero, PV.toInt, isq, h1, h2, h3, h4, cond_true, cond_false, Bool.false_and, Bool.true_and, h48 k (by omega), ha k (by omega), hb k (by omega), okRes, resPV, Ty.eq, decide_true]

/-- What ratio.Make makes of a fraction with a denominator above 0. -/
def mk (n d : Int) : Int × Int :=
  let g := Nat.gcd d.natAbs n.natAbs
  if 1073741824 < n.natAbs / g ∨ 1073741824 < d.natAbs / g then (0, 0) else (if n < 0 then -((n.natAbs / g : Nat) : Int) else (n.natAbs / g : Nat), (d.natAbs / g : Nat))

def qv (p : Int × Int) : PV := .agg [.int .i64 p.1, .int .i64 p.2]

theorem make39 {n d : Int} (n1 : -9223372036854775808 ≤ n) (n2 : n < 9223372036854775808) (d1 : 1 ≤ d) (d2 : d < 9223372036854775808) :
    Ev 39 [.pv (.int .i64) (.int .i64 n), .pv (.int .i64) (.int .i64 d)] [.pv (.st 25) (qv (mk n d))] := by
  obtain ⟨K1, h48⟩ := gcd55 d.natAbs n.natAbs
  obtain ⟨K2, ha⟩ := size56 (n := n) (by omega) (by omega)
  obtain ⟨K3, hb⟩ := size56 (n := d) (by omega) (by omega)
  have hg : 0 < Nat.gcd d.natAbs n.natAbs := Nat.gcd_pos_of_pos_left _ (by omega)
  have ea : (n.natAbs : Int).tdiv (Nat.gcd d.natAbs n.natAbs : Nat) = (n.natAbs / Nat.gcd d.natAbs n.natAbs : Nat) := by
    rw [Int.tdiv_eq_ediv_of_nonneg (Int.natCast_nonneg _)]; simp
  have eb : (d.natAbs : Int).tdiv (Nat.gcd d.natAbs n.natAbs : Nat) = (d.natAbs / Nat.gcd d.natAbs n.natAbs : Nat) := by
    rw [Int.tdiv_eq_ediv_of_nonneg (Int.natCast_nonneg _)]; simp
  have la : n.natAbs / Nat.gcd d.natAbs n.natAbs ≤ n.natAbs := Nat.div_le_self _ _
  have lb : d.natAbs / Nat.gcd d.natAbs n.natAbs ≤ d.natAbs := Nat.div_le_self _ _
  simp only [mk]
  generalize n.natAbs / Nat.gcd d.natAbs n.natAbs = A at ea la ⊢
  generalize d.natAbs / Nat.gcd d.natAbs n.natAbs = B at eb lb ⊢
  refine Ev.of (max K1 (max K2 K3)) rfl fun k hk => ?_
  rw [R39]
  simp only [PV.toInt, J39_3_eq, J39_7_eq, J39_8_eq, J39_11_eq, h48 k (by omega), ha k (by omega), hb k (by omega), okRes, resPV, Ty.eq, decide_true, cond_true, ea, eb]
  rw [eqI_f (show d ≠ 0 by omega), eqI_f (show ((Nat.gcd d.natAbs n.natAbs : Nat) : Int) ≠ 0 by omega)]
  simp only [cond_false]
  rw [uwrap_id (n := (A : Int)) (by omega) (by omega), uwrap_id (n := (B : Int)) (by omega) (by omega)]
  by_cases c1 : 1073741824 < A
  · rw [ltI_t (by omega), if_pos (.inl c1)]; rfl
  · rw [ltI_f (by omega)]
    simp only [cond_false]
    by_cases c2 : 1073741824 < B
    · rw [ltI_t (by omega), if_pos (.inr c2)]; rfl
    · rw [ltI_f (a := 1073741824) (by omega), if_neg (by omega)]
      simp only [cond_false]
      rw [wrap_id (n := (A : Int)) (by omega) (by omega), wrap_id (n := (B : Int)) (by omega) (by omega), wrap_id (by omega) (by omega)]
      rw [ltI_f (a := d) (b := 0) (by omega)]
      by_cases hn : n < 0
      · rw [ltI_t hn, if_pos hn]; simp [qv]
      · rw [ltI_f (by omega), if_neg hn]; simp [qv]

end Go.V

set_option linter.unusedSimpArgs false
set_option linter.unusedVariables false
set_option maxRecDepth 100000
namespace Go.V
open Go.Proofs

theorem mask32 {a : Nat} (h : a < 4294967296) : (BitVec.ofInt 64 (a : Int) &&& BitVec.ofInt 64 4294967295).toNat = a := by
  have e1 : BitVec.ofInt 64 (a : Int) = BitVec.ofNat 64 a := by simp
  have e2 : BitVec.ofInt 64 (4294967295 : Int) = BitVec.ofNat 64 4294967295 := by rfl
  rw [e1, e2, BitVec.toNat_and, BitVec.toNat_ofNat, BitVec.toNat_ofNat, Nat.mod_eq_of_lt (by omega), Nat.mod_eq_of_lt (by omega)]
  rw [show (4294967295 : Nat) = 2 ^ 32 - 1 by rfl, Nat.and_two_pow_sub_one_eq_mod]
  exact Nat.mod_eq_of_lt h

theorem fdiv32 {a : Nat} (h : a < 4294967296) : (a : Int).fdiv (2 ^ 32) = 0 := by
  rw [Int.fdiv_eq_ediv_of_nonneg _ (by decide)]
  omega

theorem mul73 {x y : Nat} (hx : x < 4294967296) (hy : y < 4294967296) :
    Ev 73 [.pv (.int .u64) (.int .u64 x), .pv (.int .u64) (.int .u64 y)] [.pv (.int .u64) (.int .u64 0), .pv (.int .u64) (.int .u64 (x * y : Nat))] := by
  have hxy : x * y < 18446744073709551616 := by
    have : x * y ≤ 4294967295 * 4294967295 := Nat.mul_le_mul (by omega) (by omega)
    omega
  refine Ev.of 0 rfl fun k _ => ?_
  rw [R73]
  simp only [PV.toInt, mask32 hx, mask32 hy, fdiv32 hx, fdiv32 hy, uwrap_id (n := (x : Int)) (by omega) (by omega), uwrap_id (n := (y : Int)) (by omega) (by omega), Int.zero_mul, Int.mul_zero, uwrap_id (n := 0) (by omega) (by omega), Int.zero_add, Int.add_zero]
  rw [← Int.natCast_mul, uwrap_id (n := ((x * y : Nat) : Int)) (by omega) (by omega)]
  have e : ((x * y : Nat) : Int).fdiv (2 ^ 32) = ((x * y / 4294967296 : Nat) : Int) := by
    rw [Int.fdiv_eq_ediv_of_nonneg _ (by decide)]; simp
  have hlt : x * y / 4294967296 < 4294967296 := by omega
  rw [e, uwrap_id (n := ((x * y / 4294967296 : Nat) : Int)) (by omega) (by omega), mask32 hlt, uwrap_id (n := ((x * y / 4294967296 : Nat) : Int)) (by omega) (by omega), fdiv32 hlt]
  rw [uwrap_id (n := ((x * y / 4294967296 : Nat) : Int)) (by omega) (by omega), fdiv32 hlt]
  rfl

theorem div78 {n d : Nat} (hn : n < 18446744073709551616) (hd : d < 18446744073709551616) (h0 : 0 < d) :
    Ev 78 [.pv (.int .u64) (.int .u64 0), .pv (.int .u64) (.int .u64 n), .pv (.int .u64) (.int .u64 d)] [.pv (.int .u64) (.int .u64 (n / d : Nat)), .pv (.int .u64) (.int .u64 (n % d : Nat))] := by
  refine Ev.of 0 rfl fun k _ => ?_
  rw [R78]
  simp only [PV.toInt, J78_3_eq, J78_5_eq]
  rw [eqI_f (show (d : Int) ≠ 0 by omega), leI_f (show (0 : Int) < d by omega), eqI_t rfl]
  simp only [cond_true, cond_false]
  rw [Int.tdiv_eq_ediv_of_nonneg (Int.natCast_nonneg n), Int.tmod_eq_emod_of_nonneg (Int.natCast_nonneg n)]
  have hq : n / d ≤ n := Nat.div_le_self _ _
  have e : (n : Int) / (d : Int) = (n / d : Nat) := by simp
  have e' : (n : Int) % (d : Int) = (n % d : Nat) := by simp
  rw [e, e', uwrap_id (Int.natCast_nonneg _) (by generalize n / d = q at hq; omega)]

/-- How the rest of a division stands to its half. -/
def half (r d : Nat) : Int := if r = 0 then 0 else if 2 * r < d then 1 else if 2 * r = d then 2 else 3

theorem halves77 {r d : Nat} (hr : r < 9223372036854775808) (hd : d < 18446744073709551616) :
    Ev 77 [.pv (.int .u64) (.int .u64 0), .pv (.int .u64) (.int .u64 r), .pv (.int .u64) (.int .u64 0), .pv (.int .u64) (.int .u64 d)] [.pv (.int .i64) (.int .i64 (half r d))] := by
  have e1 : (r : Int).fdiv (2 ^ 63) = 0 := by
    rw [Int.fdiv_eq_ediv_of_nonneg _ (by decide)]
    omega
  have e2 : IntKind.u64.wrap ((0 : Int) * 2 ^ 1) = 0 := by decide
  have e3 : IntKind.u64.wrap (((BitVec.ofInt 64 0 ||| BitVec.ofInt 64 0).toNat : Nat) : Int) = 0 := by decide
  have e4 : IntKind.u64.wrap ((r : Int) * 2 ^ 1) = ((2 * r : Nat) : Int) := by
    rw [uwrap_id (by omega) (by omega)]; omega
  refine Ev.of 0 rfl fun k _ => ?_
  rw [R77]
  simp only [PV.toInt, J77_2_eq, J77_3_eq, J77_5_eq, J77_7_eq, J77_8_eq, e1, e2, e3, e4]
  rw [eqI_t (show (0 : Int) = 0 from rfl), ltI_f (show (0 : Int) ≤ 0 by omega)]
  simp only [cond_true, cond_false]
  unfold half
  by_cases h0 : r = 0
  · rw [eqI_t (by omega), if_pos h0]; rfl
  · rw [eqI_f (show (r : Int) ≠ 0 by omega), if_neg h0]
    by_cases h1 : 2 * r < d
    · rw [ltI_t (show ((2 * r : Nat) : Int) < d by omega), if_pos h1]; rfl
    · rw [ltI_f (show (d : Int) ≤ ((2 * r : Nat) : Int) by omega), if_neg h1]
      by_cases h2 : 2 * r = d
      · rw [eqI_t (show ((2 * r : Nat) : Int) = d by omega), if_pos h2]; rfl
      · rw [eqI_f (show ((2 * r : Nat) : Int) ≠ d by omega), if_neg h2]; rfl

theorem tys49 : List.map (tyOf Tryd.prog) [49, 49] = [.int .u64, .int .u64] := by kernel_rfl
theorem tys493 : List.map (tyOf Tryd.prog) [49, 49, 3] = [.int .u64, .int .u64, .int .i64] := by kernel_rfl

theorem shl1 {s : Nat} (h : s ≤ 30) : IntKind.u64.wrap (1 * 2 ^ min (IntKind.u64.wrap (s : Int)).toNat 64) = ((2 ^ s : Nat) : Int) := by
  rw [uwrap_id (n := (s : Int)) (by omega) (by omega), Int.toNat_natCast, Nat.min_eq_left (by omega)]
  have : 2 ^ s ≤ 2 ^ 30 := Nat.pow_le_pow_right (by decide) h
  rw [Int.one_mul]
  have e : (2 : Int) ^ s = ((2 ^ s : Nat) : Int) := by simp
  rw [e, uwrap_id (Int.natCast_nonneg _) (by generalize 2 ^ s = q at this; omega)]

def xv (minus : Bool) (n d : Nat) : PV := .agg [.bool minus, .int .u64 n, .int .u64 d]

theorem scaled71 {m : Bool} {n d s : Nat} (hn : n ≤ 1073741824) (hd : d ≤ 1073741824) (h0 : 0 < d) (hs : s ≤ 30) :
    Ev 71 [.pv (.st 51) (xv m n d), .pv (.int .i64) (.int .i64 s)] [.pv (.int .u64) (.int .u64 0), .pv (.int .u64) (.int .u64 (n * 2 ^ s / d : Nat)), .pv (.int .i64) (.int .i64 (half (n * 2 ^ s % d) d))] := by
  have hp : 2 ^ s ≤ 2 ^ 30 := Nat.pow_le_pow_right (by decide) hs
  have hnp : n * 2 ^ s ≤ 1073741824 * 2 ^ 30 := Nat.mul_le_mul hn hp
  have hm : n * 2 ^ s % d < d := Nat.mod_lt _ h0
  obtain ⟨K1, h1⟩ := mul73 (x := n) (y := 2 ^ s) (by omega) (by omega)
  obtain ⟨K2, h2⟩ := div78 (n := n * 2 ^ s) (d := d) (by omega) (by omega) h0
  obtain ⟨K3, h3⟩ := halves77 (r := n * 2 ^ s % d) (d := d) (by omega) (by omega)
  refine Ev.of (max K1 (max K2 K3)) rfl fun k hk => ?_
  rw [R71]
  simp only [xv, PV.cell, PV.cells, List.getD_cons_succ, List.getD_cons_zero, PV.toInt, shl1 hs, h1 k (by omega), tys49, okMany, okTup, Ty.eq, decide_true, Bool.and_true, Bool.true_and, J71_6_eq, J71_9_eq, resAt, nth]
  rw [leI_t (show (0 : Int) ≤ s by omega), uwrap_id (n := (s : Int)) (by omega) (by omega), ltI_f (show (0 : Int) ≤ s by omega)]
  simp only [cond_true, cond_false, aoPV, PV.toInt, Nat.beq, Bool.not_false, Bool.not_true]
  rw [eqI_t (show (0 : Int) = 0 from rfl), eqI_f (show (d : Int) ≠ 0 by omega)]
  simp only [cond_true, cond_false, Int.zero_tmod, h2 k (by omega), aoPV, okTup, Ty.eq, decide_true, Bool.and_true, nth, h3 k (by omega), okRes, resPV, Int.zero_tdiv, Bool.not_true]
  rw [uwrap_id (n := 0) (by omega) (by omega)]

end Go.V

set_option linter.unusedSimpArgs false
set_option linter.unusedVariables false
set_option maxRecDepth 100000
namespace Go.V
open Go.Proofs

theorem add72 {a : Nat} (h : a < 9223372036854775808) (k : Nat) :
    EG k 72 [.pv (.int .u64) (.int .u64 a), .pv (.int .u64) (.int .u64 1), .pv (.int .u64) (.int .u64 0)] = some ([.pv (.int .u64) (.int .u64 (a + 1 : Nat)), .pv (.int .u64) (.int .u64 0)], []) := by
  have hb : add64B 72 72 [.pv (.int .u64) (.int .u64 a), .pv (.int .u64) (.int .u64 1), .pv (.int .u64) (.int .u64 0)] = some ([.pv (.int .u64) (.int .u64 (a + 1 : Nat)), .pv (.int .u64) (.int .u64 0)], []) := by
    simp only [add64B, Nat.beq_refl, cond_true, PV.toInt]
    rw [leI_t (show (0 : Int) ≤ a by omega), leI_t (show (0 : Int) ≤ 1 by omega), leI_t (show (0 : Int) ≤ 0 by omega)]
    have e1 : ((a : Int) + 1 + 0) % 18446744073709551616 = ((a + 1 : Nat) : Int) := by omega
    have e2 : ((a : Int) + 1 + 0) / 18446744073709551616 = 0 := by omega
    rw [e1, e2]; rfl
  cases k with
  | zero => exact hb
  | succ k => unfold EG; simp only [evG, hb]

theorem odd1 {a : Nat} : IntKind.u64.wrap (((BitVec.ofInt 64 (a : Int) &&& BitVec.ofInt 64 1).toNat : Nat) : Int) = (a % 2 : Nat) := by
  have e1 : BitVec.ofInt 64 (a : Int) = BitVec.ofNat 64 a := by simp
  have e2 : BitVec.ofInt 64 (1 : Int) = BitVec.ofNat 64 1 := by rfl
  rw [e1, e2, BitVec.toNat_and, BitVec.toNat_ofNat, BitVec.toNat_ofNat, Nat.mod_eq_of_lt (show 1 < 2 ^ 64 by decide), Nat.and_one_is_mod, uwrap_id (by omega) (by omega)]
  omega

/-- Is a quotient rounded up (in size)? -/
def upB (m : Bool) (round : ByteArray) (q : Nat) (h : Int) : Bool :=
  bif round.data.toList == (ByteArray.mk #[102, 108, 111, 111, 114]).data.toList then m && ltI 0 h
  else bif round.data.toList == (ByteArray.mk #[110, 101, 97, 114]).data.toList then eqI h 3 || (eqI h 2 && eqI (q % 2 : Nat) 1) else false

/-- The size that is rounded to. -/
def mag (m : Bool) (round : ByteArray) (n d : Nat) : Nat := n / d + (bif upB m round (n / d) (half (n % d) d) then 1 else 0)

theorem rounded63 {m : Bool} {n d s : Nat} {round : ByteArray} (hn : n ≤ 1073741824) (hd : d ≤ 1073741824) (h0 : 0 < d) (hs : s ≤ 30) :
    Ev 63 [.pv (.st 51) (xv m n d), .pv (.int .i64) (.int .i64 s), .pv .str (.str round)] [.pv (.st 71) (.agg [.bool (m && !eqI (mag m round (n * 2 ^ s) d : Nat) 0), .int .u64 0, .int .u64 (mag m round (n * 2 ^ s) d : Nat)])] := by
  obtain ⟨K1, h1⟩ := scaled71 (m := m) hn hd h0 hs
  have hp : 2 ^ s ≤ 2 ^ 30 := Nat.pow_le_pow_right (by decide) hs
  have hnp : n * 2 ^ s ≤ 1073741824 * 2 ^ 30 := Nat.mul_le_mul hn hp
  have hq : n * 2 ^ s / d ≤ n * 2 ^ s := Nat.div_le_self _ _
  unfold mag
  simp only [xv] at h1 ⊢
  generalize n * 2 ^ s / d = q at h1 hq ⊢
  generalize half (n * 2 ^ s % d) d = h at h1 ⊢
  have ha := add72 (a := q) (by omega)
  refine Ev.of K1 rfl fun k hk => ?_
  rw [R63]
  simp only [PV.cell, PV.cells, List.getD_cons_succ, List.getD_cons_zero, PV.toInt, PV.toStr, h1 k hk, tys493, tys49, okMany, okTup, Ty.eq, decide_true, Bool.and_true, Bool.true_and, resAt, nth, aoPV, Nat.beq, Bool.not_false, cond_true,
    J63_8_eq, J63_8s1_eq, J63_8s2_eq, J63_12_eq, J63_12s1_eq, ha, PV.toBool, odd1, upB]
  have w0 : IntKind.u64.wrap ((0 : Int) + 0) = 0 := by decide
  have z0 : eqI 0 0 = true := rfl
  cases hr : (round.data.toList == (ByteArray.mk #[102, 108, 111, 111, 114]).data.toList) with
  | true =>
    cases m with
    | true =>
      cases hh : ltI 0 h with
      | true => simp [w0, z0]; rfl
      | false => simp [w0, z0]
    | false => simp [w0, z0]
  | false =>
    cases hr2 : (round.data.toList == (ByteArray.mk #[110, 101, 97, 114]).data.toList) with
    | false => cases m <;> simp [w0, z0]
    | true =>
      cases h3 : eqI h 3 with
      | true => cases m <;> simp [w0, z0] <;> rfl
      | false =>
        cases h2 : eqI h 2 with
        | true =>
          cases ho : eqI (q % 2 : Nat) 1 with
          | true => cases m <;> simp [w0, z0] <;> (first | rfl | skip)
          | false => cases m <;> simp [w0, z0] <;> (first | rfl | skip)
        | false => cases m <;> simp [w0, z0]

end Go.V

set_option linter.unusedSimpArgs false
set_option linter.unusedVariables false
set_option maxRecDepth 100000
namespace Go.V
open Go.Proofs

def fv (kind : ByteArray) (I F : Int) (round over : ByteArray) : PV := .agg [.str kind, .int .i64 I, .int .i64 F, .str round, .str over]

def sK (m : Bool) (a : Nat) : Int := if m = true then -(a : Int) else a

theorem signed64 {m : Bool} {a : Nat} (h : a < 4611686018427387904) : Ev 64 [.pv (.st 71) (.agg [.bool (m && !eqI a 0), .int .u64 0, .int .u64 a])] [.pv (.int .i64) (.int .i64 (sK m a))] := by
  refine Ev.of 0 rfl fun k _ => ?_
  rw [R64]
  simp only [PV.cell, PV.cells, List.getD_cons_succ, List.getD_cons_zero, PV.toInt, PV.toBool, J64_3_eq]
  rw [wrap_id (n := (a : Int)) (by omega) (by omega), wrap_id (n := 0 - (a : Int)) (by omega) (by omega)]
  unfold sK
  cases m with
  | false => simp
  | true =>
    by_cases ha : a = 0
    · subst ha; rw [eqI_t (by omega)]; simp
    · rw [eqI_f (by omega)]; simp

theorem shl1i {F : Int} (h0 : 0 ≤ F) (h : F ≤ 60) : IntKind.i64.wrap (1 * 2 ^ min (IntKind.u64.wrap F).toNat 64) = ((2 ^ F.toNat : Nat) : Int) := by
  rw [uwrap_id (n := F) (by omega) (by omega), Nat.min_eq_left (by omega)]
  have : 2 ^ F.toNat ≤ 2 ^ 60 := Nat.pow_le_pow_right (by decide) (by omega)
  rw [Int.one_mul]
  have e : (2 : Int) ^ F.toNat = ((2 ^ F.toNat : Nat) : Int) := by simp
  rw [e, wrap_id (by have := Int.natCast_nonneg (2 ^ F.toNat); omega) (by generalize 2 ^ F.toNat = q at this; omega)]

theorem shl1u {F : Int} (h0 : 0 ≤ F) (h : F ≤ 60) : IntKind.u64.wrap (1 * 2 ^ min (IntKind.u64.wrap F).toNat 64) = ((2 ^ F.toNat : Nat) : Int) := by
  rw [uwrap_id (n := F) (by omega) (by omega), Nat.min_eq_left (by omega)]
  have : 2 ^ F.toNat ≤ 2 ^ 60 := Nat.pow_le_pow_right (by decide) (by omega)
  rw [Int.one_mul]
  have e : (2 : Int) ^ F.toNat = ((2 ^ F.toNat : Nat) : Int) := by simp
  rw [e, uwrap_id (Int.natCast_nonneg _) (by generalize 2 ^ F.toNat = q at this; omega)]

theorem value40 {kind round over : ByteArray} {I F k : Int} (h0 : 0 ≤ F) (h1 : F ≤ 30) (k1 : -4611686018427387904 ≤ k) (k2 : k ≤ 4611686018427387904) :
    Ev 40 [.pv (.st 23) (fv kind I F round over), .pv (.int .i64) (.int .i64 k)] [.pv (.st 25) (qv (mk k (2 ^ F.toNat : Nat)))] := by
  have hp : 2 ^ F.toNat ≤ 2 ^ 30 := Nat.pow_le_pow_right (by decide) (by omega)
  have hp0 : 0 < 2 ^ F.toNat := Nat.pow_pos (by decide)
  obtain ⟨K, h⟩ := make39 (n := k) (d := ((2 ^ F.toNat : Nat) : Int)) (by omega) (by omega) (by generalize 2 ^ F.toNat = q at hp hp0; omega) (by generalize 2 ^ F.toNat = q at hp hp0; omega)
  refine Ev.of K rfl fun k hk => ?_
  rw [R40]
  simp only [fv, PV.cell, PV.cells, List.getD_cons_succ, List.getD_cons_zero, PV.toInt, shl1i h0 (show F ≤ 60 by omega), h k hk, okRes, resPV, Ty.eq, Nat.beq_refl, cond_true]
  rw [uwrap_id h0 (by omega), ltI_f h0]
  rfl

theorem of37 {n d : Int} (n1 : -1073741824 ≤ n) (n2 : n ≤ 1073741824) (d1 : 1 ≤ d) (d2 : d ≤ 1073741824) :
    Ev 37 [.pv (.st 25) (.agg [.int .i64 n, .int .i64 d])] [.pv (.st 51) (xv (ltI n 0) n.natAbs d.natAbs)] := by
  refine Ev.of 0 rfl fun k _ => ?_
  rw [R37]
  simp only [PV.cell, PV.cells, List.getD_cons_succ, List.getD_cons_zero, PV.toInt, xv, J37_3_eq]
  rw [uwrap_id (n := d) (by omega) (by omega)]
  by_cases hn : n < 0
  · rw [ltI_t hn, wrap_id (n := 0 - n) (by omega) (by omega), uwrap_id (n := 0 - n) (by omega) (by omega), show (0 : Int) - n = (n.natAbs : Nat) by omega, show d = (d.natAbs : Nat) by omega]; rfl
  · rw [ltI_f (by omega), uwrap_id (n := n) (by omega) (by omega)]
    simp only [cond_false]
    rw [show ((n.natAbs : Nat) : Int) = n by omega, show ((d.natAbs : Nat) : Int) = d by omega]

/-- A whole number brought to [-top, top) by whole turns. -/
def wrapK (top : Nat) (K : Int) : Int := (K + top) % (2 * top : Nat) - top

theorem wrapK_id {top : Nat} {K : Int} (h0 : -(top : Int) ≤ K) (h1 : K < top) : wrapK top K = K := by
  unfold wrapK
  rw [Int.emod_eq_of_lt (by omega) (by omega)]; omega

theorem maskTop {e a : Nat} (he : e ≤ 60) (ha : a < 18446744073709551616) :
    IntKind.u64.wrap (((BitVec.ofInt 64 (a : Int) &&& BitVec.ofInt 64 (IntKind.u64.wrap (IntKind.u64.wrap (2 * ((2 ^ e : Nat) : Int)) - 1))).toNat : Nat) : Int) = ((a % (2 * 2 ^ e) : Nat) : Int) := by
  have hp : 2 ^ e ≤ 2 ^ 60 := Nat.pow_le_pow_right (by decide) he
  have hp0 : 0 < 2 ^ e := Nat.pow_pos (by decide)
  have e0 : IntKind.u64.wrap (IntKind.u64.wrap (2 * ((2 ^ e : Nat) : Int)) - 1) = ((2 ^ (e + 1) - 1 : Nat) : Int) := by
    have : 2 ^ (e + 1) = 2 * 2 ^ e := by rw [Nat.pow_succ, Nat.mul_comm]
    rw [this]
    generalize 2 ^ e = q at hp hp0
    rw [uwrap_id (n := 2 * (q : Int)) (by omega) (by omega), uwrap_id (by omega) (by omega)]
    omega
  rw [e0]
  have e1 : ∀ b : Nat, BitVec.ofInt 64 (b : Int) = BitVec.ofNat 64 b := fun b => by simp
  have hlt : 2 ^ (e + 1) - 1 < 2 ^ 64 := by
    have : 2 ^ (e + 1) ≤ 2 ^ 61 := Nat.pow_le_pow_right (by decide) (by omega)
    omega
  rw [e1, e1, BitVec.toNat_and, BitVec.toNat_ofNat, BitVec.toNat_ofNat, Nat.mod_eq_of_lt (show a < 2 ^ 64 from ha), Nat.mod_eq_of_lt hlt, Nat.and_two_pow_sub_one_eq_mod]
  have : 2 ^ (e + 1) = 2 * 2 ^ e := by rw [Nat.pow_succ, Nat.mul_comm]
  rw [this, uwrap_id (Int.natCast_nonneg _) ?_]
  have := Nat.mod_le a (2 * 2 ^ e)
  generalize a % (2 * 2 ^ e) = r at this
  omega

end Go.V

set_option linter.unusedSimpArgs false
set_option linter.unusedVariables false
set_option maxRecDepth 100000
namespace Go.V
open Go.Proofs

def wrapS : ByteArray := ByteArray.mk #[119, 114, 97, 112]
def satS : ByteArray := ByteArray.mk #[115, 97, 116]

theorem mag_le {m : Bool} {round : ByteArray} {n d : Nat} : mag m round n d ≤ n + 1 := by
  unfold mag
  have := Nat.div_le_self n d
  cases upB m round (n / d) (half (n % d) d) <;> simp <;> omega

section
variable {kind round over : ByteArray} {I F : Int} {m : Bool} {n d : Nat}

/-- In range: the value itself. -/
theorem fix57_in (hI : 0 ≤ I) (hF : 0 ≤ F) (hIF : I + F ≤ 30) (hn : n ≤ 1073741824) (hd : d ≤ 1073741824) (h0 : 0 < d)
    (hin : mag m round (n * 2 ^ F.toNat) d < 2 ^ (I + F).toNat ∨ (m = true ∧ mag m round (n * 2 ^ F.toNat) d = 2 ^ (I + F).toNat)) :
    Ev 57 [.pv (.st 23) (fv kind I F round over), .pv (.st 51) (xv m n d)] [.pv (.st 25) (qv (mk (sK m (mag m round (n * 2 ^ F.toNat) d)) (2 ^ F.toNat : Nat)))] := by
  have hp : 2 ^ F.toNat ≤ 2 ^ 30 := Nat.pow_le_pow_right (by decide) (by omega)
  have hnp : n * 2 ^ F.toNat ≤ 1073741824 * 2 ^ 30 := Nat.mul_le_mul hn hp
  have ht : 2 ^ (I + F).toNat ≤ 2 ^ 30 := Nat.pow_le_pow_right (by decide) (by omega)
  have ht0 : 0 < 2 ^ (I + F).toNat := Nat.pow_pos (by decide)
  obtain ⟨K1, h1⟩ := rounded63 (m := m) (round := round) hn hd h0 (s := F.toNat) (by omega)
  rw [show ((F.toNat : Nat) : Int) = F by omega] at h1
  have hml : mag m round (n * 2 ^ F.toNat) d ≤ n * 2 ^ F.toNat + 1 := mag_le
  generalize mag m round (n * 2 ^ F.toNat) d = a at *
  obtain ⟨K2, h2⟩ := signed64 (m := m) (a := a) (by omega)
  obtain ⟨K3, h3⟩ := value40 (kind := kind) (round := round) (over := over) (I := I) (k := sK m a) hF (by omega) (by unfold sK; split <;> omega) (by unfold sK; split <;> omega)
  simp only [xv] at h1 ⊢
  simp only [fv] at h3 ⊢
  refine Ev.of (K1 + K2 + K3) rfl fun k hk => ?_
  rw [R57]
  simp only [PV.cell, PV.cells, List.getD_cons_succ, List.getD_cons_zero, PV.toInt, PV.toStr, PV.toBool, h1 k (by omega), okRes, resPV, Ty.eq, Nat.beq_refl, cond_true, J57_4_eq, J57_5_eq, h2 k (by omega), h3 k (by omega), qv, decide_true]
  rw [wrap_id (n := I + F) (by omega) (by omega), shl1u (F := I + F) (by omega) (by omega), uwrap_id (n := I + F) (by omega) (by omega), ltI_f (show (0 : Int) ≤ I + F by omega), eqI_t (show (0 : Int) = 0 from rfl)]
  simp only [cond_true, cond_false]
  rcases hin with hlt | ⟨rfl, heq⟩
  · rw [ltI_t (by omega)]; rfl
  · rw [ltI_f (by omega), eqI_t (show (a : Int) = ((2 ^ (I + F).toNat : Nat) : Int) by omega), eqI_f (show (a : Int) ≠ 0 by omega)]; rfl

/-- With wrap: by whole turns. -/
theorem fix57_wrap (hI : 0 ≤ I) (hF : 0 ≤ F) (hIF : I + F ≤ 30) (hn : n ≤ 1073741824) (hd : d ≤ 1073741824) (h0 : 0 < d) :
    Ev 57 [.pv (.st 23) (fv kind I F round wrapS), .pv (.st 51) (xv m n d)] [.pv (.st 25) (qv (mk (wrapK (2 ^ (I + F).toNat) (sK m (mag m round (n * 2 ^ F.toNat) d))) (2 ^ F.toNat : Nat)))] := by
  by_cases hin : mag m round (n * 2 ^ F.toNat) d < 2 ^ (I + F).toNat ∨ (m = true ∧ mag m round (n * 2 ^ F.toNat) d = 2 ^ (I + F).toNat)
  · have := fix57_in (kind := kind) (over := wrapS) hI hF hIF hn hd h0 hin
    rw [wrapK_id]
    · exact this
    · unfold sK; rcases hin with h | ⟨h, h'⟩ <;> split <;> omega
    · have ht0 : 0 < 2 ^ (I + F).toNat := Nat.pow_pos (by decide)
      unfold sK; rcases hin with h | ⟨h, h'⟩
      · split <;> omega
      · rw [if_pos h]; omega
  · have hp : 2 ^ F.toNat ≤ 2 ^ 30 := Nat.pow_le_pow_right (by decide) (by omega)
    have hnp : n * 2 ^ F.toNat ≤ 1073741824 * 2 ^ 30 := Nat.mul_le_mul hn hp
    have ht : 2 ^ (I + F).toNat ≤ 2 ^ 30 := Nat.pow_le_pow_right (by decide) (by omega)
    have ht0 : 0 < 2 ^ (I + F).toNat := Nat.pow_pos (by decide)
    obtain ⟨K1, h1⟩ := rounded63 (m := m) (round := round) hn hd h0 (s := F.toNat) (by omega)
    rw [show ((F.toNat : Nat) : Int) = F by omega] at h1
    have hml : mag m round (n * 2 ^ F.toNat) d ≤ n * 2 ^ F.toNat + 1 := mag_le
    generalize mag m round (n * 2 ^ F.toNat) d = a at *
    -- the number that is brought in range
    have hw1 : -(((2 ^ (I + F).toNat : Nat) : Int)) ≤ wrapK (2 ^ (I + F).toNat) (sK m a) := by
      unfold wrapK
      have := Int.emod_nonneg (sK m a + ((2 ^ (I + F).toNat : Nat) : Int)) (show ((2 * 2 ^ (I + F).toNat : Nat) : Int) ≠ 0 by omega)
      omega
    have hw2 : wrapK (2 ^ (I + F).toNat) (sK m a) < ((2 ^ (I + F).toNat : Nat) : Int) := by
      unfold wrapK
      have := Int.emod_lt_of_pos (sK m a + ((2 ^ (I + F).toNat : Nat) : Int)) (show (0 : Int) < ((2 * 2 ^ (I + F).toNat : Nat) : Int) by omega)
      omega
    obtain ⟨K3, h3⟩ := value40 (kind := kind) (round := round) (over := wrapS) (I := I) (k := wrapK (2 ^ (I + F).toNat) (sK m a)) hF (by omega) (by omega) (by omega)
    simp only [xv] at h1 ⊢
    simp only [fv] at h3 ⊢
    have ha0 : (a : Int) ≠ 0 := by
      have : ¬ a < 2 ^ (I + F).toNat := fun h => hin (.inl h)
      omega
    have hge : 2 ^ (I + F).toNat ≤ a := by
      have : ¬ a < 2 ^ (I + F).toNat := fun h => hin (.inl h)
      omega
    have hms : (wrapS.data.toList == (ByteArray.mk #[115, 97, 116]).data.toList) = false := by decide
    have hmw : (wrapS.data.toList == (ByteArray.mk #[119, 114, 97, 112]).data.toList) = true := by decide
    have hlow : IntKind.u64.wrap (0 - (a : Int)) = ((18446744073709551616 - a : Nat) : Int) := by
      simp [IntKind.wrap, IntKind.signed, IntKind.bits]
      omega
    have key : ∀ low : Nat, low < 18446744073709551616 → ((low : Int) - sK m a) % ((2 * 2 ^ (I + F).toNat : Nat) : Int) = 0 →
        (if 2 ^ (I + F).toNat ≤ low % (2 * 2 ^ (I + F).toNat) then ((low % (2 * 2 ^ (I + F).toNat) : Nat) : Int) - ((2 * 2 ^ (I + F).toNat : Nat) : Int) else ((low % (2 * 2 ^ (I + F).toNat) : Nat) : Int)) = wrapK (2 ^ (I + F).toNat) (sK m a) := by
      intro low _ hmod
      generalize sK m a = K at *
      unfold wrapK
      generalize 2 ^ (I + F).toNat = t at *
      have hT : (0 : Int) < ((2 * t : Nat) : Int) := by omega
      have e1 : (low : Int) % ((2 * t : Nat) : Int) = K % ((2 * t : Nat) : Int) := Int.emod_eq_emod_iff_emod_sub_eq_zero.2 hmod
      have e2 : (K + (t : Int)) % ((2 * t : Nat) : Int) = (((low % (2 * t) : Nat) : Int) + t) % ((2 * t : Nat) : Int) := by
        rw [Int.natCast_emod, e1, Int.emod_add_emod]
      rw [e2]
      have hr : low % (2 * t) < 2 * t := Nat.mod_lt _ (by omega)
      generalize low % (2 * t) = r at hr
      by_cases hc : t ≤ r
      · rw [if_pos hc]
        have : ((r : Int) + t) % ((2 * t : Nat) : Int) = (r : Int) + t - ((2 * t : Nat) : Int) := by
          rw [← Int.sub_emod_right, Int.emod_eq_of_lt (by omega) (by omega)]
        rw [this]; omega
      · rw [if_neg hc, Int.emod_eq_of_lt (by omega) (by omega)]; omega
    refine Ev.of (K1 + K3) rfl fun k hk => ?_
    rw [R57]
    simp only [PV.cell, PV.cells, List.getD_cons_succ, List.getD_cons_zero, PV.toInt, PV.toStr, PV.toBool, h1 k (by omega), okRes, resPV, Ty.eq, Nat.beq_refl, cond_true, J57_5_eq, J57_14_eq, J57_14s1_eq, J57_18_eq, J57_18s1_eq, decide_true, hms, hmw]
    rw [wrap_id (n := I + F) (by omega) (by omega), shl1u (F := I + F) (by omega) (by omega), uwrap_id (n := I + F) (by omega) (by omega), ltI_f (show (0 : Int) ≤ I + F by omega), eqI_t (show (0 : Int) = 0 from rfl), ltI_f (show ((2 ^ (I + F).toNat : Nat) : Int) ≤ (a : Int) by omega), eqI_f ha0]
    simp only [cond_true, cond_false, Bool.not_false, Bool.and_true]
    cases m with
    | true =>
      have hne : (a : Int) ≠ ((2 ^ (I + F).toNat : Nat) : Int) := fun e => hin (.inr ⟨rfl, by omega⟩)
      rw [eqI_f hne]
      simp only [cond_true, cond_false, hlow]
      rw [maskTop (by omega) (by omega)]
      have hmod : (((18446744073709551616 - a : Nat) : Int) - sK true a) % ((2 * 2 ^ (I + F).toNat : Nat) : Int) = 0 := by
        have e : ((18446744073709551616 - a : Nat) : Int) - sK true a = ((2 * 2 ^ (I + F).toNat : Nat) : Int) * ((2 ^ (63 - (I + F).toNat) : Nat) : Int) := by
          rw [← Int.natCast_mul, Nat.mul_assoc, ← Nat.pow_add, show (I + F).toNat + (63 - (I + F).toNat) = 63 by omega]
          unfold sK; rw [if_pos rfl]; omega
        rw [e]; exact Int.mul_emod_right _ _
      have hk' := key (18446744073709551616 - a) (by omega) hmod
      have hr : (18446744073709551616 - a) % (2 * 2 ^ (I + F).toNat) < 2 * 2 ^ (I + F).toNat := Nat.mod_lt _ (by omega)
      generalize (18446744073709551616 - a) % (2 * 2 ^ (I + F).toNat) = r at hk' hr ⊢
      by_cases hc : 2 ^ (I + F).toNat ≤ r
      · rw [if_pos hc] at hk'
        rw [leI_t (by omega)]
        simp only [cond_true]
        have e : (r : Int) - 2 * ((2 ^ (I + F).toNat : Nat) : Int) = wrapK (2 ^ (I + F).toNat) (sK true a) := by rw [← hk']; omega
        rw [wrap_id (n := (r : Int)) (by omega) (by omega), uwrap_id (n := 2 * ((2 ^ (I + F).toNat : Nat) : Int)) (by omega) (by omega), wrap_id (n := 2 * ((2 ^ (I + F).toNat : Nat) : Int)) (by omega) (by omega), e, wrap_id (n := wrapK (2 ^ (I + F).toNat) (sK true a)) (by omega) (by omega), h3 k (by omega)]
        rfl
      · rw [if_neg hc] at hk'
        rw [leI_f (by omega)]
        simp only [cond_false]
        rw [wrap_id (n := (r : Int)) (by omega) (by omega), hk', h3 k (by omega)]
        rfl
    | false =>
      simp only [cond_true, cond_false]
      rw [maskTop (by omega) (by omega)]
      have hmod : ((a : Int) - sK false a) % ((2 * 2 ^ (I + F).toNat : Nat) : Int) = 0 := by
        unfold sK; simp
      have hk' := key a (by omega) hmod
      have hr : a % (2 * 2 ^ (I + F).toNat) < 2 * 2 ^ (I + F).toNat := Nat.mod_lt _ (by omega)
      generalize a % (2 * 2 ^ (I + F).toNat) = r at hk' hr ⊢
      by_cases hc : 2 ^ (I + F).toNat ≤ r
      · rw [if_pos hc] at hk'
        rw [leI_t (by omega)]
        simp only [cond_true]
        have e : (r : Int) - 2 * ((2 ^ (I + F).toNat : Nat) : Int) = wrapK (2 ^ (I + F).toNat) (sK false a) := by rw [← hk']; omega
        rw [wrap_id (n := (r : Int)) (by omega) (by omega), uwrap_id (n := 2 * ((2 ^ (I + F).toNat : Nat) : Int)) (by omega) (by omega), wrap_id (n := 2 * ((2 ^ (I + F).toNat : Nat) : Int)) (by omega) (by omega), e, wrap_id (n := wrapK (2 ^ (I + F).toNat) (sK false a)) (by omega) (by omega), h3 k (by omega)]
        rfl
      · rw [if_neg hc] at hk'
        rw [leI_f (by omega)]
        simp only [cond_false]
        rw [wrap_id (n := (r : Int)) (by omega) (by omega), hk', h3 k (by omega)]
        rfl
end
end Go.V

set_option linter.unusedSimpArgs false
set_option linter.unusedVariables false
set_option maxRecDepth 100000
namespace Go.V
open Go.Proofs

def isFix (kind : ByteArray) : Prop := (kind.data.toList == (ByteArray.mk #[102, 105, 120]).data.toList) = true
def b13 (I F : Int) : Bool := leI 0 I && (leI 0 F && (leI I 30 && (leI F 30 && leI (IntKind.i64.wrap (I + F)) 30)))

section
variable {kind round over : ByteArray} {I F : Int}

theorem j13 (hk : isFix kind) (call : CallF) (k : Nat) (v3 v4 : PV) : J16_13 gate1 call k (.str kind) (.int .i64 I) (.int .i64 F) v3 v4 = some ([.pv .bool (.bool (b13 I F))], []) := by
  unfold isFix at hk
  unfold b13
  simp only [J16_13_eq, PV.toStr, PV.toInt, hk, cond_true]
  cases leI 0 I <;> cases leI 0 F <;> cases leI I 30 <;> cases leI F 30 <;> rfl

theorem valid16 (hk : isFix kind) : ∃ b, Ev 16 [.pv (.st 23) (fv kind I F round over)] [.pv .bool (.bool b)] ∧ (b = true → (0 ≤ I ∧ 0 ≤ F ∧ I ≤ 30 ∧ F ≤ 30 ∧ I + F ≤ 30) ∧ ((round.data.toList == (ByteArray.mk #[102, 108, 111, 111, 114]).data.toList) || ((round.data.toList == (ByteArray.mk #[110, 101, 97, 114]).data.toList) || (round.data.toList == (ByteArray.mk #[122, 101, 114, 111]).data.toList))) = true) := by
  have h13 : b13 I F = true → 0 ≤ I ∧ 0 ≤ F ∧ I ≤ 30 ∧ F ≤ 30 ∧ I + F ≤ 30 := by
    intro h
    simp only [b13, Bool.and_eq_true] at h
    obtain ⟨a1, a2, a3, a4, a5⟩ := h
    have a1 : 0 ≤ I := of_decide_eq_true a1
    have a2 : 0 ≤ F := of_decide_eq_true a2
    have a3 : I ≤ 30 := of_decide_eq_true a3
    have a4 : F ≤ 30 := of_decide_eq_true a4
    have a5 : IntKind.i64.wrap (I + F) ≤ 30 := of_decide_eq_true a5
    rw [wrap_id (by omega) (by omega)] at a5
    exact ⟨a1, a2, a3, a4, a5⟩
  have hkk := hk
  unfold isFix at hk
  have six : ∀ (call : CallF) (k : Nat) (v3 : PV), ∃ b, (b = true → b = b13 I F) ∧ b = (bif over.data.toList == (ByteArray.mk #[115, 97, 116]).data.toList then b13 I F else bif over.data.toList == (ByteArray.mk #[110, 111, 110, 101]).data.toList then b13 I F else bif over.data.toList == (ByteArray.mk #[119, 114, 97, 112]).data.toList then b13 I F else false) ∧
      J16_6 gate1 call k (.str kind) (.int .i64 I) (.int .i64 F) v3 (.str over) = some ([.pv .bool (.bool b)], []) := by
    intro call k v3
    refine ⟨_, ?_, rfl, ?_⟩
    · cases (over.data.toList == (ByteArray.mk #[115, 97, 116]).data.toList) <;> cases (over.data.toList == (ByteArray.mk #[110, 111, 110, 101]).data.toList) <;> cases (over.data.toList == (ByteArray.mk #[119, 114, 97, 112]).data.toList) <;> simp
    · simp only [J16_6_eq, J16_10_eq, PV.toStr, j13 hkk, hk, Bool.not_true]
      cases (over.data.toList == (ByteArray.mk #[115, 97, 116]).data.toList) <;> cases (over.data.toList == (ByteArray.mk #[110, 111, 110, 101]).data.toList) <;> cases (over.data.toList == (ByteArray.mk #[119, 114, 97, 112]).data.toList) <;> rfl
  generalize hB : (bif over.data.toList == (ByteArray.mk #[115, 97, 116]).data.toList then b13 I F else bif over.data.toList == (ByteArray.mk #[110, 111, 110, 101]).data.toList then b13 I F else bif over.data.toList == (ByteArray.mk #[119, 114, 97, 112]).data.toList then b13 I F else false) = B at six
  have six' : ∀ (call : CallF) (k : Nat) (v3 : PV), J16_6 gate1 call k (.str kind) (.int .i64 I) (.int .i64 F) v3 (.str over) = some ([.pv .bool (.bool B)], []) := by
    intro call k v3
    obtain ⟨b, _, rfl, h⟩ := six call k v3
    exact h
  have hBt : B = true → B = b13 I F := by
    obtain ⟨b, h, rfl, _⟩ := six (fun _ _ => none) 0 (PV.bool true)
    exact h
  refine ⟨bif (round.data.toList == (ByteArray.mk #[102, 108, 111, 111, 114]).data.toList) || ((round.data.toList == (ByteArray.mk #[110, 101, 97, 114]).data.toList) || (round.data.toList == (ByteArray.mk #[122, 101, 114, 111]).data.toList)) then B else false, Ev.of 0 rfl fun k _ => ?_, fun h => ?_⟩
  · rw [R16]
    simp only [fv, PV.cell, PV.cells, List.getD_cons_succ, List.getD_cons_zero, PV.toInt, PV.toStr, six', J16_2_eq]
    cases (round.data.toList == (ByteArray.mk #[102, 108, 111, 111, 114]).data.toList) <;> cases (round.data.toList == (ByteArray.mk #[110, 101, 97, 114]).data.toList) <;> cases (round.data.toList == (ByteArray.mk #[122, 101, 114, 111]).data.toList) <;> rfl
  · have hcc : ((round.data.toList == (ByteArray.mk #[102, 108, 111, 111, 114]).data.toList) || ((round.data.toList == (ByteArray.mk #[110, 101, 97, 114]).data.toList) || (round.data.toList == (ByteArray.mk #[122, 101, 114, 111]).data.toList))) = true := by
      cases hc : ((round.data.toList == (ByteArray.mk #[102, 108, 111, 111, 114]).data.toList) || ((round.data.toList == (ByteArray.mk #[110, 101, 97, 114]).data.toList) || (round.data.toList == (ByteArray.mk #[122, 101, 114, 111]).data.toList))) with
      | true => rfl
      | false => rw [hc] at h; cases h
    refine ⟨h13 ?_, hcc⟩
    have hB1 : B = true := by
      cases hc : ((round.data.toList == (ByteArray.mk #[102, 108, 111, 111, 114]).data.toList) || ((round.data.toList == (ByteArray.mk #[110, 101, 97, 114]).data.toList) || (round.data.toList == (ByteArray.mk #[122, 101, 114, 111]).data.toList))) with
      | true => rw [hc] at h; exact h
      | false => rw [hc] at h; cases h
    rw [← hBt hB1]; exact hB1
end
end Go.V

set_option linter.unusedSimpArgs false
set_option linter.unusedVariables false
set_option maxRecDepth 100000
namespace Go.V
open Go.Proofs

/-- What a fraction times 2^F is rounded to. -/
def Kof (round : ByteArray) (F N D : Int) : Int := sK (ltI N 0) (mag (ltI N 0) round (N.natAbs * 2 ^ F.toNat) D.natAbs)

theorem isq_facts {n d : Int} (h : isq n d = true) : 1 ≤ d ∧ d ≤ 1073741824 ∧ -1073741824 ≤ n ∧ n ≤ 1073741824 ∧ Nat.gcd d.natAbs n.natAbs = 1 := by
  simp only [isq, Bool.and_eq_true] at h
  obtain ⟨a1, a2, a3, a4, a5⟩ := h
  have a5 : ((Nat.gcd d.natAbs n.natAbs : Nat) : Int) = 1 := of_decide_eq_true a5
  exact ⟨of_decide_eq_true a1, of_decide_eq_true a2, of_decide_eq_true a3, of_decide_eq_true a4, by omega⟩

section
variable {kind round over : ByteArray} {I F N D : Int}

theorem fit36 {m : Bool} {n d : Nat} (hk : isFix kind) {r : PV × PV} (h : Ev 57 [.pv (.st 23) (fv kind I F round over), .pv (.st 51) (xv m n d)] [.pv (.st 25) (.agg [r.1, r.2])]) :
    Ev 36 [.pv (.st 23) (fv kind I F round over), .pv (.st 51) (xv m n d)] [.pv (.st 25) (.agg [r.1, r.2])] := by
  obtain ⟨K, h⟩ := h
  unfold isFix at hk
  refine Ev.of K rfl fun k hkk => ?_
  have h := h k hkk
  simp only [fv, xv] at h ⊢
  rw [R36]
  simp only [PV.cell, PV.cells, List.getD_cons_succ, List.getD_cons_zero, PV.toStr, hk, cond_true, h, okRes, resPV, Ty.eq, Nat.beq_refl]

theorem fit6_of (hk : isFix kind) (hv : Ev 16 [.pv (.st 23) (fv kind I F round over)] [.pv .bool (.bool true)]) (hq : isq N D = true) {p : Int × Int}
    (h : Ev 57 [.pv (.st 23) (fv kind I F round over), .pv (.st 51) (xv (ltI N 0) N.natAbs D.natAbs)] [.pv (.st 25) (qv p)]) :
    Ev 6 [.pv (.st 23) (fv kind I F round over), .pv (.st 25) (.agg [.int .i64 N, .int .i64 D])] [.pv (.st 25) (qv p)] := by
  obtain ⟨q1, q2, q3, q4, _⟩ := isq_facts hq
  obtain ⟨K1, h1⟩ := hv
  obtain ⟨K2, h2⟩ := is35 (n := N) (d := D)
  obtain ⟨K3, h3⟩ := of37 (n := N) (d := D) q3 q4 q1 q2
  obtain ⟨K4, h4⟩ := fit36 (r := (.int .i64 p.1, .int .i64 p.2)) hk h
  refine Ev.of (K1 + K2 + K3 + K4) rfl fun k hkk => ?_
  have h1 := h1 k (by omega)
  have h4 := h4 k (by omega)
  simp only [fv] at h1 h4 ⊢
  rw [R6]
  simp only [PV.cell, PV.cells, List.getD_cons_succ, List.getD_cons_zero, h1, h2 k (by omega), hq, h3 k (by omega), h4, J6_3_eq, okRes, resPV, Ty.eq, Nat.beq_refl, PV.toBool, Bool.not_true, cond_true, cond_false, qv]

theorem fit6_in (hk : isFix kind) (hv : Ev 16 [.pv (.st 23) (fv kind I F round over)] [.pv .bool (.bool true)]) (hI : 0 ≤ I) (hF : 0 ≤ F) (hIF : I + F ≤ 30) (hq : isq N D = true)
    (h0 : -((2 ^ (I + F).toNat : Nat) : Int) ≤ Kof round F N D) (h1 : Kof round F N D < ((2 ^ (I + F).toNat : Nat) : Int)) :
    Ev 6 [.pv (.st 23) (fv kind I F round over), .pv (.st 25) (.agg [.int .i64 N, .int .i64 D])] [.pv (.st 25) (qv (mk (Kof round F N D) (2 ^ F.toNat : Nat)))] := by
  obtain ⟨q1, q2, q3, q4, _⟩ := isq_facts hq
  refine fit6_of hk hv hq (fix57_in hI hF hIF (by omega) (by omega) (by omega) ?_)
  unfold Kof at h0 h1
  generalize 2 ^ (I + F).toNat = T at h0 h1 ⊢
  generalize mag (ltI N 0) round (N.natAbs * 2 ^ F.toNat) D.natAbs = a at h0 h1 ⊢
  unfold sK at h0 h1
  cases hm : ltI N 0 with
  | true =>
    rw [hm, if_pos rfl] at h0 h1
    rcases Nat.lt_or_ge a T with hlt | hge
    · exact .inl hlt
    · exact .inr ⟨rfl, by omega⟩
  | false => rw [hm, if_neg (by decide)] at h0 h1; left; omega

theorem fit6_wrap (hk : isFix kind) (hv : Ev 16 [.pv (.st 23) (fv kind I F round wrapS)] [.pv .bool (.bool true)]) (hI : 0 ≤ I) (hF : 0 ≤ F) (hIF : I + F ≤ 30) (hq : isq N D = true) :
    Ev 6 [.pv (.st 23) (fv kind I F round wrapS), .pv (.st 25) (.agg [.int .i64 N, .int .i64 D])] [.pv (.st 25) (qv (mk (wrapK (2 ^ (I + F).toNat) (Kof round F N D)) (2 ^ F.toNat : Nat)))] := by
  obtain ⟨q1, q2, q3, q4, _⟩ := isq_facts hq
  exact fit6_of hk hv hq (fix57_wrap hI hF hIF (by omega) (by omega) (by omega))

theorem half_zero {d : Nat} : half 0 d = 0 := by simp [half]
theorem upB_zero {m : Bool} {q : Nat} : upB m round q 0 = false := by
  unfold upB
  rw [ltI_f (by omega), eqI_f (show (0 : Int) ≠ 3 by omega), eqI_f (show (0 : Int) ≠ 2 by omega)]
  cases (round.data.toList == (ByteArray.mk #[102, 108, 111, 111, 114]).data.toList) <;> cases (round.data.toList == (ByteArray.mk #[110, 101, 97, 114]).data.toList) <;> simp

/-- What is on the grid stays. -/
theorem Kof_exact {k : Int} (hD : 1 ≤ D) (h : N * ((2 ^ F.toNat : Nat) : Int) = k * D) : Kof round F N D = k := by
  have hp : 0 < 2 ^ F.toNat := Nat.pow_pos (by decide)
  have hab : N.natAbs * 2 ^ F.toNat = k.natAbs * D.natAbs := by
    have := congrArg Int.natAbs h
    rw [Int.natAbs_mul, Int.natAbs_mul, Int.natAbs_natCast] at this
    exact this
  have hD0 : 0 < D.natAbs := by omega
  unfold Kof mag
  rw [hab, Nat.mul_div_cancel _ hD0, Nat.mul_mod_left, half_zero, upB_zero]
  simp only [cond_false, Nat.add_zero]
  unfold sK
  by_cases hN : N < 0
  · rw [ltI_t hN, if_pos rfl]
    have : k * D < 0 := by rw [← h]; exact Int.mul_neg_of_neg_of_pos hN (by omega)
    have : k < 0 := by
      apply Classical.byContradiction
      intro hc
      have : 0 ≤ k * D := Int.mul_nonneg (by omega) (by omega)
      omega
    omega
  · rw [ltI_f (by omega), if_neg (by decide)]
    have : 0 ≤ k * D := by rw [← h]; exact Int.mul_nonneg (by omega) (by omega)
    have : 0 ≤ k := by
      apply Classical.byContradiction
      intro hc
      have : k * D < 0 := Int.mul_neg_of_neg_of_pos (by omega) (by omega)
      omega
    omega
end

/-- A whole number of steps as a fraction. -/
theorem mk_grid {k : Int} {e : Nat} (he : e ≤ 30) (hk1 : -1073741824 ≤ k) (hk2 : k ≤ 1073741824) :
    isq (mk k (2 ^ e : Nat)).1 (mk k (2 ^ e : Nat)).2 = true ∧ (mk k (2 ^ e : Nat)).1 * ((2 ^ e : Nat) : Int) = k * (mk k (2 ^ e : Nat)).2 := by
  have hp : 0 < 2 ^ e := Nat.pow_pos (by decide)
  have hp2 : 2 ^ e ≤ 2 ^ 30 := Nat.pow_le_pow_right (by decide) he
  unfold mk
  simp only [Int.natAbs_natCast]
  have hg : 0 < Nat.gcd (2 ^ e) k.natAbs := Nat.gcd_pos_of_pos_left _ hp
  have hd1 := Nat.gcd_dvd_left (2 ^ e) k.natAbs
  have hd2 := Nat.gcd_dvd_right (2 ^ e) k.natAbs
  have hcop : Nat.gcd (2 ^ e / Nat.gcd (2 ^ e) k.natAbs) (k.natAbs / Nat.gcd (2 ^ e) k.natAbs) = 1 := Nat.gcd_div_gcd_div_gcd_of_pos_left hp
  have e1 := Nat.div_mul_cancel hd1
  have e2 := Nat.div_mul_cancel hd2
  have la : k.natAbs / Nat.gcd (2 ^ e) k.natAbs ≤ k.natAbs := Nat.div_le_self _ _
  have lb : 2 ^ e / Nat.gcd (2 ^ e) k.natAbs ≤ 2 ^ e := Nat.div_le_self _ _
  have lb0 : 0 < 2 ^ e / Nat.gcd (2 ^ e) k.natAbs := Nat.div_pos (Nat.le_of_dvd hp hd1) hg
  have cross : k.natAbs / Nat.gcd (2 ^ e) k.natAbs * 2 ^ e = k.natAbs * (2 ^ e / Nat.gcd (2 ^ e) k.natAbs) := by
    rw [← Nat.mul_div_assoc _ hd1, Nat.mul_comm, ← Nat.mul_div_assoc _ hd2, Nat.mul_comm]
  generalize k.natAbs / Nat.gcd (2 ^ e) k.natAbs = A at *
  generalize 2 ^ e / Nat.gcd (2 ^ e) k.natAbs = B at *
  generalize 2 ^ e = p at *
  rw [if_neg (by omega)]
  constructor
  · unfold isq
    simp only
    rw [leI_t (show (1 : Int) ≤ B by omega), leI_t (show (B : Int) ≤ 1073741824 by omega), leI_t (by split <;> omega), leI_t (by split <;> omega), eqI_t]
    · rfl
    · rw [Int.natAbs_natCast]
      have : (if k < 0 then -(A : Int) else (A : Int)).natAbs = A := by split <;> omega
      rw [this, hcop]; rfl
  · simp only
    have hc : (A : Int) * p = (k.natAbs : Int) * B := by
      have := congrArg (fun x : Nat => (x : Int)) cross
      simpa using this
    split
    · rw [Int.neg_mul, hc, ← Int.neg_mul, show -((k.natAbs : Nat) : Int) = k by omega]
    · rw [hc, show ((k.natAbs : Nat) : Int) = k by omega]

end Go.V

set_option linter.unusedSimpArgs false
set_option linter.unusedVariables false
set_option maxRecDepth 100000
namespace Go.V
open Go.Proofs

def roundI (near : Bool) (X D : Int) : Int :=
  if near = true ∧ ¬ (2 * (X % D) < D ∨ (2 * (X % D) = D ∧ X / D % 2 = 0)) then X / D + 1 else X / D

theorem roundI_shift {near : Bool} {X D T : Int} (hD : 1 ≤ D) (hT : T % 2 = 0) : roundI near (X + T * D) D = roundI near X D + T := by
  unfold roundI
  have e1 : (X + T * D) / D = X / D + T := Int.add_mul_ediv_right X T (by omega)
  have e2 : (X + T * D) % D = X % D := Int.add_mul_emod_self_right X T D
  rw [e1, e2]
  have e3 : (X / D + T) % 2 = X / D % 2 := by omega
  rw [e3]
  split <;> omega

theorem roundI_f {X D : Int} : roundI false X D = X / D := by simp [roundI]
theorem roundI_t {X D : Int} : roundI true X D = if 2 * (X % D) < D ∨ (2 * (X % D) = D ∧ X / D % 2 = 0) then X / D else X / D + 1 := by
  unfold roundI
  by_cases h : 2 * (X % D) < D ∨ (2 * (X % D) = D ∧ X / D % 2 = 0)
  · rw [if_pos h, if_neg (fun hh => hh.2 h)]
  · rw [if_neg h, if_pos ⟨rfl, h⟩]

/-- The size that is rounded to, by the sides. -/
theorem mag_floor {m : Bool} {round : ByteArray} {n d : Nat} (hr : (round.data.toList == (ByteArray.mk #[102, 108, 111, 111, 114]).data.toList) = true) :
    mag m round n d = n / d + (if m = true ∧ n % d ≠ 0 then 1 else 0) := by
  unfold mag upB half
  rw [hr]
  simp only [cond_true]
  cases m with
  | false => simp
  | true =>
    by_cases h0 : n % d = 0
    · rw [if_pos h0, ltI_f (by omega)]; simp [h0]
    · rw [if_neg h0]
      have : ltI 0 (if 2 * (n % d) < d then 1 else if 2 * (n % d) = d then 2 else 3) = true := by
        split
        · exact ltI_t (by omega)
        · split
          · exact ltI_t (by omega)
          · exact ltI_t (by omega)
      rw [this]; simp [h0]

theorem mag_near {m : Bool} {round : ByteArray} {n d : Nat} (hr : (round.data.toList == (ByteArray.mk #[102, 108, 111, 111, 114]).data.toList) = false) (hr2 : (round.data.toList == (ByteArray.mk #[110, 101, 97, 114]).data.toList) = true) (hd : 0 < d) :
    mag m round n d = n / d + (if d < 2 * (n % d) ∨ (2 * (n % d) = d ∧ n / d % 2 = 1) then 1 else 0) := by
  unfold mag upB half
  rw [hr, hr2]
  simp only [cond_true, cond_false]
  by_cases h0 : n % d = 0
  · rw [if_pos h0, eqI_f (show (0 : Int) ≠ 3 by omega), eqI_f (show (0 : Int) ≠ 2 by omega), if_neg (by omega)]; rfl
  · rw [if_neg h0]
    by_cases h1 : 2 * (n % d) < d
    · rw [if_pos h1, eqI_f (show (1 : Int) ≠ 3 by omega), eqI_f (show (1 : Int) ≠ 2 by omega), if_neg (by omega)]; rfl
    · rw [if_neg h1]
      by_cases h2 : 2 * (n % d) = d
      · rw [if_pos h2, eqI_f (show (2 : Int) ≠ 3 by omega), eqI_t (show (2 : Int) = 2 from rfl)]
        by_cases h3 : n / d % 2 = 1
        · rw [eqI_t (by omega), if_pos (.inr ⟨h2, h3⟩)]; rfl
        · rw [eqI_f (by omega), if_neg (by omega)]; rfl
      · rw [if_neg h2, eqI_t (show (3 : Int) = 3 from rfl), if_pos (.inl (by omega))]; rfl

theorem Kof_round {round : ByteArray} {F N D : Int} (hD : 1 ≤ D) {near : Bool}
    (hr : (near = false ∧ (round.data.toList == (ByteArray.mk #[102, 108, 111, 111, 114]).data.toList) = true) ∨
      (near = true ∧ (round.data.toList == (ByteArray.mk #[102, 108, 111, 111, 114]).data.toList) = false ∧ (round.data.toList == (ByteArray.mk #[110, 101, 97, 114]).data.toList) = true)) :
    Kof round F N D = roundI near (N * ((2 ^ F.toNat : Nat) : Int)) D := by
  have hp : 0 < 2 ^ F.toNat := Nat.pow_pos (by decide)
  obtain ⟨d, rfl⟩ : ∃ d : Nat, D = d := ⟨D.toNat, by omega⟩
  have hd : 0 < d := by omega
  unfold Kof
  rw [Int.natAbs_natCast]
  have hX : N * ((2 ^ F.toNat : Nat) : Int) = sK (ltI N 0) (N.natAbs * 2 ^ F.toNat) := by
    unfold sK
    by_cases hN : N < 0
    · rw [ltI_t hN, if_pos rfl, Int.natCast_mul, ← Int.neg_mul]
      congr 1; omega
    · rw [ltI_f (by omega), if_neg (by decide), Int.natCast_mul]
      congr 1; omega
  rw [hX]
  generalize N.natAbs * 2 ^ F.toNat = n
  have hdiv := Nat.div_add_mod n d
  have hlt := Nat.mod_lt n hd
  -- the quotient and the rest
  have pos : ∀ q r : Nat, n = d * q + r → r < d → ((n : Int) / (d : Int) = q ∧ (n : Int) % (d : Int) = r) := by
    intro q r h1 h2
    refine (Int.ediv_emod_unique (by omega)).2 ⟨?_, by omega, by omega⟩
    rw [h1, Int.natCast_add, Int.natCast_mul, Int.add_comm]
  have neg0 : ∀ q : Nat, n = d * q → (-(n : Int) / (d : Int) = -(q : Int) ∧ -(n : Int) % (d : Int) = 0) := by
    intro q h1
    refine (Int.ediv_emod_unique (by omega)).2 ⟨?_, by omega, by omega⟩
    rw [h1, Int.natCast_mul, Int.mul_neg, Int.zero_add]
  have neg1 : ∀ q r : Nat, n = d * q + r → 0 < r → r < d → (-(n : Int) / (d : Int) = -(q : Int) - 1 ∧ -(n : Int) % (d : Int) = (d : Int) - r) := by
    intro q r h1 h2 h3
    refine (Int.ediv_emod_unique (by omega)).2 ⟨?_, by omega, by omega⟩
    rw [h1, Int.natCast_add, Int.natCast_mul, Int.mul_sub, Int.mul_neg, Int.mul_one]
    omega
  rcases hr with ⟨rfl, hr⟩ | ⟨rfl, hr, hr2⟩
  · rw [mag_floor hr, roundI_f]
    generalize n / d = q at *
    generalize n % d = r at *
    unfold sK
    cases ltI N 0 with
    | false =>
      simp only [if_neg (show ¬ (false = true) by decide)]
      rw [(pos q r hdiv.symm hlt).1]; simp
    | true =>
      simp only [if_true]
      by_cases hr0 : r = 0
      · subst hr0
        rw [(neg0 q (by omega)).1]; simp
      · rw [(neg1 q r hdiv.symm (by omega) hlt).1, if_pos ⟨trivial, hr0⟩]; omega
  · rw [mag_near hr hr2 hd, roundI_t]
    generalize n / d = q at *
    generalize n % d = r at *
    unfold sK
    cases ltI N 0 with
    | false =>
      simp only [if_neg (show ¬ (false = true) by decide)]
      rw [(pos q r hdiv.symm hlt).1, (pos q r hdiv.symm hlt).2]
      by_cases hc : d < 2 * r ∨ (2 * r = d ∧ q % 2 = 1)
      · rw [if_pos hc, if_neg (by omega)]; omega
      · rw [if_neg hc, if_pos (by omega)]; omega
    | true =>
      simp only [if_true]
      by_cases hr0 : r = 0
      · subst hr0
        rw [(neg0 q (by omega)).1, (neg0 q (by omega)).2, if_neg (by omega), if_pos (by omega)]; omega
      · rw [(neg1 q r hdiv.symm (by omega) hlt).1, (neg1 q r hdiv.symm (by omega) hlt).2]
        by_cases hc : d < 2 * r ∨ (2 * r = d ∧ q % 2 = 1)
        · rw [if_pos hc, if_pos (by omega)]; omega
        · rw [if_neg hc, if_neg (by omega)]; omega

/-- A number more by a whole turn. -/
theorem Kof_turn {round : ByteArray} {I F N D : Int} (hD : 1 ≤ D) (hI : 0 ≤ I) (hF : 0 ≤ F)
    (hz : (round.data.toList == (ByteArray.mk #[122, 101, 114, 111]).data.toList) = false)
    (hr : ((round.data.toList == (ByteArray.mk #[102, 108, 111, 111, 114]).data.toList) || ((round.data.toList == (ByteArray.mk #[110, 101, 97, 114]).data.toList) || (round.data.toList == (ByteArray.mk #[122, 101, 114, 111]).data.toList))) = true) :
    wrapK (2 ^ (I + F).toNat) (Kof round F (N + ((2 ^ (I + 1).toNat : Nat) : Int) * D) D) = wrapK (2 ^ (I + F).toNat) (Kof round F N D) := by
  have hT : ((2 ^ (I + 1).toNat : Nat) : Int) * ((2 ^ F.toNat : Nat) : Int) = ((2 * 2 ^ (I + F).toNat : Nat) : Int) := by
    rw [← Int.natCast_mul, ← Nat.pow_add, show (I + 1).toNat + F.toNat = (I + F).toNat + 1 by omega, Nat.pow_succ, Nat.mul_comm]
  have hX : (N + ((2 ^ (I + 1).toNat : Nat) : Int) * D) * ((2 ^ F.toNat : Nat) : Int) = N * ((2 ^ F.toNat : Nat) : Int) + ((2 * 2 ^ (I + F).toNat : Nat) : Int) * D := by
    rw [Int.add_mul, ← hT, Int.mul_right_comm]
  have key : ∀ near : Bool, ((near = false ∧ (round.data.toList == (ByteArray.mk #[102, 108, 111, 111, 114]).data.toList) = true) ∨
      (near = true ∧ (round.data.toList == (ByteArray.mk #[102, 108, 111, 111, 114]).data.toList) = false ∧ (round.data.toList == (ByteArray.mk #[110, 101, 97, 114]).data.toList) = true)) →
      Kof round F (N + ((2 ^ (I + 1).toNat : Nat) : Int) * D) D = Kof round F N D + ((2 * 2 ^ (I + F).toNat : Nat) : Int) := by
    intro near h
    rw [Kof_round hD h, Kof_round hD h, hX, roundI_shift hD (by omega)]
  have hK : Kof round F (N + ((2 ^ (I + 1).toNat : Nat) : Int) * D) D = Kof round F N D + ((2 * 2 ^ (I + F).toNat : Nat) : Int) := by
    cases h1 : (round.data.toList == (ByteArray.mk #[102, 108, 111, 111, 114]).data.toList) with
    | true => exact key false (.inl ⟨rfl, h1⟩)
    | false =>
      rw [h1, hz] at hr
      simp only [Bool.false_or, Bool.or_false] at hr
      exact key true (.inr ⟨rfl, h1, hr⟩)
  rw [hK]
  unfold wrapK
  generalize Kof round F N D = K
  generalize ((2 * 2 ^ (I + F).toNat : Nat) : Int) = T
  rw [show K + T + ((2 ^ (I + F).toNat : Nat) : Int) = K + ((2 ^ (I + F).toNat : Nat) : Int) + T by omega, Int.add_emod_right]

end Go.V

set_option linter.unusedSimpArgs false
set_option linter.unusedVariables false
set_option maxRecDepth 100000
namespace Go.V
open Go.Proofs

theorem div38b {n d : Int} (n1 : -4611686018427387904 ≤ n) (n2 : n ≤ 4611686018427387904) (d1 : 1 ≤ d) (d2 : d ≤ 4611686018427387904) :
    Ev 38 [.pv (.int .i64) (.int .i64 n), .pv (.int .i64) (.int .i64 d)] [.pv (.int .i64) (.int .i64 (Nat.gcd d.natAbs n.natAbs : Nat))] := by
  obtain ⟨K, hg⟩ := gcd38 d.natAbs n.natAbs
  refine Ev.of K rfl fun k hk => ?_
  have := hg k k hk hk
  rw [R38]
  simp only [PV.toInt, J38_3_eq, J38_3s1_eq]
  rw [ltI_f (show (0 : Int) ≤ d by omega)]
  rw [show ((d.natAbs : Nat) : Int) = d by omega] at this
  by_cases hn : n < 0
  · rw [ltI_t hn, wrap_id (by omega) (by omega), show (0 : Int) - n = (n.natAbs : Nat) by omega]
    exact this
  · rw [ltI_f (by omega)]
    rw [show ((n.natAbs : Nat) : Int) = n by omega] at this
    exact this

theorem least60 {n : Int} (n1 : -4611686018427387904 ≤ n) (n2 : n ≤ 4611686018427387904) : Ev 60 [.pv (.int .i64) (.int .i64 n)] [.pv .bool (.bool false)] := by
  refine Ev.of 0 rfl fun k _ => ?_
  rw [R60]
  simp only [PV.toInt]
  rw [wrap_id (n := 0 - n) (by omega) (by omega)]
  by_cases h : n = 0
  · rw [eqI_t (show n = 0 - n by omega), eqI_t h]; rfl
  · rw [eqI_f (show n ≠ 0 - n by omega)]; rfl

theorem none48 : Ev 48 [] [.pv (.st 25) (qv (0, 0))] := Ev.of 0 rfl fun k _ => by rw [R48]; rfl

def cut (n d : Int) : Int × Int := if isq n d = true then (n, d) else (0, 0)

theorem make46 {n d : Int} (n1 : -4611686018427387904 ≤ n) (n2 : n ≤ 4611686018427387904) (d1 : 1 ≤ d) (d2 : d ≤ 4611686018427387904) (hg : Nat.gcd d.natAbs n.natAbs = 1) :
    Ev 46 [.pv (.int .i64) (.int .i64 n), .pv (.int .i64) (.int .i64 d)] [.pv (.st 25) (qv (cut n d))] := by
  obtain ⟨K1, h1⟩ := div38b n1 n2 d1 d2
  obtain ⟨K2, h2⟩ := least60 n1 n2
  obtain ⟨K3, h3⟩ := least60 (n := d) (by omega) d2
  obtain ⟨K4, h4⟩ := is7 (n := n) (d := d)
  obtain ⟨K5, h5⟩ := none48
  refine Ev.of (K1 + K2 + K3 + K4 + K5 + 1) rfl fun k hk => ?_
  rw [R46]
  simp only [PV.toInt]
  rw [eqI_f (show d ≠ 0 by omega)]
  simp only [cond_false]
  obtain ⟨j, hj⟩ : ∃ j, k = j + 1 := ⟨k - 1, by omega⟩
  rw [show L46_3 gate1 (EG k) k k (.int .i64 n) (.int .i64 d) (.int .i64 0) (.int .i64 0) = L46_3 gate1 (EG k) k (j + 1) (.int .i64 n) (.int .i64 d) (.int .i64 0) (.int .i64 0) by rw [← hj]]
  rw [L46_3_succ]
  have h1 := h1 k (by omega)
  rw [hg] at h1
  have t1 : n.tdiv ((1 : Nat) : Int) = n := by simp
  have t2 : d.tdiv ((1 : Nat) : Int) = d := by simp
  simp only [h2 k (by omega), h3 k (by omega), okRes, resPV, Ty.eq, PV.toBool, cond_true, cond_false, J46_8_eq, PV.toInt, J46_11s1_eq, J46_15_eq, h1, decide_true, t1, t2, wrap_id (n := n) (by omega) (by omega), wrap_id (n := d) (by omega) (by omega), h4 k (by omega), h5 k (by omega), Nat.beq_refl]
  rw [ltI_f (show (0 : Int) ≤ d by omega), eqI_f (show ((1 : Nat) : Int) ≠ 0 by omega)]
  unfold cut
  cases isq n d <;> rfl

theorem whole17 {t : Int} (t1 : 0 ≤ t) (t2 : t ≤ 1099511627776) : Ev 17 [.pv (.int .i64) (.int .i64 t)] [.pv (.st 25) (qv (cut t 1))] := by
  obtain ⟨K, h⟩ := make46 (n := t) (d := 1) (by omega) (by omega) (by omega) (by omega) (by simp)
  refine Ev.of K rfl fun k hk => ?_
  rw [R17]
  simp only [h k hk, okRes, resPV, Ty.eq, Nat.beq_refl, cond_true, qv, PV.cell, PV.cells, List.getD_cons_succ, List.getD_cons_zero]

theorem both47 {a b c d : Int} : Ev 47 [.pv (.st 25) (.agg [.int .i64 a, .int .i64 b]), .pv (.st 25) (.agg [.int .i64 c, .int .i64 d])] [.pv .bool (.bool (isq a b && isq c d))] := by
  obtain ⟨K1, h1⟩ := is7 (n := a) (d := b)
  obtain ⟨K2, h2⟩ := is7 (n := c) (d := d)
  refine Ev.of (K1 + K2) rfl fun k hk => ?_
  rw [R47]
  simp only [PV.cell, PV.cells, List.getD_cons_succ, List.getD_cons_zero, h1 k (by omega), h2 k (by omega), okRes, resPV, Ty.eq, cond_true, PV.toBool]
  cases isq a b <;> rfl

theorem isq_zero : isq 0 0 = false := by decide

/-- A number and a whole turn. -/
theorem add18 {N D t : Int} (t1 : 0 ≤ t) (t2 : t ≤ 1099511627776) :
    Ev 18 [.pv (.st 25) (.agg [.int .i64 N, .int .i64 D]), .pv (.st 25) (qv (cut t 1))] [.pv (.st 25) (qv (if isq N D = true ∧ isq t 1 = true then cut (N + t * D) D else (0, 0)))] := by
  obtain ⟨K1, h1⟩ := both47 (a := N) (b := D) (c := (cut t 1).1) (d := (cut t 1).2)
  obtain ⟨K2, h2⟩ := none48
  by_cases hN : isq N D = true
  · by_cases ht : isq t 1 = true
    · obtain ⟨q1, q2, q3, q4, q5⟩ := isq_facts hN
      obtain ⟨_, _, _, p4, _⟩ := isq_facts ht
      have hc : cut t 1 = (t, 1) := by unfold cut; rw [if_pos ht]
      have htD : t * D ≤ 1073741824 * 1073741824 := Int.mul_le_mul p4 q2 (by omega) (by omega)
      have htD0 : 0 ≤ t * D := Int.mul_nonneg t1 (by omega)
      have hg : Nat.gcd D.natAbs (N + t * D).natAbs = 1 := by
        have h : Int.gcd D (N + t * D) = 1 := by
          rw [Int.gcd_add_mul_right_right]; exact q5
        exact h
      obtain ⟨K3, h3⟩ := make46 (n := N + t * D) (d := D) (by omega) (by omega) q1 (by omega) hg
      refine Ev.of (K1 + K2 + K3) rfl fun k hk => ?_
      rw [if_pos ⟨hN, ht⟩]
      have h1 := h1 k (by omega)
      rw [hc] at h1 ⊢
      simp only [hN, ht] at h1
      rw [R18]
      simp only [qv, PV.cell, PV.cells, List.getD_cons_succ, List.getD_cons_zero, h1, okRes, resPV, Ty.eq, PV.toBool, Bool.and_self, Bool.not_true, cond_true, cond_false, J18_3_eq, PV.toInt, Int.mul_one]
      rw [wrap_id (n := N) (by omega) (by omega), wrap_id (n := t * D) (by omega) (by omega), wrap_id (n := N + t * D) (by omega) (by omega), wrap_id (n := D) (by omega) (by omega)]
      simp only [h3 k (by omega), okRes, resPV, Ty.eq, Nat.beq_refl, cond_true, qv, PV.cell, PV.cells, List.getD_cons_succ, List.getD_cons_zero]
    · have hc : cut t 1 = (0, 0) := by unfold cut; rw [if_neg ht]
      refine Ev.of (K1 + K2) rfl fun k hk => ?_
      rw [if_neg (fun h => ht h.2)]
      have h1 := h1 k (by omega)
      rw [hc] at h1 ⊢
      simp only [isq_zero, Bool.and_false] at h1
      rw [R18]
      simp only [qv, PV.cell, PV.cells, List.getD_cons_succ, List.getD_cons_zero, h1, h2 k (by omega), okRes, resPV, Ty.eq, Nat.beq_refl, PV.toBool, Bool.not_false, cond_true, cond_false]
  · have hN' : isq N D = false := by simpa using hN
    refine Ev.of (K1 + K2) rfl fun k hk => ?_
    rw [if_neg (fun h => hN h.1)]
    have h1 := h1 k (by omega)
    simp only [hN', Bool.false_and] at h1
    rw [R18]
    simp only [qv, PV.cell, PV.cells, List.getD_cons_succ, List.getD_cons_zero, h1, h2 k (by omega), okRes, resPV, Ty.eq, Nat.beq_refl, PV.toBool, Bool.not_false, cond_true, cond_false]

end Go.V

set_option linter.unusedSimpArgs false
set_option linter.unusedVariables false
set_option maxRecDepth 100000
namespace Go.V
open Go.Proofs

theorem shl2i {E : Int} (h0 : 0 ≤ E) (h : E ≤ 60) : IntKind.i64.wrap (2 * 2 ^ min (IntKind.u64.wrap E).toNat 64) = ((2 * 2 ^ E.toNat : Nat) : Int) := by
  rw [uwrap_id (n := E) (by omega) (by omega), Nat.min_eq_left (by omega)]
  have : 2 ^ E.toNat ≤ 2 ^ 60 := Nat.pow_le_pow_right (by decide) (by omega)
  have e : (2 : Int) ^ E.toNat = ((2 ^ E.toNat : Nat) : Int) := by simp
  rw [e]
  generalize 2 ^ E.toNat = q at this
  rw [wrap_id (by omega) (by omega)]
  omega

section
variable {kind round over : ByteArray} {I F : Int}

theorem is8_grid (hk : isFix kind) (hv : Ev 16 [.pv (.st 23) (fv kind I F round over)] [.pv .bool (.bool true)]) (hI : 0 ≤ I) (hF : 0 ≤ F) (hIF : I + F ≤ 30) {k : Int}
    (h0 : -((2 ^ (I + F).toNat : Nat) : Int) ≤ k) (h1 : k < ((2 ^ (I + F).toNat : Nat) : Int)) :
    Ev 8 [.pv (.st 23) (fv kind I F round over), .pv (.st 25) (qv (mk k (2 ^ F.toNat : Nat)))] [.pv .bool (.bool true)] := by
  have ht : 2 ^ (I + F).toNat ≤ 2 ^ 30 := Nat.pow_le_pow_right (by decide) (by omega)
  obtain ⟨g1, g2⟩ := mk_grid (k := k) (e := F.toNat) (by omega) (by omega) (by omega)
  obtain ⟨d1, _, _, _, _⟩ := isq_facts g1
  have hK := Kof_exact (round := round) (F := F) d1 g2
  obtain ⟨K1, e1⟩ := hv
  obtain ⟨K2, e2⟩ := is35 (n := (mk k (2 ^ F.toNat : Nat)).1) (d := (mk k (2 ^ F.toNat : Nat)).2)
  obtain ⟨K3, e3⟩ := fit6_in (round := round) (over := over) hk ⟨K1, e1⟩ hI hF hIF g1 (by rw [hK]; exact h0) (by rw [hK]; exact h1)
  rw [hK] at e3
  refine Ev.of (K1 + K2 + K3) rfl fun k' hk' => ?_
  have e1 := e1 k' (by omega)
  have e2 := e2 k' (by omega)
  have e3 := e3 k' (by omega)
  rw [g1] at e2
  simp only [fv, qv] at e1 e2 e3 ⊢
  rw [R8]
  simp only [PV.cell, PV.cells, List.getD_cons_succ, List.getD_cons_zero, e1, e2, e3, okRes, resPV, Ty.eq, Nat.beq_refl, PV.toBool, cond_true, PV.toInt]
  rw [eqI_t rfl, eqI_t rfl]; rfl

theorem value19 (hk : isFix kind) (hv : Ev 16 [.pv (.st 23) (fv kind I F round over)] [.pv .bool (.bool true)]) (hI : 0 ≤ I) (hF : 0 ≤ F) (hIF : I + F ≤ 30) (code : Int) :
    (Ev 19 [.pv (.st 23) (fv kind I F round over), .pv (.int .i64) (.int .i64 code)] [.pv (.st 25) (qv (0, 0)), .pv (.int .i64) (.int .i64 2)]) ∨
    (0 ≤ code ∧ code < ((2 * 2 ^ (I + F).toNat : Nat) : Int) ∧ Ev 19 [.pv (.st 23) (fv kind I F round over), .pv (.int .i64) (.int .i64 code)]
      [.pv (.st 25) (qv (mk (if ((2 ^ (I + F).toNat : Nat) : Int) ≤ code then code - ((2 * 2 ^ (I + F).toNat : Nat) : Int) else code) (2 ^ F.toNat : Nat))), .pv (.int .i64) (.int .i64 0)]) := by
  have hkk := hk
  unfold isFix at hkk
  have ht : 2 ^ (I + F).toNat ≤ 2 ^ 30 := Nat.pow_le_pow_right (by decide) (by omega)
  have ht0 : 0 < 2 ^ (I + F).toNat := Nat.pow_pos (by decide)
  obtain ⟨K1, e1⟩ := hv
  have u0 : ltI (IntKind.u64.wrap (IntKind.i64.wrap (I + F))) 0 = false := by
    rw [wrap_id (n := I + F) (by omega) (by omega), uwrap_id (n := I + F) (by omega) (by omega), ltI_f (by omega)]
  have w2 : IntKind.i64.wrap (2 * 2 ^ min (IntKind.u64.wrap (IntKind.i64.wrap (I + F))).toNat 64) = ((2 * 2 ^ (I + F).toNat : Nat) : Int) := by
    rw [wrap_id (n := I + F) (by omega) (by omega)]; exact shl2i (by omega) (by omega)
  have w1 : IntKind.i64.wrap (1 * 2 ^ min (IntKind.u64.wrap (IntKind.i64.wrap (I + F))).toNat 64) = ((2 ^ (I + F).toNat : Nat) : Int) := by
    rw [wrap_id (n := I + F) (by omega) (by omega)]; exact shl1i (by omega) (by omega)
  simp only [fv] at e1 ⊢
  by_cases c1 : code < 0
  · left
    refine Ev.of K1 rfl fun k hk' => ?_
    rw [R19]
    simp only [PV.cell, PV.cells, List.getD_cons_succ, List.getD_cons_zero, e1 k hk', okRes, resPV, Ty.eq, PV.toBool, PV.toStr, PV.toInt, hkk, Bool.not_true, cond_true, cond_false, J19_2_eq]
    rw [ltI_t c1]; rfl
  · by_cases c2 : ((2 * 2 ^ (I + F).toNat : Nat) : Int) ≤ code
    · left
      refine Ev.of K1 rfl fun k hk' => ?_
      rw [R19]
      simp only [PV.cell, PV.cells, List.getD_cons_succ, List.getD_cons_zero, e1 k hk', okRes, resPV, Ty.eq, PV.toBool, PV.toStr, PV.toInt, hkk, Bool.not_true, cond_true, cond_false, J19_2_eq, u0, w2]
      rw [ltI_f (by omega), leI_t c2]; rfl
    · right
      refine ⟨by omega, by omega, ?_⟩
      by_cases c3 : ((2 ^ (I + F).toNat : Nat) : Int) ≤ code
      · rw [if_pos c3]
        obtain ⟨K2, e2⟩ := value40 (kind := kind) (round := round) (over := over) (I := I) (k := code - ((2 * 2 ^ (I + F).toNat : Nat) : Int)) hF (by omega) (by omega) (by omega)
        simp only [fv] at e2
        refine Ev.of (K1 + K2) rfl fun k hk' => ?_
        rw [R19]
        simp only [PV.cell, PV.cells, List.getD_cons_succ, List.getD_cons_zero, e1 k (by omega), okRes, resPV, Ty.eq, PV.toBool, PV.toStr, PV.toInt, hkk, Bool.not_true, cond_true, cond_false, J19_2_eq, J19_3_eq, J19_6_eq, J19_6s1_eq, u0, w2, w1]
        rw [ltI_f (show (0 : Int) ≤ code by omega), leI_f (show code < ((2 * 2 ^ (I + F).toNat : Nat) : Int) by omega), leI_t c3, wrap_id (n := code - ((2 * 2 ^ (I + F).toNat : Nat) : Int)) (by omega) (by omega)]
        simp only [cond_true, cond_false, e2 k (by omega), okRes, resPV, Ty.eq, Nat.beq_refl, qv, PV.cell, PV.cells, List.getD_cons_succ, List.getD_cons_zero]
      · rw [if_neg c3]
        obtain ⟨K2, e2⟩ := value40 (kind := kind) (round := round) (over := over) (I := I) (k := code) hF (by omega) (by omega) (by omega)
        simp only [fv] at e2
        refine Ev.of (K1 + K2) rfl fun k hk' => ?_
        rw [R19]
        simp only [PV.cell, PV.cells, List.getD_cons_succ, List.getD_cons_zero, e1 k (by omega), okRes, resPV, Ty.eq, PV.toBool, PV.toStr, PV.toInt, hkk, Bool.not_true, cond_true, cond_false, J19_2_eq, J19_3_eq, J19_6_eq, J19_6s1_eq, u0, w2, w1]
        rw [ltI_f (show (0 : Int) ≤ code by omega), leI_f (show code < ((2 * 2 ^ (I + F).toNat : Nat) : Int) by omega), leI_f (by omega)]
        simp only [cond_true, cond_false, e2 k (by omega), okRes, resPV, Ty.eq, Nat.beq_refl, qv, PV.cell, PV.cells, List.getD_cons_succ, List.getD_cons_zero]

theorem code20 (hk : isFix kind) (hv : Ev 16 [.pv (.st 23) (fv kind I F round over)] [.pv .bool (.bool true)]) (hI : 0 ≤ I) (hF : 0 ≤ F) (hIF : I + F ≤ 30) {k : Int}
    (h0 : -((2 ^ (I + F).toNat : Nat) : Int) ≤ k) (h1 : k < ((2 ^ (I + F).toNat : Nat) : Int)) :
    Ev 20 [.pv (.st 23) (fv kind I F round over), .pv (.st 25) (qv (mk k (2 ^ F.toNat : Nat)))] [.pv (.int .i64) (.int .i64 (if k < 0 then k + ((2 * 2 ^ (I + F).toNat : Nat) : Int) else k)), .pv (.int .i64) (.int .i64 0)] := by
  have hkk := hk
  unfold isFix at hkk
  have ht : 2 ^ (I + F).toNat ≤ 2 ^ 30 := Nat.pow_le_pow_right (by decide) (by omega)
  obtain ⟨g1, g2⟩ := mk_grid (k := k) (e := F.toNat) (by omega) (by omega) (by omega)
  obtain ⟨d1, d2, d3, d4, _⟩ := isq_facts g1
  obtain ⟨K2, e2⟩ := is8_grid (round := round) (over := over) hk hv hI hF hIF h0 h1
  obtain ⟨K1, e1⟩ := hv
  have u0 : ltI (IntKind.u64.wrap (IntKind.i64.wrap (I + F))) 0 = false := by
    rw [wrap_id (n := I + F) (by omega) (by omega), uwrap_id (n := I + F) (by omega) (by omega), ltI_f (by omega)]
  have w2 : IntKind.i64.wrap (2 * 2 ^ min (IntKind.u64.wrap (IntKind.i64.wrap (I + F))).toNat 64) = ((2 * 2 ^ (I + F).toNat : Nat) : Int) := by
    rw [wrap_id (n := I + F) (by omega) (by omega)]; exact shl2i (by omega) (by omega)
  have w1 : IntKind.i64.wrap (1 * 2 ^ min (IntKind.u64.wrap F).toNat 64) = ((2 ^ F.toNat : Nat) : Int) := shl1i hF (by omega)
  generalize mk k (2 ^ F.toNat : Nat) = p at *
  obtain ⟨a, b⟩ := p
  simp only at g2 d1 d2 d3 d4
  have hb1 : k * b ≤ 1073741824 * 1073741824 := by
    rcases Int.le_total 0 k with h | h
    · exact Int.mul_le_mul (by omega) d2 (by omega) (by omega)
    · have := Int.mul_nonpos_of_nonpos_of_nonneg h (show 0 ≤ b by omega)
      omega
  have hb2 : -(1073741824 * 1073741824) ≤ k * b := by
    rcases Int.le_total 0 k with h | h
    · have := Int.mul_nonneg h (show 0 ≤ b by omega); omega
    · have h' : -k * b ≤ 1073741824 * 1073741824 := Int.mul_le_mul (by omega) d2 (by omega) (by omega)
      rw [Int.neg_mul] at h'; omega
  have hdiv : (k * b).tdiv b = k := Int.mul_tdiv_cancel _ (by omega)
  simp only [fv, qv] at e1 e2 ⊢
  refine Ev.of (K1 + K2) rfl fun k' hk' => ?_
  rw [R20]
  simp only [PV.cell, PV.cells, List.getD_cons_succ, List.getD_cons_zero, e1 k' (by omega), e2 k' (by omega), okRes, resPV, Ty.eq, PV.toBool, PV.toStr, PV.toInt, hkk, Bool.not_true, cond_true, cond_false, J20_5_eq, J20_8_eq, J20_8s1_eq, u0, w2, w1, g2]
  rw [wrap_id (n := k * b) (by omega) (by omega), hdiv, wrap_id (n := k) (by omega) (by omega), uwrap_id (n := F) (by omega) (by omega), ltI_f hF, eqI_f (show b ≠ 0 by omega)]
  simp only [cond_false]
  by_cases hk0 : k < 0
  · rw [ltI_t hk0, if_pos hk0, wrap_id (n := k + ((2 * 2 ^ (I + F).toNat : Nat) : Int)) (by omega) (by omega)]; rfl
  · rw [ltI_f (by omega), if_neg hk0]; rfl
end
end Go.V

set_option linter.unusedSimpArgs false
set_option linter.unusedVariables false
set_option maxRecDepth 100000
namespace Go.V
open Go.Proofs

theorem tys2530 : List.map (tyOf Tryd.prog) [25, 30] = [.st 25, .int .i64] := by kernel_rfl
theorem tys330 : List.map (tyOf Tryd.prog) [3, 30] = [.int .i64, .int .i64] := by kernel_rfl

theorem j4_11 : ∃ K, ∀ k, K ≤ k → J4_11 gate1 (EG k) k = some ([.pv .bool (.bool true)], []) := by
  obtain ⟨K, h⟩ := awake_ev
  refine ⟨K, fun k hk => ?_⟩
  rw [J4_11_eq]
  simp only [h k hk, okRes, resPV, Ty.eq, cond_true]

section
variable {kind round over : ByteArray} {I F : Int}

theorem j4_6 (hk : isFix kind) (hv : Ev 16 [.pv (.st 23) (fv kind I F round over)] [.pv .bool (.bool true)]) (hI : 0 ≤ I) (hF : 0 ≤ F) (hIF : I + F ≤ 30) (code : Int) :
    ∃ K, ∀ k, K ≤ k → J4_6 gate1 (EG k) k (.int .i64 code) (.str kind) (.int .i64 I) (.int .i64 F) (.str round) (.str over) = some ([.pv .bool (.bool true)], []) := by
  have ht : 2 ^ (I + F).toNat ≤ 2 ^ 30 := Nat.pow_le_pow_right (by decide) (by omega)
  have ht0 : 0 < 2 ^ (I + F).toNat := Nat.pow_pos (by decide)
  obtain ⟨K0, e0⟩ := j4_11
  rcases value19 (round := round) (over := over) hk hv hI hF hIF code with ⟨K1, e1⟩ | ⟨c0, c1, K1, e1⟩
  · refine ⟨K0 + K1, fun k hkk => ?_⟩
    have e1 := e1 k (by omega)
    simp only [fv] at e1
    rw [J4_6_eq]
    simp only [e1, tys2530, tys330, okMany, okTup, Ty.eq, decide_true, Nat.beq_refl, Bool.and_true, Bool.true_and, resAt, nth, aoPV, PV.toInt, e0 k (by omega)]
    rw [eqI_f (show (2 : Int) ≠ 0 by omega)]; rfl
  · generalize hkv : (if ((2 ^ (I + F).toNat : Nat) : Int) ≤ code then code - ((2 * 2 ^ (I + F).toNat : Nat) : Int) else code) = kv at e1
    have hb : -((2 ^ (I + F).toNat : Nat) : Int) ≤ kv ∧ kv < ((2 ^ (I + F).toNat : Nat) : Int) ∧ (if kv < 0 then kv + ((2 * 2 ^ (I + F).toNat : Nat) : Int) else kv) = code := by
      subst hkv
      by_cases hc : ((2 ^ (I + F).toNat : Nat) : Int) ≤ code
      · rw [if_pos hc]; refine ⟨by omega, by omega, ?_⟩; rw [if_pos (by omega)]; omega
      · rw [if_neg hc]; refine ⟨by omega, by omega, ?_⟩; rw [if_neg (by omega)]
    obtain ⟨b1, b2, b3⟩ := hb
    obtain ⟨K2, e2⟩ := code20 (round := round) (over := over) hk hv hI hF hIF b1 b2
    rw [b3] at e2
    refine ⟨K0 + K1 + K2, fun k hkk => ?_⟩
    have e1 := e1 k (by omega)
    have e2 := e2 k (by omega)
    simp only [fv, qv] at e1 e2
    rw [J4_6_eq]
    simp only [e1, e2, tys2530, tys330, okMany, okTup, Ty.eq, decide_true, Nat.beq_refl, Bool.and_true, Bool.true_and, resAt, nth, aoPV, PV.toInt, e0 k (by omega), PV.cell, PV.cells, List.getD_cons_succ, List.getD_cons_zero]
    rw [eqI_t (show (0 : Int) = 0 from rfl), eqI_t (show code = code from rfl)]; rfl

theorem over_wrap {over : ByteArray} (h : (over.data.toList == (ByteArray.mk #[119, 114, 97, 112]).data.toList) = true) : over = wrapS := by
  have h := eq_of_beq h
  cases over with
  | mk data =>
    have : data = #[119, 114, 97, 112] := Array.toList_inj.1 h
    subst this; rfl

theorem turns_ev (N D code : Int) : Ev 4 [.pv (.st 23) (fv kind I F round over), .pv (.st 25) (.agg [.int .i64 N, .int .i64 D]), .pv (.int .i64) (.int .i64 code)] [.pv .bool (.bool true)] := by
  obtain ⟨K0, e0⟩ := j4_11
  cases hk : (kind.data.toList == (ByteArray.mk #[102, 105, 120]).data.toList) with
  | false =>
    refine Ev.of K0 rfl fun k hkk => ?_
    rw [R4]
    simp only [fv, PV.cell, PV.cells, List.getD_cons_succ, List.getD_cons_zero, PV.toStr, hk, e0 k hkk, cond_false]
  | true =>
    obtain ⟨b, hv, hb⟩ := valid16 (kind := kind) (round := round) (over := over) (I := I) (F := F) hk
    cases b with
    | false =>
      obtain ⟨K1, e1⟩ := hv
      refine Ev.of (K0 + K1) rfl fun k hkk => ?_
      have e1 := e1 k (by omega)
      simp only [fv] at e1 ⊢
      rw [R4]
      simp only [PV.cell, PV.cells, List.getD_cons_succ, List.getD_cons_zero, PV.toStr, PV.toBool, hk, e1, e0 k (by omega), okRes, resPV, Ty.eq, cond_true, cond_false]
    | true =>
      obtain ⟨⟨hI, hF, _, _, hIF⟩, hround⟩ := hb rfl
      have ht1 : 2 ^ (I + 1).toNat ≤ 2 ^ 31 := Nat.pow_le_pow_right (by decide) (by omega)
      have ht10 : 0 < 2 ^ (I + 1).toNat := Nat.pow_pos (by decide)
      obtain ⟨K6, e6⟩ := j4_6 (round := round) (over := over) hk hv hI hF hIF code
      obtain ⟨K2, e2⟩ := whole17 (t := ((2 ^ (I + 1).toNat : Nat) : Int)) (by omega) (by omega)
      obtain ⟨K3, e3⟩ := add18 (N := N) (D := D) (t := ((2 ^ (I + 1).toNat : Nat) : Int)) (by omega) (by omega)
      have wT : IntKind.i64.wrap (1 * 2 ^ min (IntKind.i64.wrap (I + 1)).toNat 64) = ((2 ^ (I + 1).toNat : Nat) : Int) := by
        have := shl1i (F := I + 1) (by omega) (by omega)
        rw [uwrap_id (n := I + 1) (by omega) (by omega)] at this
        rw [wrap_id (n := I + 1) (by omega) (by omega)]; exact this
      have u1 : ltI (IntKind.i64.wrap (I + 1)) 0 = false := by rw [wrap_id (n := I + 1) (by omega) (by omega), ltI_f (by omega)]
      generalize hp : (if isq N D = true ∧ isq ((2 ^ (I + 1).toNat : Nat) : Int) 1 = true then cut (N + ((2 ^ (I + 1).toNat : Nat) : Int) * D) D else (0, 0)) = p at e3
      obtain ⟨K4, e4⟩ := is7 (n := p.1) (d := p.2)
      -- the way to the join
      have way : ∀ (hcond : (over.data.toList == (ByteArray.mk #[119, 114, 97, 112]).data.toList) = true → (round.data.toList == (ByteArray.mk #[122, 101, 114, 111]).data.toList) = false → isq p.1 p.2 = true →
          ∃ w : Int × Int, Ev 6 [.pv (.st 23) (fv kind I F round over), .pv (.st 25) (qv p)] [.pv (.st 25) (qv w)] ∧ Ev 6 [.pv (.st 23) (fv kind I F round over), .pv (.st 25) (.agg [.int .i64 N, .int .i64 D])] [.pv (.st 25) (qv w)]),
          Ev 4 [.pv (.st 23) (fv kind I F round over), .pv (.st 25) (.agg [.int .i64 N, .int .i64 D]), .pv (.int .i64) (.int .i64 code)] [.pv .bool (.bool true)] := by
        intro hcond
        obtain ⟨K1, e1⟩ := hv
        cases ho : (over.data.toList == (ByteArray.mk #[119, 114, 97, 112]).data.toList) with
        | false =>
          refine Ev.of (K0 + K1 + K2 + K3 + K4 + K6) rfl fun k hkk => ?_
          have e1 := e1 k (by omega)
          have e2 := e2 k (by omega)
          have e3 := e3 k (by omega)
          simp only [fv, qv] at e1 e2 e3 ⊢
          rw [R4]
          simp only [PV.cell, PV.cells, List.getD_cons_succ, List.getD_cons_zero, PV.toStr, PV.toBool, PV.toInt, hk, e1, J4_2_eq, okRes, resPV, Ty.eq, Nat.beq_refl, cond_true, cond_false, u1, wT, e2, e3, ho, e6 k (by omega)]
        | true =>
          cases hz : (round.data.toList == (ByteArray.mk #[122, 101, 114, 111]).data.toList) with
          | true =>
            refine Ev.of (K0 + K1 + K2 + K3 + K4 + K6) rfl fun k hkk => ?_
            have e1 := e1 k (by omega)
            have e2 := e2 k (by omega)
            have e3 := e3 k (by omega)
            simp only [fv, qv] at e1 e2 e3 ⊢
            rw [R4]
            simp only [PV.cell, PV.cells, List.getD_cons_succ, List.getD_cons_zero, PV.toStr, PV.toBool, PV.toInt, hk, e1, J4_2_eq, okRes, resPV, Ty.eq, Nat.beq_refl, cond_true, cond_false, u1, wT, e2, e3, ho, hz, Bool.not_true, e6 k (by omega)]
          | false =>
            cases hq : isq p.1 p.2 with
            | false =>
              refine Ev.of (K0 + K1 + K2 + K3 + K4 + K6) rfl fun k hkk => ?_
              have e1 := e1 k (by omega)
              have e2 := e2 k (by omega)
              have e3 := e3 k (by omega)
              have e4 := e4 k (by omega)
              rw [hq] at e4
              simp only [fv, qv] at e1 e2 e3 e4 ⊢
              rw [R4]
              simp only [PV.cell, PV.cells, List.getD_cons_succ, List.getD_cons_zero, PV.toStr, PV.toBool, PV.toInt, hk, e1, J4_2_eq, okRes, resPV, Ty.eq, Nat.beq_refl, cond_true, cond_false, u1, wT, e2, e3, e4, ho, hz, Bool.not_false, e6 k (by omega)]
            | true =>
              obtain ⟨w, ⟨K7, e7⟩, ⟨K8, e8⟩⟩ := hcond ho hz hq
              refine Ev.of (K0 + K1 + K2 + K3 + K4 + K6 + K7 + K8) rfl fun k hkk => ?_
              have e1 := e1 k (by omega)
              have e2 := e2 k (by omega)
              have e3 := e3 k (by omega)
              have e4 := e4 k (by omega)
              have e7 := e7 k (by omega)
              have e8 := e8 k (by omega)
              rw [hq] at e4
              simp only [fv, qv] at e1 e2 e3 e4 e7 e8 ⊢
              rw [R4]
              simp only [PV.cell, PV.cells, List.getD_cons_succ, List.getD_cons_zero, PV.toStr, PV.toBool, PV.toInt, hk, e1, J4_2_eq, okRes, resPV, Ty.eq, Nat.beq_refl, cond_true, cond_false, u1, wT, e2, e3, e4, e7, e8, ho, hz, Bool.not_false, e6 k (by omega)]
              rw [eqI_t (show w.1 = w.1 from rfl), eqI_t (show w.2 = w.2 from rfl)]; rfl
      refine way fun ho hz hq => ?_
      have hov := over_wrap ho
      subst hov
      by_cases hc : isq N D = true ∧ isq ((2 ^ (I + 1).toNat : Nat) : Int) 1 = true
      · rw [if_pos hc] at hp
        unfold cut at hp
        by_cases hq2 : isq (N + ((2 ^ (I + 1).toNat : Nat) : Int) * D) D = true
        · rw [if_pos hq2] at hp
          subst hp
          obtain ⟨d1, _, _, _, _⟩ := isq_facts hc.1
          have f1 := fit6_wrap (round := round) hk hv hI hF hIF hq2
          have f2 := fit6_wrap (round := round) hk hv hI hF hIF hc.1
          rw [Kof_turn d1 hI hF hz hround] at f1
          exact ⟨_, f1, f2⟩
        · rw [if_neg hq2] at hp
          subst hp
          rw [isq_zero] at hq; cases hq
      · rw [if_neg hc] at hp
        subst hp
        rw [isq_zero] at hq; cases hq
end
end Go.V
